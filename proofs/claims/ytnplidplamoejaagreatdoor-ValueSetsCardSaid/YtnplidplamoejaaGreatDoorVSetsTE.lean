/- Part of the proof that litmuslaw11.ValueSets answers true for every input. -/
import Derived.Test.YtnplidplamoejaaGreatDoorVSetsTD
import Derived.RowKit3
import Derived.Lib.Bytealg
set_option linter.unusedVariables false
set_option linter.unusedSimpArgs false
set_option linter.unnecessarySimpa false
namespace Go.Sim

open Classical in
noncomputable def least (p : Nat → Prop) : Nat := if h : ∃ k, p k ∧ ∀ j, p j → k ≤ j then h.choose else 0
theorem least_spec {p : Nat → Prop} (h : ∃ k, p k) : p (least p) ∧ ∀ j, p j → least p ≤ j := by
  have : ∃ k, p k ∧ ∀ j, p j → k ≤ j := by
    obtain ⟨k, hk⟩ := h
    induction k using Nat.strongRecOn with
    | _ k ih =>
      by_cases hj : ∃ j, j < k ∧ p j
      · obtain ⟨j, hlt, hp⟩ := hj
        exact ih j hlt hp
      · exact ⟨k, hk, fun j hp => Nat.le_of_not_lt fun hlt => hj ⟨j, hlt, hp⟩⟩
  unfold least
  rw [dif_pos this]
  exact this.choose_spec
theorem wpIn_loop_fuel {F : Fence} {n : Nat} {P : Program} {Q : Exit → Act → World → Prop} {a : Act} {w : World} {c : Code} (I : Nat → Act → World → Prop) (k : Nat) (h₀ : I k a w)
    (round : ∀ k a w, I k a w → c.wpIn F n P (Exit.then (fun a' w' => ∃ k', k' < k ∧ I k' a' w') Q) a w) : (Code.loop c).wpIn F n P Q a w := by
  refine wpIn_loop (fun a w => ∃ k, I k a w) (fun a w => least fun k => I k a w) ⟨k, h₀⟩ (fun a w h => ?_)
  obtain ⟨h1, h2⟩ := least_spec h
  refine wpIn_mono (round _ a w h1) (fun e a' w' hq => ?_)
  cases e with
  | normal =>
    obtain ⟨k', hlt, hI⟩ := hq
    exact ⟨⟨k', hI⟩, Nat.lt_of_le_of_lt ((least_spec ⟨k', hI⟩).2 k' hI) hlt⟩
  | _ => exact hq

section
variable {E : Env} {call : Caller} {A : Ann} {g g0 : Gh} {B : Nat → Nat} {w w0 : World} {a : Act} {st st' : Store} {fr fr' : AFr} {rd : Option Nat} {rb : Bool}

theorem rep_bool {v : Value} {b : Bool} (h : Rep g v (.bool b)) : v = .bool b := by cases h; rfl
theorem loop_wp {body : AFr → Store → Option (AEx × AFr × Store)} {c : Code} {ex : AEx} {Q : Exit → Act → World → Prop}
    (hb : ∀ fr st ex fr' st', body fr st = some (ex, fr', st') → ∀ g B w a, FS E A g0 w0 g B st w fr a → ∀ Q, Goes E A g0 w0 st' fr' (Q (exitOf ex)) → c.wpIn (FW rd) 0 E.P Q a w)
    (k : Nat) (h : aloop body k fr st = some (ex, fr', st')) (hfs : FS E A g0 w0 g B st w fr a) (hk : Goes E A g0 w0 st' fr' (Q (exitOf ex))) : (Code.loop c).wpIn (FW rd) 0 E.P Q a w := by
  refine wpIn_loop_fuel (fun k a w => ∃ fr1 st1 g B, aloop body k fr1 st1 = some (ex, fr', st') ∧ FS E A g0 w0 g B st1 w fr1 a) k ⟨fr, st, g, B, h, hfs⟩ ?_
  rintro k a w ⟨fr1, st1, g, B, h1, h2⟩
  cases k with
  | zero => simp [aloop] at h1
  | succ k =>
    simp only [aloop] at h1
    cases hr : body fr1 st1 with
    | none => simp [hr] at h1
    | some r =>
      obtain ⟨e2, fr2, st2⟩ := r
      rw [hr] at h1
      cases e2 with
      | normal => exact hb _ _ _ _ _ hr g B w a h2 _ (fun g B w a' h4 => ⟨k, Nat.lt_succ_self k, fr2, st2, g, B, h1, h4⟩)
      | exit id =>
        simp only [Option.some.injEq, Prod.mk.injEq] at h1
        obtain ⟨rfl, rfl, rfl⟩ := h1
        exact hb _ _ _ _ _ hr g B w a h2 _ hk
      | ret =>
        simp only [Option.some.injEq, Prod.mk.injEq] at h1
        obtain ⟨rfl, rfl, rfl⟩ := h1
        exact hb _ _ _ _ _ hr g B w a h2 _ hk
theorem acode_wp (hcall : CallOk E call) (hmix : E.P.follows .mixedOrders = true) (hname : ∀ (f : Nat) fn, E.P.funcs[f]? = some fn → fn.body ≠ none → fn.name ≠ "runtime.NumGoroutine") {f n : Nat} (hrd : rb = false → rd = none) : ∀ (c : Code) (fr : AFr) (st : Store) (ex : AEx) (fr' : AFr) (st' : Store), acode E call A f n rb c fr st = some (ex, fr', st') →
    ∀ g B w a, FS E A g0 w0 g B st w fr a → ∀ Q, Goes E A g0 w0 st' fr' (Q (exitOf ex)) → c.wpIn (FW rd) 0 E.P Q a w := by
  intro c
  induction c with
  | skip =>
    intro fr st ex fr' st' h g B w a hfs Q hk
    simp only [acode, Option.some.injEq, Prod.mk.injEq] at h
    obtain ⟨rfl, rfl, rfl⟩ := h
    exact wpIn_skip (hk g B w a hfs)
  | label l =>
    intro fr st ex fr' st' h g B w a hfs Q hk
    simp only [acode, Option.some.injEq, Prod.mk.injEq] at h
    obtain ⟨rfl, rfl, rfl⟩ := h
    exact wpIn_label (hk g B w a hfs)
  | region id ops draw =>
    intro fr st ex fr' st' h g B w a hfs Q hk
    cases draw with
    | false =>
      simp only [acode] at h
      split at h
      · rename_i fr1 st1 h1
        simp only [Option.some.injEq, Prod.mk.injEq] at h
        obtain ⟨rfl, rfl, rfl⟩ := h
        exact aops_wp hcall h1 hfs hk
      · cases h
    | true =>
      simp only [acode] at h
      split at h
      · rename_i fr1 st1 h1
        simp only [Option.some.injEq, Prod.mk.injEq] at h
        obtain ⟨rfl, rfl, rfl⟩ := h
        exact adraw_wp hcall hmix h1 hfs hk
      · cases h
  | seq x y ihx ihy =>
    intro fr st ex fr' st' h g B w a hfs Q hk
    simp only [acode] at h
    cases hr : acode E call A f n rb x fr st with
    | none => simp [hr] at h
    | some r =>
      obtain ⟨e1, fr1, st1⟩ := r
      rw [hr] at h
      refine wpIn_seq (ihx fr st e1 fr1 st1 hr g B w a hfs _ ?_)
      cases e1 with
      | normal => exact fun g B w a' h1 => ihy fr1 st1 ex fr' st' h g B w a' h1 Q hk
      | exit id =>
        simp only [Option.some.injEq, Prod.mk.injEq] at h
        obtain ⟨rfl, rfl, rfl⟩ := h
        exact hk
      | ret =>
        simp only [Option.some.injEq, Prod.mk.injEq] at h
        obtain ⟨rfl, rfl, rfl⟩ := h
        exact hk
  | cond c x y ihx ihy =>
    intro fr st ex fr' st' h g B w a hfs Q hk
    simp only [acode] at h
    split at h
    · rename_i hc
      have := aeval_ok hfs.fr hfs.glob hc
      have hv : a.eval c = .bool true := rep_bool this
      exact wpIn_cond_true hv (ihx fr st ex fr' st' h g B w a hfs Q hk)
    · rename_i hc
      have := aeval_ok hfs.fr hfs.glob hc
      have hv : a.eval c = .bool false := rep_bool this
      exact wpIn_cond_false hv (ihy fr st ex fr' st' h g B w a hfs Q hk)
    · cases h
  | block id body ih =>
    intro fr st ex fr' st' h g B w a hfs Q hk
    simp only [acode] at h
    cases hr : acode E call A f n rb body fr st with
    | none => simp [hr] at h
    | some r =>
      obtain ⟨e1, fr1, st1⟩ := r
      rw [hr] at h
      refine wpIn_block (ih fr st e1 fr1 st1 hr g B w a hfs _ ?_)
      cases e1 with
      | normal =>
        simp only [Option.some.injEq, Prod.mk.injEq] at h
        obtain ⟨rfl, rfl, rfl⟩ := h
        exact hk
      | ret =>
        simp only [Option.some.injEq, Prod.mk.injEq] at h
        obtain ⟨rfl, rfl, rfl⟩ := h
        exact hk
      | exit i =>
        simp only at h
        by_cases hi : i = id
        · subst hi
          simp only [beq_self_eq_true, if_true, Option.some.injEq, Prod.mk.injEq] at h
          obtain ⟨rfl, rfl, rfl⟩ := h
          intro g B w a' h1
          simp only [exitOf, Exit.inBlock, if_true]
          exact hk g B w a' h1
        · have hb : (i == id) = false := by simpa using hi
          simp only [hb, Bool.false_eq_true, if_false, Option.some.injEq, Prod.mk.injEq] at h
          obtain ⟨rfl, rfl, rfl⟩ := h
          intro g B w a' h1
          simp only [exitOf, Exit.inBlock, if_neg hi]
          exact hk g B w a' h1
  | loop body ih =>
    intro fr st ex fr' st' h g B w a hfs Q hk
    simp only [acode] at h
    exact loop_wp ih n h hfs hk
  | exit id =>
    intro fr st ex fr' st' h g B w a hfs Q hk
    simp only [acode, Option.some.injEq, Prod.mk.injEq] at h
    obtain ⟨rfl, rfl, rfl⟩ := h
    exact wpIn_exit (hk g B w a hfs)
  | ret =>
    intro fr st ex fr' st' h g B w a hfs Q hk
    simp only [acode, Option.some.injEq, Prod.mk.injEq] at h
    obtain ⟨rfl, rfl, rfl⟩ := h
    exact wpIn_ret (hk g B w a hfs)
  | rangeFunc it ps assign body _ _ =>
    intro fr st ex fr' st' h g B w a hfs Q hk
    simp only [acode] at h
    cases rb with
    | true => simp at h
    | false =>
      have := hrd rfl
      subst this
      simp only [Bool.false_eq_true, if_false] at h
      split at h
      · rename_i k first cap hc
        split at h
        · rename_i hent
          split at h
          · rename_i r hr
            exact range_wp hcall hname hc hent hr h hfs hk
          · cases h
        · cases h
      · cases h
  | _ =>
    intro fr st ex fr' st' h
    simp [acode] at h

theorem rep_ptr {v : Value} {o off : Nat} (h : Rep g v (.ptr o off)) : ∃ b, v = .pointer (some ⟨b, off, none⟩) ∧ Live g b o := by
  cases h with
  | ptr b off o h => exact ⟨b, rfl, h⟩
def resSem (tmps : Array Value) : ResultVar → Sem Value
  | .tmp t => pure (tmps.getD t undef)
  | .cell c t => do loadVar t (← asAddr (tmps.getD c undef))
theorem results_eq (fn : Func) (tmps : Array Value) : results fn tmps = (do let vs ← fn.results.mapM (resSem tmps); pure (if h : vs.size = 1 then vs[0] else .tuple vs)) := rfl
theorem aresult_ok (h : FS E A g0 w0 g B st w fr a) {r : ResultVar} {x : AV} (hr : aresult E A fr st r = some x) :
    ∃ v, (resSem a.tmps r).run E.P w = .ok v w ∧ Rep g v x := by
  cases r with
  | tmp t =>
    simp only [aresult] at hr
    split at hr
    · rename_i hb
      exact ⟨_, rfl, h.fr.tmp t x hb hr⟩
    · cases hr
  | cell c t =>
    simp only [aresult] at hr
    split at hr
    · cases hr
    · rename_i sz hsz
      split at hr
      · rename_i cs hcs
        rw [E.hL] at hsz hr
        have fin : ∀ (b o : Nat) (vs : List Value), a.tmps.getD c undef = .pointer (some ⟨b, o, none⟩) → Reps g vs cs → AllOne vs → vs.length = sz → (∀ j u, vs[j]? = some u → w.cell? ⟨b, o + j, none⟩ = some u) →
            ∃ v, (resSem a.tmps (.cell c t)).run E.P w = .ok v w ∧ Rep g v x := by
          intro b o vs hp hreps h1 hl hcell
          obtain ⟨v, hv, hrv⟩ := run_loadVar_of hsz hl hr hreps h1 hcell
          refine ⟨v, ?_, hrv⟩
          simp only [resSem, hp]
          simpa [asAddr] using hv
        split at hcs
        · rename_i b hb
          split at hcs
          · rename_i ob off bcs k1 k2 k3
            obtain ⟨k4, rfl⟩ := cut_some hcs
            have hp := h.fr.off c b off ob hb k1 k2
            obtain ⟨⟨cc, e, fz, q1, q2, q3, _, _⟩, _⟩ := h.fr.box b ob bcs (h.fr.wf c b hb) k1 k3
            have hlen := q2.length
            refine fin (B b) off ((cc.toList.drop off).take sz) hp ((q2.drop off).take sz) ((q3.drop off).take sz) (by simp only [List.length_take, List.length_drop]; omega) (fun j u hj => ?_)
            rw [List.getElem?_take] at hj
            split at hj
            · rw [List.getElem?_drop] at hj
              simp [World.cell?, q1]
              simpa using hj
            · cases hj
          · cases hcs
        · rename_i hb
          split at hcs
          · rename_i o off ho
            cases hg : st.getCells o with
            | none => simp [hg] at hcs
            | some bcs =>
              simp only [hg, Option.bind_some] at hcs
              obtain ⟨k4, rfl⟩ := cut_some hcs
              have hrep := h.fr.tmp c _ hb ho
              obtain ⟨b, hpv, hl⟩ := rep_ptr hrep
              · obtain ⟨tot, hb', hn, c2, e2, fz, vs, rest, h1, h2, h3, h4, h5, h6⟩ := h.inv.cellsAt hl hg
                have hlen := h3.length
                refine fin b off ((vs.drop off).take sz) hpv ((h3.drop off).take sz) ((h4.drop off).take sz) (by simp only [List.length_take, List.length_drop]; omega) (fun j u hj => ?_)
                rw [List.getElem?_take] at hj
                split at hj
                · rw [List.getElem?_drop] at hj
                  have : c2.toList[off + j]? = some u := by rw [h2, List.getElem?_append_left (List.getElem?_eq_some_iff.1 hj).1]; exact hj
                  simp [World.cell?, h1]
                  simpa using this
                · cases hj
          · cases hcs
      · cases hr
theorem aresults_ok (h : FS E A g0 w0 g B st w fr a) : ∀ {rs : List ResultVar} {xs : List AV}, aresults E A fr st rs = some xs →
    ∃ vs, (rs.mapM (m := Sem) (resSem a.tmps)).run E.P w = .ok vs w ∧ Reps g vs xs
  | [], xs, hr => by
    simp [aresults] at hr; subst hr
    exact ⟨[], by simp, .nil⟩
  | r :: rs, xs, hr => by
    simp only [aresults] at hr
    split at hr
    · rename_i x hx
      split at hr
      · rename_i ys hys
        injection hr with hr; subst hr
        obtain ⟨v, h1, h2⟩ := aresult_ok h hx
        obtain ⟨vs, h3, h4⟩ := aresults_ok h hys
        refine ⟨v :: vs, ?_, .cons _ _ _ _ h2 h4⟩
        simp only [List.mapM_cons, Sem.run_bind, Sem.run_pure]
        rw [h1, Result.andThen_ok, h3]
        rfl
      · cases hr
    · cases hr
/-- One value, or several. -/
def many : List AV → AV
  | [v] => v
  | vs => .tuple vs
theorem results_ok (h : FS E A g0 w0 g B st w fr a) {fn : Func} {xs : List AV} (hr : aresults E A fr st fn.results.toList = some xs) :
    ∃ v, (results fn a.tmps).run E.P w = .ok v w ∧ Rep g v (many xs) := by
  obtain ⟨vs, h1, h2⟩ := aresults_ok h hr
  have hm : (fn.results.mapM (resSem a.tmps)).run E.P w = .ok vs.toArray w := by
    rw [Array.mapM_eq_mapM_toList]
    simp only [map_eq_pure_bind, Sem.run_bind]
    rw [h1]
    rfl
  have hrun : (results fn a.tmps).run E.P w = .ok (if h : vs.toArray.size = 1 then vs.toArray[0] else .tuple vs.toArray) w := by
    rw [results_eq, Sem.run_bind, hm]
    rfl
  refine ⟨_, hrun, ?_⟩
  match vs, xs, h2 with
  | [], [], .nil => exact .tuple _ _ .nil
  | [v], [x], .cons _ _ _ _ h .nil => simpa [many] using h
  | v :: u :: vs, x :: y :: xs, hh =>
    have : ¬ ((v :: u :: vs).toArray.size = 1) := by simp
    rw [dif_neg this]
    exact .tuple _ _ hh
theorem aenter_ok {fn : Func} {args : List AV} {vals : Array Value} (wf : ∀ t b, A.base t = some b → A.base b = some b) (hargs : Reps g vals.toList args) (hi : Inv g st w) (hgl : GlobOk E g) :
    FS E A g w g (fun _ => 0) st w (aenter fn args) { tmps := vals ++ Array.replicate (fn.ntmps - vals.size) undef, defers := [] } := by
  have hlen := hargs.length
  simp at hlen
  have none_ : ∀ {t o : Nat}, (aenter fn args).offs[t]? = some (some o) → False := by
    intro t o h
    simp only [aenter] at h
    have := (List.mem_replicate.1 (List.mem_of_getElem? h)).2
    cases this
  refine ⟨⟨by simp [aenter, hlen], by simp [aenter, hlen]; omega, by simp [aenter, hlen]; omega, wf, fun t v hb hv => ?_, fun t b off ob _ h1 _ => (none_ h1).elim, fun b ob cs _ h1 _ => (none_ h1).elim, fun b b' o o' _ _ h1 _ => (none_ h1).elim⟩, hi, Adv.refl g w, hgl, trivial⟩
  simp only [aenter] at hv
  have hr : Reps g (vals ++ Array.replicate (fn.ntmps - vals.size) undef).toList (args ++ List.replicate (fn.ntmps - args.length) aundef) := by
    rw [Array.toList_append, Array.toList_replicate, hlen]
    exact hargs.append (Reps.replicate (.tuple _ _ .nil) _)
  obtain ⟨v', h1, h2⟩ := hr.get t v hv
  have : (vals ++ Array.replicate (fn.ntmps - vals.size) undef).getD t undef = v' := by
    rw [Array.getD_eq_getD_getElem?, ← Array.getElem?_toList, h1]; rfl
  rw [this]; exact h2

/-- What a call of a function comes to. -/
def FnApplies (P : Program) (f : FuncId) (args : Array Value) (w : World) (R : Value → World → Prop) : Prop :=
  match (callFunc f args).run P w with
  | .ok (.value v) w' => R v w'
  | .ok (.enter f as) w' => CallsIn Fence.wide 0 P f as w' fun
      | .returned v, w'' => R v w''
      | _, _ => False
  | _ => False
def Post (g : Gh) (st' : Store) (w : World) (v : AV) (u : Value) (w' : World) : Prop := ∃ g', Adv g w g' w' ∧ Inv g' st' w' ∧ Rep g' u v
/-- A primitive that says what a function does. -/
def PrimOk (E : Env) (f : FuncId) (p : List AV → Store → Option (AV × Store)) : Prop := ∀ (args : List AV) (st : Store) (v : AV) (st' : Store), p args st = some (v, st') →
  ∀ (g : Gh) (w : World) (vals : Array Value), Reps g vals.toList args → Inv g st w → GlobOk E g → FnApplies E.P f vals w (Post g st' w v)
theorem applies_fn {P : Program} {f : FuncId} {first cap args : Array Value} {w : World} {R : Value → World → Prop} (h : FnApplies P f (first ++ args ++ cap) w R) : Applies P (.func (.func f) first cap) args w R := by
  unfold Applies FnApplies at *
  have e : (do let d ← Deferred.ofValue (.func (.func f) first cap) args; invoke d.target d.args : Sem Next) = callFunc f (first ++ args ++ cap) := rfl
  rw [e]
  split at h
  · rename_i v w' hr; rw [hr]; exact h
  · rename_i k as w' hr; rw [hr]; exact h
  · exact h.elim
/-- A mark is come to: its block is shut. -/
theorem FS.shut (h : FS E A g0 w0 g B st w fr a) {d : Deferred} {ds : List Deferred} (hd : a.defers = d :: ds) :
    ∃ r w', d.target = .collected r ∧ (Instr.takeDeferred r).run E.P w = .ok [] w' ∧ FS E A g0 w0 g B st w' fr { a with defers := ds } := by
  have hdf := h.df
  rw [hd] at hdf
  obtain ⟨⟨r, h1, h2, h3, h4, h5⟩, h6⟩ := hdf
  have hlt := (Array.getElem?_eq_some_iff.1 h4).1
  refine ⟨r, _, by rw [h1], run_takeDeferred h4, ?_⟩
  have ho : ∀ i, i ≠ r → (w.putObj r (.deferred none)).heap[i]? = w.heap[i]? := fun i hi => World.putObj_heap_other hi
  have hf := h.fr
  have marks : ∀ {l : List Deferred}, (∀ d' ∈ l, d'.target ≠ .collected r) → Marks w0.heap.size g w l → Marks w0.heap.size g (w.putObj r (.deferred none)) l := by
    intro l
    induction l with
    | nil => intro _ _; trivial
    | cons x l ih =>
      rintro hne ⟨⟨r', k1, k2, k3, k4, k5⟩, k6⟩
      have : r' ≠ r := by rintro rfl; exact hne x List.mem_cons_self (by rw [k1])
      exact ⟨⟨r', k1, k2, k3, (ho r' this).trans k4, k5⟩, ih (fun d' hd' => hne d' (List.mem_cons_of_mem _ hd')) k6⟩
  refine ⟨⟨hf.lt, hf.lo, hf.ll, hf.wf, hf.tmp, hf.off, fun b ob cs q1 q2 q3 => ?_, hf.inj⟩, h.inv.same fun b hb => ho b (by rintro rfl; exact hb h3), ?_, h.glob, marks h5 h6⟩
  · obtain ⟨⟨c, e, fz, p1, p2⟩, p3⟩ := hf.box b ob cs q1 q2 q3
    have : B b ≠ r := by intro e'; rw [e', h4] at p1; cases p1
    exact ⟨⟨c, e, fz, (ho _ this).trans p1, p2⟩, p3⟩
  · have ha := h.adv
    refine ⟨ha.le, Nat.le_trans ha.size (Nat.le_of_eq World.putObj_size.symm), fun b hb hn => ?_, fun b cs hb => ?_, ha.os, ha.tape, ha.output⟩
    · obtain ⟨p1, p2⟩ := ha.keep b hb hn
      exact ⟨(ho b (by omega)).trans p1, p2⟩
    · have := ha.le.stat b cs hb
      exact (ho b (by rintro rfl; rw [h3] at this; cases this)).trans (ha.stat b cs hb)
theorem leaves_ok {fn : Func} {R : Ending → World → Prop} : ∀ (ds : List Deferred) (a : Act) (w : World), a.defers = ds → FS E A g0 w0 g B st w fr a →
    (∀ w' a', FS E A g0 w0 g B st w' fr a' → a'.tmps = a.tmps → ∃ v, (results fn a.tmps).run E.P w' = .ok v w' ∧ R (.returned v) w') → LeavesInM Fence.wide 0 E.P fn a.tmps R ds .returning w
  | [], a, w, hd, h, hk => hk w a h rfl
  | d :: ds, a, w, hd, h, hk => by
    obtain ⟨r, w', h1, h2, h3⟩ := h.shut hd
    exact ⟨by simp, .inl ⟨r, w', h1, h2, leaves_ok ds { a with defers := ds } w' rfl h3 hk⟩⟩
theorem afun_ok (hcall : CallOk E call) (hmix : E.P.follows .mixedOrders = true) {An : FuncId → Ann} (wf : ∀ f t b, (An f).base t = some b → (An f).base b = some b) (hname : ∀ (f : Nat) fn, E.P.funcs[f]? = some fn → fn.body ≠ none → fn.name ≠ "runtime.NumGoroutine")
    {n f : Nat} {args : List AV} {v : AV} (h : afun E An call n f args st = some (v, st')) {vals : Array Value} (hargs : Reps g vals.toList args) (hi : Inv g st w) (hgl : GlobOk E g) : FnApplies E.P f vals w (Post g st' w v) := by
  unfold afun at h
  split at h
  · cases h
  · rename_i fn hf
    rw [E.hL] at hf
    replace hf : E.P.funcs[f]? = some fn := hf
    split at h
    · cases h
    · rename_i c hc
      have hrun : (callFunc f vals).run E.P w = .ok (.enter f vals) w := by
        have hn : ¬ (fn.name = "runtime.NumGoroutine") := hname f fn hf (by rw [hc]; simp)
        simp [callFunc, hf, hn, hc]
      unfold FnApplies
      rw [hrun]
      refine callsIn_of_wp_marks hf hc trivial ?_
      have key : ∀ ex fr', acode E call (An f) f n false c (aenter fn args) st = some (ex, fr', st') → (∀ i, ex ≠ .exit i) → ∀ xs, aresults E (An f) fr' st' fn.results.toList = some xs → v = many xs →
          c.wpIn (FW none) 0 E.P (bodyPostM Fence.wide 0 E.P fn fun
            | .returned v', w'' => Post g st' w v v' w''
            | _, _ => False) { tmps := vals ++ Array.replicate (fn.ntmps - vals.size) undef, defers := [] } w := by
        intro ex fr' hac hex xs hxs hv
        refine acode_wp hcall hmix hname (fun _ => rfl) c _ _ ex fr' st' hac g (fun _ => 0) w _ (aenter_ok (wf f) hargs hi hgl) _ ?_
        intro g' B' w' a' hfs
        have hpost : LeavesInM Fence.wide 0 E.P fn a'.tmps (fun
            | .returned v', w'' => Post g st' w v v' w''
            | _, _ => False) a'.defers .returning w' := by
          refine leaves_ok _ _ _ rfl hfs fun w2 a2 hfs2 ht => ?_
          obtain ⟨u, h1, h2⟩ := results_ok hfs2 hxs
          rw [ht] at h1
          exact ⟨u, h1, g', hfs2.adv, hfs2.inv, by rw [hv]; exact h2⟩
        cases ex with
        | normal => exact hpost
        | ret => exact hpost
        | exit i => exact absurd rfl (hex i)
      split at h
      · cases h
      · rename_i ex fr1 st1 hne hac
        split at h
        · rename_i x hxs
          simp only [Option.some.injEq, Prod.mk.injEq] at h
          obtain ⟨rfl, rfl⟩ := h
          exact key ex fr1 hac (fun i e => hne i e) _ hxs rfl
        · rename_i xs hns hxs
          simp only [Option.some.injEq, Prod.mk.injEq] at h
          obtain ⟨rfl, rfl⟩ := h
          refine key ex fr1 hac (fun i e => hne i e) _ hxs ?_
          match xs, hns with
          | [], _ => rfl
          | [x], hns => exact absurd rfl (hns x)
          | x :: y :: xs, _ => rfl
        · cases h
      · cases h
theorem setParams_ok : ∀ {ps : List Tmp} {xs : List AV} {vs : List Value} {tmps tmps' : List AV} {arr : Array Value}, setParams ps xs tmps = some tmps' → Reps g vs xs → Reps g arr.toList tmps →
    vs.length = ps.length ∧ Reps g ((ps.zip vs).foldl (fun (t : Array Value) (p : Tmp × Value) => t.setIfInBounds p.1 p.2) arr).toList tmps'
  | [], [], vs, tmps, tmps', arr, h, hv, ht => by
    cases hv
    simp only [setParams, Option.some.injEq] at h; subst h
    exact ⟨rfl, ht⟩
  | p :: ps, x :: xs, vs, tmps, tmps', arr, h, hv, ht => by
    cases hv with
    | cons v _ vs _ h1 h2 =>
      simp only [setParams] at h
      obtain ⟨k1, k2⟩ := setParams_ok (arr := arr.setIfInBounds p v) h h2 (by rw [Array.toList_setIfInBounds]; exact ht.set p h1)
      exact ⟨by simp [k1], k2⟩
  | [], _ :: _, _, _, _, _, h, _, _ => by simp [setParams] at h
  | _ :: _, [], _, _, _, _, h, _, _ => by simp [setParams] at h
theorem ayield_ok (hcall : CallOk E call) (hmix : E.P.follows .mixedOrders = true) {An : FuncId → Ann} (wf : ∀ f t b, (An f).base t = some b → (An f).base b = some b) (hname : ∀ (f : Nat) fn, E.P.funcs[f]? = some fn → fn.body ≠ none → fn.name ≠ "runtime.NumGoroutine")
    {n o b : Nat} {args : List AV} {v : AV} (h : ayield E An call n o args st = some (v, st')) (hl : Live g b o) {vals : Array Value} (hargs : Reps g vals.toList args) (hi : Inv g st w) (hgl : GlobOk E g) :
    Applies E.P (.func (.yield b) #[] #[]) vals w (Post g st' w v) := by
  unfold ayield at h
  split at h
  · rename_i s pend f tmps ps assign body hget
    obtain ⟨tot, hb, L, hL, hs, hpd, ht, hpa, has, hbd⟩ := hi.loopAt hl hget
    split at h
    · cases h
    · rename_i tmps' hset
      split at h
      · rename_i fr1 st1 hac
        split at h
        · rename_i pend1 f1 tmps1 ps1 as1 b1 hget1
          split at h
          · rename_i r hbody
            obtain ⟨hlen, hreps⟩ := setParams_ok hset hargs ht
            let arr := ((ps.zip vals.toList).foldl (fun (t : Array Value) (p : Tmp × Value) => t.setIfInBounds p.1 p.2) L.tmps)
            have hfold : (L.params.zip vals).foldl (fun tmps (t, a) => tmps.setIfInBounds t a) L.tmps = arr := by
              rw [hpa, ← Array.foldl_toList]
              simp [arr]
            have hrun : (do let d ← Deferred.ofValue (.func (.yield b) #[] #[]) vals; invoke d.target d.args : Sem Next).run E.P w = .ok (.round b L.fn arr assign body) w := by
              have := run_yield (P := E.P) (args := vals) hL (by rw [hpa]; simpa using hlen)
              rw [hfold, has, hbd] at this
              have e : (do let d ← Deferred.ofValue (.func (.yield b) #[] #[]) vals; invoke d.target d.args : Sem Next) = Instr.yield b (#[] ++ vals) := rfl
              rw [e, Array.empty_append]; exact this
            unfold Applies
            rw [hrun]
            refine roundIn_of_wpIn trivial ?_
            have hlen' := hreps.length
            simp only [Array.length_toList] at hlen'
            have none_ : ∀ {t q : Nat}, (List.replicate tmps'.length (none : Option Nat))[t]? = some (some q) → False := by
              intro t q hh
              have := (List.mem_replicate.1 (List.mem_of_getElem? hh)).2
              cases this
            have hfs0 : FS E (An f) g w g (fun _ => 0) st w { tmps := tmps', offs := List.replicate tmps'.length none, lbs := List.replicate tmps'.length [] } { tmps := arr, defers := [] } := by
              refine ⟨⟨hlen'.symm, by simp [hlen', arr], by simp [hlen', arr], wf f, fun t x hbt hx => ?_, fun t b off ob _ h1 _ => (none_ h1).elim, fun b ob cs _ h1 _ => (none_ h1).elim, fun b b' o o' _ _ h1 _ => (none_ h1).elim⟩, hi, Adv.refl g w, hgl, trivial⟩
              obtain ⟨v', h1, h2⟩ := hreps.get t x hx
              have : arr.getD t undef = v' := by
                rw [Array.getD_eq_getD_getElem?, ← Array.getElem?_toList, h1]; rfl
              show Rep g (arr.getD t undef) x
              rw [this]; exact h2
            refine acode_wp (rd := some b) (rb := true) hcall hmix hname (fun e => by cases e) assign _ _ _ fr1 st1 hac g _ w _ hfs0 _ ?_
            intro g1 B1 w1 a1 hfs1
            obtain ⟨tot1, hb1, L1, hL1, hs1, hpd1, ht1, hpa1, has1, hbd1⟩ := hfs1.inv.loopAt (hl.mono hfs1.adv.le) hget1
            refine ⟨_, run_beginRound hL1 hs1, ?_⟩
            obtain ⟨i2, a2⟩ := hfs1.inv.setLoop hb1 hL1 ht1 hpa1 has1 hbd1 .busy pend1 f1
            have hrec : ({ L1 with state := .busy, pending := pend1 } : Loop) = { L1 with state := .busy } := by rw [← hpd1]
            rw [hrec] at i2 a2
            have hfs2 := hfs1.adv' a2 i2
            refine acode_wp (rd := some b) (rb := true) hcall hmix hname (fun e => by cases e) body _ _ r.1 r.2.1 r.2.2 hbody _ _ _ _ hfs2 _ ?_
            intro g3 B3 w3 a3 hfs3
            unfold endRoundA at h
            split at h
            · rename_i s3 pend3 f3 tmps3 ps3 as3 b3 hget3
              obtain ⟨tot3, hb3, L3, hL3, hs3, hpd3, ht3, hpa3, has3, hbd3⟩ := hfs3.inv.loopAt (hl.mono hfs3.adv.le) hget3
              cases hex : r.1 with
              | normal =>
                simp only [hex, Option.some.injEq, Prod.mk.injEq] at h
                obtain ⟨rfl, rfl⟩ := h
                obtain ⟨i4, a4⟩ := hfs3.inv.setLoop hb3 hL3 ht3 hpa3 has3 hbd3 .ready none f3
                exact ⟨_, _, run_endRound none hL3, g3, hfs3.adv.trans a4, i4, .bool _⟩
              | ret =>
                simp only [hex, Option.some.injEq, Prod.mk.injEq] at h
                obtain ⟨rfl, rfl⟩ := h
                obtain ⟨i4, a4⟩ := hfs3.inv.setLoop hb3 hL3 ht3 hpa3 has3 hbd3 .done (some .ret) f3
                exact ⟨_, _, run_endRound (some .ret) hL3, g3, hfs3.adv.trans a4, i4, .bool _⟩
              | exit id =>
                simp only [hex, Option.some.injEq, Prod.mk.injEq] at h
                obtain ⟨rfl, rfl⟩ := h
                obtain ⟨i4, a4⟩ := hfs3.inv.setLoop hb3 hL3 ht3 hpa3 has3 hbd3 .done (some (.exit id)) f3
                exact ⟨_, _, run_endRound (some (.exit id)) hL3, g3, hfs3.adv.trans a4, i4, .bool _⟩
            · cases h
          · cases h
        · cases h
      · cases h
  · cases h
theorem acall_ok (hmix : E.P.follows .mixedOrders = true) {An : FuncId → Ann} (wf : ∀ f t b, (An f).base t = some b → (An f).base b = some b) (hname : ∀ (f : Nat) fn, E.P.funcs[f]? = some fn → fn.body ≠ none → fn.name ≠ "runtime.NumGoroutine")
    {pr : Prims} (hpr : ∀ f p, pr f = some p → PrimOk E f p) : ∀ n, CallOk E (acall E An pr n)
  | 0 => fun fv args st v st' h => by simp [acall] at h
  | n + 1 => by
    intro fv args st v st' h g w fval vals hf hargs hi hgl
    have ih := acall_ok hmix wf hname hpr n
    cases hf with
    | func fn a b x y hp ha hb =>
      cases fn with
      | func f =>
        have hall : Reps g (a ++ vals ++ b).toList (x ++ args ++ y) := by
          simp only [Array.toList_append]
          exact (ha.append hargs).append hb
        refine applies_fn ?_
        change (match pr f with
          | some p => (match p (x ++ args ++ y) st with
            | some r => some r
            | none => afun E An (acall E An pr n) n f (x ++ args ++ y) st)
          | none => afun E An (acall E An pr n) n f (x ++ args ++ y) st) = some (v, st') at h
        split at h
        · rename_i p hpp
          split at h
          · rename_i r hr
            injection h with h; subst h
            exact hpr f p hpp _ _ _ _ hr g w _ hall hi hgl
          · exact afun_ok ih hmix wf hname h hall hi hgl
        · exact afun_ok ih hmix wf hname h hall hi hgl
      | _ => first | (cases hp; done) | (change none = some _ at h; cases h)
    | yield b o hl =>
      exact ayield_ok ih hmix wf hname h hl hargs hi hgl
    | _ => first | (change none = some _ at h; cases h) | (simp [acall] at h)
end
end Go.Sim

namespace Go.Sim

/-- Everything that lies there is for good. -/
def Gh.start (W : World) : Gh := { blk := fun b => match W.heap[b]? with | some (.cells c _ _) => some (.stat c.toList) | _ => none, dead := fun _ => False }
theorem start_stat {W : World} {b : Nat} {x : GB} (h : (Gh.start W).blk b = some x) : ∃ c e fr, W.heap[b]? = some (.cells c e fr) ∧ x = .stat c.toList := by
  simp only [Gh.start] at h
  split at h
  · rename_i c e fr hb
    injection h with h
    exact ⟨c, e, fr, hb, h.symm⟩
  · cases h
theorem start_inv (W : World) : Inv (Gh.start W) Store.empty W := by
  refine ⟨rfl, rfl, fun b t s sz tot cs h => ?_, fun b cs h => ?_, fun b o tot h => ?_, fun b b' o n n' h _ => ?_, fun _ h => h.elim⟩
  · obtain ⟨_, _, _, _, h⟩ := start_stat h; cases h
  · obtain ⟨c, e, fr, h1, h2⟩ := start_stat h
    injection h2 with h2
    exact ⟨c, e, fr, h1, h2.symm⟩
  · obtain ⟨_, _, _, _, h⟩ := start_stat h; cases h
  · obtain ⟨_, _, _, _, h⟩ := start_stat h; cases h
/-- What lay there lies there. -/
structure Kept (W W' : World) : Prop where
  old : ∀ b, b < W.heap.size → W'.heap[b]? = W.heap[b]?
  size : W.heap.size ≤ W'.heap.size
  os : W'.os = W.os
  output : W'.output = W.output
theorem adv_kept {W W' : World} {g' : Gh} (h : Adv (Gh.start W) W g' W') : Kept W W' where
  old b hb := by
    cases hx : (Gh.start W).blk b with
    | none => exact (h.keep b hb hx).1
    | some x =>
      obtain ⟨c, e, fr, _, rfl⟩ := start_stat hx
      exact h.stat b _ hx
  size := h.size
  os := h.os
  output := h.output
theorem Kept.keptBut {W W' : World} (h : Kept W W') (may : MemPlace → Prop) : W.keptBut W' may := by
  refine ⟨h.os, h.output, fun i hi => ?_⟩
  rw [h.old i hi]
  have : W.heap[i]? = some W.heap[i] := Array.getElem?_eq_getElem hi
  rw [this]
  cases W.heap[i] with
  | cells c t fr => exact ⟨rfl, rfl, rfl, fun _ _ => rfl⟩
  | map es clock => exact .inr ⟨rfl, rfl⟩
  | _ => rfl
theorem Kept.frozen {W W' : World} (h : Kept W W') (a : Addr) (ha : a.block < W.heap.size) : W'.frozen? a = W.frozen? a := by
  simp [World.frozen?, h.old _ ha]
theorem Kept.cell {W W' : World} (h : Kept W W') (a : Addr) (ha : a.block < W.heap.size) : W'.cell? a = W.cell? a := by
  simp [World.cell?, h.old _ ha]

theorem fnApplies_calls {P : Program} {f : FuncId} {fn : Func} {args : Array Value} {w : World} {R : Value → World → Prop} (hf : P.funcs[f]? = some fn) (hb : fn.body ≠ none) (hn : fn.name ≠ "runtime.NumGoroutine") (h : FnApplies P f args w R) :
    Calls P f args w fun e w' => ∃ v, e = .returned v ∧ R v w' := by
  have hrun : (callFunc f args).run P w = .ok (.enter f args) w := by
    simp [callFunc, hf, hn, hb]
  unfold FnApplies at h
  rw [hrun] at h
  refine callsIn_wide.1 (h.mono fun e w' he => ?_)
  cases e with
  | returned v => exact ⟨v, rfl, he⟩
  | panicked ch => exact he.elim
  | outgrown => exact he.elim
/-- **A CONTRACT FROM THE READING.** -/
theorem calls_of_reading {E : Env} (hmix : E.P.follows .mixedOrders = true) {An : FuncId → Ann} (wf : ∀ f t b, (An f).base t = some b → (An f).base b = some b) (hname : ∀ (f : Nat) fn, E.P.funcs[f]? = some fn → fn.body ≠ none → fn.name ≠ "runtime.NumGoroutine")
    {pr : Prims} (hpr : ∀ f p, pr f = some p → PrimOk E f p) {n k : Nat} {fn : Func} (hk : E.P.funcs[k]? = some fn) (hb : fn.body ≠ none) (hp : pr k = none) {W : World} {args : Array Value} {xs : List AV} {v : AV} {st : Store}
    (h : acall E An pr (n + 1) (.func (.func k) [] []) xs Store.empty = some (v, st)) (hargs : Reps (Gh.start W) args.toList xs) (hgl : GlobOk E (Gh.start W)) :
    Calls E.P k args W fun e W' => ∃ u, e = .returned u ∧ Kept W W' ∧ ∃ g, Rep g u v := by
  simp only [acall, hp, List.nil_append, List.append_nil] at h
  have := afun_ok (acall_ok hmix wf hname hpr n) hmix wf hname h hargs (start_inv W) hgl
  refine (fnApplies_calls hk hb (hname k fn hk hb) this).mono fun e W' ⟨u, he, g', ha, _, hr⟩ => ⟨u, he, adv_kept ha, g', hr⟩
end Go.Sim

namespace Go.Sim

def pIndexByte : List AV → Store → Option (AV × Store)
  | [.str s, .int .u8 c], st => some (.int .i64 (Lib.indexByte s c.toNat.toUInt8), st)
  | _, _ => none
def pCmp : List AV → Store → Option (AV × Store)
  | [.str a, .str b], st => some (.int .i64 (Lib.compareBytes a b), st)
  | _, _ => none

theorem callFunc_extern {P : Program} {f : Nat} {fn : Func} {e : Array Value → Sem Value} (hf : P.funcs[f]? = some fn) (hb : fn.body = none) (hn : fn.name ≠ "runtime.NumGoroutine") (h1 : Extern.findNext fn = none) (h2 : Extern.find fn = some e) (args : Array Value) (w : World) {v : Value} {w' : World}
    (hr : (e args).run P w = .ok v w') : (callFunc f args).run P w = .ok (.value v) w' := by
  simp [callFunc, hf, hn, hb, h1, h2, hr]
section
variable {E : Env} {f : Nat} {fn : Func}
theorem pIndexByte_ok (hf : E.P.funcs[f]? = some fn) (hb : fn.body = none) (hn : fn.name ≠ "runtime.NumGoroutine") (h1 : Extern.findNext fn = none) (h2 : Extern.find fn = some Extern.BytealgIndexByte.indexByte) : PrimOk E f pIndexByte := by
  intro args st v st' h g w vals hr hi hgl
  match args, h with
  | [.str s, .int .u8 c], h =>
    simp only [pIndexByte, Option.some.injEq, Prod.mk.injEq] at h
    obtain ⟨rfl, rfl⟩ := h
    generalize hl : vals.toList = l at hr
    match l, hr with
    | [a, b], .cons _ _ _ _ ha (.cons _ _ _ _ hb' .nil) =>
      cases ha with
      | str s =>
        cases hb' with
        | int k n =>
          have hv : vals = #[.string s, .int .u8 c] := by rw [← hl]
          subst hv
          unfold FnApplies
          rw [callFunc_extern hf hb hn h1 h2 _ w (Lib.run_indexByteString s c w)]
          exact ⟨g, Adv.refl g w, hi, .int _ _⟩
theorem pCmp_ok (hf : E.P.funcs[f]? = some fn) (hb : fn.body = none) (hn : fn.name ≠ "runtime.NumGoroutine") (h1 : Extern.findNext fn = none) (h2 : Extern.find fn = some Extern.BytealgCompare.compare) : PrimOk E f pCmp := by
  intro args st v st' h g w vals hr hi hgl
  match args, h with
  | [.str s, .str t], h =>
    simp only [pCmp, Option.some.injEq, Prod.mk.injEq] at h
    obtain ⟨rfl, rfl⟩ := h
    generalize hl : vals.toList = l at hr
    match l, hr with
    | [a, b], .cons _ _ _ _ ha (.cons _ _ _ _ hb' .nil) =>
      cases ha with
      | str s =>
        cases hb' with
        | str t =>
          have hv : vals = #[.string s, .string t] := by rw [← hl]
          subst hv
          unfold FnApplies
          rw [callFunc_extern hf hb hn h1 h2 _ w (Lib.run_compareString s t w)]
          exact ⟨g, Adv.refl g w, hi, .int _ _⟩
end
end Go.Sim

namespace Go.Sim

/-- Things by number. -/
inductive Tr (α : Type) where
  | e
  | n (v : Option α) (l r : Tr α)
section tr
variable {α : Type}
noncomputable def Tr.get (t : Tr α) : Nat → Option α :=
  Tr.rec (motive := fun _ => Nat → Option α) (fun _ => none) (fun v _ _ gl gr k => Bool.rec (Bool.rec (gr (Nat.sub (Nat.div k 2) 1)) (gl (Nat.div k 2)) (Nat.beq (Nat.mod k 2) 1)) v (Nat.beq k 0)) t
/-- What lies there is another one, or none. -/
noncomputable def Tr.putF (x : Option α) (fuel : Nat) : Tr α → Nat → Tr α :=
  Nat.rec (motive := fun _ => Tr α → Nat → Tr α) (fun t _ => t) (fun _ ih t k => Tr.rec (motive := fun _ => Tr α)
    (Bool.rec (Bool.rec (.n none .e (ih .e (Nat.sub (Nat.div k 2) 1))) (.n none (ih .e (Nat.div k 2)) .e) (Nat.beq (Nat.mod k 2) 1)) (.n x .e .e) (Nat.beq k 0))
    (fun v l r _ _ => Bool.rec (Bool.rec (.n v l (ih r (Nat.sub (Nat.div k 2) 1))) (.n v (ih l (Nat.div k 2)) r) (Nat.beq (Nat.mod k 2) 1)) (.n x l r) (Nat.beq k 0)) t) fuel
noncomputable def Tr.set (t : Tr α) (k : Nat) (v : α) : Tr α := Tr.putF (some v) 13 t k
noncomputable def Tr.del (t : Tr α) (k : Nat) : Tr α := Tr.putF none 13 t k
theorem Tr.get_e (k : Nat) : (Tr.e : Tr α).get k = none := rfl
theorem Tr.get_n (v : Option α) (l r : Tr α) (k : Nat) : (Tr.n v l r).get k = if k = 0 then v else if k % 2 = 1 then l.get (k / 2) else r.get (k / 2 - 1) := by
  show @Bool.rec (fun _ => Option α) (@Bool.rec (fun _ => Option α) (r.get (Nat.sub (Nat.div k 2) 1)) (l.get (Nat.div k 2)) (Nat.beq (Nat.mod k 2) 1)) v (Nat.beq k 0) = _
  cases h : Nat.beq k 0 with
  | true => rw [if_pos (Nat.eq_of_beq_eq_true h)]
  | false =>
    rw [if_neg (Nat.ne_of_beq_eq_false h)]
    cases h2 : Nat.beq (Nat.mod k 2) 1 with
    | true => rw [if_pos (show k % 2 = 1 from Nat.eq_of_beq_eq_true h2)]; rfl
    | false => rw [if_neg (show ¬ k % 2 = 1 from Nat.ne_of_beq_eq_false h2)]; rfl
theorem Tr.put_e (x : Option α) (f k : Nat) : Tr.putF x (f + 1) .e k = if k = 0 then .n x .e .e else if k % 2 = 1 then .n none (Tr.putF x f .e (k / 2)) .e else .n none .e (Tr.putF x f .e (k / 2 - 1)) := by
  show @Bool.rec (fun _ => Tr α) (@Bool.rec (fun _ => Tr α) (Tr.n none .e (Tr.putF x f .e (Nat.sub (Nat.div k 2) 1))) (.n none (Tr.putF x f .e (Nat.div k 2)) .e) (Nat.beq (Nat.mod k 2) 1)) (.n x .e .e) (Nat.beq k 0) = _
  cases h : Nat.beq k 0 with
  | true => rw [if_pos (Nat.eq_of_beq_eq_true h)]
  | false =>
    rw [if_neg (Nat.ne_of_beq_eq_false h)]
    cases h2 : Nat.beq (Nat.mod k 2) 1 with
    | true => rw [if_pos (show k % 2 = 1 from Nat.eq_of_beq_eq_true h2)]; rfl
    | false => rw [if_neg (show ¬ k % 2 = 1 from Nat.ne_of_beq_eq_false h2)]; rfl
theorem Tr.put_n (x : Option α) (f k : Nat) (v : Option α) (l r : Tr α) : Tr.putF x (f + 1) (.n v l r) k = if k = 0 then .n x l r else if k % 2 = 1 then .n v (Tr.putF x f l (k / 2)) r else .n v l (Tr.putF x f r (k / 2 - 1)) := by
  show @Bool.rec (fun _ => Tr α) (@Bool.rec (fun _ => Tr α) (Tr.n v l (Tr.putF x f r (Nat.sub (Nat.div k 2) 1))) (.n v (Tr.putF x f l (Nat.div k 2)) r) (Nat.beq (Nat.mod k 2) 1)) (.n x l r) (Nat.beq k 0) = _
  cases h : Nat.beq k 0 with
  | true => rw [if_pos (Nat.eq_of_beq_eq_true h)]
  | false =>
    rw [if_neg (Nat.ne_of_beq_eq_false h)]
    cases h2 : Nat.beq (Nat.mod k 2) 1 with
    | true => rw [if_pos (show k % 2 = 1 from Nat.eq_of_beq_eq_true h2)]; rfl
    | false => rw [if_neg (show ¬ k % 2 = 1 from Nat.ne_of_beq_eq_false h2)]; rfl
/-- Elsewhere nothing changes; there lies what was put, or what lay there. -/
theorem Tr.get_put (x : Option α) : ∀ (f : Nat) (t : Tr α) (k j : Nat), (Tr.putF x f t k).get j = t.get j ∨ (j = k ∧ (Tr.putF x f t k).get j = x)
  | 0, t, k, j => .inl rfl
  | f + 1, .e, k, j => by
    rw [Tr.put_e]
    split
    · rename_i hk; subst hk
      rw [Tr.get_n]
      split
      · exact .inr ⟨by assumption, rfl⟩
      · simp [Tr.get_e]
    · split <;> rename_i hk0 hk
      · rw [Tr.get_n]
        split
        · exact .inl rfl
        · split
          · rcases Tr.get_put x f .e (k / 2) (j / 2) with h | ⟨h, h'⟩
            · exact .inl h
            · exact .inr ⟨by omega, h'⟩
          · exact .inl rfl
      · rw [Tr.get_n]
        split
        · exact .inl rfl
        · split
          · exact .inl rfl
          · rcases Tr.get_put x f .e (k / 2 - 1) (j / 2 - 1) with h | ⟨h, h'⟩
            · exact .inl h
            · exact .inr ⟨by omega, h'⟩
  | f + 1, .n v l r, k, j => by
    rw [Tr.put_n]
    split
    · rename_i hk; subst hk
      rw [Tr.get_n, Tr.get_n]
      split
      · exact .inr ⟨by assumption, rfl⟩
      · exact .inl rfl
    · split <;> rename_i hk0 hk
      · rw [Tr.get_n, Tr.get_n]
        split
        · exact .inl rfl
        · split
          · rcases Tr.get_put x f l (k / 2) (j / 2) with h | ⟨h, h'⟩
            · exact .inl h
            · exact .inr ⟨by omega, h'⟩
          · exact .inl rfl
      · rw [Tr.get_n, Tr.get_n]
        split
        · exact .inl rfl
        · split
          · exact .inl rfl
          · rcases Tr.get_put x f r (k / 2 - 1) (j / 2 - 1) with h | ⟨h, h'⟩
            · exact .inl h
            · exact .inr ⟨by omega, h'⟩
/-- What is put lies there, if the number is not too large. -/
theorem Tr.get_put_same (x : Option α) : ∀ (f : Nat) (t : Tr α) (k : Nat), k + 1 < 2 ^ f → (Tr.putF x f t k).get k = x
  | 0, t, k, h => by simp at h
  | f + 1, .e, k, h => by
    have hp : 2 ^ (f + 1) = 2 * 2 ^ f := by rw [Nat.pow_succ]; omega
    rw [Tr.put_e]
    split
    · rename_i hk; subst hk; rw [Tr.get_n, if_pos rfl]
    · split <;> rename_i hk0 hk
      · rw [Tr.get_n, if_neg hk0, if_pos hk]; exact Tr.get_put_same x f _ _ (by omega)
      · rw [Tr.get_n, if_neg hk0, if_neg hk]; exact Tr.get_put_same x f _ _ (by omega)
  | f + 1, .n v l r, k, h => by
    have hp : 2 ^ (f + 1) = 2 * 2 ^ f := by rw [Nat.pow_succ]; omega
    rw [Tr.put_n]
    split
    · rename_i hk; subst hk; rw [Tr.get_n, if_pos rfl]
    · split <;> rename_i hk0 hk
      · rw [Tr.get_n, if_neg hk0, if_pos hk]; exact Tr.get_put_same x f _ _ (by omega)
      · rw [Tr.get_n, if_neg hk0, if_neg hk]; exact Tr.get_put_same x f _ _ (by omega)
theorem Tr.get_put_if (x : Option α) (t : Tr α) {k : Nat} (hk : k < 8000) (j : Nat) : (Tr.putF x 13 t k).get j = if j = k then x else t.get j := by
  split
  · rename_i e; subst e
    exact Tr.get_put_same x 13 t j (by simp; omega)
  · rename_i e
    rcases Tr.get_put x 13 t k j with h | ⟨h, _⟩
    · exact h
    · exact absurd h e
theorem Tr.get_set {t : Tr α} {k j : Nat} {v y : α} (hk : k < 8000) (h : (t.set k v).get j = some y) : (j = k ∧ y = v) ∨ (j ≠ k ∧ t.get j = some y) := by
  rw [Tr.set, Tr.get_put_if _ _ hk] at h
  split at h
  · rename_i e; exact .inl ⟨e, (Option.some.inj h).symm⟩
  · rename_i e; exact .inr ⟨e, h⟩
theorem Tr.get_del {t : Tr α} {k j : Nat} {y : α} (h : (t.del k).get j = some y) : t.get j = some y := by
  rcases Tr.get_put none 13 t k j with e | ⟨e, e'⟩
  · exact e.symm.trans h
  · rw [Tr.del, e'] at h; cases h
theorem Tr.get_del_ne {t : Tr α} {k j : Nat} {y : α} (hk : k < 8000) (h : (t.del k).get j = some y) : j ≠ k := by
  rintro rfl
  rw [Tr.del, Tr.get_put_same none 13 t j (by simp; omega)] at h
  cases h
noncomputable def Tr.dels (ks : List Nat) (t : Tr α) : Tr α := ks.foldl Tr.del t
theorem Tr.get_dels {j : Nat} {y : α} : ∀ {ks : List Nat} {t : Tr α}, (Tr.dels ks t).get j = some y → t.get j = some y
  | [], _, h => h
  | k :: ks, t, h => Tr.get_del (Tr.get_dels (ks := ks) (t := t.del k) h)
theorem Tr.get_dels_ne {j : Nat} {y : α} : ∀ {ks : List Nat} {t : Tr α}, (∀ k ∈ ks, k < 8000) → (Tr.dels ks t).get j = some y → j ∉ ks
  | [], _, _, _ => by simp
  | k :: ks, t, hk, h => by
    have h1 : (t.del k).get j = some y := Tr.get_dels (ks := ks) h
    have h2 := Tr.get_dels_ne (ks := ks) (t := t.del k) (fun k hk' => hk k (List.mem_cons_of_mem _ hk')) h
    simp only [List.mem_cons, not_or]
    exact ⟨Tr.get_del_ne (hk k List.mem_cons_self) h1, h2⟩
end tr

/-- A frame, in trees. -/
structure FFr where
  n : Nat
  t : Tr AV
  of : Tr Nat
  bx : Tr (List AV)
noncomputable def FFr.setT (fr : FFr) (d : Nat) (v : AV) : FFr := match fr with | ⟨n, t, of, bx⟩ => ⟨n, t.set d v, of, bx⟩
noncomputable def FFr.setOf (fr : FFr) (d : Nat) (o : Nat) : FFr := match fr with | ⟨n, t, of, bx⟩ => ⟨n, t, of.set d o, bx⟩
noncomputable def FFr.setBx (fr : FFr) (b : Nat) (cs : List AV) : FFr := match fr with | ⟨n, t, of, bx⟩ => ⟨n, t, of, bx.set b cs⟩
noncomputable def FFr.newBx (fr : FFr) (ks : List Nat) (d : Nat) (cs : List AV) : FFr := match fr with | ⟨n, t, of, bx⟩ => ⟨n, t, (Tr.dels ks of).set d 0, bx.set d cs⟩
noncomputable def FFr.delBx (fr : FFr) (d : Nat) : FFr := match fr with | ⟨n, t, of, bx⟩ => ⟨n, t, of.del d, bx.del d⟩
@[simp] theorem FFr.n_setT (fr : FFr) (d : Nat) (v : AV) : (fr.setT d v).n = fr.n := rfl
@[simp] theorem FFr.n_setOf (fr : FFr) (d o : Nat) : (fr.setOf d o).n = fr.n := rfl
@[simp] theorem FFr.n_setBx (fr : FFr) (b : Nat) (cs : List AV) : (fr.setBx b cs).n = fr.n := rfl
@[simp] theorem FFr.n_newBx (fr : FFr) (ks : List Nat) (d : Nat) (cs : List AV) : (fr.newBx ks d cs).n = fr.n := rfl
@[simp] theorem FFr.n_delBx (fr : FFr) (d : Nat) : (fr.delBx d).n = fr.n := rfl
/-- How a function is read: boxes, kinds, what must stand before what. -/
structure FAnn where
  base : Nat → Option Nat
  subs : Nat → List Nat
  mode : Nat → Nat → Nat
  labs : Nat → Option (List Nat)
def FAnn.ann (A : FAnn) : Ann := ⟨A.base, A.mode⟩
structure FAnn.Ok (A : FAnn) : Prop where
  wf : ∀ t b, A.base t = some b → A.base b = some b
  subs : ∀ t b, A.base t = some b → t = b ∨ t ∈ A.subs b
  low : ∀ b, ∀ k ∈ A.subs b, k < 8000

structure FRel (A : FAnn) (ff : FFr) (fr : AFr) : Prop where
  low : ff.n ≤ 8000
  lt : fr.tmps.length = ff.n
  lo : fr.offs.length = ff.n
  ll : fr.lbs.length = ff.n
  ex : ∀ t, t < ff.n → fr.tmps[t]? = some (match ff.t.get t with | some v => v | none => aundef)
  hi : ∀ t v, ff.t.get t = some v → t < ff.n
  of : ∀ t o, ff.of.get t = some o → fr.offs[t]? = some (some o)
  bx : ∀ b cs, ff.bx.get b = some cs → A.base b = some b ∧ fr.lbs[b]? = some cs ∧ ∃ o, fr.offs[b]? = some (some o)

theorem FRel.t {A : FAnn} {ff : FFr} {fr : AFr} (h : FRel A ff fr) (t : Nat) (v : AV) (hv : ff.t.get t = some v) : fr.tmps[t]? = some v := by
  have := h.ex t (h.hi t v hv)
  simpa only [hv] using this
noncomputable def feval (G : Nat → Option AV) (A : FAnn) (fr : FFr) : Operand → Option In
  | .tmp t => (match A.base t with
    | none => (match fr.t.get t with
      | some v => some (.val v)
      | none => none)
    | some b => (match fr.bx.get b with
      | some cs => (match fr.of.get t with
        | some off => some (.loc b off cs)
        | none => none)
      | none => none))
  | .const v => (match absC v with
    | some x => some (.val x)
    | none => none)
  | .global g => (match G g with
    | some x => some (.val x)
    | none => none)
  | .func f => some (.val (.func (.func f) [] []))
noncomputable def fevals (G : Nat → Option AV) (A : FAnn) (fr : FFr) : List Operand → Option (List In)
  | [] => some []
  | x :: xs => (match feval G A fr x with
    | some v => (match fevals G A fr xs with
      | some vs => some (v :: vs)
      | none => none)
    | none => none)
noncomputable def fput (A : FAnn) (fr : FFr) (op : Op) (dst : Option Tmp) (out : Out) : Option FFr :=
  match out with
  | .val v => (match dst with
    | some d => (match A.base d with
      | none => Bool.rec none (some (fr.setT d v)) (Nat.blt d fr.n)
      | some _ => none)
    | none => some fr)
  | .loc b off => (match dst with
    | some d => (match fr.bx.get b with
      | some _ => if A.base d = some b ∧ d ≠ b ∧ d < fr.n then some (fr.setOf d off) else none
      | none => none)
    | none => none)
  | .box cs => (match dst with
    | some d => if A.base d = some d ∧ d < fr.n then some (fr.newBx (A.subs d) d cs) else none
    | none => none)
  | .lst b cs => (match dst with
    | some _ => none
    | none => (match op with
      | .store _ (.tmp t) _ => (match fr.bx.get b with
        | some _ => if A.base t = some b then some (fr.setBx b cs) else none
        | none => none)
      | _ => none))
noncomputable def fputNone (A : FAnn) (fr : FFr) (dst : Option Tmp) : Option FFr :=
  match dst with
  | none => some fr
  | some d => if d < fr.n ∧ d < 8000 then (match A.base d with
    | none => some (fr.setT d aundef)
    | some _ => some (fr.delBx d)) else none
noncomputable def fYield (ops : List Oper) (fr : FFr) (A : FAnn) (j : Nat) : Option (Option Bool) :=
  match ops[j]? with
  | none => some none
  | some o => (match o.dst with
    | none => some none
    | some d => (match A.base d with
      | some _ => none
      | none => (match fr.t.get d with
        | some (.bool b) => some (some b)
        | some (.tuple _) => some none
        | _ => none)))
noncomputable def fWanted (A : FAnn) (ops : List Oper) (fr : FFr) (o : Oper) : Option Bool :=
  match o.guard with
  | none => some true
  | some (j, want) => (match fYield ops fr A j with
    | some y => some (y == some want)
    | none => none)
noncomputable def fops (E : Env) (call : Caller) (A : FAnn) (rid : Nat) (all : List Oper) : List Oper → Nat → FFr → Store → Option (FFr × Store)
  | [], _, fr, st => some (fr, st)
  | o :: rest, i, fr, st => (match fWanted A all fr o with
    | some true => (match fevals E.globals A fr o.op.operands.toList with
      | none => none
      | some ins => (match aout E call (A.mode rid i) o ins st with
        | some r => (match fput A fr o.op o.dst r.1 with
          | some fr' => fops E call A rid all rest (i + 1) fr' r.2
          | none => none)
        | none => none))
    | some false => (match fputNone A fr o.dst with
      | some fr' => fops E call A rid all rest (i + 1) fr' st
      | none => none)
    | none => none)
noncomputable def fopsL (E : Env) (call : Caller) (A : FAnn) (rid : Nat) (all : List Oper) : List Oper → List Nat → Nat → FFr → Store → Option (FFr × Store)
  | [], _, _, fr, st => some (fr, st)
  | o :: rest, ls, i, fr, st => (match ls with
    | [] => none
    | l :: ls => (match fWanted A all fr o with
      | some true => (match fevals E.globals A fr o.op.operands.toList with
        | none => none
        | some ins => (match aout E call (A.mode rid i) o ins st with
          | some r => (match fput A fr o.op o.dst r.1 with
            | some fr' => Bool.rec (Bool.rec none (fopsL E call A rid all rest ls (i + 1) fr' r.2) (Nat.ble (labOp E.L (A.mode rid i) o.op ins) l)) (fopsL E call A rid all rest ls (i + 1) fr' r.2) (Nat.beq l 2)
            | none => none)
          | none => none))
      | some false => (match fputNone A fr o.dst with
        | some fr' => fopsL E call A rid all rest ls (i + 1) fr' st
        | none => none)
      | none => none))

section
variable {E : Env} {call : Caller} {A : FAnn} {ff ff' : FFr} {fr : AFr}
theorem feval_ok (h : FRel A ff fr) {x : Operand} {i : In} (he : feval E.globals A ff x = some i) : aeval E.globals A.ann fr x = some i := by
  cases x with
  | tmp t =>
    simp only [feval] at he
    simp only [aeval, FAnn.ann]
    cases hb : A.base t with
    | none =>
      simp only [hb] at he
      split at he
      · rename_i v hv
        simp only [h.t t v hv, Option.map_some]; exact he
      · cases he
    | some b =>
      simp only [hb] at he
      split at he
      · rename_i cs hcs
        split at he
        · rename_i off hoff
          obtain ⟨_, h1, o, h2⟩ := h.bx b cs hcs
          simp only [h2, h.of t off hoff, h1]; exact he
        · cases he
      · cases he
  | const v =>
    simp only [feval] at he
    simp only [aeval]
    split at he
    · rename_i x hx; simp only [hx, Option.map_some]; exact he
    · cases he
  | global k =>
    simp only [feval] at he
    simp only [aeval]
    split at he
    · rename_i x hx; simp only [hx, Option.map_some]; exact he
    · cases he
  | func f => exact he
theorem fevals_ok (h : FRel A ff fr) : ∀ {xs : List Operand} {ins : List In}, fevals E.globals A ff xs = some ins → aevals E.globals A.ann fr xs = some ins
  | [], ins, he => he
  | x :: xs, ins, he => by
    simp only [fevals] at he
    split at he
    · rename_i v hv
      split at he
      · rename_i vs hvs
        simp only [aevals, feval_ok h hv, fevals_ok h hvs]; exact he
      · cases he
    · cases he
theorem FRel.setT (h : FRel A ff fr) {d : Nat} (hd : d < ff.n) (v : AV) : FRel A { ff with t := ff.t.set d v } { fr with tmps := fr.tmps.set d v } := by
  have hl := h.low
  refine ⟨h.low, by simp [h.lt], h.lo, h.ll, fun t ht => ?_, fun t y ht => ?_, h.of, h.bx⟩
  · show (fr.tmps.set d v)[t]? = some (match (Tr.putF (some v) 13 ff.t d).get t with | some v => v | none => aundef)
    rw [Tr.get_put_if _ _ (by omega)]
    by_cases e : t = d
    · subst e
      rw [if_pos rfl]
      exact List.getElem?_set_self (by rw [h.lt]; exact hd)
    · rw [if_neg e, List.getElem?_set_ne (fun e' => e e'.symm)]
      exact h.ex t ht
  · rcases Tr.get_set (by omega) ht with ⟨rfl, rfl⟩ | ⟨e, h1⟩
    · exact hd
    · exact h.hi t y h1
theorem fputNone_ok (h : FRel A ff fr) {dst : Option Tmp} (he : fputNone A ff dst = some ff') : ∃ fr', aputNone A.ann fr dst = some fr' ∧ FRel A ff' fr' := by
  cases dst with
  | none => simp only [fputNone, Option.some.injEq] at he; subst he; exact ⟨fr, rfl, h⟩
  | some d =>
    simp only [fputNone] at he
    split at he
    · rename_i hd
      simp only [aputNone, FAnn.ann]
      split at he
      · rename_i hb
        injection he with he; subst he
        exact ⟨_, by simp only [hb], h.setT hd.1 _⟩
      · rename_i b hb
        injection he with he; subst he
        refine ⟨{ fr with offs := fr.offs.set d none }, by simp only [hb], h.low, h.lt, by simp [h.lo], h.ll, h.ex, h.hi, fun t o ht => ?_, fun b cs hb' => ?_⟩
        · have := Tr.get_del_ne hd.2 ht
          rw [List.getElem?_set_ne (fun e => this e.symm)]
          exact h.of t o (Tr.get_del ht)
        · have := Tr.get_del_ne hd.2 hb'
          obtain ⟨q1, q2, q3⟩ := h.bx b cs (Tr.get_del hb')
          exact ⟨q1, q2, by rw [List.getElem?_set_ne (fun e => this e.symm)]; exact q3⟩
    · cases he
theorem fput_ok (hA : A.Ok) (h : FRel A ff fr) {op : Op} {dst : Option Tmp} {out : Out} (he : fput A ff op dst out = some ff') : ∃ fr', aput A.ann fr op dst out = some fr' ∧ FRel A ff' fr' := by
  have hl := h.low
  cases out with
  | val v =>
    cases dst with
    | none => simp only [fput, Option.some.injEq] at he; subst he; exact ⟨fr, rfl, h⟩
    | some d =>
      simp only [fput] at he
      simp only [aput, FAnn.ann]
      split at he
      · rename_i hb
        cases hd : Nat.blt d ff.n with
        | false => rw [hd] at he; cases he
        | true =>
          rw [hd] at he
          injection he with he; subst he
          exact ⟨_, by simp only [hb], h.setT (Nat.le_of_ble_eq_true hd) _⟩
      · cases he
  | loc b off =>
    cases dst with
    | none => simp [fput] at he
    | some d =>
      simp only [fput] at he
      split at he
      · rename_i cs hcs
        split at he
        · rename_i hc
          injection he with he; subst he
          have hdn : (d : Nat) < 8000 := Nat.lt_of_lt_of_le hc.2.2 hl
          obtain ⟨q1, q2, o, q3⟩ := h.bx b cs hcs
          refine ⟨{ fr with offs := fr.offs.set d (some off) }, by simp only [aput, q3]; exact if_pos (show A.ann.base d = some b ∧ d ≠ b from ⟨hc.1, hc.2.1⟩), h.low, h.lt, by simp [h.lo], h.ll, h.ex, h.hi, fun t o ht => ?_, fun b' cs' hb' => ?_⟩
          · rcases Tr.get_set hdn ht with ⟨rfl, rfl⟩ | ⟨e, h1⟩
            · exact List.getElem?_set_self (by rw [h.lo]; exact hc.2.2)
            · show (fr.offs.set d (some off))[t]? = _
              rw [List.getElem?_set_ne (fun e' => e e'.symm)]; exact h.of t o h1
          · obtain ⟨p1, p2, p3⟩ := h.bx b' cs' hb'
            have : d ≠ b' := by
              rintro rfl
              rw [hc.1] at p1; injection p1 with p1; exact hc.2.1 p1.symm
            exact ⟨p1, p2, by rw [List.getElem?_set_ne this]; exact p3⟩
        · cases he
      · cases he
  | box cs =>
    cases dst with
    | none => simp [fput] at he
    | some d =>
      simp only [fput] at he
      split at he
      · rename_i hc
        injection he with he; subst he
        have hdn : (d : Nat) < 8000 := Nat.lt_of_lt_of_le hc.2 hl
        refine ⟨{ fr with offs := (purge A.ann d 0 fr.offs).set d (some 0), lbs := fr.lbs.set d cs }, by simp only [aput]; exact if_pos (show A.ann.base d = some d from hc.1), h.low, h.lt, by simp [purge_len, h.lo], by simp [h.ll], h.ex, h.hi, fun t o ht => ?_, fun b' cs' hb' => ?_⟩
        · rcases Tr.get_set hdn ht with ⟨rfl, rfl⟩ | ⟨e, h1⟩
          · exact List.getElem?_set_self (by rw [purge_len, h.lo]; exact hc.2)
          · show ((purge A.ann d 0 fr.offs).set d (some 0))[t]? = _
            rw [List.getElem?_set_ne (fun e' => e e'.symm), purge_getElem]
            have h2 := h.of t o (Tr.get_dels h1)
            have h3 := Tr.get_dels_ne (hA.low d) h1
            have h4 : A.base (0 + t) ≠ some d := by
              rw [Nat.zero_add]
              intro hb
              rcases hA.subs t d hb with q | q
              · exact e q
              · exact h3 q
            rw [h2]; exact congrArg some (if_neg (show ¬ A.ann.base (0 + t) = some d from h4))
        · rcases Tr.get_set hdn hb' with ⟨rfl, rfl⟩ | ⟨e, h1⟩
          · exact ⟨hc.1, List.getElem?_set_self (by rw [h.ll]; exact hc.2), 0, List.getElem?_set_self (by rw [purge_len, h.lo]; exact hc.2)⟩
          · obtain ⟨p1, p2, o, p3⟩ := h.bx b' cs' h1
            refine ⟨p1, (List.getElem?_set_ne (fun e' => e e'.symm)).trans p2, o, ?_⟩
            show ((purge A.ann d 0 fr.offs).set d (some 0))[b']? = _
            rw [List.getElem?_set_ne (fun e' => e e'.symm), purge_getElem]
            have h4 : A.base (0 + b') ≠ some d := by
              rw [Nat.zero_add, p1]; intro hh; injection hh with hh; exact e hh
            rw [p3]; exact congrArg some (if_neg (show ¬ A.ann.base (0 + b') = some d from h4))
      · cases he
  | lst b cs =>
    cases dst with
    | some d => simp [fput] at he
    | none =>
      simp only [fput] at he
      split at he
      · rename_i ty t v
        split at he
        · rename_i cs0 hcs
          split at he
          · rename_i hc
            injection he with he; subst he
            obtain ⟨q1, q2, o, q3⟩ := h.bx b cs0 hcs
            have hbn : b < ff.n := by rw [← h.ll]; exact (List.getElem?_eq_some_iff.1 q2).1
            refine ⟨{ fr with lbs := fr.lbs.set b cs }, by simp only [aput, q3]; exact if_pos (show A.ann.base t = some b ∧ A.ann.base b = some b from ⟨hc, q1⟩), h.low, h.lt, h.lo, by simp [h.ll], h.ex, h.hi, h.of, fun b' cs' hb' => ?_⟩
            rcases Tr.get_set (by omega) hb' with ⟨rfl, rfl⟩ | ⟨e, h1⟩
            · exact ⟨q1, List.getElem?_set_self (by rw [h.ll]; exact hbn), o, q3⟩
            · obtain ⟨p1, p2, p3⟩ := h.bx b' cs' h1
              exact ⟨p1, (List.getElem?_set_ne (fun e' => e e'.symm)).trans p2, p3⟩
          · cases he
        · cases he
      · cases he
theorem fYield_ok (h : FRel A ff fr) {ops : List Oper} {j : Nat} {r : Option Bool} (he : fYield ops ff A j = some r) : aYield ops fr A.ann j = some r := by
  unfold fYield at he
  unfold aYield
  split at he
  · rename_i hn; simp only [hn]; exact he
  · rename_i o ho
    simp only [ho]
    split at he
    · rename_i hd; simp only [hd]; exact he
    · rename_i d hd
      simp only [hd, FAnn.ann]
      split at he
      · cases he
      · rename_i hb
        simp only [hb]
        split at he
        · rename_i b hx; simp only [h.t d _ hx]; exact he
        · rename_i vs hx; simp only [h.t d _ hx]; exact he
        · cases he
theorem fWanted_ok (h : FRel A ff fr) {ops : List Oper} {o : Oper} {r : Bool} (he : fWanted A ops ff o = some r) : aWanted A.ann ops fr o = some r := by
  unfold fWanted at he
  unfold aWanted
  split at he
  · rename_i hg; simp only [hg]; exact he
  · rename_i j want hg
    simp only [hg]
    split at he
    · rename_i y hy
      simp only [fYield_ok h hy, Option.map_some]; exact he
    · cases he
theorem fops_ok (hA : A.Ok) {rid : Nat} {all : List Oper} : ∀ {rest : List Oper} {i : Nat} {ff : FFr} {fr : AFr} {st : Store} {r : FFr × Store}, FRel A ff fr → fops E call A rid all rest i ff st = some r → ∃ fr', aops E call A.ann rid all rest i fr st = some (fr', r.2) ∧ FRel A r.1 fr'
  | [], i, ff, fr, st, r, h, he => by
    simp only [fops, Option.some.injEq] at he; subst he
    exact ⟨fr, rfl, h⟩
  | o :: rest, i, ff, fr, st, r, h, he => by
    simp only [fops] at he
    split at he
    · rename_i hw
      split at he
      · cases he
      · rename_i ins hins
        split at he
        · rename_i q hq
          split at he
          · rename_i ff1 hp
            obtain ⟨fr1, h1, h2⟩ := fput_ok hA h hp
            obtain ⟨fr2, h3, h4⟩ := fops_ok hA h2 he
            refine ⟨fr2, ?_, h4⟩
            have hq' : aout E call (A.ann.mode rid i) o ins st = some q := hq
            simp only [aops, fWanted_ok h hw, aoper, fevals_ok h hins, hq', h1]
            exact h3
          · cases he
        · cases he
    · rename_i hw
      split at he
      · rename_i ff1 hp
        obtain ⟨fr1, h1, h2⟩ := fputNone_ok h hp
        obtain ⟨fr2, h3, h4⟩ := fops_ok hA h2 he
        exact ⟨fr2, by simp only [aops, fWanted_ok h hw, h1]; exact h3, h4⟩
      · cases he
    · cases he
theorem fopsL_ok (hA : A.Ok) {rid : Nat} {all : List Oper} : ∀ {rest : List Oper} {ls : List Nat} {i : Nat} {ff : FFr} {fr : AFr} {st : Store} {r : FFr × Store}, FRel A ff fr → fopsL E call A rid all rest ls i ff st = some r →
    ∃ fr' fs, aopsF E call A.ann rid all rest i fr st = some (fr', r.2, fs) ∧ FRel A r.1 fr' ∧ ∀ k, fs.getD k 2 ≤ (ls.take rest.length).getD k 2
  | [], ls, i, ff, fr, st, r, h, he => by
    simp only [fopsL, Option.some.injEq] at he; subst he
    exact ⟨fr, [], rfl, h, fun k => by simp⟩
  | o :: rest, [], i, ff, fr, st, r, h, he => by simp [fopsL] at he
  | o :: rest, l :: ls, i, ff, fr, st, r, h, he => by
    simp only [fopsL] at he
    split at he
    · rename_i hw
      split at he
      · cases he
      · rename_i ins hins
        split at he
        · rename_i q hq
          split at he
          · rename_i ff1 hp
            obtain ⟨fr1, h1, h2⟩ := fput_ok hA h hp
            have hq' : aout E call (A.ann.mode rid i) o ins st = some q := hq
            have hlab : labOp E.L (A.ann.mode rid i) o.op ins ≤ 2 := by
              unfold labOp; split
              · omega
              · split <;> omega
            have key : fopsL E call A rid all rest ls (i + 1) ff1 q.2 = some r ∧ labOp E.L (A.ann.mode rid i) o.op ins ≤ l := by
              cases h2' : Nat.beq l 2 with
              | true =>
                rw [h2'] at he
                have := Nat.eq_of_beq_eq_true h2'
                exact ⟨he, by omega⟩
              | false =>
                rw [h2'] at he
                cases hle : Nat.ble (labOp E.L (A.mode rid i) o.op ins) l with
                | false => simp only [hle] at he; cases he
                | true => simp only [hle] at he; exact ⟨he, Nat.le_of_ble_eq_true hle⟩
            obtain ⟨fr2, fs, h3, h4, h5⟩ := fopsL_ok hA h2 key.1
            refine ⟨fr2, labOp E.L (A.ann.mode rid i) o.op ins :: fs, ?_, h4, fun k => ?_⟩
            · simp only [aopsF, fWanted_ok h hw, fevals_ok h hins, hq', h1, h3]
            · cases k with
              | zero => simpa using key.2
              | succ k => simpa using h5 k
          · cases he
        · cases he
    · rename_i hw
      split at he
      · rename_i ff1 hp
        obtain ⟨fr1, h1, h2⟩ := fputNone_ok h hp
        obtain ⟨fr2, fs, h3, h4, h5⟩ := fopsL_ok hA h2 he
        refine ⟨fr2, 0 :: fs, by simp only [aopsF, fWanted_ok h hw, h1, h3], h4, fun k => ?_⟩
        cases k with
        | zero => simp
        | succ k => simpa using h5 k
      · cases he
    · cases he
theorem labsOk_mono {a b a' b' : Nat} (h : labsOk a b = true) (ha : a' ≤ a) (hb : b' ≤ b) : labsOk a' b' = true := by
  simp only [labsOk, Bool.or_eq_true, beq_iff_eq, Bool.and_eq_true] at h ⊢
  omega
theorem pairsFrom_mono {B : Ann} {all : List Oper} {cl fs gs : List Nat} {i : Nat} {x : Oper} {fx gx : Nat} (hx : gx ≤ fx) (hf : ∀ k, gs.getD k 2 ≤ fs.getD k 2) : ∀ (r : List Oper) (j : Nat), pairsFrom B all cl fs i x fx r j = true → pairsFrom B all cl gs i x gx r j = true
  | [], _, _ => rfl
  | y :: r, j, h => by
    simp only [pairsFrom, Bool.and_eq_true, Bool.or_eq_true] at h ⊢
    exact ⟨h.1.imp id fun q => ⟨labsOk_mono q.1 hx (hf j), q.2⟩, pairsFrom_mono hx hf r (j + 1) h.2⟩
theorem pairsOk_mono {B : Ann} {all : List Oper} {cl fs gs : List Nat} (hf : ∀ k, gs.getD k 2 ≤ fs.getD k 2) : ∀ (r : List Oper) (i : Nat), pairsOk B all cl fs r i = true → pairsOk B all cl gs r i = true
  | [], _, _ => rfl
  | x :: r, i, h => by
    simp only [pairsOk, Bool.and_eq_true] at h ⊢
    exact ⟨pairsFrom_mono (hf i) hf r (i + 1) h.1, pairsOk_mono hf r (i + 1) h.2⟩
/-- A drawn region is in order, by these kinds. -/
def drawOk (A : FAnn) (rid : Nat) (all : List Oper) : Bool := match A.labs rid with
  | none => true
  | some ls => backOk 0 (all.map anyEdges) && (Nat.beq ls.length all.length && pairsOk A.ann all (closure [] (all.map anyEdges)) ls all 0)
noncomputable def fdraw (E : Env) (call : Caller) (A : FAnn) (rid : Nat) (all : List Oper) (fr : FFr) (st : Store) : Option (FFr × Store) :=
  match A.labs rid with
  | none => none
  | some ls => fopsL E call A rid all all ls 0 fr st
theorem fdraw_ok (hA : A.Ok) {rid : Nat} {all : List Oper} (hd : drawOk A rid all = true) {st : Store} {r : FFr × Store} (h : FRel A ff fr) (he : fdraw E call A rid all ff st = some r) : ∃ fr', adraw E call A.ann rid all fr st = some (fr', r.2) ∧ FRel A r.1 fr' := by
  unfold fdraw at he
  unfold drawOk at hd
  split at he
  · cases he
  · rename_i ls hls
    simp only [hls, Bool.and_eq_true] at hd
    obtain ⟨hb, hlen, hp⟩ := hd
    obtain ⟨fr', fs, h1, h2, h3⟩ := fopsL_ok hA h he
    have hlen := Nat.eq_of_beq_eq_true hlen
    rw [← hlen, List.take_length] at h3
    refine ⟨fr', ?_, h2⟩
    unfold adraw
    rw [if_pos hb]
    simp only [h1]
    rw [if_pos (pairsOk_mono h3 _ _ hp)]
end
end Go.Sim

namespace Go.Sim

noncomputable def floop (body : FFr → Store → Option (AEx × FFr × Store)) : Nat → FFr → Store → Option (AEx × FFr × Store)
  | 0, _, _ => none
  | n + 1, fr, st => match body fr st with
    | some (.normal, fr', st') => floop body n fr' st'
    | r => r
/-- Temporaries as a loop over a function keeps them. -/
noncomputable def fsnap (A : FAnn) (t : Tr AV) : Nat → Nat → List AV
  | 0, _ => []
  | n + 1, i => (match A.base i with | none => (match t.get i with | some v => v | none => aundef) | some _ => .junk) :: fsnap A t n (i + 1)
def endLoopF (fr : FFr) (st : Store) (o : Nat) : Option (AEx × FFr × Store) := match st.get o with
  | some (.loop s pend f tmps ps as b) => (match s with
    | .busy => none
    | _ => (match jumpEx pend with
      | some ex => some (ex, fr, st.set o (.loop .exhausted pend f tmps ps as b))
      | none => none))
  | _ => none
noncomputable def fcode (E : Env) (call : Caller) (A : FAnn) (f : FuncId) (n : Nat) (rd : Bool) : Code → FFr → Store → Option (AEx × FFr × Store)
  | .skip, fr, st => some (.normal, fr, st)
  | .label _, fr, st => some (.normal, fr, st)
  | .region id ops d, fr, st => (match d with
    | false => (match fops E call A id ops.toList ops.toList 0 fr st with
      | some r => some (.normal, r.1, r.2)
      | none => none)
    | true => (match fdraw E call A id ops.toList fr st with
      | some r => some (.normal, r.1, r.2)
      | none => none))
  | .seq a b, fr, st => (match fcode E call A f n rd a fr st with
    | some (.normal, fr', st') => fcode E call A f n rd b fr' st'
    | r => r)
  | .cond c a b, fr, st => (match feval E.globals A fr c with
    | some (.val (.bool true)) => fcode E call A f n rd a fr st
    | some (.val (.bool false)) => fcode E call A f n rd b fr st
    | _ => none)
  | .block id body, fr, st => (match fcode E call A f n rd body fr st with
    | some (.exit i, fr', st') => if i == id then some (.normal, fr', st') else some (.exit i, fr', st')
    | r => r)
  | .loop body, fr, st => floop (fcode E call A f n rd body) n fr st
  | .exit id, fr, st => some (.exit id, fr, st)
  | .ret, fr, st => some (.ret, fr, st)
  | .rangeFunc it ps assign body, fr, st => (match rd with
    | true => none
    | false => (match feval E.globals A fr it with
      | some (.val (.func (.func k) first cap)) => (match entersF E k with
        | true => (match call (.func (.func k) first cap) [.func (.yield st.nobj) [] []] (st.new (.loop .ready none f (fsnap A fr.t fr.n 0) ps.toList assign body)) with
          | some r => endLoopF fr r.2 st.nobj
          | none => none)
        | false => none)
      | _ => none))
  | _, _, _ => none
/-- All drawn regions are in order. -/
def codeOk (A : FAnn) : Code → Bool
  | .region id ops true => drawOk A id ops.toList
  | .seq a b => codeOk A a && codeOk A b
  | .cond _ a b => codeOk A a && codeOk A b
  | .block _ a => codeOk A a
  | .loop a => codeOk A a
  | _ => true
noncomputable def fresult (E : Env) (A : FAnn) (fr : FFr) (st : Store) : ResultVar → Option AV
  | .tmp t => (match A.base t with
    | none => fr.t.get t
    | some _ => none)
  | .cell a t => (match sizeT E.L t with
    | none => none
    | some sz => (match (match A.base a with
        | some b => (match fr.bx.get b with
          | some cs => (match fr.of.get a with
            | some off => cut cs off sz
            | none => none)
          | none => none)
        | none => (match fr.t.get a with
          | some (.ptr o off) => (st.getCells o).bind (cut · off sz)
          | _ => none) : Option (List AV)) with
      | some cs => mkT E.L t cs
      | none => none))
noncomputable def fresults (E : Env) (A : FAnn) (fr : FFr) (st : Store) : List ResultVar → Option (List AV)
  | [] => some []
  | r :: rs => (match fresult E A fr st r with
    | some v => (match fresults E A fr st rs with
      | some vs => some (v :: vs)
      | none => none)
    | none => none)
noncomputable def argTr : List AV → Nat → Tr AV → Tr AV
  | [], _, t => t
  | v :: vs, i, t => argTr vs (i + 1) (t.set i v)
noncomputable def fenter (fn : Func) (args : List AV) : FFr :=
  { n := max args.length fn.ntmps, t := argTr args 0 .e, of := .e, bx := .e }
noncomputable def ffun (E : Env) (An : FuncId → FAnn) (call : Caller) (n : Nat) (f : FuncId) (args : List AV) (st : Store) : Option (AV × Store) :=
  match E.L.fn f with
  | none => none
  | some fn => (match fn.body with
    | none => none
    | some c => if max args.length fn.ntmps ≤ 8000 then (match fcode E call (An f) f n false c (fenter fn args) st with
      | some (.exit _, _, _) => none
      | some (_, fr, st') => (match fresults E (An f) fr st' fn.results.toList with
        | some [v] => some (v, st')
        | some vs => some (.tuple vs, st')
        | none => none)
      | none => none) else none)
noncomputable def fyield (E : Env) (An : FuncId → FAnn) (call : Caller) (n : Nat) (l : Nat) (args : List AV) (st : Store) : Option (AV × Store) :=
  match st.get l with
  | some (.loop _ _ f tmps params assign body) => (match setParams params args tmps with
    | none => none
    | some tmps' => if tmps'.length ≤ 8000 ∧ codeOk (An f) assign = true then (match fcode E call (An f) f n true assign { n := tmps'.length, t := argTr tmps' 0 .e, of := .e, bx := .e } st with
      | some (.normal, fr1, st1) => (match st1.get l with
        | some (.loop .ready pend f1 tmps1 ps1 as1 b1) => if codeOk (An f) body = true then
          (match fcode E call (An f) f n true body fr1 (st1.set l (.loop .busy pend f1 tmps1 ps1 as1 b1)) with
          | some r => endRoundA r.2.2 l r.1
          | none => none) else none
        | _ => none)
      | _ => none) else none)
  | _ => none
noncomputable def fcall (E : Env) (An : FuncId → FAnn) (pr : Prims) : Nat → AV → List AV → Store → Option (AV × Store)
  | 0, _, _, _ => none
  | n + 1, fv, args, st => (match fv with
    | .func fn first cap => (match fn with
      | .func f => (match pr f with
        | some p => (match p (first ++ args ++ cap) st with
          | some r => some r
          | none => ffun E An (fcall E An pr n) n f (first ++ args ++ cap) st)
        | none => ffun E An (fcall E An pr n) n f (first ++ args ++ cap) st)
      | .yield l => (match first with
        | [] => (match cap with
          | [] => fyield E An (fcall E An pr n) n l args st
          | _ => none)
        | _ => none)
      | _ => none)
    | _ => none)

section
variable {E : Env} {call call' : Caller} {A : FAnn} {ff ff' : FFr} {fr : AFr}
def Refines (call call' : Caller) : Prop := ∀ f args st r, call f args st = some r → call' f args st = some r
theorem aout_mono (hc : Refines call call') {md : Nat} {o : Oper} {ins : List In} {st : Store} {r : Out × Store} (h : aout E call md o ins st = some r) : aout E call' md o ins st = some r := by
  unfold aout at h ⊢
  split at h
  · split at h
    · split at h
      · split at h
        · rename_i q hq
          simp only [hc _ _ _ _ hq]; exact h
        · cases h
      · cases h
    · cases h
    · exact h
  · exact h
theorem fops_mono (hc : Refines call call') {rid : Nat} {all : List Oper} : ∀ {rest : List Oper} {i : Nat} {ff : FFr} {st : Store} {r : FFr × Store}, fops E call A rid all rest i ff st = some r → fops E call' A rid all rest i ff st = some r
  | [], _, _, _, _, h => h
  | o :: rest, i, ff, st, r, h => by
    simp only [fops] at h ⊢
    split at h
    · split at h
      · cases h
      · rename_i ins hins
        split at h
        · rename_i q hq
          split at h
          · rename_i f1 hp
            simp only [aout_mono hc hq, hp]; exact fops_mono hc h
          · cases h
        · cases h
    · split at h
      · rename_i f1 hp; exact fops_mono hc h
      · cases h
    · cases h
theorem fopsL_mono (hc : Refines call call') {rid : Nat} {all : List Oper} : ∀ {rest : List Oper} {ls : List Nat} {i : Nat} {ff : FFr} {st : Store} {r : FFr × Store}, fopsL E call A rid all rest ls i ff st = some r → fopsL E call' A rid all rest ls i ff st = some r
  | [], _, _, _, _, _, h => h
  | o :: rest, [], i, ff, st, r, h => by simp [fopsL] at h
  | o :: rest, l :: ls, i, ff, st, r, h => by
    simp only [fopsL] at h ⊢
    split at h
    · split at h
      · cases h
      · rename_i ins hins
        split at h
        · rename_i q hq
          split at h
          · rename_i f1 hp
            simp only [aout_mono hc hq, hp]
            cases h2 : Nat.beq l 2 with
            | true => rw [h2] at h; exact fopsL_mono hc h
            | false =>
              rw [h2] at h
              cases h3 : Nat.ble (labOp E.L (A.mode rid i) o.op ins) l with
              | true => rw [h3] at h; exact fopsL_mono hc h
              | false => rw [h3] at h; cases h
          · cases h
        · cases h
    · split at h
      · rename_i f1 hp; exact fopsL_mono hc h
      · cases h
    · cases h
theorem fsnap_eq (h : FRel A ff fr) : ∀ (n i : Nat) (xs : List AV), xs.length = n → (∀ t, t < n → xs[t]? = some (match ff.t.get (i + t) with | some v => v | none => aundef)) → fsnap A ff.t n i = snap A.ann i xs
  | 0, i, xs, hl, _ => by
    match xs, hl with
    | [], _ => rfl
  | n + 1, i, xs, hl, hx => by
    match xs, hl with
    | x :: xs, hl =>
      have h0 := hx 0 (by omega)
      simp only [List.getElem?_cons_zero, Option.some.injEq, Nat.add_zero] at h0
      simp only [fsnap, snap, FAnn.ann]
      rw [fsnap_eq h n (i + 1) xs (by simpa using hl) (fun t ht => by
        have := hx (t + 1) (by omega)
        rwa [List.getElem?_cons_succ, show i + (t + 1) = i + 1 + t by omega] at this), ← h0]
      rfl
theorem fcode_ok (hA : A.Ok) (hc : Refines call call') {f n : Nat} {rd : Bool} : ∀ (c : Code), codeOk A c = true → ∀ {ff : FFr} {fr : AFr} {st : Store} {ex : AEx} {ff' : FFr} {st' : Store}, FRel A ff fr → fcode E call A f n rd c ff st = some (ex, ff', st') →
    ∃ fr', acode E call' A.ann f n rd c fr st = some (ex, fr', st') ∧ FRel A ff' fr' := by
  intro c
  induction c with
  | skip =>
    intro _ ff fr st ex ff' st' h he
    simp only [fcode, Option.some.injEq, Prod.mk.injEq] at he
    obtain ⟨rfl, rfl, rfl⟩ := he
    exact ⟨fr, rfl, h⟩
  | label l =>
    intro _ ff fr st ex ff' st' h he
    simp only [fcode, Option.some.injEq, Prod.mk.injEq] at he
    obtain ⟨rfl, rfl, rfl⟩ := he
    exact ⟨fr, rfl, h⟩
  | region id ops d =>
    intro hd ff fr st ex ff' st' h he
    cases d with
    | false =>
      simp only [fcode] at he
      split at he
      · rename_i r hr
        simp only [Option.some.injEq, Prod.mk.injEq] at he
        obtain ⟨rfl, rfl, rfl⟩ := he
        obtain ⟨fr', h1, h2⟩ := fops_ok hA h (fops_mono hc hr)
        exact ⟨fr', by simp only [acode, h1], h2⟩
      · cases he
    | true =>
      simp only [fcode] at he
      split at he
      · rename_i r hr
        simp only [Option.some.injEq, Prod.mk.injEq] at he
        obtain ⟨rfl, rfl, rfl⟩ := he
        have hr' : fdraw E call' A id ops.toList ff st = some r := by
          unfold fdraw at hr ⊢
          split at hr
          · cases hr
          · rename_i ls hls
            exact fopsL_mono hc hr
        obtain ⟨fr', h1, h2⟩ := fdraw_ok hA hd h hr'
        exact ⟨fr', by simp only [acode, h1], h2⟩
      · cases he
  | seq x y ihx ihy =>
    intro hd ff fr st ex ff' st' h he
    simp only [codeOk, Bool.and_eq_true] at hd
    simp only [fcode] at he
    cases hr : fcode E call A f n rd x ff st with
    | none => simp [hr] at he
    | some r =>
      obtain ⟨e1, ff1, st1⟩ := r
      rw [hr] at he
      obtain ⟨fr1, h1, h2⟩ := ihx hd.1 h hr
      cases e1 with
      | normal =>
        obtain ⟨fr2, h3, h4⟩ := ihy hd.2 h2 he
        exact ⟨fr2, by simp only [acode, h1]; exact h3, h4⟩
      | exit id =>
        simp only [Option.some.injEq, Prod.mk.injEq] at he
        obtain ⟨rfl, rfl, rfl⟩ := he
        exact ⟨fr1, by simp only [acode, h1], h2⟩
      | ret =>
        simp only [Option.some.injEq, Prod.mk.injEq] at he
        obtain ⟨rfl, rfl, rfl⟩ := he
        exact ⟨fr1, by simp only [acode, h1], h2⟩
  | cond c x y ihx ihy =>
    intro hd ff fr st ex ff' st' h he
    simp only [codeOk, Bool.and_eq_true] at hd
    simp only [fcode] at he
    split at he
    · rename_i hcv
      obtain ⟨fr1, h1, h2⟩ := ihx hd.1 h he
      exact ⟨fr1, by simp only [acode, feval_ok h hcv]; exact h1, h2⟩
    · rename_i hcv
      obtain ⟨fr1, h1, h2⟩ := ihy hd.2 h he
      exact ⟨fr1, by simp only [acode, feval_ok h hcv]; exact h1, h2⟩
    · cases he
  | block id body ih =>
    intro hd ff fr st ex ff' st' h he
    simp only [fcode] at he
    cases hr : fcode E call A f n rd body ff st with
    | none => simp [hr] at he
    | some r =>
      obtain ⟨e1, ff1, st1⟩ := r
      rw [hr] at he
      obtain ⟨fr1, h1, h2⟩ := ih hd h hr
      cases e1 with
      | normal =>
        simp only [Option.some.injEq, Prod.mk.injEq] at he
        obtain ⟨rfl, rfl, rfl⟩ := he
        exact ⟨fr1, by simp only [acode, h1], h2⟩
      | ret =>
        simp only [Option.some.injEq, Prod.mk.injEq] at he
        obtain ⟨rfl, rfl, rfl⟩ := he
        exact ⟨fr1, by simp only [acode, h1], h2⟩
      | exit i =>
        refine ⟨fr1, ?_, ?_⟩
        · simp only [acode, h1]
          simp only at he
          split at he <;> rename_i hi <;> simp only [Option.some.injEq, Prod.mk.injEq] at he <;> obtain ⟨rfl, rfl, rfl⟩ := he
          · rw [if_pos hi]
          · rw [if_neg hi]
        · simp only at he
          split at he <;> rename_i hi <;> simp only [Option.some.injEq, Prod.mk.injEq] at he <;> obtain ⟨rfl, rfl, rfl⟩ := he <;> exact h2
  | loop body ih =>
    intro hd ff fr st ex ff' st' h he
    simp only [fcode] at he
    simp only [acode]
    have key : ∀ (k : Nat) {ff : FFr} {fr : AFr} {st : Store}, FRel A ff fr → floop (fcode E call A f n rd body) k ff st = some (ex, ff', st') → ∃ fr', aloop (acode E call' A.ann f n rd body) k fr st = some (ex, fr', st') ∧ FRel A ff' fr' := by
      intro k
      induction k with
      | zero => intro ff fr st _ he; simp [floop] at he
      | succ k ihk =>
        intro ff fr st h he
        simp only [floop] at he
        cases hr : fcode E call A f n rd body ff st with
        | none => simp [hr] at he
        | some r =>
          obtain ⟨e1, ff1, st1⟩ := r
          rw [hr] at he
          obtain ⟨fr1, h1, h2⟩ := ih hd h hr
          cases e1 with
          | normal =>
            obtain ⟨fr2, h3, h4⟩ := ihk h2 he
            exact ⟨fr2, by simp only [aloop, h1]; exact h3, h4⟩
          | exit id =>
            simp only [Option.some.injEq, Prod.mk.injEq] at he
            obtain ⟨rfl, rfl, rfl⟩ := he
            exact ⟨fr1, by simp only [aloop, h1], h2⟩
          | ret =>
            simp only [Option.some.injEq, Prod.mk.injEq] at he
            obtain ⟨rfl, rfl, rfl⟩ := he
            exact ⟨fr1, by simp only [aloop, h1], h2⟩
    exact key n h he
  | exit id =>
    intro _ ff fr st ex ff' st' h he
    simp only [fcode, Option.some.injEq, Prod.mk.injEq] at he
    obtain ⟨rfl, rfl, rfl⟩ := he
    exact ⟨fr, rfl, h⟩
  | ret =>
    intro _ ff fr st ex ff' st' h he
    simp only [fcode, Option.some.injEq, Prod.mk.injEq] at he
    obtain ⟨rfl, rfl, rfl⟩ := he
    exact ⟨fr, rfl, h⟩
  | rangeFunc it ps assign body _ _ =>
    intro _ ff fr st ex ff' st' h he
    simp only [fcode] at he
    cases rd with
    | true => cases he
    | false =>
      simp only at he
      split at he
      · rename_i k first cap hcv
        split at he
        · rename_i hent
          split at he
          · rename_i r hr
            have hs : fsnap A ff.t ff.n 0 = snap A.ann 0 fr.tmps := by
              refine fsnap_eq h ff.n 0 fr.tmps (by rw [h.lt]) fun t ht => ?_
              rw [Nat.zero_add]; exact h.ex t ht
            rw [hs] at hr
            refine ⟨fr, ?_, ?_⟩
            · simp only [acode, Bool.false_eq_true, if_false, feval_ok h hcv, hent, if_true, hc _ _ _ _ hr]
              unfold endLoopF at he
              unfold endLoopA
              split at he
              · rename_i s pend f' tmps ps' as b hg
                simp only [hg]
                split at he
                · cases he
                · rename_i hnb
                  split at he
                  · rename_i ex' hj
                    simp only [Option.some.injEq, Prod.mk.injEq] at he
                    obtain ⟨rfl, rfl, rfl⟩ := he
                    cases s <;> first | exact absurd rfl hnb | simp only [hj]
                  · cases he
              · cases he
            · unfold endLoopF at he
              split at he
              · split at he
                · cases he
                · split at he
                  · simp only [Option.some.injEq, Prod.mk.injEq] at he
                    obtain ⟨_, rfl, _⟩ := he
                    exact h
                  · cases he
              · cases he
          · cases he
        · cases he
      · cases he
  | _ =>
    intro _ ff fr st ex ff' st' h he
    simp [fcode] at he
theorem fresult_ok (h : FRel A ff fr) {st : Store} {r : ResultVar} {v : AV} (he : fresult E A ff st r = some v) : aresult E A.ann fr st r = some v := by
  cases r with
  | tmp t =>
    simp only [fresult] at he
    split at he
    · rename_i hb
      have hb' : A.ann.base t = none := hb
      simp only [aresult, hb']; exact h.t t v he
    · cases he
  | cell a t =>
    simp only [fresult] at he
    split at he
    · cases he
    · rename_i sz hsz
      split at he
      · rename_i cs hcs
        split at hcs
        · rename_i b hb
          have hb' : A.ann.base a = some b := hb
          split at hcs
          · rename_i cs1 hcs1
            split at hcs
            · rename_i off hoff
              obtain ⟨_, h1, o, h2⟩ := h.bx b cs1 hcs1
              simp only [aresult, hsz, hb', h2, h.of a off hoff, h1, hcs]; exact he
            · cases hcs
          · cases hcs
        · rename_i hb
          have hb' : A.ann.base a = none := hb
          split at hcs
          · rename_i o off ho
            simp only [aresult, hsz, hb', h.t a _ ho, hcs]; exact he
          · cases hcs
      · cases he
theorem fresults_ok (h : FRel A ff fr) {st : Store} : ∀ {rs : List ResultVar} {vs : List AV}, fresults E A ff st rs = some vs → aresults E A.ann fr st rs = some vs
  | [], vs, he => he
  | r :: rs, vs, he => by
    simp only [fresults] at he
    split at he
    · rename_i v hv
      split at he
      · rename_i ws hws
        simp only [aresults, fresult_ok h hv, fresults_ok h hws]; exact he
      · cases he
    · cases he
theorem argTr_get : ∀ (vs : List AV) (i : Nat) (t : Tr AV) (k : Nat), i + vs.length ≤ 8000 → (argTr vs i t).get k = if i ≤ k ∧ k < i + vs.length then vs[k - i]? else t.get k
  | [], i, t, k, _ => by
    rw [if_neg (by simp only [List.length_nil]; omega)]; rfl
  | v :: vs, i, t, k, hl => by
    simp only [List.length_cons] at hl ⊢
    rw [argTr, argTr_get vs (i + 1) (t.set i v) k (by omega)]
    by_cases h1 : i + 1 ≤ k ∧ k < i + 1 + vs.length
    · rw [if_pos h1, if_pos (by omega), show k - i = (k - (i + 1)) + 1 by omega, List.getElem?_cons_succ]
    · rw [if_neg h1, Tr.set, Tr.get_put_if _ _ (by omega)]
      by_cases h2 : k = i
      · subst h2
        rw [if_pos rfl, if_pos (by omega)]; simp
      · rw [if_neg h2, if_neg (by omega)]
theorem fenter_ok {fn : Func} {args : List AV} (hl : max args.length fn.ntmps ≤ 8000) : FRel A (fenter fn args) (aenter fn args) := by
  have hget : ∀ t, (argTr args 0 (.e : Tr AV)).get t = if t < args.length then args[t]? else none := by
    intro t
    rw [argTr_get args 0 .e t (by omega), Tr.get_e]
    by_cases h : t < args.length
    · rw [if_pos (by omega), if_pos h, Nat.sub_zero]
    · rw [if_neg (by omega), if_neg h]
  refine ⟨hl, by simp [aenter, fenter]; omega, by simp [aenter, fenter], by simp [aenter, fenter], fun t ht => ?_, fun t v ht => ?_, fun t o ht => ?_, fun b cs hb => ?_⟩
  rotate_left 2
  · cases ht
  · cases hb
  · simp only [aenter, fenter, hget]
    by_cases h : t < args.length
    · rw [if_pos h, List.getElem?_append_left h, List.getElem?_eq_getElem h]
    · rw [if_neg h, List.getElem?_append_right (by omega)]
      have : t < max args.length fn.ntmps := ht
      rw [List.getElem?_replicate, if_pos (by omega)]
  · have h1 : (argTr args 0 (.e : Tr AV)).get t = some v := ht
    rw [hget] at h1
    show t < max args.length fn.ntmps
    split at h1
    · omega
    · cases h1
theorem fround_ok {tmps : List AV} (hl : tmps.length ≤ 8000) : FRel A { n := tmps.length, t := argTr tmps 0 .e, of := .e, bx := .e } { tmps := tmps, offs := List.replicate tmps.length none, lbs := List.replicate tmps.length [] } := by
  have hget : ∀ t, (argTr tmps 0 (.e : Tr AV)).get t = if t < tmps.length then tmps[t]? else none := by
    intro t
    rw [argTr_get tmps 0 .e t (by omega), Tr.get_e]
    by_cases h : t < tmps.length
    · rw [if_pos (by omega), if_pos h, Nat.sub_zero]
    · rw [if_neg (by omega), if_neg h]
  refine ⟨hl, rfl, by simp, by simp, fun t ht => ?_, fun t v ht => ?_, fun t o ht => ?_, fun b cs hb => ?_⟩
  rotate_left 2
  · cases ht
  · cases hb
  · have h : t < tmps.length := ht
    simp only [hget]
    rw [if_pos h, List.getElem?_eq_getElem h]
  · have h1 : (argTr tmps 0 (.e : Tr AV)).get t = some v := ht
    rw [hget] at h1
    split at h1
    · assumption
    · cases h1
/-- How all functions are read, and that it is in order. -/
structure FOk (E : Env) (An : FuncId → FAnn) : Prop where
  ann : ∀ f, (An f).Ok
  code : ∀ f fn c, E.L.fn f = some fn → fn.body = some c → codeOk (An f) c = true
theorem ffun_ok {An : FuncId → FAnn} (hO : FOk E An) (hc : Refines call call') {n f : Nat} {args : List AV} {st : Store} {r : AV × Store} (h : ffun E An call n f args st = some r) : afun E (fun f => (An f).ann) call' n f args st = some r := by
  unfold ffun at h
  unfold afun
  split at h
  · cases h
  · rename_i fn hf
    simp only [hf]
    split at h
    · cases h
    · rename_i c hb
      simp only [hb]
      split at h
      · rename_i hl
        split at h
        · cases h
        · rename_i ex fr st' hne hcode
          obtain ⟨fr', h1, h2⟩ := fcode_ok (hO.ann f) hc (f := f) c (hO.code f fn c hf hb) (fenter_ok hl) hcode
          simp only [h1]
          cases ex with
          | exit id => exact absurd rfl (hne id)
          | normal =>
            split at h
            · rename_i v hv; simp only [fresults_ok h2 hv]; exact h
            · rename_i vs hns hv
              rw [fresults_ok h2 hv]
              split
              · rename_i v e; injection e with e; subst e; exact absurd rfl (hns v)
              · rename_i vs' _ e; injection e with e; subst e; exact h
              · rename_i e; cases e
            · cases h
          | ret =>
            split at h
            · rename_i v hv; simp only [fresults_ok h2 hv]; exact h
            · rename_i vs hns hv
              rw [fresults_ok h2 hv]
              split
              · rename_i v e; injection e with e; subst e; exact absurd rfl (hns v)
              · rename_i vs' _ e; injection e with e; subst e; exact h
              · rename_i e; cases e
            · cases h
        · cases h
      · cases h
theorem fyield_ok {An : FuncId → FAnn} (hO : FOk E An) (hc : Refines call call') {n l : Nat} {args : List AV} {st : Store} {r : AV × Store} (h : fyield E An call n l args st = some r) : ayield E (fun f => (An f).ann) call' n l args st = some r := by
  unfold fyield at h
  unfold ayield
  split at h
  · rename_i s pend f tmps ps assign body hg
    simp only [hg]
    split at h
    · cases h
    · rename_i tmps' hset
      simp only [hset]
      split at h
      · rename_i hl
        split at h
        · rename_i fr1 st1 hac
          obtain ⟨fa1, h1, h2⟩ := fcode_ok (hO.ann f) hc (f := f) assign hl.2 (fround_ok hl.1) hac
          simp only [h1]
          split at h
          · rename_i pend1 f1 tmps1 ps1 as1 b1 hg1
            simp only [hg1]
            split at h
            · rename_i hb
              split at h
              · rename_i q hq
                obtain ⟨fa2, h3, h4⟩ := fcode_ok (hO.ann f) hc (f := f) body hb h2 (ex := q.1) (ff' := q.2.1) (st' := q.2.2) hq
                simp only [h3]; exact h
              · cases h
            · cases h
          · cases h
        · cases h
      · cases h
  · cases h
/-- **WHAT THE KERNEL READS IS WHAT IS READ.** -/
theorem fcall_ok {An : FuncId → FAnn} (hO : FOk E An) {pr : Prims} : ∀ n, Refines (fcall E An pr n) (acall E (fun f => (An f).ann) pr n)
  | 0 => fun f args st r h => by simp [fcall] at h
  | n + 1 => by
    intro fv args st r h
    have ih := fcall_ok hO (pr := pr) n
    simp only [fcall] at h
    split at h
    · rename_i fn first cap
      split at h
      · rename_i f
        change (match pr f with
          | some p => (match p (first ++ args ++ cap) st with
            | some r => some r
            | none => afun E (fun f => (An f).ann) (acall E (fun f => (An f).ann) pr n) n f (first ++ args ++ cap) st)
          | none => afun E (fun f => (An f).ann) (acall E (fun f => (An f).ann) pr n) n f (first ++ args ++ cap) st) = some r
        split at h
        · split at h
          · exact h
          · exact ffun_ok hO ih h
        · exact ffun_ok hO ih h
      · rename_i l
        split at h
        · split at h
          · exact fyield_ok hO ih h
          · cases h
        · cases h
      · cases h
    · cases h
end
end Go.Sim

namespace Go.Sim

section
variable {α : Type}
noncomputable def mkTr (l : List (Nat × α)) : Tr α := l.foldl (fun t p => t.set p.1 p.2) .e
theorem mkTr_get {l : List (Nat × α)} {k : Nat} {v : α} (hl : ∀ p ∈ l, p.1 < 8000) (h : (mkTr l).get k = some v) : (k, v) ∈ l := by
  have key : ∀ (l : List (Nat × α)) (t : Tr α), (∀ p ∈ l, p.1 < 8000) → (l.foldl (fun t p => t.set p.1 p.2) t).get k = some v → (k, v) ∈ l ∨ t.get k = some v := by
    intro l
    induction l with
    | nil => intro t _ h; exact .inr h
    | cons p l ih =>
      intro t hl h
      rcases ih (t.set p.1 p.2) (fun q hq => hl q (List.mem_cons_of_mem _ hq)) h with h1 | h1
      · exact .inl (List.mem_cons_of_mem _ h1)
      · rcases Tr.get_set (hl p List.mem_cons_self) h1 with ⟨h2, h3⟩ | ⟨_, h2⟩
        · exact .inl (by rw [h2, h3]; exact List.mem_cons_self)
        · exact .inr h2
  rcases key l .e hl h with h | h
  · exact h
  · cases h
end
/-- One row of the table: boxes; kinds of single operations; kinds in drawn regions. -/
structure FRow where
  base : List (Nat × Nat)
  mode : List (Nat × List (Nat × Nat))
  labs : List (Nat × List Nat)
noncomputable def FRow.ann (r : FRow) : FAnn where
  base := (mkTr r.base).get
  subs b := (r.base.filter (fun p => p.2 == b)).map (·.1)
  mode rid i := match (mkTr r.mode).get rid with
    | some l => (match l.lookup i with
      | some m => m
      | none => 0)
    | none => 0
  labs := (mkTr r.labs).get
def FRow.ok (r : FRow) : Bool := r.base.all fun p => Nat.blt p.1 8000 && (Nat.blt p.2 8000 && (r.base.contains (p.2, p.2) && r.base.all fun q => q.1 != p.2 || q.2 == p.2))
theorem FRow.ok_ok {r : FRow} (h : r.ok = true) : r.ann.Ok := by
  simp only [FRow.ok, List.all_eq_true, Bool.and_eq_true] at h
  have low : ∀ p ∈ r.base, p.1 < 8000 := fun p hp => Nat.le_of_ble_eq_true (h p hp).1
  have mem : ∀ {t b}, r.ann.base t = some b → (t, b) ∈ r.base := fun hb => mkTr_get low hb
  have get_some : ∀ (l : List (Nat × Nat)) (t : Tr Nat) (k : Nat), (∀ p ∈ l, p.1 < 8000) → ((∃ v, (k, v) ∈ l) ∨ (∃ v, t.get k = some v)) → ∃ v, (l.foldl (fun t p => t.set p.1 p.2) t).get k = some v := by
    intro l
    induction l with
    | nil => intro t k _ h; rcases h with ⟨v, h⟩ | h
             · cases h
             · exact h
    | cons p l ih =>
      intro t k hl h
      refine ih (t.set p.1 p.2) k (fun q hq => hl q (List.mem_cons_of_mem _ hq)) ?_
      by_cases hk : k = p.1
      · refine .inr ⟨p.2, ?_⟩
        rw [Tr.set, Tr.get_put_if _ _ (hl p List.mem_cons_self), if_pos hk]
      · rcases h with ⟨v, h⟩ | ⟨v, h⟩
        · rcases List.mem_cons.1 h with h | h
          · exact absurd (congrArg Prod.fst h) hk
          · exact .inl ⟨v, h⟩
        · refine .inr ⟨v, ?_⟩
          rw [Tr.set, Tr.get_put_if _ _ (hl p List.mem_cons_self), if_neg hk]; exact h
  refine ⟨fun t b hb => ?_, fun t b hb => ?_, fun b k hk => ?_⟩
  · have hm := mem hb
    obtain ⟨_, _, h3, h4⟩ := h _ hm
    have h3 : (b, b) ∈ r.base := by simpa using h3
    obtain ⟨v, hv⟩ := get_some r.base .e b low (.inl ⟨b, h3⟩)
    have hv' := mem (show r.ann.base b = some v from hv)
    have := h4 _ hv'
    simp only [bne_self_eq_false, Bool.false_or, beq_iff_eq] at this
    have hv2 : r.ann.base b = some v := hv
    rw [this] at hv2; exact hv2
  · refine .inr ?_
    have := mem hb
    simp only [FRow.ann, List.mem_map, List.mem_filter]
    exact ⟨(t, b), ⟨this, by simp⟩, rfl⟩
  · simp only [FRow.ann, List.mem_map, List.mem_filter] at hk
    obtain ⟨p, ⟨hp, _⟩, rfl⟩ := hk
    exact low p hp
/-- Nothing told. -/
def FRow.none : FRow := ⟨[], [], []⟩
noncomputable def rows (t : Tr FRow) (f : Nat) : FRow := match t.get f with
  | some r => r
  | .none => FRow.none
theorem rows_ok {l : List (Nat × FRow)} (hl : l.all (fun p => Nat.blt p.1 8000 && p.2.ok) = true) (f : Nat) : (rows (mkTr l) f).ann.Ok := by
  simp only [List.all_eq_true, Bool.and_eq_true] at hl
  unfold rows
  split
  · rename_i r hr
    exact FRow.ok_ok (hl _ (mkTr_get (fun p hp => Nat.le_of_ble_eq_true (hl p hp).1) hr)).2
  · exact FRow.ok_ok rfl
end Go.Sim

namespace Go.Sim

/-- What has to do with no memory. -/
def scalar : AV → Bool
  | .bool _ | .int _ _ | .str _ => true
  | _ => false
def eqS : AV → AV → Bool
  | .bool a, .bool b => a == b
  | .int k a, .int l b => k == l && a == b
  | .str a, .str b => a == b
  | _, _ => false
theorem eqS_ok {a b : AV} (h : eqS a b = true) : a = b := by
  unfold eqS at h
  split at h
  · rw [show _ = _ from eq_of_beq h]
  · simp only [Bool.and_eq_true] at h
    rw [eq_of_beq h.1, eq_of_beq h.2]
  · rw [show _ = _ from eq_of_beq h]
  · cases h
def eqArgs : List AV → List AV → Bool
  | [], [] => true
  | a :: as', b :: bs => eqS a b && eqArgs as' bs
  | _, _ => false
theorem eqArgs_ok : ∀ {a b : List AV}, eqArgs a b = true → a = b
  | [], [], _ => rfl
  | x :: a, y :: b, h => by
    simp only [eqArgs, Bool.and_eq_true] at h
    rw [eqS_ok h.1, eqArgs_ok h.2]
  | [], _ :: _, h => by simp [eqArgs] at h
  | _ :: _, [], h => by simp [eqArgs] at h
mutual
/-- What is data that lies there for good. -/
def plainV : AV → Bool
  | .bool _ | .int _ _ | .str _ | .nilptr | .nils | .zsl | .nilmap | .nilFunc | .nilIface => true
  | .row _ _ _ xs => plainVs xs
  | .agg xs => plainVs xs
  | .tuple xs => plainVs xs
  | .iface _ v => plainV v
  | _ => false
def plainVs : List AV → Bool
  | [] => true
  | x :: xs => plainV x && plainVs xs
end
mutual
/-- Rows do not grow any more. -/
def stripV : AV → AV
  | .row sz _ cap xs => .row sz none cap (stripVs xs)
  | .agg xs => .agg (stripVs xs)
  | .tuple xs => .tuple (stripVs xs)
  | .iface t v => .iface t (stripV v)
  | v => v
def stripVs : List AV → List AV
  | [] => []
  | x :: xs => stripV x :: stripVs xs
end
theorem strip_len : ∀ xs : List AV, (stripVs xs).length = xs.length
  | [] => rfl
  | _ :: xs => by simp [stripVs, strip_len xs]
theorem strip_cells (x : AV) : (stripV x).cells = stripVs x.cells := by
  cases x <;> simp [stripV, stripVs, AV.cells]
theorem plain_cells {x : AV} (h : plainV x = true) : plainVs x.cells = true := by
  cases x <;> first | (simpa [plainV, AV.cells] using h) | (simp [plainV, plainVs, AV.cells] at h ⊢; try exact h)
theorem fnApplies_mono {P : Program} {f : FuncId} {args : Array Value} {w : World} {R R' : Value → World → Prop} (h : FnApplies P f args w R) (hr : ∀ v w', R v w' → R' v w') : FnApplies P f args w R' := by
  unfold FnApplies at *
  split at h
  · exact hr _ _ h
  · refine h.mono fun e w'' he => ?_
    cases e with
    | returned v => exact hr _ _ he
    | panicked ch => exact he.elim
    | outgrown => exact he.elim
  · exact h.elim
end Go.Sim

namespace Go.Sim

/-- A call that is given data answers data, and nothing else is known of memory behind it than was before. -/
def PureRun (E : Env) (k : FuncId) (args : List AV) (v : AV) : Prop := ∀ (g : Gh) (st : Store) (w : World) (vals : Array Value), Reps g vals.toList args → Inv g st w → FnApplies E.P k vals w (Post g st w v)

mutual
theorem rep_plain {g g' : Gh} (hi : ∀ b o vs, Imm g b o vs → Imm g' b o vs) : ∀ {u : Value} {v : AV}, Rep g u v → plainV v = true → Rep g' u (stripV v)
  | _, _, .bool b, _ => .bool b
  | _, _, .int k n, _ => .int k n
  | _, _, .str s, _ => .str s
  | _, _, .nilptr, _ => .nilptr
  | _, _, .nils, _ => .nils
  | _, _, .zsl a, _ => .zsl a
  | _, _, .nilmap, _ => .nilmap
  | _, _, .nilFunc, _ => .nilFunc
  | _, _, .nilIface, _ => .nilIface
  | _, _, .row b o n c sz tok cap xs vs hi' he hn hc hz hcap ht, hp =>
    .row b o n c sz none cap (stripVs xs) vs (hi _ _ _ hi') (repE_plain hi he (by simpa [plainV] using hp)) (by rw [strip_len]; exact hn) hc hz hcap (fun _ _ h => by cases h)
  | _, _, .agg cs xs h1 h, hp => .agg cs (stripVs xs) h1 (reps_plain hi h (by simpa [plainV] using hp))
  | _, _, .tuple cs xs h, hp => .tuple cs (stripVs xs) (reps_plain hi h (by simpa [plainV] using hp))
  | _, _, .iface t v x h, hp => .iface t v (stripV x) (rep_plain hi h (by simpa [plainV] using hp))
theorem reps_plain {g g' : Gh} (hi : ∀ b o vs, Imm g b o vs → Imm g' b o vs) : ∀ {u : List Value} {v : List AV}, Reps g u v → plainVs v = true → Reps g' u (stripVs v)
  | _, _, .nil, _ => .nil
  | _, _, .cons v x vs xs h hs, hp => .cons v (stripV x) vs (stripVs xs) (rep_plain hi h (by simp [plainVs] at hp; exact hp.1)) (reps_plain hi hs (by simp [plainVs] at hp; exact hp.2))
theorem repE_plain {g g' : Gh} (hi : ∀ b o vs, Imm g b o vs → Imm g' b o vs) : ∀ {sz : Nat} {u : List Value} {v : List AV}, RepE g sz u v → plainVs v = true → RepE g' sz u (stripVs v)
  | _, _, _, .nil sz, _ => .nil sz
  | _, _, _, .cons sz c x vs xs hl h1 h hs, hp => .cons sz c (stripV x) vs (stripVs xs) hl h1 (by rw [strip_cells]; exact reps_plain hi h (plain_cells (by simp [plainVs] at hp; exact hp.1))) (repE_plain hi hs (by simp [plainVs] at hp; exact hp.2))
end
mutual
theorem strip_strip : ∀ v : AV, stripV (stripV v) = stripV v
  | .row sz tok cap xs => by simp [stripV, strips_strips xs]
  | .agg xs => by simp [stripV, strips_strips xs]
  | .tuple xs => by simp [stripV, strips_strips xs]
  | .iface t v => by simp [stripV, strip_strip v]
  | .bool _ | .int _ _ | .str _ | .nilptr | .ptr _ _ | .rptr _ | .nils | .zsl | .arr .. | .nilmap | .map _ | .func .. | .nilFunc | .nilIface | .uptr .. | .junk => rfl
theorem strips_strips : ∀ vs : List AV, stripVs (stripVs vs) = stripVs vs
  | [] => rfl
  | x :: xs => by simp [stripVs, strip_strip x, strips_strips xs]
end
mutual
theorem plain_strip : ∀ v : AV, plainV v = true → plainV (stripV v) = true
  | .row sz tok cap xs, h => by simp [stripV, plainV] at h ⊢; exact plains_strips xs h
  | .agg xs, h => by simp [stripV, plainV] at h ⊢; exact plains_strips xs h
  | .tuple xs, h => by simp [stripV, plainV] at h ⊢; exact plains_strips xs h
  | .iface t v, h => by simp [stripV, plainV] at h ⊢; exact plain_strip v h
  | .bool _, h | .int _ _, h | .str _, h | .nilptr, h | .ptr _ _, h | .rptr _, h | .nils, h | .zsl, h | .arr .., h | .nilmap, h | .map _, h | .func .., h | .nilFunc, h | .nilIface, h | .uptr .., h | .junk, h => h
theorem plains_strips : ∀ vs : List AV, plainVs vs = true → plainVs (stripVs vs) = true
  | [], _ => rfl
  | x :: xs, h => by
    simp [plainVs] at h
    simp [stripVs, plainVs, plain_strip x h.1, plains_strips xs h.2]
end
theorem rep_strip {g : Gh} {u : Value} {v : AV} (h : Rep g u v) (hp : plainV v = true) : Rep g u (stripV v) := rep_plain (fun _ _ _ h => h) h hp
theorem reps_strip {g : Gh} {u : List Value} {v : List AV} (h : Reps g u v) (hp : plainVs v = true) : Reps g u (stripVs v) := reps_plain (fun _ _ _ h => h) h hp

/-- Where a call begins: no objects; rows' ends as they are. -/
def S0 (ts : List (Nat × TypeId)) : Store := ⟨[], 0, ts, ts.length⟩
/-- What is known of rows alone. -/
def Gh.rows (g : Gh) : Gh := { blk := fun b => match g.blk b with | some (.obj _ _) => none | x => x, dead := fun _ => False }
theorem rows_blk {g : Gh} {b : Nat} {x : GB} (h : g.rows.blk b = some x) : g.blk b = some x ∧ ∀ o n, x ≠ .obj o n := by
  simp only [Gh.rows] at h
  split at h
  · cases h
  · rename_i hx
    exact ⟨h, fun o n e => hx o n (by rw [h, e])⟩
theorem rows_of {g : Gh} {b : Nat} {x : GB} (h : g.blk b = some x) (hx : ∀ o n, x ≠ .obj o n) : g.rows.blk b = some x := by
  simp only [Gh.rows]
  split
  · rename_i o n e; rw [h] at e; injection e with e; exact absurd e (hx o n)
  · exact h
theorem imm_rows {g : Gh} {b o : Nat} {vs : List Value} (h : Imm g b o vs) : Imm g.rows b o vs := by
  rcases h with h | ⟨x, cs, hb, hx, hp⟩
  · exact .inl h
  · refine .inr ⟨x, cs, rows_of hb (fun o n e => by subst e; cases hx), hx, hp⟩
theorem rows_inv {g : Gh} {st : Store} {w : World} (hi : Inv g st w) : Inv g.rows (S0 st.tops) w := by
  refine ⟨rfl, rfl, fun b t s sz tot cs hb => ?_, fun b cs hb => hi.stat b cs (rows_blk hb).1, fun b o tot hb => absurd rfl ((rows_blk hb).2 o tot), fun b b' o n n' hb _ => absurd rfl ((rows_blk hb).2 o n), fun _ h => h.elim⟩
  obtain ⟨h0, c, e, fr, top, k, h1, h2, h3, h4, h5⟩ := hi.row b t s sz tot cs (rows_blk hb).1
  refine ⟨h0, c, e, fr, top, k, h1, h2, h3, ?_, h5⟩
  have := hi.wft
  simpa only [Store.top, S0, this] using h4
/-- What was made in a call lies there for good; what was an object is one. -/
def Gh.back (g g1 : Gh) (n : Nat) (W' : World) : Gh := { blk := fun b => if b < n then (match g.blk b with | some (.obj o m) => some (.obj o m) | _ => g1.blk b) else (match W'.heap[b]? with | some (.cells c _ _) => some (.stat c.toList) | _ => none), dead := g.dead }
section
variable {g g1 : Gh} {st st1 : Store} {W W1 : World}
theorem top_more {ts more : List (Nat × TypeId)} {t : Nat} {x : Nat × TypeId} {s : Store} (hs : s.tops = more ++ ts) (hw : s.tops.length = s.ntop) (ht : (S0 ts).top t = some x) : s.top t = some x := by
  have ht' : (if t < ts.length then ts[ts.length - 1 - t]? else none) = some x := ht
  by_cases hlt : t < ts.length
  · rw [if_pos hlt] at ht'
    have hl : s.ntop = more.length + ts.length := by rw [← hw, hs, List.length_append]
    simp only [Store.top]
    rw [if_pos (by omega), hs, List.getElem?_append_right (by omega)]
    rw [← ht']; congr 1; omega
  · rw [if_neg hlt] at ht'; cases ht'
theorem inv_back (hi : Inv g st W) (ha : Adv g.rows W g1 W1) (hi1 : Inv g1 st1 W1) {more : List (Nat × TypeId)} (hm : st1.tops = more ++ st.tops) :
    Inv (g.back g1 W.heap.size W1) st W1 ∧ Adv g W (g.back g1 W.heap.size W1) W1 ∧ ∀ b o vs, Imm g1 b o vs → Imm (g.back g1 W.heap.size W1) b o vs := by
  have lt : ∀ {b : Nat} {x : GB}, g.blk b = some x → b < W.heap.size := fun h => hi.lt (by rw [h]; simp)
  have oldo : ∀ {b o n : Nat}, g.blk b = some (.obj o n) → (g.back g1 W.heap.size W1).blk b = some (.obj o n) := fun h => by simp only [Gh.back, if_pos (lt h), h]
  have old : ∀ {b : Nat}, b < W.heap.size → (∀ o n, g.blk b ≠ some (.obj o n)) → (g.back g1 W.heap.size W1).blk b = g1.blk b := by
    intro b hb hx
    simp only [Gh.back, if_pos hb]
  have none1 : ∀ {b : Nat}, b < W.heap.size → (g.blk b = none ∨ ∃ o n, g.blk b = some (.obj o n)) → W1.heap[b]? = W.heap[b]? ∧ g1.blk b = none := by
    intro b hb h
    refine ha.keep b hb ?_
    simp only [Gh.rows]
    rcases h with h | ⟨o, n, h⟩
    · rw [h]
    · rw [h]
  have new : ∀ {b : Nat} {x : GB}, ¬ b < W.heap.size → (g.back g1 W.heap.size W1).blk b = some x → ∃ c e fr, W1.heap[b]? = some (.cells c e fr) ∧ x = .stat c.toList := by
    intro b x hb hx
    simp only [Gh.back, if_neg hb] at hx
    split at hx
    · rename_i c e fr hh; injection hx with hx; exact ⟨c, e, fr, hh, hx.symm⟩
    · cases hx
  have cases_ : ∀ (b : Nat), (∃ o n, g.blk b = some (.obj o n)) ∨ (∀ o n, g.blk b ≠ some (.obj o n)) := fun b => by
    by_cases h : ∃ o n, g.blk b = some (.obj o n)
    · exact .inl h
    · exact .inr fun o n e => h ⟨o, n, e⟩
  have hle : Le g (g.back g1 W.heap.size W1) := by
    refine ⟨fun b t s z n cs hb => ?_, fun b cs hb => ?_, fun b o n hb => .inr ⟨n, oldo hb, Nat.le_refl _⟩, fun _ h => h⟩
    · obtain ⟨cs', h1, h2⟩ := ha.le.row b t s z n cs (rows_of hb (by simp))
      exact ⟨cs', (old (lt hb) (by rw [hb]; simp)).trans h1, h2⟩
    · exact (old (lt hb) (by rw [hb]; simp)).trans (ha.le.stat b cs (rows_of hb (by simp)))
  refine ⟨⟨hi.wfo, hi.wft, fun b t s sz tot cs hb => ?_, fun b cs hb => ?_, fun b o tot hb => ?_, fun b b' o n n' hb hb' => ?_, hi.dead⟩, ⟨hle, ha.size, fun b hb hn => ⟨(none1 hb (.inl hn)).1, (old hb (by rw [hn]; simp)).trans (none1 hb (.inl hn)).2⟩, fun b cs hb => ha.stat b cs (rows_of hb (by simp)), ha.os, ha.tape, ha.output⟩, fun b o vs h => ?_⟩
  · by_cases h : b < W.heap.size
    · rcases cases_ b with ⟨o, n, ho⟩ | hno
      · rw [oldo ho] at hb; cases hb
      · rw [old h hno] at hb
        obtain ⟨q0, c, e, fr, top, k, q1, q2, q3, q4, q5⟩ := hi1.row _ _ _ _ _ _ hb
        refine ⟨q0, c, e, fr, top, k, q1, q2, q3, ?_, q5⟩
        cases hgb : g.blk b with
        | none => rw [(none1 h (.inl hgb)).2] at hb; cases hb
        | some x =>
          cases x with
          | obj o n => exact absurd hgb (hno o n)
          | stat cs0 => rw [ha.le.stat b cs0 (rows_of hgb (by simp))] at hb; cases hb
          | row t' s' z' n' cs' =>
            obtain ⟨cs2, h1, h2⟩ := ha.le.row b t' s' z' n' cs' (rows_of hgb (by simp))
            rw [h1] at hb; injection hb with hb; injection hb with e1 e2 e3 e4 e5
            subst e1
            obtain ⟨_, c', e', fr', top', k', p1, p2, p3, p4, p5⟩ := hi.row _ _ _ _ _ _ hgb
            have p4' : (S0 st.tops).top t' = some (top', e') := by
              simpa only [Store.top, S0, hi.wft] using p4
            have := top_more hm hi1.wft p4'
            rw [this] at q4; injection q4 with q4
            rw [← q4]; exact p4
    · obtain ⟨_, _, _, _, q⟩ := new h hb; cases q
  · by_cases h : b < W.heap.size
    · rcases cases_ b with ⟨o, n, ho⟩ | hno
      · rw [oldo ho] at hb; cases hb
      · rw [old h hno] at hb; exact hi1.stat _ _ hb
    · obtain ⟨c, e, fr, q1, q⟩ := new h hb
      injection q with q
      exact ⟨c, e, fr, q1, q.symm⟩
  · by_cases h : b < W.heap.size
    · rcases cases_ b with ⟨o', n', ho⟩ | hno
      · rw [oldo ho] at hb; injection hb with hb; injection hb with e1 e2; subst e1 e2
        obtain ⟨x, q1, q2⟩ := hi.obj _ _ _ ho
        exact ⟨x, q1, (q2.of_same (none1 h (.inr ⟨_, _, ho⟩)).1).mono hle⟩
      · rw [old h hno] at hb
        cases hgb : g.blk b with
        | none => rw [(none1 h (.inl hgb)).2] at hb; cases hb
        | some x =>
          cases x with
          | obj o n => exact absurd hgb (hno o n)
          | stat cs0 => rw [ha.le.stat b cs0 (rows_of hgb (by simp))] at hb; cases hb
          | row t' s' z' n' cs' =>
            obtain ⟨cs2, h1, h2⟩ := ha.le.row b t' s' z' n' cs' (rows_of hgb (by simp))
            rw [h1] at hb; cases hb
    · obtain ⟨_, _, _, _, q⟩ := new h hb; cases q
  · have key : ∀ {b o n : Nat}, (g.back g1 W.heap.size W1).blk b = some (.obj o n) → g.blk b = some (.obj o n) := by
      intro b o n hb
      by_cases h : b < W.heap.size
      · rcases cases_ b with ⟨o', n', ho⟩ | hno
        · rw [oldo ho] at hb; rw [ho]; exact hb
        · rw [old h hno] at hb
          cases hgb : g.blk b with
          | none => rw [(none1 h (.inl hgb)).2] at hb; cases hb
          | some x =>
            cases x with
            | obj o n => exact absurd hgb (hno o n)
            | stat cs0 => rw [ha.le.stat b cs0 (rows_of hgb (by simp))] at hb; cases hb
            | row t' s' z' n' cs' =>
              obtain ⟨cs2, h1, h2⟩ := ha.le.row b t' s' z' n' cs' (rows_of hgb (by simp))
              rw [h1] at hb; cases hb
      · obtain ⟨_, _, _, _, q⟩ := new h hb; cases q
    exact hi.inj _ _ _ _ _ (key hb) (key hb')
  · rcases h with h | ⟨x, cs, hb, hx, hp⟩
    · exact .inl h
    · refine .inr ?_
      by_cases h : b < W.heap.size
      · rcases cases_ b with ⟨o', n', ho⟩ | hno
        · rw [(none1 h (.inr ⟨_, _, ho⟩)).2] at hb; cases hb
        · exact ⟨x, cs, (old h hno).trans hb, hx, hp⟩
      · cases x with
        | row t s z n c0 =>
          injection hx with hx; subst hx
          obtain ⟨_, c, e, fr, _, _, hh, hpre, _⟩ := hi1.row _ _ _ _ _ _ hb
          refine ⟨.stat c.toList, c.toList, ?_, rfl, hp.trans (List.IsPrefix.drop' hpre o)⟩
          simp only [Gh.back, if_neg h, hh]
        | stat c0 =>
          injection hx with hx; subst hx
          obtain ⟨c, e, fr, hh, hc⟩ := hi1.stat _ _ hb
          subst hc
          refine ⟨.stat c.toList, c.toList, ?_, rfl, hp⟩
          simp only [Gh.back, if_neg h, hh]
        | obj _ _ => cases hx
end
/-- **A CALL THAT IS GIVEN DATA AND ANSWERS DATA.** -/
theorem pureRun_of {E : Env} (hmix : E.P.follows .mixedOrders = true) {An : FuncId → Ann} (wf : ∀ f t b, (An f).base t = some b → (An f).base b = some b) (hname : ∀ (f : Nat) fn, E.P.funcs[f]? = some fn → fn.body ≠ none → fn.name ≠ "runtime.NumGoroutine")
    (hgl : ∀ g, GlobOk E g) {k : Nat} {args : List AV} {v : AV} (hp : plainVs args = true) (hs : stripVs args = args)
    (h : ∀ ts : List (Nat × TypeId), ∃ (pr : Prims) (n : Nat) (v' : AV) (st1 : Store) (more : List (Nat × TypeId)), (∀ f p, pr f = some p → PrimOk E f p) ∧ afun E An (acall E An pr n) n k args (S0 ts) = some (v', st1) ∧ st1.tops = more ++ ts ∧ plainV v' = true ∧ stripV v' = v) : PureRun E k args v := by
  intro g st w vals hr hi
  obtain ⟨pr, n, v', st1, more, hpr, h1, h2, h3, h4⟩ := h st.tops
  have hr' : Reps g.rows vals.toList args := by
    have := reps_plain (g' := g.rows) (fun _ _ _ h => imm_rows h) hr hp
    rwa [hs] at this
  have := afun_ok (E := E) (acall_ok hmix wf hname hpr n) hmix wf hname h1 hr' (rows_inv hi) (hgl _)
  refine fnApplies_mono this fun u w' ⟨g1, a1, i1, r1⟩ => ?_
  obtain ⟨i2, a2, im⟩ := inv_back hi a1 i1 h2
  refine ⟨_, a2, i2, ?_⟩
  rw [← h4]
  exact rep_plain im r1 h3

open Classical in
/-- What a call of a function answers, of which something is known. -/
noncomputable def pureP (E : Env) (k : FuncId) (Good : List AV → AV → Prop) (args : List AV) (st : Store) : Option (AV × Store) :=
  if h : plainVs args = true ∧ ∃ v, PureRun E k (stripVs args) v ∧ Good (stripVs args) v then some (Classical.choose h.2, st) else none
theorem pureP_ok {E : Env} {k : FuncId} {Good : List AV → AV → Prop} : PrimOk E k (pureP E k Good) := by
  intro args st v st' h g w vals hr hi _
  unfold pureP at h
  split at h
  · rename_i hh
    injection h with h; injection h with h1 h2
    subst h2
    have := (Classical.choose_spec hh.2).1
    rw [h1] at this
    exact this g st w vals (reps_strip hr hh.1) hi
  · cases h
theorem pureP_some {E : Env} {k : FuncId} {Good : List AV → AV → Prop} {args : List AV} (hp : plainVs args = true) (h : ∃ v, PureRun E k (stripVs args) v ∧ Good (stripVs args) v) (st : Store) : ∃ v, pureP E k Good args st = some (v, st) ∧ Good (stripVs args) v := by
  refine ⟨Classical.choose h, ?_, (Classical.choose_spec h).2⟩
  unfold pureP
  rw [dif_pos ⟨hp, h⟩]
end Go.Sim

namespace Go.Sim

def Gh.zero : Gh := { blk := fun _ => none, dead := fun _ => False }
theorem zero_inv (W : World) : Inv Gh.zero Store.empty W := by
  refine ⟨rfl, rfl, fun b t s sz tot cs h => ?_, fun b cs h => ?_, fun b o tot h => ?_, fun b b' o n n' h _ => ?_, fun _ h => h.elim⟩ <;> cases h
/-- What was made lies there for good. -/
def Gh.with (g : Gh) (n : Nat) (W' : World) : Gh := { blk := fun b => if b < n then g.blk b else (match W'.heap[b]? with | some (.cells c _ _) => some (.stat c.toList) | _ => none), dead := g.dead }
section
variable {g g' : Gh} {st st' : Store} {W W' : World}
theorem imm_with (ha : Adv Gh.zero W g' W') (hi : Inv g' st' W') {b o : Nat} {vs : List Value} (h : Imm g' b o vs) : Imm (g.with W.heap.size W') b o vs := by
  rcases h with h | ⟨x, cs, hb, hx, hp⟩
  · exact .inl h
  · refine .inr ?_
    have hnb : ¬ b < W.heap.size := by
      intro hlt
      have := (ha.keep b hlt rfl).2
      rw [hb] at this; cases this
    cases x with
    | row t s z n c0 =>
      injection hx with hx; subst hx
      obtain ⟨_, c, e, fr, _, _, hh, hpre, _⟩ := hi.row _ _ _ _ _ _ hb
      refine ⟨.stat c.toList, c.toList, ?_, rfl, hp.trans (List.IsPrefix.drop' hpre o)⟩
      simp only [Gh.with, if_neg hnb, hh]
    | stat c0 =>
      injection hx with hx; subst hx
      obtain ⟨c, e, fr, hh, hc⟩ := hi.stat _ _ hb
      subst hc
      refine ⟨.stat c.toList, c.toList, ?_, rfl, hp⟩
      simp only [Gh.with, if_neg hnb, hh]
    | obj _ _ => cases hx
end
mutual
theorem rep_with {g g' : Gh} {st' : Store} {W W' : World} (ha : Adv Gh.zero W g' W') (hi : Inv g' st' W') : ∀ {u : Value} {v : AV}, Rep g' u v → plainV v = true → Rep (g.with W.heap.size W') u (stripV v)
  | _, _, .bool b, _ => .bool b
  | _, _, .int k n, _ => .int k n
  | _, _, .str s, _ => .str s
  | _, _, .nilptr, _ => .nilptr
  | _, _, .nils, _ => .nils
  | _, _, .zsl a, _ => .zsl a
  | _, _, .nilmap, _ => .nilmap
  | _, _, .nilFunc, _ => .nilFunc
  | _, _, .nilIface, _ => .nilIface
  | _, _, .row b o n c sz tok cap xs vs hi' he hn hc hz hcap ht, hp =>
    .row b o n c sz none cap (stripVs xs) vs (imm_with ha hi hi') (repE_with ha hi he (by simpa [plainV] using hp)) (by rw [strip_len]; exact hn) hc hz hcap (fun _ _ h => by cases h)
  | _, _, .agg cs xs h1 h, hp => .agg cs (stripVs xs) h1 (reps_with ha hi h (by simpa [plainV] using hp))
  | _, _, .tuple cs xs h, hp => .tuple cs (stripVs xs) (reps_with ha hi h (by simpa [plainV] using hp))
  | _, _, .iface t v x h, hp => .iface t v (stripV x) (rep_with ha hi h (by simpa [plainV] using hp))
theorem reps_with {g g' : Gh} {st' : Store} {W W' : World} (ha : Adv Gh.zero W g' W') (hi : Inv g' st' W') : ∀ {u : List Value} {v : List AV}, Reps g' u v → plainVs v = true → Reps (g.with W.heap.size W') u (stripVs v)
  | _, _, .nil, _ => .nil
  | _, _, .cons v x vs xs h hs, hp => .cons v (stripV x) vs (stripVs xs) (rep_with ha hi h (by simp [plainVs] at hp; exact hp.1)) (reps_with ha hi hs (by simp [plainVs] at hp; exact hp.2))
theorem repE_with {g g' : Gh} {st' : Store} {W W' : World} (ha : Adv Gh.zero W g' W') (hi : Inv g' st' W') : ∀ {sz : Nat} {u : List Value} {v : List AV}, RepE g' sz u v → plainVs v = true → RepE (g.with W.heap.size W') sz u (stripVs v)
  | _, _, _, .nil sz, _ => .nil sz
  | _, _, _, .cons sz c x vs xs hl h1 h hs, hp => .cons sz c (stripV x) vs (stripVs xs) hl h1 (by rw [strip_cells]; exact reps_with ha hi h (plain_cells (by simp [plainVs] at hp; exact hp.1))) (repE_with ha hi hs (by simp [plainVs] at hp; exact hp.2))
end
theorem inv_with {g g' : Gh} {st : Store} {W W' : World} (hi : Inv g st W) (ha : Adv Gh.zero W g' W') : Inv (g.with W.heap.size W') st W' ∧ Adv g W (g.with W.heap.size W') W' := by
  have lt : ∀ {b : Nat} {x : GB}, g.blk b = some x → b < W.heap.size := fun h => hi.lt (by rw [h]; simp)
  have old : ∀ {b : Nat}, b < W.heap.size → (g.with W.heap.size W').blk b = g.blk b := fun h => by simp only [Gh.with, if_pos h]
  have same : ∀ b, b < W.heap.size → W'.heap[b]? = W.heap[b]? := fun b hb => (ha.keep b hb rfl).1
  have new : ∀ {b : Nat} {x : GB}, ¬ b < W.heap.size → (g.with W.heap.size W').blk b = some x → ∃ c e fr, W'.heap[b]? = some (.cells c e fr) ∧ x = .stat c.toList := by
    intro b x hb hx
    simp only [Gh.with, if_neg hb] at hx
    split at hx
    · rename_i c e fr hh; injection hx with hx; exact ⟨c, e, fr, hh, hx.symm⟩
    · cases hx
  have hle : Le g (g.with W.heap.size W') := by
    refine ⟨fun b t s z n cs hb => ⟨cs, (old (lt hb)).trans hb, List.prefix_rfl⟩, fun b cs hb => (old (lt hb)).trans hb, fun b o n hb => .inr ⟨n, (old (lt hb)).trans hb, Nat.le_refl _⟩, fun _ h => h⟩
  refine ⟨⟨hi.wfo, hi.wft, fun b t s sz tot cs hb => ?_, fun b cs hb => ?_, fun b o tot hb => ?_, fun b b' o n n' hb hb' => ?_, hi.dead⟩, ⟨hle, ha.size, fun b hb hn => ⟨same b hb, (old hb).trans hn⟩, fun b cs hb => same b (lt hb), ha.os, ha.tape, ha.output⟩⟩
  · by_cases h : b < W.heap.size
    · rw [old h] at hb
      obtain ⟨q0, c, e, fr, top, k, q1, q2⟩ := hi.row _ _ _ _ _ _ hb
      exact ⟨q0, c, e, fr, top, k, (same b h).trans q1, q2⟩
    · obtain ⟨_, _, _, _, q⟩ := new h hb; cases q
  · by_cases h : b < W.heap.size
    · rw [old h] at hb
      obtain ⟨c, e, fr, q1, q2⟩ := hi.stat _ _ hb
      exact ⟨c, e, fr, (same b h).trans q1, q2⟩
    · obtain ⟨c, e, fr, q1, q⟩ := new h hb
      injection q with q
      exact ⟨c, e, fr, q1, q.symm⟩
  · by_cases h : b < W.heap.size
    · rw [old h] at hb
      obtain ⟨x, q1, q2⟩ := hi.obj _ _ _ hb
      exact ⟨x, q1, (q2.of_same (same b h)).mono hle⟩
    · obtain ⟨_, _, _, _, q⟩ := new h hb; cases q
  · by_cases h : b < W.heap.size
    · by_cases h' : b' < W.heap.size
      · rw [old h] at hb; rw [old h'] at hb'
        exact hi.inj _ _ _ _ _ hb hb'
      · obtain ⟨_, _, _, _, q⟩ := new h' hb'; cases q
    · obtain ⟨_, _, _, _, q⟩ := new h hb; cases q
theorem scalar_rep {g g' : Gh} {v : Value} {x : AV} (hs : scalar x = true) (h : Rep g v x) : Rep g' v x := by
  cases h <;> first | (cases hs; done) | constructor
theorem scalar_reps {g g' : Gh} : ∀ {vs : List Value} {xs : List AV}, Reps g vs xs → xs.all scalar = true → Reps g' vs xs
  | _, _, .nil, _ => .nil
  | _, _, .cons v x vs xs h hr, hs => by
    simp only [List.all_cons, Bool.and_eq_true] at hs
    exact .cons v x vs xs (scalar_rep hs.1 h) (scalar_reps hr hs.2)

/-- **A CALL THAT IS GIVEN NO MEMORY.** -/
theorem pureRun_scalar {E : Env} (hmix : E.P.follows .mixedOrders = true) {An : FuncId → Ann} (wf : ∀ f t b, (An f).base t = some b → (An f).base b = some b) (hname : ∀ (f : Nat) fn, E.P.funcs[f]? = some fn → fn.body ≠ none → fn.name ≠ "runtime.NumGoroutine")
    (hgl : ∀ g, GlobOk E g) {pr : Prims} (hpr : ∀ f p, pr f = some p → PrimOk E f p) {n k : Nat} {args : List AV} {v : AV} {st1 : Store} (hs : args.all scalar = true) (h : afun E An (acall E An pr n) n k args Store.empty = some (v, st1)) (hp : plainV v = true) : PureRun E k args (stripV v) := by
  intro g st w vals hr hi
  have := afun_ok (E := E) (acall_ok hmix wf hname hpr n) hmix wf hname h (scalar_reps (g' := Gh.zero) hr hs) (zero_inv w) (hgl _)
  refine fnApplies_mono this fun u w' ⟨g', a1, i1, r1⟩ => ?_
  obtain ⟨i2, a2⟩ := inv_with hi a1
  exact ⟨_, a2, i2, rep_with a1 i1 r1 hp⟩
end Go.Sim
