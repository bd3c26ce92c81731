/- Code, functions, calls. -/
import Derived.Test.YtnplidplamoejaaGreatDoorSimX2
set_option linter.unusedVariables false
set_option linter.unusedSimpArgs false
set_option linter.unnecessarySimpa false
namespace Go.Sim

open Classical in
noncomputable def least (p : Nat → Prop) : Nat := if h : ∃ k, p k ∧ ∀ j, p j → k ≤ j then h.choose else 0
theorem least_spec {p : Nat → Prop} (h : ∃ k, p k) : p (least p) ∧ ∀ j, p j → least p ≤ j := by
  have : ∃ k, p k ∧ ∀ j, p j → k ≤ j := by
    obtain ⟨k, hk⟩ := h
    induction k using Nat.strongRecOn with
    | _ k ih =>
      by_cases hj : ∃ j, j < k ∧ p j
      · obtain ⟨j, hlt, hp⟩ := hj
        exact ih j hlt hp
      · exact ⟨k, hk, fun j hp => Nat.le_of_not_lt fun hlt => hj ⟨j, hlt, hp⟩⟩
  unfold least
  rw [dif_pos this]
  exact this.choose_spec
theorem wpIn_loop_fuel {F : Fence} {n : Nat} {P : Program} {Q : Exit → Act → World → Prop} {a : Act} {w : World} {c : Code} (I : Nat → Act → World → Prop) (k : Nat) (h₀ : I k a w)
    (round : ∀ k a w, I k a w → c.wpIn F n P (Exit.then (fun a' w' => ∃ k', k' < k ∧ I k' a' w') Q) a w) : (Code.loop c).wpIn F n P Q a w := by
  refine wpIn_loop (fun a w => ∃ k, I k a w) (fun a w => least fun k => I k a w) ⟨k, h₀⟩ (fun a w h => ?_)
  obtain ⟨h1, h2⟩ := least_spec h
  refine wpIn_mono (round _ a w h1) (fun e a' w' hq => ?_)
  cases e with
  | normal =>
    obtain ⟨k', hlt, hI⟩ := hq
    exact ⟨⟨k', hI⟩, Nat.lt_of_le_of_lt ((least_spec ⟨k', hI⟩).2 k' hI) hlt⟩
  | _ => exact hq

section
variable {E : Env} {call : Caller} {A : Ann} {g g0 : Gh} {B : Nat → Nat} {w w0 : World} {a : Act} {st st' : Store} {fr fr' : AFr} {rd : Option Nat} {rb : Bool}

theorem rep_bool {v : Value} {b : Bool} (h : Rep g v (.bool b)) : v = .bool b := by cases h; rfl
theorem loop_wp {body : AFr → Store → Option (AEx × AFr × Store)} {c : Code} {ex : AEx} {Q : Exit → Act → World → Prop}
    (hb : ∀ fr st ex fr' st', body fr st = some (ex, fr', st') → ∀ g B w a, FS E A g0 w0 g B st w fr a → ∀ Q, Goes E A g0 w0 st' fr' (Q (exitOf ex)) → c.wpIn (FW rd) 0 E.P Q a w)
    (k : Nat) (h : aloop body k fr st = some (ex, fr', st')) (hfs : FS E A g0 w0 g B st w fr a) (hk : Goes E A g0 w0 st' fr' (Q (exitOf ex))) : (Code.loop c).wpIn (FW rd) 0 E.P Q a w := by
  refine wpIn_loop_fuel (fun k a w => ∃ fr1 st1 g B, aloop body k fr1 st1 = some (ex, fr', st') ∧ FS E A g0 w0 g B st1 w fr1 a) k ⟨fr, st, g, B, h, hfs⟩ ?_
  rintro k a w ⟨fr1, st1, g, B, h1, h2⟩
  cases k with
  | zero => simp [aloop] at h1
  | succ k =>
    simp only [aloop] at h1
    cases hr : body fr1 st1 with
    | none => simp [hr] at h1
    | some r =>
      obtain ⟨e2, fr2, st2⟩ := r
      rw [hr] at h1
      cases e2 with
      | normal => exact hb _ _ _ _ _ hr g B w a h2 _ (fun g B w a' h4 => ⟨k, Nat.lt_succ_self k, fr2, st2, g, B, h1, h4⟩)
      | exit id =>
        simp only [Option.some.injEq, Prod.mk.injEq] at h1
        obtain ⟨rfl, rfl, rfl⟩ := h1
        exact hb _ _ _ _ _ hr g B w a h2 _ hk
      | ret =>
        simp only [Option.some.injEq, Prod.mk.injEq] at h1
        obtain ⟨rfl, rfl, rfl⟩ := h1
        exact hb _ _ _ _ _ hr g B w a h2 _ hk
theorem acode_wp (hcall : CallOk E call) (hmix : E.P.follows .mixedOrders = true) (hname : ∀ (f : Nat) fn, E.P.funcs[f]? = some fn → fn.body ≠ none → fn.name ≠ "runtime.NumGoroutine") {f n : Nat} (hrd : rb = false → rd = none) : ∀ (c : Code) (fr : AFr) (st : Store) (ex : AEx) (fr' : AFr) (st' : Store), acode E call A f n rb c fr st = some (ex, fr', st') →
    ∀ g B w a, FS E A g0 w0 g B st w fr a → ∀ Q, Goes E A g0 w0 st' fr' (Q (exitOf ex)) → c.wpIn (FW rd) 0 E.P Q a w := by
  intro c
  induction c with
  | skip =>
    intro fr st ex fr' st' h g B w a hfs Q hk
    simp only [acode, Option.some.injEq, Prod.mk.injEq] at h
    obtain ⟨rfl, rfl, rfl⟩ := h
    exact wpIn_skip (hk g B w a hfs)
  | label l =>
    intro fr st ex fr' st' h g B w a hfs Q hk
    simp only [acode, Option.some.injEq, Prod.mk.injEq] at h
    obtain ⟨rfl, rfl, rfl⟩ := h
    exact wpIn_label (hk g B w a hfs)
  | region id ops draw =>
    intro fr st ex fr' st' h g B w a hfs Q hk
    cases draw with
    | false =>
      simp only [acode] at h
      split at h
      · rename_i fr1 st1 h1
        simp only [Option.some.injEq, Prod.mk.injEq] at h
        obtain ⟨rfl, rfl, rfl⟩ := h
        exact aops_wp hcall h1 hfs hk
      · cases h
    | true =>
      simp only [acode] at h
      split at h
      · rename_i fr1 st1 h1
        simp only [Option.some.injEq, Prod.mk.injEq] at h
        obtain ⟨rfl, rfl, rfl⟩ := h
        exact adraw_wp hcall hmix h1 hfs hk
      · cases h
  | seq x y ihx ihy =>
    intro fr st ex fr' st' h g B w a hfs Q hk
    simp only [acode] at h
    cases hr : acode E call A f n rb x fr st with
    | none => simp [hr] at h
    | some r =>
      obtain ⟨e1, fr1, st1⟩ := r
      rw [hr] at h
      refine wpIn_seq (ihx fr st e1 fr1 st1 hr g B w a hfs _ ?_)
      cases e1 with
      | normal => exact fun g B w a' h1 => ihy fr1 st1 ex fr' st' h g B w a' h1 Q hk
      | exit id =>
        simp only [Option.some.injEq, Prod.mk.injEq] at h
        obtain ⟨rfl, rfl, rfl⟩ := h
        exact hk
      | ret =>
        simp only [Option.some.injEq, Prod.mk.injEq] at h
        obtain ⟨rfl, rfl, rfl⟩ := h
        exact hk
  | cond c x y ihx ihy =>
    intro fr st ex fr' st' h g B w a hfs Q hk
    simp only [acode] at h
    split at h
    · rename_i hc
      have := aeval_ok hfs.fr hfs.glob hc
      have hv : a.eval c = .bool true := rep_bool this
      exact wpIn_cond_true hv (ihx fr st ex fr' st' h g B w a hfs Q hk)
    · rename_i hc
      have := aeval_ok hfs.fr hfs.glob hc
      have hv : a.eval c = .bool false := rep_bool this
      exact wpIn_cond_false hv (ihy fr st ex fr' st' h g B w a hfs Q hk)
    · cases h
  | block id body ih =>
    intro fr st ex fr' st' h g B w a hfs Q hk
    simp only [acode] at h
    cases hr : acode E call A f n rb body fr st with
    | none => simp [hr] at h
    | some r =>
      obtain ⟨e1, fr1, st1⟩ := r
      rw [hr] at h
      refine wpIn_block (ih fr st e1 fr1 st1 hr g B w a hfs _ ?_)
      cases e1 with
      | normal =>
        simp only [Option.some.injEq, Prod.mk.injEq] at h
        obtain ⟨rfl, rfl, rfl⟩ := h
        exact hk
      | ret =>
        simp only [Option.some.injEq, Prod.mk.injEq] at h
        obtain ⟨rfl, rfl, rfl⟩ := h
        exact hk
      | exit i =>
        simp only at h
        by_cases hi : i = id
        · subst hi
          simp only [beq_self_eq_true, if_true, Option.some.injEq, Prod.mk.injEq] at h
          obtain ⟨rfl, rfl, rfl⟩ := h
          intro g B w a' h1
          simp only [exitOf, Exit.inBlock, if_true]
          exact hk g B w a' h1
        · have hb : (i == id) = false := by simpa using hi
          simp only [hb, Bool.false_eq_true, if_false, Option.some.injEq, Prod.mk.injEq] at h
          obtain ⟨rfl, rfl, rfl⟩ := h
          intro g B w a' h1
          simp only [exitOf, Exit.inBlock, if_neg hi]
          exact hk g B w a' h1
  | loop body ih =>
    intro fr st ex fr' st' h g B w a hfs Q hk
    simp only [acode] at h
    exact loop_wp ih n h hfs hk
  | exit id =>
    intro fr st ex fr' st' h g B w a hfs Q hk
    simp only [acode, Option.some.injEq, Prod.mk.injEq] at h
    obtain ⟨rfl, rfl, rfl⟩ := h
    exact wpIn_exit (hk g B w a hfs)
  | ret =>
    intro fr st ex fr' st' h g B w a hfs Q hk
    simp only [acode, Option.some.injEq, Prod.mk.injEq] at h
    obtain ⟨rfl, rfl, rfl⟩ := h
    exact wpIn_ret (hk g B w a hfs)
  | rangeFunc it ps assign body _ _ =>
    intro fr st ex fr' st' h g B w a hfs Q hk
    simp only [acode] at h
    cases rb with
    | true => simp at h
    | false =>
      have := hrd rfl
      subst this
      simp only [Bool.false_eq_true, if_false] at h
      split at h
      · rename_i k first cap hc
        split at h
        · rename_i hent
          split at h
          · rename_i r hr
            exact range_wp hcall hname hc hent hr h hfs hk
          · cases h
        · cases h
      · cases h
  | _ =>
    intro fr st ex fr' st' h
    simp [acode] at h

theorem rep_ptr {v : Value} {o off : Nat} (h : Rep g v (.ptr o off)) : ∃ b, v = .pointer (some ⟨b, off, none⟩) ∧ Live g b o := by
  cases h with
  | ptr b off o h => exact ⟨b, rfl, h⟩
def resSem (tmps : Array Value) : ResultVar → Sem Value
  | .tmp t => pure (tmps.getD t undef)
  | .cell c t => do loadVar t (← asAddr (tmps.getD c undef))
theorem results_eq (fn : Func) (tmps : Array Value) : results fn tmps = (do let vs ← fn.results.mapM (resSem tmps); pure (if h : vs.size = 1 then vs[0] else .tuple vs)) := rfl
theorem aresult_ok (h : FS E A g0 w0 g B st w fr a) {r : ResultVar} {x : AV} (hr : aresult E A fr st r = some x) :
    ∃ v, (resSem a.tmps r).run E.P w = .ok v w ∧ Rep g v x := by
  cases r with
  | tmp t =>
    simp only [aresult] at hr
    split at hr
    · rename_i hb
      exact ⟨_, rfl, h.fr.tmp t x hb hr⟩
    · cases hr
  | cell c t =>
    simp only [aresult] at hr
    split at hr
    · cases hr
    · rename_i sz hsz
      split at hr
      · rename_i cs hcs
        rw [E.hL] at hsz hr
        have fin : ∀ (b o : Nat) (vs : List Value), a.tmps.getD c undef = .pointer (some ⟨b, o, none⟩) → Reps g vs cs → AllOne vs → vs.length = sz → (∀ j u, vs[j]? = some u → w.cell? ⟨b, o + j, none⟩ = some u) →
            ∃ v, (resSem a.tmps (.cell c t)).run E.P w = .ok v w ∧ Rep g v x := by
          intro b o vs hp hreps h1 hl hcell
          obtain ⟨v, hv, hrv⟩ := run_loadVar_of hsz hl hr hreps h1 hcell
          refine ⟨v, ?_, hrv⟩
          simp only [resSem, hp]
          simpa [asAddr] using hv
        split at hcs
        · rename_i b hb
          split at hcs
          · rename_i ob off bcs k1 k2 k3
            obtain ⟨k4, rfl⟩ := cut_some hcs
            have hp := h.fr.off c b off ob hb k1 k2
            obtain ⟨⟨cc, e, fz, q1, q2, q3, _, _⟩, _⟩ := h.fr.box b ob bcs (h.fr.wf c b hb) k1 k3
            have hlen := q2.length
            refine fin (B b) off ((cc.toList.drop off).take sz) hp ((q2.drop off).take sz) ((q3.drop off).take sz) (by simp only [List.length_take, List.length_drop]; omega) (fun j u hj => ?_)
            rw [List.getElem?_take] at hj
            split at hj
            · rw [List.getElem?_drop] at hj
              simp [World.cell?, q1]
              simpa using hj
            · cases hj
          · cases hcs
        · rename_i hb
          split at hcs
          · rename_i o off ho
            cases hg : st.getCells o with
            | none => simp [hg] at hcs
            | some bcs =>
              simp only [hg, Option.bind_some] at hcs
              obtain ⟨k4, rfl⟩ := cut_some hcs
              have hrep := h.fr.tmp c _ hb ho
              obtain ⟨b, hpv, hl⟩ := rep_ptr hrep
              · obtain ⟨tot, hb', hn, c2, e2, fz, vs, rest, h1, h2, h3, h4, h5, h6⟩ := h.inv.cellsAt hl hg
                have hlen := h3.length
                refine fin b off ((vs.drop off).take sz) hpv ((h3.drop off).take sz) ((h4.drop off).take sz) (by simp only [List.length_take, List.length_drop]; omega) (fun j u hj => ?_)
                rw [List.getElem?_take] at hj
                split at hj
                · rw [List.getElem?_drop] at hj
                  have : c2.toList[off + j]? = some u := by rw [h2, List.getElem?_append_left (List.getElem?_eq_some_iff.1 hj).1]; exact hj
                  simp [World.cell?, h1]
                  simpa using this
                · cases hj
          · cases hcs
      · cases hr
theorem aresults_ok (h : FS E A g0 w0 g B st w fr a) : ∀ {rs : List ResultVar} {xs : List AV}, aresults E A fr st rs = some xs →
    ∃ vs, (rs.mapM (m := Sem) (resSem a.tmps)).run E.P w = .ok vs w ∧ Reps g vs xs
  | [], xs, hr => by
    simp [aresults] at hr; subst hr
    exact ⟨[], by simp, .nil⟩
  | r :: rs, xs, hr => by
    simp only [aresults] at hr
    split at hr
    · rename_i x hx
      split at hr
      · rename_i ys hys
        injection hr with hr; subst hr
        obtain ⟨v, h1, h2⟩ := aresult_ok h hx
        obtain ⟨vs, h3, h4⟩ := aresults_ok h hys
        refine ⟨v :: vs, ?_, .cons _ _ _ _ h2 h4⟩
        simp only [List.mapM_cons, Sem.run_bind, Sem.run_pure]
        rw [h1, Result.andThen_ok, h3]
        rfl
      · cases hr
    · cases hr
/-- One value, or several. -/
def many : List AV → AV
  | [v] => v
  | vs => .tuple vs
theorem results_ok (h : FS E A g0 w0 g B st w fr a) {fn : Func} {xs : List AV} (hr : aresults E A fr st fn.results.toList = some xs) :
    ∃ v, (results fn a.tmps).run E.P w = .ok v w ∧ Rep g v (many xs) := by
  obtain ⟨vs, h1, h2⟩ := aresults_ok h hr
  have hm : (fn.results.mapM (resSem a.tmps)).run E.P w = .ok vs.toArray w := by
    rw [Array.mapM_eq_mapM_toList]
    simp only [map_eq_pure_bind, Sem.run_bind]
    rw [h1]
    rfl
  have hrun : (results fn a.tmps).run E.P w = .ok (if h : vs.toArray.size = 1 then vs.toArray[0] else .tuple vs.toArray) w := by
    rw [results_eq, Sem.run_bind, hm]
    rfl
  refine ⟨_, hrun, ?_⟩
  match vs, xs, h2 with
  | [], [], .nil => exact .tuple _ _ .nil
  | [v], [x], .cons _ _ _ _ h .nil => simpa [many] using h
  | v :: u :: vs, x :: y :: xs, hh =>
    have : ¬ ((v :: u :: vs).toArray.size = 1) := by simp
    rw [dif_neg this]
    exact .tuple _ _ hh
theorem aenter_ok {fn : Func} {args : List AV} {vals : Array Value} (wf : ∀ t b, A.base t = some b → A.base b = some b) (hargs : Reps g vals.toList args) (hi : Inv g st w) (hgl : GlobOk E g) :
    FS E A g w g (fun _ => 0) st w (aenter fn args) { tmps := vals ++ Array.replicate (fn.ntmps - vals.size) undef, defers := [] } := by
  have hlen := hargs.length
  simp at hlen
  have none_ : ∀ {t o : Nat}, (aenter fn args).offs[t]? = some (some o) → False := by
    intro t o h
    simp only [aenter] at h
    have := (List.mem_replicate.1 (List.mem_of_getElem? h)).2
    cases this
  refine ⟨⟨by simp [aenter, hlen], by simp [aenter, hlen]; omega, by simp [aenter, hlen]; omega, wf, fun t v hb hv => ?_, fun t b off ob _ h1 _ => (none_ h1).elim, fun b ob cs _ h1 _ => (none_ h1).elim, fun b b' o o' _ _ h1 _ => (none_ h1).elim⟩, hi, Adv.refl g w, hgl, trivial⟩
  simp only [aenter] at hv
  have hr : Reps g (vals ++ Array.replicate (fn.ntmps - vals.size) undef).toList (args ++ List.replicate (fn.ntmps - args.length) aundef) := by
    rw [Array.toList_append, Array.toList_replicate, hlen]
    exact hargs.append (Reps.replicate (.tuple _ _ .nil) _)
  obtain ⟨v', h1, h2⟩ := hr.get t v hv
  have : (vals ++ Array.replicate (fn.ntmps - vals.size) undef).getD t undef = v' := by
    rw [Array.getD_eq_getD_getElem?, ← Array.getElem?_toList, h1]; rfl
  rw [this]; exact h2

/-- What a call of a function comes to. -/
def FnApplies (P : Program) (f : FuncId) (args : Array Value) (w : World) (R : Value → World → Prop) : Prop :=
  match (callFunc f args).run P w with
  | .ok (.value v) w' => R v w'
  | .ok (.enter f as) w' => CallsIn Fence.wide 0 P f as w' fun
      | .returned v, w'' => R v w''
      | _, _ => False
  | _ => False
def Post (g : Gh) (st' : Store) (w : World) (v : AV) (u : Value) (w' : World) : Prop := ∃ g', Adv g w g' w' ∧ Inv g' st' w' ∧ Rep g' u v
/-- A primitive that says what a function does. -/
def PrimOk (E : Env) (f : FuncId) (p : List AV → Store → Option (AV × Store)) : Prop := ∀ (args : List AV) (st : Store) (v : AV) (st' : Store), p args st = some (v, st') →
  ∀ (g : Gh) (w : World) (vals : Array Value), Reps g vals.toList args → Inv g st w → GlobOk E g → FnApplies E.P f vals w (Post g st' w v)
theorem applies_fn {P : Program} {f : FuncId} {first cap args : Array Value} {w : World} {R : Value → World → Prop} (h : FnApplies P f (first ++ args ++ cap) w R) : Applies P (.func (.func f) first cap) args w R := by
  unfold Applies FnApplies at *
  have e : (do let d ← Deferred.ofValue (.func (.func f) first cap) args; invoke d.target d.args : Sem Next) = callFunc f (first ++ args ++ cap) := rfl
  rw [e]
  split at h
  · rename_i v w' hr; rw [hr]; exact h
  · rename_i k as w' hr; rw [hr]; exact h
  · exact h.elim
/-- A mark is come to: its block is shut. -/
theorem FS.shut (h : FS E A g0 w0 g B st w fr a) {d : Deferred} {ds : List Deferred} (hd : a.defers = d :: ds) :
    ∃ r w', d.target = .collected r ∧ (Instr.takeDeferred r).run E.P w = .ok [] w' ∧ FS E A g0 w0 g B st w' fr { a with defers := ds } := by
  have hdf := h.df
  rw [hd] at hdf
  obtain ⟨⟨r, h1, h2, h3, h4, h5⟩, h6⟩ := hdf
  have hlt := (Array.getElem?_eq_some_iff.1 h4).1
  refine ⟨r, _, by rw [h1], run_takeDeferred h4, ?_⟩
  have ho : ∀ i, i ≠ r → (w.putObj r (.deferred none)).heap[i]? = w.heap[i]? := fun i hi => World.putObj_heap_other hi
  have hf := h.fr
  have marks : ∀ {l : List Deferred}, (∀ d' ∈ l, d'.target ≠ .collected r) → Marks w0.heap.size g w l → Marks w0.heap.size g (w.putObj r (.deferred none)) l := by
    intro l
    induction l with
    | nil => intro _ _; trivial
    | cons x l ih =>
      rintro hne ⟨⟨r', k1, k2, k3, k4, k5⟩, k6⟩
      have : r' ≠ r := by rintro rfl; exact hne x List.mem_cons_self (by rw [k1])
      exact ⟨⟨r', k1, k2, k3, (ho r' this).trans k4, k5⟩, ih (fun d' hd' => hne d' (List.mem_cons_of_mem _ hd')) k6⟩
  refine ⟨⟨hf.lt, hf.lo, hf.ll, hf.wf, hf.tmp, hf.off, fun b ob cs q1 q2 q3 => ?_, hf.inj⟩, h.inv.same fun b hb => ho b (by rintro rfl; exact hb h3), ?_, h.glob, marks h5 h6⟩
  · obtain ⟨⟨c, e, fz, p1, p2⟩, p3⟩ := hf.box b ob cs q1 q2 q3
    have : B b ≠ r := by intro e'; rw [e', h4] at p1; cases p1
    exact ⟨⟨c, e, fz, (ho _ this).trans p1, p2⟩, p3⟩
  · have ha := h.adv
    refine ⟨ha.le, Nat.le_trans ha.size (Nat.le_of_eq World.putObj_size.symm), fun b hb hn => ?_, fun b cs hb => ?_, ha.os, ha.tape, ha.output⟩
    · obtain ⟨p1, p2⟩ := ha.keep b hb hn
      exact ⟨(ho b (by omega)).trans p1, p2⟩
    · have := ha.le.stat b cs hb
      exact (ho b (by rintro rfl; rw [h3] at this; cases this)).trans (ha.stat b cs hb)
theorem leaves_ok {fn : Func} {R : Ending → World → Prop} : ∀ (ds : List Deferred) (a : Act) (w : World), a.defers = ds → FS E A g0 w0 g B st w fr a →
    (∀ w' a', FS E A g0 w0 g B st w' fr a' → a'.tmps = a.tmps → ∃ v, (results fn a.tmps).run E.P w' = .ok v w' ∧ R (.returned v) w') → LeavesInM Fence.wide 0 E.P fn a.tmps R ds .returning w
  | [], a, w, hd, h, hk => hk w a h rfl
  | d :: ds, a, w, hd, h, hk => by
    obtain ⟨r, w', h1, h2, h3⟩ := h.shut hd
    exact ⟨by simp, .inl ⟨r, w', h1, h2, leaves_ok ds { a with defers := ds } w' rfl h3 hk⟩⟩
theorem afun_ok (hcall : CallOk E call) (hmix : E.P.follows .mixedOrders = true) {An : FuncId → Ann} (wf : ∀ f t b, (An f).base t = some b → (An f).base b = some b) (hname : ∀ (f : Nat) fn, E.P.funcs[f]? = some fn → fn.body ≠ none → fn.name ≠ "runtime.NumGoroutine")
    {n f : Nat} {args : List AV} {v : AV} (h : afun E An call n f args st = some (v, st')) {vals : Array Value} (hargs : Reps g vals.toList args) (hi : Inv g st w) (hgl : GlobOk E g) : FnApplies E.P f vals w (Post g st' w v) := by
  unfold afun at h
  split at h
  · cases h
  · rename_i fn hf
    rw [E.hL] at hf
    replace hf : E.P.funcs[f]? = some fn := hf
    split at h
    · cases h
    · rename_i c hc
      have hrun : (callFunc f vals).run E.P w = .ok (.enter f vals) w := by
        have hn : ¬ (fn.name = "runtime.NumGoroutine") := hname f fn hf (by rw [hc]; simp)
        simp [callFunc, hf, hn, hc]
      unfold FnApplies
      rw [hrun]
      refine callsIn_of_wp_marks hf hc trivial ?_
      have key : ∀ ex fr', acode E call (An f) f n false c (aenter fn args) st = some (ex, fr', st') → (∀ i, ex ≠ .exit i) → ∀ xs, aresults E (An f) fr' st' fn.results.toList = some xs → v = many xs →
          c.wpIn (FW none) 0 E.P (bodyPostM Fence.wide 0 E.P fn fun
            | .returned v', w'' => Post g st' w v v' w''
            | _, _ => False) { tmps := vals ++ Array.replicate (fn.ntmps - vals.size) undef, defers := [] } w := by
        intro ex fr' hac hex xs hxs hv
        refine acode_wp hcall hmix hname (fun _ => rfl) c _ _ ex fr' st' hac g (fun _ => 0) w _ (aenter_ok (wf f) hargs hi hgl) _ ?_
        intro g' B' w' a' hfs
        have hpost : LeavesInM Fence.wide 0 E.P fn a'.tmps (fun
            | .returned v', w'' => Post g st' w v v' w''
            | _, _ => False) a'.defers .returning w' := by
          refine leaves_ok _ _ _ rfl hfs fun w2 a2 hfs2 ht => ?_
          obtain ⟨u, h1, h2⟩ := results_ok hfs2 hxs
          rw [ht] at h1
          exact ⟨u, h1, g', hfs2.adv, hfs2.inv, by rw [hv]; exact h2⟩
        cases ex with
        | normal => exact hpost
        | ret => exact hpost
        | exit i => exact absurd rfl (hex i)
      split at h
      · cases h
      · rename_i ex fr1 st1 hne hac
        split at h
        · rename_i x hxs
          simp only [Option.some.injEq, Prod.mk.injEq] at h
          obtain ⟨rfl, rfl⟩ := h
          exact key ex fr1 hac (fun i e => hne i e) _ hxs rfl
        · rename_i xs hns hxs
          simp only [Option.some.injEq, Prod.mk.injEq] at h
          obtain ⟨rfl, rfl⟩ := h
          refine key ex fr1 hac (fun i e => hne i e) _ hxs ?_
          match xs, hns with
          | [], _ => rfl
          | [x], hns => exact absurd rfl (hns x)
          | x :: y :: xs, _ => rfl
        · cases h
      · cases h
theorem setParams_ok : ∀ {ps : List Tmp} {xs : List AV} {vs : List Value} {tmps tmps' : List AV} {arr : Array Value}, setParams ps xs tmps = some tmps' → Reps g vs xs → Reps g arr.toList tmps →
    vs.length = ps.length ∧ Reps g ((ps.zip vs).foldl (fun (t : Array Value) (p : Tmp × Value) => t.setIfInBounds p.1 p.2) arr).toList tmps'
  | [], [], vs, tmps, tmps', arr, h, hv, ht => by
    cases hv
    simp only [setParams, Option.some.injEq] at h; subst h
    exact ⟨rfl, ht⟩
  | p :: ps, x :: xs, vs, tmps, tmps', arr, h, hv, ht => by
    cases hv with
    | cons v _ vs _ h1 h2 =>
      simp only [setParams] at h
      obtain ⟨k1, k2⟩ := setParams_ok (arr := arr.setIfInBounds p v) h h2 (by rw [Array.toList_setIfInBounds]; exact ht.set p h1)
      exact ⟨by simp [k1], k2⟩
  | [], _ :: _, _, _, _, _, h, _, _ => by simp [setParams] at h
  | _ :: _, [], _, _, _, _, h, _, _ => by simp [setParams] at h
theorem ayield_ok (hcall : CallOk E call) (hmix : E.P.follows .mixedOrders = true) {An : FuncId → Ann} (wf : ∀ f t b, (An f).base t = some b → (An f).base b = some b) (hname : ∀ (f : Nat) fn, E.P.funcs[f]? = some fn → fn.body ≠ none → fn.name ≠ "runtime.NumGoroutine")
    {n o b : Nat} {args : List AV} {v : AV} (h : ayield E An call n o args st = some (v, st')) (hl : Live g b o) {vals : Array Value} (hargs : Reps g vals.toList args) (hi : Inv g st w) (hgl : GlobOk E g) :
    Applies E.P (.func (.yield b) #[] #[]) vals w (Post g st' w v) := by
  unfold ayield at h
  split at h
  · rename_i s pend f tmps ps assign body hget
    obtain ⟨tot, hb, L, hL, hs, hpd, ht, hpa, has, hbd⟩ := hi.loopAt hl hget
    split at h
    · cases h
    · rename_i tmps' hset
      split at h
      · rename_i fr1 st1 hac
        split at h
        · rename_i pend1 f1 tmps1 ps1 as1 b1 hget1
          split at h
          · rename_i r hbody
            obtain ⟨hlen, hreps⟩ := setParams_ok hset hargs ht
            let arr := ((ps.zip vals.toList).foldl (fun (t : Array Value) (p : Tmp × Value) => t.setIfInBounds p.1 p.2) L.tmps)
            have hfold : (L.params.zip vals).foldl (fun tmps (t, a) => tmps.setIfInBounds t a) L.tmps = arr := by
              rw [hpa, ← Array.foldl_toList]
              simp [arr]
            have hrun : (do let d ← Deferred.ofValue (.func (.yield b) #[] #[]) vals; invoke d.target d.args : Sem Next).run E.P w = .ok (.round b L.fn arr assign body) w := by
              have := run_yield (P := E.P) (args := vals) hL (by rw [hpa]; simpa using hlen)
              rw [hfold, has, hbd] at this
              have e : (do let d ← Deferred.ofValue (.func (.yield b) #[] #[]) vals; invoke d.target d.args : Sem Next) = Instr.yield b (#[] ++ vals) := rfl
              rw [e, Array.empty_append]; exact this
            unfold Applies
            rw [hrun]
            refine roundIn_of_wpIn trivial ?_
            have hlen' := hreps.length
            simp only [Array.length_toList] at hlen'
            have none_ : ∀ {t q : Nat}, (List.replicate tmps'.length (none : Option Nat))[t]? = some (some q) → False := by
              intro t q hh
              have := (List.mem_replicate.1 (List.mem_of_getElem? hh)).2
              cases this
            have hfs0 : FS E (An f) g w g (fun _ => 0) st w { tmps := tmps', offs := List.replicate tmps'.length none, lbs := List.replicate tmps'.length [] } { tmps := arr, defers := [] } := by
              refine ⟨⟨hlen'.symm, by simp [hlen', arr], by simp [hlen', arr], wf f, fun t x hbt hx => ?_, fun t b off ob _ h1 _ => (none_ h1).elim, fun b ob cs _ h1 _ => (none_ h1).elim, fun b b' o o' _ _ h1 _ => (none_ h1).elim⟩, hi, Adv.refl g w, hgl, trivial⟩
              obtain ⟨v', h1, h2⟩ := hreps.get t x hx
              have : arr.getD t undef = v' := by
                rw [Array.getD_eq_getD_getElem?, ← Array.getElem?_toList, h1]; rfl
              show Rep g (arr.getD t undef) x
              rw [this]; exact h2
            refine acode_wp (rd := some b) (rb := true) hcall hmix hname (fun e => by cases e) assign _ _ _ fr1 st1 hac g _ w _ hfs0 _ ?_
            intro g1 B1 w1 a1 hfs1
            obtain ⟨tot1, hb1, L1, hL1, hs1, hpd1, ht1, hpa1, has1, hbd1⟩ := hfs1.inv.loopAt (hl.mono hfs1.adv.le) hget1
            refine ⟨_, run_beginRound hL1 hs1, ?_⟩
            obtain ⟨i2, a2⟩ := hfs1.inv.setLoop hb1 hL1 ht1 hpa1 has1 hbd1 .busy pend1 f1
            have hrec : ({ L1 with state := .busy, pending := pend1 } : Loop) = { L1 with state := .busy } := by rw [← hpd1]
            rw [hrec] at i2 a2
            have hfs2 := hfs1.adv' a2 i2
            refine acode_wp (rd := some b) (rb := true) hcall hmix hname (fun e => by cases e) body _ _ r.1 r.2.1 r.2.2 hbody _ _ _ _ hfs2 _ ?_
            intro g3 B3 w3 a3 hfs3
            unfold endRoundA at h
            split at h
            · rename_i s3 pend3 f3 tmps3 ps3 as3 b3 hget3
              obtain ⟨tot3, hb3, L3, hL3, hs3, hpd3, ht3, hpa3, has3, hbd3⟩ := hfs3.inv.loopAt (hl.mono hfs3.adv.le) hget3
              cases hex : r.1 with
              | normal =>
                simp only [hex, Option.some.injEq, Prod.mk.injEq] at h
                obtain ⟨rfl, rfl⟩ := h
                obtain ⟨i4, a4⟩ := hfs3.inv.setLoop hb3 hL3 ht3 hpa3 has3 hbd3 .ready none f3
                exact ⟨_, _, run_endRound none hL3, g3, hfs3.adv.trans a4, i4, .bool _⟩
              | ret =>
                simp only [hex, Option.some.injEq, Prod.mk.injEq] at h
                obtain ⟨rfl, rfl⟩ := h
                obtain ⟨i4, a4⟩ := hfs3.inv.setLoop hb3 hL3 ht3 hpa3 has3 hbd3 .done (some .ret) f3
                exact ⟨_, _, run_endRound (some .ret) hL3, g3, hfs3.adv.trans a4, i4, .bool _⟩
              | exit id =>
                simp only [hex, Option.some.injEq, Prod.mk.injEq] at h
                obtain ⟨rfl, rfl⟩ := h
                obtain ⟨i4, a4⟩ := hfs3.inv.setLoop hb3 hL3 ht3 hpa3 has3 hbd3 .done (some (.exit id)) f3
                exact ⟨_, _, run_endRound (some (.exit id)) hL3, g3, hfs3.adv.trans a4, i4, .bool _⟩
            · cases h
          · cases h
        · cases h
      · cases h
  · cases h
theorem acall_ok (hmix : E.P.follows .mixedOrders = true) {An : FuncId → Ann} (wf : ∀ f t b, (An f).base t = some b → (An f).base b = some b) (hname : ∀ (f : Nat) fn, E.P.funcs[f]? = some fn → fn.body ≠ none → fn.name ≠ "runtime.NumGoroutine")
    {pr : Prims} (hpr : ∀ f p, pr f = some p → PrimOk E f p) : ∀ n, CallOk E (acall E An pr n)
  | 0 => fun fv args st v st' h => by simp [acall] at h
  | n + 1 => by
    intro fv args st v st' h g w fval vals hf hargs hi hgl
    have ih := acall_ok hmix wf hname hpr n
    cases hf with
    | func fn a b x y hp ha hb =>
      cases fn with
      | func f =>
        have hall : Reps g (a ++ vals ++ b).toList (x ++ args ++ y) := by
          simp only [Array.toList_append]
          exact (ha.append hargs).append hb
        refine applies_fn ?_
        change (match pr f with
          | some p => (match p (x ++ args ++ y) st with
            | some r => some r
            | none => afun E An (acall E An pr n) n f (x ++ args ++ y) st)
          | none => afun E An (acall E An pr n) n f (x ++ args ++ y) st) = some (v, st') at h
        split at h
        · rename_i p hpp
          split at h
          · rename_i r hr
            injection h with h; subst h
            exact hpr f p hpp _ _ _ _ hr g w _ hall hi hgl
          · exact afun_ok ih hmix wf hname h hall hi hgl
        · exact afun_ok ih hmix wf hname h hall hi hgl
      | _ => first | (cases hp; done) | (change none = some _ at h; cases h)
    | yield b o hl =>
      exact ayield_ok ih hmix wf hname h hl hargs hi hgl
    | _ => first | (change none = some _ at h; cases h) | (simp [acall] at h)
end
end Go.Sim
