/- Loops over functions: the statement. -/
import Derived.Test.YtnplidplamoejaaGreatDoorSimX
import Derived.RangeFuncRecord
set_option linter.unusedVariables false
set_option linter.unusedSimpArgs false
set_option linter.unnecessarySimpa false
namespace Go.Sim

def exitOf : AEx → Exit
  | .normal => .normal
  | .exit id => .exit id
  | .ret => .ret
section
variable {E : Env} {call : Caller} {A : Ann} {g g0 : Gh} {B : Nat → Nat} {w w0 : World} {a : Act} {st st' : Store} {fr fr' : AFr}

theorem putObj_upd {b : Nat} {o : Obj} (h : b < w.heap.size) : Upd w b o (w.putObj b o) :=
  ⟨World.putObj_heap_same h, fun _ hi => World.putObj_heap_other hi, World.putObj_size, rfl, rfl, rfl⟩
theorem snap_get (A : Ann) : ∀ (xs : List AV) (i t : Nat) (x : AV), (snap A i xs)[t]? = some x → ∃ y, xs[t]? = some y ∧ ((A.base (i + t) = none ∧ x = y) ∨ x = .junk)
  | [], i, t, x, h => by simp [snap] at h
  | y :: ys, i, 0, x, h => by
    simp only [snap, List.getElem?_cons_zero, Option.some.injEq] at h
    refine ⟨y, rfl, ?_⟩
    rw [Nat.add_zero]
    split at h
    · rename_i hb; exact .inl ⟨hb, h.symm⟩
    · exact .inr h.symm
  | y :: ys, i, t + 1, x, h => by
    simp only [snap, List.getElem?_cons_succ] at h
    obtain ⟨z, h1, h2⟩ := snap_get A ys (i + 1) t x h
    exact ⟨z, by simpa using h1, by rwa [show i + (t + 1) = i + 1 + t by omega]⟩
theorem snap_len (A : Ann) : ∀ (i : Nat) (xs : List AV), (snap A i xs).length = xs.length
  | _, [] => rfl
  | i, _ :: xs => by simp [snap, snap_len A (i + 1) xs]
theorem Reps.of_get {vs : List Value} : ∀ {xs : List AV}, vs.length = xs.length → (∀ (t : Nat) (v : Value) (x : AV), vs[t]? = some v → xs[t]? = some x → Rep g v x) → Reps g vs xs := by
  induction vs with
  | nil =>
    intro xs hl _
    match xs, hl with
    | [], _ => exact .nil
  | cons v vs ih =>
    intro xs hl h
    match xs, hl with
    | x :: xs, hl => exact .cons _ _ _ _ (h 0 v x rfl rfl) (ih (by simpa using hl) fun t u y h1 h2 => h (t + 1) u y (by simpa using h1) (by simpa using h2))
theorem FR.snap {n0 : Nat} (h : FR A n0 g B w fr a) : Reps g a.tmps.toList (snap A 0 fr.tmps) := by
  refine Reps.of_get (by rw [snap_len, h.lt]; simp) fun t v x hv hx => ?_
  obtain ⟨y, h1, h2⟩ := snap_get A fr.tmps 0 t x hx
  rcases h2 with ⟨hb, rfl⟩ | rfl
  · have := h.tmp t x (by simpa using hb) h1
    rwa [Array.getD_eq_getD_getElem?, ← Array.getElem?_toList, hv] at this
  · exact .junk v
/-- A live loop's record. -/
theorem Inv.loopAt (hi : Inv g st w) {b o : Nat} (hl : Live g b o) {s : LoopState} {pend : Option Code} {f : FuncId} {tmps : List AV} {ps : List Tmp} {as bd : Code} (hg : st.get o = some (.loop s pend f tmps ps as bd)) :
    ∃ tot, g.blk b = some (.obj o tot) ∧ ∃ l : Loop, w.heap[b]? = some (.loop l) ∧ l.state = s ∧ l.pending = pend ∧ Reps g l.tmps.toList tmps ∧ l.params = ps.toArray ∧ l.assign = as ∧ l.body = bd := by
  rcases hl with hd | ⟨tot, hb, _⟩
  · rw [hi.dead o hd] at hg; cases hg
  · obtain ⟨x, h1, h2⟩ := hi.obj b o tot hb
    rw [hg] at h1; injection h1 with h1; subst h1
    exact ⟨tot, hb, h2⟩
/-- The record is written. -/
theorem Inv.setLoop (hi : Inv g st w) {b o : Nat} {tot : Nat} (hb : g.blk b = some (.obj o tot)) {l : Loop} (hl : w.heap[b]? = some (.loop l)) {tmps : List AV} {ps : List Tmp} {as bd : Code}
    (h1 : Reps g l.tmps.toList tmps) (h2 : l.params = ps.toArray) (h3 : l.assign = as) (h4 : l.body = bd) (s : LoopState) (pend : Option Code) (f : FuncId) :
    Inv g (st.set o (.loop s pend f tmps ps as bd)) (w.putObj b (.loop { l with state := s, pending := pend })) ∧ Adv g w g (w.putObj b (.loop { l with state := s, pending := pend })) := by
  have hlt := (Array.getElem?_eq_some_iff.1 hl).1
  exact hi.write hb (putObj_upd hlt) _ ⟨_, World.putObj_heap_same hlt, rfl, rfl, h1, h2, h3, h4⟩
theorem jumpEx_some {pend : Option Code} {ex : AEx} (h : jumpEx pend = some ex) : (pend = none ∧ ex = .normal) ∨ (pend = some .ret ∧ ex = .ret) ∨ ∃ id, pend = some (.exit id) ∧ ex = .exit id := by
  unfold jumpEx at h
  split at h
  · injection h with h; exact .inl ⟨rfl, h.symm⟩
  · injection h with h; exact .inr (.inl ⟨rfl, h.symm⟩)
  · injection h with h; exact .inr (.inr ⟨_, rfl, h.symm⟩)
  · cases h
theorem Marks.lt {n0 : Nat} : ∀ {ds : List Deferred}, Marks n0 g w ds → ∀ d ∈ ds, ∃ r, d.target = .collected r ∧ r < w.heap.size
  | [], _, d, h => by cases h
  | x :: ds, ⟨⟨r, h1, h2, h3, h4, h5⟩, h6⟩, d, h => by
    rcases List.mem_cons.1 h with h | h
    · subst h; exact ⟨r, by rw [h1], (Array.getElem?_eq_some_iff.1 h4).1⟩
    · exact Marks.lt h6 d h
theorem range_wp (hcall : CallOk E call) (hname : ∀ (f : Nat) fn, E.P.funcs[f]? = some fn → fn.body ≠ none → fn.name ≠ "runtime.NumGoroutine") {it : Operand} {ps : Array Tmp} {assign body : Code} {f k : FuncId} {first cap : List AV} {r : AV × Store} {ex : AEx} {Q : Exit → Act → World → Prop}
    (hc : aeval E.globals A fr it = some (.val (.func (.func k) first cap))) (hk : entersF E k = true)
    (hr : call (.func (.func k) first cap) [.func (.yield st.nobj) [] []] (st.new (.loop .ready none f (snap A 0 fr.tmps) ps.toList assign body)) = some r)
    (he : endLoopA fr r.2 st.nobj = some (ex, fr', st')) (hfs : FS E A g0 w0 g B st w fr a) (hg : Goes E A g0 w0 st' fr' (Q (exitOf ex))) :
    (Code.rangeFunc it ps assign body).wpIn (FW none) 0 E.P Q a w := by
  refine wpIn_rangeFunc fun fn _ => ?_
  have hi := hfs.inv
  -- the two blocks
  let rec0 : Loop := { state := .ready, pending := none, fn, tmps := a.tmps, params := ps, assign, body, defers := w.heap.size }
  let wd := w.alloc (.deferred (some []))
  have hid : Inv g st wd := hi.alloc _
  have hwd : wd.heap.size = w.heap.size + 1 := by simp [wd]
  have ad : Adv g w g wd := Adv.alloc g w _ (fun b hb => hi.none_of_ge hb)
  let w1 := wd.alloc (.loop rec0)
  let g1 := g.upd wd.heap.size (.obj st.nobj 0)
  have hle1 : Le g g1 := Le.upd_new g _ (hid.none_of_ge (Nat.le_refl _))
  have a1 : Adv g wd g1 w1 := Adv.alloc_upd hid _ _
  have i1 : Inv g1 (st.new (.loop .ready none f (snap A 0 fr.tmps) ps.toList assign body)) w1 :=
    hid.alloc_obj _ _ _ ⟨rec0, heap_alloc_new wd _, rfl, rfl, (FR.snap hfs.fr).mono hle1, by simp [rec0], rfl, rfl⟩
  have hlive : Live g1 wd.heap.size st.nobj := .inr ⟨0, Gh.upd_same _ _ _, Nat.zero_le _⟩
  -- the function
  have hfv := aeval_ok hfs.fr hfs.glob hc
  have hfv' : Rep g (a.eval it) (.func (.func k) first cap) := hfv
  generalize hev : a.eval it = fv at hfv'
  cases hfv' with
  | func _ fa ca _ _ hp ha hb =>
    have hap := hcall _ _ _ _ _ hr g1 w1 _ #[.func (.yield wd.heap.size) #[] #[]] (.func (.func k) fa ca _ _ hp (ha.mono hle1) (hb.mono hle1)) (.cons _ _ _ _ (.yield _ _ hlive) .nil) i1 (hfs.glob.mono hle1)
    unfold entersF at hk
    split at hk
    · rename_i fnk hfk
      have hfk' : E.P.funcs[k]? = some fnk := by rw [E.hL] at hfk; exact hfk
      have hbk : fnk.body ≠ none := by intro e; rw [e] at hk; cases hk
      have hn : ¬ (fnk.name = "runtime.NumGoroutine") := hname k fnk hfk' hbk
      have hrun : (callFunc k (fa ++ #[.func (.yield wd.heap.size) #[] #[]] ++ ca)).run E.P w1 = .ok (.enter k (fa ++ #[.func (.yield wd.heap.size) #[] #[]] ++ ca)) w1 := by
        cases hbb : fnk.body with
        | none => exact absurd hbb hbk
        | some c => simp [callFunc, hfk', hn, hbb]
      have e : (do let d ← Deferred.ofValue (.func (.func k) fa ca) #[.func (.yield wd.heap.size) #[] #[]]; invoke d.target d.args : Sem Next) = callFunc k (fa ++ #[.func (.yield wd.heap.size) #[] #[]] ++ ca) := rfl
      unfold Applies at hap
      rw [e, hrun] at hap
      refine ⟨wd.heap.size, [{ target := .collected w.heap.size, args := #[] }], w1, { target := .fn (.func k) ca, args := fa ++ #[.func (.yield wd.heap.size) #[] #[]] }, w1, k, _, w1, ?_, ?_, fun _ _ => trivial, hrun, fun hd => by simp [FW, Fence.wide] at hd, hap.mono ?_⟩
      · have := run_enterLoop_outer (P := E.P) (w := w) fn a.tmps ps assign body
        rw [hwd]
        exact this
      · have hev' : a.eval it = .func (.func k) fa ca := hev
        have hm : #[Operand.const (Value.func (Fn.yield wd.heap.size) #[] #[])].map a.eval = #[Value.func (Fn.yield wd.heap.size) #[] #[]] := by simp [Act.eval]
        simp only [resolve, rangeCall, hev', Deferred.ofValue, hm]
        rfl
      · intro en w3 hh
        cases en with
        | panicked ch => exact hh.elim
        | outgrown => exact hh.elim
        | returned v =>
          obtain ⟨g3, a3, i3, _⟩ := hh
          unfold endLoopA at he
          split at he
          · rename_i s pend f' tmps ps' as bd hget
            obtain ⟨tot, hblk, L, hL, hs, hpd, ht, hpa, has, hbd⟩ := i3.loopAt (hlive.mono a3.le) hget
            have hnb : L.state ≠ .busy := by rw [hs]; rintro rfl; cases he
            have he' : ∃ ex', jumpEx pend = some ex' ∧ some (ex', fr, r.2.set st.nobj (.loop .exhausted pend f' tmps ps' as bd)) = some (ex, fr', st') := by
              split at he
              · cases he
              · split at he
                · rename_i ex' hj; exact ⟨ex', hj, he⟩
                · cases he
            obtain ⟨ex', hj, he'⟩ := he'
            simp only [Option.some.injEq, Prod.mk.injEq] at he'
            obtain ⟨rfl, rfl, rfl⟩ := he'
            obtain ⟨i4, a4⟩ := i3.setLoop hblk hL ht hpa has hbd .exhausted L.pending f'
            have hrec : ({ L with state := .exhausted, pending := L.pending } : Loop) = { L with state := .exhausted } := rfl
            rw [hrec] at i4 a4
            have adv4 : Adv g w g3 _ := ((ad.trans a1).trans a3).trans a4
            -- the frame
            have hdr : g1.blk w.heap.size = none := by
              rw [Gh.upd_other _ _ (by omega)]; exact hi.none_of_ge (Nat.le_refl _)
            have hw1r : w1.heap[w.heap.size]? = some (.deferred (some [])) := by
              show ((w.alloc (.deferred (some []))).alloc (.loop rec0)).heap[w.heap.size]? = _
              rw [heap_alloc_old _ _ (by simp)]
              exact heap_alloc_new w _
            have adv14 : Adv g1 w1 g3 _ := a3.trans a4
            obtain ⟨k1, k2⟩ := adv14.keep w.heap.size (Array.getElem?_eq_some_iff.1 hw1r).1 hdr
            have hfs4 : FS E A g0 w0 g3 B (r.2.set st.nobj (.loop .exhausted pend f' tmps ps' as bd)) (w3.putObj wd.heap.size (.loop { L with state := .exhausted })) fr { a with defers := [{ target := .collected w.heap.size, args := #[] }] ++ a.defers } := by
              have hf := hfs.fr.adv adv4
              refine ⟨⟨hf.lt, hf.lo, hf.ll, hf.wf, hf.tmp, hf.off, hf.box, hf.inj⟩, by rw [← hpd]; exact i4, hfs.adv.trans adv4, hfs.glob.mono adv4.le, ⟨w.heap.size, rfl, hfs.adv.size, k2, k1.trans hw1r, fun d hd => ?_⟩, hfs.df.adv adv4⟩
              obtain ⟨rr, q1, q2⟩ := hfs.df.lt d hd
              rw [q1]; intro e; injection e with e; omega
            have hend := run_endLoop (P := E.P) hL hnb
            generalize w3.putObj wd.heap.size (.loop { L with state := .exhausted }) = W4 at hend hfs4
            refine ⟨L.pending, W4, hend, ?_⟩
            rw [hpd]
            rcases jumpEx_some hj with ⟨rfl, rfl⟩ | ⟨rfl, rfl⟩ | ⟨id, rfl, rfl⟩
            · exact hg _ _ _ _ hfs4
            · exact wpIn_ret (hg _ _ _ _ hfs4)
            · exact wpIn_exit (hg _ _ _ _ hfs4)
          · cases he
    · cases hk
end
end Go.Sim
