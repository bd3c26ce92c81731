/- What operations answer: the text of bytes that nobody writes any more. -/
import Derived.Test.YtnplidplamoejaaGreatDoorSimQ2
set_option linter.unusedVariables false
set_option linter.unusedSimpArgs false
set_option linter.unnecessarySimpa false
namespace Go.Sim
open Go.WideShapes (add_plain)

section
variable {P : Program} {g : Gh} {B : Nat → Nat} {st st' : Store} {w : World} {out : Out}

theorem asBytesN_ok : ∀ {xs : List AV} {bs : List UInt8} {vs : List Value}, asBytesN xs = some bs → RepE g 1 vs xs → vs = Lib.byteCells bs ∧ bs.length = xs.length
  | [], bs, vs, h, he => by
    cases he
    simp [asBytesN] at h; subst h
    exact ⟨rfl, rfl⟩
  | x :: xs, bs, vs, h, he => by
    match vs, he with
    | _, .cons _ c _ vs' _ hl h1 hc hs =>
    simp only [asBytesN] at h
    split at h
    · rename_i b hb
      split at h
      · rename_i bs' hbs
        injection h with h; subst h
        obtain ⟨rfl, hl'⟩ := asBytesN_ok hbs hs
        unfold asByteN at hb
        split at hb
        · rename_i m
          split at hb
          · rename_i hm
            injection hb with hb; subst hb
            match c, hc with
            | [_], .cons _ _ _ _ (.int _ _) .nil =>
              refine ⟨?_, by simp [hl']⟩
              simp only [Lib.byteCells, List.map_cons, List.singleton_append, List.cons.injEq, Value.int.injEq, true_and, and_true]
              simp [UInt8.toNat_ofNat, Nat.mod_eq_of_lt hm]
          · cases hb
        · cases hb
      · cases h
    · cases h
theorem aSliceData_ok {ts : Array TypeId} {ty : TypeId} {ins : List In} {a : Value} (h : aSliceData ins st = some (out, st')) (hin : InsRel g B w ins [a]) (hi : Inv g st w) : ValOk g B P st' w out (Builtin.unsafeSliceData_ ts ty #[a]) := by
  unfold aSliceData at h
  split at h
  · simp only [Option.some.injEq, Prod.mk.injEq] at h
    obtain ⟨rfl, rfl⟩ := h
    match hin with
    | .cons _ _ _ _ hx .nil =>
      cases hx
      exact ⟨.pointer none, w, Lib.run_unsafeSliceData_nil w ts ty 0 0, OutOk.pure hi .nilptr⟩
  · rename_i t cap x xs
    simp only [Option.some.injEq, Prod.mk.injEq] at h
    obtain ⟨rfl, rfl⟩ := h
    match hin with
    | .cons _ _ _ _ hx .nil =>
      cases hx with
      | row b o n c sz tok cap xs' vs hv he hn hc hz hcap ht =>
        have hn1 : 1 ≤ n := by rw [← hn]; simp
        rcases ht t 0 rfl with h0 | ⟨start, tot, cs, hb, hs, ho, _, _⟩
        · omega
        have hs0 : start = 0 := by omega
        subst hs0
        have ho0 : o = 0 := by simpa using ho
        subst ho0
        refine ⟨.pointer (some ⟨b, 0, none⟩), w, Lib.run_unsafeSliceData_row w ts ty _ n c (by omega), OutOk.pure hi ?_⟩
        rcases hv with rfl | ⟨y, cs', hb', hy, hp⟩
        · have := he.length
          simp at this
        · rw [hb] at hb'; injection hb' with hb'; subst hb'
          injection hy with hy; subst hy
          exact .uptr b t tot cs vs _ hb (by simpa using hp) he
  · cases h
theorem heap_freeze {b n : Nat} {c : Array Value} {e : TypeId} {fr : Nat × Nat} (hn : n ≠ 0) (h : w.heap[b]? = some (.cells c e fr)) :
    Upd w b (.cells c e (if fr.1 == fr.2 then (0, 0 + n) else (min fr.1 0, max fr.2 (0 + n)))) (w.freeze ⟨b, 0, none⟩ n) := by
  obtain ⟨hlt, hb⟩ := Array.getElem?_eq_some_iff.1 h
  unfold World.freeze
  rw [if_neg hn]
  refine ⟨?_, fun i hi => ?_, by simp, rfl, rfl, rfl⟩
  · simp only []
    rw [Array.getElem?_eq_getElem (by rw [Array.size_modify]; exact hlt), Array.getElem_modify_self, hb]
  · simp only [Array.getElem?_modify]
    rw [if_neg (fun e => hi e.symm)]
theorem aUnsafeStr_ok {ts : Array TypeId} {pt it ty : TypeId} {ins : List In} {a b : Value} (h : aUnsafeStr P pt ins st = some (out, st')) (hin : InsRel g B w ins [a, b]) (hi : Inv g st w) (hts : ts = #[pt, it]) : ValOk g B P st' w out (Builtin.unsafeString_ ts ty #[a, b]) := by
  subst hts
  unfold aUnsafeStr at h
  split at h
  · rename_i t xs n
    split at h
    · rename_i hc
      obtain ⟨rfl, h63, hne⟩ := hc
      split at h
      · rename_i e hp
        split at h
        · rename_i hsz
          split at h
          · rename_i top e' htop
            split at h
            · rename_i he'
              subst he'
              split at h
              · rename_i bs hbs
                simp only [Option.some.injEq, Prod.mk.injEq] at h
                obtain ⟨rfl, rfl⟩ := h
                match hin with
                | .cons _ _ _ _ hx (.cons _ _ _ _ hy .nil) =>
                cases hy
                cases hx with
                | uptr b t tot cs vs xs' hb hv he =>
                  obtain ⟨rfl, hbl⟩ := asBytesN_ok hbs he
                  obtain ⟨h0, c, e0, fr, top0, k, h2, h3, h4, h5, h6, h7, h8⟩ := hi.row _ _ _ _ _ _ hb
                  have he0 : e0 = e' := by rw [htop] at h5; injection h5 with h5; injection h5 with _ h5; exact h5.symm
                  subst he0
                  have hvc : Lib.byteCells bs <+: c.toList := hv.trans h3
                  have hvl : bs.length ≤ cs.length := by have := hv.length_le; rwa [Lib.byteCells_length] at this
                  have hcl : cs.length ≤ c.size := by have := h3.length_le; simpa using this
                  have hbne : bs ≠ [] := by rintro rfl; simp at hbl; exact hne (List.eq_nil_of_length_eq_zero hbl.symm)
                  have hsz1 : P.cellsOf e0 = 1 := by
                    obtain ⟨i, hi', hs'⟩ := sizeT_some hsz
                    simp [Program.cellsOf, hi', hs']
                  have hrun := Lib.run_unsafeString_row (P := P) w pt it ty e0 hp hsz1 b c.size (by simp [World.shape?, h2]) bs hbne (by omega) (by omega) (fun j x hj => by
                    have : (Lib.byteCells bs)[j]? = some (.int .u8 x.toNat) := by simp [Lib.byteCells, hj]
                    have := getElem?_of_prefix hvc this
                    rw [add_plain]
                    simp [World.cell?, h2]
                    simpa using this)
                  rw [hbl] at hrun
                  have hup := heap_freeze (w := w) (b := b) (n := xs.length) (by intro e; exact hne (List.eq_nil_of_length_eq_zero e)) h2
                  refine ⟨_, _, hrun, g, ?_, ?_, ?_⟩
                  · refine ⟨Le.refl g, Nat.le_of_eq hup.size.symm, fun b' _ hn => ⟨hup.other b' (by rintro rfl; rw [hb] at hn; cases hn), hn⟩, fun b' cs' hb' => hup.other b' (by rintro rfl; rw [hb] at hb'; cases hb'), hup.os, hup.tape, hup.output⟩
                  · refine ⟨hi.wfo, hi.wft, fun b' t' s' sz' n' cs' hb' => ?_, fun b' cs' hb' => ?_, fun b' o' n' hb' => ?_, hi.inj, hi.dead⟩
                    · by_cases e : b' = b
                      · subst e
                        rw [hb] at hb'
                        injection hb' with hb'; injection hb' with a1 a2 a3 a5 a4; subst a1 a2 a3 a4 a5
                        refine ⟨h0, c, e0, _, top0, k, hup.here, h3, h4, h5, h6, ?_, h8⟩
                        rw [← hbl]
                        split
                        · simp; omega
                        · simp only [Nat.zero_add]; omega
                      · obtain ⟨q0, q1, q2, q3, q4, q5, q6, q7⟩ := hi.row _ _ _ _ _ _ hb'
                        exact ⟨q0, q1, q2, q3, q4, q5, (hup.other b' e).trans q6, q7⟩
                    · obtain ⟨q1, q2, q3, q4, q5⟩ := hi.stat _ _ hb'
                      exact ⟨q1, q2, q3, (hup.other b' (by rintro rfl; rw [hb] at hb'; cases hb')).trans q4, q5⟩
                    · obtain ⟨y, q1, q2⟩ := hi.obj _ _ _ hb'
                      exact ⟨y, q1, q2.of_same (hup.other b' (by rintro rfl; rw [hb] at hb'; cases hb'))⟩
                  · have : Rep g (.string ⟨bs.toArray⟩) (.str (⟨bs.toArray⟩ : ByteArray).data.toList) := .str _
                    simpa using this
              · cases h
            · cases h
          · cases h
        · cases h
      · cases h
    · cases h
  · rename_i n
    split at h
    · rename_i hn
      subst hn
      simp only [Option.some.injEq, Prod.mk.injEq] at h
      obtain ⟨rfl, rfl⟩ := h
      match hin with
      | .cons _ _ _ _ hx (.cons _ _ _ _ hy .nil) =>
        cases hx; cases hy
        exact ⟨_, w, Lib.run_unsafeString_none w pt it ty none, OutOk.pure hi (.str _)⟩
    · cases h
  · cases h
end
end Go.Sim
