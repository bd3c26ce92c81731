/- What operations answer: slices that are made; append; copy. -/
import Derived.Test.YtnplidplamoejaaGreatDoorSimN
import Derived.IntWalk
set_option linter.unusedVariables false
set_option linter.unusedSimpArgs false
set_option linter.unnecessarySimpa false
namespace Go.Sim
open Go.WideShapes (add_plain)

section
variable {P : Program} {g : Gh} {B : Nat → Nat} {st st' : Store} {w : World} {out : Out}

/-- Zeros of a type, so many. -/
theorem zeros_ok {e sz : Nat} {z : AV} {zv : Value} (hz : ∀ g, Rep g zv z) (hn : z.noTuple = true) (hl : z.cells.length = sz) (n : Nat) (g : Gh) :
    zv.cells.size = sz ∧ RepE g sz (List.replicate n zv.cells.toList).flatten (List.replicate n z) := by
  obtain ⟨r1, r2⟩ := Rep.cells (hz g) hn
  have h1 : zv.cells.size = sz := by have := r1.length; simp at this; omega
  refine ⟨h1, ?_⟩
  induction n with
  | zero => exact .nil _
  | succ n ih =>
    simp only [List.replicate_succ, List.flatten_cons]
    exact .cons _ _ _ _ _ (by simpa using h1) r2 r1 ih
/-- A literal slice, or one that was made: a new block whose cells are known. -/
theorem newRow_ok (hi : Inv g st w) {e sz len : Nat} {c : Array Value} {cs xs : List AV} (hc : CellsOk g c cs) (he : RepE g sz (c.toList.take (len * sz)) xs) (hl : xs.length = len) (hz : 0 < sz) :
    ∃ g', Adv g w g' (w.alloc (.cells c e)) ∧ Inv g' st (w.alloc (.cells c e)) ∧ Rep g' (.slice (some ⟨w.heap.size, 0, none⟩) len len) (.row sz none (some len) xs) := by
  refine ⟨_, Adv.alloc_upd hi _ _, hi.alloc_stat c e (0, 0), ?_⟩
  refine .row _ _ _ _ _ _ _ _ _ (.inr ⟨_, _, Gh.upd_same _ _ _, rfl, ?_⟩) (he.mono (Le.upd_new g _ (hi.none_of_ge (Nat.le_refl _)))) hl (Nat.le_refl _) hz (fun m hm => by injection hm with hm; exact hm.symm) (fun t off h => by cases h)
  simpa using List.take_prefix _ _
theorem newArr_ok (hi : Inv g st w) {e sz len : Nat} {c : Array Value} {cs : List AV} {cap : Option Nat} {n : Nat} (hc : ∃ vs rest, c.toList = vs ++ rest ∧ Reps g vs cs ∧ AllOne vs ∧ AllOne rest) (hn : len ≤ n) (hcap : ∀ m, cap = some m → m = n) (hsz : n * sz ≤ c.size) (hz : 0 < sz) :
    ∃ g', Adv g w g' (w.alloc (.cells c e)) ∧ Inv g' (st.new (.cells cs)) (w.alloc (.cells c e)) ∧ Rep g' (.slice (some ⟨w.heap.size, 0, none⟩) len n) (.arr sz st.nobj 0 len cap) := by
  obtain ⟨vs, rest, h1, h2, h3, h4⟩ := hc
  refine ⟨_, Adv.alloc_upd hi _ (.obj st.nobj c.size), hi.alloc_obj _ _ _ ⟨c, e, (0, 0), vs, rest, heap_alloc_new w _, h1, h2.mono (Le.upd_new g _ (hi.none_of_ge (Nat.le_refl _))), by rw [h1]; exact h3.append h4, Nat.le_refl _, rfl⟩, ?_⟩
  exact .arr _ _ _ _ _ _ _ (.inr ⟨_, Gh.upd_same _ _ _, by omega⟩) hn hz hcap
theorem aBuildSlice_ok {md t len : Nat} {ps : Array (Nat × Operand)} {ρ : Operand → Value} {xs : List AV} (h : aBuildSlice P md t len (ps.toList.map (·.1)) xs st = some (out, st')) (hr : Reps g (ps.toList.map fun p => ρ p.2) xs) (hi : Inv g st w) :
    ValOk g B P st' w out (Instr.buildSlice t len (ps.map fun p => (p.1, ρ p.2))) := by
  have hlen : (ps.toList.map (·.1)).length = xs.length := by have := hr.length; simpa using this
  have hfst : ((ps.map fun p => (p.1, ρ p.2)).toList).map (·.1) = ((ps.toList.map (·.1)).zip xs).map (·.1) := by
    rw [zip_fst _ _ hlen]; simp
  have hsnd : Reps g (((ps.map fun p => (p.1, ρ p.2)).toList).map (·.2)) (((ps.toList.map (·.1)).zip xs).map (·.2)) := by
    rw [zip_snd _ _ hlen]
    have : ((ps.map fun p => (p.1, ρ p.2)).toList).map (·.2) = ps.toList.map fun p => ρ p.2 := by simp
    rw [this]; exact hr
  unfold aBuildSlice at h
  split at h
  · rename_i e hel
    have hu := elemT_some (P := P) hel
    split at h
    · rename_i sz hsz
      split at h
      · rename_i z hz
        obtain ⟨i, zv, h1, h2, h3, h4⟩ := zeroT_ok hz
        have hzv := run_zeroValue (P := P) h1 h2 w
        split at h
        · rename_i hcond
          obtain ⟨q1, q2, q3⟩ := hcond
          obtain ⟨k1, k2⟩ := zeros_ok (e := e) h3 h4 q2 len g
          obtain ⟨f1, f2, f3⟩ := k2.flat'
          split at h
          · rename_i cs hf
            have hzeros := zeros_eq zv.cells len (by omega)
            obtain ⟨c', r1, r2⟩ := fill_ok (g := g) (place' := fun i => some (i * sz, sz)) (fun j p hp => hp) _ (ps.map fun p => (p.1, ρ p.2)).toList _ cs
              ((Array.range (len * sz)).map (fun i => zv.cells[i % zv.cells.size]!)) hf hfst hsnd (by
                unfold CellsOk
                rw [k1] at hzeros
                rw [k1, hzeros]
                exact ⟨f1, f2⟩)
            have hrun : (Instr.buildSlice t len (ps.map fun p => (p.1, ρ p.2))).run P w = .ok (.slice (some ⟨w.heap.size, 0, none⟩) len len) (w.alloc (.cells c' e)) := by
              have hlim : ¬ (len * sz > 2 ^ 24) := by omega
              by_cases h0 : len * sz = 0
              · have r0 : Instr.fill (fun i => some (i * sz, sz)) (Array.map (fun x => (#[] : Array Value)[x % (#[] : Array Value).size]!) (Array.range (len * sz))) (ps.map fun p => (p.1, ρ p.2)).toList = some c' := by
                  have e0 : ∀ f : Nat → Value, Array.map f (Array.range 0) = #[] := fun f => by apply Array.ext'; simp
                  rw [h0, e0] at r1 ⊢
                  exact r1
                simp only [Instr.buildSlice, underlying, Sem.run_bind, run_program, Result.andThen_ok, hu, run_sizeOf hsz, if_neg hlim, if_pos h0, Sem.run_pure, r0, newRow, run_newObj]
                rfl
              · simp only [Instr.buildSlice, underlying, Sem.run_bind, run_program, Result.andThen_ok, hu, run_sizeOf hsz, if_neg hlim, if_neg h0, hzv, Sem.run_pure, r1, newRow, run_newObj]
                rfl
            split at h
            · simp only [Option.some.injEq, Prod.mk.injEq] at h
              obtain ⟨rfl, rfl⟩ := h
              have hcsz : len * sz ≤ c'.size := by
                have a1 := r2.1.length
                have a2 : cs.length = (flat (List.replicate len z)).length := by
                  have : ∀ (ps : List (Nat × AV)) (cs cs' : List AV), fillV (placeA sz) ps cs = some cs' → cs'.length = cs.length := by
                    intro ps
                    induction ps with
                    | nil => intro cs cs' h; simp [fillV] at h; rw [h]
                    | cons p ps ih =>
                      intro cs cs' h
                      simp only [fillV] at h
                      split at h
                      · cases h
                      · split at h
                        · split at h
                          · rename_i cs1 hs1
                            obtain ⟨b1, rfl⟩ := splice_some hs1
                            rw [ih _ _ h]
                            simp only [List.length_append, List.length_take, List.length_drop]
                            omega
                          · cases h
                        · cases h
                  exact this _ _ _ hf
                have a3 := f1.length
                rw [f3] at a3
                simp only [List.length_replicate] at a3
                rw [← Array.length_toList]
                omega
              obtain ⟨g', b1, b2, b3⟩ := newArr_ok (e := e) (sz := sz) (len := len) (cap := some len) (n := len) hi ⟨c'.toList, [], by simp, r2.1, r2.2, fun v hv => by cases hv⟩ (Nat.le_refl _) (fun m hm => by injection hm with hm; exact hm.symm) hcsz q3
              exact ⟨_, _, hrun, g', b1, b2, b3⟩
            · split at h
              · rename_i ys hy
                simp only [Option.some.injEq, Prod.mk.injEq] at h
                obtain ⟨rfl, rfl⟩ := h
                obtain ⟨a1, a2⟩ := elemsOf_ok hsz len cs ys c'.toList hy r2.1 r2.2
                obtain ⟨g', b1, b2, b3⟩ := newRow_ok (e := e) hi r2 a2 a1 q3
                exact ⟨_, _, hrun, g', b1, b2, b3⟩
              · cases h
          · cases h
        · cases h
      · cases h
    · cases h
  · cases h
theorem aMakeSlice_ok {md t : Nat} {ins : List In} {a b : Value} (h : aMakeSlice P md t ins st = some (out, st')) (hin : InsRel g B w ins [a, b]) (hi : Inv g st w) : ValOk g B P st' w out (Instr.makeSlice t a b) := by
  match ins, hin with
  | [.val x, .val y], .cons _ _ _ _ hx (.cons _ _ _ _ hy .nil) =>
    cases hx with
    | int k l =>
      cases hy with
      | int k' c =>
        simp only [aMakeSlice] at h
        split at h
        · rename_i e hel
          have hu := elemT_some (P := P) hel
          split at h
          · rename_i sz hsz
            split at h
            · rename_i by_ hby
              split at h
              · rename_i z hz
                obtain ⟨i, zv, h1, h2, h3, h4⟩ := zeroT_ok hz
                have hzv := run_zeroValue (P := P) h1 h2 w
                split at h
                · rename_i hcond
                  obtain ⟨c1, c2, c3, c4, c5, c6⟩ := hcond
                  have hib : i.bytes = by_ := by
                    unfold bytesT at hby
                    simp only [Look.of] at hby
                    rw [h1] at hby
                    exact Option.some.inj hby
                  obtain ⟨k1, k2⟩ := zeros_ok (e := e) h3 h4 c5 c.toNat g
                  obtain ⟨f1, f2, f3⟩ := k2.flat'
                  have hzeros := zeros_eq zv.cells c.toNat (by omega)
                  rw [k1] at hzeros
                  have wrapId : ∀ n : Int, 0 ≤ n → n ≤ 140737488355328 → IntKind.i64.wrap n = n := by
                    intro n hn0 hn1
                    exact IntWalk.i64_in n ⟨by omega, by omega⟩
                  have e1 : IntKind.i64.wrap l = l := wrapId l c1 (by omega)
                  have e2 : IntKind.i64.wrap c = c := wrapId c (by omega) c3
                  have hmul : (i.bytes : Int) * c ≤ 2 ^ 48 := by
                    rw [hib]
                    have hc' : (c.toNat : Int) = c := Int.toNat_of_nonneg (by omega)
                    have c4' : c.toNat * by_ ≤ 140737488355328 := c4
                    have h9 : ((c.toNat * by_ : Nat) : Int) ≤ 140737488355328 := by omega
                    rw [Int.natCast_mul, hc'] at h9
                    rw [Int.mul_comm]
                    omega
                  have hl2 : (i.bytes : Int) * l ≤ 2 ^ 48 := Int.le_trans (Int.mul_le_mul_of_nonneg_left c2 (by omega)) hmul
                  have hrun : (Instr.makeSlice t (.int k l) (.int k' c)).run P w = .ok (.slice (some ⟨w.heap.size, 0, none⟩) l.toNat c.toNat) (w.alloc (.cells ((Array.range (c.toNat * sz)).map (fun j => zv.cells[j % zv.cells.size]!)) e)) := by
                    have g1 : ¬ (c < 0) := by omega
                    have g2 : ¬ (l < 0) := by omega
                    have g3 : ¬ (c < l) := by omega
                    have g4 : ¬ (2 ^ 48 < (i.bytes : Int) * c) := by omega
                    by_cases h0 : c.toNat * sz = 0
                    · have e0 : ∀ f : Nat → Value, Array.map f (Array.range 0) = #[] := fun f => by apply Array.ext'; simp
                      have g5 : ((Array.range (c.toNat * sz)).map (fun j => zv.cells[j % zv.cells.size]!)) = #[] := by rw [h0, e0]
                      have g6 : ((Array.range (c.toNat * sz)).map (fun j => (#[] : Array Value)[j % (#[] : Array Value).size]!)) = #[] := by rw [h0, e0]
                      simp only [Instr.makeSlice, underlying, Sem.run_bind, run_program, Result.andThen_ok, hu, asInt, asIntOf, Sem.run_pure, typeInfo, h1, e1, e2, gt_iff_lt, g1, g2, g3, g4, decide_false, Bool.or_self, Bool.false_eq_true, if_false,
                        run_askRoom, run_sizeOf hsz, if_pos h0, newRow, run_newObj, g5, g6]
                      rfl
                    · simp only [Instr.makeSlice, underlying, Sem.run_bind, run_program, Result.andThen_ok, hu, asInt, asIntOf, Sem.run_pure, typeInfo, h1, e1, e2, gt_iff_lt, g1, g2, g3, g4, decide_false, Bool.or_self, Bool.false_eq_true, if_false,
                        run_askRoom, run_sizeOf hsz, if_neg h0, hzv, newRow, run_newObj]
                      rfl
                  have hsize : ((Array.range (c.toNat * sz)).map (fun j => zv.cells[j % zv.cells.size]!)).size = c.toNat * sz := by simp
                  have hlc : l.toNat ≤ c.toNat := by omega
                  rw [← k1] at hzeros
                  split at h
                  · simp only [Option.some.injEq, Prod.mk.injEq] at h
                    obtain ⟨rfl, rfl⟩ := h
                    obtain ⟨k3, k4⟩ := zeros_ok (e := e) h3 h4 c5 l.toNat g
                    obtain ⟨f4, f5, f6⟩ := k4.flat'
                    have hpre : (List.replicate l.toNat zv.cells.toList).flatten <+: ((Array.range (c.toNat * sz)).map (fun j => zv.cells[j % zv.cells.size]!)).toList := by
                      rw [← k1, hzeros]
                      obtain ⟨d, hd⟩ := Nat.le.dest hlc
                      rw [← hd, ← List.replicate_append_replicate, List.flatten_append]
                      exact List.prefix_append _ _
                    rw [List.length_replicate] at f6
                    refine ⟨_, _, hrun, _, Adv.alloc_upd hi _ _, hi.alloc_row _ e (0, 0) sz l.toNat _ c6 hpre f6 (Nat.zero_le _), ?_⟩
                    refine .row _ _ _ _ _ _ _ _ _ (.inr ⟨_, _, Gh.upd_same _ _ _, rfl, by simp⟩) (k4.mono (Le.upd_new g _ (hi.none_of_ge (Nat.le_refl _)))) (by simp) hlc c6 (fun m hm => by injection hm with hm; exact hm.symm) (fun t' off ht => ?_)
                    simp only [Option.some.injEq, Prod.mk.injEq] at ht
                    obtain ⟨rfl, rfl⟩ := ht
                    exact .inr ⟨0, _, _, Gh.upd_same _ _ _, Nat.le_refl _, by simp, by rw [f6]; simp, by rw [hsize]; simp⟩
                  · simp only [Option.some.injEq, Prod.mk.injEq] at h
                    obtain ⟨rfl, rfl⟩ := h
                    obtain ⟨g', b1, b2, b3⟩ := newArr_ok (e := e) (sz := sz) (len := l.toNat) (cap := some c.toNat) (n := c.toNat) (c := (Array.range (c.toNat * sz)).map (fun j => zv.cells[j % zv.cells.size]!)) (cs := flat (List.replicate c.toNat z)) hi
                      ⟨_, [], by rw [List.append_nil], by rw [← k1, hzeros]; exact f1, by rw [← k1, hzeros]; exact f2, fun v hv => by cases hv⟩ hlc (fun m hm => by injection hm with hm; exact hm.symm) (by rw [hsize]; exact Nat.le_refl _) c6
                    exact ⟨_, _, hrun, g', b1, b2, b3⟩
                · cases h
              · cases h
            · cases h
          · cases h
        · cases h
      | _ => simp [aMakeSlice] at h
    | _ => simp [aMakeSlice] at h
  | [.val _, .loc ..], _ => simp [aMakeSlice] at h
  | [.loc .., _], _ => simp [aMakeSlice] at h
end
end Go.Sim
