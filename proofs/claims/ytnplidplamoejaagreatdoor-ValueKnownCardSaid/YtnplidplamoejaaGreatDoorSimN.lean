/- What operations answer: structs, arrays and slices that are made. -/
import Derived.Test.YtnplidplamoejaaGreatDoorSimM
set_option linter.unusedVariables false
set_option linter.unusedSimpArgs false
set_option linter.unnecessarySimpa false
namespace Go.Sim
open Go.WideShapes (add_plain)

section
variable {P : Program} {g : Gh} {B : Nat → Nat} {st st' : Store} {w : World} {out : Out}

theorem foldl_set (off : Nat) : ∀ (vs : List Value) (j : Nat) (cells : Array Value), off + j + vs.length ≤ cells.size →
    ((vs.zipIdx j).foldl (fun cs p => cs.setIfInBounds (off + p.2) p.1) cells).toList = cells.toList.take (off + j) ++ vs ++ cells.toList.drop (off + j + vs.length)
  | [], j, cells, h => by simp
  | v :: vs, j, cells, h => by
    simp only [List.length_cons] at h
    rw [List.zipIdx_cons, List.foldl_cons, foldl_set off vs (j + 1) _ (by simp; omega)]
    simp only [Array.toList_setIfInBounds, List.length_cons]
    rw [show off + (j + 1) = off + j + 1 by omega, set_take _ _ _ (by simp; omega), set_drop, show off + j + (vs.length + 1) = off + j + 1 + vs.length by omega]
    simp
/-- What lies in cells, for good or not. -/
def CellsOk (g : Gh) (c : Array Value) (cs : List AV) : Prop := Reps g c.toList cs ∧ AllOne c.toList
theorem fill_ok {place place' : Nat → Option (Nat × Nat)} (hp : ∀ i p, place i = some p → place' i = some p) : ∀ (ps : List (Nat × AV)) (vs : List (Nat × Value)) (cs cs' : List AV) (c : Array Value), fillV place ps cs = some cs' → vs.map (·.1) = ps.map (·.1) →
    Reps g (vs.map (·.2)) (ps.map (·.2)) → CellsOk g c cs → ∃ c', Instr.fill place' c vs = some c' ∧ CellsOk g c' cs'
  | [], vs, cs, cs', c, h, hi, hr, hc => by
    simp [fillV] at h; subst h
    cases vs with
    | nil => exact ⟨c, rfl, hc⟩
    | cons _ _ => simp at hi
  | (i, x) :: ps, vs, cs, cs', c, h, hi, hr, hc => by
    match vs, hi, hr with
    | (i', v) :: vs, hi1, .cons _ _ _ _ hx hs =>
    simp only [List.map_cons, List.cons.injEq] at hi1
    obtain ⟨e1, hi2⟩ := hi1
    subst e1
    simp only [fillV] at h
    split at h
    · cases h
    · rename_i off sz hpl
      split at h
      · rename_i hsz
        split at h
        · rename_i cs1 hsp
          obtain ⟨h1, rfl⟩ := splice_some hsp
          obtain ⟨r1, r2⟩ := Rep.cells hx hsz.2
          have hvl : v.cells.size = sz := by have := r1.length; simp at this; omega
          have hcl : c.size = cs.length := by rw [← Array.length_toList]; exact hc.1.length
          have hxl : v.cells.size = x.cells.length := by have := r1.length; simpa using this
          have hfold := foldl_set off v.cells.toList 0 c (by simp; omega)
          simp only [Nat.add_zero] at hfold
          have hz : (v.cells.zipIdx.foldl (fun cs p => cs.setIfInBounds (off + p.2) p.1) c) = ((v.cells.toList.zipIdx 0).foldl (fun cs p => cs.setIfInBounds (off + p.2) p.1) c) := by
            rw [← Array.foldl_toList]
            simp
          have hok : CellsOk g (v.cells.zipIdx.foldl (fun cs p => cs.setIfInBounds (off + p.2) p.1) c) (cs.take off ++ x.cells ++ cs.drop (off + x.cells.length)) := by
            unfold CellsOk
            rw [hz, hfold]
            have : v.cells.toList.length = x.cells.length := by simpa using hxl
            rw [this]
            exact ⟨((hc.1.take off).append r1).append (hc.1.drop _), ((hc.2.take off).append r2).append (hc.2.drop _)⟩
          obtain ⟨c', q1, q2⟩ := fill_ok hp ps vs _ cs' _ h hi2 hs hok
          refine ⟨c', ?_, q2⟩
          simp only [Instr.fill, hp _ _ hpl]
          rw [if_neg (by simp; omega)]
          exact q1
        · cases h
      · cases h
theorem zip_fst {α β : Type} : ∀ (a : List α) (b : List β), a.length = b.length → (a.zip b).map (·.1) = a
  | [], [], _ => rfl
  | x :: a, y :: b, h => by simp at h; simp [zip_fst a b h]
theorem zip_snd {α β : Type} : ∀ (a : List α) (b : List β), a.length = b.length → (a.zip b).map (·.2) = b
  | [], [], _ => rfl
  | x :: a, y :: b, h => by simp at h; simp [zip_snd a b h]
theorem run_mapM_sizes (fs : List Field) (h : ∀ f ∈ fs, ∃ n, sizeT P f.type = some n) (w : World) :
    (fs.mapM (m := Sem) fun f => do pure (f.offset, ← sizeOf f.type)).run P w = .ok (fs.map fun f => (f.offset, (sizeT P f.type).getD 0)) w := by
  induction fs with
  | nil => rfl
  | cons f fs ih =>
    obtain ⟨n, hn⟩ := h f (List.mem_cons_self)
    have := ih (fun f' hf => h f' (List.mem_cons_of_mem _ hf))
    simp only [List.mapM_cons, Sem.run_bind, run_sizeOf hn, Result.andThen_ok, Sem.run_pure, this, List.map_cons, hn, Option.getD_some]
theorem run_mapM_sizesA (fs : Array Field) (h : ∀ f ∈ fs.toList, ∃ n, sizeT P f.type = some n) (w : World) :
    (fs.mapM (m := Sem) fun f => do pure (f.offset, ← sizeOf f.type)).run P w = .ok (fs.map fun f => (f.offset, (sizeT P f.type).getD 0)) w := by
  rw [Array.mapM_eq_mapM_toList, Sem.run_map, run_mapM_sizes fs.toList h w]
  simp only [Result.andThen_ok]
  congr 1
  apply Array.ext'
  simp
theorem aBuild_ok {t : Nat} {ps : Array (Nat × Operand)} {ρ : Operand → Value} {xs : List AV} (h : aBuild P t (ps.toList.map (·.1)) xs st = some (out, st')) (hr : Reps g (ps.toList.map fun p => ρ p.2) xs) (hi : Inv g st w) :
    ValOk g B P st' w out (Instr.build t (ps.map fun p => (p.1, ρ p.2))) := by
  have hlen : (ps.toList.map (·.1)).length = xs.length := by have := hr.length; simpa using this
  have hfst : ((ps.map fun p => (p.1, ρ p.2)).toList).map (·.1) = ((ps.toList.map (·.1)).zip xs).map (·.1) := by
    rw [zip_fst _ _ hlen]; simp
  have hsnd : Reps g (((ps.map fun p => (p.1, ρ p.2)).toList).map (·.2)) (((ps.toList.map (·.1)).zip xs).map (·.2)) := by
    rw [zip_snd _ _ hlen]
    have : ((ps.map fun p => (p.1, ρ p.2)).toList).map (·.2) = ps.toList.map fun p => ρ p.2 := by simp
    rw [this]; exact hr
  unfold aBuild at h
  split at h
  · rename_i z hz
    obtain ⟨i, zv, h1, h2, h3, h4⟩ := zeroT_ok hz
    obtain ⟨z1, z2⟩ := Rep.cells (h3 g) h4
    have hzv := run_zeroValue (P := P) h1 h2 w
    split at h
    · rename_i fs hu
      split at h
      · rename_i hall
        split at h
        · rename_i cs hf
          simp only [Option.some.injEq, Prod.mk.injEq] at h
          obtain ⟨rfl, rfl⟩ := h
          have hsizes : ∀ f ∈ fs.toList, ∃ n, sizeT P f.type = some n := by
            intro f hf'
            have := (Array.all_eq_true'.1 hall) f (by simpa using hf')
            exact Option.isSome_iff_exists.1 this
          obtain ⟨c', q1, q2⟩ := fill_ok (g := g) (place' := fun j => (fs.map fun f => (f.offset, (sizeT P f.type).getD 0))[j]?) (fun j p hp => by
            unfold placeS at hp
            split at hp
            · rename_i f hf'
              split at hp
              · rename_i sz hsz
                injection hp with hp; subst hp
                simp [hf', hsz]
              · cases hp
            · cases hp) _ (ps.map fun p => (p.1, ρ p.2)).toList _ cs zv.cells hf hfst hsnd ⟨z1, z2⟩
          refine RunsTo.ok hi (.mk (v := .agg c') ?_ (.agg _ _ q2.2 q2.1))
          simp only [Instr.build, Sem.run_bind, hzv, Result.andThen_ok, underlying, run_program, show P.underlying _ = _ from hu, run_mapM_sizesA fs hsizes, q1, Sem.run_pure]
        · cases h
      · cases h
    · rename_i n e hu
      split at h
      · rename_i sz hsz
        split at h
        · rename_i cs hf
          simp only [Option.some.injEq, Prod.mk.injEq] at h
          obtain ⟨rfl, rfl⟩ := h
          obtain ⟨c', q1, q2⟩ := fill_ok (g := g) (place' := fun i => some (i * sz, sz)) (fun j p hp => hp) _ (ps.map fun p => (p.1, ρ p.2)).toList _ cs zv.cells hf hfst hsnd ⟨z1, z2⟩
          refine RunsTo.ok hi (.mk (v := .agg c') ?_ (.agg _ _ q2.2 q2.1))
          simp only [Instr.build, Sem.run_bind, hzv, Result.andThen_ok, underlying, run_program, show P.underlying _ = _ from hu, run_sizeOf hsz, q1, Sem.run_pure]
        · cases h
      · cases h
    · cases h
  · cases h
/-- So many zeros, cell by cell. -/
theorem zeros_eq (zs : Array Value) (n : Nat) (h : 0 < zs.size ∨ n = 0) : ((Array.range (n * zs.size)).map (fun i => zs[i % zs.size]!)).toList = (List.replicate n zs.toList).flatten := by
  rcases Nat.eq_zero_or_pos n with rfl | hn
  · simp
  have hz : 0 < zs.size := by omega
  clear h hn
  simp only [Array.toList_map, Array.toList_range]
  induction n with
  | zero => simp
  | succ n ih =>
    rw [List.replicate_succ', List.flatten_append, ← ih, Nat.add_mul, Nat.one_mul, List.range_add, List.map_append]
    congr 1
    simp only [List.flatten_cons, List.flatten_nil, List.append_nil, List.map_map]
    apply List.ext_getElem
    · simp
    · intro i hi1 hi2
      simp at hi1
      have e : (n * zs.size + i) % zs.size = i := by rw [Nat.mul_comm, Nat.mul_add_mod, Nat.mod_eq_of_lt hi1]
      simp [e, hi1]
theorem flat_replicate (z : AV) (n : Nat) : flat (List.replicate n z) = (List.replicate n z.cells).flatten := by
  simp [flat, List.flatMap_replicate]
theorem Reps.flatten_replicate {vs : List Value} {xs : List AV} (h : Reps g vs xs) : ∀ n, Reps g (List.replicate n vs).flatten (List.replicate n xs).flatten
  | 0 => .nil
  | n + 1 => by simp only [List.replicate_succ, List.flatten_cons]; exact h.append (Reps.flatten_replicate h n)
theorem AllOne.flatten_replicate {vs : List Value} (h : AllOne vs) (n : Nat) : AllOne (List.replicate n vs).flatten := by
  intro v hv
  obtain ⟨l, hl, hv⟩ := List.mem_flatten.1 hv
  rw [(List.mem_replicate.1 hl).2] at hv
  exact h v hv
end
end Go.Sim
