/- What operations answer: loads, stores, parts, places. -/
import Derived.Test.YtnplidplamoejaaGreatDoorSimF
set_option linter.unusedVariables false
set_option linter.unusedSimpArgs false
set_option linter.unnecessarySimpa false
namespace Go.Sim
open Go.WideShapes (add_plain)

section
variable {P : Program} {g : Gh} {B : Nat → Nat} {st st' : Store} {w : World} {out : Out}

theorem Upd.self {b : Nat} {x : Obj} (h : w.heap[b]? = some x) : Upd w b x w := ⟨h, fun _ _ => rfl, rfl, rfl, rfl, rfl⟩
theorem Upd.trans {b : Nat} {x y : Obj} {w1 w2 : World} (h : Upd w b x w1) (h' : Upd w1 b y w2) : Upd w b y w2 :=
  ⟨h'.here, fun i hi => (h'.other i hi).trans (h.other i hi), h'.size.trans h.size, h'.os.trans h.os, h'.tape.trans h.tape, h'.output.trans h.output⟩
theorem setCell_upd {b k : Nat} {c : Array Value} {e : TypeId} {fr : Nat × Nat} (h : w.heap[b]? = some (.cells c e fr)) (v : Value) : Upd w b (.cells (c.setIfInBounds k v) e fr) (w.setCell ⟨b, k, none⟩ v) where
  here := by
    have hlt := (Array.getElem?_eq_some_iff.1 h).1
    have hg := (Array.getElem?_eq_some_iff.1 h).2
    simp [World.setCell, Array.getElem?_modify, h]
  other i hi := by
    simp [World.setCell, Array.getElem?_modify, hi.symm]
  size := by simp [World.setCell]
  os := rfl
  tape := rfl
  output := rfl
theorem set_take {α : Type} (l : List α) (k : Nat) (v : α) (h : k < l.length) : (l.set k v).take (k + 1) = l.take k ++ [v] := by
  rw [List.take_succ_eq_append_getElem (by simpa using h)]
  have e : List.take k (l.set k v) = List.take k l := by
    apply List.ext_getElem?
    intro i
    rw [List.getElem?_take, List.getElem?_take]
    split
    · rw [List.getElem?_set_ne (by omega)]
    · rfl
  simp [e]
theorem set_drop {α : Type} (l : List α) (k : Nat) (v : α) (n : Nat) : (l.set k v).drop (k + 1 + n) = l.drop (k + 1 + n) := by
  apply List.ext_getElem?
  intro i
  rw [List.getElem?_drop, List.getElem?_drop, List.getElem?_set_ne (by omega)]
theorem store_run (b o : Nat) (e : TypeId) (fr : Nat × Nat) : ∀ (vs : List Value) (i : Nat) (w : World) (c : Array Value), w.heap[b]? = some (.cells c e fr) → o + i + vs.length ≤ c.size → AllOne vs → Unfrozen c fr (o + i) →
    ∃ w' c', (storeCells ⟨b, o, none⟩ vs i).run P w = .ok () w' ∧ Upd w b (.cells c' e fr) w' ∧ c'.toList = c.toList.take (o + i) ++ vs ++ c.toList.drop (o + i + vs.length)
  | [], i, w, c, h, hl, h1, hf => ⟨w, c, rfl, Upd.self h, by simp⟩
  | v :: vs, i, w, c, h, hl, h1, hf => by
    simp only [List.length_cons] at hl
    have hlt : o + i < c.size := by omega
    have hcell : w.cell? ⟨b, o + i, none⟩ = some c[o + i] := by simp [World.cell?, h, hlt]
    have hfz : w.frozen? ⟨b, o + i, none⟩ = false := by
      have := hf (o + i) (Nat.le_refl _) hlt
      simp only [World.frozen?, h]
      simpa using this
    have hu := setCell_upd (k := o + i) h v
    have hsz : (c.setIfInBounds (o + i) v).size = c.size := by simp
    obtain ⟨w', c', h2, h3, h4⟩ := store_run b o e fr vs (i + 1) (w.setCell ⟨b, o + i, none⟩ v) (c.setIfInBounds (o + i) v) hu.here (by rw [hsz]; omega) (fun u hu => h1 u (List.mem_cons_of_mem _ hu))
      (fun j hj hj' => hf j (by omega) (by omega))
    refine ⟨w', c', ?_, hu.trans h3, ?_⟩
    · simp only [storeCells, Sem.run_bind, add_plain]
      rw [run_store P w _ v _ (h1 v (List.mem_cons_self)), hcell]
      simp only [hfz, if_false, Result.andThen_ok, Bool.false_eq_true]
      exact h2
    · rw [h4]
      simp only [Array.toList_setIfInBounds, List.length_cons]
      rw [show o + (i + 1) = o + i + 1 by omega, set_take _ _ _ (by simpa using hlt), set_drop, show o + i + (vs.length + 1) = o + i + 1 + vs.length by omega]
      simp

theorem loadCs_ok {sz : Nat} {x : In} {v : Value} {cs : List AV} (h : loadCs st sz x = some cs) (hin : InRel g B w x v) (hi : Inv g st w) :
    ∃ b o vs, v = .pointer (some ⟨b, o, none⟩) ∧ Reps g vs cs ∧ AllOne vs ∧ vs.length = sz ∧ ∀ j u, vs[j]? = some u → w.cell? ⟨b, o + j, none⟩ = some u := by
  have part : ∀ {b off : Nat} {c : Array Value} {e : TypeId} {fr : Nat × Nat} {vs rest : List Value} {all : List AV}, w.heap[b]? = some (.cells c e fr) → c.toList = vs ++ rest → Reps g vs all → AllOne vs → cut all off sz = some cs →
      Reps g ((vs.drop off).take sz) cs ∧ AllOne ((vs.drop off).take sz) ∧ ((vs.drop off).take sz).length = sz ∧ ∀ j u, ((vs.drop off).take sz)[j]? = some u → w.cell? ⟨b, off + j, none⟩ = some u := by
    intro b off c e fr vs rest all h1 h2 h3 h4 h5
    obtain ⟨h6, rfl⟩ := cut_some h5
    have hl := h3.length
    refine ⟨(h3.drop off).take sz, (h4.drop off).take sz, by rw [List.length_take, List.length_drop]; omega, fun j u hj => ?_⟩
    rw [List.getElem?_take] at hj
    split at hj
    · rw [List.getElem?_drop] at hj
      have : c.toList[off + j]? = some u := by rw [h2, List.getElem?_append_left (List.getElem?_eq_some_iff.1 hj).1]; exact hj
      simp [World.cell?, h1]
      simpa using this
    · cases hj
  match x with
  | .val (.ptr o off) =>
    cases hin with
    | ptr b _ _ hl =>
      simp only [loadCs] at h
      split at h
      · rename_i all hg
        obtain ⟨tot, hb, _, c, e, fr, vs, rest, h1, h2, h3, h4, h5, h6⟩ := hi.cellsAt hl hg
        obtain ⟨a1, a2, a3, a4⟩ := part h1 h2 h3 h4 h
        exact ⟨b, off, _, rfl, a1, a2, a3, a4⟩
      · cases h
  | .val (.rptr all) =>
    cases hin with
    | rptr b o vs _ hm h1 hr =>
      simp only [loadCs] at h
      obtain ⟨h6, rfl⟩ := cut_some h
      have hl := hr.length
      refine ⟨b, o, vs.take sz, rfl, by simpa using hr.take sz, h1.take sz, by rw [List.length_take]; omega, fun j u hj => (hm.take sz).cell hi j u hj⟩
  | .loc b off all =>
    obtain ⟨rfl, c, e, fr, h1, h2, h3, h4, h5⟩ := hin
    simp only [loadCs] at h
    obtain ⟨a1, a2, a3, a4⟩ := part h1 (by simp : c.toList = c.toList ++ []) h2 h3 h
    exact ⟨B b, off, _, rfl, a1, a2, a3, a4⟩
  | .val (.bool _) => simp [loadCs] at h
  | .val (.int _ _) => simp [loadCs] at h
  | .val (.str _) => simp [loadCs] at h
  | .val .nilptr => simp [loadCs] at h
  | .val .nils => simp [loadCs] at h
  | .val (.row _ _ _ _) => simp [loadCs] at h
  | .val (.arr _ _ _ _ _) => simp [loadCs] at h
  | .val .nilmap => simp [loadCs] at h
  | .val (.map _) => simp [loadCs] at h
  | .val (.func _ _ _) => simp [loadCs] at h
  | .val .nilFunc => simp [loadCs] at h
  | .val (.iface _ _) => simp [loadCs] at h
  | .val .nilIface => simp [loadCs] at h
  | .val (.agg _) => simp [loadCs] at h
  | .val (.tuple _) => simp [loadCs] at h
  | .val .junk => simp [loadCs] at h
theorem aLoad_ok {md t : Nat} {ins : List In} {v : Value} (h : aLoad P md t ins st = some (out, st')) (hin : InsRel g B w ins [v]) (hi : Inv g st w) : ValOk g B P st' w out (Instr.loadAt t v) := by
  match ins, hin with
  | [x], .cons _ _ _ _ hx .nil =>
    simp only [aLoad] at h
    split at h
    · rename_i sz hsz
      split at h
      · rename_i cs hcs
        split at h
        · rename_i y hy
          obtain ⟨b, o, vs, rfl, h1, h2, h3, h4⟩ := loadCs_ok hcs hx hi
          obtain ⟨u, hu, hr⟩ := run_loadVar_of hsz h3 hy h1 h2 h4
          have hrun : (Instr.loadAt t (.pointer (some ⟨b, o, none⟩))).run P w = .ok u w := by simp [Instr.loadAt, Instr.sureAddr, hu]
          split at h
          · split at h
            · rename_i r hf
              obtain ⟨y', st1⟩ := r
              simp only [Option.some.injEq, Prod.mk.injEq] at h
              obtain ⟨rfl, rfl⟩ := h
              obtain ⟨g', a, b, c⟩ := freezeV_ok hf hr hi
              exact ⟨_, _, hrun, g', a, b, c⟩
            · cases h
          · simp only [Option.some.injEq, Prod.mk.injEq] at h
            obtain ⟨rfl, rfl⟩ := h
            exact ⟨_, _, hrun, OutOk.pure hi hr⟩
        · cases h
      · cases h
    · cases h
theorem aStore_ok {t : Nat} {ins : List In} {v u : Value} (h : aStore P t ins st = some (out, st')) (hin : InsRel g B w ins [v, u]) (hi : Inv g st w) : UnitOk g B P st' w out (Instr.storeAt t v u) := by
  match ins, hin with
  | [x, .val y], .cons _ _ _ _ hx (.cons _ _ _ _ hy .nil) =>
    simp only [aStore] at h
    split at h
    · rename_i sz hsz
      split at h
      · rename_i hc
        obtain ⟨hr, ho⟩ := Rep.cells hy hc.2
        have hlen : u.cells.size = sz := by have := hr.length; simp at this; omega
        have run : ∀ {b off : Nat} {w' : World}, (storeCells ⟨b, off, none⟩ u.cells.toList 0).run P w = .ok () w' → (Instr.storeAt t (.pointer (some ⟨b, off, none⟩)) u).run P w = .ok () w' := by
          intro b off w' h
          simp [Instr.storeAt, Instr.sureAddr, storeVar, run_sizeOf hsz, hlen, h]
        match x with
        | .val (.ptr o off) =>
          cases hx with
          | ptr b _ _ hl =>
            simp only [storeCs] at h
            split at h
            · rename_i cs hg
              split at h
              · rename_i cs' hs
                simp only [Option.some.injEq, Prod.mk.injEq] at h
                obtain ⟨rfl, rfl⟩ := h
                obtain ⟨tot, hb, _, c, e, fr, vs, rest, h1, h2, h3, h4, h5, h6⟩ := hi.cellsAt hl hg
                obtain ⟨h6, rfl⟩ := splice_some hs
                have hl3 := h3.length
                have hlr := hr.length
                have hcs : c.size = vs.length + rest.length := by rw [← Array.length_toList, h2, List.length_append]
                obtain ⟨w', c', k1, k2, k3⟩ := store_run (P := P) b off e fr u.cells.toList 0 w c h1 (by omega) ho (fun i _ hi' => h5 i (Nat.zero_le _) hi')
                have hnew : c'.toList = (vs.take off ++ u.cells.toList ++ vs.drop (off + u.cells.toList.length)) ++ rest := by
                  rw [k3, h2]
                  simp only [Nat.add_zero]
                  rw [List.take_append, List.drop_append, show off - vs.length = 0 by omega, show off + u.cells.toList.length - vs.length = 0 by omega]
                  simp [List.append_assoc]
                have hc'sz : c'.size = c.size := by
                  rw [← Array.length_toList, k3, ← Array.length_toList]
                  simp only [List.length_append, List.length_take, List.length_drop, Array.length_toList, Nat.add_zero]
                  simp at hlr
                  omega
                obtain ⟨i1, a1⟩ := hi.writeCells (ys := cs.take off ++ y.cells ++ cs.drop (off + y.cells.length)) hb hg h1 k2 hnew
                  (by rw [hlr]; exact ((h3.take off).append hr).append (h3.drop _)) (((h4.take off).append ho).append (h4.drop _)) (hi.allRest hb hg h1 h2) (fun i _ hi' => h5 i (Nat.zero_le _) (by omega)) (by omega)
                exact ⟨w', run k1, g, a1, i1, .tuple _ _ .nil⟩
              · cases h
            · cases h
        | .loc b off cs =>
          obtain ⟨rfl, c, e, fr, h1, h3, h4, h5, hnone⟩ := hx
          simp only [storeCs] at h
          split at h
          · rename_i cs' hs
            simp only [Option.some.injEq, Prod.mk.injEq] at h
            obtain ⟨rfl, rfl⟩ := h
            obtain ⟨h6, rfl⟩ := splice_some hs
            have hl3 := h3.length
            have hlr := hr.length
            have hcs : c.size = cs.length := by rw [← Array.length_toList, hl3]
            obtain ⟨w', c', k1, k2, k3⟩ := store_run (P := P) (B b) off e fr u.cells.toList 0 w c h1 (by omega) ho (fun i _ hi' => h5 i (Nat.zero_le _) hi')
            simp only [Nat.add_zero] at k3
            have hc'sz : c'.size = c.size := by
              rw [← Array.length_toList, k3, ← Array.length_toList]
              simp only [List.length_append, List.length_take, List.length_drop, Array.length_toList]
              simp at hlr
              omega
            refine ⟨w', run k1, c', e, fr, k2, ?_, ?_, fun i _ hi' => h5 i (Nat.zero_le _) (by omega), hi⟩
            · rw [k3, hlr]; exact ((h3.take off).append hr).append (h3.drop _)
            · rw [k3]; exact ((h4.take off).append ho).append (h4.drop _)
          · cases h
        | .val (.bool _) => simp [storeCs] at h
        | .val (.int _ _) => simp [storeCs] at h
        | .val (.str _) => simp [storeCs] at h
        | .val .nilptr => simp [storeCs] at h
        | .val (.rptr _) => simp [storeCs] at h
        | .val .nils => simp [storeCs] at h
        | .val (.row _ _ _ _) => simp [storeCs] at h
        | .val (.arr _ _ _ _ _) => simp [storeCs] at h
        | .val .nilmap => simp [storeCs] at h
        | .val (.map _) => simp [storeCs] at h
        | .val (.func _ _ _) => simp [storeCs] at h
        | .val .nilFunc => simp [storeCs] at h
        | .val (.iface _ _) => simp [storeCs] at h
        | .val .nilIface => simp [storeCs] at h
        | .val (.agg _) => simp [storeCs] at h
        | .val (.tuple _) => simp [storeCs] at h
        | .val .junk => simp [storeCs] at h
      · cases h
    · cases h
  | [_, .loc ..], _ => simp [aStore] at h
end
end Go.Sim
