/- Part of the proof that litmuslaw11.ValueSets answers true for every input. -/
import Derived.Test.YtnplidplamoejaaGreatDoorVSetsTA
import Derived.LaidEqlPtr
import Derived.Lib.Builder
import Derived.Lib.UnsafeStr
import Derived.Laws.Strings
import Derived.Lib.Strings
import Derived.Lib.ConvBytes
import Derived.Laws.BytesArg
import Derived.IntWalk
set_option linter.unusedVariables false
set_option linter.unusedSimpArgs false
set_option linter.unnecessarySimpa false
namespace Go.Sim
open Go.WideShapes (add_plain)

section
variable {P : Program} {g : Gh} {B : Nat → Nat} {st st' : Store} {w : World} {out : Out}

theorem Upd.self {b : Nat} {x : Obj} (h : w.heap[b]? = some x) : Upd w b x w := ⟨h, fun _ _ => rfl, rfl, rfl, rfl, rfl⟩
theorem Upd.trans {b : Nat} {x y : Obj} {w1 w2 : World} (h : Upd w b x w1) (h' : Upd w1 b y w2) : Upd w b y w2 :=
  ⟨h'.here, fun i hi => (h'.other i hi).trans (h.other i hi), h'.size.trans h.size, h'.os.trans h.os, h'.tape.trans h.tape, h'.output.trans h.output⟩
theorem setCell_upd {b k : Nat} {c : Array Value} {e : TypeId} {fr : Nat × Nat} (h : w.heap[b]? = some (.cells c e fr)) (v : Value) : Upd w b (.cells (c.setIfInBounds k v) e fr) (w.setCell ⟨b, k, none⟩ v) where
  here := by
    have hlt := (Array.getElem?_eq_some_iff.1 h).1
    have hg := (Array.getElem?_eq_some_iff.1 h).2
    simp [World.setCell, Array.getElem?_modify, h]
  other i hi := by
    simp [World.setCell, Array.getElem?_modify, hi.symm]
  size := by simp [World.setCell]
  os := rfl
  tape := rfl
  output := rfl
theorem set_take {α : Type} (l : List α) (k : Nat) (v : α) (h : k < l.length) : (l.set k v).take (k + 1) = l.take k ++ [v] := by
  rw [List.take_succ_eq_append_getElem (by simpa using h)]
  have e : List.take k (l.set k v) = List.take k l := by
    apply List.ext_getElem?
    intro i
    rw [List.getElem?_take, List.getElem?_take]
    split
    · rw [List.getElem?_set_ne (by omega)]
    · rfl
  simp [e]
theorem set_drop {α : Type} (l : List α) (k : Nat) (v : α) (n : Nat) : (l.set k v).drop (k + 1 + n) = l.drop (k + 1 + n) := by
  apply List.ext_getElem?
  intro i
  rw [List.getElem?_drop, List.getElem?_drop, List.getElem?_set_ne (by omega)]
theorem store_run (b o : Nat) (e : TypeId) (fr : Nat × Nat) : ∀ (vs : List Value) (i : Nat) (w : World) (c : Array Value), w.heap[b]? = some (.cells c e fr) → o + i + vs.length ≤ c.size → AllOne vs → Unfrozen c fr (o + i) →
    ∃ w' c', (storeCells ⟨b, o, none⟩ vs i).run P w = .ok () w' ∧ Upd w b (.cells c' e fr) w' ∧ c'.toList = c.toList.take (o + i) ++ vs ++ c.toList.drop (o + i + vs.length)
  | [], i, w, c, h, hl, h1, hf => ⟨w, c, rfl, Upd.self h, by simp⟩
  | v :: vs, i, w, c, h, hl, h1, hf => by
    simp only [List.length_cons] at hl
    have hlt : o + i < c.size := by omega
    have hcell : w.cell? ⟨b, o + i, none⟩ = some c[o + i] := by simp [World.cell?, h, hlt]
    have hfz : w.frozen? ⟨b, o + i, none⟩ = false := by
      have := hf (o + i) (Nat.le_refl _) hlt
      simp only [World.frozen?, h]
      simpa using this
    have hu := setCell_upd (k := o + i) h v
    have hsz : (c.setIfInBounds (o + i) v).size = c.size := by simp
    obtain ⟨w', c', h2, h3, h4⟩ := store_run b o e fr vs (i + 1) (w.setCell ⟨b, o + i, none⟩ v) (c.setIfInBounds (o + i) v) hu.here (by rw [hsz]; omega) (fun u hu => h1 u (List.mem_cons_of_mem _ hu))
      (fun j hj hj' => hf j (by omega) (by omega))
    refine ⟨w', c', ?_, hu.trans h3, ?_⟩
    · simp only [storeCells, Sem.run_bind, add_plain]
      rw [run_store P w _ v _ (h1 v (List.mem_cons_self)), hcell]
      simp only [hfz, if_false, Result.andThen_ok, Bool.false_eq_true]
      exact h2
    · rw [h4]
      simp only [Array.toList_setIfInBounds, List.length_cons]
      rw [show o + (i + 1) = o + i + 1 by omega, set_take _ _ _ (by simpa using hlt), set_drop, show o + i + (vs.length + 1) = o + i + 1 + vs.length by omega]
      simp

theorem loadCs_ok {sz : Nat} {x : In} {v : Value} {cs : List AV} (h : loadCs st sz x = some cs) (hin : InRel g B w x v) (hi : Inv g st w) :
    ∃ b o vs, v = .pointer (some ⟨b, o, none⟩) ∧ Reps g vs cs ∧ AllOne vs ∧ vs.length = sz ∧ ∀ j u, vs[j]? = some u → w.cell? ⟨b, o + j, none⟩ = some u := by
  have part : ∀ {b off : Nat} {c : Array Value} {e : TypeId} {fr : Nat × Nat} {vs rest : List Value} {all : List AV}, w.heap[b]? = some (.cells c e fr) → c.toList = vs ++ rest → Reps g vs all → AllOne vs → cut all off sz = some cs →
      Reps g ((vs.drop off).take sz) cs ∧ AllOne ((vs.drop off).take sz) ∧ ((vs.drop off).take sz).length = sz ∧ ∀ j u, ((vs.drop off).take sz)[j]? = some u → w.cell? ⟨b, off + j, none⟩ = some u := by
    intro b off c e fr vs rest all h1 h2 h3 h4 h5
    obtain ⟨h6, rfl⟩ := cut_some h5
    have hl := h3.length
    refine ⟨(h3.drop off).take sz, (h4.drop off).take sz, by rw [List.length_take, List.length_drop]; omega, fun j u hj => ?_⟩
    rw [List.getElem?_take] at hj
    split at hj
    · rw [List.getElem?_drop] at hj
      have : c.toList[off + j]? = some u := by rw [h2, List.getElem?_append_left (List.getElem?_eq_some_iff.1 hj).1]; exact hj
      simp [World.cell?, h1]
      simpa using this
    · cases hj
  match x with
  | .val (.ptr o off) =>
    cases hin with
    | ptr b _ _ hl =>
      simp only [loadCs] at h
      split at h
      · rename_i all hg
        obtain ⟨tot, hb, _, c, e, fr, vs, rest, h1, h2, h3, h4, h5, h6⟩ := hi.cellsAt hl hg
        obtain ⟨a1, a2, a3, a4⟩ := part h1 h2 h3 h4 h
        exact ⟨b, off, _, rfl, a1, a2, a3, a4⟩
      · cases h
  | .val (.rptr all) =>
    cases hin with
    | rptr b o vs _ hm h1 hr =>
      simp only [loadCs] at h
      obtain ⟨h6, rfl⟩ := cut_some h
      have hl := hr.length
      refine ⟨b, o, vs.take sz, rfl, by simpa using hr.take sz, h1.take sz, by rw [List.length_take]; omega, fun j u hj => (hm.take sz).cell hi j u hj⟩
  | .loc b off all =>
    obtain ⟨rfl, c, e, fr, h1, h2, h3, h4, h5⟩ := hin
    simp only [loadCs] at h
    obtain ⟨a1, a2, a3, a4⟩ := part h1 (by simp : c.toList = c.toList ++ []) h2 h3 h
    exact ⟨B b, off, _, rfl, a1, a2, a3, a4⟩
  | .val (.bool _) => simp [loadCs] at h
  | .val (.int _ _) => simp [loadCs] at h
  | .val (.str _) => simp [loadCs] at h
  | .val .nilptr => simp [loadCs] at h
  | .val .nils => simp [loadCs] at h
  | .val (.row _ _ _ _) => simp [loadCs] at h
  | .val (.arr _ _ _ _ _) => simp [loadCs] at h
  | .val .nilmap => simp [loadCs] at h
  | .val (.map _) => simp [loadCs] at h
  | .val (.func _ _ _) => simp [loadCs] at h
  | .val .nilFunc => simp [loadCs] at h
  | .val (.iface _ _) => simp [loadCs] at h
  | .val .nilIface => simp [loadCs] at h
  | .val (.agg _) => simp [loadCs] at h
  | .val (.tuple _) => simp [loadCs] at h
  | .val .junk => simp [loadCs] at h
theorem aLoad_ok {md t : Nat} {ins : List In} {v : Value} (h : aLoad P md t ins st = some (out, st')) (hin : InsRel g B w ins [v]) (hi : Inv g st w) : ValOk g B P st' w out (Instr.loadAt t v) := by
  match ins, hin with
  | [x], .cons _ _ _ _ hx .nil =>
    simp only [aLoad] at h
    split at h
    · rename_i sz hsz
      split at h
      · rename_i cs hcs
        split at h
        · rename_i y hy
          obtain ⟨b, o, vs, rfl, h1, h2, h3, h4⟩ := loadCs_ok hcs hx hi
          obtain ⟨u, hu, hr⟩ := run_loadVar_of hsz h3 hy h1 h2 h4
          have hrun : (Instr.loadAt t (.pointer (some ⟨b, o, none⟩))).run P w = .ok u w := by simp [Instr.loadAt, Instr.sureAddr, hu]
          split at h
          · split at h
            · rename_i r hf
              obtain ⟨y', st1⟩ := r
              simp only [Option.some.injEq, Prod.mk.injEq] at h
              obtain ⟨rfl, rfl⟩ := h
              obtain ⟨g', a, b, c⟩ := freezeV_ok hf hr hi
              exact ⟨_, _, hrun, g', a, b, c⟩
            · cases h
          · simp only [Option.some.injEq, Prod.mk.injEq] at h
            obtain ⟨rfl, rfl⟩ := h
            exact ⟨_, _, hrun, OutOk.pure hi hr⟩
        · cases h
      · cases h
    · cases h
theorem aStore_ok {t : Nat} {ins : List In} {v u : Value} (h : aStore P t ins st = some (out, st')) (hin : InsRel g B w ins [v, u]) (hi : Inv g st w) : UnitOk g B P st' w out (Instr.storeAt t v u) := by
  match ins, hin with
  | [x, .val y], .cons _ _ _ _ hx (.cons _ _ _ _ hy .nil) =>
    simp only [aStore] at h
    split at h
    · rename_i sz hsz
      split at h
      · rename_i hc
        obtain ⟨hr, ho⟩ := Rep.cells hy hc.2
        have hlen : u.cells.size = sz := by have := hr.length; simp at this; omega
        have run : ∀ {b off : Nat} {w' : World}, (storeCells ⟨b, off, none⟩ u.cells.toList 0).run P w = .ok () w' → (Instr.storeAt t (.pointer (some ⟨b, off, none⟩)) u).run P w = .ok () w' := by
          intro b off w' h
          simp [Instr.storeAt, Instr.sureAddr, storeVar, run_sizeOf hsz, hlen, h]
        match x with
        | .val (.ptr o off) =>
          cases hx with
          | ptr b _ _ hl =>
            simp only [storeCs] at h
            split at h
            · rename_i cs hg
              split at h
              · rename_i cs' hs
                simp only [Option.some.injEq, Prod.mk.injEq] at h
                obtain ⟨rfl, rfl⟩ := h
                obtain ⟨tot, hb, _, c, e, fr, vs, rest, h1, h2, h3, h4, h5, h6⟩ := hi.cellsAt hl hg
                obtain ⟨h6, rfl⟩ := splice_some hs
                have hl3 := h3.length
                have hlr := hr.length
                have hcs : c.size = vs.length + rest.length := by rw [← Array.length_toList, h2, List.length_append]
                obtain ⟨w', c', k1, k2, k3⟩ := store_run (P := P) b off e fr u.cells.toList 0 w c h1 (by omega) ho (fun i _ hi' => h5 i (Nat.zero_le _) hi')
                have hnew : c'.toList = (vs.take off ++ u.cells.toList ++ vs.drop (off + u.cells.toList.length)) ++ rest := by
                  rw [k3, h2]
                  simp only [Nat.add_zero]
                  rw [List.take_append, List.drop_append, show off - vs.length = 0 by omega, show off + u.cells.toList.length - vs.length = 0 by omega]
                  simp [List.append_assoc]
                have hc'sz : c'.size = c.size := by
                  rw [← Array.length_toList, k3, ← Array.length_toList]
                  simp only [List.length_append, List.length_take, List.length_drop, Array.length_toList, Nat.add_zero]
                  simp at hlr
                  omega
                obtain ⟨i1, a1⟩ := hi.writeCells (ys := cs.take off ++ y.cells ++ cs.drop (off + y.cells.length)) hb hg h1 k2 hnew
                  (by rw [hlr]; exact ((h3.take off).append hr).append (h3.drop _)) (((h4.take off).append ho).append (h4.drop _)) (hi.allRest hb hg h1 h2) (fun i _ hi' => h5 i (Nat.zero_le _) (by omega)) (by omega)
                exact ⟨w', run k1, g, a1, i1, .tuple _ _ .nil⟩
              · cases h
            · cases h
        | .loc b off cs =>
          obtain ⟨rfl, c, e, fr, h1, h3, h4, h5, hnone⟩ := hx
          simp only [storeCs] at h
          split at h
          · rename_i cs' hs
            simp only [Option.some.injEq, Prod.mk.injEq] at h
            obtain ⟨rfl, rfl⟩ := h
            obtain ⟨h6, rfl⟩ := splice_some hs
            have hl3 := h3.length
            have hlr := hr.length
            have hcs : c.size = cs.length := by rw [← Array.length_toList, hl3]
            obtain ⟨w', c', k1, k2, k3⟩ := store_run (P := P) (B b) off e fr u.cells.toList 0 w c h1 (by omega) ho (fun i _ hi' => h5 i (Nat.zero_le _) hi')
            simp only [Nat.add_zero] at k3
            have hc'sz : c'.size = c.size := by
              rw [← Array.length_toList, k3, ← Array.length_toList]
              simp only [List.length_append, List.length_take, List.length_drop, Array.length_toList]
              simp at hlr
              omega
            refine ⟨w', run k1, c', e, fr, k2, ?_, ?_, fun i _ hi' => h5 i (Nat.zero_le _) (by omega), hi⟩
            · rw [k3, hlr]; exact ((h3.take off).append hr).append (h3.drop _)
            · rw [k3]; exact ((h4.take off).append ho).append (h4.drop _)
          · cases h
        | .val (.bool _) => simp [storeCs] at h
        | .val (.int _ _) => simp [storeCs] at h
        | .val (.str _) => simp [storeCs] at h
        | .val .nilptr => simp [storeCs] at h
        | .val (.rptr _) => simp [storeCs] at h
        | .val .nils => simp [storeCs] at h
        | .val (.row _ _ _ _) => simp [storeCs] at h
        | .val (.arr _ _ _ _ _) => simp [storeCs] at h
        | .val .nilmap => simp [storeCs] at h
        | .val (.map _) => simp [storeCs] at h
        | .val (.func _ _ _) => simp [storeCs] at h
        | .val .nilFunc => simp [storeCs] at h
        | .val (.iface _ _) => simp [storeCs] at h
        | .val .nilIface => simp [storeCs] at h
        | .val (.agg _) => simp [storeCs] at h
        | .val (.tuple _) => simp [storeCs] at h
        | .val .junk => simp [storeCs] at h
      · cases h
    · cases h
  | [_, .loc ..], _ => simp [aStore] at h
end
end Go.Sim

namespace Go.Sim
open Go.WideShapes (add_plain)

section
variable {P : Program} {g : Gh} {B : Nat → Nat} {st st' : Store} {w : World} {out : Out}

/-- nothing but what is given is looked at -/
def RunsTo (P : Program) (g : Gh) (w : World) (s : Sem Value) (x : AV) : Prop := ∃ v, s.run P w = .ok v w ∧ Rep g v x
theorem RunsTo.mk {s : Sem Value} {x : AV} {v : Value} (h : s.run P w = .ok v w) (hr : Rep g v x) : RunsTo P g w s x := ⟨v, h, hr⟩
theorem RunsTo.ok {s : Sem Value} {x : AV} (hi : Inv g st w) (h : RunsTo P g w s x) : ValOk g B P st w (.val x) s := let ⟨v, h1, h2⟩ := h; ⟨v, w, h1, OutOk.pure hi h2⟩

theorem bitsOf_run {op : BinOp} {k : IntKind} {a b n : Int} (h : bitsOf op k a b = some n) (w : World) : (Op.intBits op k a b).run P w = .ok (.int k n) w := by
  cases op <;> simp [bitsOf] at h <;> subst h <;> simp [Op.intBits]
theorem intOp_run {op : BinOp} {k : IntKind} {a b : Int} {x : AV} (t : TypeId) (h : intOp op k a b = some x) : RunsTo P g w (binOp op t (.int k a) (.int k b)) x := by
  cases op with
  | add => simp [intOp] at h; subst h; exact .mk (by simp [binOp, Op.intArith]) (.int _ _)
  | sub => simp [intOp] at h; subst h; exact .mk (by simp [binOp, Op.intArith]) (.int _ _)
  | mul => simp [intOp] at h; subst h; exact .mk (by simp [binOp, Op.intArith]) (.int _ _)
  | quo =>
    simp only [intOp] at h
    split at h
    · cases h
    · rename_i hb; injection h with h; subst h; exact .mk (by simp [binOp, Op.intDiv, hb]) (.int _ _)
  | rem =>
    simp only [intOp] at h
    split at h
    · cases h
    · rename_i hb; injection h with h; subst h; exact .mk (by simp [binOp, Op.intDiv, hb]) (.int _ _)
  | eql => simp [intOp] at h; subst h; exact .mk (by simp [binOp, Op.intCmp]) (.bool _)
  | neq => simp [intOp] at h; subst h; exact .mk (by simp [binOp, Op.intCmp]) (.bool _)
  | lss => simp [intOp] at h; subst h; exact .mk (by simp [binOp, Op.intCmp]) (.bool _)
  | leq => simp [intOp] at h; subst h; exact .mk (by simp [binOp, Op.intCmp]) (.bool _)
  | gtr => simp [intOp] at h; subst h; exact .mk (by simp [binOp, Op.intCmp]) (.bool _)
  | geq => simp [intOp] at h; subst h; exact .mk (by simp [binOp, Op.intCmp]) (.bool _)
  | shl => simp [intOp] at h
  | shr => simp [intOp] at h
  | and =>
    simp only [intOp] at h
    split at h
    · injection h with h; subst h; rename_i hb; exact .mk (by simpa [binOp] using bitsOf_run hb w) (.int _ _)
    · cases h
  | or =>
    simp only [intOp] at h
    split at h
    · injection h with h; subst h; rename_i hb; exact .mk (by simpa [binOp] using bitsOf_run hb w) (.int _ _)
    · cases h
  | xor =>
    simp only [intOp] at h
    split at h
    · injection h with h; subst h; rename_i hb; exact .mk (by simpa [binOp] using bitsOf_run hb w) (.int _ _)
    · cases h
  | andNot =>
    simp only [intOp] at h
    split at h
    · injection h with h; subst h; rename_i hb; exact .mk (by simpa [binOp] using bitsOf_run hb w) (.int _ _)
    · cases h
theorem shiftOp_run {op : BinOp} {k yk : IntKind} {a b : Int} {x : AV} (h : shiftOp op k a b = some x) : RunsTo P g w (Op.shift op k a yk b) x := by
  unfold shiftOp at h
  split at h
  · cases h
  · rename_i hb
    cases op <;> simp at h <;> subst h
    · exact .mk (by simp [Op.shift, hb]) (.int _ _)
    · exact .mk (by simp [Op.shift, hb]) (.int _ _)
theorem intV_run {op : BinOp} {k k' : IntKind} {a b : Int} {x : AV} (t : TypeId) (h : intV op k k' a b = some x) : RunsTo P g w (binOp op t (.int k a) (.int k' b)) x := by
  by_cases h1 : op = .shl
  · subst h1; exact shiftOp_run (op := .shl) (k := k) (yk := k') (a := a) (b := b) h
  · by_cases h2 : op = .shr
    · subst h2; exact shiftOp_run (op := .shr) (k := k) (yk := k') (a := a) (b := b) h
    · have h3 : (if k = k' then intOp op k a b else none) = some x := by
        cases op <;> first | exact absurd rfl h1 | exact absurd rfl h2 | exact h
      split at h3
      · rename_i e; subst e; exact intOp_run t h3
      · cases h3
theorem toList_eq (s : ByteArray) : s.toList = s.data.toList := ByteArray.toList_eq s
theorem strOp_run {op : BinOp} {a b : ByteArray} {x : AV} (t : TypeId) (h : strOp op a.data.toList b.data.toList = some x) : RunsTo P g w (binOp op t (.string a) (.string b)) x := by
  have ea := toList_eq a
  have eb := toList_eq b
  have run : ∀ op, binOp op t (.string a) (.string b) = Op.stringOp op a b := fun op => by cases op <;> rfl
  rw [run]
  cases op with
  | add =>
    simp only [strOp] at h
    split at h
    · rename_i hb
      injection h with h; subst h
      have hs : ¬ (((a.size + b.size : Nat) : Int) > IntKind.i64.max) := by
        have : a.size = a.data.toList.length := rfl
        have : b.size = b.data.toList.length := rfl
        have : IntKind.i64.max = 9223372036854775807 := by decide
        omega
      refine .mk (v := .string (a ++ b)) (by simp only [Op.stringOp, if_neg hs]; rfl) ?_
      have : a.data.toList ++ b.data.toList = (a ++ b).data.toList := by simp
      rw [this]; exact .str _
    · cases h
  | eql => simp [strOp] at h; subst h; exact .mk (by simp [Op.stringOp, ea, eb]) (.bool _)
  | neq => simp [strOp] at h; subst h; exact .mk (by simp [Op.stringOp, ea, eb]) (.bool _)
  | lss => simp [strOp] at h; subst h; exact .mk (by simp [Op.stringOp, ea, eb]) (.bool _)
  | leq => simp [strOp] at h; subst h; exact .mk (by simp [Op.stringOp, ea, eb]) (.bool _)
  | gtr => simp [strOp] at h; subst h; exact .mk (by simp [Op.stringOp, ea, eb]) (.bool _)
  | geq => simp [strOp] at h; subst h; exact .mk (by simp [Op.stringOp, ea, eb]) (.bool _)
  | _ => simp [strOp] at h

theorem guard_plain (op : BinOp) (t : TypeId) (xo yo : Operand) (a b : Value) (hn : ¬ (a = .nilIface ∧ b = .nilIface)) (hg : ∀ u v, ¬ (a = .agg u ∧ b = .agg v)) (w : World) : (eqGuard op t xo yo a b).run P w = .ok () w := by
  unfold eqGuard
  have core : ∀ (s1 s2 : Sem Unit), ((match (generalizing := false) a, b with
      | .nilIface, .nilIface => s1
      | .agg _, .agg _ => s2
      | _, _ => pure ()) : Sem Unit).run P w = .ok () w := by
    intro s1 s2
    split
    · exact absurd ⟨rfl, rfl⟩ hn
    · exact absurd ⟨rfl, rfl⟩ (hg _ _)
    · rfl
  cases op <;> first | rfl | exact core _ _
theorem ptrNil_ok {a : Value} {x : AV} {r : Bool} (h : ptrNil x = some r) (hx : Rep g a x) : ∃ p, a = .pointer p ∧ p.isNone = r := by
  cases hx <;> simp [ptrNil] at h <;> subst h <;> exact ⟨_, rfl, rfl⟩
theorem sliceNil_ok {a : Value} {x : AV} {r : Bool} (h : sliceNil x = some r) (hx : Rep g a x) : ∃ p n c, a = .slice p n c ∧ p.isNone = r := by
  cases hx <;> simp [sliceNil] at h <;> subst h <;> exact ⟨_, _, _, rfl, rfl⟩
theorem mapNil_ok {a : Value} {x : AV} {r : Bool} (h : mapNil x = some r) (hx : Rep g a x) : ∃ p, a = .map p ∧ p.isNone = r := by
  cases hx <;> simp [mapNil] at h <;> subst h <;> exact ⟨_, rfl, rfl⟩
theorem funcNil_ok {a : Value} {x : AV} {r : Bool} (h : funcNil x = some r) (hx : Rep g a x) : (a = .nilFunc ∧ r = true) ∨ (∃ f b c, a = .func f b c ∧ r = false) := by
  cases hx <;> simp [funcNil] at h <;> subst h <;> first | exact .inl ⟨rfl, rfl⟩ | exact .inr ⟨_, _, _, rfl, rfl⟩
theorem ifaceNil_ok {a : Value} {x : AV} {r : Bool} (h : ifaceNil x = some r) (hx : Rep g a x) : (a = .nilIface ∧ r = true) ∨ (∃ t v, a = .iface t v ∧ r = false) := by
  cases hx <;> simp [ifaceNil] at h <;> subst h <;> first | exact .inl ⟨rfl, rfl⟩ | exact .inr ⟨_, _, rfl, rfl⟩
theorem eqNil_some {a b : Option Bool} {r : Bool} (h : eqNil a b = some r) : ∃ x y, a = some x ∧ b = some y ∧ ((x = true ∧ r = y) ∨ (x = false ∧ y = true ∧ r = false)) := by
  unfold eqNil at h
  split at h
  · exact ⟨true, r, rfl, h, .inl ⟨rfl, rfl⟩⟩
  · split at h
    · injection h with h; subst h; exact ⟨false, true, rfl, rfl, .inr ⟨rfl, rfl, rfl⟩⟩
    · cases h
  · cases h
theorem eq_bool {t : TypeId} (x y : Bool) (hu : P.underlying t = some (.bool)) (d : Nat) (w : World) : (Op.equalIn (d + 1) t (.bool x) (.bool y)).run P w = .ok (x == y) w := by
  unfold Op.equalIn
  simp only [underlying, Sem.run_bind, run_program, Result.andThen_ok, hu, Sem.run_pure]
theorem eq_ptr1 {t : TypeId} {e : TypeId} (v : Option Addr) (hu : P.underlying t = some (.pointer e)) (d : Nat) (w : World) : (Op.equalIn (d + 1) t (.pointer none) (.pointer v)).run P w = .ok v.isNone w := by
  unfold Op.equalIn
  simp only [underlying, Sem.run_bind, run_program, Result.andThen_ok, hu, Sem.run_pure]
theorem eq_ptr2 {t : TypeId} {e : TypeId} (v : Addr) (hu : P.underlying t = some (.pointer e)) (d : Nat) (w : World) : (Op.equalIn (d + 1) t (.pointer (some v)) (.pointer none)).run P w = .ok false w := by
  unfold Op.equalIn
  simp only [underlying, Sem.run_bind, run_program, Result.andThen_ok, hu, Sem.run_pure]
theorem eq_sl1 {t : TypeId} {e : TypeId} (v : Option Addr) (n c n1 c1 : Nat) (hu : P.underlying t = some (.slice e)) (d : Nat) (w : World) : (Op.equalIn (d + 1) t (.slice none n c) (.slice v n1 c1)).run P w = .ok v.isNone w := by
  unfold Op.equalIn
  simp only [underlying, Sem.run_bind, run_program, Result.andThen_ok, hu, Sem.run_pure]
theorem eq_sl2 {t : TypeId} {e : TypeId} (v : Addr) (n c n1 c1 : Nat) (hu : P.underlying t = some (.slice e)) (d : Nat) (w : World) : (Op.equalIn (d + 1) t (.slice (some v) n c) (.slice none n1 c1)).run P w = .ok false w := by
  unfold Op.equalIn
  simp only [underlying, Sem.run_bind, run_program, Result.andThen_ok, hu, Sem.run_pure]
theorem eq_map1 {t : TypeId} {k e : TypeId} (v : Option Nat) (hu : P.underlying t = some (.map k e)) (d : Nat) (w : World) : (Op.equalIn (d + 1) t (.map none) (.map v)).run P w = .ok v.isNone w := by
  unfold Op.equalIn
  simp only [underlying, Sem.run_bind, run_program, Result.andThen_ok, hu, Sem.run_pure]
theorem eq_map2 {t : TypeId} {k e : TypeId} (v : Nat) (hu : P.underlying t = some (.map k e)) (d : Nat) (w : World) : (Op.equalIn (d + 1) t (.map (some v)) (.map none)).run P w = .ok false w := by
  unfold Op.equalIn
  simp only [underlying, Sem.run_bind, run_program, Result.andThen_ok, hu, Sem.run_pure]
theorem eq_fn1 {t : TypeId} {ps rs : Array TypeId} {va : Bool} (hu : P.underlying t = some (.func ps rs va)) (d : Nat) (w : World) : (Op.equalIn (d + 1) t (.nilFunc) (.nilFunc)).run P w = .ok true w := by
  unfold Op.equalIn
  simp only [underlying, Sem.run_bind, run_program, Result.andThen_ok, hu, Sem.run_pure]
theorem eq_fn2 {t : TypeId} {ps rs : Array TypeId} {va : Bool} (f : Fn) (b c : Array Value) (hu : P.underlying t = some (.func ps rs va)) (d : Nat) (w : World) : (Op.equalIn (d + 1) t (.nilFunc) (.func f b c)).run P w = .ok false w := by
  unfold Op.equalIn
  simp only [underlying, Sem.run_bind, run_program, Result.andThen_ok, hu, Sem.run_pure]
theorem eq_fn3 {t : TypeId} {ps rs : Array TypeId} {va : Bool} (f : Fn) (b c : Array Value) (hu : P.underlying t = some (.func ps rs va)) (d : Nat) (w : World) : (Op.equalIn (d + 1) t (.func f b c) (.nilFunc)).run P w = .ok false w := by
  unfold Op.equalIn
  simp only [underlying, Sem.run_bind, run_program, Result.andThen_ok, hu, Sem.run_pure]
theorem eq_if1 {t : TypeId} {ms : Array (String × TypeId)} (hu : P.underlying t = some (.interface ms)) (d : Nat) (w : World) : (Op.equalIn (d + 1) t (.nilIface) (.nilIface)).run P w = .ok true w := by
  unfold Op.equalIn
  simp only [underlying, Sem.run_bind, run_program, Result.andThen_ok, hu, Sem.run_pure]
theorem eq_if2 {t : TypeId} {ms : Array (String × TypeId)} (u : TypeId) (v : Value) (hu : P.underlying t = some (.interface ms)) (d : Nat) (w : World) : (Op.equalIn (d + 1) t (.nilIface) (.iface u v)).run P w = .ok false w := by
  unfold Op.equalIn
  simp only [underlying, Sem.run_bind, run_program, Result.andThen_ok, hu, Sem.run_pure]
theorem eq_if3 {t : TypeId} {ms : Array (String × TypeId)} (u : TypeId) (v : Value) (hu : P.underlying t = some (.interface ms)) (d : Nat) (w : World) : (Op.equalIn (d + 1) t (.iface u v) (.nilIface)).run P w = .ok false w := by
  unfold Op.equalIn
  simp only [underlying, Sem.run_bind, run_program, Result.andThen_ok, hu, Sem.run_pure]
theorem equal_of {t : TypeId} {a b : Value} {r : Bool} {w : World} (h : ∀ d, (Op.equalIn (d + 1) t a b).run P w = .ok r w) : (Op.equal t a b).run P w = .ok r w := h 9999
def EqOk (P : Program) (t : TypeId) (a b : Value) (r : Bool) (w : World) : Prop := (Op.equal t a b).run P w = .ok r w ∧ (∀ op : BinOp, ∀ xo yo : Operand, (eqGuard op t xo yo a b).run P w = .ok () w)
theorem eqV_bool {t : TypeId} {a b : Value} {x y : AV} {r : Bool} (hu : P.underlying t = some .bool) (h : eqBool x y = some r) (hx : Rep g a x) (hy : Rep g b y) (w : World) : EqOk P t a b r w := by
  unfold eqBool at h
  split at h
  · injection h with h; subst h
    cases hx; cases hy
    exact ⟨equal_of fun d => eq_bool _ _ hu d w, fun op xo yo => guard_plain op t xo yo _ _ (by simp) (by simp) w⟩
  · cases h
theorem eqV_ptr {t e : TypeId} {a b : Value} {x y : AV} {r : Bool} (hu : P.underlying t = some (.pointer e)) (h : eqNil (ptrNil x) (ptrNil y) = some r) (hx : Rep g a x) (hy : Rep g b y) (w : World) : EqOk P t a b r w := by
  obtain ⟨p, q, h1, h2, h3⟩ := eqNil_some h
  obtain ⟨u, rfl, hp⟩ := ptrNil_ok h1 hx
  obtain ⟨v, rfl, hq⟩ := ptrNil_ok h2 hy
  refine ⟨equal_of fun d => ?_, fun op xo yo => guard_plain op t xo yo _ _ (by simp) (by simp) w⟩
  cases u with
  | none =>
    simp at hp; subst hp
    rcases h3 with ⟨_, rfl⟩ | ⟨h, _⟩
    · rw [← hq]; exact eq_ptr1 v hu d w
    · cases h
  | some u =>
    simp at hp; subst hp
    rcases h3 with ⟨h, _⟩ | ⟨_, rfl, rfl⟩
    · cases h
    · cases v with
      | none => exact eq_ptr2 u hu d w
      | some v => cases hq
theorem eqV_slice {t e : TypeId} {a b : Value} {x y : AV} {r : Bool} (hu : P.underlying t = some (.slice e)) (h : eqNil (sliceNil x) (sliceNil y) = some r) (hx : Rep g a x) (hy : Rep g b y) (w : World) : EqOk P t a b r w := by
  obtain ⟨p, q, h1, h2, h3⟩ := eqNil_some h
  obtain ⟨u, n, c, rfl, hp⟩ := sliceNil_ok h1 hx
  obtain ⟨v, n', c', rfl, hq⟩ := sliceNil_ok h2 hy
  refine ⟨equal_of fun d => ?_, fun op xo yo => guard_plain op t xo yo _ _ (by simp) (by simp) w⟩
  cases u with
  | none =>
    simp at hp; subst hp
    rcases h3 with ⟨_, rfl⟩ | ⟨h, _⟩
    · rw [← hq]; exact eq_sl1 v n c n' c' hu d w
    · cases h
  | some u =>
    simp at hp; subst hp
    rcases h3 with ⟨h, _⟩ | ⟨_, rfl, rfl⟩
    · cases h
    · cases v with
      | none => exact eq_sl2 u n c n' c' hu d w
      | some v => cases hq
theorem eqV_map {t k e : TypeId} {a b : Value} {x y : AV} {r : Bool} (hu : P.underlying t = some (.map k e)) (h : eqNil (mapNil x) (mapNil y) = some r) (hx : Rep g a x) (hy : Rep g b y) (w : World) : EqOk P t a b r w := by
  obtain ⟨p, q, h1, h2, h3⟩ := eqNil_some h
  obtain ⟨u, rfl, hp⟩ := mapNil_ok h1 hx
  obtain ⟨v, rfl, hq⟩ := mapNil_ok h2 hy
  refine ⟨equal_of fun d => ?_, fun op xo yo => guard_plain op t xo yo _ _ (by simp) (by simp) w⟩
  cases u with
  | none =>
    simp at hp; subst hp
    rcases h3 with ⟨_, rfl⟩ | ⟨h, _⟩
    · rw [← hq]; exact eq_map1 v hu d w
    · cases h
  | some u =>
    simp at hp; subst hp
    rcases h3 with ⟨h, _⟩ | ⟨_, rfl, rfl⟩
    · cases h
    · cases v with
      | none => exact eq_map2 u hu d w
      | some v => cases hq
theorem eqV_func {t : TypeId} {ps rs : Array TypeId} {va : Bool} {a b : Value} {x y : AV} {r : Bool} (hu : P.underlying t = some (.func ps rs va)) (h : eqNil (funcNil x) (funcNil y) = some r) (hx : Rep g a x) (hy : Rep g b y) (w : World) : EqOk P t a b r w := by
  obtain ⟨p, q, h1, h2, h3⟩ := eqNil_some h
  rcases funcNil_ok h1 hx with ⟨rfl, rfl⟩ | ⟨f1, a1, b1, rfl, rfl⟩
  · rcases h3 with ⟨_, rfl⟩ | ⟨h, _⟩
    · rcases funcNil_ok h2 hy with ⟨rfl, rfl⟩ | ⟨f2, a2, b2, rfl, rfl⟩
      · exact ⟨equal_of fun d => eq_fn1 hu d w, fun op xo yo => guard_plain op t xo yo _ _ (by simp) (by simp) w⟩
      · exact ⟨equal_of fun d => eq_fn2 f2 a2 b2 hu d w, fun op xo yo => guard_plain op t xo yo _ _ (by simp) (by simp) w⟩
    · cases h
  · rcases h3 with ⟨h, _⟩ | ⟨_, rfl, rfl⟩
    · cases h
    · rcases funcNil_ok h2 hy with ⟨rfl, _⟩ | ⟨f2, a2, b2, rfl, h⟩
      · exact ⟨equal_of fun d => eq_fn3 f1 a1 b1 hu d w, fun op xo yo => guard_plain op t xo yo _ _ (by simp) (by simp) w⟩
      · cases h
theorem eqV_iface {t : TypeId} {ms : Array (String × TypeId)} {a b : Value} {x y : AV} {r : Bool} (hu : P.underlying t = some (.interface ms)) (h : (match ifaceNil x with
    | some true => (match ifaceNil y with | some false => some false | _ => none)
    | some false => (match ifaceNil y with | some true => some false | _ => none)
    | none => none) = some r) (hx : Rep g a x) (hy : Rep g b y) (w : World) : EqOk P t a b r w := by
  split at h
  · rename_i h1
    split at h
    · rename_i h2
      injection h with h; subst h
      rcases ifaceNil_ok h1 hx with ⟨rfl, hp⟩ | ⟨t1, v1, rfl, hp⟩ <;> rcases ifaceNil_ok h2 hy with ⟨rfl, hq⟩ | ⟨t2, v2, rfl, hq⟩ <;> simp at hp hq
      exact ⟨equal_of fun d => eq_if2 t2 v2 hu d w, fun op xo yo => guard_plain op t xo yo _ _ (by simp) (by simp) w⟩
    · cases h
  · rename_i h1
    split at h
    · rename_i h2
      injection h with h; subst h
      rcases ifaceNil_ok h1 hx with ⟨rfl, hp⟩ | ⟨t1, v1, rfl, hp⟩ <;> rcases ifaceNil_ok h2 hy with ⟨rfl, hq⟩ | ⟨t2, v2, rfl, hq⟩ <;> simp at hp hq
      exact ⟨equal_of fun d => eq_if3 t1 v1 hu d w, fun op xo yo => guard_plain op t xo yo _ _ (by simp) (by simp) w⟩
    · cases h
  · cases h
theorem eqV_run {t : TypeId} {a b : Value} {x y : AV} {r : Bool} (h : eqV P t x y = some r) (hx : Rep g a x) (hy : Rep g b y) (w : World) : EqOk P t a b r w := by
  unfold eqV at h
  split at h <;> rename_i hu
  · exact eqV_bool hu h hx hy w
  · exact eqV_ptr hu h hx hy w
  · exact eqV_slice hu h hx hy w
  · exact eqV_map hu h hx hy w
  · exact eqV_func hu h hx hy w
  · exact eqV_iface hu h hx hy w
  · cases h
end
end Go.Sim

namespace Go.Sim
open Go.WideShapes (add_plain)

section
variable {P : Program} {g : Gh} {B : Nat → Nat} {st st' : Store} {w : World} {out : Out}

def Value.num : Value → Bool
  | .int _ _ | .float _ _ | .complex _ _ _ | .string _ => true
  | _ => false
theorem binOp_eql (t : TypeId) (a b : Value) (h : Value.num a = false) : binOp .eql t a b = (do pure (.bool (← Op.equal t a b))) := by
  cases a <;> first | (simp [Value.num] at h; done) | rfl
theorem binOp_neq (t : TypeId) (a b : Value) (h : Value.num a = false) : binOp .neq t a b = (do pure (.bool (!(← Op.equal t a b)))) := by
  cases a <;> first | (simp [Value.num] at h; done) | rfl
theorem otherV_ok {t : TypeId} {op : BinOp} {xo yo : Operand} {a b : Value} {x y z : AV} (h : otherV P t op x y = some z) (hn : Value.num a = false) (hx : Rep g a x) (hy : Rep g b y) :
    RunsTo P g w (do eqGuard op t xo yo a b; binOp op t a b) z := by
  cases op with
  | eql =>
    simp only [otherV] at h
    split at h
    · rename_i r hr
      injection h with h; subst h
      obtain ⟨h1, h2⟩ := eqV_run hr hx hy w
      refine .mk (v := .bool r) ?_ (.bool r)
      rw [binOp_eql t a b hn]
      simp [h1, h2]
    · cases h
  | neq =>
    simp only [otherV] at h
    split at h
    · rename_i r hr
      injection h with h; subst h
      obtain ⟨h1, h2⟩ := eqV_run hr hx hy w
      refine .mk (v := .bool (!r)) ?_ (.bool _)
      rw [binOp_neq t a b hn]
      simp [h1, h2]
    · cases h
  | _ => simp [otherV] at h
theorem eqGuard_nils {op : BinOp} {t : TypeId} {xo yo : Operand} (h : (isNilC xo || isNilC yo) = true) (w : World) : (eqGuard op t xo yo .nilIface .nilIface).run P w = .ok () w := by
  cases xo <;> cases yo <;> first | (simp [isNilC] at h; done) | (cases op <;> rfl)
theorem binV_ok {t : TypeId} {op : BinOp} {xo yo : Operand} {a b : Value} {x y z : AV} (h : binV P t op xo yo x y = some z) (hx : Rep g a x) (hy : Rep g b y) :
    RunsTo P g w (do eqGuard op t xo yo a b; binOp op t a b) z := by
  have wrap : ∀ {a b : Value}, (¬ (a = .nilIface ∧ b = .nilIface)) → (∀ u v, ¬ (a = .agg u ∧ b = .agg v)) → RunsTo P g w (binOp op t a b) z → RunsTo P g w (do eqGuard op t xo yo a b; binOp op t a b) z := by
    intro a b h1 h2 ⟨v, hv, hr⟩
    exact ⟨v, by simp [guard_plain op t xo yo a b h1 h2 w, hv], hr⟩
  cases hx with
  | int k n =>
    cases hy with
    | int k' m => exact wrap (by simp) (by simp) (intV_run t h)
    | _ => simp [binV] at h
  | str s =>
    cases hy with
    | str s' => exact wrap (by simp) (by simp) (strOp_run t h)
    | _ => simp [binV] at h
  | nilIface =>
    simp only [binV] at h
    cases hy with
    | nilIface =>
      simp only [binNil] at h
      split at h
      · rename_i ms hu
        cases op with
        | eql =>
          simp only [nilsV] at h
          split at h
          · rename_i hc
            injection h with h; subst h
            refine .mk (v := .bool true) ?_ (.bool _)
            rw [binOp_eql t _ _ rfl]
            simp [eqGuard_nils hc, equal_of (fun d => eq_if1 hu d w)]
          · cases h
        | neq =>
          simp only [nilsV] at h
          split at h
          · rename_i hc
            injection h with h; subst h
            refine .mk (v := .bool false) ?_ (.bool _)
            rw [binOp_neq t _ _ rfl]
            simp [eqGuard_nils hc, equal_of (fun d => eq_if1 hu d w)]
          · cases h
        | _ => simp [nilsV] at h
      · cases h
    | iface u v y' h' => exact otherV_ok h rfl .nilIface (.iface u v y' h')
    | bool b => exact otherV_ok h rfl .nilIface (.bool b)
    | int k n => exact otherV_ok h rfl .nilIface (.int k n)
    | str s => exact otherV_ok h rfl .nilIface (.str s)
    | nilptr => exact otherV_ok h rfl .nilIface .nilptr
    | ptr b off o h' => exact otherV_ok h rfl .nilIface (.ptr b off o h')
    | rptr b o vs cs h' h1 hr => exact otherV_ok h rfl .nilIface (.rptr b o vs cs h' h1 hr)
    | nils => exact otherV_ok h rfl .nilIface .nils
    | zsl a => exact otherV_ok h rfl .nilIface (.zsl a)
    | row b o n c sz tok cap xs' vs hi' he hn hc hz hcap ht => exact otherV_ok h rfl .nilIface (.row b o n c sz tok cap xs' vs hi' he hn hc hz hcap ht)
    | arr b off o len c sz cap hl hc hz hcap => exact otherV_ok h rfl .nilIface (.arr b off o len c sz cap hl hc hz hcap)
    | nilmap => exact otherV_ok h rfl .nilIface .nilmap
    | map b o h' => exact otherV_ok h rfl .nilIface (.map b o h')
    | func fn a b x y hf ha hb => exact otherV_ok h rfl .nilIface (.func fn a b x y hf ha hb)
    | yield b o h' => exact otherV_ok h rfl .nilIface (.yield b o h')
    | nilFunc => exact otherV_ok h rfl .nilIface .nilFunc
    | agg cs xs h1 h' => exact otherV_ok h rfl .nilIface (.agg cs xs h1 h')
    | tuple cs xs h' => exact otherV_ok h rfl .nilIface (.tuple cs xs h')
    | junk v => exact otherV_ok h rfl .nilIface (.junk _)
    | uptr b t tot cs' vs' xs' hb hv he => exact otherV_ok h rfl .nilIface (.uptr b t tot cs' vs' xs' hb hv he)
  | bool b => exact otherV_ok h rfl (.bool b) hy
  | nilptr => exact otherV_ok h rfl .nilptr hy
  | ptr b off o h' => exact otherV_ok h rfl (.ptr b off o h') hy
  | rptr b o vs cs h' h1 hr => exact otherV_ok h rfl (.rptr b o vs cs h' h1 hr) hy
  | nils => exact otherV_ok h rfl .nils hy
  | zsl a => exact otherV_ok h rfl (.zsl a) hy
  | row b o n c sz tok cap xs' vs hi' he hn hc hz hcap ht => exact otherV_ok h rfl (.row b o n c sz tok cap xs' vs hi' he hn hc hz hcap ht) hy
  | arr b off o len c sz cap hl hc hz hcap => exact otherV_ok h rfl (.arr b off o len c sz cap hl hc hz hcap) hy
  | nilmap => exact otherV_ok h rfl .nilmap hy
  | map b o h' => exact otherV_ok h rfl (.map b o h') hy
  | func fn a b x y hf ha hb => exact otherV_ok h rfl (.func fn a b x y hf ha hb) hy
  | yield b o h' => exact otherV_ok h rfl (.yield b o h') hy
  | nilFunc => exact otherV_ok h rfl .nilFunc hy
  | iface t v x h' => exact otherV_ok h rfl (.iface t v x h') hy
  | agg cs xs h1 h' => exact otherV_ok h rfl (.agg cs xs h1 h') hy
  | tuple cs xs h' => exact otherV_ok h rfl (.tuple cs xs h') hy
  | uptr b t tot cs' vs' xs' hb hv he => exact otherV_ok h rfl (.uptr b t tot cs' vs' xs' hb hv he) hy
  | junk _ =>
    exfalso
    have hn : ∀ z, eqV P t .junk z = none := by
      intro z
      unfold eqV
      split <;> first | rfl | (cases z <;> rfl)
    have h' := h
    simp only [binV, otherV] at h'
    split at h' <;> simp_all
theorem aBin_ok {t : TypeId} {op : BinOp} {xo yo : Operand} {ins : List In} {a b : Value} (h : aBin P t op xo yo ins st = some (out, st')) (hin : InsRel g B w ins [a, b]) (hi : Inv g st w) :
    ValOk g B P st' w out (do eqGuard op t xo yo a b; binOp op t a b) := by
  match ins, hin with
  | [.val x, .val y], .cons _ _ _ _ hx (.cons _ _ _ _ hy .nil) =>
    simp only [aBin] at h
    split at h
    · rename_i z hz
      simp only [Option.some.injEq, Prod.mk.injEq] at h
      obtain ⟨rfl, rfl⟩ := h
      exact (binV_ok hz hx hy).ok hi
    · unfold ptrBin at h
      split at h
      · rename_i o off o' off' hbin
        split at h
        · rename_i te hte
          split at h
          · rename_i sz hsz
            split at h
            · rename_i cs hcs
              split at h
              · rename_i heq
                obtain ⟨rfl, rfl⟩ := heq
                cases hx with
                | ptr b _ _ hl =>
                  cases hy with
                  | ptr b' _ _ hl' =>
                    obtain ⟨tot, k1, _⟩ := hi.cellsAt hl hcs
                    obtain ⟨tot', k2, _⟩ := hi.cellsAt hl' hcs
                    have hbb := hi.inj b b' _ _ _ k1 k2
                    subst hbb
                    obtain ⟨j, hj, _⟩ := sizeT_some hsz
                    have hg : (eqGuard op t xo yo (.pointer (some ⟨b, off, none⟩)) (.pointer (some ⟨b, off, none⟩))).run P w = .ok () w := guard_plain op t xo yo _ _ (by rintro ⟨h, _⟩; cases h) (by rintro u v ⟨h, _⟩; cases h) w
                    have hE : ∀ d : Nat, (Op.equalIn (d + 1) t (.pointer (some ⟨b, off, none⟩)) (.pointer (some ⟨b, off, none⟩))).run P w = .ok true w := fun d => by
                      simp [Op.equalIn, run_underlying hte, sizeOf, typeInfo, hj, run_sameAddr_same]
                    split at h
                    · simp only [Option.some.injEq, Prod.mk.injEq] at h
                      obtain ⟨rfl, rfl⟩ := h
                      refine ⟨.bool true, w, ?_, OutOk.pure hi (.bool _)⟩
                      simp only [Sem.run_bind, hg, Result.andThen_ok, binOp]
                      simp [Op.equal, Op.maxDepth, hE 9999]
                    · simp only [Option.some.injEq, Prod.mk.injEq] at h
                      obtain ⟨rfl, rfl⟩ := h
                      refine ⟨.bool false, w, ?_, OutOk.pure hi (.bool _)⟩
                      simp only [Sem.run_bind, hg, Result.andThen_ok, binOp]
                      simp [Op.equal, Op.maxDepth, hE 9999]
                    · cases h
              · cases h
            · cases h
          · cases h
        · cases h
      · cases h
  | [.val _, .loc ..], _ => simp [aBin] at h
  | [.loc .., _], _ => simp [aBin] at h
theorem aUn_ok {op : UnOp} {ins : List In} {a : Value} (h : aUn op ins st = some (out, st')) (hin : InsRel g B w ins [a]) (hi : Inv g st w) : ValOk g B P st' w out (Op.unary op a) := by
  match ins, hin with
  | [.val x], .cons _ _ _ _ hx .nil =>
    simp only [aUn] at h
    split at h
    · rename_i z hz
      simp only [Option.some.injEq, Prod.mk.injEq] at h
      obtain ⟨rfl, rfl⟩ := h
      refine RunsTo.ok hi ?_
      cases hx with
      | int k n =>
        cases op with
        | neg => simp [unV] at hz; subst hz; exact .mk (v := .int k (k.wrap (-n))) (by simp [Op.unary, Op.intArith]) (.int _ _)
        | xor =>
          simp only [unV] at hz
          split at hz
          · rename_i m hm
            injection hz with hz; subst hz
            exact .mk (by simpa [Op.unary] using bitsOf_run hm w) (.int _ _)
          · cases hz
        | _ => simp [unV] at hz
      | bool b =>
        cases op with
        | not => simp [unV] at hz; subst hz; exact .mk (v := .bool (!b)) (by simp [Op.unary]) (.bool _)
        | _ => simp [unV] at hz
      | _ => cases op <;> simp [unV] at hz
    · cases h
  | [.loc ..], _ => simp [aUn] at h
theorem aIface_ok {t : TypeId} {ins : List In} {a : Value} (h : aIface P t ins st = some (out, st')) (hin : InsRel g B w ins [a]) (hi : Inv g st w) : ValOk g B P st' w out (Instr.makeInterface t a) := by
  match ins, hin with
  | [.val x], .cons _ _ _ _ hx .nil =>
    simp only [aIface] at h
    split at h
    · cases h
    · rename_i d hnot hu
      simp only [Option.some.injEq, Prod.mk.injEq] at h
      obtain ⟨rfl, rfl⟩ := h
      refine RunsTo.ok hi (.mk (v := .iface t a) ?_ (.iface t a x hx))
      replace hu : P.underlying t = _ := hu
      simp only [Instr.makeInterface, underlying, Sem.run_bind, run_program, Result.andThen_ok, hu]
      cases d <;> first | rfl | exact (hnot _ rfl).elim
    · cases h
  | [.loc ..], _ => simp [aIface] at h
theorem InsRel.vals {ins : List In} {vs : List Value} {xs : List AV} (h : valsOf ins = some xs) (hin : InsRel g B w ins vs) : Reps g vs xs := by
  match ins, hin with
  | [], .nil => simp [valsOf] at h; subst h; exact .nil
  | .val x :: r, .cons _ _ _ _ hx hs =>
    simp only [valsOf] at h
    split at h
    · rename_i ys hy
      injection h with h; subst h
      exact .cons _ _ _ _ hx (InsRel.vals hy hs)
    · cases h
  | .loc .. :: _, _ => simp [valsOf] at h
theorem die_stat (hi : Inv g st w) {b o tot : Nat} {c2 : Array Value} {e2 : TypeId} {fr : Nat × Nat} (hb : g.blk b = some (.obj o tot)) (h1 : w.heap[b]? = some (.cells c2 e2 fr)) :
    Adv g w ((g.drop b o).upd b (.stat c2.toList)) w ∧ Inv ((g.drop b o).upd b (.stat c2.toList)) (st.set o .dead) w := by
  have hd := hi.die hb
  have hb1 : (g.drop b o).blk b = none := Gh.drop_same
  have hle1 : Le g (g.drop b o) := Le.drop hb
  have hle2 : Le (g.drop b o) ((g.drop b o).upd b (.stat c2.toList)) := Le.upd_new _ _ hb1
  refine ⟨⟨hle1.trans hle2, Nat.le_refl _, fun b' _ hn => ⟨rfl, ?_⟩, fun _ _ _ => rfl, rfl, rfl, rfl⟩, ⟨hd.wfo, hd.wft, fun b' t s sz' n cs' hb' => ?_, fun b' cs' hb' => ?_, fun b' o' n hb' => ?_, fun b1 b2 o' n1 n2 h1' h2' => ?_, hd.dead⟩⟩
  · have : b' ≠ b := by rintro rfl; rw [hb] at hn; cases hn
    rw [Gh.upd_other _ _ this, Gh.drop_other this]
    exact hn
  · have h : b' ≠ b := by rintro rfl; simp [Gh.upd] at hb'
    rw [Gh.upd_other _ _ h] at hb'; exact hd.row b' t s sz' n cs' hb'
  · by_cases h : b' = b
    · subst h; simp [Gh.upd] at hb'; subst hb'; exact ⟨c2, e2, fr, h1, rfl⟩
    · rw [Gh.upd_other _ _ h] at hb'; exact hd.stat b' cs' hb'
  · have h : b' ≠ b := by rintro rfl; simp [Gh.upd] at hb'
    rw [Gh.upd_other _ _ h] at hb'
    obtain ⟨x, h7, h8⟩ := hd.obj b' o' n hb'
    exact ⟨x, h7, h8.mono hle2⟩
  · have h : b1 ≠ b := by rintro rfl; simp [Gh.upd] at h1'
    have h' : b2 ≠ b := by rintro rfl; simp [Gh.upd] at h2'
    rw [Gh.upd_other _ _ h] at h1'; rw [Gh.upd_other _ _ h'] at h2'
    exact hd.inj b1 b2 o' n1 n2 h1' h2'
theorem freezePtrs_ok : ∀ (xs : List AV) (st st' : Store) (g : Gh) (zs : List AV) (vs : List Value), freezePtrs xs st = some (zs, st') → Reps g vs xs → Inv g st w → ∃ g', Adv g w g' w ∧ Inv g' st' w ∧ Reps g' vs zs
  | [], st, st', g, zs, vs, h, hr, hi => by
    simp only [freezePtrs, Option.some.injEq, Prod.mk.injEq] at h
    obtain ⟨rfl, rfl⟩ := h
    exact ⟨g, Adv.refl g w, hi, hr⟩
  | x :: xs, st, st', g, zs, vs, h, hr, hi => by
    match vs, hr with
    | v :: vs, .cons _ _ _ _ hx hxs =>
    have plain : ∀ (hp : (match freezePtrs xs st with
        | some q => some (x :: q.1, q.2)
        | none => none) = some (zs, st')), ∃ g', Adv g w g' w ∧ Inv g' st' w ∧ Reps g' (v :: vs) zs := by
      intro hp
      cases hf : freezePtrs xs st with
      | none => simp [hf] at hp
      | some r =>
        obtain ⟨zs1, st1⟩ := r
        simp only [hf, Option.some.injEq, Prod.mk.injEq] at hp
        obtain ⟨rfl, rfl⟩ := hp
        obtain ⟨g', a, b, c⟩ := freezePtrs_ok xs st st1 g zs1 vs hf hxs hi
        exact ⟨g', a, b, .cons _ _ _ _ (hx.mono a.le) c⟩
    cases hx with
    | ptr b off o hl =>
      simp only [freezePtrs] at h
      split at h
      · rename_i cs hg
        split at h
        · rename_i h0
          subst h0
          cases hf : freezePtrs xs (st.set o .dead) with
          | none => simp [hf] at h
          | some r =>
            obtain ⟨zs1, st1⟩ := r
            simp only [hf, Option.some.injEq, Prod.mk.injEq] at h
            obtain ⟨rfl, rfl⟩ := h
            obtain ⟨tot, hb, hn, c2, e2, fr, us, rest, h1, h2, h3, h4, h5, h6⟩ := hi.cellsAt hl hg
            obtain ⟨a1, i1⟩ := die_stat hi hb h1
            obtain ⟨g', a, b', d⟩ := freezePtrs_ok xs (st.set o .dead) st1 _ zs1 vs hf (hxs.mono a1.le) i1
            refine ⟨g', a1.trans a, b', .cons _ _ _ _ (Rep.mono a.le (.rptr b 0 us cs (.inr ⟨_, _, Gh.upd_same _ _ _, rfl, ?_⟩) h4 (h3.mono a1.le))) d⟩
            rw [h2]; exact List.prefix_append _ _
        · cases h
      · cases h
    | bool b => exact plain h
    | int k n => exact plain h
    | str s => exact plain h
    | nilptr => exact plain h
    | rptr b o vs cs h' h1 hr => exact plain h
    | nils => exact plain h
    | zsl a => exact plain h
    | row b o n c sz tok cap xs' vs hi' he hn hc hz hcap ht => exact plain h
    | arr b off o len c sz cap hl hc hz hcap => exact plain h
    | nilmap => exact plain h
    | map b o h' => exact plain h
    | func fn a b x y hf ha hb => exact plain h
    | yield b o h' => exact plain h
    | nilFunc => exact plain h
    | iface t v x h' => exact plain h
    | nilIface => exact plain h
    | agg cs xs h1 h' => exact plain h
    | tuple cs xs h' => exact plain h
    | junk v => exact plain h
    | uptr b t tot cs' vs' xs' hb hv he => exact plain h
theorem aMakeFunc_ok {md : Nat} {fn : Fn} {a b : Array Value} {xs : List AV} (h : aMakeFunc md fn a.size xs st = some (out, st')) (hr : Reps g (a.toList ++ b.toList) xs) (hi : Inv g st w) : ValOk g B P st' w out (Instr.makeFunc fn a b) := by
  cases fn with
  | func f =>
    simp only [aMakeFunc] at h
    split at h
    · split at h
      · rename_i q hq
        simp only [Option.some.injEq, Prod.mk.injEq] at h
        obtain ⟨rfl, rfl⟩ := h
        obtain ⟨g', a1, i1, r1⟩ := freezePtrs_ok xs st q.2 g q.1 _ hq hr hi
        refine ⟨.func (.func f) a b, w, rfl, g', a1, i1, .func _ _ _ _ _ rfl ?_ ?_⟩
        · have := r1.take a.size
          rwa [List.take_left' (by simp)] at this
        · have := r1.drop a.size
          rwa [List.drop_left' (by simp)] at this
      · cases h
    · simp only [Option.some.injEq, Prod.mk.injEq] at h
      obtain ⟨rfl, rfl⟩ := h
      refine RunsTo.ok hi (.mk (v := .func (.func f) a b) rfl (.func _ _ _ _ _ rfl ?_ ?_))
      · have := hr.take a.size
        rwa [List.take_left' (by simp)] at this
      · have := hr.drop a.size
        rwa [List.drop_left' (by simp)] at this
  | _ => simp [aMakeFunc] at h
theorem aExtract_ok {i : Nat} {ins : List In} {a : Value} (h : aExtract i ins st = some (out, st')) (hin : InsRel g B w ins [a]) (hi : Inv g st w) : ValOk g B P st' w out (Instr.extract a i) := by
  match ins, hin with
  | [.val x], .cons _ _ _ _ hx .nil =>
    cases hx with
    | tuple cs xs hs =>
      simp only [aExtract] at h
      split at h
      · rename_i y hy
        simp only [Option.some.injEq, Prod.mk.injEq] at h
        obtain ⟨rfl, rfl⟩ := h
        obtain ⟨v, hv, hr⟩ := hs.get i y hy
        refine RunsTo.ok hi (.mk (v := v) ?_ hr)
        have : cs[i]? = some v := by simpa using hv
        simp [Instr.extract, this]
      · cases h
    | _ => simp [aExtract] at h
  | [.loc ..], _ => simp [aExtract] at h
end
end Go.Sim

namespace Go.Sim
open Go.WideShapes (add_plain)

section
variable {P : Program} {g : Gh} {B : Nat → Nat} {st st' : Store} {w : World} {out : Out}

theorem fieldsT_some {s f off ft : Nat} (h : fieldsT P s f = some (off, ft)) : ∃ fs x, P.underlying s = some (.struct fs) ∧ fs[f]? = some x ∧ x.offset = off ∧ x.type = ft := by
  unfold fieldsT at h
  split at h
  · rename_i fs hu
    split at h
    · rename_i x hx
      simp only [Option.some.injEq, Prod.mk.injEq] at h
      exact ⟨fs, x, hu, hx, h.1, h.2⟩
    · cases h
  · cases h
theorem partV_ok {t off : Nat} {cs : List AV} {c : Array Value} (h : partV P t cs off st = some (out, st')) (hr : Reps g c.toList cs) (h1 : AllOne c.toList) (hi : Inv g st w) : ValOk g B P st' w out (part t c off) := by
  unfold partV at h
  split at h
  · rename_i sz hsz
    split at h
    · rename_i d hd
      split at h
      · rename_i v hv
        simp only [Option.some.injEq, Prod.mk.injEq] at h
        obtain ⟨rfl, rfl⟩ := h
        obtain ⟨hl, rfl⟩ := cut_some hd
        have hlen := hr.length
        simp at hlen
        refine RunsTo.ok hi ?_
        rcases mkT_some hv with ⟨ha, rfl⟩ | ⟨ha, he⟩
        · refine .mk (v := .agg (c.extract off (off + sz))) (by simp [part, run_isAgg ha, run_sizeOf hsz]) (.agg _ _ ?_ ?_)
          · rw [Array.toList_extract]
            exact fun v hv => h1 v (by
              rw [List.extract_eq_take_drop] at hv
              exact List.mem_of_mem_drop (List.mem_of_mem_take hv))
          · rw [Array.toList_extract, List.extract_eq_take_drop]
            simpa using (hr.drop off).take sz
        · have h2 := (hr.drop off).take sz
          rw [he] at h2
          match hq : (c.toList.drop off).take sz, h2 with
          | [u], .cons _ _ _ _ hu .nil =>
            have h3 : c[off]? = some u := by
              have : ((c.toList.drop off).take sz)[0]? = some u := by rw [hq]; rfl
              rw [List.getElem?_take] at this
              split at this
              · rw [List.getElem?_drop] at this; simpa using this
              · cases this
            exact .mk (v := u) (by simp [part, run_isAgg ha, h3]) hu
      · cases h
    · cases h
  · cases h
theorem aField_ok {s f : Nat} {ins : List In} {a : Value} (h : aField P s f ins st = some (out, st')) (hin : InsRel g B w ins [a]) (hi : Inv g st w) : ValOk g B P st' w out (Instr.field s a f) := by
  match ins, hin with
  | [.val x], .cons _ _ _ _ hx .nil =>
    cases hx with
    | agg cs xs h1 hs =>
      simp only [aField] at h
      split at h
      · rename_i off ft hf
        obtain ⟨fs, y, hu, hy, rfl, rfl⟩ := fieldsT_some hf
        obtain ⟨v, w', hrun, ho⟩ := partV_ok (B := B) h hs h1 hi
        exact ⟨v, w', by simp [Instr.field, underlying, show P.underlying _ = _ from hu, hy, asAgg, hrun], ho⟩
      · cases h
    | _ => simp [aField] at h
  | [.loc ..], _ => simp [aField] at h
/-- A place n cells further on. -/
theorem addrBy_ok {n : Nat} {x : In} {a : Value} (h : addrBy n st x = some (out, st')) (hx : InRel g B w x a) (hi : Inv g st w) :
    ∃ b o, a = .pointer (some ⟨b, o, none⟩) ∧ OutOk g B st' w out (.pointer (some ⟨b, o + n, none⟩)) w := by
  match x with
  | .val y =>
    cases hx with
    | ptr b off o hl =>
      simp only [addrBy, Option.some.injEq, Prod.mk.injEq] at h
      obtain ⟨rfl, rfl⟩ := h
      exact ⟨b, off, rfl, OutOk.pure hi (.ptr b (off + n) o hl)⟩
    | rptr b o vs cs hm h1 hr =>
      simp only [addrBy, Option.some.injEq, Prod.mk.injEq] at h
      obtain ⟨rfl, rfl⟩ := h
      exact ⟨b, o, rfl, OutOk.pure hi (.rptr b (o + n) _ _ (hm.drop n) (h1.drop n) (hr.drop n))⟩
    | _ => simp [addrBy] at h
  | .loc b off cs =>
    simp only [addrBy, Option.some.injEq, Prod.mk.injEq] at h
    obtain ⟨rfl, rfl⟩ := h
    exact ⟨B b, off, hx.1, rfl, rfl, hi⟩
theorem aFieldAddr_ok {s f : Nat} {ins : List In} {a : Value} (h : aFieldAddr P s f ins st = some (out, st')) (hin : InsRel g B w ins [a]) (hi : Inv g st w) : ValOk g B P st' w out (Instr.fieldAt s a f) := by
  match ins, hin with
  | [x], .cons _ _ _ _ hx .nil =>
    simp only [aFieldAddr] at h
    split at h
    · rename_i off ft hf
      obtain ⟨fs, y, hu, hy, rfl, rfl⟩ := fieldsT_some hf
      split at h
      · rename_i sz hsz
        split at h
        · rename_i hz
          obtain ⟨b, o, rfl, ho⟩ := addrBy_ok h hx hi
          refine ⟨_, w, ?_, ho⟩
          have : sz ≠ 0 := by omega
          simp [Instr.fieldAt, underlying, show P.underlying _ = _ from hu, hy, Instr.sureAddr, fieldPlace, run_sizeOf hsz, this, add_plain]
        · cases h
      · cases h
    · cases h
theorem idx_some {i : AV} {n j : Nat} (h : idx i n = some j) : ∃ k m, i = .int k m ∧ 0 ≤ m ∧ m < n ∧ m.toNat = j := by
  unfold idx at h
  split at h
  · rename_i k m
    split at h
    · rename_i hc
      injection h with h
      exact ⟨k, m, rfl, hc.1, hc.2, h⟩
    · cases h
  · cases h
theorem elemT_some {t e : Nat} (h : elemT P t = some e) : P.underlying t = some (.slice e) := by
  unfold elemT at h
  split at h
  · injection h with h; subst h; assumption
  · cases h
theorem aIndexAddr_ok {t : Nat} {ins : List In} {a b : Value} (h : aIndexAddr P t ins st = some (out, st')) (hin : InsRel g B w ins [a, b]) (hi : Inv g st w) : ValOk g B P st' w out (Instr.indexAt t a b) := by
  match ins, hin with
  | [x, .val i], .cons _ _ _ _ hx (.cons _ _ _ _ hj .nil) =>
    simp only [aIndexAddr] at h
    split at h
    · rename_i e hu
      split at h
      · rename_i sz hsz
        match x with
        | .val y =>
          cases hx with
          | row b o n c s tok cap xs vs hm he hn hc hz hcap ht =>
            simp only [elemAddr] at h
            split at h
            · rename_i hs
              subst hs
              split at h
              · rename_i j hij
                split at h
                · rename_i z hz'
                  simp only [Option.some.injEq, Prod.mk.injEq] at h
                  obtain ⟨rfl, rfl⟩ := h
                  obtain ⟨k, m, rfl, h0, h1, rfl⟩ := idx_some hij
                  cases hj
                  obtain ⟨q1, q2⟩ := he.get _ _ hz'
                  refine RunsTo.ok hi (.mk (v := .pointer (some ⟨b, o + m.toNat * s, none⟩)) ?_ (.rptr _ _ _ _ (hm.sub _ _) ?_ q1))
                  · have : m < (n : Int) := by rw [← hn]; exact h1
                    replace hu : P.underlying _ = _ := hu
                    simp [Instr.indexAt, asIntOf, underlying, show P.underlying _ = _ from hu, h0, this, run_sizeOf hsz, add_plain]
                  · exact (((he.flat').2.1).drop _).take _
                · cases h
              · cases h
            · cases h
          | arr b off o len c s cap hl hc hz hcap =>
            simp only [elemAddr] at h
            split at h
            · rename_i hs
              subst hs
              split at h
              · rename_i j hij
                simp only [Option.some.injEq, Prod.mk.injEq] at h
                obtain ⟨rfl, rfl⟩ := h
                obtain ⟨k, m, rfl, h0, h1, rfl⟩ := idx_some hij
                cases hj
                refine RunsTo.ok hi (.mk (v := .pointer (some ⟨b, off + m.toNat * s, none⟩)) ?_ (.ptr _ _ _ hl.live))
                simp [Instr.indexAt, asIntOf, underlying, show P.underlying _ = _ from hu, h0, h1, run_sizeOf hsz, add_plain]
              · cases h
            · cases h
          | _ => simp [elemAddr] at h
        | .loc b off cs => simp [elemAddr] at h
      · cases h
    · rename_i n e hu
      split at h
      · rename_i sz hsz
        split at h
        · rename_i j hij
          obtain ⟨k, m, rfl, h0, h1, rfl⟩ := idx_some hij
          cases hj
          obtain ⟨b, o, rfl, ho⟩ := addrBy_ok h hx hi
          refine ⟨_, w, ?_, ho⟩
          simp [Instr.indexAt, asIntOf, underlying, show P.underlying _ = _ from hu, Instr.sureAddr, h0, h1, run_sizeOf hsz, add_plain]
        · cases h
      · cases h
    · cases h
  | [_, .loc ..], _ => simp [aIndexAddr] at h
theorem aIndex_ok {t : Nat} {ins : List In} {a b : Value} (h : aIndex P t ins st = some (out, st')) (hin : InsRel g B w ins [a, b]) (hi : Inv g st w) : ValOk g B P st' w out (Instr.index t a b) := by
  match ins, hin with
  | [.val x, .val i], .cons _ _ _ _ hx (.cons _ _ _ _ hj .nil) =>
    simp only [aIndex] at h
    split at h
    · rename_i hu
      cases hx with
      | str s =>
        simp only [indexS] at h
        split at h
        · rename_i j hij
          split at h
          · rename_i c hc
            simp only [Option.some.injEq, Prod.mk.injEq] at h
            obtain ⟨rfl, rfl⟩ := h
            obtain ⟨k, m, rfl, h0, h1, rfl⟩ := idx_some hij
            cases hj
            refine RunsTo.ok hi (.mk (v := .int .u8 c.toNat) ?_ (.int _ _))
            have h2 : s[m.toNat]? = some c := by
              obtain ⟨hlt, hg⟩ := List.getElem?_eq_some_iff.1 hc
              have hlt' : m.toNat < s.size := hlt
              rw [getElem?_pos s m.toNat hlt']
              exact congrArg some hg
            simp [Instr.index, asIntOf, underlying, show P.underlying _ = _ from hu, h0, h2]
          · cases h
        · cases h
      | _ => simp [indexS] at h
    · rename_i n e hu
      cases hx with
      | agg cs xs h1 hs =>
        simp only [indexC] at h
        split at h
        · rename_i sz hsz
          split at h
          · rename_i j hij
            obtain ⟨k, m, rfl, h0, h2, rfl⟩ := idx_some hij
            cases hj
            obtain ⟨v, w', hrun, ho⟩ := partV_ok (B := B) h hs h1 hi
            refine ⟨v, w', ?_, ho⟩
            simp [Instr.index, asIntOf, underlying, show P.underlying _ = _ from hu, h0, h2, run_sizeOf hsz, hrun]
          · cases h
        · cases h
      | _ => simp [indexC] at h
    · cases h
  | [.val _, .loc ..], _ => simp [aIndex] at h
  | [.loc .., _], _ => simp [aIndex] at h
theorem Reps.entries_length {a : List MapEntry} {b : List (AV × AV × Nat)} (h : EntsRep g a b) : a.length = b.length := by
  induction h with
  | nil => rfl
  | cons _ _ _ _ _ _ _ _ ih => simp [ih]
theorem getMap {o b clock : Nat} {es : List (AV × AV × Nat)} (hi : Inv g st w) (hl : Live g b o) (hg : st.get o = some (.map es clock)) : ∃ tot, g.blk b = some (.obj o tot) ∧ ∃ ces, w.heap[b]? = some (.map ces clock) ∧ EntsRep g ces.toList es := by
  rcases hl with hd | ⟨tot, hb, _⟩
  · rw [hi.dead o hd] at hg; cases hg
  · obtain ⟨x, h1, h2⟩ := hi.obj b o tot hb
    rw [hg] at h1; injection h1 with h1; subst h1
    exact ⟨tot, hb, h2⟩
theorem run_getObj {b : Nat} {x : Obj} (h : w.heap[b]? = some x) (hx : ∀ c e fr, x ≠ .cells c e fr) : (getObj b).run P w = .ok x w := by
  simp only [getObj, Sem.run, h]
theorem aLen_ok {ts : Array TypeId} {t ty : TypeId} {ins : List In} {a : Value} (ht : ts[0]? = some t) (h : aLen P t ins st = some (out, st')) (hin : InsRel g B w ins [a]) (hi : Inv g st w) : ValOk g B P st' w out (Builtin.len_ ts ty #[a]) := by
  match ins, hin with
  | [.val x], .cons _ _ _ _ hx .nil =>
    simp only [aLen] at h
    split at h
    · rename_i d hu
      split at h
      · rename_i n hn
        simp only [Option.some.injEq, Prod.mk.injEq] at h
        obtain ⟨rfl, rfl⟩ := h
        refine RunsTo.ok hi (.mk (v := .int .i64 n) ?_ (.int _ _))
        unfold lenV at hn
        split at hn
        · cases hx <;> simp at hn
          subst hn
          simp [Builtin.len_, ht, underlying, show P.underlying _ = _ from hu, goInt]
        · cases hx <;> simp at hn
          · subst hn; simp [Builtin.len_, ht, underlying, show P.underlying _ = _ from hu, goInt]
          · subst hn; simp [Builtin.len_, ht, underlying, show P.underlying _ = _ from hu, goInt]
          · rename_i hxn _ _ _ _; subst hn; simp [Builtin.len_, ht, underlying, show P.underlying _ = _ from hu, goInt, hxn]
          · subst hn; simp [Builtin.len_, ht, underlying, show P.underlying _ = _ from hu, goInt]
        · cases hx <;> simp [entriesOf] at hn
          · subst hn; simp [Builtin.len_, ht, underlying, show P.underlying _ = _ from hu, goInt]
          · rename_i b o hl
            split at hn
            · rename_i es hes
              injection hn with hn; subst hn
              split at hes
              · rename_i es' clock hg
                injection hes with hes; subst hes
                obtain ⟨_, _, ces, h1, h2⟩ := getMap hi hl hg
                have := Reps.entries_length h2
                simp at this
                simp [Builtin.len_, ht, underlying, show P.underlying _ = _ from hu, goInt, run_getObj h1, this]
              · cases hes
            · cases hn
        · injection hn with hn; subst hn
          simp [Builtin.len_, ht, underlying, show P.underlying _ = _ from hu, goInt]
        · cases hn
      · cases h
    · cases h
  | [.loc ..], _ => simp [aLen] at h
theorem aCap_ok {ts : Array TypeId} {t ty : TypeId} {ins : List In} {a : Value} (ht : ts[0]? = some t) (h : aCap P t ins st = some (out, st')) (hin : InsRel g B w ins [a]) (hi : Inv g st w) : ValOk g B P st' w out (Builtin.cap_ ts ty #[a]) := by
  match ins, hin with
  | [.val x], .cons _ _ _ _ hx .nil =>
    simp only [aCap] at h
    split at h
    · rename_i e he
      have hu := elemT_some he
      split at h
      · rename_i n hn
        simp only [Option.some.injEq, Prod.mk.injEq] at h
        obtain ⟨rfl, rfl⟩ := h
        refine RunsTo.ok hi (.mk (v := .int .i64 n) ?_ (.int _ _))
        cases hx with
        | nils => simp [capV] at hn; subst hn; simp [Builtin.cap_, ht, underlying, show P.underlying _ = _ from hu, goInt]
        | row b o n' c s tok cap xs vs hm he hn' hc hz hcap _ => simp [capV] at hn; have := hcap n hn; subst this; simp [Builtin.cap_, ht, underlying, show P.underlying _ = _ from hu, goInt]
        | arr b off o len c sz cap hl hc hz hcap => simp [capV] at hn; have := hcap n hn; subst this; simp [Builtin.cap_, ht, underlying, show P.underlying _ = _ from hu, goInt]
        | _ => simp [capV] at hn
      · cases h
    · cases h
  | [.loc ..], _ => simp [aCap] at h
theorem aMin_ok {ts : Array TypeId} {ty : TypeId} {ins : List In} {a b : Value} (h : aMin ins st = some (out, st')) (hin : InsRel g B w ins [a, b]) (hi : Inv g st w) : ValOk g B P st' w out (Builtin.min_ ts ty #[a, b]) := by
  match ins, hin with
  | [.val x, .val y], .cons _ _ _ _ hx (.cons _ _ _ _ hy .nil) =>
    cases hx with
    | int k n =>
      cases hy with
      | int k' m =>
        simp only [aMin, Option.some.injEq, Prod.mk.injEq] at h
        obtain ⟨rfl, rfl⟩ := h
        exact RunsTo.ok hi (.mk (by simp [Builtin.min_, Builtin.min2]) (.int _ _))
      | _ => simp [aMin] at h
    | _ => simp [aMin] at h
  | [.val _, .loc ..], _ => simp [aMin] at h
  | [.loc .., _], _ => simp [aMin] at h
theorem aMax_ok {ts : Array TypeId} {ty : TypeId} {ins : List In} {a b : Value} (h : aMax ins st = some (out, st')) (hin : InsRel g B w ins [a, b]) (hi : Inv g st w) : ValOk g B P st' w out (Builtin.max_ ts ty #[a, b]) := by
  match ins, hin with
  | [.val x, .val y], .cons _ _ _ _ hx (.cons _ _ _ _ hy .nil) =>
    cases hx with
    | int k n =>
      cases hy with
      | int k' m =>
        simp only [aMax, Option.some.injEq, Prod.mk.injEq] at h
        obtain ⟨rfl, rfl⟩ := h
        exact RunsTo.ok hi (.mk (by simp [Builtin.max_, Builtin.max2]) (.int _ _))
      | _ => simp [aMax] at h
    | _ => simp [aMax] at h
  | [.val _, .loc ..], _ => simp [aMax] at h
  | [.loc .., _], _ => simp [aMax] at h
end
end Go.Sim

namespace Go.Sim
open Go.WideShapes (add_plain)

section
variable {P : Program} {g : Gh} {B : Nat → Nat} {st st' : Store} {w : World} {out : Out}

inductive OptRel (g : Gh) : Option AV → Option Value → Prop
  | none : OptRel g .none .none
  | some (x : AV) (v : Value) (h : Rep g v x) : OptRel g (.some x) (.some v)
theorem bound_run {v : Value} {x : AV} {d n k : Nat} (code : BoundsCode) (h : bnd (some x) d n = some k) (hx : Rep g v x) : (Instr.sliceBound v n code).run P w = .ok k w ∧ k ≤ n := by
  unfold bnd at h
  split at h
  · rename_i e; cases e
  · rename_i kk i e
    injection e with e; subst e
    split at h
    · rename_i hc
      injection h with h; subst h
      cases hx
      exact ⟨by simp [Instr.sliceBound, asIntOf, hc.1, hc.2], by omega⟩
    · cases h
  · cases h
theorem bounds_some {lo hi : Option AV} {len m l h : Nat} (e : bounds lo hi len m = some (l, h)) : bnd hi len m = some h ∧ bnd lo 0 h = some l := by
  unfold bounds at e
  split at e
  · rename_i h' hh
    split at e
    · rename_i l' hl
      simp only [Option.some.injEq, Prod.mk.injEq] at e
      obtain ⟨rfl, rfl⟩ := e
      exact ⟨hh, hl⟩
    · cases e
  · cases e
theorem bnd_some_le {x : AV} {d n k : Nat} (h : bnd (some x) d n = some k) : k ≤ n := by
  unfold bnd at h
  split at h
  · rename_i e; cases e
  · split at h
    · injection h with h; omega
    · cases h
  · cases h
/-- the bounds, as the machine reckons them: mc: the most, cap or what is told -/
theorem sliceBounds_run {isSlice : Bool} {len cap mc mb l h : Nat} {lo hi mx : Option AV} {clo chi cmx : Option Value} (hlo : OptRel g lo clo) (hhi : OptRel g hi chi) (hmx : OptRel g mx cmx)
    (hm : (mx = none ∧ mc = cap) ∨ ∃ v, mx = some v ∧ bnd (some v) 0 cap = some mc) (hno : ¬ (mx.isSome = true ∧ hi.isNone = true)) (hb : bounds lo hi len mb = some (l, h)) (hle : mb ≤ mc) (hlen : hi = none → len ≤ mb) :
    (Instr.sliceBounds isSlice len cap clo chi cmx).run P w = .ok (l, h, mc) w ∧ l ≤ h ∧ h ≤ mb := by
  obtain ⟨h1, h2⟩ := bounds_some hb
  have hl : l ≤ h := by
    cases hlo with
    | none => simp [bnd] at h2; omega
    | some x v hv => exact bnd_some_le h2
  have hh : h ≤ mb := by
    cases hhi with
    | none => have := hlen rfl; simp [bnd] at h1; omega
    | some x v hv => exact bnd_some_le h1
  have widen : ∀ {x : AV} {d n n' k : Nat}, bnd (some x) d n = some k → n ≤ n' → bnd (some x) d n' = some k := by
    intro x d n n' k h hn
    unfold bnd at h ⊢
    split at h
    · rename_i e; cases e
    · rename_i e
      injection e with e; subst e
      split at h
      · rw [if_pos (by omega)]; exact h
      · cases h
    · cases h
  have rl : ∀ code, (match clo with
      | some v => Instr.sliceBound v h code
      | none => pure 0 : Sem Nat).run P w = .ok l w := by
    intro code
    cases hlo with
    | none => simp [bnd] at h2; subst h2; rfl
    | some x v hv => exact (bound_run code h2 hv).1
  refine ⟨?_, hl, hh⟩
  cases hmx with
  | none =>
    rcases hm with ⟨_, rfl⟩ | ⟨v, e, _⟩
    · cases hhi with
      | none =>
        simp [bnd] at h1; subst h1
        simp only [Instr.sliceBounds, Sem.run_bind, Sem.run_pure, Result.andThen_ok]
        cases hlo with
        | none => simp [bnd] at h2; subst h2; rfl
        | some x v hv => simp [(bound_run _ h2 hv).1]
      | some x v hv =>
        have := (bound_run (P := P) (w := w) (if isSlice then BoundsCode.sliceAcap else .sliceAlen) (widen h1 hle) hv).1
        simp only [Instr.sliceBounds, Sem.run_bind, Sem.run_pure, Result.andThen_ok, this]
        cases hlo with
        | none => simp [bnd] at h2; subst h2; rfl
        | some x v hv => simp [(bound_run _ h2 hv).1]
    · cases e
  | some xm vm hvm =>
    rcases hm with ⟨e, _⟩ | ⟨v, e, hmc⟩
    · cases e
    · injection e with e; subst e
      cases hhi with
      | none => exact absurd ⟨rfl, rfl⟩ hno
      | some x v hv =>
        have a1 := (bound_run (P := P) (w := w) (if isSlice then BoundsCode.slice3Acap else .slice3Alen) hmc hvm).1
        have a2 := (bound_run (P := P) (w := w) BoundsCode.slice3B (widen h1 hle) hv).1
        simp only [Instr.sliceBounds, Sem.run_bind, Sem.run_pure, Result.andThen_ok, a1, a2]
        cases hlo with
        | none => simp [bnd] at h2; subst h2; rfl
        | some x v hv => simp [(bound_run _ h2 hv).1]
/-- the most, as it is told and as it is -/
theorem capOf_ok {mx : Option AV} {len c : Nat} {cap m : Option Nat} (h : capOf mx len cap = some m) (hc : len ≤ c) (hcap : ∀ n, cap = some n → n = c) :
    ∃ mc, ((mx = none ∧ mc = c) ∨ ∃ v, mx = some v ∧ bnd (some v) 0 c = some mc) ∧ (∀ n, m = some n → n = mc) ∧ (m = none → mc = c ∧ cap = none) ∧ mc ≤ c := by
  unfold capOf at h
  split at h
  · injection h with h; subst h
    exact ⟨c, .inl ⟨rfl, rfl⟩, hcap, fun h => ⟨rfl, h⟩, Nat.le_refl _⟩
  · rename_i v
    split at h
    · rename_i n hn
      injection h with h; subst h
      have hle := bnd_some_le hn
      have hcc : cap.getD len ≤ c := by
        cases cap with
        | none => exact hc
        | some n' => have := hcap n' rfl; simp; omega
      refine ⟨n, .inr ⟨v, rfl, ?_⟩, fun k hk => (by injection hk with hk; exact hk.symm), fun h => (by cases h), (by omega)⟩
      unfold bnd at hn ⊢
      split at hn
      · rename_i e; cases e
      · rename_i e; injection e with e; subst e
        split at hn
        · rw [if_pos (by omega)]; exact hn
        · cases hn
      · cases hn
    · cases h
theorem _root_.Go.Sim.LiveA.le {b o n m : Nat} (h : LiveA g b o n) (hm : m ≤ n) : LiveA g b o m := h.imp id fun ⟨t, h1, h2⟩ => ⟨t, h1, Nat.le_trans hm h2⟩
theorem sliceArr_ok {sz o off len c b : Nat} {cap : Option Nat} {lo hi mx : Option AV} {clo chi cmx : Option Value} {z : AV} {isSlice : Bool} (h : sliceArr sz o off len cap lo hi mx = some z) (hlo : OptRel g lo clo) (hhi : OptRel g hi chi) (hmx : OptRel g mx cmx)
    (hno : ¬ (mx.isSome = true ∧ hi.isNone = true)) (hl : LiveA g b o (off + c * sz)) (hz : 0 < sz) (hc : len ≤ c) (hcap : ∀ n, cap = some n → n = c) :
    ∃ l h m, (Instr.sliceBounds isSlice len c clo chi cmx).run P w = .ok (l, h, m) w ∧ Rep g (.slice (some (if m = l then ⟨b, off, none⟩ else ⟨b, off + l * sz, none⟩)) (h - l) (m - l)) z := by
  unfold sliceArr at h
  split at h
  · rename_i m hm
    obtain ⟨mc, h1, h2, h3, h4⟩ := capOf_ok hm hc hcap
    split at h
    · rename_i l hh hb
      have hmle : m.getD len ≤ mc := by
        cases m with
        | none => have := (h3 rfl).1; simp; omega
        | some n => have := h2 n rfl; simp; omega
      -- the length may be more than what it may be cut up to, if that is told
      have hcase : len ≤ m.getD len ∨ ∃ x, hi = some x := by
        cases hi with
        | some x => exact .inr ⟨x, rfl⟩
        | none =>
          left
          cases hmx with
          | none =>
            cases m with
            | none => simp
            | some n =>
              have hq : cap = some n := by simpa [capOf] using hm
              have := hcap n hq
              simp; omega
          | some x v hv => exact absurd ⟨rfl, rfl⟩ hno
      obtain ⟨r1, r2, r3⟩ := sliceBounds_run (P := P) (w := w) (isSlice := isSlice) hlo hhi hmx h1 hno hb hmle (fun e => by
        rcases hcase with hq | ⟨x, hx⟩
        · exact hq
        · rw [hx] at e; cases e)
      refine ⟨l, hh, mc, r1, ?_⟩
      split at h
      · rename_i e
        injection h with h; subst h
        have := h2 l e
        subst this
        rw [if_pos rfl]
        exact .arr _ _ _ _ _ _ _ (hl.le (by simp)) (by omega) hz (fun n hn => by injection hn with hn; omega)
      · rename_i e
        split at h
        · cases h
        · rename_i e2
          injection h with h; subst h
          have hne : mc ≠ l ∨ l = 0 := by
            cases m with
            | none =>
              have h5 := (h3 rfl).1
              simp at r3
              rcases Nat.eq_zero_or_pos l with q | q
              · exact .inr q
              · left
                intro q2
                exact e2 ⟨rfl, by omega, q⟩
            | some n => left; intro q; exact e (by rw [h2 n rfl, q])
          have haddr : (if mc = l then (⟨b, off, none⟩ : Addr) else ⟨b, off + l * sz, none⟩) = ⟨b, off + l * sz, none⟩ := by
            split
            · rename_i q
              rcases hne with h | h
              · exact absurd q h
              · subst h; simp
            · rfl
          rw [haddr]
          refine .arr _ _ _ _ _ _ _ (hl.le ?_) (by omega) hz (fun n hn => ?_)
          · have e : off + l * sz + (mc - l) * sz = off + mc * sz := by
              rw [Nat.add_assoc, ← Nat.add_mul]
              congr 2
              omega
            rw [e]
            exact Nat.add_le_add_left (Nat.mul_le_mul_right sz h4) off
          cases m with
          | none => cases hn
          | some k => simp at hn; have := h2 k rfl; omega
    · cases h
  · cases h
theorem sliceRow_ok {sz o c b : Nat} {tok : Option (Nat × Nat)} {cap : Option Nat} {xs : List AV} {vs : List Value} {lo hi mx : Option AV} {clo chi cmx : Option Value} {z : AV} {isSlice : Bool} (h : sliceRow sz tok cap xs lo hi mx = some z) (hlo : OptRel g lo clo) (hhi : OptRel g hi chi) (hmx : OptRel g mx cmx)
    (hno : ¬ (mx.isSome = true ∧ hi.isNone = true)) (hm : Imm g b o vs) (he : RepE g sz vs xs) (hc : xs.length ≤ c) (hz : 0 < sz) (hcap : ∀ n, cap = some n → n = c)
    (ht : ∀ t off, tok = some (t, off) → c = 0 ∨ ∃ start tot cs, g.blk b = some (.row t start sz tot cs) ∧ start ≤ off ∧ o = (off - start) * sz ∧ o + xs.length * sz ≤ cs.length ∧ o + c * sz ≤ tot) :
    ∃ l h m, (Instr.sliceBounds isSlice xs.length c clo chi cmx).run P w = .ok (l, h, m) w ∧ Rep g (.slice (some (if m = l then ⟨b, o, none⟩ else ⟨b, o + l * sz, none⟩)) (h - l) (m - l)) z := by
  unfold sliceRow at h
  split at h
  · rename_i m hmm
    obtain ⟨mc, h1, h2, h3, h4⟩ := capOf_ok hmm hc hcap
    split at h
    · rename_i l hh hb
      injection h with h; subst h
      have hmle : min xs.length (m.getD xs.length) ≤ mc := by
        cases m with
        | none => have := (h3 rfl).1; simp; omega
        | some n => have := h2 n rfl; simp; omega
      obtain ⟨r1, r2, r3⟩ := sliceBounds_run (P := P) (w := w) (isSlice := isSlice) hlo hhi hmx h1 hno hb hmle (fun e => by
        subst e
        cases hmx with
        | none =>
          cases m with
          | none => simp
          | some n =>
            have hq : cap = some n := by simpa [capOf] using hmm
            have := hcap n hq
            simp; omega
        | some x v hv => exact absurd ⟨rfl, rfl⟩ hno)
      refine ⟨l, hh, mc, r1, ?_⟩
      have hlen : ((xs.drop l).take (hh - l)).length = hh - l := by rw [List.length_take, List.length_drop]; omega
      have hE := (he.drop l).take (hh - l)
      have hI := hm.sub (l * sz) ((hh - l) * sz)
      have hcap' : ∀ n, (match m with | some c => some (c - l) | none => none) = some n → n = mc - l := by
        intro n hn
        cases m with
        | none => cases hn
        | some k => simp at hn; have := h2 k rfl; omega
      split
      · rename_i e
        subst e
        have h0 : hh - mc = 0 := by omega
        rw [h0] at hE hI
        simp only [Nat.zero_mul, List.take_zero] at hE hI
        rw [h0]
        refine .row b o 0 (mc - mc) sz _ _ _ [] (Imm.nil g b o) (by simpa using hE) rfl (by omega) hz hcap' (fun t off hto => .inl (by omega))
      · rename_i e
        refine .row b (o + l * sz) (hh - l) (mc - l) sz _ _ _ _ hI hE hlen (by omega) hz hcap' (fun t off hto => ?_)
        cases tok with
        | none => cases hto
        | some p =>
          obtain ⟨t', p'⟩ := p
          simp only [Option.some.injEq, Prod.mk.injEq] at hto
          obtain ⟨rfl, rfl⟩ := hto
          rcases ht _ _ rfl with h0 | ⟨s, tot, cs, q1, q2, q3, q4, q5⟩
          · exact .inl (by omega)
          · refine .inr ⟨s, tot, cs, q1, by omega, ?_, ?_, ?_⟩
            · rw [q3, ← Nat.add_mul]
              congr 1
              omega
            · have e : o + l * sz + (hh - l) * sz = o + hh * sz := by
                rw [Nat.add_assoc, ← Nat.add_mul]
                congr 2
                omega
              rw [e]
              have : hh ≤ xs.length := by omega
              exact Nat.le_trans (Nat.add_le_add_left (Nat.mul_le_mul_right sz this) o) q4
            · have e : o + l * sz + (mc - l) * sz = o + mc * sz := by
                rw [Nat.add_assoc, ← Nat.add_mul]
                congr 2
                omega
              rw [e]
              exact Nat.le_trans (Nat.add_le_add_left (Nat.mul_le_mul_right sz h4) o) q5
    · cases h
  · cases h
theorem run_size_elem {t e sz : Nat} (h : elemT P t = some e) (hsz : sizeT P e = some sz) {isx : Value} {a : Option Addr} {n c l h' m : Nat} {clo chi cmx : Option Value} (w : World)
    (hr : (Instr.sliceBounds true n c clo chi cmx).run P w = .ok (l, h', m) w) :
    (Instr.sliceAt t (.slice a n c) clo chi cmx).run P w = .ok (.slice (if m = l then a else a.map (·.add (l * sz))) (h' - l) (m - l)) w := by
  have hu := elemT_some (P := P) h
  simp [Instr.sliceAt, underlying, show P.underlying _ = _ from hu, Instr.slice, hr, run_sizeOf hsz]
theorem sliceV_ok {t : Nat} {x z : AV} {a : Value} {lo hi mx : Option AV} {clo chi cmx : Option Value} (h : sliceV P t st x lo hi mx = some z) (hx : Rep g a x) (hinv : Inv g st w) (hlo : OptRel g lo clo) (hhi : OptRel g hi chi) (hmx : OptRel g mx cmx)
    (hno : ¬ (mx.isSome = true ∧ hi.isNone = true)) : RunsTo P g w (Instr.sliceAt t a clo chi cmx) z := by
  cases hx with
  | str s =>
    simp only [sliceV] at h
    split at h
    · rename_i hu
      split at h
      · cases h
      · unfold sliceStr at h
        split at h
        · rename_i l hh hb
          injection h with h; subst h
          cases hmx with
          | none =>
            obtain ⟨r1, r2, r3⟩ := sliceBounds_run (P := P) (w := w) (isSlice := false) (cap := s.size) hlo hhi .none (.inl ⟨rfl, rfl⟩) (by simp) hb (Nat.le_refl _) (fun _ => Nat.le_refl _)
            have hs : s.data.toList.length = s.size := rfl
            rw [hs] at r1
            refine .mk (v := .string (s.extract l hh)) (by simp [Instr.sliceAt, underlying, show P.underlying _ = _ from hu, Instr.slice, r1]) ?_
            rw [← Lib.extract_data]
            exact .str _
        · cases h
    · cases h
  | nils =>
    simp only [sliceV] at h
    split at h
    · rename_i e he
      have hu := elemT_some he
      split at h
      · rename_i sz hsz
        split at h
        · rename_i m hm
          split at h
          · rename_i p hb
            injection h with h; subst h
            obtain ⟨l, hh⟩ := p
            obtain ⟨mc, h1, h2, h3, h4⟩ := capOf_ok hm (Nat.le_refl 0) (fun n hn => by injection hn with hn; exact hn.symm)
            have hm0 : m.getD 0 ≤ 0 := by
              cases m with
              | none => simp
              | some n => have := h2 n rfl; simp; omega
            obtain ⟨r1, r2, r3⟩ := sliceBounds_run (P := P) (w := w) (isSlice := true) hlo hhi hmx h1 hno hb (by omega) (fun _ => Nat.zero_le _)
            have e1 : mc = 0 := by omega
            have e2 : l = 0 := by omega
            have e3 : hh = 0 := by omega
            subst e1 e2 e3
            exact .mk (v := .slice none 0 0) (by rw [run_size_elem he hsz (isx := .nilFunc) w r1]; simp) .nils
          · cases h
        · cases h
      · cases h
    · cases h
  | zsl a =>
    simp only [sliceV] at h
    split at h
    · rename_i e he
      have hu := elemT_some he
      split at h
      · rename_i sz hsz
        split at h
        · rename_i m hm
          split at h
          · rename_i p hb
            injection h with h; subst h
            obtain ⟨l, hh⟩ := p
            obtain ⟨mc, h1, h2, h3, h4⟩ := capOf_ok hm (Nat.le_refl 0) (fun n hn => by injection hn with hn; exact hn.symm)
            have hm0 : m.getD 0 ≤ 0 := by
              cases m with
              | none => simp
              | some n => have := h2 n rfl; simp; omega
            obtain ⟨r1, r2, r3⟩ := sliceBounds_run (P := P) (w := w) (isSlice := true) hlo hhi hmx h1 hno hb (by omega) (fun _ => Nat.zero_le _)
            have e1 : mc = 0 := by omega
            have e2 : l = 0 := by omega
            have e3 : hh = 0 := by omega
            subst e1 e2 e3
            exact .mk (v := .slice (some a) 0 0) (by rw [run_size_elem he hsz (isx := .nilFunc) w r1]; simp) (.zsl a)
          · cases h
        · cases h
      · cases h
    · cases h
  | row b o n c sz tok cap xs vs hm he hn hc hz hcap ht =>
    simp only [sliceV] at h
    split at h
    · rename_i e hel
      split at h
      · rename_i hsz
        subst hn
        obtain ⟨l, hh, m, r1, r2⟩ := sliceRow_ok (P := P) (w := w) (isSlice := true) h hlo hhi hmx hno hm he hc hz hcap ht
        refine .mk ?_ r2
        rw [run_size_elem hel hsz (isx := .nilFunc) w r1]
        congr 2
        split <;> simp [add_plain]
      · cases h
    · cases h
  | arr b off o len c sz cap hl hc hz hcap =>
    simp only [sliceV] at h
    split at h
    · rename_i e hel
      split at h
      · rename_i hsz
        obtain ⟨l, hh, m, r1, r2⟩ := sliceArr_ok (P := P) (w := w) (isSlice := true) h hlo hhi hmx hno hl hz hc hcap
        refine .mk ?_ r2
        rw [run_size_elem hel hsz (isx := .nilFunc) w r1]
        congr 2
        split <;> simp [add_plain]
      · cases h
    · cases h
  | ptr b off o hl =>
    simp only [sliceV] at h
    split at h
    · rename_i n e hu
      split at h
      · rename_i sz hsz
        split at h
        · rename_i cs hg
          split at h
          · rename_i hle
            obtain ⟨tot, hb, _, c2, e2, fr, vs, rest, k1, k2, k3, k4, k5, k6⟩ := hinv.cellsAt hl hg
            have hcl := k3.length
            have hct : c2.size = vs.length + rest.length := by rw [← Array.length_toList, k2, List.length_append]
            obtain ⟨l, hh, m, r1, r2⟩ := sliceArr_ok (P := P) (w := w) (isSlice := false) h hlo hhi hmx hno (.inr ⟨tot, hb, by omega⟩ : LiveA g b o (off + n * sz)) hle.1 (Nat.le_refl n) (fun k hk => by injection hk with hk; exact hk.symm)
            refine .mk ?_ r2
            simp [Instr.sliceAt, underlying, show P.underlying _ = _ from hu, Instr.sureAddr, r1, run_sizeOf hsz, add_plain]
          · cases h
        · cases h
      · cases h
    · cases h
  | _ => simp [sliceV] at h
theorem takeO_ok {o : Option Operand} {ρ : Operand → Value} {ins r : List In} {x : Option AV} {rest : List Value} (h : takeO o ins = some (x, r)) (hin : InsRel g B w ins ((o.map ρ).toList ++ rest)) : OptRel g x (o.map ρ) ∧ InsRel g B w r rest := by
  cases o with
  | none =>
    simp only [takeO, Option.some.injEq, Prod.mk.injEq] at h
    obtain ⟨rfl, rfl⟩ := h
    exact ⟨.none, by simpa using hin⟩
  | some o =>
    simp only [Option.map_some, Option.toList_some, List.singleton_append] at hin
    match ins, hin with
    | .val v :: r', .cons _ _ _ _ hv hs =>
      simp only [takeO, Option.some.injEq, Prod.mk.injEq] at h
      obtain ⟨rfl, rfl⟩ := h
      exact ⟨.some _ _ hv, hs⟩
    | .loc .. :: r', _ => simp [takeO] at h
theorem aSlice_ok {t : Nat} {lo hi' mx : Option Operand} {ρ : Operand → Value} {ins : List In} {a : Value} (h : aSlice P t lo hi' mx ins st = some (out, st'))
    (hin : InsRel g B w ins (a :: ((lo.map ρ).toList ++ ((hi'.map ρ).toList ++ ((mx.map ρ).toList ++ []))))) (hi : Inv g st w) : ValOk g B P st' w out (Instr.sliceAt t a (lo.map ρ) (hi'.map ρ) (mx.map ρ)) := by
  match ins, hin with
  | .val x :: r, .cons _ _ _ _ hx hs =>
    simp only [aSlice] at h
    split at h
    · cases h
    · rename_i hno
      split at h
      · rename_i l r1 h1
        obtain ⟨o1, s1⟩ := takeO_ok h1 hs
        split at h
        · rename_i hh r2 h2
          obtain ⟨o2, s2⟩ := takeO_ok h2 s1
          split at h
          · rename_i m h3
            obtain ⟨o3, s3⟩ := takeO_ok h3 s2
            split at h
            · rename_i v hv
              simp only [Option.some.injEq, Prod.mk.injEq] at h
              obtain ⟨rfl, rfl⟩ := h
              refine RunsTo.ok hi (sliceV_ok hv hx hi o1 o2 o3 ?_)
              rintro ⟨q1, q2⟩
              refine hno ⟨?_, ?_⟩
              · cases mx with
                | none => cases o3; cases q1
                | some _ => rfl
              · cases hi' with
                | none => rfl
                | some _ => cases o2; cases q2
            · cases h
          · cases h
        · cases h
      · cases h
  | .loc .. :: r, _ => simp [aSlice] at h
end
end Go.Sim

namespace Go.Sim
open Go.WideShapes (add_plain)

section
variable {P : Program} {g : Gh} {B : Nat → Nat} {st st' : Store} {w : World} {out : Out}

theorem beq_data (a b : ByteArray) : (a == b) = (a.data.toList == b.data.toList) := by
  cases a; cases b
  rename_i x y
  show (x == y) = (x.toList == y.toList)
  rw [Bool.eq_iff_iff, beq_iff_eq, beq_iff_eq]
  exact ⟨fun h => by rw [h], fun h => Array.ext' h⟩
theorem sameKey_ok {d : TypeDesc} {x y : AV} {a b : Value} {r : Bool} (h : sameKey d x y = some r) (hx : Rep g a x) (hy : Rep g b y) : Instr.sameNow d a b = some r ∧ (r = true → ∀ n, Instr.sameBits n b a = true) := by
  unfold sameKey at h
  split at h
  · unfold sameInt at h
    split at h
    · split at h
      · rename_i e
        subst e
        injection h with h; subst h
        cases hx; cases hy
        exact ⟨by simp [Instr.sameNow], fun hr n => by simp at hr; subst hr; simp [Instr.sameBits]⟩
      · cases h
    · cases h
  · unfold sameStr at h
    split at h
    · injection h with h; subst h
      cases hx; cases hy
      rename_i s1 s2
      have := beq_data s1 s2
      refine ⟨by simp [Instr.sameNow, this], fun hr n => ?_⟩
      have e : s1 = s2 := by
        have := eq_of_beq hr
        cases s1; cases s2
        simp only [ByteArray.mk.injEq]
        exact Array.ext' this
      subst e
      rw [Instr.sameBits]
      rw [beq_data]
      simp
    · cases h
  · unfold sameBool at h
    split at h
    · injection h with h; subst h
      cases hx; cases hy
      exact ⟨by simp [Instr.sameNow], fun hr n => by simp at hr; subst hr; simp [Instr.sameBits]⟩
    · cases h
  · cases h
theorem findK_ok {d : TypeDesc} {k : AV} {ck : Value} (hk : Rep g ck k) : ∀ {ces : List MapEntry} {es : List (AV × AV × Nat)} {i : Nat} {r : Option (Nat × AV)}, findK d k es i = some r → EntsRep g ces es →
    (r = none ∧ Instr.findNow d ck ces i = some none) ∨ (∃ j v cv e, r = some (j, v) ∧ Instr.findNow d ck ces i = some (some (j, cv)) ∧ Rep g cv v ∧ i ≤ j ∧ ces[j - i]? = some e ∧ e.val = cv ∧ ∀ n, Instr.sameBits n e.key ck = true)
  | _, [], i, r, h, he => by
    cases he
    simp [findK] at h; subst h
    exact .inl ⟨rfl, rfl⟩
  | _, x :: es, i, r, h, he => by
    cases he with
    | cons e k' v ces es hk' hv he =>
    simp only [findK] at h
    split at h
    · rename_i hs
      injection h with h; subst h
      obtain ⟨h1, h2⟩ := sameKey_ok hs hk hk'
      exact .inr ⟨i, v, e.val, e, rfl, by simp [Instr.findNow, h1], hv, Nat.le_refl _, by simp, rfl, h2 rfl⟩
    · rename_i hs
      obtain ⟨h1, h2⟩ := sameKey_ok hs hk hk'
      rcases findK_ok hk h he with ⟨q1, q2⟩ | ⟨j, v', cv, e', q1, q2, q3, q4, q5, q6⟩
      · exact .inl ⟨q1, by simp [Instr.findNow, h1, q2]⟩
      · refine .inr ⟨j, v', cv, e', q1, by simp [Instr.findNow, h1, q2], q3, by omega, ?_, q6⟩
        rw [show j - i = (j - (i + 1)) + 1 by omega]
        simpa using q5
    · cases h
theorem keyT_some {t e : Nat} {d : TypeDesc} (h : keyT P t = some (d, e)) : ∃ k, P.underlying t = some (.map k e) ∧ P.underlying k = some d := by
  unfold keyT at h
  split at h
  · rename_i k e' hu
    split at h
    · rename_i d' hd
      simp only [Option.some.injEq, Prod.mk.injEq] at h
      obtain ⟨rfl, rfl⟩ := h
      exact ⟨k, hu, hd⟩
    · cases h
  · cases h
theorem run_checkKey {k : Nat} {d : TypeDesc} {x : AV} {a : Value} {r : Bool} (hk : P.underlying k = some d) (hs : sameKey d x x = some r) (hx : Rep g a x) (b : Bool) (n : Nat) (w : World) : (Instr.checkKey b (n + 1) k a).run P w = .ok () w := by
  unfold sameKey at hs
  split at hs
  · unfold sameInt at hs
    split at hs
    · cases hx; simp [Instr.checkKey, underlying, hk]
    · cases hs
  · unfold sameStr at hs
    split at hs
    · cases hx; simp [Instr.checkKey, underlying, hk]
    · cases hs
  · unfold sameBool at hs
    split at hs
    · cases hx; simp [Instr.checkKey, underlying, hk]
    · cases hs
  · cases hs
theorem run_checkKey' {k : Nat} {d : TypeDesc} {x : AV} {a : Value} {r : Bool} (hk : P.underlying k = some d) (hs : sameKey d x x = some r) (hx : Rep g a x) (b : Bool) (w : World) : (Instr.checkKey b 10000 k a).run P w = .ok () w := run_checkKey hk hs hx b 9999 w
theorem run_findKey {k : Nat} {d : TypeDesc} {a : Value} {ces : List MapEntry} {r : Option (Nat × Value)} (hk : P.underlying k = some d) (h : Instr.findNow d a ces 0 = some r) (w : World) : (Instr.findKey k a ces).run P w = .ok r w := by
  simp [Instr.findKey, underlying, hk, h]
theorem aLookup_ok {t : Nat} {ok : Bool} {ins : List In} {a b : Value} (h : aLookup P t ok ins st = some (out, st')) (hin : InsRel g B w ins [a, b]) (hi : Inv g st w) : ValOk g B P st' w out (Instr.lookup t a b ok) := by
  match ins, hin with
  | [.val m, .val k], .cons _ _ _ _ hm (.cons _ _ _ _ hk .nil) =>
    simp only [aLookup] at h
    split at h
    · rename_i d et hkt
      obtain ⟨kt, hu, hd⟩ := keyT_some hkt
      split at h
      · rename_i r0 hs
        split at h
        · rename_i es hes
          have src : ∃ ces : Array MapEntry, EntsRep g ces.toList es ∧ ((a = .map none ∧ ces = #[]) ∨ ∃ bl clock, a = .map (some bl) ∧ w.heap[bl]? = some (.map ces clock)) := by
            cases hm with
            | nilmap => simp [entriesOf] at hes; subst hes; exact ⟨#[], .nil, .inl ⟨rfl, rfl⟩⟩
            | map bl o hl =>
              simp only [entriesOf] at hes
              split at hes
              · rename_i es' clock hg
                injection hes with hes; subst hes
                obtain ⟨_, _, ces, h1, h2⟩ := getMap hi hl hg
                exact ⟨ces, h2, .inr ⟨bl, clock, rfl, h1⟩⟩
              · cases hes
            | _ => simp [entriesOf] at hes
          obtain ⟨ces, he, hsrc⟩ := src
          have hck : (Instr.checkKey ces.isEmpty 10000 kt b).run P w = .ok () w := run_checkKey' hd hs hk _ w
          have start : ∀ {r : Option (Nat × Value)} {v : Value}, Instr.findNow d b ces.toList 0 = some r → (match r with | some (_, u) => v = u ∧ True | none => (zeroValue et).run P w = .ok v w) →
              (Instr.lookup t a b ok).run P w = .ok (bif ok then .tuple #[v, .bool r.isSome] else v) w := by
            intro r v hf hv
            have hfk := run_findKey (P := P) hd hf w
            rcases hsrc with ⟨rfl, rfl⟩ | ⟨bl, clock, rfl, h1⟩
            · cases r with
              | none => cases ok <;> simp_all [Instr.lookup, underlying]
              | some p => cases ok <;> simp_all [Instr.lookup, underlying]
            · have hgo := run_getObj (P := P) h1 (by simp)
              cases r with
              | none => cases ok <;> simp_all [Instr.lookup, underlying]
              | some p => cases ok <;> simp_all [Instr.lookup, underlying]
          split at h
          · rename_i j v hf
            simp only [Option.some.injEq, Prod.mk.injEq] at h
            obtain ⟨rfl, rfl⟩ := h
            rcases findK_ok hk hf he with ⟨q1, _⟩ | ⟨j', v', cv, e', q1, q2, q3, _⟩
            · cases q1
            · simp only [Option.some.injEq, Prod.mk.injEq] at q1
              obtain ⟨rfl, rfl⟩ := q1
              refine RunsTo.ok hi (.mk (start (v := cv) q2 ⟨rfl, trivial⟩) ?_)
              cases ok
              · exact q3
              · exact .tuple _ _ (.cons _ _ _ _ q3 (.cons _ _ _ _ (.bool true) .nil))
          · rename_i hf
            split at h
            · rename_i z hz
              simp only [Option.some.injEq, Prod.mk.injEq] at h
              obtain ⟨rfl, rfl⟩ := h
              obtain ⟨i, zv, h1, h2, h3, _⟩ := zeroT_ok hz
              rcases findK_ok hk hf he with ⟨_, q2⟩ | ⟨j', v', cv, e', q1, _⟩
              · refine RunsTo.ok hi (.mk (start (v := zv) q2 (run_zeroValue h1 h2 w)) ?_)
                cases ok
                · exact h3 g
                · exact .tuple _ _ (.cons _ _ _ _ (h3 g) (.cons _ _ _ _ (.bool false) .nil))
              · cases q1
            · cases h
          · cases h
        · cases h
      · cases h
    · cases h
  | [.val _, .loc ..], _ => simp [aLookup] at h
  | [.loc .., _], _ => simp [aLookup] at h
theorem setObj_upd {b : Nat} {x y : Obj} (h : w.heap[b]? = some x) (hx : ∀ c e fr, x ≠ .cells c e fr) : (setObj b y).run P w = .ok () { w with heap := w.heap.setIfInBounds b y } ∧ Upd w b y { w with heap := w.heap.setIfInBounds b y } := by
  have hlt := (Array.getElem?_eq_some_iff.1 h).1
  refine ⟨?_, ⟨by simp [hlt], fun i hi => by simp [Array.getElem?_setIfInBounds, hi.symm], by simp, rfl, rfl, rfl⟩⟩
  simp only [setObj, Sem.run, h]
theorem EntsRep.append {a : List MapEntry} {b : List (AV × AV × Nat)} (h : EntsRep g a b) {e : MapEntry} {k v : AV} (hk : Rep g e.key k) (hv : Rep g e.val v) : EntsRep g (a ++ [e]) (b ++ [(k, v, e.born)]) := by
  induction h with
  | nil => exact .cons e k v [] [] hk hv .nil
  | cons e' k' v' es xs hk' hv' _ ih => exact .cons e' k' v' _ _ hk' hv' ih
theorem EntsRep.modify {a : List MapEntry} {b : List (AV × AV × Nat)} (h : EntsRep g a b) {ck cv : Value} {k v : AV} (hk : Rep g ck k) (hv : Rep g cv v) : ∀ i, EntsRep g (a.modify i fun e => { e with key := ck, val := cv }) (b.modify i fun e => (k, v, e.2.2)) := by
  induction h with
  | nil => intro i; cases i <;> exact .nil
  | cons e' k' v' es xs hk' hv' h ih =>
    intro i
    cases i with
    | zero => exact .cons { e' with key := ck, val := cv } k v _ _ hk hv h
    | succ i => exact .cons e' k' v' _ _ hk' hv' (ih i)
theorem aMapSet_ok {t : Nat} {ins : List In} {a b c : Value} (h : aMapSet P t ins st = some (out, st')) (hin : InsRel g B w ins [a, b, c]) (hi : Inv g st w) : UnitOk g B P st' w out (Instr.mapUpdate t a b c) := by
  match ins, hin with
  | [.val (.map o), .val k, .val v], .cons _ _ _ _ hm (.cons _ _ _ _ hk (.cons _ _ _ _ hv .nil)) =>
    cases hm with
    | map bl _ hl =>
    simp only [aMapSet] at h
    split at h
    · rename_i d et hkt
      obtain ⟨kt, hu, hd⟩ := keyT_some hkt
      split at h
      · rename_i r0 hs
        split at h
        · rename_i es clock hg
          obtain ⟨tot, hb, ces, h1, he⟩ := getMap hi hl hg
          have hck : (Instr.checkKey false 10000 kt b).run P w = .ok () w := run_checkKey' hd hs hk _ w
          have hgo := run_getObj (P := P) h1 (by simp)
          split at h
          · rename_i j v' hf
            simp only [Option.some.injEq, Prod.mk.injEq] at h
            obtain ⟨rfl, rfl⟩ := h
            rcases findK_ok hk hf he with ⟨q1, _⟩ | ⟨j', v'', cv, e', q1, q2, q3, q4, q5, q6, q7⟩
            · cases q1
            · simp only [Option.some.injEq, Prod.mk.injEq] at q1
              obtain ⟨rfl, rfl⟩ := q1
              have hfk := run_findKey (P := P) hd q2 w
              obtain ⟨r1, r2⟩ := setObj_upd (P := P) (y := .map (ces.modify j fun e => { e with key := b, val := c }) clock) h1 (by simp)
              have hkey : (Instr.keyThatStays (((ces[j]?).map (·.key)).getD b) b).run P w = .ok b w := by
                have : ces[j]? = some e' := by simpa using q5
                simp [Instr.keyThatStays, this, q7]
              obtain ⟨i1, a1⟩ := hi.write hb r2 (.map (es.modify j fun e => (k, v, e.2.2)) clock) ⟨_, r2.here, by rw [Array.toList_modify]; exact he.modify hk hv j⟩
              refine ⟨_, ?_, g, a1, i1, .tuple _ _ .nil⟩
              simp [Instr.mapUpdate, underlying, hu, hgo, hck, hfk, hkey, r1]
          · rename_i hf
            simp only [Option.some.injEq, Prod.mk.injEq] at h
            obtain ⟨rfl, rfl⟩ := h
            rcases findK_ok hk hf he with ⟨_, q2⟩ | ⟨j', v', cv, e', q1, _⟩
            · have hfk := run_findKey (P := P) hd q2 w
              obtain ⟨r1, r2⟩ := setObj_upd (P := P) (y := .map (ces.push { key := b, val := c, born := clock }) (clock + 1)) h1 (by simp)
              obtain ⟨i1, a1⟩ := hi.write hb r2 (.map (es ++ [(k, v, clock)]) (clock + 1)) ⟨_, r2.here, by rw [Array.toList_push]; exact he.append (e := { key := b, val := c, born := clock }) hk hv⟩
              refine ⟨_, ?_, g, a1, i1, .tuple _ _ .nil⟩
              simp [Instr.mapUpdate, underlying, hu, hgo, hck, hfk, r1]
            · cases q1
          · cases h
        · cases h
      · cases h
    · cases h
  | [.val (.map _), .val _, .loc ..], _ => simp [aMapSet] at h
  | [.val (.map _), .loc .., _], _ => simp [aMapSet] at h
  | [.loc .., _, _], _ => simp [aMapSet] at h
  | [.val (.bool _), _, _], _ => simp [aMapSet] at h
  | [.val (.int _ _), _, _], _ => simp [aMapSet] at h
  | [.val (.str _), _, _], _ => simp [aMapSet] at h
  | [.val .nilptr, _, _], _ => simp [aMapSet] at h
  | [.val (.ptr _ _), _, _], _ => simp [aMapSet] at h
  | [.val (.rptr _), _, _], _ => simp [aMapSet] at h
  | [.val .nils, _, _], _ => simp [aMapSet] at h
  | [.val (.row _ _ _ _), _, _], _ => simp [aMapSet] at h
  | [.val (.arr _ _ _ _ _), _, _], _ => simp [aMapSet] at h
  | [.val .nilmap, _, _], _ => simp [aMapSet] at h
  | [.val (.func _ _ _), _, _], _ => simp [aMapSet] at h
  | [.val .nilFunc, _, _], _ => simp [aMapSet] at h
  | [.val (.iface _ _), _, _], _ => simp [aMapSet] at h
  | [.val .nilIface, _, _], _ => simp [aMapSet] at h
  | [.val (.agg _), _, _], _ => simp [aMapSet] at h
  | [.val (.tuple _), _, _], _ => simp [aMapSet] at h
  | [.val .junk, _, _], _ => simp [aMapSet] at h
end
end Go.Sim

namespace Go.Sim
open Go.WideShapes (add_plain)

section
variable {P : Program} {g : Gh} {B : Nat → Nat} {st st' : Store} {w : World} {out : Out}

theorem bytes_eta (s : ByteArray) : (⟨s.data.toList.toArray⟩ : ByteArray) = s := by cases s; simp
theorem newObj_ok (hi : Inv g st w) (o : Obj) (x : AObj) (tot : Nat) (hx : ∀ g', Le g g' → ObjOk g' (w.alloc o) w.heap.size tot x) :
    ∃ g', Adv g w g' (w.alloc o) ∧ Inv g' (st.new x) (w.alloc o) ∧ g'.blk w.heap.size = some (.obj st.nobj tot) :=
  ⟨_, Adv.alloc_upd hi _ (.obj st.nobj tot), hi.alloc_obj _ _ _ (hx _ (Le.upd_new g _ (hi.none_of_ge (Nat.le_refl _)))), Gh.upd_same _ _ _⟩
theorem aRange_ok {t : Nat} {ins : List In} {a : Value} (h : aRange P t ins st = some (out, st')) (hin : InsRel g B w ins [a]) (hi : Inv g st w) : ValOk g B P st' w out (Instr.range t a) := by
  match ins, hin with
  | [.val x], .cons _ _ _ _ hx .nil =>
    cases hx with
    | str s =>
      simp only [aRange] at h
      split at h
      · rename_i hu
        simp only [Option.some.injEq, Prod.mk.injEq] at h
        obtain ⟨rfl, rfl⟩ := h
        obtain ⟨g', a, b, c⟩ := newObj_ok hi (.stringIter s 0) (.siter s.data.toList 0) 0 (fun g' _ => by
          show (w.alloc (.stringIter s 0)).heap[w.heap.size]? = _
          rw [heap_alloc_new, bytes_eta])
        exact ⟨.pointer (some ⟨w.heap.size, 0, none⟩), _, by simp [Instr.range, underlying, show P.underlying _ = _ from hu], g', a, b, .ptr _ _ _ (.inr ⟨_, c, Nat.zero_le _⟩)⟩
      · cases h
    | _ => simp [aRange] at h
  | [.loc ..], _ => simp [aRange] at h
theorem aNext_ok {ty : TypeId} {ins : List In} {a : Value} (h : aNext ins st = some (out, st')) (hin : InsRel g B w ins [a]) (hi : Inv g st w) : ValOk g B P st' w out (Instr.next a true ty) := by
  match ins, hin with
  | [.val (.ptr o 0)], .cons _ _ _ _ hx .nil =>
    cases hx with
    | ptr b _ _ hl =>
      simp only [aNext] at h
      split at h
      · rename_i s pos hg
        obtain ⟨tot, hb⟩ : ∃ tot, g.blk b = some (.obj o tot) := by
          rcases hl with hd | ⟨tot, hb, _⟩
          · rw [hi.dead o hd] at hg; cases hg
          · exact ⟨tot, hb⟩
        obtain ⟨x, h1, h2⟩ := hi.obj b o tot hb
        rw [hg] at h1; injection h1 with h1; subst h1
        have h2' : w.heap[b]? = some (.stringIter ⟨s.toArray⟩ pos) := h2
        have hgo := run_getObj (P := P) h2' (by simp)
        have hsz : (⟨s.toArray⟩ : ByteArray).size = s.length := by simp [ByteArray.size]
        split at h
        · rename_i hlt
          simp only [Option.some.injEq, Prod.mk.injEq] at h
          obtain ⟨rfl, rfl⟩ := h
          obtain ⟨r1, r2⟩ := setObj_upd (P := P) (y := .stringIter ⟨s.toArray⟩ (pos + (Utf8.decode ⟨s.toArray⟩ pos).2)) h2' (by simp)
          obtain ⟨i1, a1⟩ := hi.write hb r2 (.siter s (pos + (Utf8.decode ⟨s.toArray⟩ pos).2)) r2.here
          refine ⟨.tuple #[.bool true, .int .i64 pos, .int .i32 (Utf8.decode ⟨s.toArray⟩ pos).1], _, ?_, g, a1, i1, .tuple _ _ (.cons _ _ _ _ (.bool _) (.cons _ _ _ _ (.int _ _) (.cons _ _ _ _ (.int _ _) .nil)))⟩
          simp [Instr.next, hgo, hsz, hlt, r1, goInt]
        · rename_i hlt
          simp only [Option.some.injEq, Prod.mk.injEq] at h
          obtain ⟨rfl, rfl⟩ := h
          exact RunsTo.ok hi (.mk (v := .tuple #[.bool false]) (by simp [Instr.next, hgo, hsz, hlt]) (.tuple _ _ (.cons _ _ _ _ (.bool _) .nil)))
      · cases h
  | [.loc ..], _ => simp [aNext] at h
  | [.val (.ptr o (n + 1))], _ => simp [aNext] at h
  | [.val (.bool _)], _ => simp [aNext] at h
  | [.val (.int _ _)], _ => simp [aNext] at h
  | [.val (.str _)], _ => simp [aNext] at h
  | [.val .nilptr], _ => simp [aNext] at h
  | [.val (.rptr _)], _ => simp [aNext] at h
  | [.val .nils], _ => simp [aNext] at h
  | [.val (.row _ _ _ _)], _ => simp [aNext] at h
  | [.val (.arr _ _ _ _ _)], _ => simp [aNext] at h
  | [.val .nilmap], _ => simp [aNext] at h
  | [.val (.map _)], _ => simp [aNext] at h
  | [.val (.func _ _ _)], _ => simp [aNext] at h
  | [.val .nilFunc], _ => simp [aNext] at h
  | [.val (.iface _ _)], _ => simp [aNext] at h
  | [.val .nilIface], _ => simp [aNext] at h
  | [.val (.agg _)], _ => simp [aNext] at h
  | [.val (.tuple _)], _ => simp [aNext] at h
  | [.val .junk], _ => simp [aNext] at h
theorem aMakeMap_ok {t : TypeId} (hi : Inv g st w) : ValOk g B P (st.new (.map [] 0)) w (.val (.map st.nobj)) (Instr.makeMap t none) := by
  obtain ⟨g', a, b, c⟩ := newObj_ok hi (.map #[] 0) (.map [] 0) 0 (fun g' _ => ⟨#[], heap_alloc_new w _, .nil⟩)
  exact ⟨.map (some w.heap.size), _, by simp [Instr.makeMap], g', a, b, .map _ _ (.inr ⟨_, c, Nat.zero_le _⟩)⟩

/-! ### Conversions -/
theorem bytesV_reps (s : List UInt8) : Reps g (s.map fun b => Value.int .u8 b.toNat) (bytesV s) := by
  induction s with
  | nil => exact .nil
  | cons b s ih => exact .cons _ _ _ _ (.int _ _) ih
theorem bytesV_repE (s : List UInt8) : RepE g 1 (s.map fun b => Value.int .u8 b.toNat) (bytesV s) := by
  induction s with
  | nil => exact .nil 1
  | cons b s ih =>
    have : RepE g 1 ([Value.int .u8 b.toNat] ++ s.map fun b => Value.int .u8 b.toNat) (AV.int .u8 b.toNat :: bytesV s) := .cons 1 _ _ _ _ rfl (fun v hv => by rw [List.mem_singleton.1 hv]; rfl) (.cons _ _ _ _ (.int _ _) .nil) ih
    exact this
theorem asBytes_ok : ∀ {xs : List AV} {bs : List UInt8} {vs : List Value}, asBytes xs = some bs → RepE g 1 vs xs → ∃ ns : List Int, vs = ns.map (Value.int .u8) ∧ bs = ns.map fun n => UInt8.ofNat n.toNat
  | [], bs, vs, h, he => by
    cases he
    simp [asBytes] at h; subst h
    exact ⟨[], rfl, rfl⟩
  | x :: xs, bs, vs, h, he => by
    match vs, he with
    | _, .cons _ c _ vs' _ hl h1 hc hs =>
    simp only [asBytes] at h
    split at h
    · rename_i b hb
      split at h
      · rename_i bs' hbs
        injection h with h; subst h
        obtain ⟨ns, rfl, rfl⟩ := asBytes_ok hbs hs
        unfold asByte at hb
        split at hb
        · rename_i n
          injection hb with hb; subst hb
          match c, hc with
          | [_], .cons _ _ _ _ (.int _ _) .nil => exact ⟨n :: ns, rfl, rfl⟩
        · cases hb
      · cases h
    · cases h
theorem grownCap_ge (w : World) (need old : Nat) (e : TypeId) : need ≤ grownCap w need old e := by
  simp only [grownCap, Question.cut]; omega
theorem Inv.tcellsAt (hi : Inv g st w) {b o n m : Nat} {e : TypeId} {cs : List AV} (hl : LiveA g b o m) (hg : st.get o = some (.tcells e n cs)) : ∃ c : Array Value, ∃ fr : Nat × Nat, w.heap[b]? = some (.cells c e fr) ∧ c.size = n := by
  rcases hl with hd | ⟨tot, hb, _⟩
  · rw [hi.dead o hd] at hg; cases hg
  · obtain ⟨x, h1, h2⟩ := hi.obj b o tot hb
    rw [hg] at h1; injection h1 with h1; subst h1
    obtain ⟨c, fr, vs, rest, q1, q2, q3, q4, q5, q6, q7⟩ := h2
    exact ⟨c, fr, q1, q6.trans q7.symm⟩
theorem convV_ok {s d : Nat} {x : AV} {a : Value} {r : AV × Store} (h : convV P s d x st = some r) (hx : Rep g a x) (hi : Inv g st w) : ValOk g B P r.2 w (.val r.1) (convert s d a) := by
  unfold convV at h
  split at h
  · rename_i sd hs
    split at h
    · rename_i k hd
      unfold convInt at h
      split at h
      · injection h with h; subst h
        cases hx
        exact RunsTo.ok hi (.mk (v := .int k _) (by simp [convert, underlying, show P.underlying _ = _ from hs, show P.underlying _ = _ from hd, Conv.intToInt]) (.int _ _))
      · cases h
    · rename_i hd
      unfold convStr at h
      split at h
      · injection h with h; subst h
        cases hx with
        | str t => exact RunsTo.ok hi (.mk (v := .string t) (by simp [convert, underlying, show P.underlying _ = _ from hs, show P.underlying _ = _ from hd]) (.str t))
      · rename_i hns
        split at h
        · rename_i e
          unfold strOf at h
          split at h
          · rename_i he
            split at h
            · rename_i hsz
              split at h
              · rename_i xs hxs
                split at h
                · rename_i b hb
                  injection h with h; subst h
                  obtain ⟨sz, hsz' | ⟨rfl, rfl⟩⟩ := readRow_ok hxs hx hi (fun t e => hns t e)
                  · obtain ⟨hsz', ⟨av, c, rfl, hc, vs, hE, hcell⟩⟩ := hsz'
                    rw [hsz] at hsz'; injection hsz' with hsz'; subst hsz'
                    obtain ⟨ns, rfl, rfl⟩ := asBytes_ok hb hE
                    have hnl : ns.length = xs.length := by have := hE.flat'.2.2; simpa using this
                    refine RunsTo.ok hi (.mk (v := .string (strOfNums ns)) ?_ ?_)
                    · rcases hcell with rfl | ⟨bl, o, rfl, hcell⟩
                      · have : ns = [] := by cases ns <;> simp at hnl ⊢
                        subst this
                        cases av with
                        | none => rw [run_convert_bytes_nil w s e hs he _ _ d hd]; rfl
                        | some ad =>
                          obtain ⟨bl, o, sp⟩ := ad
                          rw [run_convert_bytes_string w s d e _ _ c hs he hd]
                          rfl
                      · exact run_convert_bytes_arg w s e hs he bl o xs.length c ns hnl (fun i hi' => hcell i _ (by simp [List.getElem?_map, List.getElem?_eq_getElem (show i < ns.length by omega), List.getD_eq_getElem?_getD])) d hd
                    · have : Rep g (.string (strOfNums ns)) (.str (strOfNums ns).data.toList) := .str _
                      rwa [strOfNums_data] at this
                  · simp [asBytes] at hb; subst hb
                    cases hx
                    exact RunsTo.ok hi (.mk (v := .string .empty) (run_convert_bytes_nil w s e hs he 0 0 d hd) (.str .empty))
                · cases h
              · cases h
            · cases h
          · cases h
        · cases h
    · rename_i e hd
      unfold bytesOf at h
      split at h
      · split at h
        · rename_i t he
          injection h with h; subst h
          cases hx with
          | str t =>
            have hrun := Lib.run_convert_string_bytes (P := P) w s d e t hs hd he
            have hnew := Lib.bytesWorld_at_new w e t
            have hle : Le g (g.upd w.heap.size (.obj st.nobj (Lib.bytesCells w e t).size)) := Le.upd_new g _ (hi.none_of_ge (Nat.le_refl _))
            have hold : ∀ b : Nat, b < w.heap.size → (Lib.bytesWorld w e t).heap[b]? = w.heap[b]? := fun b hb => Lib.bytesWorld_at_old w e t b hb
            -- the same as a new block, but for its mark
            have hsame : ∀ b : Nat, (Lib.bytesWorld w e t).heap[b]? = (w.alloc (.cells (Lib.bytesCells w e t) e ((Lib.bytesCells w e t).size, (Lib.bytesCells w e t).size + 1))).heap[b]? := by
              intro b
              rcases Nat.lt_trichotomy b w.heap.size with h | h | h
              · rw [hold b h, heap_alloc_old w _ h]
              · subst h; rw [hnew, heap_alloc_new]
              · rw [Array.getElem?_eq_none (by rw [Lib.bytesWorld_size]; omega), Array.getElem?_eq_none (by show (w.heap.push _).size ≤ b; simp; omega)]
            have hA := Adv.alloc_upd hi (.cells (Lib.bytesCells w e t) e ((Lib.bytesCells w e t).size, (Lib.bytesCells w e t).size + 1)) (.obj st.nobj (Lib.bytesCells w e t).size)
            have hI := hi.alloc_obj (.cells (Lib.bytesCells w e t) e ((Lib.bytesCells w e t).size, (Lib.bytesCells w e t).size + 1)) (.scells (bytesV t.data.toList)) (Lib.bytesCells w e t).size
              ⟨_, _, _, t.data.toList.map (fun b => Value.int .u8 b.toNat), List.replicate (grownCap w t.size 0 e - t.size) (.int .u8 0), heap_alloc_new w _, by simp [Lib.bytesCells], bytesV_reps _, fun v hv => by
                simp only [Lib.bytesCells, List.mem_append, List.mem_map, List.mem_replicate] at hv
                have hv' : (∃ b, b ∈ t.data.toList ∧ Value.int .u8 b.toNat = v) ∨ v = .int .u8 0 := by
                  simp at hv
                  rcases hv with h | h
                  · left; simpa using h
                  · right; exact h.2
                rcases hv' with ⟨b, _, rfl⟩ | rfl <;> rfl, fun i _ hi' => by simp; omega, rfl⟩
            refine ⟨_, _, hrun, _, ⟨hA.le, ?_, ?_, ?_, rfl, rfl, rfl⟩, hI.same (fun b _ => hsame b), ?_⟩
            · rw [Lib.bytesWorld_size]; omega
            · intro b hb hn; exact ⟨hold b hb, (hA.keep b hb hn).2⟩
            · intro b cs hb; exact hold b (hi.lt (by simp [hb]))
            · refine .arr _ _ _ _ _ _ _ (.inr ⟨_, Gh.upd_same _ _ _, ?_⟩) (grownCap_ge _ _ _ _) (by omega) (fun n hn => by cases hn)
              have := grownCap_ge w t.size 0 e
              have h2 : t.data.size = t.size := rfl
              simp [Lib.bytesCells]
              omega
        · cases h
      · cases h
    · rename_i hd
      unfold toUnsafe at h
      split at h
      · rename_i o
        split at h
        · rename_i t
          split at h
          · rename_i sz hsz
            split at h
            · rename_i e n cs hg
              split at h
              · rename_i hc
                injection h with h; subst h
                cases hx with
                | ptr b _ _ hl =>
                  obtain ⟨c, fr, hb⟩ := hi.tcellsAt hl hg
                  obtain ⟨j, hj, rfl⟩ := sizeT_some hsz
                  refine ⟨_, _, Lib.run_to_unsafe w ⟨b, 0, none⟩ hs hd hj hc.1 (e := e) (cells := n) ?_ hc.2, OutOk.pure hi (.ptr _ _ _ hl)⟩
                  simp [World.shape?, hb.1, hb.2]
              · cases h
            · cases h
          · cases h
        · cases h
      · cases h
    · rename_i u hd
      unfold fromUnsafe at h
      split at h
      · rename_i o
        split at h
        · split at h
          · rename_i sz hsz
            split at h
            · rename_i e n cs hg
              split at h
              · rename_i hc
                injection h with h; subst h
                cases hx with
                | ptr b _ _ hl =>
                  obtain ⟨c, fr, hb⟩ := hi.tcellsAt hl hg
                  obtain ⟨j, hj, rfl⟩ := sizeT_some hsz
                  refine ⟨_, _, Lib.run_from_unsafe w ⟨b, 0, none⟩ hs hd hj (e := e) (cells := n) ?_ hc, OutOk.pure hi (.ptr _ _ _ hl)⟩
                  simp [World.shape?, hb.1, hb.2]
              · cases h
            · cases h
          · cases h
        · cases h
      · cases h
    · cases h
  · cases h
theorem aConv_ok {s d : Nat} {ins : List In} {a : Value} (h : aConv P s d ins st = some (out, st')) (hin : InsRel g B w ins [a]) (hi : Inv g st w) : ValOk g B P st' w out (convert s d a) := by
  match ins, hin with
  | [.val x], .cons _ _ _ _ hx .nil =>
    simp only [aConv] at h
    split at h
    · rename_i r hr
      simp only [Option.some.injEq, Prod.mk.injEq] at h
      obtain ⟨rfl, rfl⟩ := h
      exact convV_ok hr hx hi
    · cases h
  | [.loc ..], _ => simp [aConv] at h
end
end Go.Sim

namespace Go.Sim
open Go.WideShapes (add_plain)

section
variable {P : Program} {g : Gh} {B : Nat → Nat} {st st' : Store} {w : World} {out : Out}

theorem foldl_set (off : Nat) : ∀ (vs : List Value) (j : Nat) (cells : Array Value), off + j + vs.length ≤ cells.size →
    ((vs.zipIdx j).foldl (fun cs p => cs.setIfInBounds (off + p.2) p.1) cells).toList = cells.toList.take (off + j) ++ vs ++ cells.toList.drop (off + j + vs.length)
  | [], j, cells, h => by simp
  | v :: vs, j, cells, h => by
    simp only [List.length_cons] at h
    rw [List.zipIdx_cons, List.foldl_cons, foldl_set off vs (j + 1) _ (by simp; omega)]
    simp only [Array.toList_setIfInBounds, List.length_cons]
    rw [show off + (j + 1) = off + j + 1 by omega, set_take _ _ _ (by simp; omega), set_drop, show off + j + (vs.length + 1) = off + j + 1 + vs.length by omega]
    simp
/-- What lies in cells, for good or not. -/
def CellsOk (g : Gh) (c : Array Value) (cs : List AV) : Prop := Reps g c.toList cs ∧ AllOne c.toList
theorem fill_ok {place place' : Nat → Option (Nat × Nat)} (hp : ∀ i p, place i = some p → place' i = some p) : ∀ (ps : List (Nat × AV)) (vs : List (Nat × Value)) (cs cs' : List AV) (c : Array Value), fillV place ps cs = some cs' → vs.map (·.1) = ps.map (·.1) →
    Reps g (vs.map (·.2)) (ps.map (·.2)) → CellsOk g c cs → ∃ c', Instr.fill place' c vs = some c' ∧ CellsOk g c' cs'
  | [], vs, cs, cs', c, h, hi, hr, hc => by
    simp [fillV] at h; subst h
    cases vs with
    | nil => exact ⟨c, rfl, hc⟩
    | cons _ _ => simp at hi
  | (i, x) :: ps, vs, cs, cs', c, h, hi, hr, hc => by
    match vs, hi, hr with
    | (i', v) :: vs, hi1, .cons _ _ _ _ hx hs =>
    simp only [List.map_cons, List.cons.injEq] at hi1
    obtain ⟨e1, hi2⟩ := hi1
    subst e1
    simp only [fillV] at h
    split at h
    · cases h
    · rename_i off sz hpl
      split at h
      · rename_i hsz
        split at h
        · rename_i cs1 hsp
          obtain ⟨h1, rfl⟩ := splice_some hsp
          obtain ⟨r1, r2⟩ := Rep.cells hx hsz.2
          have hvl : v.cells.size = sz := by have := r1.length; simp at this; omega
          have hcl : c.size = cs.length := by rw [← Array.length_toList]; exact hc.1.length
          have hxl : v.cells.size = x.cells.length := by have := r1.length; simpa using this
          have hfold := foldl_set off v.cells.toList 0 c (by simp; omega)
          simp only [Nat.add_zero] at hfold
          have hz : (v.cells.zipIdx.foldl (fun cs p => cs.setIfInBounds (off + p.2) p.1) c) = ((v.cells.toList.zipIdx 0).foldl (fun cs p => cs.setIfInBounds (off + p.2) p.1) c) := by
            rw [← Array.foldl_toList]
            simp
          have hok : CellsOk g (v.cells.zipIdx.foldl (fun cs p => cs.setIfInBounds (off + p.2) p.1) c) (cs.take off ++ x.cells ++ cs.drop (off + x.cells.length)) := by
            unfold CellsOk
            rw [hz, hfold]
            have : v.cells.toList.length = x.cells.length := by simpa using hxl
            rw [this]
            exact ⟨((hc.1.take off).append r1).append (hc.1.drop _), ((hc.2.take off).append r2).append (hc.2.drop _)⟩
          obtain ⟨c', q1, q2⟩ := fill_ok hp ps vs _ cs' _ h hi2 hs hok
          refine ⟨c', ?_, q2⟩
          simp only [Instr.fill, hp _ _ hpl]
          rw [if_neg (by simp; omega)]
          exact q1
        · cases h
      · cases h
theorem zip_fst {α β : Type} : ∀ (a : List α) (b : List β), a.length = b.length → (a.zip b).map (·.1) = a
  | [], [], _ => rfl
  | x :: a, y :: b, h => by simp at h; simp [zip_fst a b h]
theorem zip_snd {α β : Type} : ∀ (a : List α) (b : List β), a.length = b.length → (a.zip b).map (·.2) = b
  | [], [], _ => rfl
  | x :: a, y :: b, h => by simp at h; simp [zip_snd a b h]
theorem run_mapM_sizes (fs : List Field) (h : ∀ f ∈ fs, ∃ n, sizeT P f.type = some n) (w : World) :
    (fs.mapM (m := Sem) fun f => do pure (f.offset, ← sizeOf f.type)).run P w = .ok (fs.map fun f => (f.offset, (sizeT P f.type).getD 0)) w := by
  induction fs with
  | nil => rfl
  | cons f fs ih =>
    obtain ⟨n, hn⟩ := h f (List.mem_cons_self)
    have := ih (fun f' hf => h f' (List.mem_cons_of_mem _ hf))
    simp only [List.mapM_cons, Sem.run_bind, run_sizeOf hn, Result.andThen_ok, Sem.run_pure, this, List.map_cons, hn, Option.getD_some]
theorem run_mapM_sizesA (fs : Array Field) (h : ∀ f ∈ fs.toList, ∃ n, sizeT P f.type = some n) (w : World) :
    (fs.mapM (m := Sem) fun f => do pure (f.offset, ← sizeOf f.type)).run P w = .ok (fs.map fun f => (f.offset, (sizeT P f.type).getD 0)) w := by
  rw [Array.mapM_eq_mapM_toList, Sem.run_map, run_mapM_sizes fs.toList h w]
  simp only [Result.andThen_ok]
  congr 1
  apply Array.ext'
  simp
theorem aBuild_ok {t : Nat} {ps : Array (Nat × Operand)} {ρ : Operand → Value} {xs : List AV} (h : aBuild P t (ps.toList.map (·.1)) xs st = some (out, st')) (hr : Reps g (ps.toList.map fun p => ρ p.2) xs) (hi : Inv g st w) :
    ValOk g B P st' w out (Instr.build t (ps.map fun p => (p.1, ρ p.2))) := by
  have hlen : (ps.toList.map (·.1)).length = xs.length := by have := hr.length; simpa using this
  have hfst : ((ps.map fun p => (p.1, ρ p.2)).toList).map (·.1) = ((ps.toList.map (·.1)).zip xs).map (·.1) := by
    rw [zip_fst _ _ hlen]; simp
  have hsnd : Reps g (((ps.map fun p => (p.1, ρ p.2)).toList).map (·.2)) (((ps.toList.map (·.1)).zip xs).map (·.2)) := by
    rw [zip_snd _ _ hlen]
    have : ((ps.map fun p => (p.1, ρ p.2)).toList).map (·.2) = ps.toList.map fun p => ρ p.2 := by simp
    rw [this]; exact hr
  unfold aBuild at h
  split at h
  · rename_i z hz
    obtain ⟨i, zv, h1, h2, h3, h4⟩ := zeroT_ok hz
    obtain ⟨z1, z2⟩ := Rep.cells (h3 g) h4
    have hzv := run_zeroValue (P := P) h1 h2 w
    split at h
    · rename_i fs hu
      split at h
      · rename_i hall
        split at h
        · rename_i cs hf
          simp only [Option.some.injEq, Prod.mk.injEq] at h
          obtain ⟨rfl, rfl⟩ := h
          have hsizes : ∀ f ∈ fs.toList, ∃ n, sizeT P f.type = some n := by
            intro f hf'
            have := (Array.all_eq_true'.1 hall) f (by simpa using hf')
            exact Option.isSome_iff_exists.1 this
          obtain ⟨c', q1, q2⟩ := fill_ok (g := g) (place' := fun j => (fs.map fun f => (f.offset, (sizeT P f.type).getD 0))[j]?) (fun j p hp => by
            unfold placeS at hp
            split at hp
            · rename_i f hf'
              split at hp
              · rename_i sz hsz
                injection hp with hp; subst hp
                simp [hf', hsz]
              · cases hp
            · cases hp) _ (ps.map fun p => (p.1, ρ p.2)).toList _ cs zv.cells hf hfst hsnd ⟨z1, z2⟩
          refine RunsTo.ok hi (.mk (v := .agg c') ?_ (.agg _ _ q2.2 q2.1))
          simp only [Instr.build, Sem.run_bind, hzv, Result.andThen_ok, underlying, run_program, show P.underlying _ = _ from hu, run_mapM_sizesA fs hsizes, q1, Sem.run_pure]
        · cases h
      · cases h
    · rename_i n e hu
      split at h
      · rename_i sz hsz
        split at h
        · rename_i cs hf
          simp only [Option.some.injEq, Prod.mk.injEq] at h
          obtain ⟨rfl, rfl⟩ := h
          obtain ⟨c', q1, q2⟩ := fill_ok (g := g) (place' := fun i => some (i * sz, sz)) (fun j p hp => hp) _ (ps.map fun p => (p.1, ρ p.2)).toList _ cs zv.cells hf hfst hsnd ⟨z1, z2⟩
          refine RunsTo.ok hi (.mk (v := .agg c') ?_ (.agg _ _ q2.2 q2.1))
          simp only [Instr.build, Sem.run_bind, hzv, Result.andThen_ok, underlying, run_program, show P.underlying _ = _ from hu, run_sizeOf hsz, q1, Sem.run_pure]
        · cases h
      · cases h
    · cases h
  · cases h
/-- So many zeros, cell by cell. -/
theorem zeros_eq (zs : Array Value) (n : Nat) (h : 0 < zs.size ∨ n = 0) : ((Array.range (n * zs.size)).map (fun i => zs[i % zs.size]!)).toList = (List.replicate n zs.toList).flatten := by
  rcases Nat.eq_zero_or_pos n with rfl | hn
  · simp
  have hz : 0 < zs.size := by omega
  clear h hn
  simp only [Array.toList_map, Array.toList_range]
  induction n with
  | zero => simp
  | succ n ih =>
    rw [List.replicate_succ', List.flatten_append, ← ih, Nat.add_mul, Nat.one_mul, List.range_add, List.map_append]
    congr 1
    simp only [List.flatten_cons, List.flatten_nil, List.append_nil, List.map_map]
    apply List.ext_getElem
    · simp
    · intro i hi1 hi2
      simp at hi1
      have e : (n * zs.size + i) % zs.size = i := by rw [Nat.mul_comm, Nat.mul_add_mod, Nat.mod_eq_of_lt hi1]
      simp [e, hi1]
theorem flat_replicate (z : AV) (n : Nat) : flat (List.replicate n z) = (List.replicate n z.cells).flatten := by
  simp [flat, List.flatMap_replicate]
theorem Reps.flatten_replicate {vs : List Value} {xs : List AV} (h : Reps g vs xs) : ∀ n, Reps g (List.replicate n vs).flatten (List.replicate n xs).flatten
  | 0 => .nil
  | n + 1 => by simp only [List.replicate_succ, List.flatten_cons]; exact h.append (Reps.flatten_replicate h n)
theorem AllOne.flatten_replicate {vs : List Value} (h : AllOne vs) (n : Nat) : AllOne (List.replicate n vs).flatten := by
  intro v hv
  obtain ⟨l, hl, hv⟩ := List.mem_flatten.1 hv
  rw [(List.mem_replicate.1 hl).2] at hv
  exact h v hv
end
end Go.Sim

namespace Go.Sim
open Go.WideShapes (add_plain)

section
variable {P : Program} {g : Gh} {B : Nat → Nat} {st st' : Store} {w : World} {out : Out}

/-- Zeros of a type, so many. -/
theorem zeros_ok {e sz : Nat} {z : AV} {zv : Value} (hz : ∀ g, Rep g zv z) (hn : z.noTuple = true) (hl : z.cells.length = sz) (n : Nat) (g : Gh) :
    zv.cells.size = sz ∧ RepE g sz (List.replicate n zv.cells.toList).flatten (List.replicate n z) := by
  obtain ⟨r1, r2⟩ := Rep.cells (hz g) hn
  have h1 : zv.cells.size = sz := by have := r1.length; simp at this; omega
  refine ⟨h1, ?_⟩
  induction n with
  | zero => exact .nil _
  | succ n ih =>
    simp only [List.replicate_succ, List.flatten_cons]
    exact .cons _ _ _ _ _ (by simpa using h1) r2 r1 ih
/-- A literal slice, or one that was made: a new block whose cells are known. -/
theorem newRow_ok (hi : Inv g st w) {e sz len : Nat} {c : Array Value} {cs xs : List AV} (hc : CellsOk g c cs) (he : RepE g sz (c.toList.take (len * sz)) xs) (hl : xs.length = len) (hz : 0 < sz) :
    ∃ g', Adv g w g' (w.alloc (.cells c e)) ∧ Inv g' st (w.alloc (.cells c e)) ∧ Rep g' (.slice (some ⟨w.heap.size, 0, none⟩) len len) (.row sz none (some len) xs) := by
  refine ⟨_, Adv.alloc_upd hi _ _, hi.alloc_stat c e (0, 0), ?_⟩
  refine .row _ _ _ _ _ _ _ _ _ (.inr ⟨_, _, Gh.upd_same _ _ _, rfl, ?_⟩) (he.mono (Le.upd_new g _ (hi.none_of_ge (Nat.le_refl _)))) hl (Nat.le_refl _) hz (fun m hm => by injection hm with hm; exact hm.symm) (fun t off h => by cases h)
  simpa using List.take_prefix _ _
theorem newArr_ok (hi : Inv g st w) {e sz len : Nat} {c : Array Value} {cs : List AV} {cap : Option Nat} {n : Nat} (hc : ∃ vs rest, c.toList = vs ++ rest ∧ Reps g vs cs ∧ AllOne vs ∧ AllOne rest) (hn : len ≤ n) (hcap : ∀ m, cap = some m → m = n) (hsz : n * sz ≤ c.size) (hz : 0 < sz) :
    ∃ g', Adv g w g' (w.alloc (.cells c e)) ∧ Inv g' (st.new (.cells cs)) (w.alloc (.cells c e)) ∧ Rep g' (.slice (some ⟨w.heap.size, 0, none⟩) len n) (.arr sz st.nobj 0 len cap) := by
  obtain ⟨vs, rest, h1, h2, h3, h4⟩ := hc
  refine ⟨_, Adv.alloc_upd hi _ (.obj st.nobj c.size), hi.alloc_obj _ _ _ ⟨c, e, (0, 0), vs, rest, heap_alloc_new w _, h1, h2.mono (Le.upd_new g _ (hi.none_of_ge (Nat.le_refl _))), by rw [h1]; exact h3.append h4, Nat.le_refl _, rfl⟩, ?_⟩
  exact .arr _ _ _ _ _ _ _ (.inr ⟨_, Gh.upd_same _ _ _, by omega⟩) hn hz hcap
theorem aBuildSlice_ok {md t len : Nat} {ps : Array (Nat × Operand)} {ρ : Operand → Value} {xs : List AV} (h : aBuildSlice P md t len (ps.toList.map (·.1)) xs st = some (out, st')) (hr : Reps g (ps.toList.map fun p => ρ p.2) xs) (hi : Inv g st w) :
    ValOk g B P st' w out (Instr.buildSlice t len (ps.map fun p => (p.1, ρ p.2))) := by
  have hlen : (ps.toList.map (·.1)).length = xs.length := by have := hr.length; simpa using this
  have hfst : ((ps.map fun p => (p.1, ρ p.2)).toList).map (·.1) = ((ps.toList.map (·.1)).zip xs).map (·.1) := by
    rw [zip_fst _ _ hlen]; simp
  have hsnd : Reps g (((ps.map fun p => (p.1, ρ p.2)).toList).map (·.2)) (((ps.toList.map (·.1)).zip xs).map (·.2)) := by
    rw [zip_snd _ _ hlen]
    have : ((ps.map fun p => (p.1, ρ p.2)).toList).map (·.2) = ps.toList.map fun p => ρ p.2 := by simp
    rw [this]; exact hr
  unfold aBuildSlice at h
  split at h
  · rename_i e hel
    have hu := elemT_some (P := P) hel
    split at h
    · rename_i sz hsz
      split at h
      · rename_i z hz
        obtain ⟨i, zv, h1, h2, h3, h4⟩ := zeroT_ok hz
        have hzv := run_zeroValue (P := P) h1 h2 w
        split at h
        · rename_i hcond
          obtain ⟨q1, q2, q3⟩ := hcond
          obtain ⟨k1, k2⟩ := zeros_ok (e := e) h3 h4 q2 len g
          obtain ⟨f1, f2, f3⟩ := k2.flat'
          split at h
          · rename_i cs hf
            have hzeros := zeros_eq zv.cells len (by omega)
            obtain ⟨c', r1, r2⟩ := fill_ok (g := g) (place' := fun i => some (i * sz, sz)) (fun j p hp => hp) _ (ps.map fun p => (p.1, ρ p.2)).toList _ cs
              ((Array.range (len * sz)).map (fun i => zv.cells[i % zv.cells.size]!)) hf hfst hsnd (by
                unfold CellsOk
                rw [k1] at hzeros
                rw [k1, hzeros]
                exact ⟨f1, f2⟩)
            have hrun : (Instr.buildSlice t len (ps.map fun p => (p.1, ρ p.2))).run P w = .ok (.slice (some ⟨w.heap.size, 0, none⟩) len len) (w.alloc (.cells c' e)) := by
              have hlim : ¬ (len * sz > 2 ^ 24) := by omega
              by_cases h0 : len * sz = 0
              · have r0 : Instr.fill (fun i => some (i * sz, sz)) (Array.map (fun x => (#[] : Array Value)[x % (#[] : Array Value).size]!) (Array.range (len * sz))) (ps.map fun p => (p.1, ρ p.2)).toList = some c' := by
                  have e0 : ∀ f : Nat → Value, Array.map f (Array.range 0) = #[] := fun f => by apply Array.ext'; simp
                  rw [h0, e0] at r1 ⊢
                  exact r1
                simp only [Instr.buildSlice, underlying, Sem.run_bind, run_program, Result.andThen_ok, hu, run_sizeOf hsz, if_neg hlim, if_pos h0, Sem.run_pure, r0, newRow, run_newObj]
                rfl
              · simp only [Instr.buildSlice, underlying, Sem.run_bind, run_program, Result.andThen_ok, hu, run_sizeOf hsz, if_neg hlim, if_neg h0, hzv, Sem.run_pure, r1, newRow, run_newObj]
                rfl
            split at h
            · simp only [Option.some.injEq, Prod.mk.injEq] at h
              obtain ⟨rfl, rfl⟩ := h
              have hcsz : len * sz ≤ c'.size := by
                have a1 := r2.1.length
                have a2 : cs.length = (flat (List.replicate len z)).length := by
                  have : ∀ (ps : List (Nat × AV)) (cs cs' : List AV), fillV (placeA sz) ps cs = some cs' → cs'.length = cs.length := by
                    intro ps
                    induction ps with
                    | nil => intro cs cs' h; simp [fillV] at h; rw [h]
                    | cons p ps ih =>
                      intro cs cs' h
                      simp only [fillV] at h
                      split at h
                      · cases h
                      · split at h
                        · split at h
                          · rename_i cs1 hs1
                            obtain ⟨b1, rfl⟩ := splice_some hs1
                            rw [ih _ _ h]
                            simp only [List.length_append, List.length_take, List.length_drop]
                            omega
                          · cases h
                        · cases h
                  exact this _ _ _ hf
                have a3 := f1.length
                rw [f3] at a3
                simp only [List.length_replicate] at a3
                rw [← Array.length_toList]
                omega
              obtain ⟨g', b1, b2, b3⟩ := newArr_ok (e := e) (sz := sz) (len := len) (cap := some len) (n := len) hi ⟨c'.toList, [], by simp, r2.1, r2.2, fun v hv => by cases hv⟩ (Nat.le_refl _) (fun m hm => by injection hm with hm; exact hm.symm) hcsz q3
              exact ⟨_, _, hrun, g', b1, b2, b3⟩
            · split at h
              · rename_i ys hy
                simp only [Option.some.injEq, Prod.mk.injEq] at h
                obtain ⟨rfl, rfl⟩ := h
                obtain ⟨a1, a2⟩ := elemsOf_ok hsz len cs ys c'.toList hy r2.1 r2.2
                obtain ⟨g', b1, b2, b3⟩ := newRow_ok (e := e) hi r2 a2 a1 q3
                exact ⟨_, _, hrun, g', b1, b2, b3⟩
              · cases h
          · cases h
        · cases h
      · cases h
    · cases h
  · cases h
theorem aMakeSlice_ok {md t : Nat} {ins : List In} {a b : Value} (h : aMakeSlice P md t ins st = some (out, st')) (hin : InsRel g B w ins [a, b]) (hi : Inv g st w) : ValOk g B P st' w out (Instr.makeSlice t a b) := by
  match ins, hin with
  | [.val x, .val y], .cons _ _ _ _ hx (.cons _ _ _ _ hy .nil) =>
    cases hx with
    | int k l =>
      cases hy with
      | int k' c =>
        simp only [aMakeSlice] at h
        split at h
        · rename_i e hel
          have hu := elemT_some (P := P) hel
          split at h
          · rename_i sz hsz
            split at h
            · rename_i by_ hby
              split at h
              · rename_i z hz
                obtain ⟨i, zv, h1, h2, h3, h4⟩ := zeroT_ok hz
                have hzv := run_zeroValue (P := P) h1 h2 w
                split at h
                · rename_i hcond
                  obtain ⟨c1, c2, c3, c4, c5, c6⟩ := hcond
                  have hib : i.bytes = by_ := by
                    unfold bytesT at hby
                    simp only [Look.of] at hby
                    rw [h1] at hby
                    exact Option.some.inj hby
                  obtain ⟨k1, k2⟩ := zeros_ok (e := e) h3 h4 c5 c.toNat g
                  obtain ⟨f1, f2, f3⟩ := k2.flat'
                  have hzeros := zeros_eq zv.cells c.toNat (by omega)
                  rw [k1] at hzeros
                  have wrapId : ∀ n : Int, 0 ≤ n → n ≤ 140737488355328 → IntKind.i64.wrap n = n := by
                    intro n hn0 hn1
                    exact IntWalk.i64_in n ⟨by omega, by omega⟩
                  have e1 : IntKind.i64.wrap l = l := wrapId l c1 (by omega)
                  have e2 : IntKind.i64.wrap c = c := wrapId c (by omega) c3
                  have hmul : (i.bytes : Int) * c ≤ 2 ^ 48 := by
                    rw [hib]
                    have hc' : (c.toNat : Int) = c := Int.toNat_of_nonneg (by omega)
                    have c4' : c.toNat * by_ ≤ 140737488355328 := c4
                    have h9 : ((c.toNat * by_ : Nat) : Int) ≤ 140737488355328 := by omega
                    rw [Int.natCast_mul, hc'] at h9
                    rw [Int.mul_comm]
                    omega
                  have hl2 : (i.bytes : Int) * l ≤ 2 ^ 48 := Int.le_trans (Int.mul_le_mul_of_nonneg_left c2 (by omega)) hmul
                  have hrun : (Instr.makeSlice t (.int k l) (.int k' c)).run P w = .ok (.slice (some ⟨w.heap.size, 0, none⟩) l.toNat c.toNat) (w.alloc (.cells ((Array.range (c.toNat * sz)).map (fun j => zv.cells[j % zv.cells.size]!)) e)) := by
                    have g1 : ¬ (c < 0) := by omega
                    have g2 : ¬ (l < 0) := by omega
                    have g3 : ¬ (c < l) := by omega
                    have g4 : ¬ (2 ^ 48 < (i.bytes : Int) * c) := by omega
                    by_cases h0 : c.toNat * sz = 0
                    · have e0 : ∀ f : Nat → Value, Array.map f (Array.range 0) = #[] := fun f => by apply Array.ext'; simp
                      have g5 : ((Array.range (c.toNat * sz)).map (fun j => zv.cells[j % zv.cells.size]!)) = #[] := by rw [h0, e0]
                      have g6 : ((Array.range (c.toNat * sz)).map (fun j => (#[] : Array Value)[j % (#[] : Array Value).size]!)) = #[] := by rw [h0, e0]
                      simp only [Instr.makeSlice, underlying, Sem.run_bind, run_program, Result.andThen_ok, hu, asInt, asIntOf, Sem.run_pure, typeInfo, h1, e1, e2, gt_iff_lt, g1, g2, g3, g4, decide_false, Bool.or_self, Bool.false_eq_true, if_false,
                        run_askRoom, run_sizeOf hsz, if_pos h0, newRow, run_newObj, g5, g6]
                      rfl
                    · simp only [Instr.makeSlice, underlying, Sem.run_bind, run_program, Result.andThen_ok, hu, asInt, asIntOf, Sem.run_pure, typeInfo, h1, e1, e2, gt_iff_lt, g1, g2, g3, g4, decide_false, Bool.or_self, Bool.false_eq_true, if_false,
                        run_askRoom, run_sizeOf hsz, if_neg h0, hzv, newRow, run_newObj]
                      rfl
                  have hsize : ((Array.range (c.toNat * sz)).map (fun j => zv.cells[j % zv.cells.size]!)).size = c.toNat * sz := by simp
                  have hlc : l.toNat ≤ c.toNat := by omega
                  rw [← k1] at hzeros
                  split at h
                  · simp only [Option.some.injEq, Prod.mk.injEq] at h
                    obtain ⟨rfl, rfl⟩ := h
                    obtain ⟨k3, k4⟩ := zeros_ok (e := e) h3 h4 c5 l.toNat g
                    obtain ⟨f4, f5, f6⟩ := k4.flat'
                    have hpre : (List.replicate l.toNat zv.cells.toList).flatten <+: ((Array.range (c.toNat * sz)).map (fun j => zv.cells[j % zv.cells.size]!)).toList := by
                      rw [← k1, hzeros]
                      obtain ⟨d, hd⟩ := Nat.le.dest hlc
                      rw [← hd, ← List.replicate_append_replicate, List.flatten_append]
                      exact List.prefix_append _ _
                    rw [List.length_replicate] at f6
                    refine ⟨_, _, hrun, _, Adv.alloc_upd hi _ _, hi.alloc_row _ e (0, 0) sz l.toNat _ c6 hpre f6 (Nat.zero_le _), ?_⟩
                    refine .row _ _ _ _ _ _ _ _ _ (.inr ⟨_, _, Gh.upd_same _ _ _, rfl, by simp⟩) (k4.mono (Le.upd_new g _ (hi.none_of_ge (Nat.le_refl _)))) (by simp) hlc c6 (fun m hm => by injection hm with hm; exact hm.symm) (fun t' off ht => ?_)
                    simp only [Option.some.injEq, Prod.mk.injEq] at ht
                    obtain ⟨rfl, rfl⟩ := ht
                    exact .inr ⟨0, _, _, Gh.upd_same _ _ _, Nat.le_refl _, by simp, by rw [f6]; simp, by rw [hsize]; simp⟩
                  · simp only [Option.some.injEq, Prod.mk.injEq] at h
                    obtain ⟨rfl, rfl⟩ := h
                    obtain ⟨g', b1, b2, b3⟩ := newArr_ok (e := e) (sz := sz) (len := l.toNat) (cap := some c.toNat) (n := c.toNat) (c := (Array.range (c.toNat * sz)).map (fun j => zv.cells[j % zv.cells.size]!)) (cs := flat (List.replicate c.toNat z)) hi
                      ⟨_, [], by rw [List.append_nil], by rw [← k1, hzeros]; exact f1, by rw [← k1, hzeros]; exact f2, fun v hv => by cases hv⟩ hlc (fun m hm => by injection hm with hm; exact hm.symm) (by rw [hsize]; exact Nat.le_refl _) c6
                    exact ⟨_, _, hrun, g', b1, b2, b3⟩
                · cases h
              · cases h
            · cases h
          · cases h
        · cases h
      | _ => simp [aMakeSlice] at h
    | _ => simp [aMakeSlice] at h
  | [.val _, .loc ..], _ => simp [aMakeSlice] at h
  | [.loc .., _], _ => simp [aMakeSlice] at h
end
end Go.Sim
