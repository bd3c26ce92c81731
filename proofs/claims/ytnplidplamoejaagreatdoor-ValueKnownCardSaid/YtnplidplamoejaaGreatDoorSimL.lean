/- What operations answer: maps, iterators, conversions. -/
import Derived.Test.YtnplidplamoejaaGreatDoorSimK
import Derived.Lib.ConvBytes
import Derived.Laws.BytesArg
set_option linter.unusedVariables false
set_option linter.unusedSimpArgs false
set_option linter.unnecessarySimpa false
namespace Go.Sim
open Go.WideShapes (add_plain)

section
variable {P : Program} {g : Gh} {B : Nat → Nat} {st st' : Store} {w : World} {out : Out}

theorem beq_data (a b : ByteArray) : (a == b) = (a.data.toList == b.data.toList) := by
  cases a; cases b
  rename_i x y
  show (x == y) = (x.toList == y.toList)
  rw [Bool.eq_iff_iff, beq_iff_eq, beq_iff_eq]
  exact ⟨fun h => by rw [h], fun h => Array.ext' h⟩
theorem sameKey_ok {d : TypeDesc} {x y : AV} {a b : Value} {r : Bool} (h : sameKey d x y = some r) (hx : Rep g a x) (hy : Rep g b y) : Instr.sameNow d a b = some r ∧ (r = true → ∀ n, Instr.sameBits n b a = true) := by
  unfold sameKey at h
  split at h
  · unfold sameInt at h
    split at h
    · split at h
      · rename_i e
        subst e
        injection h with h; subst h
        cases hx; cases hy
        exact ⟨by simp [Instr.sameNow], fun hr n => by simp at hr; subst hr; simp [Instr.sameBits]⟩
      · cases h
    · cases h
  · unfold sameStr at h
    split at h
    · injection h with h; subst h
      cases hx; cases hy
      rename_i s1 s2
      have := beq_data s1 s2
      refine ⟨by simp [Instr.sameNow, this], fun hr n => ?_⟩
      have e : s1 = s2 := by
        have := eq_of_beq hr
        cases s1; cases s2
        simp only [ByteArray.mk.injEq]
        exact Array.ext' this
      subst e
      rw [Instr.sameBits]
      rw [beq_data]
      simp
    · cases h
  · unfold sameBool at h
    split at h
    · injection h with h; subst h
      cases hx; cases hy
      exact ⟨by simp [Instr.sameNow], fun hr n => by simp at hr; subst hr; simp [Instr.sameBits]⟩
    · cases h
  · cases h
theorem findK_ok {d : TypeDesc} {k : AV} {ck : Value} (hk : Rep g ck k) : ∀ {ces : List MapEntry} {es : List (AV × AV × Nat)} {i : Nat} {r : Option (Nat × AV)}, findK d k es i = some r → EntsRep g ces es →
    (r = none ∧ Instr.findNow d ck ces i = some none) ∨ (∃ j v cv e, r = some (j, v) ∧ Instr.findNow d ck ces i = some (some (j, cv)) ∧ Rep g cv v ∧ i ≤ j ∧ ces[j - i]? = some e ∧ e.val = cv ∧ ∀ n, Instr.sameBits n e.key ck = true)
  | _, [], i, r, h, he => by
    cases he
    simp [findK] at h; subst h
    exact .inl ⟨rfl, rfl⟩
  | _, x :: es, i, r, h, he => by
    cases he with
    | cons e k' v ces es hk' hv he =>
    simp only [findK] at h
    split at h
    · rename_i hs
      injection h with h; subst h
      obtain ⟨h1, h2⟩ := sameKey_ok hs hk hk'
      exact .inr ⟨i, v, e.val, e, rfl, by simp [Instr.findNow, h1], hv, Nat.le_refl _, by simp, rfl, h2 rfl⟩
    · rename_i hs
      obtain ⟨h1, h2⟩ := sameKey_ok hs hk hk'
      rcases findK_ok hk h he with ⟨q1, q2⟩ | ⟨j, v', cv, e', q1, q2, q3, q4, q5, q6⟩
      · exact .inl ⟨q1, by simp [Instr.findNow, h1, q2]⟩
      · refine .inr ⟨j, v', cv, e', q1, by simp [Instr.findNow, h1, q2], q3, by omega, ?_, q6⟩
        rw [show j - i = (j - (i + 1)) + 1 by omega]
        simpa using q5
    · cases h
theorem keyT_some {t e : Nat} {d : TypeDesc} (h : keyT P t = some (d, e)) : ∃ k, P.underlying t = some (.map k e) ∧ P.underlying k = some d := by
  unfold keyT at h
  split at h
  · rename_i k e' hu
    split at h
    · rename_i d' hd
      simp only [Option.some.injEq, Prod.mk.injEq] at h
      obtain ⟨rfl, rfl⟩ := h
      exact ⟨k, hu, hd⟩
    · cases h
  · cases h
theorem run_checkKey {k : Nat} {d : TypeDesc} {x : AV} {a : Value} {r : Bool} (hk : P.underlying k = some d) (hs : sameKey d x x = some r) (hx : Rep g a x) (b : Bool) (n : Nat) (w : World) : (Instr.checkKey b (n + 1) k a).run P w = .ok () w := by
  unfold sameKey at hs
  split at hs
  · unfold sameInt at hs
    split at hs
    · cases hx; simp [Instr.checkKey, underlying, hk]
    · cases hs
  · unfold sameStr at hs
    split at hs
    · cases hx; simp [Instr.checkKey, underlying, hk]
    · cases hs
  · unfold sameBool at hs
    split at hs
    · cases hx; simp [Instr.checkKey, underlying, hk]
    · cases hs
  · cases hs
theorem run_checkKey' {k : Nat} {d : TypeDesc} {x : AV} {a : Value} {r : Bool} (hk : P.underlying k = some d) (hs : sameKey d x x = some r) (hx : Rep g a x) (b : Bool) (w : World) : (Instr.checkKey b 10000 k a).run P w = .ok () w := run_checkKey hk hs hx b 9999 w
theorem run_findKey {k : Nat} {d : TypeDesc} {a : Value} {ces : List MapEntry} {r : Option (Nat × Value)} (hk : P.underlying k = some d) (h : Instr.findNow d a ces 0 = some r) (w : World) : (Instr.findKey k a ces).run P w = .ok r w := by
  simp [Instr.findKey, underlying, hk, h]
theorem aLookup_ok {t : Nat} {ok : Bool} {ins : List In} {a b : Value} (h : aLookup P t ok ins st = some (out, st')) (hin : InsRel g B w ins [a, b]) (hi : Inv g st w) : ValOk g B P st' w out (Instr.lookup t a b ok) := by
  match ins, hin with
  | [.val m, .val k], .cons _ _ _ _ hm (.cons _ _ _ _ hk .nil) =>
    simp only [aLookup] at h
    split at h
    · rename_i d et hkt
      obtain ⟨kt, hu, hd⟩ := keyT_some hkt
      split at h
      · rename_i r0 hs
        split at h
        · rename_i es hes
          have src : ∃ ces : Array MapEntry, EntsRep g ces.toList es ∧ ((a = .map none ∧ ces = #[]) ∨ ∃ bl clock, a = .map (some bl) ∧ w.heap[bl]? = some (.map ces clock)) := by
            cases hm with
            | nilmap => simp [entriesOf] at hes; subst hes; exact ⟨#[], .nil, .inl ⟨rfl, rfl⟩⟩
            | map bl o hl =>
              simp only [entriesOf] at hes
              split at hes
              · rename_i es' clock hg
                injection hes with hes; subst hes
                obtain ⟨_, _, ces, h1, h2⟩ := getMap hi hl hg
                exact ⟨ces, h2, .inr ⟨bl, clock, rfl, h1⟩⟩
              · cases hes
            | _ => simp [entriesOf] at hes
          obtain ⟨ces, he, hsrc⟩ := src
          have hck : (Instr.checkKey ces.isEmpty 10000 kt b).run P w = .ok () w := run_checkKey' hd hs hk _ w
          have start : ∀ {r : Option (Nat × Value)} {v : Value}, Instr.findNow d b ces.toList 0 = some r → (match r with | some (_, u) => v = u ∧ True | none => (zeroValue et).run P w = .ok v w) →
              (Instr.lookup t a b ok).run P w = .ok (bif ok then .tuple #[v, .bool r.isSome] else v) w := by
            intro r v hf hv
            have hfk := run_findKey (P := P) hd hf w
            rcases hsrc with ⟨rfl, rfl⟩ | ⟨bl, clock, rfl, h1⟩
            · cases r with
              | none => cases ok <;> simp_all [Instr.lookup, underlying]
              | some p => cases ok <;> simp_all [Instr.lookup, underlying]
            · have hgo := run_getObj (P := P) h1 (by simp)
              cases r with
              | none => cases ok <;> simp_all [Instr.lookup, underlying]
              | some p => cases ok <;> simp_all [Instr.lookup, underlying]
          split at h
          · rename_i j v hf
            simp only [Option.some.injEq, Prod.mk.injEq] at h
            obtain ⟨rfl, rfl⟩ := h
            rcases findK_ok hk hf he with ⟨q1, _⟩ | ⟨j', v', cv, e', q1, q2, q3, _⟩
            · cases q1
            · simp only [Option.some.injEq, Prod.mk.injEq] at q1
              obtain ⟨rfl, rfl⟩ := q1
              refine RunsTo.ok hi (.mk (start (v := cv) q2 ⟨rfl, trivial⟩) ?_)
              cases ok
              · exact q3
              · exact .tuple _ _ (.cons _ _ _ _ q3 (.cons _ _ _ _ (.bool true) .nil))
          · rename_i hf
            split at h
            · rename_i z hz
              simp only [Option.some.injEq, Prod.mk.injEq] at h
              obtain ⟨rfl, rfl⟩ := h
              obtain ⟨i, zv, h1, h2, h3, _⟩ := zeroT_ok hz
              rcases findK_ok hk hf he with ⟨_, q2⟩ | ⟨j', v', cv, e', q1, _⟩
              · refine RunsTo.ok hi (.mk (start (v := zv) q2 (run_zeroValue h1 h2 w)) ?_)
                cases ok
                · exact h3 g
                · exact .tuple _ _ (.cons _ _ _ _ (h3 g) (.cons _ _ _ _ (.bool false) .nil))
              · cases q1
            · cases h
          · cases h
        · cases h
      · cases h
    · cases h
  | [.val _, .loc ..], _ => simp [aLookup] at h
  | [.loc .., _], _ => simp [aLookup] at h
theorem setObj_upd {b : Nat} {x y : Obj} (h : w.heap[b]? = some x) (hx : ∀ c e fr, x ≠ .cells c e fr) : (setObj b y).run P w = .ok () { w with heap := w.heap.setIfInBounds b y } ∧ Upd w b y { w with heap := w.heap.setIfInBounds b y } := by
  have hlt := (Array.getElem?_eq_some_iff.1 h).1
  refine ⟨?_, ⟨by simp [hlt], fun i hi => by simp [Array.getElem?_setIfInBounds, hi.symm], by simp, rfl, rfl, rfl⟩⟩
  simp only [setObj, Sem.run, h]
theorem EntsRep.append {a : List MapEntry} {b : List (AV × AV × Nat)} (h : EntsRep g a b) {e : MapEntry} {k v : AV} (hk : Rep g e.key k) (hv : Rep g e.val v) : EntsRep g (a ++ [e]) (b ++ [(k, v, e.born)]) := by
  induction h with
  | nil => exact .cons e k v [] [] hk hv .nil
  | cons e' k' v' es xs hk' hv' _ ih => exact .cons e' k' v' _ _ hk' hv' ih
theorem EntsRep.modify {a : List MapEntry} {b : List (AV × AV × Nat)} (h : EntsRep g a b) {ck cv : Value} {k v : AV} (hk : Rep g ck k) (hv : Rep g cv v) : ∀ i, EntsRep g (a.modify i fun e => { e with key := ck, val := cv }) (b.modify i fun e => (k, v, e.2.2)) := by
  induction h with
  | nil => intro i; cases i <;> exact .nil
  | cons e' k' v' es xs hk' hv' h ih =>
    intro i
    cases i with
    | zero => exact .cons { e' with key := ck, val := cv } k v _ _ hk hv h
    | succ i => exact .cons e' k' v' _ _ hk' hv' (ih i)
theorem aMapSet_ok {t : Nat} {ins : List In} {a b c : Value} (h : aMapSet P t ins st = some (out, st')) (hin : InsRel g B w ins [a, b, c]) (hi : Inv g st w) : UnitOk g B P st' w out (Instr.mapUpdate t a b c) := by
  match ins, hin with
  | [.val (.map o), .val k, .val v], .cons _ _ _ _ hm (.cons _ _ _ _ hk (.cons _ _ _ _ hv .nil)) =>
    cases hm with
    | map bl _ hl =>
    simp only [aMapSet] at h
    split at h
    · rename_i d et hkt
      obtain ⟨kt, hu, hd⟩ := keyT_some hkt
      split at h
      · rename_i r0 hs
        split at h
        · rename_i es clock hg
          obtain ⟨tot, hb, ces, h1, he⟩ := getMap hi hl hg
          have hck : (Instr.checkKey false 10000 kt b).run P w = .ok () w := run_checkKey' hd hs hk _ w
          have hgo := run_getObj (P := P) h1 (by simp)
          split at h
          · rename_i j v' hf
            simp only [Option.some.injEq, Prod.mk.injEq] at h
            obtain ⟨rfl, rfl⟩ := h
            rcases findK_ok hk hf he with ⟨q1, _⟩ | ⟨j', v'', cv, e', q1, q2, q3, q4, q5, q6, q7⟩
            · cases q1
            · simp only [Option.some.injEq, Prod.mk.injEq] at q1
              obtain ⟨rfl, rfl⟩ := q1
              have hfk := run_findKey (P := P) hd q2 w
              obtain ⟨r1, r2⟩ := setObj_upd (P := P) (y := .map (ces.modify j fun e => { e with key := b, val := c }) clock) h1 (by simp)
              have hkey : (Instr.keyThatStays (((ces[j]?).map (·.key)).getD b) b).run P w = .ok b w := by
                have : ces[j]? = some e' := by simpa using q5
                simp [Instr.keyThatStays, this, q7]
              obtain ⟨i1, a1⟩ := hi.write hb r2 (.map (es.modify j fun e => (k, v, e.2.2)) clock) ⟨_, r2.here, by rw [Array.toList_modify]; exact he.modify hk hv j⟩
              refine ⟨_, ?_, g, a1, i1, .tuple _ _ .nil⟩
              simp [Instr.mapUpdate, underlying, hu, hgo, hck, hfk, hkey, r1]
          · rename_i hf
            simp only [Option.some.injEq, Prod.mk.injEq] at h
            obtain ⟨rfl, rfl⟩ := h
            rcases findK_ok hk hf he with ⟨_, q2⟩ | ⟨j', v', cv, e', q1, _⟩
            · have hfk := run_findKey (P := P) hd q2 w
              obtain ⟨r1, r2⟩ := setObj_upd (P := P) (y := .map (ces.push { key := b, val := c, born := clock }) (clock + 1)) h1 (by simp)
              obtain ⟨i1, a1⟩ := hi.write hb r2 (.map (es ++ [(k, v, clock)]) (clock + 1)) ⟨_, r2.here, by rw [Array.toList_push]; exact he.append (e := { key := b, val := c, born := clock }) hk hv⟩
              refine ⟨_, ?_, g, a1, i1, .tuple _ _ .nil⟩
              simp [Instr.mapUpdate, underlying, hu, hgo, hck, hfk, r1]
            · cases q1
          · cases h
        · cases h
      · cases h
    · cases h
  | [.val (.map _), .val _, .loc ..], _ => simp [aMapSet] at h
  | [.val (.map _), .loc .., _], _ => simp [aMapSet] at h
  | [.loc .., _, _], _ => simp [aMapSet] at h
  | [.val (.bool _), _, _], _ => simp [aMapSet] at h
  | [.val (.int _ _), _, _], _ => simp [aMapSet] at h
  | [.val (.str _), _, _], _ => simp [aMapSet] at h
  | [.val .nilptr, _, _], _ => simp [aMapSet] at h
  | [.val (.ptr _ _), _, _], _ => simp [aMapSet] at h
  | [.val (.rptr _), _, _], _ => simp [aMapSet] at h
  | [.val .nils, _, _], _ => simp [aMapSet] at h
  | [.val (.row _ _ _ _), _, _], _ => simp [aMapSet] at h
  | [.val (.arr _ _ _ _ _), _, _], _ => simp [aMapSet] at h
  | [.val .nilmap, _, _], _ => simp [aMapSet] at h
  | [.val (.func _ _ _), _, _], _ => simp [aMapSet] at h
  | [.val .nilFunc, _, _], _ => simp [aMapSet] at h
  | [.val (.iface _ _), _, _], _ => simp [aMapSet] at h
  | [.val .nilIface, _, _], _ => simp [aMapSet] at h
  | [.val (.agg _), _, _], _ => simp [aMapSet] at h
  | [.val (.tuple _), _, _], _ => simp [aMapSet] at h
  | [.val .junk, _, _], _ => simp [aMapSet] at h
end
end Go.Sim
