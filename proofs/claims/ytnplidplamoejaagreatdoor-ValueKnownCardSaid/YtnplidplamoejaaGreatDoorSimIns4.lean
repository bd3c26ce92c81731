/- slices.Insert as a primitive: a row that is for good comes of it. -/
import Derived.Test.YtnplidplamoejaaGreatDoorSimIns3
import Derived.IntWalk
set_option linter.unusedVariables false
set_option linter.unusedSimpArgs false
set_option linter.unnecessarySimpa false
namespace Go.Sim
open Go.Proofs

theorem fnApplies_mono {P : Program} {f : FuncId} {args : Array Value} {w : World} {R R' : Value → World → Prop} (h : FnApplies P f args w R) (hr : ∀ v w', R v w' → R' v w') : FnApplies P f args w R' := by
  unfold FnApplies at *
  split at h
  · exact hr _ _ h
  · refine h.mono fun e w'' he => ?_
    cases e with
    | returned v => exact hr _ _ he
    | panicked ch => exact he.elim
    | outgrown => exact he.elim
  · exact h.elim
def pInsert (L : Look) (e sz by_ : Nat) : List AV → Store → Option (AV × Store)
  | [.arr z o 0 n none, .int .i64 (.ofNat i), .row z' _ _ [x]], st => (match st.get o with
    | some (.cells cs) => (match elemsOf L e cs n with
      | some xs => if z = sz ∧ z' = sz ∧ cs.length = n * sz ∧ i ≤ n ∧ (n + 1) * by_ ≤ maxBytes ∧ n + 1 ≤ maxBytes ∧ (xs.all (goodB L e sz) && goodB L e sz x) = true
          then some (.row sz none none (xs.take i ++ x :: xs.drop i), (st.set o .dead).new .dead) else none
      | none => none)
    | _ => none)
  | _, _ => none

set_option maxRecDepth 100000 in
/-- What the code of slices.Insert answers, in memory: a row that is for good. -/
theorem pInsert54_ok {E : Env} {by_ : Nat} {z : AV} (hmix : E.P.follows .mixedOrders = true) (hname : ∀ (f : Nat) fn, E.P.funcs[f]? = some fn → fn.body ≠ none → fn.name ≠ "runtime.NumGoroutine") (hF : E.P.funcs[54]? = some Tryz.f54) (hov : PrimOk E 91 pOverlaps) (hT : SlT (Look.of E.P) 25 9 1 by_ z) :
    PrimOk E 54 (pInsert (Look.of E.P) 9 1 by_) := by
  intro args st v st' h g w vals hr hi hgl
  unfold pInsert at h
  split at h
  · rename_i z1 o n i z2 tok cp x
    split at h
    · rename_i cs hget
      split at h
      · rename_i xs hxs
        split at h
        · rename_i hc
          obtain ⟨rfl, rfl, hcl, hin, hb1, hb2, hgood⟩ := hc
          simp only [Option.some.injEq, Prod.mk.injEq] at h
          obtain ⟨rfl, rfl⟩ := h
          simp only [Bool.and_eq_true, List.all_eq_true] at hgood
          obtain ⟨hgx, hgood⟩ : goodB (Look.of E.P) 9 1 x = true ∧ (∀ y ∈ xs, goodB (Look.of E.P) 9 1 y = true) := ⟨hgood.2, hgood.1⟩
          have hmx : maxBytes = 140737488355328 := rfl
          obtain ⟨hfl, hxl⟩ := flat_of_elems hT.size hxs hgood
          rw [List.take_of_length_le (by omega)] at hfl
          have hL := E.hL
          -- the two halves
          let A := xs.take i
          let D := xs.drop i
          have hAD : A ++ D = xs := List.take_append_drop i xs
          have hA : A.length = i := by simp [A]; omega
          have hD : i + D.length = n := by simp [D]; omega
          have hgA : ∀ y ∈ A, goodB (Look.of E.P) 9 1 y = true := fun y hy => hgood y (List.mem_of_mem_take hy)
          have hgD : ∀ y ∈ D, goodB (Look.of E.P) 9 1 y = true := fun y hy => hgood y (List.mem_of_mem_drop hy)
          have hgall : ∀ y ∈ A ++ x :: D, goodB (Look.of E.P) 9 1 y = true := fun y hy => by
            rcases List.mem_append.1 hy with hy | hy
            · exact hgA y hy
            · rcases List.mem_cons.1 hy with hy | hy
              · rw [hy]; exact hgx
              · exact hgD y hy
          have hlen : (A ++ x :: D).length = n + 1 := by simp [hA]; omega
          have hflen := flat_len (sz := 1) fun y hy => good_len (hgall y hy)
          rw [hlen] at hflen
          -- the caller
          let call : Caller := acall E (fun _ => AIns) (fun f => if f = 91 then some pOverlaps else none) 1
          have hcall : CallOk E call := acall_ok hmix (An := fun _ => AIns) (fun f t b hb => by cases hb) hname (fun f p hp => by
            split at hp
            · rename_i hf; subst hf; injection hp with hp; subst hp; exact hov
            · cases hp) 1
          have hcov : ∀ (st : Store) cs' off l2 c2, st.get o = some (.cells cs') → call (.func (.func 91) [] []) [.row 1 tok cp [x], .arr 1 o off l2 c2] st = some (.bool false, st) := by
            intro st cs' off l2 c2 hg
            show (match pOverlaps [.row 1 tok cp [x], .arr 1 o off l2 c2] st with
              | some r => some r
              | none => _) = _
            simp only [pOverlaps, hg]
          -- the machine's slice
          generalize hl : vals.toList = l at hr
          cases hr with
          | cons a _ _ _ ha hr1 =>
          cases hr1 with
          | cons b' _ _ _ hb' hr2 =>
          cases hr2 with
          | cons c' _ _ _ hc' hr3 =>
            cases hr3
            have hv : vals = #[a, b', c'] := by rw [← hl]
            subst hv
            cases ha with
            | arr b _ _ _ c _ _ hla hnc hz hcap =>
              have ho : o < st.nobj := Store.get_lt hget
              have hrep : Rep g (.slice (some ⟨b, 0, none⟩) n c) (.arr 1 o 0 n (some c)) := .arr _ _ _ _ _ _ _ hla hnc hz (fun m hm => by injection hm with hm; exact hm.symm)
              have hreps : Reps g (#[Value.slice (some ⟨b, 0, none⟩) n c, b', c'] : Array Value).toList [.arr 1 o 0 n (some c), .int .i64 (.ofNat i), .row 1 tok cp [x]]             := .cons _ _ _ _ hrep (.cons _ _ _ _ hb' (.cons _ _ _ _ hc' .nil))
              have bnd_lo : ∀ (a h : Nat), a ≤ h → bnd (some (.int .i64 (a : Int))) 0 h = some a := fun a h hah => by
                simp only [bnd]; rw [if_pos ⟨by omega, by omega⟩]; simp
              have wr : ∀ a : Nat, a ≤ 9223372036854775807 → IntKind.i64.wrap (a : Int) = a := fun a ha => IntWalk.i64_in _ (by omega)
              have hw : IntKind.i64.wrap ((n : Int) + 1) = n + 1 := by have := wr (n + 1) (by omega); simpa using this
              have hw1 : IntKind.i64.wrap ((n : Int) + ((1 : Nat) : Int)) = n + 1 := by simpa using hw
              have hwi : i + 1 ≤ 9223372036854775807 → IntKind.i64.wrap ((i : Int) + ((1 : Nat) : Int)) = ((i + 1 : Nat) : Int) := fun hh => by have := wr (i + 1) hh; simpa using this
              have hb1' : bounds (some (.int .i64 (i : Int))) none n c = some (i, n) := by simp only [bounds]; rw [show bnd none n c = some n from rfl]; simp only [bnd_lo i n (by omega)]
              let fr := aenter Tryz.f54 [.arr 1 o 0 n (some c), .int .i64 (.ofNat i), .row 1 tok cp [x]]
              have hfr : fr.tmps.length = 95 := by rfl
              have f0 : fr.tmps[0]? = some (.arr 1 o 0 n (some c)) := rfl
              have f1 : fr.tmps[1]? = some (.int .i64 (i : Int)) := rfl
              have f2 : fr.tmps[2]? = some (.row 1 tok cp [x]) := rfl
              have fin : ∀ (sti st2 : Store) (r : AV) (fr' : AFr), Inv g sti w → acode E call AIns 54 1 false (Tryz.f54.body.get!) fr sti = some (.ret, fr', st2) → fr'.tmps[6]? = some r →
                  FnApplies E.P 54 #[Value.slice (some ⟨b, 0, none⟩) n c, b', c'] w (Post g st2 w r) := by
                intro sti st2 r fr' hii h1 h2
                refine afun_ok (An := fun _ => AIns) hcall hmix (fun f t b hb => by cases hb) hname (n := 1) (f := 54) (args := [.arr 1 o 0 n (some c), .int .i64 (.ofNat i), .row 1 tok cp [x]]) (st := sti) (v := r) ?_ hreps hii hgl
                unfold afun
                have hfn : E.L.fn 54 = some Tryz.f54 := by rw [hL]; exact hF
                have hbody : Tryz.f54.body = some (Tryz.f54.body.get!) := rfl
                rw [hfn]
                simp only
                rw [hbody]
                simp only
                rw [h1]
                have hres : aresults E AIns fr' st2 Tryz.f54.results.toList = some [r] := by
                  show aresults E AIns fr' st2 [.tmp 6] = some [r]
                  simp only [aresults, aresult, AIns, h2]
                simp only [hres]
              -- behind the call: the row is frozen
              have finB : ∀ {cx : Nat}, FnApplies E.P 54 #[Value.slice (some ⟨b, 0, none⟩) n c, b', c'] w (Post g (st.set o (.cells (flat (A ++ x :: D) ++ flat (List.replicate cx (junkE (Look.of E.P) 9 1))))) w (.arr 1 o 0 (n + 1) (some c))) →
                  FnApplies E.P 54 #[Value.slice (some ⟨b, 0, none⟩) n c, b', c'] w (Post g ((st.set o .dead).new .dead) w (.row 1 none none (A ++ x :: D))) := by
                intro cx hpost
                refine fnApplies_mono hpost fun u w' ⟨g', a1, i1, rep1⟩ => ?_
                cases rep1 with
                | arr b3 _ _ _ c3 _ _ hl3 hn3 hz3 hcap3 =>
                  have hrd : readRow (Look.of E.P) 9 (st.set o (.cells (flat (A ++ x :: D) ++ flat (List.replicate cx (junkE (Look.of E.P) 9 1))))) (.arr 1 o 0 (n + 1) (some c)) = some (A ++ x :: D) :=
                    readRow_at hT.size hz (pre := []) (ys := A ++ x :: D) (post := flat (List.replicate cx (junkE (Look.of E.P) 9 1))) (by unfold Store.getCells; rw [Store.get_set_same hi.wfo hget]; rfl) rfl hlen.symm hgall
                  obtain ⟨g2, a2, i2, rep2⟩ := freeze_one (P := E.P) i1 hl3 hn3 hz3 hrd
                  rw [set_set] at i2
                  exact ⟨g2, a1.trans a2, i2.newDead, rep2⟩
              have finA : FnApplies E.P 54 #[Value.slice (some ⟨b, 0, none⟩) n c, b', c'] w (Post g (st.new (.cells (flat (A ++ x :: D)))) w (.arr 1 st.nobj 0 (n + 1) none)) →
                  FnApplies E.P 54 #[Value.slice (some ⟨b, 0, none⟩) n c, b', c'] w (Post g ((st.set o .dead).new .dead) w (.row 1 none none (A ++ x :: D))) := by
                intro hpost
                refine fnApplies_mono hpost fun u w' ⟨g', a1, i1, rep1⟩ => ?_
                cases rep1 with
                | arr b3 _ _ _ c3 _ _ hl3 hn3 hz3 hcap3 =>
                  have hrd : readRow (Look.of E.P) 9 (st.new (.cells (flat (A ++ x :: D)))) (.arr 1 st.nobj 0 (n + 1) none) = some (A ++ x :: D) :=
                    readRow_at hT.size hz (pre := []) (ys := A ++ x :: D) (post := []) (by rw [getCells_new', List.append_nil, List.nil_append]) rfl hlen.symm hgall
                  obtain ⟨g2, a2, i2, rep2⟩ := freeze_one (P := E.P) i1 hl3 hn3 hz3 hrd
                  -- the old one is nobody's
                  have hgo : ((st.new (.cells (flat (A ++ x :: D)))).set st.nobj .dead).get o = some (.cells cs) := by
                    rw [Store.get_set_other (by simp [Store.new]) (by omega), Store.get_old _ ho]; exact hget
                  have hl2 := hla.mono (a1.trans a2).le
                  rcases hl2 with hd | ⟨tot, hblk, _⟩
                  · have := i2.dead o hd
                    rw [hgo] at this; cases this
                  · have i3 := i2.die hblk
                    have a3 := Adv.drop i2 hblk
                    rw [new_dead ho] at i3
                    exact ⟨_, (a1.trans a2).trans a3, i3, rep2.mono a3.le⟩
              by_cases hroom : n + 1 ≤ c
              · -- in its place
                let cs1 := cs ++ List.replicate (c * 1 - cs.length) .junk
                have hcs1 : cs1 = flat (A ++ D ++ List.replicate (c - n) (junkE (Look.of E.P) 9 1)) := by
                  rw [flat_app, hAD, hfl, hT.junk_cells]
                  simp only [cs1, hcl]
                  congr 2
                  rw [← Nat.sub_mul]
                have hla' : LiveA g b o (c * 1) := by simpa using hla
                have hi1 : Inv g (st.set o (.cells cs1)) w := hi.extend hla' hget (by rw [hcl]; exact Nat.mul_le_mul_right _ hnc)
                have hget1 : (st.set o (.cells cs1)).get o = some (.cells cs1) := Store.get_set_same hi.wfo hget
                rcases Nat.lt_or_eq_of_le hin with hin | hin
                · obtain ⟨st1, nn, mm, k1, k2⟩ := copiesB (T := 25) (st := st.set o (.cells cs1)) (tok := tok) (cp := cp) (x := x) hT (wf_set hi.wfo) hA hD hin hroom (by rw [hget1, hcs1]) hgA hgD hgx
                  obtain ⟨fr', r1, r2⟩ := insB54 (E := E) (call := call) 1 o i n c (st.set o (.cells cs1)) tok cp x fr hfr f0 f1 f2 hin hroom (by rw [hL]; exact hT.size) (by rw [hL]; exact hT.el) (by rw [hL]; exact hT.un)
                    hb1' (by omega) hw (by simpa using (by omega : ¬ (i : Int) = n)) (by simp only [decide_eq_false_iff_not]; omega) rfl hw1 (hwi (by omega))
                    (by simp only [bounds]; rw [show bnd none (n + 1) c = some (n + 1) from rfl]; simp only [bnd_lo (i + 1) (n + 1) (by omega)]) (by omega)
                    (by simp only [bounds]; rw [show bnd none (n + 1) c = some (n + 1) from rfl]; simp only [bnd_lo i (n + 1) (by omega)])
                    (by
                      have : bnd (some (.int .i64 ((n : Int) + 1))) n c = some (n + 1) := by
                        simp only [bnd]; rw [if_pos ⟨by omega, by omega⟩]; congr 1
                      simp only [bounds, this]; rw [show bnd none 0 (n + 1) = some 0 from rfl]) (by omega) (by omega) (by omega)
                    (hcov _ _ _ _ _ hget1) st1 _ nn mm (by rw [hL]; exact k1) (by rw [hL]; exact k2)
                  have hpost := fin _ _ _ fr' hi1 r1 r2
                  rw [set_set] at hpost
                  exact finB hpost
                · subst hin
                  have hDn : D = [] := List.eq_nil_of_length_eq_zero (by omega)
                  have hk := endG (T := 25) (st := st.set o (.cells cs1)) (tok := tok) (cp := cp) (x := x) hT hA hgA hgx hroom (by rw [hget1, hcs1, hDn, List.append_nil])
                  obtain ⟨fr', r1, r2⟩ := insG54 (E := E) (call := call) 1 o i c (st.set o (.cells cs1)) tok cp x fr hfr f0 f1 f2 (by rw [hL]; exact hT.size) (by rw [hL]; exact hT.el) (by rw [hL]; exact hT.un)
                    hb1' (by omega) (by simp) rfl _ _ (by rw [hL]; exact hk)
                  have hpost := fin _ _ _ fr' hi1 r1 r2
                  rw [set_set, show A ++ [x] = A ++ x :: D by rw [hDn]] at hpost
                  exact finB hpost
              · -- in new memory
                have hcn : c = n := by omega
                subst hcn
                rcases Nat.lt_or_eq_of_le hin with hin | hin
                · obtain ⟨st0, st1, nn, mm, k0, k1, k2⟩ := copiesA (T := 25) (st := st) (tok := tok) (cp := cp) (x := x) hT hi.wfo (o := o) (by unfold Store.getCells; rw [hget, hAD, hfl]) ho hA hD hin hgA hgD hgx hb1 hb2
                  obtain ⟨fr', r1, r2⟩ := insA54 (E := E) (call := call) 1 o st.nobj i c c st tok cp x fr hfr f0 f1 f2 hin (by rw [hL]; exact hT.size) (by rw [hL]; exact hT.el) (by rw [hL]; exact hT.un)
                    hb1' (by omega) hw (by simpa using (by omega : ¬ (i : Int) = c)) (by simp only [decide_eq_true_eq]; omega) rfl hw1 (hwi (by omega)) (by rw [show (c : Int) + 1 - (i : Int) = ((c + 1 - i : Nat) : Int) by omega]; exact wr _ (by omega))
                    (by simp only [bounds]; rw [show bnd none (c + 1) (c + 1) = some (c + 1) from rfl]; simp only [bnd_lo (i + 1) (c + 1) (by omega)])
                    (by simp only [bounds]; rw [show bnd none (c + 1) (c + 1) = some (c + 1) from rfl]; simp only [bnd_lo i (c + 1) (by omega)])
                    (by
                      have : bnd (some (.int .i64 (i : Int))) c c = some i := by
                        simp only [bnd]; rw [if_pos ⟨by omega, by omega⟩]; simp
                      simp only [bounds, this]; rw [show bnd none 0 i = some 0 from rfl]) (by omega) (by omega) (by omega) (by omega) (by omega)
                    st0 st1 _ nn mm (by rw [hL]; exact k0) (by rw [hL]; exact k1) (by rw [hL]; exact k2)
                  exact finA (fin _ _ _ fr' hi r1 r2)
                · subst hin
                  have hDn : D = [] := List.eq_nil_of_length_eq_zero (by omega)
                  have hk := endE (T := 25) (st := st) (o := o) (tok := tok) (cp := cp) (x := x) hT hA hgA (by unfold Store.getCells; rw [hget, ← hfl, ← hAD, hDn, List.append_nil]) hb1 hb2
                  obtain ⟨fr', r1, r2⟩ := insE54 (E := E) (call := call) 1 o st.nobj i st tok cp x fr hfr f0 f1 f2 (by rw [hL]; exact hT.size) (by rw [hL]; exact hT.el) (by rw [hL]; exact hT.un)
                    hb1' (by simp) rfl _ _ (by rw [hL]; exact hk)
                  have hpost := fin _ _ _ fr' hi r1 r2
                  rw [show A ++ [x] = A ++ x :: D by rw [hDn]] at hpost
                  exact finA hpost
        · cases h
      · cases h
    · cases h
  · cases h

set_option maxRecDepth 100000 in
/-- What the code of slices.Insert answers, in memory: a row that is for good. -/
theorem pInsert55_ok {E : Env} {by_ : Nat} {z : AV} (hmix : E.P.follows .mixedOrders = true) (hname : ∀ (f : Nat) fn, E.P.funcs[f]? = some fn → fn.body ≠ none → fn.name ≠ "runtime.NumGoroutine") (hF : E.P.funcs[55]? = some Tryz.f55) (hov : PrimOk E 93 pOverlaps) (hT : SlT (Look.of E.P) 26 28 7 by_ z) :
    PrimOk E 55 (pInsert (Look.of E.P) 28 7 by_) := by
  intro args st v st' h g w vals hr hi hgl
  unfold pInsert at h
  split at h
  · rename_i z1 o n i z2 tok cp x
    split at h
    · rename_i cs hget
      split at h
      · rename_i xs hxs
        split at h
        · rename_i hc
          obtain ⟨rfl, rfl, hcl, hin, hb1, hb2, hgood⟩ := hc
          simp only [Option.some.injEq, Prod.mk.injEq] at h
          obtain ⟨rfl, rfl⟩ := h
          simp only [Bool.and_eq_true, List.all_eq_true] at hgood
          obtain ⟨hgx, hgood⟩ : goodB (Look.of E.P) 28 7 x = true ∧ (∀ y ∈ xs, goodB (Look.of E.P) 28 7 y = true) := ⟨hgood.2, hgood.1⟩
          have hmx : maxBytes = 140737488355328 := rfl
          obtain ⟨hfl, hxl⟩ := flat_of_elems hT.size hxs hgood
          rw [List.take_of_length_le (by omega)] at hfl
          have hL := E.hL
          -- the two halves
          let A := xs.take i
          let D := xs.drop i
          have hAD : A ++ D = xs := List.take_append_drop i xs
          have hA : A.length = i := by simp [A]; omega
          have hD : i + D.length = n := by simp [D]; omega
          have hgA : ∀ y ∈ A, goodB (Look.of E.P) 28 7 y = true := fun y hy => hgood y (List.mem_of_mem_take hy)
          have hgD : ∀ y ∈ D, goodB (Look.of E.P) 28 7 y = true := fun y hy => hgood y (List.mem_of_mem_drop hy)
          have hgall : ∀ y ∈ A ++ x :: D, goodB (Look.of E.P) 28 7 y = true := fun y hy => by
            rcases List.mem_append.1 hy with hy | hy
            · exact hgA y hy
            · rcases List.mem_cons.1 hy with hy | hy
              · rw [hy]; exact hgx
              · exact hgD y hy
          have hlen : (A ++ x :: D).length = n + 1 := by simp [hA]; omega
          have hflen := flat_len (sz := 7) fun y hy => good_len (hgall y hy)
          rw [hlen] at hflen
          -- the caller
          let call : Caller := acall E (fun _ => AIns) (fun f => if f = 93 then some pOverlaps else none) 1
          have hcall : CallOk E call := acall_ok hmix (An := fun _ => AIns) (fun f t b hb => by cases hb) hname (fun f p hp => by
            split at hp
            · rename_i hf; subst hf; injection hp with hp; subst hp; exact hov
            · cases hp) 1
          have hcov : ∀ (st : Store) cs' off l2 c2, st.get o = some (.cells cs') → call (.func (.func 93) [] []) [.row 7 tok cp [x], .arr 7 o off l2 c2] st = some (.bool false, st) := by
            intro st cs' off l2 c2 hg
            show (match pOverlaps [.row 7 tok cp [x], .arr 7 o off l2 c2] st with
              | some r => some r
              | none => _) = _
            simp only [pOverlaps, hg]
          -- the machine's slice
          generalize hl : vals.toList = l at hr
          cases hr with
          | cons a _ _ _ ha hr1 =>
          cases hr1 with
          | cons b' _ _ _ hb' hr2 =>
          cases hr2 with
          | cons c' _ _ _ hc' hr3 =>
            cases hr3
            have hv : vals = #[a, b', c'] := by rw [← hl]
            subst hv
            cases ha with
            | arr b _ _ _ c _ _ hla hnc hz hcap =>
              have ho : o < st.nobj := Store.get_lt hget
              have hrep : Rep g (.slice (some ⟨b, 0, none⟩) n c) (.arr 7 o 0 n (some c)) := .arr _ _ _ _ _ _ _ hla hnc hz (fun m hm => by injection hm with hm; exact hm.symm)
              have hreps : Reps g (#[Value.slice (some ⟨b, 0, none⟩) n c, b', c'] : Array Value).toList [.arr 7 o 0 n (some c), .int .i64 (.ofNat i), .row 7 tok cp [x]]             := .cons _ _ _ _ hrep (.cons _ _ _ _ hb' (.cons _ _ _ _ hc' .nil))
              have bnd_lo : ∀ (a h : Nat), a ≤ h → bnd (some (.int .i64 (a : Int))) 0 h = some a := fun a h hah => by
                simp only [bnd]; rw [if_pos ⟨by omega, by omega⟩]; simp
              have wr : ∀ a : Nat, a ≤ 9223372036854775807 → IntKind.i64.wrap (a : Int) = a := fun a ha => IntWalk.i64_in _ (by omega)
              have hw : IntKind.i64.wrap ((n : Int) + 1) = n + 1 := by have := wr (n + 1) (by omega); simpa using this
              have hw1 : IntKind.i64.wrap ((n : Int) + ((1 : Nat) : Int)) = n + 1 := by simpa using hw
              have hwi : i + 1 ≤ 9223372036854775807 → IntKind.i64.wrap ((i : Int) + ((1 : Nat) : Int)) = ((i + 1 : Nat) : Int) := fun hh => by have := wr (i + 1) hh; simpa using this
              have hb1' : bounds (some (.int .i64 (i : Int))) none n c = some (i, n) := by simp only [bounds]; rw [show bnd none n c = some n from rfl]; simp only [bnd_lo i n (by omega)]
              let fr := aenter Tryz.f55 [.arr 7 o 0 n (some c), .int .i64 (.ofNat i), .row 7 tok cp [x]]
              have hfr : fr.tmps.length = 95 := by rfl
              have f0 : fr.tmps[0]? = some (.arr 7 o 0 n (some c)) := rfl
              have f1 : fr.tmps[1]? = some (.int .i64 (i : Int)) := rfl
              have f2 : fr.tmps[2]? = some (.row 7 tok cp [x]) := rfl
              have fin : ∀ (sti st2 : Store) (r : AV) (fr' : AFr), Inv g sti w → acode E call AIns 55 1 false (Tryz.f55.body.get!) fr sti = some (.ret, fr', st2) → fr'.tmps[6]? = some r →
                  FnApplies E.P 55 #[Value.slice (some ⟨b, 0, none⟩) n c, b', c'] w (Post g st2 w r) := by
                intro sti st2 r fr' hii h1 h2
                refine afun_ok (An := fun _ => AIns) hcall hmix (fun f t b hb => by cases hb) hname (n := 1) (f := 55) (args := [.arr 7 o 0 n (some c), .int .i64 (.ofNat i), .row 7 tok cp [x]]) (st := sti) (v := r) ?_ hreps hii hgl
                unfold afun
                have hfn : E.L.fn 55 = some Tryz.f55 := by rw [hL]; exact hF
                have hbody : Tryz.f55.body = some (Tryz.f55.body.get!) := rfl
                rw [hfn]
                simp only
                rw [hbody]
                simp only
                rw [h1]
                have hres : aresults E AIns fr' st2 Tryz.f55.results.toList = some [r] := by
                  show aresults E AIns fr' st2 [.tmp 6] = some [r]
                  simp only [aresults, aresult, AIns, h2]
                simp only [hres]
              -- behind the call: the row is frozen
              have finB : ∀ {cx : Nat}, FnApplies E.P 55 #[Value.slice (some ⟨b, 0, none⟩) n c, b', c'] w (Post g (st.set o (.cells (flat (A ++ x :: D) ++ flat (List.replicate cx (junkE (Look.of E.P) 28 7))))) w (.arr 7 o 0 (n + 1) (some c))) →
                  FnApplies E.P 55 #[Value.slice (some ⟨b, 0, none⟩) n c, b', c'] w (Post g ((st.set o .dead).new .dead) w (.row 7 none none (A ++ x :: D))) := by
                intro cx hpost
                refine fnApplies_mono hpost fun u w' ⟨g', a1, i1, rep1⟩ => ?_
                cases rep1 with
                | arr b3 _ _ _ c3 _ _ hl3 hn3 hz3 hcap3 =>
                  have hrd : readRow (Look.of E.P) 28 (st.set o (.cells (flat (A ++ x :: D) ++ flat (List.replicate cx (junkE (Look.of E.P) 28 7))))) (.arr 7 o 0 (n + 1) (some c)) = some (A ++ x :: D) :=
                    readRow_at hT.size hz (pre := []) (ys := A ++ x :: D) (post := flat (List.replicate cx (junkE (Look.of E.P) 28 7))) (by unfold Store.getCells; rw [Store.get_set_same hi.wfo hget]; rfl) rfl hlen.symm hgall
                  obtain ⟨g2, a2, i2, rep2⟩ := freeze_one (P := E.P) i1 hl3 hn3 hz3 hrd
                  rw [set_set] at i2
                  exact ⟨g2, a1.trans a2, i2.newDead, rep2⟩
              have finA : FnApplies E.P 55 #[Value.slice (some ⟨b, 0, none⟩) n c, b', c'] w (Post g (st.new (.cells (flat (A ++ x :: D)))) w (.arr 7 st.nobj 0 (n + 1) none)) →
                  FnApplies E.P 55 #[Value.slice (some ⟨b, 0, none⟩) n c, b', c'] w (Post g ((st.set o .dead).new .dead) w (.row 7 none none (A ++ x :: D))) := by
                intro hpost
                refine fnApplies_mono hpost fun u w' ⟨g', a1, i1, rep1⟩ => ?_
                cases rep1 with
                | arr b3 _ _ _ c3 _ _ hl3 hn3 hz3 hcap3 =>
                  have hrd : readRow (Look.of E.P) 28 (st.new (.cells (flat (A ++ x :: D)))) (.arr 7 st.nobj 0 (n + 1) none) = some (A ++ x :: D) :=
                    readRow_at hT.size hz (pre := []) (ys := A ++ x :: D) (post := []) (by rw [getCells_new', List.append_nil, List.nil_append]) rfl hlen.symm hgall
                  obtain ⟨g2, a2, i2, rep2⟩ := freeze_one (P := E.P) i1 hl3 hn3 hz3 hrd
                  -- the old one is nobody's
                  have hgo : ((st.new (.cells (flat (A ++ x :: D)))).set st.nobj .dead).get o = some (.cells cs) := by
                    rw [Store.get_set_other (by simp [Store.new]) (by omega), Store.get_old _ ho]; exact hget
                  have hl2 := hla.mono (a1.trans a2).le
                  rcases hl2 with hd | ⟨tot, hblk, _⟩
                  · have := i2.dead o hd
                    rw [hgo] at this; cases this
                  · have i3 := i2.die hblk
                    have a3 := Adv.drop i2 hblk
                    rw [new_dead ho] at i3
                    exact ⟨_, (a1.trans a2).trans a3, i3, rep2.mono a3.le⟩
              by_cases hroom : n + 1 ≤ c
              · -- in its place
                let cs1 := cs ++ List.replicate (c * 7 - cs.length) .junk
                have hcs1 : cs1 = flat (A ++ D ++ List.replicate (c - n) (junkE (Look.of E.P) 28 7)) := by
                  rw [flat_app, hAD, hfl, hT.junk_cells]
                  simp only [cs1, hcl]
                  congr 2
                  rw [← Nat.sub_mul]
                have hla' : LiveA g b o (c * 7) := by simpa using hla
                have hi1 : Inv g (st.set o (.cells cs1)) w := hi.extend hla' hget (by rw [hcl]; exact Nat.mul_le_mul_right _ hnc)
                have hget1 : (st.set o (.cells cs1)).get o = some (.cells cs1) := Store.get_set_same hi.wfo hget
                rcases Nat.lt_or_eq_of_le hin with hin | hin
                · obtain ⟨st1, nn, mm, k1, k2⟩ := copiesB (T := 26) (st := st.set o (.cells cs1)) (tok := tok) (cp := cp) (x := x) hT (wf_set hi.wfo) hA hD hin hroom (by rw [hget1, hcs1]) hgA hgD hgx
                  obtain ⟨fr', r1, r2⟩ := insB55 (E := E) (call := call) 1 o i n c (st.set o (.cells cs1)) tok cp x fr hfr f0 f1 f2 hin hroom (by rw [hL]; exact hT.size) (by rw [hL]; exact hT.el) (by rw [hL]; exact hT.un)
                    hb1' (by omega) hw (by simpa using (by omega : ¬ (i : Int) = n)) (by simp only [decide_eq_false_iff_not]; omega) rfl hw1 (hwi (by omega))
                    (by simp only [bounds]; rw [show bnd none (n + 1) c = some (n + 1) from rfl]; simp only [bnd_lo (i + 1) (n + 1) (by omega)]) (by omega)
                    (by simp only [bounds]; rw [show bnd none (n + 1) c = some (n + 1) from rfl]; simp only [bnd_lo i (n + 1) (by omega)])
                    (by
                      have : bnd (some (.int .i64 ((n : Int) + 1))) n c = some (n + 1) := by
                        simp only [bnd]; rw [if_pos ⟨by omega, by omega⟩]; congr 1
                      simp only [bounds, this]; rw [show bnd none 0 (n + 1) = some 0 from rfl]) (by omega) (by omega) (by omega)
                    (hcov _ _ _ _ _ hget1) st1 _ nn mm (by rw [hL]; exact k1) (by rw [hL]; exact k2)
                  have hpost := fin _ _ _ fr' hi1 r1 r2
                  rw [set_set] at hpost
                  exact finB hpost
                · subst hin
                  have hDn : D = [] := List.eq_nil_of_length_eq_zero (by omega)
                  have hk := endG (T := 26) (st := st.set o (.cells cs1)) (tok := tok) (cp := cp) (x := x) hT hA hgA hgx hroom (by rw [hget1, hcs1, hDn, List.append_nil])
                  obtain ⟨fr', r1, r2⟩ := insG55 (E := E) (call := call) 1 o i c (st.set o (.cells cs1)) tok cp x fr hfr f0 f1 f2 (by rw [hL]; exact hT.size) (by rw [hL]; exact hT.el) (by rw [hL]; exact hT.un)
                    hb1' (by omega) (by simp) rfl _ _ (by rw [hL]; exact hk)
                  have hpost := fin _ _ _ fr' hi1 r1 r2
                  rw [set_set, show A ++ [x] = A ++ x :: D by rw [hDn]] at hpost
                  exact finB hpost
              · -- in new memory
                have hcn : c = n := by omega
                subst hcn
                rcases Nat.lt_or_eq_of_le hin with hin | hin
                · obtain ⟨st0, st1, nn, mm, k0, k1, k2⟩ := copiesA (T := 26) (st := st) (tok := tok) (cp := cp) (x := x) hT hi.wfo (o := o) (by unfold Store.getCells; rw [hget, hAD, hfl]) ho hA hD hin hgA hgD hgx hb1 hb2
                  obtain ⟨fr', r1, r2⟩ := insA55 (E := E) (call := call) 1 o st.nobj i c c st tok cp x fr hfr f0 f1 f2 hin (by rw [hL]; exact hT.size) (by rw [hL]; exact hT.el) (by rw [hL]; exact hT.un)
                    hb1' (by omega) hw (by simpa using (by omega : ¬ (i : Int) = c)) (by simp only [decide_eq_true_eq]; omega) rfl hw1 (hwi (by omega)) (by rw [show (c : Int) + 1 - (i : Int) = ((c + 1 - i : Nat) : Int) by omega]; exact wr _ (by omega))
                    (by simp only [bounds]; rw [show bnd none (c + 1) (c + 1) = some (c + 1) from rfl]; simp only [bnd_lo (i + 1) (c + 1) (by omega)])
                    (by simp only [bounds]; rw [show bnd none (c + 1) (c + 1) = some (c + 1) from rfl]; simp only [bnd_lo i (c + 1) (by omega)])
                    (by
                      have : bnd (some (.int .i64 (i : Int))) c c = some i := by
                        simp only [bnd]; rw [if_pos ⟨by omega, by omega⟩]; simp
                      simp only [bounds, this]; rw [show bnd none 0 i = some 0 from rfl]) (by omega) (by omega) (by omega) (by omega) (by omega)
                    st0 st1 _ nn mm (by rw [hL]; exact k0) (by rw [hL]; exact k1) (by rw [hL]; exact k2)
                  exact finA (fin _ _ _ fr' hi r1 r2)
                · subst hin
                  have hDn : D = [] := List.eq_nil_of_length_eq_zero (by omega)
                  have hk := endE (T := 26) (st := st) (o := o) (tok := tok) (cp := cp) (x := x) hT hA hgA (by unfold Store.getCells; rw [hget, ← hfl, ← hAD, hDn, List.append_nil]) hb1 hb2
                  obtain ⟨fr', r1, r2⟩ := insE55 (E := E) (call := call) 1 o st.nobj i st tok cp x fr hfr f0 f1 f2 (by rw [hL]; exact hT.size) (by rw [hL]; exact hT.el) (by rw [hL]; exact hT.un)
                    hb1' (by simp) rfl _ _ (by rw [hL]; exact hk)
                  have hpost := fin _ _ _ fr' hi r1 r2
                  rw [show A ++ [x] = A ++ x :: D by rw [hDn]] at hpost
                  exact finA hpost
        · cases h
      · cases h
    · cases h
  · cases h

end Go.Sim
