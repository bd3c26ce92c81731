/- What operations answer: parts, places, indices, lengths. -/
import Derived.Test.YtnplidplamoejaaGreatDoorSimI
set_option linter.unusedVariables false
set_option linter.unusedSimpArgs false
set_option linter.unnecessarySimpa false
namespace Go.Sim
open Go.WideShapes (add_plain)

section
variable {P : Program} {g : Gh} {B : Nat → Nat} {st st' : Store} {w : World} {out : Out}

theorem fieldsT_some {s f off ft : Nat} (h : fieldsT P s f = some (off, ft)) : ∃ fs x, P.underlying s = some (.struct fs) ∧ fs[f]? = some x ∧ x.offset = off ∧ x.type = ft := by
  unfold fieldsT at h
  split at h
  · rename_i fs hu
    split at h
    · rename_i x hx
      simp only [Option.some.injEq, Prod.mk.injEq] at h
      exact ⟨fs, x, hu, hx, h.1, h.2⟩
    · cases h
  · cases h
theorem partV_ok {t off : Nat} {cs : List AV} {c : Array Value} (h : partV P t cs off st = some (out, st')) (hr : Reps g c.toList cs) (h1 : AllOne c.toList) (hi : Inv g st w) : ValOk g B P st' w out (part t c off) := by
  unfold partV at h
  split at h
  · rename_i sz hsz
    split at h
    · rename_i d hd
      split at h
      · rename_i v hv
        simp only [Option.some.injEq, Prod.mk.injEq] at h
        obtain ⟨rfl, rfl⟩ := h
        obtain ⟨hl, rfl⟩ := cut_some hd
        have hlen := hr.length
        simp at hlen
        refine RunsTo.ok hi ?_
        rcases mkT_some hv with ⟨ha, rfl⟩ | ⟨ha, he⟩
        · refine .mk (v := .agg (c.extract off (off + sz))) (by simp [part, run_isAgg ha, run_sizeOf hsz]) (.agg _ _ ?_ ?_)
          · rw [Array.toList_extract]
            exact fun v hv => h1 v (by
              rw [List.extract_eq_take_drop] at hv
              exact List.mem_of_mem_drop (List.mem_of_mem_take hv))
          · rw [Array.toList_extract, List.extract_eq_take_drop]
            simpa using (hr.drop off).take sz
        · have h2 := (hr.drop off).take sz
          rw [he] at h2
          match hq : (c.toList.drop off).take sz, h2 with
          | [u], .cons _ _ _ _ hu .nil =>
            have h3 : c[off]? = some u := by
              have : ((c.toList.drop off).take sz)[0]? = some u := by rw [hq]; rfl
              rw [List.getElem?_take] at this
              split at this
              · rw [List.getElem?_drop] at this; simpa using this
              · cases this
            exact .mk (v := u) (by simp [part, run_isAgg ha, h3]) hu
      · cases h
    · cases h
  · cases h
theorem aField_ok {s f : Nat} {ins : List In} {a : Value} (h : aField P s f ins st = some (out, st')) (hin : InsRel g B w ins [a]) (hi : Inv g st w) : ValOk g B P st' w out (Instr.field s a f) := by
  match ins, hin with
  | [.val x], .cons _ _ _ _ hx .nil =>
    cases hx with
    | agg cs xs h1 hs =>
      simp only [aField] at h
      split at h
      · rename_i off ft hf
        obtain ⟨fs, y, hu, hy, rfl, rfl⟩ := fieldsT_some hf
        obtain ⟨v, w', hrun, ho⟩ := partV_ok (B := B) h hs h1 hi
        exact ⟨v, w', by simp [Instr.field, underlying, show P.underlying _ = _ from hu, hy, asAgg, hrun], ho⟩
      · cases h
    | _ => simp [aField] at h
  | [.loc ..], _ => simp [aField] at h
/-- A place n cells further on. -/
theorem addrBy_ok {n : Nat} {x : In} {a : Value} (h : addrBy n st x = some (out, st')) (hx : InRel g B w x a) (hi : Inv g st w) :
    ∃ b o, a = .pointer (some ⟨b, o, none⟩) ∧ OutOk g B st' w out (.pointer (some ⟨b, o + n, none⟩)) w := by
  match x with
  | .val y =>
    cases hx with
    | ptr b off o hl =>
      simp only [addrBy, Option.some.injEq, Prod.mk.injEq] at h
      obtain ⟨rfl, rfl⟩ := h
      exact ⟨b, off, rfl, OutOk.pure hi (.ptr b (off + n) o hl)⟩
    | rptr b o vs cs hm h1 hr =>
      simp only [addrBy, Option.some.injEq, Prod.mk.injEq] at h
      obtain ⟨rfl, rfl⟩ := h
      exact ⟨b, o, rfl, OutOk.pure hi (.rptr b (o + n) _ _ (hm.drop n) (h1.drop n) (hr.drop n))⟩
    | _ => simp [addrBy] at h
  | .loc b off cs =>
    simp only [addrBy, Option.some.injEq, Prod.mk.injEq] at h
    obtain ⟨rfl, rfl⟩ := h
    exact ⟨B b, off, hx.1, rfl, rfl, hi⟩
theorem aFieldAddr_ok {s f : Nat} {ins : List In} {a : Value} (h : aFieldAddr P s f ins st = some (out, st')) (hin : InsRel g B w ins [a]) (hi : Inv g st w) : ValOk g B P st' w out (Instr.fieldAt s a f) := by
  match ins, hin with
  | [x], .cons _ _ _ _ hx .nil =>
    simp only [aFieldAddr] at h
    split at h
    · rename_i off ft hf
      obtain ⟨fs, y, hu, hy, rfl, rfl⟩ := fieldsT_some hf
      split at h
      · rename_i sz hsz
        split at h
        · rename_i hz
          obtain ⟨b, o, rfl, ho⟩ := addrBy_ok h hx hi
          refine ⟨_, w, ?_, ho⟩
          have : sz ≠ 0 := by omega
          simp [Instr.fieldAt, underlying, show P.underlying _ = _ from hu, hy, Instr.sureAddr, fieldPlace, run_sizeOf hsz, this, add_plain]
        · cases h
      · cases h
    · cases h
theorem idx_some {i : AV} {n j : Nat} (h : idx i n = some j) : ∃ k m, i = .int k m ∧ 0 ≤ m ∧ m < n ∧ m.toNat = j := by
  unfold idx at h
  split at h
  · rename_i k m
    split at h
    · rename_i hc
      injection h with h
      exact ⟨k, m, rfl, hc.1, hc.2, h⟩
    · cases h
  · cases h
theorem elemT_some {t e : Nat} (h : elemT P t = some e) : P.underlying t = some (.slice e) := by
  unfold elemT at h
  split at h
  · injection h with h; subst h; assumption
  · cases h
theorem aIndexAddr_ok {t : Nat} {ins : List In} {a b : Value} (h : aIndexAddr P t ins st = some (out, st')) (hin : InsRel g B w ins [a, b]) (hi : Inv g st w) : ValOk g B P st' w out (Instr.indexAt t a b) := by
  match ins, hin with
  | [x, .val i], .cons _ _ _ _ hx (.cons _ _ _ _ hj .nil) =>
    simp only [aIndexAddr] at h
    split at h
    · rename_i e hu
      split at h
      · rename_i sz hsz
        match x with
        | .val y =>
          cases hx with
          | row b o n c s tok cap xs vs hm he hn hc hz hcap ht =>
            simp only [elemAddr] at h
            split at h
            · rename_i hs
              subst hs
              split at h
              · rename_i j hij
                split at h
                · rename_i z hz'
                  simp only [Option.some.injEq, Prod.mk.injEq] at h
                  obtain ⟨rfl, rfl⟩ := h
                  obtain ⟨k, m, rfl, h0, h1, rfl⟩ := idx_some hij
                  cases hj
                  obtain ⟨q1, q2⟩ := he.get _ _ hz'
                  refine RunsTo.ok hi (.mk (v := .pointer (some ⟨b, o + m.toNat * s, none⟩)) ?_ (.rptr _ _ _ _ (hm.sub _ _) ?_ q1))
                  · have : m < (n : Int) := by rw [← hn]; exact h1
                    replace hu : P.underlying _ = _ := hu
                    simp [Instr.indexAt, asIntOf, underlying, show P.underlying _ = _ from hu, h0, this, run_sizeOf hsz, add_plain]
                  · exact (((he.flat').2.1).drop _).take _
                · cases h
              · cases h
            · cases h
          | arr b off o len c s cap hl hc hz hcap =>
            simp only [elemAddr] at h
            split at h
            · rename_i hs
              subst hs
              split at h
              · rename_i j hij
                simp only [Option.some.injEq, Prod.mk.injEq] at h
                obtain ⟨rfl, rfl⟩ := h
                obtain ⟨k, m, rfl, h0, h1, rfl⟩ := idx_some hij
                cases hj
                refine RunsTo.ok hi (.mk (v := .pointer (some ⟨b, off + m.toNat * s, none⟩)) ?_ (.ptr _ _ _ hl.live))
                simp [Instr.indexAt, asIntOf, underlying, show P.underlying _ = _ from hu, h0, h1, run_sizeOf hsz, add_plain]
              · cases h
            · cases h
          | _ => simp [elemAddr] at h
        | .loc b off cs => simp [elemAddr] at h
      · cases h
    · rename_i n e hu
      split at h
      · rename_i sz hsz
        split at h
        · rename_i j hij
          obtain ⟨k, m, rfl, h0, h1, rfl⟩ := idx_some hij
          cases hj
          obtain ⟨b, o, rfl, ho⟩ := addrBy_ok h hx hi
          refine ⟨_, w, ?_, ho⟩
          simp [Instr.indexAt, asIntOf, underlying, show P.underlying _ = _ from hu, Instr.sureAddr, h0, h1, run_sizeOf hsz, add_plain]
        · cases h
      · cases h
    · cases h
  | [_, .loc ..], _ => simp [aIndexAddr] at h
theorem aIndex_ok {t : Nat} {ins : List In} {a b : Value} (h : aIndex P t ins st = some (out, st')) (hin : InsRel g B w ins [a, b]) (hi : Inv g st w) : ValOk g B P st' w out (Instr.index t a b) := by
  match ins, hin with
  | [.val x, .val i], .cons _ _ _ _ hx (.cons _ _ _ _ hj .nil) =>
    simp only [aIndex] at h
    split at h
    · rename_i hu
      cases hx with
      | str s =>
        simp only [indexS] at h
        split at h
        · rename_i j hij
          split at h
          · rename_i c hc
            simp only [Option.some.injEq, Prod.mk.injEq] at h
            obtain ⟨rfl, rfl⟩ := h
            obtain ⟨k, m, rfl, h0, h1, rfl⟩ := idx_some hij
            cases hj
            refine RunsTo.ok hi (.mk (v := .int .u8 c.toNat) ?_ (.int _ _))
            have h2 : s[m.toNat]? = some c := by
              obtain ⟨hlt, hg⟩ := List.getElem?_eq_some_iff.1 hc
              have hlt' : m.toNat < s.size := hlt
              rw [getElem?_pos s m.toNat hlt']
              exact congrArg some hg
            simp [Instr.index, asIntOf, underlying, show P.underlying _ = _ from hu, h0, h2]
          · cases h
        · cases h
      | _ => simp [indexS] at h
    · rename_i n e hu
      cases hx with
      | agg cs xs h1 hs =>
        simp only [indexC] at h
        split at h
        · rename_i sz hsz
          split at h
          · rename_i j hij
            obtain ⟨k, m, rfl, h0, h2, rfl⟩ := idx_some hij
            cases hj
            obtain ⟨v, w', hrun, ho⟩ := partV_ok (B := B) h hs h1 hi
            refine ⟨v, w', ?_, ho⟩
            simp [Instr.index, asIntOf, underlying, show P.underlying _ = _ from hu, h0, h2, run_sizeOf hsz, hrun]
          · cases h
        · cases h
      | _ => simp [indexC] at h
    · cases h
  | [.val _, .loc ..], _ => simp [aIndex] at h
  | [.loc .., _], _ => simp [aIndex] at h
theorem Reps.entries_length {a : List MapEntry} {b : List (AV × AV × Nat)} (h : EntsRep g a b) : a.length = b.length := by
  induction h with
  | nil => rfl
  | cons _ _ _ _ _ _ _ _ ih => simp [ih]
theorem getMap {o b clock : Nat} {es : List (AV × AV × Nat)} (hi : Inv g st w) (hl : Live g b o) (hg : st.get o = some (.map es clock)) : ∃ tot, g.blk b = some (.obj o tot) ∧ ∃ ces, w.heap[b]? = some (.map ces clock) ∧ EntsRep g ces.toList es := by
  rcases hl with hd | ⟨tot, hb, _⟩
  · rw [hi.dead o hd] at hg; cases hg
  · obtain ⟨x, h1, h2⟩ := hi.obj b o tot hb
    rw [hg] at h1; injection h1 with h1; subst h1
    exact ⟨tot, hb, h2⟩
theorem run_getObj {b : Nat} {x : Obj} (h : w.heap[b]? = some x) (hx : ∀ c e fr, x ≠ .cells c e fr) : (getObj b).run P w = .ok x w := by
  simp only [getObj, Sem.run, h]
theorem aLen_ok {ts : Array TypeId} {t ty : TypeId} {ins : List In} {a : Value} (ht : ts[0]? = some t) (h : aLen P t ins st = some (out, st')) (hin : InsRel g B w ins [a]) (hi : Inv g st w) : ValOk g B P st' w out (Builtin.len_ ts ty #[a]) := by
  match ins, hin with
  | [.val x], .cons _ _ _ _ hx .nil =>
    simp only [aLen] at h
    split at h
    · rename_i d hu
      split at h
      · rename_i n hn
        simp only [Option.some.injEq, Prod.mk.injEq] at h
        obtain ⟨rfl, rfl⟩ := h
        refine RunsTo.ok hi (.mk (v := .int .i64 n) ?_ (.int _ _))
        unfold lenV at hn
        split at hn
        · cases hx <;> simp at hn
          subst hn
          simp [Builtin.len_, ht, underlying, show P.underlying _ = _ from hu, goInt]
        · cases hx <;> simp at hn
          · subst hn; simp [Builtin.len_, ht, underlying, show P.underlying _ = _ from hu, goInt]
          · rename_i hxn _ _ _ _; subst hn; simp [Builtin.len_, ht, underlying, show P.underlying _ = _ from hu, goInt, hxn]
          · subst hn; simp [Builtin.len_, ht, underlying, show P.underlying _ = _ from hu, goInt]
        · cases hx <;> simp [entriesOf] at hn
          · subst hn; simp [Builtin.len_, ht, underlying, show P.underlying _ = _ from hu, goInt]
          · rename_i b o hl
            split at hn
            · rename_i es hes
              injection hn with hn; subst hn
              split at hes
              · rename_i es' clock hg
                injection hes with hes; subst hes
                obtain ⟨_, _, ces, h1, h2⟩ := getMap hi hl hg
                have := Reps.entries_length h2
                simp at this
                simp [Builtin.len_, ht, underlying, show P.underlying _ = _ from hu, goInt, run_getObj h1, this]
              · cases hes
            · cases hn
        · injection hn with hn; subst hn
          simp [Builtin.len_, ht, underlying, show P.underlying _ = _ from hu, goInt]
        · cases hn
      · cases h
    · cases h
  | [.loc ..], _ => simp [aLen] at h
theorem aCap_ok {ts : Array TypeId} {t ty : TypeId} {ins : List In} {a : Value} (ht : ts[0]? = some t) (h : aCap P t ins st = some (out, st')) (hin : InsRel g B w ins [a]) (hi : Inv g st w) : ValOk g B P st' w out (Builtin.cap_ ts ty #[a]) := by
  match ins, hin with
  | [.val x], .cons _ _ _ _ hx .nil =>
    simp only [aCap] at h
    split at h
    · rename_i e he
      have hu := elemT_some he
      split at h
      · rename_i n hn
        simp only [Option.some.injEq, Prod.mk.injEq] at h
        obtain ⟨rfl, rfl⟩ := h
        refine RunsTo.ok hi (.mk (v := .int .i64 n) ?_ (.int _ _))
        cases hx with
        | nils => simp [capV] at hn; subst hn; simp [Builtin.cap_, ht, underlying, show P.underlying _ = _ from hu, goInt]
        | row b o n' c s tok cap xs vs hm he hn' hc hz hcap _ => simp [capV] at hn; have := hcap n hn; subst this; simp [Builtin.cap_, ht, underlying, show P.underlying _ = _ from hu, goInt]
        | arr b off o len c sz cap hl hc hz hcap => simp [capV] at hn; have := hcap n hn; subst this; simp [Builtin.cap_, ht, underlying, show P.underlying _ = _ from hu, goInt]
        | _ => simp [capV] at hn
      · cases h
    · cases h
  | [.loc ..], _ => simp [aCap] at h
theorem aMin_ok {ts : Array TypeId} {ty : TypeId} {ins : List In} {a b : Value} (h : aMin ins st = some (out, st')) (hin : InsRel g B w ins [a, b]) (hi : Inv g st w) : ValOk g B P st' w out (Builtin.min_ ts ty #[a, b]) := by
  match ins, hin with
  | [.val x, .val y], .cons _ _ _ _ hx (.cons _ _ _ _ hy .nil) =>
    cases hx with
    | int k n =>
      cases hy with
      | int k' m =>
        simp only [aMin, Option.some.injEq, Prod.mk.injEq] at h
        obtain ⟨rfl, rfl⟩ := h
        exact RunsTo.ok hi (.mk (by simp [Builtin.min_, Builtin.min2]) (.int _ _))
      | _ => simp [aMin] at h
    | _ => simp [aMin] at h
  | [.val _, .loc ..], _ => simp [aMin] at h
  | [.loc .., _], _ => simp [aMin] at h
theorem aMax_ok {ts : Array TypeId} {ty : TypeId} {ins : List In} {a b : Value} (h : aMax ins st = some (out, st')) (hin : InsRel g B w ins [a, b]) (hi : Inv g st w) : ValOk g B P st' w out (Builtin.max_ ts ty #[a, b]) := by
  match ins, hin with
  | [.val x, .val y], .cons _ _ _ _ hx (.cons _ _ _ _ hy .nil) =>
    cases hx with
    | int k n =>
      cases hy with
      | int k' m =>
        simp only [aMax, Option.some.injEq, Prod.mk.injEq] at h
        obtain ⟨rfl, rfl⟩ := h
        exact RunsTo.ok hi (.mk (by simp [Builtin.max_, Builtin.max2]) (.int _ _))
      | _ => simp [aMax] at h
    | _ => simp [aMax] at h
  | [.val _, .loc ..], _ => simp [aMax] at h
  | [.loc .., _], _ => simp [aMax] at h
end
end Go.Sim
