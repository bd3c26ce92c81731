/- slices.Insert as a primitive: a frozen row comes of it. -/
import Derived.Test.YtnplidplamoejaaGreatDoorSimIns2
import Derived.Test.YtnplidplamoejaaGreatDoorSimPrim
set_option linter.unusedVariables false
set_option linter.unusedSimpArgs false
set_option linter.unnecessarySimpa false
namespace Go.Sim
open Go.Proofs

section
variable {g : Gh} {st : Store} {w : World}
theorem reps_junk (g : Gh) : ∀ vs : List Value, Reps g vs (List.replicate vs.length .junk)
  | [] => .nil
  | v :: vs => .cons _ _ _ _ (.junk v) (reps_junk g vs)
/-- More of an object's cells are told of: nothing is known of what they hold. -/
theorem Inv.extend (hi : Inv g st w) {b o n : Nat} {cs : List AV} (hl : LiveA g b o n) (hg : st.get o = some (.cells cs)) (hn : cs.length ≤ n) : Inv g (st.set o (.cells (cs ++ List.replicate (n - cs.length) .junk))) w := by
  rcases hl with hd | ⟨tot, hb, htot⟩
  · rw [hi.dead o hd] at hg; cases hg
  · obtain ⟨x, h1, h2⟩ := hi.obj b o tot hb
    rw [hg] at h1; injection h1 with h1; subst h1
    obtain ⟨c, e, fr, vs, rest, q1, q2, q3, q4, q5, q6⟩ := h2
    have hlen := q3.length
    have hsz : c.toList.length = tot := by simpa using q6
    have hr : rest.length = tot - cs.length := by rw [q2, List.length_append] at hsz; omega
    refine (hi.write hb (Upd.self q1) (.cells (cs ++ List.replicate (n - cs.length) .junk)) ⟨c, e, fr, vs ++ rest.take (n - cs.length), rest.drop (n - cs.length), q1, by rw [q2]; simp, q3.append ?_, q4, q5, q6⟩).1
    have := reps_junk g (rest.take (n - cs.length))
    rwa [List.length_take, Nat.min_eq_left (by omega)] at this
theorem Inv.newDead (hi : Inv g st w) : Inv g (st.new .dead) w := by
  refine ⟨wf_new hi.wfo, hi.wft, hi.row, hi.stat, fun b o tot hb => ?_, hi.inj, fun o hd => ?_⟩
  · obtain ⟨x, h1, h2⟩ := hi.obj b o tot hb
    exact ⟨x, by rw [Store.get_old _ (Store.get_lt h1)]; exact h1, h2⟩
  · have h1 := hi.dead o hd
    rw [Store.get_old _ (Store.get_lt h1)]; exact h1
theorem Adv.drop (hi : Inv g st w) {b o tot : Nat} (hb : g.blk b = some (.obj o tot)) : Adv g w (g.drop b o) w := ⟨Le.drop hb, Nat.le_refl _, fun b' _ hn' => ⟨rfl, by
  have : b' ≠ b := by rintro rfl; rw [hb] at hn'; cases hn'
  rw [Gh.drop_other this]; exact hn'⟩, fun _ _ _ => rfl, rfl, rfl, rfl⟩
end

/-- Two slices do not overlap: a row that is for good, and an object's cells. -/
def pOverlaps : List AV → Store → Option (AV × Store)
  | [.row _ _ _ _, .arr _ o _ _ _], st => (match st.get o with
    | some (.cells _) => some (.bool false, st)
    | _ => none)
  | _, _ => none
theorem frozen_cells {w : World} {b off : Nat} {c : Array Value} {e : TypeId} {fr : Nat × Nat} (h : w.heap[b]? = some (.cells c e fr)) (hf : fr.2 ≤ fr.1) : w.frozen? ⟨b, off, none⟩ = false := by
  simp [World.frozen?, h]
  omega
theorem overlaps_def (T : TypeId) (a b : Addr) (la ca lb cb : Nat) : Extern.SlicesOverlaps.overlaps #[T, T] #[] #[.slice (some a) la ca, .slice (some b) lb cb] = (do
    let .slice elem ← underlying T | stuck "slices.overlaps: slice type expected"
    let size ← sizeOf elem
    if la = 0 ∨ lb = 0 ∨ size = 0 then pure (.bool false)
    else if a.block != b.block && (← frozen a) && (← frozen b) then unsupported .addressObserved
    else do
      if a.block != b.block then do
        noView a; noView b
        if ← mayBeOne a b then return .bool ((← choose (.extern "sameAddr.stringBytes" 2)) == 1)
      pure (.bool (a.block == b.block && a.off < b.off + lb * size && b.off < a.off + la * size))) := rfl
theorem pOverlaps_ok {E : Env} {f : Nat} {fn : Func} {T e sz : Nat} (hf : E.P.funcs[f]? = some fn) (hb : fn.body = none) (hn : fn.name ≠ "runtime.NumGoroutine") (h1 : Extern.findNext fn = none) (h2 : Extern.find fn = some (Extern.SlicesOverlaps.overlaps #[T, T] #[])) (hT : E.P.underlying T = some (.slice e)) (hs : sizeT E.P e = some sz) : PrimOk E f pOverlaps := by
  intro args st v st' h g w vals hr hi hgl
  unfold pOverlaps at h
  split at h
  · rename_i s1 t1 c1 xs s2 o off len cap
    split at h
    · rename_i cs hg
      simp only [Option.some.injEq, Prod.mk.injEq] at h
      obtain ⟨rfl, rfl⟩ := h
      generalize hl : vals.toList = l at hr
      match l, hr with
      | [a, b'], .cons _ _ _ _ ha (.cons _ _ _ _ hb' .nil) =>
        have hv : vals = #[a, b'] := by rw [← hl]
        subst hv
        cases ha with
        | row b oo n c _ _ _ _ vs hv he hnn hcc hz hcap ht =>
          cases hb' with
          | arr b2 _ _ _ c2 _ _ hl2 hc2 hz2 hcap2 =>
            unfold FnApplies
            have hrun : (Extern.SlicesOverlaps.overlaps #[T, T] #[] #[.slice (some ⟨b, oo, none⟩) n c, .slice (some ⟨b2, off, none⟩) len c2]).run E.P w = .ok (.bool false) w := by
              obtain ⟨i, hi', his⟩ := sizeT_some hs
              rcases hl2 with hd | ⟨tot, hblk, htot⟩
              · rw [hi.dead o hd] at hg; cases hg
              · obtain ⟨x, k1, k2⟩ := hi.obj _ _ _ hblk
                rw [hg] at k1; injection k1 with k1; subst k1
                obtain ⟨ca, ea, fra, va, ra, q1, q2, q3, q4, q5, q6⟩ := k2
                by_cases hn0 : n = 0
                · subst hn0
                  rw [overlaps_def]; simp [underlying, hT, sizeOf, typeInfo, hi']
                · by_cases hl0 : len = 0
                  · subst hl0
                    rw [overlaps_def]; simp [underlying, hT, sizeOf, typeInfo, hi']
                  · have hvs : vs ≠ [] := by
                      rintro rfl
                      have := he.length
                      rw [List.length_nil, hnn] at this
                      rcases Nat.mul_eq_zero.1 this.symm with h | h
                      · exact hn0 h
                      · omega
                    rcases hv with hv | ⟨y, cs', hby, hy, hp⟩
                    · exact absurd hv hvs
                    · have hne : b ≠ b2 := by
                        rintro rfl
                        rw [hblk] at hby; injection hby with hby; subst hby; cases hy
                      have hlen : ∀ {l : List Value}, y.fixed = some l → 0 < l.length := by
                        intro l hy'
                        rw [hy] at hy'; injection hy' with hy'; subst hy'
                        have h1 := hp.length_le
                        rw [List.length_drop] at h1
                        have : 0 < vs.length := List.length_pos_iff.2 hvs
                        omega
                      have hsh : ∃ sa ca', w.shape? b = some (sa, ca' + 1) := by
                        cases y with
                        | row t s z nn c0 => obtain ⟨_, c3, e3, fr3, _, _, r1, r2, _⟩ := hi.row _ _ _ _ _ _ hby; have h3 : 0 < c0.length := hlen rfl; have h4 : c0.length ≤ c3.size := by { have := r2.length_le; simpa using this }; exact ⟨e3, c3.size - 1, by simp [World.shape?, r1]; omega⟩
                        | stat c0 => obtain ⟨c3, e3, fr3, r1, r2⟩ := hi.stat _ _ hby; have h3 : 0 < c0.length := hlen rfl; rw [← r2, Array.length_toList] at h3; exact ⟨e3, c3.size - 1, by simp [World.shape?, r1]; omega⟩
                        | obj _ _ => cases hy
                      obtain ⟨sa, ca', hsh⟩ := hsh
                      have hsh2 : w.shape? b2 = some (ea, ca.size) := by simp [World.shape?, q1]
                      have hfz : ∀ off', w.frozen? ⟨b2, off', none⟩ = false := fun off' => frozen_cells q1 q5
                      have hbb : (b == b2) = false := by simpa using hne
                      by_cases hsz0 : i.size = 0
                      · rw [overlaps_def]; simp [underlying, hT, sizeOf, typeInfo, hi', hsz0]
                      · rw [overlaps_def]; simp [underlying, hT, sizeOf, typeInfo, hi', hn0, hl0, hsz0, hbb, hne, hfz, noView, viewAt, hsh, hsh2, mayBeOne, stringish]
            rw [callFunc_extern hf hb hn h1 h2 _ w hrun]
            exact ⟨g, Adv.refl g w, hi, .bool _⟩
    · cases h
  · cases h
end Go.Sim
