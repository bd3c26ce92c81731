/- What operations answer: append, copy, the built-in functions. -/
import Derived.Test.YtnplidplamoejaaGreatDoorSimP
set_option linter.unusedVariables false
set_option linter.unusedSimpArgs false
set_option linter.unnecessarySimpa false
namespace Go.Sim
open Go.WideShapes (add_plain)

section
variable {P : Program} {g : Gh} {B : Nat → Nat} {st st' : Store} {w : World} {out : Out}

theorem new_cells {sz len n G : Nat} {olds vs : List Value} {zv : Value} (ho : olds.length = len * sz) (hv : vs.length = n * sz) (hz : zv.cells.size = sz) (hs : 0 < sz) (hG : len + n ≤ G) :
    (olds.toArray ++ vs.toArray ++ Builtin.zeroCells zv.cells (G - (len + n))).toList = (olds ++ vs) ++ (List.replicate (G - (len + n)) zv.cells.toList).flatten ∧
    (olds.toArray ++ vs.toArray ++ Builtin.zeroCells zv.cells (G - (len + n))).size = G * sz := by
  have hzeros := zeros_eq zv.cells (G - (len + n)) (by omega)
  have e1 : (Builtin.zeroCells zv.cells (G - (len + n))).toList = (List.replicate (G - (len + n)) zv.cells.toList).flatten := hzeros
  have e2 : (olds.toArray ++ vs.toArray ++ Builtin.zeroCells zv.cells (G - (len + n))).toList = (olds ++ vs) ++ (List.replicate (G - (len + n)) zv.cells.toList).flatten := by
    rw [Array.toList_append, e1]
    simp
  refine ⟨e2, ?_⟩
  rw [← Array.length_toList, e2]
  simp only [List.length_append, List.length_flatten, List.map_replicate, List.sum_replicate_nat, Array.length_toList, ho, hv, hz]
  rw [← Nat.add_mul, ← Nat.add_mul, show len + n + (G - (len + n)) = G by omega]
/-- append's answer -/
def AppOk (P : Program) (g : Gh) (st' : Store) (w : World) (x' : AV) (s : Sem Value) : Prop := ∃ v w', s.run P w = .ok v w' ∧ ∃ g', Adv g w g' w' ∧ Inv g' st' w' ∧ Rep g' v x'

structure AppIn (P : Program) (ts : Array TypeId) (t t1 e sz by_ : Nat) (i : TypeInfo) (zv : Value) : Prop where
  h0 : ts[0]? = some t
  h1 : ts[1]? = some t1
  ht : P.underlying t = some (.slice e)
  hi : P.info? e = some i
  his : i.size = sz
  hby : i.bytes = by_
  hzv : i.zero = some zv
  hzs : zv.cells.size = sz
  hz : 0 < sz
  hone : AllOne zv.cells.toList
theorem AppIn.hsz {ts : Array TypeId} {t t1 e sz by_ : Nat} {i : TypeInfo} {zv : Value} (h : AppIn P ts t t1 e sz by_ i zv) : sizeT P e = some sz := by show (match P.info? e with | some i => some i.size | none => none) = some sz; rw [h.hi]; simp [h.his]
/-- into new memory -/
theorem app_fresh {ts : Array TypeId} {t t1 e sz by_ ty : Nat} {i : TypeInfo} {zv : Value} (A : AppIn P ts t t1 e sz by_ i zv) (hi : Inv g st w) {x : Value} {new olds : List AV} {md : Nat} {us vs : List Value} {x' : AV} (hs : AppSrc P w t1 e sz x new.length us) (hr : RepE g sz us new) {len cap : Nat} {base : Option Addr}
    (hvr : RepE g sz vs olds) (hol : olds.length = len) (ho : ∀ w' : World, w'.heap = w.heap → (Builtin.firstCells sz len (.slice base len cap)).run P w' = .ok vs.toArray w') (hc : cap < len + new.length) (h : freshV md sz by_ e (olds ++ new) st = some (x', st')) :
    AppOk P g st' w x' (Builtin.append_ ts ty #[.slice base len cap, x]) := by
  have hg : (olds ++ new).length * by_ ≤ maxBytes ∧ (olds ++ new).length ≤ maxBytes ∧ 0 < sz := by
    unfold freshV at h
    split at h
    · assumption
    · cases h
  have hlen : (olds ++ new).length = len + new.length := by simp [hol]
  rw [hlen] at hg
  have hrun := app_new (ty := ty) A.h0 A.h1 A.ht A.hi A.his A.hzv A.hz hs base len cap vs ho hc (by rw [A.hby]; exact hg.1) hg.2.1
  have hG := grownCap_ge w (len + new.length) cap e
  obtain ⟨c1, c2⟩ := new_cells (by rw [hvr.length, hol]) hr.length A.hzs A.hz hG
  obtain ⟨g', a1, a2, a3⟩ := freshV_ok h hi.drew c1 (hvr.append hr) c2 (by rw [hlen]; exact hG) (fun v hv => by
    obtain ⟨l, h1, h2⟩ := List.mem_flatten.1 hv
    rw [(List.mem_replicate.1 h1).2] at h2
    exact A.hone v h2)
  rw [hlen] at a3
  exact ⟨_, _, hrun, g', (Adv.drew g w (w.drawn + 1)).trans a1, a2, a3⟩
theorem firstCells_imm (hi : Inv g st w) {b o n c sz : Nat} {vs : List Value} (hv : Imm g b o vs) (hl : vs.length = n * sz) (w' : World) (hw : w'.heap = w.heap) : (Builtin.firstCells sz n (.slice (some ⟨b, o, none⟩) n c)).run P w' = .ok vs.toArray w' := by
  refine run_firstCells_some w' sz n ⟨b, o, none⟩ n c vs hl (fun j v hj => ?_)
  have := hv.cell hi j v hj
  simp only [add_plain]
  simpa [World.cell?, hw] using this
theorem appendRow_ok {ts : Array TypeId} {t t1 e sz by_ ty : Nat} {i : TypeInfo} {zv : Value} (A : AppIn P ts t t1 e sz by_ i zv) (hi : Inv g st w) {x : Value} {new xs : List AV} {md : Nat} {us : List Value} {x' : AV} {tok : Option (Nat × Nat)} {cap : Option Nat} {b o n c : Nat} (hs : AppSrc P w t1 e sz x new.length us) (hr : RepE g sz us new) (hne : 0 < new.length)
    (hx : Rep g (.slice (some ⟨b, o, none⟩) n c) (.row sz tok cap xs)) (h : appendRow md sz by_ e tok cap xs new st = some (x', st')) :
    AppOk P g st' w x' (Builtin.append_ ts ty #[.slice (some ⟨b, o, none⟩) n c, x]) := by
  cases hx with
  | row b o n c sz tok cap xs vs hv he hn hc hz hcap ht =>
    have hvl : vs.length = n * sz := by rw [he.length, hn]
    have growIn : ∀ (hle : n + new.length ≤ c) (hg : growV sz e tok cap xs new st = some (x', st')), AppOk P g st' w x' (Builtin.append_ ts ty #[.slice (some ⟨b, o, none⟩) n c, x]) := by
      intro hle hg
      unfold growV at hg
      split at hg
      · rename_i tk off
        split at hg
        · rename_i htop
          simp only [Option.some.injEq, Prod.mk.injEq] at hg
          obtain ⟨rfl, rfl⟩ := hg
          rw [hn] at htop
          obtain ⟨w', g', k1, k2, k3, k4⟩ := growIn_ok (P := P) hi hv he hn hz hcap (ht _ _ rfl) htop hr rfl hne hle
          have hrun := app_in (ty := ty) A.h0 A.h1 A.ht A.hsz hz hs (some ⟨b, o, none⟩) n c hle
          simp only [add_plain, k1, Result.andThen_ok] at hrun
          exact ⟨_, w', hrun, g', k2, by rw [hn]; exact k3, k4⟩
        · cases hg
      · cases hg
    unfold appendRow at h
    split at h
    · rename_i c'
      have := hcap _ rfl; subst this
      rw [hn] at h
      split at h
      · rename_i hlt
        exact app_fresh A hi hs hr he hn (fun w' hw => firstCells_imm hi hv hvl w' hw) hlt h
      · exact growIn (by omega) h
    · split at h
      · rename_i hcond
        rw [hn] at hcond
        by_cases hle : n + new.length ≤ c
        · exact growIn hle h
        · unfold growV at h
          split at h
          · rename_i tk off
            split at h
            · rename_i htop
              simp only [Option.some.injEq, Prod.mk.injEq] at h
              obtain ⟨rfl, rfl⟩ := h
              rw [hn] at htop ⊢
              have hrun := app_new (ty := ty) A.h0 A.h1 A.ht A.hi A.his A.hzv A.hz hs (some ⟨b, o, none⟩) n c vs (fun w' hw => firstCells_imm hi hv hvl w' hw) (by omega) (by rw [A.hby]; exact hcond.1) hcond.2
              have hG := grownCap_ge w (n + new.length) c e
              obtain ⟨c1, c2⟩ := new_cells hvl hr.length A.hzs A.hz hG
              obtain ⟨g', a1, a2, a3⟩ := growNew_ok hi.drew e hz htop c1 (he.append hr) (by simp [hn]) c2 hG
              exact ⟨_, _, hrun, g', (Adv.drew g w (w.drawn + 1)).trans a1, a2, a3⟩
            · cases h
          · cases h
      · cases h
theorem appendArr_ok {ts : Array TypeId} {t t1 e sz by_ ty : Nat} {i : TypeInfo} {zv : Value} (A : AppIn P ts t t1 e sz by_ i zv) (hi : Inv g st w) {x : Value} {new xs : List AV} {md : Nat} {us : List Value} {x' : AV} {cap : Option Nat} {b off o len c : Nat} (hs : AppSrc P w t1 e sz x new.length us) (hr : RepE g sz us new) (hne : 0 < new.length)
    (hx : Rep g (.slice (some ⟨b, off, none⟩) len c) (.arr sz o off len cap)) (hrd : readRow P e st (.arr sz o off len cap) = some xs) (h : appendArr md sz by_ e o off len cap xs new st = some (x', st')) :
    AppOk P g st' w x' (Builtin.append_ ts ty #[.slice (some ⟨b, off, none⟩) len c, x]) := by
  cases hx with
  | arr b off o len c sz cap hl hc hz hcap =>
    obtain ⟨hsz, a, tot, cs, hg, h7, hb, hn, c2, e2, fr, vs, rest, h1, h2, h3, h4, h5, h6, q⟩ := readRow_arr hrd hl hi
    obtain ⟨f1, f2, f3⟩ := hr.flat'
    have hlv := h3.length
    have hfirst : ∀ w' : World, w'.heap = w.heap → (Builtin.firstCells sz len (.slice (some ⟨b, off, none⟩) len c)).run P w' = .ok ((vs.drop off).take (len * sz)).toArray w' := by
      intro w' hw
      refine run_firstCells_some w' sz len ⟨b, off, none⟩ len c _ (by rw [q.length, a]) (fun j u hj => ?_)
      have hj' : vs[off + j]? = some u := by
        rw [List.getElem?_take] at hj
        split at hj
        · rwa [List.getElem?_drop] at hj
        · cases hj
      have : c2.toList[off + j]? = some u := by rw [h2, List.getElem?_append_left (List.getElem?_eq_some_iff.1 hj').1]; exact hj'
      simp only [add_plain]
      simp [World.cell?, hw, h1]
      simpa using this
    unfold appendArr at h
    split at h
    · rename_i c'
      have := hcap _ rfl; subst this
      split at h
      · rename_i hlt
        exact app_fresh A hi hs hr q a hfirst hlt h
      · rename_i hlt
        rw [hg] at h
        simp only at h
        split at h
        · rename_i cs' hsp
          simp only [Option.some.injEq, Prod.mk.injEq] at h
          obtain ⟨rfl, rfl⟩ := h
          obtain ⟨h8, rfl⟩ := splice_some hsp
          have hfl := f1.length
          have hrl : us.length = new.length * sz := f3
          have hle : len + new.length ≤ c' := by omega
          have hcs : c2.size = (vs ++ rest).length := by rw [← Array.length_toList, h2]
          simp only [List.length_append] at hcs
          obtain ⟨w', c3, k1, k2, k3⟩ := store_run (P := P) b (off + len * sz) e2 fr us 0 w c2 h1 (by omega) f2 (fun i _ hi' => h5 i (Nat.zero_le _) hi')
          simp only [Nat.add_zero] at k3
          have hnew : c3.toList = (vs.take (off + len * sz) ++ us ++ vs.drop (off + len * sz + (flat new).length)) ++ rest := by
            rw [k3, h2, hfl]
            rw [List.take_append, List.drop_append, show off + len * sz - vs.length = 0 by omega, show off + len * sz + (flat new).length - vs.length = 0 by omega]
            simp [List.append_assoc]
          have hc3 : c3.size = c2.size := by
            rw [← Array.length_toList, k3, ← Array.length_toList]
            simp only [List.length_append, List.length_take, List.length_drop, Array.length_toList]
            omega
          obtain ⟨i1, a1⟩ := hi.writeCells (ys := cs.take (off + len * sz) ++ flat new ++ cs.drop (off + len * sz + (flat new).length)) hb hg h1 k2 hnew
            (((h3.take _).append f1).append (h3.drop _)) (((h4.take _).append f2).append (h4.drop _)) (hi.allRest hb hg h1 h2) (fun i _ hi' => h5 i (Nat.zero_le _) (by omega)) (by omega)
          have hrun := app_in (ty := ty) A.h0 A.h1 A.ht A.hsz hz hs (some ⟨b, off, none⟩) len c' hle
          simp only [add_plain, k1, Result.andThen_ok] at hrun
          exact ⟨_, w', hrun, g, a1, i1, .arr _ _ _ _ _ _ _ hl hle hz (fun m hm => by injection hm with hm; exact hm.symm)⟩
        · cases h
    · split at h
      rotate_left
      · cases h
      rename_i cs1 hget
      have hg' : st.getCells o = some cs1 := by unfold Store.getCells; rw [hget]
      rw [hg] at hg'; injection hg' with hg'; subst hg'
      have hfr : fr.2 ≤ fr.1 := by
        obtain ⟨y, y1, y2⟩ := hi.obj b o tot hb
        rw [hget] at y1; injection y1 with y1; subst y1
        obtain ⟨_, _, _, _, _, z1, _, _, _, z5, _⟩ := y2
        rw [h1] at z1; injection z1 with z1; injection z1 with _ _ z1; subst z1
        exact z5
      split at h
      · rename_i hcond
        obtain ⟨rfl, hcl⟩ := hcond
        have hd := hi.die hb
        have hb1 : (g.drop b o).blk b = none := Gh.drop_same
        have hle1 : Le g (g.drop b o) := Le.drop hb
        have advd : Adv g w (g.drop b o) w := ⟨hle1, Nat.le_refl _, fun b' _ hn' => ⟨rfl, by
          have : b' ≠ b := by rintro rfl; rw [hb] at hn'; cases hn'
          rw [Gh.drop_other this]; exact hn'⟩, fun _ _ _ => rfl, rfl, rfl, rfl⟩
        by_cases hle : len + new.length ≤ c
        · have hgood : (xs ++ new).length * by_ ≤ maxBytes ∧ (xs ++ new).length ≤ maxBytes ∧ 0 < sz := by
            unfold freshV at h
            split at h
            · assumption
            · cases h
          unfold freshV at h
          rw [if_pos hgood] at h
          simp only [if_true, Option.some.injEq, Prod.mk.injEq] at h
          obtain ⟨rfl, rfl⟩ := h
          have hmc : (len + new.length) * sz ≤ c * sz := Nat.mul_le_mul_right _ hle
          rw [Nat.add_mul] at hmc
          have hcs : c2.size = (vs ++ rest).length := by rw [← Array.length_toList, h2]
          simp only [List.length_append] at hcs
          obtain ⟨w', c3, k1, k2, k3⟩ := store_run (P := P) b (0 + len * sz) e2 fr us 0 w c2 h1 (by omega) f2 (fun i _ hi' => h5 i (Nat.zero_le _) hi')
          simp only [Nat.add_zero, Nat.zero_add] at k3
          have hvl : vs.length = len * sz := by omega
          have hnew : c3.toList = (vs ++ us) ++ rest.drop us.length := by
            rw [k3, h2, List.take_append_of_le_length (by omega), List.take_of_length_le (by omega), List.drop_append, List.drop_of_length_le (by omega), show len * sz + us.length - vs.length = us.length by omega]
            simp
          have hc3 : c3.size = c2.size := by
            rw [← Array.length_toList, k3, ← Array.length_toList]
            simp only [List.length_append, List.length_take, List.length_drop, Array.length_toList]
            omega
          have hd' : Inv (g.drop b o) (st.set o .dead) w' := hd.same fun b' hb' => k2.other b' (by rintro rfl; exact hb' hb1)
          have hle2 : Le (g.drop b o) ((g.drop b o).upd b (.obj (st.set o .dead).nobj c3.size)) := Le.upd_new _ _ hb1
          have hlx : Le g ((g.drop b o).upd b (.obj (st.set o .dead).nobj c3.size)) := hle1.trans hle2
          have hflat : flat (xs ++ new) = flat xs ++ flat new := by simp [flat]
          have q1 : Reps g vs (flat xs) := by
            have := q.flat'.1
            rwa [List.drop_zero, List.take_of_length_le (by omega)] at this
          have hi2 := hd'.adopt (b := b) (tot := c3.size) hb1 (.cells (flat (xs ++ new))) ⟨c3, e2, fr, vs ++ us, _, k2.here, hnew, by rw [hflat]; exact (q1.mono hlx).append (f1.mono hlx), (by rw [hnew]; exact (h4.append f2).append ((hi.allRest hb hg h1 h2).drop _)), hfr, rfl⟩
          have hrun := app_in (ty := ty) A.h0 A.h1 A.ht A.hsz hz hs (some ⟨b, 0, none⟩) len c hle
          simp only [add_plain, k1, Result.andThen_ok] at hrun
          have hla : (xs ++ new).length = len + new.length := by simp [a]
          refine ⟨_, w', hrun, _, ?_, hi2, ?_⟩
          · refine ⟨hlx, Nat.le_of_eq k2.size.symm, fun b' _ hn' => ?_, fun b' cs' hb' => k2.other b' (by rintro rfl; rw [hb] at hb'; cases hb'), k2.os, k2.tape, k2.output⟩
            have : b' ≠ b := by rintro rfl; rw [hb] at hn'; cases hn'
            exact ⟨k2.other b' this, by rw [Gh.upd_other _ _ this, Gh.drop_other this]; exact hn'⟩
          · rw [hla]
            exact .arr _ _ _ _ _ _ _ (.inr ⟨_, Gh.upd_same _ _ _, by omega⟩) hle hz (fun m hm => by cases hm)
        · obtain ⟨v, w', r1, g', r2, r3, r4⟩ := app_fresh (ty := ty) A hd hs (hr.mono hle1) (q.mono hle1) a hfirst (by omega) h
          exact ⟨v, w', r1, g', advd.trans r2, r3, r4⟩
      · cases h
end
end Go.Sim
