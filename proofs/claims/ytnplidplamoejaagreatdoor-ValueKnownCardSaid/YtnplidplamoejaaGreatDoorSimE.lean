/- What operations answer: reading rows, freezing, loads, stores. -/
import Derived.Test.YtnplidplamoejaaGreatDoorSimD
set_option linter.unusedVariables false
set_option linter.unusedSimpArgs false
set_option linter.unnecessarySimpa false
namespace Go.Sim
open Go.WideShapes (add_plain)

section
variable {P : Program} {g : Gh} {st : Store} {w : World}

theorem Rep.notAgg {v : Value} {x : AV} (h : Rep g v x) (h1 : v.oneCell' = true) : ∀ ys, x ≠ .agg ys := by
  rintro ys rfl
  cases h
  simp [Value.oneCell'] at h1
theorem Reps.notAgg {vs : List Value} {xs : List AV} (h : Reps g vs xs) (h1 : AllOne vs) : ∀ y ∈ xs, ∀ ys, y ≠ .agg ys := by
  match h with
  | .nil => intro y hy; simp at hy
  | .cons v x vs xs h hs =>
    intro y hy
    rcases List.mem_cons.1 hy with rfl | hy
    · exact h.notAgg (h1 v (List.mem_cons_self))
    · exact Reps.notAgg hs (fun u hu => h1 u (List.mem_cons_of_mem _ hu)) y hy
theorem cut_some {cs c : List AV} {off n : Nat} (h : cut cs off n = some c) : off + n ≤ cs.length ∧ c = (cs.drop off).take n := by
  unfold cut at h
  split at h
  · injection h with h; exact ⟨by assumption, h.symm⟩
  · cases h
theorem splice_some {cs c new : List AV} {off : Nat} (h : splice cs off new = some c) : off + new.length ≤ cs.length ∧ c = cs.take off ++ new ++ cs.drop (off + new.length) := by
  unfold splice at h
  split at h
  · injection h with h; exact ⟨by assumption, h.symm⟩
  · cases h
/-- Elements out of cells. -/
theorem elemsOf_ok {e sz : Nat} (hsz : sizeT P e = some sz) : ∀ (n : Nat) (cs ys : List AV) (vs : List Value), elemsOf P e cs n = some ys → Reps g vs cs → AllOne vs → ys.length = n ∧ RepE g sz (vs.take (n * sz)) ys
  | 0, cs, ys, vs, h, hr, h1 => by
    simp only [elemsOf, Option.some.injEq] at h; subst h
    simp; exact .nil _
  | n + 1, cs, ys, vs, h, hr, h1 => by
    simp only [elemsOf, hsz] at h
    cases hc : cut cs 0 sz with
    | none => simp [hc] at h
    | some c =>
      simp only [hc] at h
      cases hm : mkT P e c with
      | none => simp [hm] at h
      | some x =>
        cases hx : elemsOf P e (cs.drop sz) n with
        | none => simp [hm, hx] at h
        | some xs =>
          simp only [hm, hx, Option.some.injEq] at h; subst h
          obtain ⟨h2, h3⟩ := cut_some hc
          simp only [List.drop_zero] at h3; subst h3
          obtain ⟨a, b⟩ := elemsOf_ok hsz n (cs.drop sz) xs (vs.drop sz) hx (hr.drop sz) (h1.drop sz)
          have hlen := hr.length
          have hcx : x.cells = cs.take sz := mkT_cells hm ((hr.take sz).notAgg (h1.take sz))
          refine ⟨by simp [a], ?_⟩
          have e : vs.take ((n + 1) * sz) = vs.take sz ++ (vs.drop sz).take (n * sz) := by
            rw [show (n + 1) * sz = sz + n * sz by rw [Nat.add_mul]; omega, List.take_add]
          rw [e]
          refine .cons _ _ _ _ _ (by rw [List.length_take]; omega) (h1.take sz) (by rw [hcx]; exact hr.take sz) b
theorem unfrozen_of_le {c : Array Value} {fr : Nat × Nat} (h : fr.2 ≤ fr.1) (lo : Nat) : Unfrozen c fr lo := fun i _ _ hh => by omega
def AObj.cs? : AObj → Option (List AV)
  | .cells xs => some xs
  | .tcells _ _ xs => some xs
  | .scells xs => some xs
  | _ => none
/-- Cells that lie there, whatever is known of them. -/
theorem ObjOk.cells {x : AObj} {b tot : Nat} {cs : List AV} (h : ObjOk g w b tot x) (hx : x.cs? = some cs) :
    ∃ c e fr vs rest, w.heap[b]? = some (.cells c e fr) ∧ c.toList = vs ++ rest ∧ Reps g vs cs ∧ AllOne c.toList ∧ Unfrozen c fr 0 ∧ c.size = tot := by
  cases x with
  | cells xs =>
    injection hx with hx; subst hx
    obtain ⟨c, e, fr, vs, rest, q1, q2, q3, q4, q5, q6⟩ := h
    exact ⟨c, e, fr, vs, rest, q1, q2, q3, q4, unfrozen_of_le q5 0, q6⟩
  | tcells t n xs =>
    injection hx with hx; subst hx
    obtain ⟨c, fr, vs, rest, q1, q2, q3, q4, q5, q6, _⟩ := h
    exact ⟨c, t, fr, vs, rest, q1, q2, q3, q4, unfrozen_of_le q5 0, q6⟩
  | scells xs => injection hx with hx; subst hx; exact h
  | _ => cases hx
theorem getCells_some {o : Nat} {cs : List AV} (hc : st.getCells o = some cs) : ∃ x, st.get o = some x ∧ x.cs? = some cs := by
  unfold Store.getCells at hc
  split at hc
  · rename_i xs hg; exact ⟨_, hg, hc⟩
  · rename_i t n xs hg; exact ⟨_, hg, hc⟩
  · rename_i xs hg; exact ⟨_, hg, hc⟩
  · cases hc
theorem Inv.cellsAt' (hi : Inv g st w) {b o tot : Nat} {cs : List AV} (hb : g.blk b = some (.obj o tot)) (hc : st.getCells o = some cs) :
    ∃ c e fr vs rest, w.heap[b]? = some (.cells c e fr) ∧ c.toList = vs ++ rest ∧ Reps g vs cs ∧ AllOne c.toList ∧ Unfrozen c fr 0 ∧ c.size = tot := by
  obtain ⟨x, h1, h2⟩ := hi.obj b o tot hb
  obtain ⟨y, h3, h4⟩ := getCells_some hc
  rw [h1] at h3; injection h3 with h3; subst h3
  exact h2.cells h4
theorem Inv.cellsAt (hi : Inv g st w) {b o n : Nat} {cs : List AV} (hl : LiveA g b o n) (hc : st.getCells o = some cs) :
    ∃ tot, g.blk b = some (.obj o tot) ∧ n ≤ tot ∧ ∃ c e fr vs rest, w.heap[b]? = some (.cells c e fr) ∧ c.toList = vs ++ rest ∧ Reps g vs cs ∧ AllOne vs ∧ Unfrozen c fr 0 ∧ c.size = tot := by
  rcases hl with hd | ⟨tot, hb, hn⟩
  · obtain ⟨y, h3, h4⟩ := getCells_some hc
    rw [hi.dead o hd] at h3; injection h3 with h3; subst h3; cases h4
  · obtain ⟨c, e, fr, vs, rest, q1, q2, q3, q4, q5, q6⟩ := hi.cellsAt' hb hc
    exact ⟨tot, hb, hn, c, e, fr, vs, rest, q1, q2, q3, fun v hv => q4 v (by rw [q2]; exact List.mem_append_left _ hv), q5, q6⟩
theorem Inv.allOne (hi : Inv g st w) {b o tot : Nat} {cs : List AV} (hb : g.blk b = some (.obj o tot)) (hc : st.getCells o = some cs) {c : Array Value} {e : TypeId} {fr : Nat × Nat} (h1 : w.heap[b]? = some (.cells c e fr)) : AllOne c.toList := by
  obtain ⟨c', e', fr', vs, rest, q1, q2, q3, q4, q5, q6⟩ := hi.cellsAt' hb hc
  rw [h1] at q1; injection q1 with q1; injection q1 with q1 _ _; subst q1
  exact q4
theorem Inv.allRest (hi : Inv g st w) {b o tot : Nat} {cs : List AV} (hb : g.blk b = some (.obj o tot)) (hc : st.getCells o = some cs) {c : Array Value} {e : TypeId} {fr : Nat × Nat} (h1 : w.heap[b]? = some (.cells c e fr)) {vs rest : List Value} (h2 : c.toList = vs ++ rest) : AllOne rest := fun v hv => hi.allOne hb hc h1 v (by rw [h2]; exact List.mem_append_right _ hv)
theorem Inv.writeCells (hi : Inv g st w) {b o tot : Nat} {cs ys : List AV} (hb : g.blk b = some (.obj o tot)) (hc : st.getCells o = some cs) {c c' : Array Value} {e : TypeId} {fr : Nat × Nat} {vs rest : List Value} {w' : World} (h1 : w.heap[b]? = some (.cells c e fr))
    (hu : Upd w b (.cells c' e fr) w') (h2 : c'.toList = vs ++ rest) (h3 : Reps g vs ys) (h4 : AllOne vs) (h4' : AllOne rest) (h5 : Unfrozen c' fr 0) (h6 : c'.size = tot) : Inv g (st.put o ys) w' ∧ Adv g w g w' := by
  have hall : AllOne c'.toList := by
    rw [h2]
    exact h4.append h4'
  obtain ⟨x, k1, k2⟩ := hi.obj b o tot hb
  obtain ⟨y, k3, k4⟩ := getCells_some hc
  rw [k1] at k3; injection k3 with k3; subst k3
  unfold Store.put
  rw [k1]
  cases x with
  | tcells t n zs =>
    obtain ⟨c2, fr2, _, _, q1, _, _, _, q5, _, kn⟩ := k2
    rw [h1] at q1; injection q1 with q1; injection q1 with _ q1 q2; subst q1 q2
    exact hi.write hb hu (.tcells e n ys) ⟨c', fr, vs, rest, hu.here, h2, h3, hall, q5, h6, kn⟩
  | scells zs => exact hi.write hb hu (.scells ys) ⟨c', e, fr, vs, rest, hu.here, h2, h3, hall, h5, h6⟩
  | cells zs =>
    obtain ⟨c2, e2, fr2, _, _, q1, _, _, _, q5, _⟩ := k2
    rw [h1] at q1; injection q1 with q1; injection q1 with _ q1 q2; subst q1 q2
    exact hi.write hb hu (.cells ys) ⟨c', e, fr, vs, rest, hu.here, h2, h3, hall, q5, h6⟩
  | _ => cases k4
/-- A slice's elements, in memory. -/
structure SrcRow (g : Gh) (w : World) (sz : Nat) (v : Value) (ys : List AV) : Prop where
  mk :: (out : ∃ a c, v = .slice a ys.length c ∧ ys.length ≤ c ∧ ∃ vs, RepE g sz vs ys ∧ (ys = [] ∨ ∃ b o, a = some ⟨b, o, none⟩ ∧ ∀ j u, vs[j]? = some u → w.cell? ⟨b, o + j, none⟩ = some u))
theorem readRow_arr {e sz b off o len c : Nat} {cap : Option Nat} {ys : List AV} (h : readRow P e st (.arr sz o off len cap) = some ys) (hl : LiveA g b o (off + c * sz)) (hi : Inv g st w) :
    sizeT P e = some sz ∧ ys.length = len ∧ ∃ tot cs, st.getCells o = some cs ∧ off + len * sz ≤ cs.length ∧ g.blk b = some (.obj o tot) ∧ off + c * sz ≤ tot ∧ ∃ c2 e2 fr vs rest, w.heap[b]? = some (.cells c2 e2 fr) ∧ c2.toList = vs ++ rest ∧ Reps g vs cs ∧ AllOne vs ∧ Unfrozen c2 fr 0 ∧ c2.size = tot ∧ RepE g sz ((vs.drop off).take (len * sz)) ys := by
  simp only [readRow] at h
  split at h
  · rename_i hsz
    split at h
    · rename_i cs hg
      split at h
      · rename_i c1 hct
        obtain ⟨tot, hb, hn, c2, e2, fr, vs, rest, h1, h2, h3, h4, h5, h6⟩ := hi.cellsAt hl hg
        obtain ⟨h7, rfl⟩ := cut_some hct
        obtain ⟨a, q⟩ := elemsOf_ok hsz.1 len _ ys ((vs.drop off).take (len * sz)) h ((h3.drop off).take _) ((h4.drop off).take _)
        rw [List.take_take, Nat.min_self] at q
        exact ⟨hsz.1, a, tot, cs, hg, h7, hb, hn, c2, e2, fr, vs, rest, h1, h2, h3, h4, h5, h6, q⟩
      · cases h
    · cases h
  · cases h
theorem readRow_ok {e : Nat} {v : Value} {x : AV} {ys : List AV} (h : readRow P e st x = some ys) (hr : Rep g v x) (hi : Inv g st w) (hs : ∀ s, x ≠ .str s) :
    ∃ sz, sizeT P e = some sz ∧ SrcRow g w sz v ys ∨ (x = .nils ∧ ys = []) := by
  cases hr with
  | nils => simp only [readRow, Option.some.injEq] at h; exact ⟨0, .inr ⟨rfl, h.symm⟩⟩
  | row b o n c sz tok cap xs vs hi' he hn hc hz hcap ht =>
    simp only [readRow] at h
    split at h <;> rename_i hsz
    · injection h with h; subst h
      exact ⟨sz, .inl ⟨hsz, ⟨some ⟨b, o, none⟩, c, by rw [hn], by omega, vs, he, .inr ⟨b, o, rfl, fun j u hj => hi'.cell hi j u hj⟩⟩⟩⟩
    · cases h
  | arr b off o len c sz cap hl hc hz hcap =>
    obtain ⟨hsz, a, tot, cs, hg, h7, hb, hn, c2, e2, fr, vs, rest, h1, h2, h3, h4, h5, h6, q⟩ := readRow_arr h hl hi
    refine ⟨sz, .inl ⟨hsz, ⟨some ⟨b, off, none⟩, c, by rw [a], by omega, _, q, .inr ⟨b, off, rfl, fun j u hj => ?_⟩⟩⟩⟩
    have hj' : vs[off + j]? = some u := by
      rw [List.getElem?_take] at hj
      split at hj
      · rwa [List.getElem?_drop] at hj
      · cases hj
    have : c2.toList[off + j]? = some u := by rw [h2, List.getElem?_append_left (List.getElem?_eq_some_iff.1 hj').1]; exact hj'
    simp [World.cell?, h1]
    simpa using this
  | str s => exact absurd rfl (hs _)
  | _ => simp [readRow] at h

/-- What is read as an array is read as a row from now on. -/
theorem freeze_one {e sz b off o len c : Nat} {cap : Option Nat} {ys : List AV} (hi : Inv g st w) (hl : LiveA g b o (off + c * sz)) (hc : len ≤ c) (hz : 0 < sz) (hy : readRow P e st (.arr sz o off len cap) = some ys) :
    ∃ g', Adv g w g' w ∧ Inv g' (st.set o .dead) w ∧ Rep g' (.slice (some ⟨b, off, none⟩) len c) (.row sz none none ys) := by
  obtain ⟨hsz, a, tot, cs, hg, h7, hb, hn, c2, e2, fr, vs, rest, h1, h2, h3, h4, h5, h6, q⟩ := readRow_arr hy hl hi
  have hd := hi.die hb
  have hb1 : (g.drop b o).blk b = none := Gh.drop_same
  have hle1 : Le g (g.drop b o) := Le.drop hb
  have hle2 : Le (g.drop b o) ((g.drop b o).upd b (.stat c2.toList)) := Le.upd_new _ _ hb1
  have hinv : Inv ((g.drop b o).upd b (.stat c2.toList)) (st.set o .dead) w := by
    refine ⟨hd.wfo, hd.wft, fun b' t s sz' n cs' hb' => ?_, fun b' cs' hb' => ?_, fun b' o' n hb' => ?_, fun b1 b2 o' n1 n2 h1' h2' => ?_, hd.dead⟩
    · have h : b' ≠ b := by rintro rfl; simp [Gh.upd] at hb'
      rw [Gh.upd_other _ _ h] at hb'; exact hd.row b' t s sz' n cs' hb'
    · by_cases h : b' = b
      · subst h; simp [Gh.upd] at hb'; subst hb'; exact ⟨c2, e2, fr, h1, rfl⟩
      · rw [Gh.upd_other _ _ h] at hb'; exact hd.stat b' cs' hb'
    · have h : b' ≠ b := by rintro rfl; simp [Gh.upd] at hb'
      rw [Gh.upd_other _ _ h] at hb'
      obtain ⟨x, h7, h8⟩ := hd.obj b' o' n hb'
      exact ⟨x, h7, h8.mono hle2⟩
    · have h : b1 ≠ b := by rintro rfl; simp [Gh.upd] at h1'
      have h' : b2 ≠ b := by rintro rfl; simp [Gh.upd] at h2'
      rw [Gh.upd_other _ _ h] at h1'; rw [Gh.upd_other _ _ h'] at h2'
      exact hd.inj b1 b2 o' n1 n2 h1' h2'
  refine ⟨(g.drop b o).upd b (.stat c2.toList), ⟨hle1.trans hle2, Nat.le_refl _, fun b' _ hn => ⟨rfl, ?_⟩, fun _ _ _ => rfl, rfl, rfl, rfl⟩, hinv, ?_⟩
  · have : b' ≠ b := by rintro rfl; rw [hb] at hn; cases hn
    rw [Gh.upd_other _ _ this, Gh.drop_other this]
    exact hn
  · refine .row b off len c sz none none ys _ ?_ (q.mono (hle1.trans hle2)) a hc hz (fun m hm => by cases hm) (fun t off hm => by cases hm)
    refine .inr ⟨_, _, Gh.upd_same _ _ _, rfl, ?_⟩
    refine (List.take_prefix _ _).trans (List.IsPrefix.drop' ?_ off)
    rw [h2]; exact List.prefix_append _ _
theorem freezeCells_ok {et : Nat → Option TypeId} : ∀ (xs : List AV) (i : Nat) (st : Store) (g : Gh) (zs : List AV) (st' : Store) (vs : List Value), freezeCells P et xs i st = some (zs, st') → Reps g vs xs → Inv g st w →
    ∃ g', Adv g w g' w ∧ Inv g' st' w ∧ Reps g' vs zs
  | [], i, st, g, zs, st', vs, h, hr, hi => by
    simp only [freezeCells, Option.some.injEq, Prod.mk.injEq] at h
    obtain ⟨rfl, rfl⟩ := h
    exact ⟨g, Adv.refl g w, hi, hr⟩
  | x :: xs, i, st, g, zs, st', vs, h, hr, hi => by
    match vs, hr with
    | v :: vs, .cons _ _ _ _ hx hxs =>
    have plain : ∀ (hp : (match freezeCells P et xs (i + 1) st with
        | some (zs, st') => some (x :: zs, st')
        | none => none) = some (zs, st')), ∃ g', Adv g w g' w ∧ Inv g' st' w ∧ Reps g' (v :: vs) zs := by
      intro hp
      cases hf : freezeCells P et xs (i + 1) st with
      | none => simp [hf] at hp
      | some r =>
        obtain ⟨zs1, st1⟩ := r
        simp only [hf, Option.some.injEq, Prod.mk.injEq] at hp
        obtain ⟨rfl, rfl⟩ := hp
        obtain ⟨g', a, b, c⟩ := freezeCells_ok xs (i + 1) st g zs1 st1 vs hf hxs hi
        exact ⟨g', a, b, .cons _ _ _ _ (hx.mono a.le) c⟩
    cases hx with
    | arr b off o len c sz cap hl hc hz hcap =>
      simp only [freezeCells] at h
      cases he : et i with
      | none => simp [he] at h
      | some e =>
        simp only [he] at h
        cases hy : readRow P e st (.arr sz o off len cap) with
        | none => simp [hy] at h
        | some ys =>
          simp only [hy] at h
          cases hf : freezeCells P et xs (i + 1) (st.set o .dead) with
          | none => simp [hf] at h
          | some r =>
            obtain ⟨zs1, st1⟩ := r
            simp only [hf, Option.some.injEq, Prod.mk.injEq] at h
            obtain ⟨rfl, rfl⟩ := h
            obtain ⟨g1, a1, i1, r1⟩ := freeze_one hi hl hc hz hy
            obtain ⟨g', a, b, d⟩ := freezeCells_ok xs (i + 1) (st.set o .dead) g1 zs1 st1 vs hf (hxs.mono a1.le) i1
            exact ⟨g', a1.trans a, b, .cons _ _ _ _ (r1.mono a.le) d⟩
    | bool b => exact plain h
    | int k n => exact plain h
    | str s => exact plain h
    | nilptr => exact plain h
    | ptr b off o h' => exact plain h
    | rptr b o vs cs h' h1 hr => exact plain h
    | nils => exact plain h
    | row b o n c sz tok cap xs' vs hi' he hn hc hz hcap ht => exact plain h
    | nilmap => exact plain h
    | map b o h' => exact plain h
    | func fn a b x y hf ha hb => exact plain h
    | yield b o h' => exact plain h
    | nilFunc => exact plain h
    | iface t v x h' => exact plain h
    | nilIface => exact plain h
    | agg cs xs h1 h' => exact plain h
    | tuple cs xs h' => exact plain h
    | junk v => exact plain h
    | uptr b t tot cs' vs' xs' hb hv he => exact plain h
theorem freezeV_ok {t : Nat} {v : Value} {x x' : AV} {st' : Store} (h : freezeV P t x st = some (x', st')) (hr : Rep g v x) (hi : Inv g st w) : ∃ g', Adv g w g' w ∧ Inv g' st' w ∧ Rep g' v x' := by
  have plain : ∀ (hp : (match freezeCells P (fun _ => elemT P t) [x] 0 st with
      | some ([x], st') => some (x, st')
      | _ => none) = some (x', st')), ∃ g', Adv g w g' w ∧ Inv g' st' w ∧ Rep g' v x' := by
    intro hp
    cases hf : freezeCells P (fun _ => elemT P t) [x] 0 st with
    | none => simp [hf] at hp
    | some r =>
      obtain ⟨zs, st1⟩ := r
      obtain ⟨g', a, b, c⟩ := freezeCells_ok [x] 0 st g zs st1 [v] hf (.cons _ _ _ _ hr .nil) hi
      match zs, c with
      | [z], .cons _ _ _ _ hz .nil =>
        simp only [hf, Option.some.injEq, Prod.mk.injEq] at hp
        obtain ⟨rfl, rfl⟩ := hp
        exact ⟨g', a, b, hz⟩
  cases hr with
  | agg cs xs h1 hx =>
    simp only [freezeV] at h
    split at h
    · rename_i zs st1 hf
      simp only [Option.some.injEq, Prod.mk.injEq] at h
      obtain ⟨rfl, rfl⟩ := h
      obtain ⟨g', a, b, c⟩ := freezeCells_ok xs 0 st g zs st1 cs.toList hf hx hi
      exact ⟨g', a, b, .agg _ _ h1 c⟩
    · cases h
  | bool b => exact plain h
  | int k n => exact plain h
  | str s => exact plain h
  | nilptr => exact plain h
  | ptr b off o h' => exact plain h
  | rptr b o vs cs h' h1 hr => exact plain h
  | nils => exact plain h
  | row b o n c sz tok cap xs' vs hi' he hn hc hz hcap ht => exact plain h
  | arr b off o len c sz cap hl hc hz hcap => exact plain h
  | nilmap => exact plain h
  | map b o h' => exact plain h
  | func fn a b x y hf ha hb => exact plain h
  | yield b o h' => exact plain h
  | nilFunc => exact plain h
  | iface t v x h' => exact plain h
  | nilIface => exact plain h
  | tuple cs xs h' => exact plain h
  | junk v => exact plain h
  | uptr b t tot cs' vs' xs' hb hv he => exact plain h
end
end Go.Sim
