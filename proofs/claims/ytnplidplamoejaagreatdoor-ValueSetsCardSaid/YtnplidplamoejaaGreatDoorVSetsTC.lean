/- Part of the proof that litmuslaw11.ValueSets answers true for every input. -/
import Derived.Test.YtnplidplamoejaaGreatDoorVSetsTB
set_option linter.unusedVariables false
set_option linter.unusedSimpArgs false
set_option linter.unnecessarySimpa false
namespace Go.Sim
open Go.WideShapes (add_plain)

section
variable {P : Program} {g : Gh} {B : Nat → Nat} {st st' : Store} {w : World} {out : Out}

/-- What append is given to append. -/
inductive AppSrc (P : Program) (w : World) (t1 e sz : Nat) : Value → Nat → List Value → Prop
  | slice (e1 : TypeId) (hd : P.underlying t1 = some (.slice e1) ∨ P.underlying t1 = some .string) (a : Option Addr) (n c : Nat) (vs : List Value) (hl : vs.length = n * sz) (hv : (vs = [] ∧ n = 0) ∨ ∃ b o, a = some ⟨b, o, none⟩ ∧ ∀ j u, vs[j]? = some u → w.cell? ⟨b, o + j, none⟩ = some u) : AppSrc P w t1 e sz (.slice a n c) n vs
  | str (e1 : TypeId) (hd : P.underlying t1 = some (.slice e1) ∨ P.underlying t1 = some .string) (s : ByteArray) (h1 : sz = 1) : AppSrc P w t1 e sz (.string s) s.size (s.data.toList.map fun b => .int .u8 b.toNat)
  | zeros (k k' : IntKind) (hd : P.underlying t1 = some (.int k)) (n : Nat) (hn : n ≤ 140737488355328) (i : TypeInfo) (hi : P.info? e = some i) (hb : n * i.bytes ≤ 140737488355328) (zv : Value) (hz : i.zero = some zv) (hl : zv.cells.size = sz) : AppSrc P w t1 e sz (.int k' n) n (List.replicate n zv.cells.toList).flatten

theorem firstCells_none (size n : Nat) (w : World) (a : Option Addr) (c : Nat) : (Builtin.firstCells size 0 (.slice a n c)).run P w = .ok #[] w := by
  cases a with
  | none => simp [Builtin.firstCells]
  | some a =>
    have := run_loadCells_list (P := P) w a [] (by simp)
    simpa [Builtin.firstCells] using this
theorem appSrc_read {t1 e sz : Nat} {x : Value} {n : Nat} {vs : List Value} (hs : AppSrc P w t1 e sz x n vs) (w' : World) (hw : w'.heap = w.heap) : AppSrc P w' t1 e sz x n vs := by
  cases hs with
  | slice e1 hd a n c vs hl hv =>
    refine .slice e1 hd a n c vs hl (hv.imp id fun ⟨b, o, h1, h2⟩ => ⟨b, o, h1, fun j u hj => ?_⟩)
    have := h2 j u hj
    simpa [World.cell?, hw] using this
  | str e1 hd s h1 => exact .str e1 hd s h1
  | zeros k k' hd n hn i hi hb zv hz hl => exact .zeros k k' hd n hn i hi hb zv hz hl

theorem app_in {ts : Array TypeId} {t t1 e sz ty : Nat} (h0 : ts[0]? = some t) (h1 : ts[1]? = some t1) (ht : P.underlying t = some (.slice e)) (hsz : sizeT P e = some sz) (hz : 0 < sz) {x : Value} {n : Nat} {vs : List Value} (hs : AppSrc P w t1 e sz x n vs)
    (base : Option Addr) (len cap : Nat) (hc : len + n ≤ cap) :
    (Builtin.append_ ts ty #[.slice base len cap, x]).run P w = (match base with
      | none => .ok (.slice none (len + n) cap) w
      | some a => ((storeCells (a.add (len * sz)) vs).run P w).andThen fun _ w' => .ok (.slice (some a) (len + n) cap) w') := by
  have hsz' := run_sizeOf hsz
  obtain ⟨i, hi, his⟩ := sizeT_some hsz
  cases hs with
  | slice e1 hd a n c vs hl hv =>
    have hf : (Builtin.firstCells sz n (.slice a n c)).run P w = .ok vs.toArray w := by
      rcases hv with ⟨rfl, rfl⟩ | ⟨b, o, rfl, hv⟩
      · exact firstCells_none _ _ _ _ _
      · exact run_firstCells_some w sz n ⟨b, o, none⟩ n c vs hl (fun j v hj => by simpa [add_plain] using hv j v hj)
    rcases hd with hd | hd <;> cases base <;> simp [Builtin.append_, h0, h1, run_underlying ht, run_underlying hd, hsz', Builtin.lenOf, hc, hf]
  | str e1 hd s h1' =>
    have hx : s.extract 0 s.size = s := by
      apply ByteArray.ext
      simp [ByteArray.data_extract]
    have hf : (Builtin.firstCells sz s.size (.string s)).run P w = .ok (s.data.toList.map fun b => Value.int .u8 b.toNat).toArray w := by
      simp only [Builtin.firstCells, Sem.run_pure, hx]
      congr 1
      apply Array.ext'
      simp
    rcases hd with hd | hd <;> cases base <;> simp [Builtin.append_, h0, h1, run_underlying ht, run_underlying hd, hsz', Builtin.lenOf, hc, hf]
  | zeros k k' hd n hn i' hi' hb zv hzv hl =>
    rw [hi] at hi'; injection hi' with hi'; subst hi'
    have e1 : IntKind.i64.wrap (n : Int) = n := IntWalk.i64_in n ⟨by omega, by omega⟩
    have g2 : ¬ ((n : Int) < 0) := by omega
    have g4 : ¬ (281474976710656 < (n : Int) * (i.bytes : Int)) := by
      rw [← Int.natCast_mul]
      omega
    have hzeros := zeros_eq zv.cells n (by omega)
    have hzc : Builtin.zeroCells zv.cells n = (List.replicate n zv.cells.toList).flatten.toArray := by
      apply Array.ext'
      simpa [Builtin.zeroCells] using hzeros
    by_cases hn0 : n = 0
    · subst hn0
      have e0 : IntKind.i64.wrap 0 = 0 := by decide
      have hc0 : len ≤ cap := hc
      cases base <;> simp [Builtin.append_, h0, h1, run_underlying ht, run_underlying hd, hsz', Builtin.lenOf, hc0, asInt, asIntOf, e0, e1, g2, g4, typeInfo, hi, storeCells]
    · have hne : n * sz ≠ 0 := by
        intro h
        rcases Nat.mul_eq_zero.1 h with h | h <;> omega
      cases base <;> simp [Builtin.append_, h0, h1, run_underlying ht, run_underlying hd, hsz', Builtin.lenOf, hc, asInt, asIntOf, e1, g2, g4, typeInfo, hi, hne, run_zeroValue hi hzv, hzc]
theorem app_new {ts : Array TypeId} {t t1 e sz ty : Nat} (h0 : ts[0]? = some t) (h1 : ts[1]? = some t1) (ht : P.underlying t = some (.slice e)) {i : TypeInfo} (hi : P.info? e = some i) (his : i.size = sz) {zv : Value} (hzv : i.zero = some zv) (hz : 0 < sz) {x : Value} {n : Nat} {vs : List Value} (hs : AppSrc P w t1 e sz x n vs)
    (base : Option Addr) (len cap : Nat) (olds : List Value) (ho : ∀ w' : World, w'.heap = w.heap → (Builtin.firstCells sz len (.slice base len cap)).run P w' = .ok olds.toArray w') (hc : cap < len + n) (hb : (len + n) * i.bytes ≤ 140737488355328) (h63 : len + n ≤ 140737488355328) :
    (Builtin.append_ ts ty #[.slice base len cap, x]).run P w =
      .ok (.slice (some ⟨w.heap.size, 0, none⟩) (len + n) (grownCap w (len + n) cap e)) (w.drew.alloc (.cells (olds.toArray ++ vs.toArray ++ Builtin.zeroCells zv.cells (grownCap w (len + n) cap e - (len + n))) e)) := by
  have hsz : sizeT P e = some sz := by show (match P.info? e with | some i => some i.size | none => none) = some sz; rw [hi]; simp [his]
  have hsz' := run_sizeOf hsz
  have hn : ¬ (len + n ≤ cap) := by omega
  have h63' : ¬ (9223372036854775807 < ((len : Int) + (n : Int))) := by omega
  have h48' : ¬ (281474976710656 < Builtin.nextslicecap (len + n) cap * i.bytes) := by
    have := growslice_fits hc hb
    omega
  have ho' := ho w.drew rfl
  have hs' := appSrc_read hs w.drew rfl
  cases hs with
  | slice e1 hd a n c vs hl hv =>
    have hf : (Builtin.firstCells sz n (.slice a n c)).run P w.drew = .ok vs.toArray w.drew := by
      rcases hv with ⟨rfl, rfl⟩ | ⟨b, o, rfl, hv⟩
      · exact firstCells_none _ _ _ _ _
      · exact run_firstCells_some w.drew sz n ⟨b, o, none⟩ n c vs hl (fun j v hj => by simpa [add_plain] using hv j v hj)
    rcases hd with hd | hd <;> simp [Builtin.append_, h0, h1, run_underlying ht, run_underlying hd, hsz', Builtin.lenOf, hn, hf, typeInfo, hi, h63', h48', Question.forced, ho', run_zeroValue hi hzv, newRow, grownCap] <;> (congr 2; apply Array.ext'; simp)
  | str e1 hd s h1' =>
    have hx : s.extract 0 s.size = s := by
      apply ByteArray.ext
      simp [ByteArray.data_extract]
    have hf : (Builtin.firstCells sz s.size (.string s)).run P w.drew = .ok (s.data.toList.map fun b => Value.int .u8 b.toNat).toArray w.drew := by
      simp only [Builtin.firstCells, Sem.run_pure, hx]
      congr 1
      apply Array.ext'
      simp
    rcases hd with hd | hd <;> simp [Builtin.append_, h0, h1, run_underlying ht, run_underlying hd, hsz', Builtin.lenOf, hn, hf, typeInfo, hi, h63', h48', Question.forced, ho', run_zeroValue hi hzv, newRow, grownCap] <;> (congr 2; apply Array.ext'; simp)
  | zeros k k' hd n hn' i' hi' hb' zv' hzv' hl =>
    rw [hi] at hi'; injection hi' with hi'; subst hi'
    rw [hzv] at hzv'; injection hzv' with hzv'; subst hzv'
    have e1 : IntKind.i64.wrap (n : Int) = n := IntWalk.i64_in n ⟨by omega, by omega⟩
    have g2 : ¬ ((n : Int) < 0) := by omega
    have g4 : ¬ (281474976710656 < (n : Int) * (i.bytes : Int)) := by
      rw [← Int.natCast_mul]
      omega
    have hzeros := zeros_eq zv.cells n (by omega)
    have hzc : Builtin.zeroCells zv.cells n = (List.replicate n zv.cells.toList).flatten.toArray := by
      apply Array.ext'
      simpa [Builtin.zeroCells] using hzeros
    by_cases hn0 : n = 0
    · subst hn0
      have e0 : IntKind.i64.wrap 0 = 0 := by decide
      have hn1 : ¬ (len ≤ cap) := by omega
      have h63' : ¬ (9223372036854775807 < (len : Int)) := by omega
      have h48' : ¬ (281474976710656 < Builtin.nextslicecap len cap * i.bytes) := h48'
      simp [Builtin.append_, h0, h1, run_underlying ht, run_underlying hd, hsz', Builtin.lenOf, hn1, typeInfo, hi, h63', h48', Question.forced, ho', run_zeroValue hi hzv, newRow, grownCap, asInt, asIntOf, e0]
    · have hne : n * sz ≠ 0 := by
        intro h
        rcases Nat.mul_eq_zero.1 h with h | h <;> omega
      simp [Builtin.append_, h0, h1, run_underlying ht, run_underlying hd, hsz', Builtin.lenOf, hn, typeInfo, hi, h63', h48', Question.forced, ho', run_zeroValue hi hzv, newRow, grownCap, asInt, asIntOf, e1, g2, g4, hne, hzc]
      congr 2; apply Array.ext'; simp

theorem Inv.drew (hi : Inv g st w) : Inv g st w.drew := hi.same fun _ _ => rfl
theorem RepE.length {sz : Nat} {vs : List Value} {xs : List AV} (h : RepE g sz vs xs) : vs.length = xs.length * sz := h.flat'.2.2
/-- A block that carries on a row that grew. -/
theorem Inv.alloc_row_at (hi : Inv g st w) (c : Array Value) (e : TypeId) (fr : Nat × Nat) {sz t top n off k : Nat} {cs : List Value} (ht : st.top t = some (top, e)) (hle : top ≤ n) (hk : off + k ≤ n) (hz : 0 < sz) (hp : cs <+: c.toList) (hl : cs.length = k * sz) (hu : fr.2 ≤ cs.length) :
    Inv (g.upd w.heap.size (.row t off sz c.size cs)) (st.setTop t (n, e)) (w.alloc (.cells c e fr)) := by
  have hlex : Le g (g.upd w.heap.size (.row t off sz c.size cs)) := Le.upd_new g _ (hi.none_of_ge (Nat.le_refl _))
  have h1 := hi.alloc (.cells c e fr)
  have hlt := Store.top_lt ht
  refine ⟨hi.wfo, by simp [Store.setTop, hi.wft], fun b t' s sz' tot cs' hb => ?_, fun b cs hb => ?_, fun b o tot hb => ?_, fun b b' o n n' hb hb' => ?_, hi.dead⟩
  · by_cases h : b = w.heap.size
    · subst h
      simp [Gh.upd] at hb
      obtain ⟨rfl, rfl, rfl, rfl, rfl⟩ := hb
      exact ⟨hz, c, e, fr, n, k, heap_alloc_new w _, hp, hl, Store.top_set_same hi.wft ht, hk, hu, rfl⟩
    · rw [Gh.upd_other _ _ h] at hb
      obtain ⟨h0, c', e', fr', top', k', h2, h3, h4, h5, h6, h7⟩ := h1.row b t' s sz' tot cs' hb
      by_cases ht' : t = t'
      · subst ht'
        rw [ht] at h5; injection h5 with h5; injection h5 with h5 he5; subst h5 he5
        exact ⟨h0, c', _, fr', _, k', h2, h3, h4, Store.top_set_same hi.wft ht, by omega, h7⟩
      · exact ⟨h0, c', e', fr', top', k', h2, h3, h4, by rw [Store.top_set_other hlt ht']; exact h5, h6, h7⟩
  · by_cases h : b = w.heap.size
    · subst h; simp [Gh.upd] at hb
    · rw [Gh.upd_other _ _ h] at hb; exact h1.stat b cs hb
  · by_cases h : b = w.heap.size
    · subst h; simp [Gh.upd] at hb
    · rw [Gh.upd_other _ _ h] at hb
      obtain ⟨x, h2, h3⟩ := h1.obj b o tot hb
      exact ⟨x, h2, h3.mono hlex⟩
  · by_cases h : b = w.heap.size
    · subst h; simp [Gh.upd] at hb
    · by_cases h' : b' = w.heap.size
      · subst h'; simp [Gh.upd] at hb'
      · rw [Gh.upd_other _ _ h] at hb; rw [Gh.upd_other _ _ h'] at hb'
        exact hi.inj b b' o n n' hb hb'

/-- New memory. -/
theorem freshV_ok {md sz by_ : Nat} {all : List AV} {x' : AV} {e : TypeId} (h : freshV md sz by_ e all st = some (x', st')) (hi : Inv g st w) {c : Array Value} {vs rest : List Value} {G : Nat} (hc : c.toList = vs ++ rest) (hr : RepE g sz vs all) (hG : c.size = G * sz) (hle : all.length ≤ G) (hrest : AllOne rest) :
    ∃ g', Adv g w g' (w.alloc (.cells c e)) ∧ Inv g' st' (w.alloc (.cells c e)) ∧ Rep g' (.slice (some ⟨w.heap.size, 0, none⟩) all.length G) x' := by
  unfold freshV at h
  split at h
  · rename_i hcond
    obtain ⟨_, _, hz⟩ := hcond
    obtain ⟨f1, f2, f3⟩ := hr.flat'
    split at h
    · simp only [Option.some.injEq, Prod.mk.injEq] at h
      obtain ⟨rfl, rfl⟩ := h
      exact newArr_ok (e := e) (sz := sz) (len := all.length) (cap := none) (n := G) hi ⟨vs, rest, hc, f1, f2, hrest⟩ hle (fun m hm => by cases hm) (by omega) hz
    · simp only [Option.some.injEq, Prod.mk.injEq] at h
      obtain ⟨rfl, rfl⟩ := h
      refine ⟨_, Adv.alloc_upd hi _ _, hi.alloc_row c e (0, 0) sz all.length vs hz (by rw [hc]; exact List.prefix_append _ _) f3 (Nat.zero_le _), ?_⟩
      refine .row _ _ _ _ _ _ _ _ _ (.inr ⟨_, _, Gh.upd_same _ _ _, rfl, by simp⟩) (hr.mono (Le.upd_new g _ (hi.none_of_ge (Nat.le_refl _)))) rfl hle hz (fun m hm => by cases hm) (fun t' off ht => ?_)
      simp only [Option.some.injEq, Prod.mk.injEq] at ht
      obtain ⟨rfl, rfl⟩ := ht
      exact .inr ⟨0, _, _, Gh.upd_same _ _ _, Nat.le_refl _, by simp, by simp [f3], by simp [hG]⟩
  · cases h
/-- A row's end, where it lies in its block. -/
theorem row_end (hi : Inv g st w) {b t start sz tot n o off : Nat} {cs vs : List Value} (hb : g.blk b = some (.row t start sz tot cs)) (hv : Imm g b o vs) (hvl : vs.length = n * sz) (hs : start ≤ off) (ho : o = (off - start) * sz) (hn : o + n * sz ≤ cs.length) {et : TypeId} (htop : st.top t = some (off + n, et)) :
    cs.length = o + n * sz ∧ cs.drop o = vs := by
  obtain ⟨h0, c, e, fr, top, k, h2, h3, h4, h5, h6, h7, h8⟩ := hi.row b t start sz tot cs hb
  rw [htop] at h5; injection h5 with h5; injection h5 with h5 he5; subst h5
  have hk : off - start + n ≤ k := by
    rw [ho, h4, ← Nat.add_mul] at hn
    exact Nat.le_of_mul_le_mul_right hn h0
  have hk' : k = off - start + n := by omega
  have hlen : cs.length = o + n * sz := by rw [h4, hk', Nat.add_mul, ← ho]
  refine ⟨hlen, ?_⟩
  have hdl : (cs.drop o).length = n * sz := by rw [List.length_drop]; omega
  rcases hv with rfl | ⟨x, cs', hb', hx, hp⟩
  · simp at hvl
    exact List.eq_nil_of_length_eq_zero (by omega)
  · rw [hb] at hb'; injection hb' with hb'; subst hb'
    injection hx with hx; subst hx
    obtain ⟨q, hq⟩ := hp
    have : q = [] := by
      apply List.eq_nil_of_length_eq_zero
      have := congrArg List.length hq
      simp only [List.length_append] at this
      omega
    subst this
    simpa using hq.symm
/-- A row grows in its place. -/
theorem growIn_ok (hi : Inv g st w) {b o n c sz t off m : Nat} {cap : Option Nat} {xs new : List AV} {vs us : List Value} (hv : Imm g b o vs) (he : RepE g sz vs xs) (hn : xs.length = n) (hz : 0 < sz) (hcap : ∀ m, cap = some m → m = c)
    (ht : c = 0 ∨ ∃ start tot cs, g.blk b = some (.row t start sz tot cs) ∧ start ≤ off ∧ o = (off - start) * sz ∧ o + n * sz ≤ cs.length ∧ o + c * sz ≤ tot) {et : TypeId} (htop : st.top t = some (off + n, et)) (hnew : RepE g sz us new) (hm : new.length = m) (h0 : 0 < m) (hc : n + m ≤ c) :
    ∃ w' g', (storeCells ⟨b, o + n * sz, none⟩ us).run P w = .ok () w' ∧ Adv g w g' w' ∧ Inv g' (st.setTop t (off + n + m, et)) w' ∧ Rep g' (.slice (some ⟨b, o, none⟩) (n + m) c) (.row sz (some (t, off)) cap (xs ++ new)) := by
  rcases ht with h | ⟨start, tot, cs, hb, hs, ho, hle, hct⟩
  · omega
  obtain ⟨_, c0, e0, fr0, top0, k, h2, h3, h4, h5, h6, h7, h8⟩ := hi.row b t start sz tot cs hb
  have he0 : e0 = et := by rw [htop] at h5; injection h5 with h5; injection h5 with _ h5; exact h5.symm
  subst he0
  have hvl : vs.length = n * sz := by rw [he.length, hn]
  obtain ⟨hlen, hdrop⟩ := row_end hi hb hv hvl hs ho hle htop
  obtain ⟨f1, f2, f3⟩ := hnew.flat'
  rw [hm] at f3
  have hmc : (n + m) * sz ≤ c * sz := Nat.mul_le_mul_right _ hc
  rw [Nat.add_mul] at hmc
  obtain ⟨w', c', k1, k2, k3⟩ := store_run (P := P) b (o + n * sz) e0 fr0 us 0 w c0 h2 (by omega) f2 (fun i hi1 hi2 => by omega)
  have hc'sz : c'.size = c0.size := by
    rw [← Array.length_toList, k3]
    simp only [List.length_append, List.length_take, List.length_drop, Array.length_toList, Nat.add_zero]
    omega
  have hp : cs ++ us <+: c'.toList := by
    rw [k3, Nat.add_zero, ← hlen]
    obtain ⟨q, hq⟩ := h3
    rw [← hq, List.take_left']
    · exact List.prefix_append _ _
    · rfl
  obtain ⟨i1, a1⟩ := hi.grow (n := m) hb k2 hp f3 (by omega) (by omega) (off + n) htop (by
    rw [hlen, ho, Nat.add_mul, ← Nat.add_assoc, ← Nat.add_mul, show start + (off - start) = off by omega])
  refine ⟨w', _, k1, a1, i1, ?_⟩
  refine .row _ _ _ _ _ _ _ _ (vs ++ us) (.inr ⟨_, _, Gh.upd_same _ _ _, rfl, ?_⟩) ((he.mono a1.le).append (hnew.mono a1.le)) (by simp [hn, hm]) hc hz hcap (fun t' off' ht' => ?_)
  · rw [List.drop_append_of_le_length (by omega), hdrop]
    exact List.prefix_rfl
  · simp only [Option.some.injEq, Prod.mk.injEq] at ht'
    obtain ⟨rfl, rfl⟩ := ht'
    exact .inr ⟨start, tot, cs ++ us, Gh.upd_same _ _ _, hs, ho, by rw [List.length_append, f3, Nat.add_mul]; omega, by omega⟩
/-- A row whose room is not known grows: into new memory. -/
theorem growNew_ok (hi : Inv g st w) {sz t off G : Nat} {all : List AV} {vs rest : List Value} {n m : Nat} {c : Array Value} (e : TypeId) (hz : 0 < sz) (htop : st.top t = some (off + n, e)) (hc : c.toList = vs ++ rest) (hr : RepE g sz vs all) (hall : all.length = n + m) (hG : c.size = G * sz) (hle : n + m ≤ G) :
    ∃ g', Adv g w g' (w.alloc (.cells c e)) ∧ Inv g' (st.setTop t (off + n + m, e)) (w.alloc (.cells c e)) ∧ Rep g' (.slice (some ⟨w.heap.size, 0, none⟩) (n + m) G) (.row sz (some (t, off)) none all) := by
  have f3 := hr.length
  rw [hall] at f3
  refine ⟨_, Adv.alloc_upd hi _ _, hi.alloc_row_at c e (0, 0) (n := off + n + m) (off := off) (k := n + m) htop (by omega) (by omega) hz (by rw [hc]; exact List.prefix_append _ _) f3 (Nat.zero_le _), ?_⟩
  refine .row _ _ _ _ _ _ _ _ _ (.inr ⟨_, _, Gh.upd_same _ _ _, rfl, by simp⟩) (hr.mono (Le.upd_new g _ (hi.none_of_ge (Nat.le_refl _)))) hall hle hz (fun m hm => by cases hm) (fun t' off' ht => ?_)
  simp only [Option.some.injEq, Prod.mk.injEq] at ht
  obtain ⟨rfl, rfl⟩ := ht
  exact .inr ⟨off, _, _, Gh.upd_same _ _ _, Nat.le_refl _, by simp, by rw [f3]; simp, by simp [hG]⟩
end
end Go.Sim

namespace Go.Sim
open Go.WideShapes (add_plain)

section
variable {P : Program} {g : Gh} {B : Nat → Nat} {st st' : Store} {w : World} {out : Out}

theorem new_cells {sz len n G : Nat} {olds vs : List Value} {zv : Value} (ho : olds.length = len * sz) (hv : vs.length = n * sz) (hz : zv.cells.size = sz) (hs : 0 < sz) (hG : len + n ≤ G) :
    (olds.toArray ++ vs.toArray ++ Builtin.zeroCells zv.cells (G - (len + n))).toList = (olds ++ vs) ++ (List.replicate (G - (len + n)) zv.cells.toList).flatten ∧
    (olds.toArray ++ vs.toArray ++ Builtin.zeroCells zv.cells (G - (len + n))).size = G * sz := by
  have hzeros := zeros_eq zv.cells (G - (len + n)) (by omega)
  have e1 : (Builtin.zeroCells zv.cells (G - (len + n))).toList = (List.replicate (G - (len + n)) zv.cells.toList).flatten := hzeros
  have e2 : (olds.toArray ++ vs.toArray ++ Builtin.zeroCells zv.cells (G - (len + n))).toList = (olds ++ vs) ++ (List.replicate (G - (len + n)) zv.cells.toList).flatten := by
    rw [Array.toList_append, e1]
    simp
  refine ⟨e2, ?_⟩
  rw [← Array.length_toList, e2]
  simp only [List.length_append, List.length_flatten, List.map_replicate, List.sum_replicate_nat, Array.length_toList, ho, hv, hz]
  rw [← Nat.add_mul, ← Nat.add_mul, show len + n + (G - (len + n)) = G by omega]
/-- append's answer -/
def AppOk (P : Program) (g : Gh) (st' : Store) (w : World) (x' : AV) (s : Sem Value) : Prop := ∃ v w', s.run P w = .ok v w' ∧ ∃ g', Adv g w g' w' ∧ Inv g' st' w' ∧ Rep g' v x'

structure AppIn (P : Program) (ts : Array TypeId) (t t1 e sz by_ : Nat) (i : TypeInfo) (zv : Value) : Prop where
  h0 : ts[0]? = some t
  h1 : ts[1]? = some t1
  ht : P.underlying t = some (.slice e)
  hi : P.info? e = some i
  his : i.size = sz
  hby : i.bytes = by_
  hzv : i.zero = some zv
  hzs : zv.cells.size = sz
  hz : 0 < sz
  hone : AllOne zv.cells.toList
theorem AppIn.hsz {ts : Array TypeId} {t t1 e sz by_ : Nat} {i : TypeInfo} {zv : Value} (h : AppIn P ts t t1 e sz by_ i zv) : sizeT P e = some sz := by show (match P.info? e with | some i => some i.size | none => none) = some sz; rw [h.hi]; simp [h.his]
/-- into new memory -/
theorem app_fresh {ts : Array TypeId} {t t1 e sz by_ ty : Nat} {i : TypeInfo} {zv : Value} (A : AppIn P ts t t1 e sz by_ i zv) (hi : Inv g st w) {x : Value} {new olds : List AV} {md : Nat} {us vs : List Value} {x' : AV} (hs : AppSrc P w t1 e sz x new.length us) (hr : RepE g sz us new) {len cap : Nat} {base : Option Addr}
    (hvr : RepE g sz vs olds) (hol : olds.length = len) (ho : ∀ w' : World, w'.heap = w.heap → (Builtin.firstCells sz len (.slice base len cap)).run P w' = .ok vs.toArray w') (hc : cap < len + new.length) (h : freshV md sz by_ e (olds ++ new) st = some (x', st')) :
    AppOk P g st' w x' (Builtin.append_ ts ty #[.slice base len cap, x]) := by
  have hg : (olds ++ new).length * by_ ≤ maxBytes ∧ (olds ++ new).length ≤ maxBytes ∧ 0 < sz := by
    unfold freshV at h
    split at h
    · assumption
    · cases h
  have hlen : (olds ++ new).length = len + new.length := by simp [hol]
  rw [hlen] at hg
  have hrun := app_new (ty := ty) A.h0 A.h1 A.ht A.hi A.his A.hzv A.hz hs base len cap vs ho hc (by rw [A.hby]; exact hg.1) hg.2.1
  have hG := grownCap_ge w (len + new.length) cap e
  obtain ⟨c1, c2⟩ := new_cells (by rw [hvr.length, hol]) hr.length A.hzs A.hz hG
  obtain ⟨g', a1, a2, a3⟩ := freshV_ok h hi.drew c1 (hvr.append hr) c2 (by rw [hlen]; exact hG) (fun v hv => by
    obtain ⟨l, h1, h2⟩ := List.mem_flatten.1 hv
    rw [(List.mem_replicate.1 h1).2] at h2
    exact A.hone v h2)
  rw [hlen] at a3
  exact ⟨_, _, hrun, g', (Adv.drew g w (w.drawn + 1)).trans a1, a2, a3⟩
theorem firstCells_imm (hi : Inv g st w) {b o n c sz : Nat} {vs : List Value} (hv : Imm g b o vs) (hl : vs.length = n * sz) (w' : World) (hw : w'.heap = w.heap) : (Builtin.firstCells sz n (.slice (some ⟨b, o, none⟩) n c)).run P w' = .ok vs.toArray w' := by
  refine run_firstCells_some w' sz n ⟨b, o, none⟩ n c vs hl (fun j v hj => ?_)
  have := hv.cell hi j v hj
  simp only [add_plain]
  simpa [World.cell?, hw] using this
theorem appendRow_ok {ts : Array TypeId} {t t1 e sz by_ ty : Nat} {i : TypeInfo} {zv : Value} (A : AppIn P ts t t1 e sz by_ i zv) (hi : Inv g st w) {x : Value} {new xs : List AV} {md : Nat} {us : List Value} {x' : AV} {tok : Option (Nat × Nat)} {cap : Option Nat} {b o n c : Nat} (hs : AppSrc P w t1 e sz x new.length us) (hr : RepE g sz us new) (hne : 0 < new.length)
    (hx : Rep g (.slice (some ⟨b, o, none⟩) n c) (.row sz tok cap xs)) (h : appendRow md sz by_ e tok cap xs new st = some (x', st')) :
    AppOk P g st' w x' (Builtin.append_ ts ty #[.slice (some ⟨b, o, none⟩) n c, x]) := by
  cases hx with
  | row b o n c sz tok cap xs vs hv he hn hc hz hcap ht =>
    have hvl : vs.length = n * sz := by rw [he.length, hn]
    have growIn : ∀ (hle : n + new.length ≤ c) (hg : growV sz e tok cap xs new st = some (x', st')), AppOk P g st' w x' (Builtin.append_ ts ty #[.slice (some ⟨b, o, none⟩) n c, x]) := by
      intro hle hg
      unfold growV at hg
      split at hg
      · rename_i tk off
        split at hg
        · rename_i htop
          simp only [Option.some.injEq, Prod.mk.injEq] at hg
          obtain ⟨rfl, rfl⟩ := hg
          rw [hn] at htop
          obtain ⟨w', g', k1, k2, k3, k4⟩ := growIn_ok (P := P) hi hv he hn hz hcap (ht _ _ rfl) htop hr rfl hne hle
          have hrun := app_in (ty := ty) A.h0 A.h1 A.ht A.hsz hz hs (some ⟨b, o, none⟩) n c hle
          simp only [add_plain, k1, Result.andThen_ok] at hrun
          exact ⟨_, w', hrun, g', k2, by rw [hn]; exact k3, k4⟩
        · cases hg
      · cases hg
    unfold appendRow at h
    split at h
    · rename_i c'
      have := hcap _ rfl; subst this
      rw [hn] at h
      split at h
      · rename_i hlt
        exact app_fresh A hi hs hr he hn (fun w' hw => firstCells_imm hi hv hvl w' hw) hlt h
      · exact growIn (by omega) h
    · split at h
      · rename_i hcond
        rw [hn] at hcond
        by_cases hle : n + new.length ≤ c
        · exact growIn hle h
        · unfold growV at h
          split at h
          · rename_i tk off
            split at h
            · rename_i htop
              simp only [Option.some.injEq, Prod.mk.injEq] at h
              obtain ⟨rfl, rfl⟩ := h
              rw [hn] at htop ⊢
              have hrun := app_new (ty := ty) A.h0 A.h1 A.ht A.hi A.his A.hzv A.hz hs (some ⟨b, o, none⟩) n c vs (fun w' hw => firstCells_imm hi hv hvl w' hw) (by omega) (by rw [A.hby]; exact hcond.1) hcond.2
              have hG := grownCap_ge w (n + new.length) c e
              obtain ⟨c1, c2⟩ := new_cells hvl hr.length A.hzs A.hz hG
              obtain ⟨g', a1, a2, a3⟩ := growNew_ok hi.drew e hz htop c1 (he.append hr) (by simp [hn]) c2 hG
              exact ⟨_, _, hrun, g', (Adv.drew g w (w.drawn + 1)).trans a1, a2, a3⟩
            · cases h
          · cases h
      · cases h
theorem appendArr_ok {ts : Array TypeId} {t t1 e sz by_ ty : Nat} {i : TypeInfo} {zv : Value} (A : AppIn P ts t t1 e sz by_ i zv) (hi : Inv g st w) {x : Value} {new xs : List AV} {md : Nat} {us : List Value} {x' : AV} {cap : Option Nat} {b off o len c : Nat} (hs : AppSrc P w t1 e sz x new.length us) (hr : RepE g sz us new) (hne : 0 < new.length)
    (hx : Rep g (.slice (some ⟨b, off, none⟩) len c) (.arr sz o off len cap)) (hrd : readRow P e st (.arr sz o off len cap) = some xs) (h : appendArr md sz by_ e o off len cap xs new st = some (x', st')) :
    AppOk P g st' w x' (Builtin.append_ ts ty #[.slice (some ⟨b, off, none⟩) len c, x]) := by
  cases hx with
  | arr b off o len c sz cap hl hc hz hcap =>
    obtain ⟨hsz, a, tot, cs, hg, h7, hb, hn, c2, e2, fr, vs, rest, h1, h2, h3, h4, h5, h6, q⟩ := readRow_arr hrd hl hi
    obtain ⟨f1, f2, f3⟩ := hr.flat'
    have hlv := h3.length
    have hfirst : ∀ w' : World, w'.heap = w.heap → (Builtin.firstCells sz len (.slice (some ⟨b, off, none⟩) len c)).run P w' = .ok ((vs.drop off).take (len * sz)).toArray w' := by
      intro w' hw
      refine run_firstCells_some w' sz len ⟨b, off, none⟩ len c _ (by rw [q.length, a]) (fun j u hj => ?_)
      have hj' : vs[off + j]? = some u := by
        rw [List.getElem?_take] at hj
        split at hj
        · rwa [List.getElem?_drop] at hj
        · cases hj
      have : c2.toList[off + j]? = some u := by rw [h2, List.getElem?_append_left (List.getElem?_eq_some_iff.1 hj').1]; exact hj'
      simp only [add_plain]
      simp [World.cell?, hw, h1]
      simpa using this
    unfold appendArr at h
    split at h
    · rename_i c'
      have := hcap _ rfl; subst this
      split at h
      · rename_i hlt
        exact app_fresh A hi hs hr q a hfirst hlt h
      · rename_i hlt
        rw [hg] at h
        simp only at h
        split at h
        · rename_i cs' hsp
          simp only [Option.some.injEq, Prod.mk.injEq] at h
          obtain ⟨rfl, rfl⟩ := h
          obtain ⟨h8, rfl⟩ := splice_some hsp
          have hfl := f1.length
          have hrl : us.length = new.length * sz := f3
          have hle : len + new.length ≤ c' := by omega
          have hcs : c2.size = (vs ++ rest).length := by rw [← Array.length_toList, h2]
          simp only [List.length_append] at hcs
          obtain ⟨w', c3, k1, k2, k3⟩ := store_run (P := P) b (off + len * sz) e2 fr us 0 w c2 h1 (by omega) f2 (fun i _ hi' => h5 i (Nat.zero_le _) hi')
          simp only [Nat.add_zero] at k3
          have hnew : c3.toList = (vs.take (off + len * sz) ++ us ++ vs.drop (off + len * sz + (flat new).length)) ++ rest := by
            rw [k3, h2, hfl]
            rw [List.take_append, List.drop_append, show off + len * sz - vs.length = 0 by omega, show off + len * sz + (flat new).length - vs.length = 0 by omega]
            simp [List.append_assoc]
          have hc3 : c3.size = c2.size := by
            rw [← Array.length_toList, k3, ← Array.length_toList]
            simp only [List.length_append, List.length_take, List.length_drop, Array.length_toList]
            omega
          obtain ⟨i1, a1⟩ := hi.writeCells (ys := cs.take (off + len * sz) ++ flat new ++ cs.drop (off + len * sz + (flat new).length)) hb hg h1 k2 hnew
            (((h3.take _).append f1).append (h3.drop _)) (((h4.take _).append f2).append (h4.drop _)) (hi.allRest hb hg h1 h2) (fun i _ hi' => h5 i (Nat.zero_le _) (by omega)) (by omega)
          have hrun := app_in (ty := ty) A.h0 A.h1 A.ht A.hsz hz hs (some ⟨b, off, none⟩) len c' hle
          simp only [add_plain, k1, Result.andThen_ok] at hrun
          exact ⟨_, w', hrun, g, a1, i1, .arr _ _ _ _ _ _ _ hl hle hz (fun m hm => by injection hm with hm; exact hm.symm)⟩
        · cases h
    · split at h
      rotate_left
      · cases h
      rename_i cs1 hget
      have hg' : st.getCells o = some cs1 := by unfold Store.getCells; rw [hget]
      rw [hg] at hg'; injection hg' with hg'; subst hg'
      have hfr : fr.2 ≤ fr.1 := by
        obtain ⟨y, y1, y2⟩ := hi.obj b o tot hb
        rw [hget] at y1; injection y1 with y1; subst y1
        obtain ⟨_, _, _, _, _, z1, _, _, _, z5, _⟩ := y2
        rw [h1] at z1; injection z1 with z1; injection z1 with _ _ z1; subst z1
        exact z5
      split at h
      · rename_i hcond
        obtain ⟨rfl, hcl⟩ := hcond
        have hd := hi.die hb
        have hb1 : (g.drop b o).blk b = none := Gh.drop_same
        have hle1 : Le g (g.drop b o) := Le.drop hb
        have advd : Adv g w (g.drop b o) w := ⟨hle1, Nat.le_refl _, fun b' _ hn' => ⟨rfl, by
          have : b' ≠ b := by rintro rfl; rw [hb] at hn'; cases hn'
          rw [Gh.drop_other this]; exact hn'⟩, fun _ _ _ => rfl, rfl, rfl, rfl⟩
        by_cases hle : len + new.length ≤ c
        · have hgood : (xs ++ new).length * by_ ≤ maxBytes ∧ (xs ++ new).length ≤ maxBytes ∧ 0 < sz := by
            unfold freshV at h
            split at h
            · assumption
            · cases h
          unfold freshV at h
          rw [if_pos hgood] at h
          simp only [if_true, Option.some.injEq, Prod.mk.injEq] at h
          obtain ⟨rfl, rfl⟩ := h
          have hmc : (len + new.length) * sz ≤ c * sz := Nat.mul_le_mul_right _ hle
          rw [Nat.add_mul] at hmc
          have hcs : c2.size = (vs ++ rest).length := by rw [← Array.length_toList, h2]
          simp only [List.length_append] at hcs
          obtain ⟨w', c3, k1, k2, k3⟩ := store_run (P := P) b (0 + len * sz) e2 fr us 0 w c2 h1 (by omega) f2 (fun i _ hi' => h5 i (Nat.zero_le _) hi')
          simp only [Nat.add_zero, Nat.zero_add] at k3
          have hvl : vs.length = len * sz := by omega
          have hnew : c3.toList = (vs ++ us) ++ rest.drop us.length := by
            rw [k3, h2, List.take_append_of_le_length (by omega), List.take_of_length_le (by omega), List.drop_append, List.drop_of_length_le (by omega), show len * sz + us.length - vs.length = us.length by omega]
            simp
          have hc3 : c3.size = c2.size := by
            rw [← Array.length_toList, k3, ← Array.length_toList]
            simp only [List.length_append, List.length_take, List.length_drop, Array.length_toList]
            omega
          have hd' : Inv (g.drop b o) (st.set o .dead) w' := hd.same fun b' hb' => k2.other b' (by rintro rfl; exact hb' hb1)
          have hle2 : Le (g.drop b o) ((g.drop b o).upd b (.obj (st.set o .dead).nobj c3.size)) := Le.upd_new _ _ hb1
          have hlx : Le g ((g.drop b o).upd b (.obj (st.set o .dead).nobj c3.size)) := hle1.trans hle2
          have hflat : flat (xs ++ new) = flat xs ++ flat new := by simp [flat]
          have q1 : Reps g vs (flat xs) := by
            have := q.flat'.1
            rwa [List.drop_zero, List.take_of_length_le (by omega)] at this
          have hi2 := hd'.adopt (b := b) (tot := c3.size) hb1 (.cells (flat (xs ++ new))) ⟨c3, e2, fr, vs ++ us, _, k2.here, hnew, by rw [hflat]; exact (q1.mono hlx).append (f1.mono hlx), (by rw [hnew]; exact (h4.append f2).append ((hi.allRest hb hg h1 h2).drop _)), hfr, rfl⟩
          have hrun := app_in (ty := ty) A.h0 A.h1 A.ht A.hsz hz hs (some ⟨b, 0, none⟩) len c hle
          simp only [add_plain, k1, Result.andThen_ok] at hrun
          have hla : (xs ++ new).length = len + new.length := by simp [a]
          refine ⟨_, w', hrun, _, ?_, hi2, ?_⟩
          · refine ⟨hlx, Nat.le_of_eq k2.size.symm, fun b' _ hn' => ?_, fun b' cs' hb' => k2.other b' (by rintro rfl; rw [hb] at hb'; cases hb'), k2.os, k2.tape, k2.output⟩
            have : b' ≠ b := by rintro rfl; rw [hb] at hn'; cases hn'
            exact ⟨k2.other b' this, by rw [Gh.upd_other _ _ this, Gh.drop_other this]; exact hn'⟩
          · rw [hla]
            exact .arr _ _ _ _ _ _ _ (.inr ⟨_, Gh.upd_same _ _ _, by omega⟩) hle hz (fun m hm => by cases hm)
        · obtain ⟨v, w', r1, g', r2, r3, r4⟩ := app_fresh (ty := ty) A hd hs (hr.mono hle1) (q.mono hle1) a hfirst (by omega) h
          exact ⟨v, w', r1, g', advd.trans r2, r3, r4⟩
      · cases h
end
end Go.Sim

namespace Go.Sim
open Go.WideShapes (add_plain)

section
variable {P : Program} {g : Gh} {B : Nat → Nat} {st st' : Store} {w : World} {out : Out}

/-- What is read of a slice or a text. -/
theorem src_ok {e sz : Nat} {v : Value} {x : AV} {ys : List AV} (h : readRow P e st x = some ys) (hsz : sizeT P e = some sz) (hr : Rep g v x) (hi : Inv g st w) :
    ∃ vs, RepE g sz vs ys ∧ (∀ m, m ≤ ys.length → (Builtin.firstCells sz m v).run P w = .ok (vs.take (m * sz)).toArray w) ∧ (Builtin.lenOf v).run P w = .ok ys.length w ∧
      ∀ t1 e1, (P.underlying t1 = some (.slice e1) ∨ P.underlying t1 = some .string) → AppSrc P w t1 e sz v ys.length vs := by
  by_cases hs : ∃ s, x = .str s
  · obtain ⟨s, rfl⟩ := hs
    cases hr with
    | str s =>
      simp only [readRow] at h
      split at h
      · rename_i h1
        injection h with h; subst h
        rw [hsz] at h1; injection h1 with h1; subst h1
        refine ⟨_, bytesV_repE _, fun m hm => ?_, ?_, fun t1 e1 hd => ?_⟩
        · simp only [Builtin.firstCells, Sem.run_pure]
          congr 1
          apply Array.ext'
          simp [bytesV] at hm
          simp [ByteArray.data_extract]
        · simp [Builtin.lenOf, bytesV]
        · have := AppSrc.str (P := P) (w := w) (e := e) (sz := 1) e1 hd s rfl
          simpa [bytesV] using this
      · cases h
  · obtain ⟨sz', hz⟩ := readRow_ok h hr hi (fun s hx => hs ⟨s, hx⟩)
    rcases hz with ⟨hsz', ⟨a, c, rfl, hc, vs, he, hv⟩⟩ | ⟨rfl, rfl⟩
    · rw [hsz] at hsz'; injection hsz' with hsz'; subst hsz'
      have hvl := he.length
      refine ⟨vs, he, fun m hm => ?_, by simp [Builtin.lenOf], fun t1 e1 hd => .slice e1 hd _ _ _ _ hvl ?_⟩
      · rcases hv with rfl | ⟨b, o, rfl, hv⟩
        · simp at hm; subst hm
          simpa using firstCells_none (P := P) sz 0 w a c
        · have hl : (vs.take (m * sz)).length = m * sz := by
            rw [List.length_take, hvl]
            exact Nat.min_eq_left (Nat.mul_le_mul_right _ hm)
          refine run_firstCells_some w sz m ⟨b, o, none⟩ _ c _ hl (fun j u hj => ?_)
          rw [List.getElem?_take] at hj
          split at hj
          · simpa [add_plain] using hv j u hj
          · cases hj
      · rcases hv with rfl | ⟨b, o, rfl, hv⟩
        · exact .inl ⟨by simpa using hvl, rfl⟩
        · exact .inr ⟨b, o, rfl, hv⟩
    · cases hr with
      | nils => exact ⟨[], .nil _, fun m hm => by simp at hm; subst hm; simpa using firstCells_none (P := P) sz 0 w none 0, by simp [Builtin.lenOf], fun t1 e1 hd => .slice e1 hd _ _ _ _ (by simp) (.inl ⟨rfl, rfl⟩)⟩

theorem appendV_ok {ts : Array TypeId} {t t1 e ty md : Nat} (h0 : ts[0]? = some t) (h1 : ts[1]? = some t1) (ht : P.underlying t = some (.slice e)) (hi : Inv g st w) {s x : Value} {sx x' : AV} {new : List AV} (hr : Rep g s sx)
    (hsrc : ∀ sz, sizeT P e = some sz → ∃ us, AppSrc P w t1 e sz x new.length us ∧ RepE g sz us new) (h : appendV P md e sx new st = some (x', st')) : AppOk P g st' w x' (Builtin.append_ ts ty #[s, x]) := by
  unfold appendV at h
  split at h
  · rename_i by_ hby
    split at h
    · rename_i sz hsz
      split at h
      · rename_i z hz
        split at h
        · rename_i hcond
          obtain ⟨hzl, hzp⟩ := hcond
          obtain ⟨i, zv, k1, k2, k3, k4⟩ := zeroT_ok hz
          obtain ⟨r1, r1'⟩ := Rep.cells (k3 g) k4
          have A : AppIn P ts t t1 e sz by_ i zv := ⟨h0, h1, ht, k1, by obtain ⟨i', hi', rfl⟩ := sizeT_some hsz; rw [k1] at hi'; injection hi' with hi'; subst hi'; rfl, by
            unfold bytesT at hby; simp only [Look.of] at hby; rw [k1] at hby; exact Option.some.inj hby, k2, by have := r1.length; simp at this; omega, hzp, r1'⟩
          obtain ⟨us, hs, hu⟩ := hsrc sz hsz
          split at h
          · rename_i xs hrd
            by_cases hem : new = []
            · subst hem
              have hus : us = [] := by have := hu.length; simpa using this
              subst hus
              simp only [List.isEmpty_nil, if_true] at h
              have fin : ∀ (base : Option Addr) (len cap : Nat), len ≤ cap → (Builtin.append_ ts ty #[.slice base len cap, x]).run P w = .ok (.slice base len cap) w := by
                intro base len cap hle
                have := app_in (ty := ty) h0 h1 ht hsz hzp hs base len cap hle
                cases base <;> simpa [storeCells] using this
              cases hr with
              | nils =>
                simp only [Option.some.injEq, Prod.mk.injEq] at h
                obtain ⟨rfl, rfl⟩ := h
                exact ⟨_, w, fin none 0 0 (Nat.le_refl _), g, Adv.refl g w, hi, .nils⟩
              | row b o n c sz' tok cap xs' vs hv he hn hc hz hcap htk =>
                simp only [Option.some.injEq, Prod.mk.injEq] at h
                obtain ⟨rfl, rfl⟩ := h
                exact ⟨_, w, fin _ n c hc, g, Adv.refl g w, hi, .row b o n c sz' tok cap xs' vs hv he hn hc hz hcap htk⟩
              | arr b off o len c sz' cap hl hc hz hcap =>
                simp only [Option.some.injEq, Prod.mk.injEq] at h
                obtain ⟨rfl, rfl⟩ := h
                exact ⟨_, w, fin _ len c hc, g, Adv.refl g w, hi, .arr b off o len c sz' cap hl hc hz hcap⟩
              | str s => cases h
              | _ => simp [readRow] at hrd
            · have hne : 0 < new.length := List.length_pos_iff.2 hem
              have hem' : new.isEmpty = false := by simpa using hem
              rw [hem'] at h
              simp only [Bool.false_eq_true, if_false] at h
              cases hr with
              | nils =>
                exact app_fresh (olds := []) (vs := []) A hi hs hu (.nil _) rfl (fun w' _ => firstCells_none _ _ _ _ _) (by simpa using hne) (by simpa using h)
              | row b o n c sz' tok cap xs' vs hv he hn hc hz hcap htk =>
                simp only [readRow] at hrd
                split at hrd
                · rename_i hszz
                  rw [hsz] at hszz; injection hszz with hszz; subst hszz
                  exact appendRow_ok A hi hs hu hne (.row b o n c sz tok cap xs' vs hv he hn hc hz hcap htk) h
                · cases hrd
              | arr b off o len c sz' cap hl hc hz hcap =>
                have hszz := (readRow_arr hrd hl hi).1
                rw [hsz] at hszz; injection hszz with hszz; subst hszz
                exact appendArr_ok A hi hs hu hne (.arr b off o len c sz cap hl hc hz hcap) hrd h
              | _ => cases h
          · cases h
        · cases h
      · cases h
    · cases h
  · cases h
theorem AppOk.val {x' : AV} {s : Sem Value} (h : AppOk P g st' w x' s) : ValOk g B P st' w (.val x') s := let ⟨v, w', h1, h2⟩ := h; ⟨v, w', h1, h2⟩
theorem aAppend_ok {ts : Array TypeId} {t t1 ty md : Nat} {ins : List In} {a b : Value} (h0 : ts[0]? = some t) (h1 : ts[1]? = some t1) (h : aAppend P md t t1 ins st = some (out, st')) (hin : InsRel g B w ins [a, b]) (hi : Inv g st w) : ValOk g B P st' w out (Builtin.append_ ts ty #[a, b]) := by
  match ins, hin with
  | [.val s, .val x], .cons _ _ _ _ hs (.cons _ _ _ _ hx .nil) =>
    simp only [aAppend] at h
    split at h
    · rename_i e hel
      have hu := elemT_some (P := P) hel
      have fin : ∀ xs, ansV (appendV P md e s xs st) = some (out, st') → (∀ sz, sizeT P e = some sz → ∃ us, AppSrc P w t1 e sz b xs.length us ∧ RepE g sz us xs) → ValOk g B P st' w out (Builtin.append_ ts ty #[a, b]) := by
        intro xs hx hsrc
        cases hr : appendV P md e s xs st with
        | none => simp [hr, ansV] at hx
        | some r =>
          simp only [hr, ansV, Option.some.injEq, Prod.mk.injEq] at hx
          obtain ⟨rfl, rfl⟩ := hx
          exact (appendV_ok h0 h1 hu hi hs hsrc hr).val
      split at h
      · rename_i hint
        split at h
        · rename_i xs hz
          refine fin xs h (fun sz hsz => ?_)
          cases hx with
          | int k n =>
            simp only [zerosV] at hz
            split at hz
            · rename_i sz' hsz'
              rw [hsz] at hsz'; injection hsz' with hsz'; subst hsz'
              split at hz
              · rename_i by_ hby
                split at hz
                · rename_i z hzt
                  obtain ⟨i, zv, k1, k2, k3, k4⟩ := zeroT_ok hzt
                  split at hz
                  · rename_i hc
                    obtain ⟨c1, c2, c3, c4⟩ := hc
                    injection hz with hz; subst hz
                    obtain ⟨z1, z2⟩ := zeros_ok (e := e) k3 k4 c4 n.toNat g
                    have hib : i.bytes = by_ := by
                      unfold bytesT at hby
                      simp only [Look.of] at hby
                      rw [k1] at hby
                      exact Option.some.inj hby
                    unfold isIntT at hint
                    split at hint
                    · rename_i k' hk'
                      refine ⟨_, ?_, z2⟩
                      have := AppSrc.zeros (P := P) (w := w) (t1 := t1) (e := e) (sz := sz) k' k hk' n.toNat (by omega) i k1 (by rw [hib]; exact c3) zv k2 z1
                      rw [Int.toNat_of_nonneg c1] at this
                      simpa using this
                    · cases hint
                    · cases hint
                    · cases hint
                  · cases hz
                · cases hz
              · cases hz
            · cases hz
          | _ => simp [zerosV] at hz
        · cases h
      · rename_i hint
        split at h
        · rename_i xs hrd
          refine fin xs h (fun sz hsz => ?_)
          obtain ⟨vs, q1, _, _, q2⟩ := src_ok hrd hsz hx hi
          refine ⟨vs, ?_, q1⟩
          unfold isIntT at hint
          split at hint
          · cases hint
          · rename_i e1 he1; exact q2 t1 e1 (.inl he1)
          · rename_i he1; exact q2 t1 0 (.inr he1)
          · cases hint
        · cases h
      · cases h
    · cases h
  | [.val _, .loc ..], _ => simp [aAppend] at h
  | [.loc .., _], _ => simp [aAppend] at h

theorem copyV_ok {ts : Array TypeId} {t e ty sz : Nat} (h0 : ts[0]? = some t) (ht : P.underlying t = some (.slice e)) (hsz : sizeT P e = some sz) (hi : Inv g st w) {d x : Value} {dx x' sx : AV} {src : List AV} (hd : Rep g d dx) (hx : Rep g x sx) (hrd : readRow P e st sx = some src)
    (hes : ∀ s o off len cap, dx = .arr s o off len cap → s = sz) (h : copyV dx src st = some (x', st')) : AppOk P g st' w x' (Builtin.copy_ ts ty #[d, x]) := by
  obtain ⟨vs, he, hf, hl, _⟩ := src_ok hrd hsz hx hi
  have hsz' := run_sizeOf hsz
  have none_ : ∀ (base : Option Addr) (len cap : Nat), min src.length len = 0 → (Builtin.copy_ ts ty #[.slice base len cap, x]).run P w = .ok (.int .i64 0) w := by
    intro base len cap h0'
    have hf0 : (Builtin.firstCells sz 0 x).run P w = .ok #[] w := by simpa using hf 0 (Nat.zero_le _)
    have h0'' : Nat.min src.length len = 0 := h0'
    cases base <;> simp [Builtin.copy_, h0, run_underlying ht, hl, hsz', h0'', storeCells, goInt, hf0]
  cases hd with
  | nils =>
    simp only [copyV, Option.some.injEq, Prod.mk.injEq] at h
    obtain ⟨rfl, rfl⟩ := h
    exact ⟨_, w, none_ none 0 0 (by simp), g, Adv.refl g w, hi, .int _ _⟩
  | row b o n c sz' tok cap xs vs' hv he' hn hc hz hcap ht' =>
    simp only [copyV] at h
    split at h
    · rename_i h0'
      simp only [Option.some.injEq, Prod.mk.injEq] at h
      obtain ⟨rfl, rfl⟩ := h
      rw [hn] at h0'
      exact ⟨_, w, none_ _ n c h0', g, Adv.refl g w, hi, .int _ _⟩
    · cases h
  | arr b off o len c sz' cap hla hc hz hcap =>
    have := hes _ _ _ _ _ rfl; subst this
    simp only [copyV] at h
    split at h
    · rename_i cs hg
      split at h
      · rename_i cs' hsp
        simp only [Option.some.injEq, Prod.mk.injEq] at h
        obtain ⟨rfl, rfl⟩ := h
        obtain ⟨tot, hb, hn, c2, e2, fr, vs2, rest, h1, h2, h3, h4, h5, h6⟩ := hi.cellsAt hla hg
        obtain ⟨h8, rfl⟩ := splice_some hsp
        have hm : min src.length len ≤ src.length := Nat.min_le_left _ _
        have htk : src.take len = src.take (min src.length len) := by
          rw [Nat.min_comm, List.take_eq_take_iff]; omega
        have hus := he.take (min src.length len)
        rw [← htk] at hus
        obtain ⟨f1, f2, f3⟩ := hus.flat'
        have hfl := f1.length
        have hlv := h3.length
        have hcs : c2.size = (vs2 ++ rest).length := by rw [← Array.length_toList, h2]
        simp only [List.length_append] at hcs
        obtain ⟨w', c3, k1, k2, k3⟩ := store_run (P := P) b off e2 fr (vs.take (min src.length len * sz')) 0 w c2 h1 (by omega) f2 (fun i _ hi' => h5 i (Nat.zero_le _) hi')
        simp only [Nat.add_zero] at k3
        have hnew : c3.toList = (vs2.take off ++ vs.take (min src.length len * sz') ++ vs2.drop (off + (flat (src.take len)).length)) ++ rest := by
          rw [k3, h2, hfl]
          rw [List.take_append, List.drop_append, show off - vs2.length = 0 by omega, show off + (flat (src.take len)).length - vs2.length = 0 by omega]
          simp [List.append_assoc]
        have hc3 : c3.size = c2.size := by
          rw [← Array.length_toList, k3, ← Array.length_toList]
          simp only [List.length_append, List.length_take, List.length_drop, Array.length_toList] at *
          omega
        obtain ⟨i1, a1⟩ := hi.writeCells (ys := cs.take off ++ flat (src.take len) ++ cs.drop (off + (flat (src.take len)).length)) hb hg h1 k2 hnew
          (((h3.take _).append f1).append (h3.drop _)) (((h4.take _).append f2).append (h4.drop _)) (hi.allRest hb hg h1 h2) (fun i _ hi' => h5 i (Nat.zero_le _) (by omega)) (by omega)
        have hf' := hf _ hm
        have hrun : (Builtin.copy_ ts ty #[.slice (some ⟨b, off, none⟩) len c, x]).run P w = .ok (.int .i64 (min src.length len : Nat)) w' := by
          have hmin : Nat.min src.length len = min src.length len := rfl
          simp only [Builtin.copy_, Sem.run_bind, Result.andThen_ok]
          simp [h0, run_underlying ht, hl, hsz', hmin, hf', k1, goInt]
        exact ⟨_, w', hrun, g, a1, i1, .int _ _⟩
      · cases h
    · cases h
  | _ => simp [copyV] at h
theorem aCopy_ok {ts : Array TypeId} {t ty : Nat} {ins : List In} {a b : Value} (h0 : ts[0]? = some t) (h : aCopy P t ins st = some (out, st')) (hin : InsRel g B w ins [a, b]) (hi : Inv g st w) : ValOk g B P st' w out (Builtin.copy_ ts ty #[a, b]) := by
  match ins, hin with
  | [.val d, .val x], .cons _ _ _ _ hd (.cons _ _ _ _ hx .nil) =>
    simp only [aCopy] at h
    split at h
    · rename_i e hel
      split at h
      · rename_i sz hsz
        split at h
        · rename_i xs hrd
          split at h
          · rename_i hes
            cases hr : copyV d xs st with
            | none => simp [hr, ansV] at h
            | some r =>
              simp only [hr, ansV, Option.some.injEq, Prod.mk.injEq] at h
              obtain ⟨rfl, rfl⟩ := h
              refine (copyV_ok h0 (elemT_some (P := P) hel) hsz hi hd hx hrd (fun s o off len cap e => ?_) hr).val
              subst e
              simpa [elSize] using hes
          · cases h
        · cases h
      · cases h
    · cases h
  | [.val _, .loc ..], _ => simp [aCopy] at h
  | [.loc .., _], _ => simp [aCopy] at h
end
end Go.Sim

namespace Go.Sim
open Go.WideShapes (add_plain)

section
variable {P : Program} {g : Gh} {B : Nat → Nat} {st st' : Store} {w : World} {out : Out}

theorem asBytesN_ok : ∀ {xs : List AV} {bs : List UInt8} {vs : List Value}, asBytesN xs = some bs → RepE g 1 vs xs → vs = Lib.byteCells bs ∧ bs.length = xs.length
  | [], bs, vs, h, he => by
    cases he
    simp [asBytesN] at h; subst h
    exact ⟨rfl, rfl⟩
  | x :: xs, bs, vs, h, he => by
    match vs, he with
    | _, .cons _ c _ vs' _ hl h1 hc hs =>
    simp only [asBytesN] at h
    split at h
    · rename_i b hb
      split at h
      · rename_i bs' hbs
        injection h with h; subst h
        obtain ⟨rfl, hl'⟩ := asBytesN_ok hbs hs
        unfold asByteN at hb
        split at hb
        · rename_i m
          split at hb
          · rename_i hm
            injection hb with hb; subst hb
            match c, hc with
            | [_], .cons _ _ _ _ (.int _ _) .nil =>
              refine ⟨?_, by simp [hl']⟩
              simp only [Lib.byteCells, List.map_cons, List.singleton_append, List.cons.injEq, Value.int.injEq, true_and, and_true]
              simp [UInt8.toNat_ofNat, Nat.mod_eq_of_lt hm]
          · cases hb
        · cases hb
      · cases h
    · cases h
theorem aSliceData_ok {ts : Array TypeId} {ty : TypeId} {ins : List In} {a : Value} (h : aSliceData ins st = some (out, st')) (hin : InsRel g B w ins [a]) (hi : Inv g st w) : ValOk g B P st' w out (Builtin.unsafeSliceData_ ts ty #[a]) := by
  unfold aSliceData at h
  split at h
  · simp only [Option.some.injEq, Prod.mk.injEq] at h
    obtain ⟨rfl, rfl⟩ := h
    match hin with
    | .cons _ _ _ _ hx .nil =>
      cases hx
      exact ⟨.pointer none, w, Lib.run_unsafeSliceData_nil w ts ty 0 0, OutOk.pure hi .nilptr⟩
  · rename_i t cap x xs
    simp only [Option.some.injEq, Prod.mk.injEq] at h
    obtain ⟨rfl, rfl⟩ := h
    match hin with
    | .cons _ _ _ _ hx .nil =>
      cases hx with
      | row b o n c sz tok cap xs' vs hv he hn hc hz hcap ht =>
        have hn1 : 1 ≤ n := by rw [← hn]; simp
        rcases ht t 0 rfl with h0 | ⟨start, tot, cs, hb, hs, ho, _, _⟩
        · omega
        have hs0 : start = 0 := by omega
        subst hs0
        have ho0 : o = 0 := by simpa using ho
        subst ho0
        refine ⟨.pointer (some ⟨b, 0, none⟩), w, Lib.run_unsafeSliceData_row w ts ty _ n c (by omega), OutOk.pure hi ?_⟩
        rcases hv with rfl | ⟨y, cs', hb', hy, hp⟩
        · have := he.length
          simp at this
        · rw [hb] at hb'; injection hb' with hb'; subst hb'
          injection hy with hy; subst hy
          exact .uptr b t tot cs vs _ hb (by simpa using hp) he
  · cases h
theorem heap_freeze {b n : Nat} {c : Array Value} {e : TypeId} {fr : Nat × Nat} (hn : n ≠ 0) (h : w.heap[b]? = some (.cells c e fr)) :
    Upd w b (.cells c e (if fr.1 == fr.2 then (0, 0 + n) else (min fr.1 0, max fr.2 (0 + n)))) (w.freeze ⟨b, 0, none⟩ n) := by
  obtain ⟨hlt, hb⟩ := Array.getElem?_eq_some_iff.1 h
  unfold World.freeze
  rw [if_neg hn]
  refine ⟨?_, fun i hi => ?_, by simp, rfl, rfl, rfl⟩
  · simp only []
    rw [Array.getElem?_eq_getElem (by rw [Array.size_modify]; exact hlt), Array.getElem_modify_self, hb]
  · simp only [Array.getElem?_modify]
    rw [if_neg (fun e => hi e.symm)]
theorem aUnsafeStr_ok {ts : Array TypeId} {pt it ty : TypeId} {ins : List In} {a b : Value} (h : aUnsafeStr P pt ins st = some (out, st')) (hin : InsRel g B w ins [a, b]) (hi : Inv g st w) (hts : ts = #[pt, it]) : ValOk g B P st' w out (Builtin.unsafeString_ ts ty #[a, b]) := by
  subst hts
  unfold aUnsafeStr at h
  split at h
  · rename_i t xs n
    split at h
    · rename_i hc
      obtain ⟨rfl, h63, hne⟩ := hc
      split at h
      · rename_i e hp
        split at h
        · rename_i hsz
          split at h
          · rename_i top e' htop
            split at h
            · rename_i he'
              subst he'
              split at h
              · rename_i bs hbs
                simp only [Option.some.injEq, Prod.mk.injEq] at h
                obtain ⟨rfl, rfl⟩ := h
                match hin with
                | .cons _ _ _ _ hx (.cons _ _ _ _ hy .nil) =>
                cases hy
                cases hx with
                | uptr b t tot cs vs xs' hb hv he =>
                  obtain ⟨rfl, hbl⟩ := asBytesN_ok hbs he
                  obtain ⟨h0, c, e0, fr, top0, k, h2, h3, h4, h5, h6, h7, h8⟩ := hi.row _ _ _ _ _ _ hb
                  have he0 : e0 = e' := by rw [htop] at h5; injection h5 with h5; injection h5 with _ h5; exact h5.symm
                  subst he0
                  have hvc : Lib.byteCells bs <+: c.toList := hv.trans h3
                  have hvl : bs.length ≤ cs.length := by have := hv.length_le; rwa [Lib.byteCells_length] at this
                  have hcl : cs.length ≤ c.size := by have := h3.length_le; simpa using this
                  have hbne : bs ≠ [] := by rintro rfl; simp at hbl; exact hne (List.eq_nil_of_length_eq_zero hbl.symm)
                  have hsz1 : P.cellsOf e0 = 1 := by
                    obtain ⟨i, hi', hs'⟩ := sizeT_some hsz
                    simp [Program.cellsOf, hi', hs']
                  have hrun := Lib.run_unsafeString_row (P := P) w pt it ty e0 hp hsz1 b c.size (by simp [World.shape?, h2]) bs hbne (by omega) (by omega) (fun j x hj => by
                    have : (Lib.byteCells bs)[j]? = some (.int .u8 x.toNat) := by simp [Lib.byteCells, hj]
                    have := getElem?_of_prefix hvc this
                    rw [add_plain]
                    simp [World.cell?, h2]
                    simpa using this)
                  rw [hbl] at hrun
                  have hup := heap_freeze (w := w) (b := b) (n := xs.length) (by intro e; exact hne (List.eq_nil_of_length_eq_zero e)) h2
                  refine ⟨_, _, hrun, g, ?_, ?_, ?_⟩
                  · refine ⟨Le.refl g, Nat.le_of_eq hup.size.symm, fun b' _ hn => ⟨hup.other b' (by rintro rfl; rw [hb] at hn; cases hn), hn⟩, fun b' cs' hb' => hup.other b' (by rintro rfl; rw [hb] at hb'; cases hb'), hup.os, hup.tape, hup.output⟩
                  · refine ⟨hi.wfo, hi.wft, fun b' t' s' sz' n' cs' hb' => ?_, fun b' cs' hb' => ?_, fun b' o' n' hb' => ?_, hi.inj, hi.dead⟩
                    · by_cases e : b' = b
                      · subst e
                        rw [hb] at hb'
                        injection hb' with hb'; injection hb' with a1 a2 a3 a5 a4; subst a1 a2 a3 a4 a5
                        refine ⟨h0, c, e0, _, top0, k, hup.here, h3, h4, h5, h6, ?_, h8⟩
                        rw [← hbl]
                        split
                        · simp; omega
                        · simp only [Nat.zero_add]; omega
                      · obtain ⟨q0, q1, q2, q3, q4, q5, q6, q7⟩ := hi.row _ _ _ _ _ _ hb'
                        exact ⟨q0, q1, q2, q3, q4, q5, (hup.other b' e).trans q6, q7⟩
                    · obtain ⟨q1, q2, q3, q4, q5⟩ := hi.stat _ _ hb'
                      exact ⟨q1, q2, q3, (hup.other b' (by rintro rfl; rw [hb] at hb'; cases hb')).trans q4, q5⟩
                    · obtain ⟨y, q1, q2⟩ := hi.obj _ _ _ hb'
                      exact ⟨y, q1, q2.of_same (hup.other b' (by rintro rfl; rw [hb] at hb'; cases hb'))⟩
                  · have : Rep g (.string ⟨bs.toArray⟩) (.str (⟨bs.toArray⟩ : ByteArray).data.toList) := .str _
                    simpa using this
              · cases h
            · cases h
          · cases h
        · cases h
      · cases h
    · cases h
  · rename_i n
    split at h
    · rename_i hn
      subst hn
      simp only [Option.some.injEq, Prod.mk.injEq] at h
      obtain ⟨rfl, rfl⟩ := h
      match hin with
      | .cons _ _ _ _ hx (.cons _ _ _ _ hy .nil) =>
        cases hx; cases hy
        exact ⟨_, w, Lib.run_unsafeString_none w pt it ty none, OutOk.pure hi (.str _)⟩
    · cases h
  · cases h
end
end Go.Sim

namespace Go.Sim
open Go.WideShapes (add_plain)

section
variable {P : Program} {g : Gh} {B : Nat → Nat} {st st' : Store} {w : World} {out : Out}

/-- What an operation that calls nothing comes to. -/
def NextOk (g : Gh) (B : Nat → Nat) (P : Program) (st' : Store) (w : World) (out : Out) (s : Sem Next) : Prop :=
  ∃ v w', (s.run P w = .ok (.value v) w' ∨ (s.run P w = .ok .skip w' ∧ v = undef)) ∧ OutOk g B st' w out v w'
theorem ValOk.next {s : Sem Value} (h : ValOk g B P st' w out s) : NextOk g B P st' w out (do Pure.pure (Next.value (← s))) := by
  obtain ⟨v, w', h1, h2⟩ := h
  exact ⟨v, w', .inl (by rw [Sem.run_bind, h1]; rfl), h2⟩
theorem UnitOk.next {s : Sem Unit} (h : UnitOk g B P st' w out s) : NextOk g B P st' w out (do s; Pure.pure Next.skip) := by
  obtain ⟨w', h1, h2⟩ := h
  exact ⟨undef, w', .inr ⟨by rw [Sem.run_bind, h1]; rfl, rfl⟩, h2⟩
theorem valsOf_ok : ∀ {ins : List In} {vs : List Value} {xs : List AV}, valsOf ins = some xs → InsRel g B w ins vs → Reps g vs xs
  | [], vs, xs, h, hin => by
    cases hin
    simp [valsOf] at h; subst h; exact .nil
  | .val x :: r, vs, xs, h, hin => by
    match vs, hin with
    | v :: vs, .cons _ _ _ _ hx hs =>
      simp only [valsOf] at h
      split at h
      · rename_i ys hy
        simp only [Option.some.injEq] at h; subst h
        exact .cons _ _ _ _ hx (valsOf_ok hy hs)
      · cases h
  | .loc .. :: r, vs, xs, h, hin => by simp [valsOf] at h
theorem aNilCheck_ok {ins : List In} {v : Value} {ρ : Operand → Value} {x : Operand} {o : Oper} (ho : o.op = .nilCheck x) (hv : ρ x = v) (h : aNilCheck ins st = some (out, st')) (hin : InsRel g B w ins [v]) (hi : Inv g st w) : NextOk g B P st' w out (execOp ρ o) := by
  match ins, hin with
  | [.val y], .cons _ _ _ _ hy .nil =>
    simp only [aNilCheck] at h
    split at h
    · rename_i hn
      simp only [Option.some.injEq, Prod.mk.injEq] at h
      obtain ⟨rfl, rfl⟩ := h
      refine ⟨v, w, .inl ?_, OutOk.pure hi hy⟩
      unfold execOp
      rw [ho]
      simp only [hv]
      cases hy with
      | func fn a b x' y' hf ha hb =>
        cases fn with
        | func f => rfl
        | _ => simp [notNil] at hn
      | ptr => rfl
      | rptr => rfl
      | iface => rfl
      | yield => simp [notNil] at hn
      | _ => simp [notNil] at hn
    · cases h
  | [.loc b off cs], .cons _ _ _ _ hy .nil =>
    simp only [aNilCheck, Option.some.injEq, Prod.mk.injEq] at h
    obtain ⟨rfl, rfl⟩ := h
    obtain ⟨rfl, _⟩ := hy
    refine ⟨_, w, .inl ?_, rfl, rfl, hi⟩
    unfold execOp
    rw [ho]
    simp only [hv]
    rfl
theorem array_of_list {α : Type} {a : Array α} {l : List α} (h : a.toList = l) : a = l.toArray := by rw [← h]
theorem InsRel.length {ins : List In} {vs : List Value} (h : InsRel g B w ins vs) : ins.length = vs.length := by
  match h with
  | .nil => rfl
  | .cons _ _ _ _ _ hs => simp [InsRel.length hs]
theorem aBuiltin_ok {md : Nat} {b : Builtin} {ts : Array TypeId} {ty : TypeId} {ins : List In} {args : Array Value} {cs : Array Bool} (h : aBuiltin P md b ts ins st = some (out, st')) (hin : InsRel g B w ins args.toList) (hi : Inv g st w) :
    NextOk g B P st' w out (builtin b ts ty cs args) := by
  have one : ∀ {ins : List In} {P' : Prop}, InsRel g B w ins args.toList → ins.length = 1 → ∃ a, args = #[a] := by
    intro ins _ h1 h2
    have h3 := h1.length
    rw [h2, Array.length_toList] at h3
    refine ⟨args[0], ?_⟩
    apply Array.ext
    · simp [← h3]
    · intro i hi1 hi2
      have : i = 0 := by simp at hi2; omega
      subst this; rfl
  have two : ∀ {ins : List In}, InsRel g B w ins args.toList → ins.length = 2 → ∃ a b, args = #[a, b] := by
    intro ins h1 h2
    have h3 := h1.length
    rw [h2, Array.length_toList] at h3
    refine ⟨args[0], args[1], ?_⟩
    apply Array.ext
    · simp [← h3]
    · intro i hi1 hi2
      have : i = 0 ∨ i = 1 := by simp at hi2; omega
      rcases this with rfl | rfl <;> rfl
  cases b with
  | len =>
    simp only [aBuiltin] at h
    split at h
    · rename_i t ht
      have hl : ins.length = 1 := by
        unfold aLen at h
        split at h
        · rfl
        · cases h
      obtain ⟨a, rfl⟩ := one (P' := True) hin hl
      exact (aLen_ok (P := P) ht h hin hi).next
    · cases h
  | cap =>
    simp only [aBuiltin] at h
    split at h
    · rename_i t ht
      have hl : ins.length = 1 := by
        unfold aCap at h
        split at h
        · rfl
        · cases h
      obtain ⟨a, rfl⟩ := one (P' := True) hin hl
      exact (aCap_ok (P := P) ht h hin hi).next
    · cases h
  | append =>
    simp only [aBuiltin] at h
    split at h
    · rename_i t ht
      split at h
      · rename_i t1 ht1
        have hl : ins.length = 2 := by
          unfold aAppend at h
          split at h
          · rfl
          · cases h
        obtain ⟨a, b, rfl⟩ := two hin hl
        exact (aAppend_ok (P := P) ht ht1 h hin hi).next
      · cases h
    · cases h
  | copy =>
    simp only [aBuiltin] at h
    split at h
    · rename_i t ht
      have hl : ins.length = 2 := by
        unfold aCopy at h
        split at h
        · rfl
        · cases h
      obtain ⟨a, b, rfl⟩ := two hin hl
      exact (aCopy_ok (P := P) ht h hin hi).next
    · cases h
  | min =>
    simp only [aBuiltin] at h
    have hl : ins.length = 2 := by
      unfold aMin at h
      split at h
      · rfl
      · cases h
    obtain ⟨a, b, rfl⟩ := two hin hl
    exact (aMin_ok (P := P) h hin hi).next
  | max =>
    simp only [aBuiltin] at h
    have hl : ins.length = 2 := by
      unfold aMax at h
      split at h
      · rfl
      · cases h
    obtain ⟨a, b, rfl⟩ := two hin hl
    exact (aMax_ok (P := P) h hin hi).next
  | unsafeSliceData =>
    simp only [aBuiltin] at h
    have hl : ins.length = 1 := by
      unfold aSliceData at h
      split at h
      · rfl
      · rfl
      · cases h
    obtain ⟨a, rfl⟩ := one (P' := True) hin hl
    exact (aSliceData_ok (P := P) h hin hi).next
  | unsafeString =>
    simp only [aBuiltin] at h
    split at h
    · rename_i pt it hts
      have hl : ins.length = 2 := by
        unfold aUnsafeStr at h
        split at h
        · rfl
        · rfl
        · cases h
      obtain ⟨a, b, rfl⟩ := two hin hl
      exact (aUnsafeStr_ok (P := P) h hin hi (array_of_list hts)).next
    · cases h
  | _ => simp [aBuiltin] at h
theorem nextOf {s : Sem Next} {s' : Sem Next} (h : NextOk g B P st' w out s) (e : s' = s) : NextOk g B P st' w out s' := e ▸ h
theorem optList {α β : Type} (x : Option α) (f : α → β) : (x.toArray.toList.map f) = (x.map f).toList := by cases x <;> simp
theorem aop_ok {md : Nat} {o : Oper} {ins : List In} {ρ : Operand → Value} (h : aop P md o.type o.op ins st = some (out, st')) (hin : InsRel g B w ins (o.op.operands.toList.map ρ)) (hi : Inv g st w) : NextOk g B P st' w out (execOp ρ o) := by
  cases ho : o.op with
  | move x =>
    simp only [ho, aop, Op.operands, List.map_cons, List.map_nil] at h hin
    exact ⟨_, w, .inl (by simp [execOp, ho]), aMove_ok (P := P) h hin hi⟩
  | assign x =>
    simp only [ho, aop, Op.operands, List.map_cons, List.map_nil] at h hin
    exact ⟨_, w, .inl (by simp [execOp, ho]), aMove_ok (P := P) h hin hi⟩
  | pick c a b =>
    simp only [ho, aop, Op.operands, List.map_cons, List.map_nil] at h hin
    obtain ⟨v, w', h1, h2⟩ := aPick_ok (P := P) h hin hi
    exact ⟨v, w', .inl (by
      simp only [execOp, ho, Sem.run_bind, Sem.run_pure] at h1 ⊢
      cases hb : (asBool (ρ c)).run P w with
      | ok b w1 => simp only [hb, Result.andThen_ok, Result.ok.injEq] at h1 ⊢; obtain ⟨rfl, rfl⟩ := h1; exact ⟨rfl, rfl⟩
      | halt a b => simp [hb] at h1), h2⟩
  | alloc t =>
    simp only [ho, aop] at h
    exact nextOf (aAlloc_ok (P := P) h hi).next (by simp only [execOp, ho])
  | box t x =>
    simp only [ho, aop, Op.operands, List.map_cons, List.map_nil] at h hin
    exact nextOf (aBox_ok (P := P) (t := t) h hin hi).next (by simp only [execOp, ho])
  | build t ps =>
    simp only [ho, aop] at h
    split at h
    · rename_i vs hv
      have hr := valsOf_ok hv hin
      simp only [ho, Op.operands] at hr
      exact nextOf (aBuild_ok (P := P) (ρ := ρ) h (by simpa [Function.comp_def] using hr) hi).next (by simp only [execOp, ho])
    · cases h
  | buildSlice t len ps =>
    simp only [ho, aop] at h
    split at h
    · rename_i vs hv
      have hr := valsOf_ok hv hin
      simp only [ho, Op.operands] at hr
      exact nextOf (aBuildSlice_ok (P := P) (ρ := ρ) h (by simpa [Function.comp_def] using hr) hi).next (by simp only [execOp, ho])
    · cases h
  | load t x =>
    simp only [ho, aop, Op.operands, List.map_cons, List.map_nil] at h hin
    exact nextOf (aLoad_ok (P := P) h hin hi).next (by simp only [execOp, ho])
  | store t a x =>
    simp only [ho, aop, Op.operands, List.map_cons, List.map_nil] at h hin
    exact nextOf (aStore_ok (P := P) h hin hi).next (by simp only [execOp, ho])
  | nilCheck x =>
    simp only [ho, aop, Op.operands, List.map_cons, List.map_nil] at h hin
    exact aNilCheck_ok ho rfl h hin hi
  | binOp op t x y r =>
    simp only [ho, aop, Op.operands, List.map_cons, List.map_nil] at h hin
    exact nextOf (aBin_ok (P := P) h hin hi).next (by simp only [execOp, ho])
  | unOp op t x =>
    simp only [ho, aop, Op.operands, List.map_cons, List.map_nil] at h hin
    exact nextOf (aUn_ok (P := P) h hin hi).next (by simp only [execOp, ho])
  | convert s d x =>
    simp only [ho, aop, Op.operands, List.map_cons, List.map_nil] at h hin
    exact nextOf (aConv_ok (P := P) h hin hi).next (by simp only [execOp, ho])
  | makeInterface t x =>
    simp only [ho, aop, Op.operands, List.map_cons, List.map_nil] at h hin
    exact nextOf (aIface_ok (P := P) h hin hi).next (by simp only [execOp, ho])
  | makeFunc fn first captured =>
    simp only [ho, aop] at h
    split at h
    · rename_i vs hv
      have hr := valsOf_ok hv hin
      simp only [ho, Op.operands] at hr
      refine nextOf (aMakeFunc_ok (a := first.map ρ) (b := captured.map ρ) (xs := vs) (by simpa using h) (by simpa [Function.comp_def] using hr) hi).next (by simp only [execOp, ho])
    · cases h
  | makeMap t r =>
    cases r with
    | none =>
      simp only [ho, aop, Option.some.injEq, Prod.mk.injEq] at h
      obtain ⟨rfl, rfl⟩ := h
      exact nextOf (aMakeMap_ok (t := t) hi).next (by simp only [execOp, ho]; rfl)
    | some r => simp [ho, aop] at h
  | makeSlice t l c =>
    simp only [ho, aop, Op.operands, List.map_cons, List.map_nil] at h hin
    exact nextOf (aMakeSlice_ok (P := P) h hin hi).next (by simp only [execOp, ho])
  | slice t x lo hi' mx =>
    simp only [ho, aop] at h
    simp only [ho, Op.operands, Array.toList_append, List.map_append, optList] at hin
    exact nextOf (aSlice_ok (P := P) (ρ := ρ) h (by simpa using hin) hi).next (by simp only [execOp, ho])
  | fieldAddr s x f =>
    simp only [ho, aop, Op.operands, List.map_cons, List.map_nil] at h hin
    exact nextOf (aFieldAddr_ok (P := P) h hin hi).next (by simp only [execOp, ho])
  | field s x f =>
    simp only [ho, aop, Op.operands, List.map_cons, List.map_nil] at h hin
    exact nextOf (aField_ok (P := P) h hin hi).next (by simp only [execOp, ho])
  | indexAddr t x i =>
    simp only [ho, aop, Op.operands, List.map_cons, List.map_nil] at h hin
    exact nextOf (aIndexAddr_ok (P := P) h hin hi).next (by simp only [execOp, ho])
  | index t x i =>
    simp only [ho, aop, Op.operands, List.map_cons, List.map_nil] at h hin
    exact nextOf (aIndex_ok (P := P) h hin hi).next (by simp only [execOp, ho])
  | lookup t x i ok =>
    simp only [ho, aop, Op.operands, List.map_cons, List.map_nil] at h hin
    exact nextOf (aLookup_ok (P := P) h hin hi).next (by simp only [execOp, ho])
  | mapUpdate t m k v =>
    simp only [ho, aop, Op.operands, List.map_cons, List.map_nil] at h hin
    exact nextOf (aMapSet_ok (P := P) h hin hi).next (by simp only [execOp, ho])
  | insert t m k v =>
    simp only [ho, aop, Op.operands, List.map_cons, List.map_nil] at h hin
    exact nextOf (aMapSet_ok (P := P) h hin hi).next (by simp only [execOp, ho])
  | extract x i =>
    simp only [ho, aop, Op.operands, List.map_cons, List.map_nil] at h hin
    exact nextOf (aExtract_ok (P := P) h hin hi).next (by simp only [execOp, ho])
  | range t x =>
    simp only [ho, aop, Op.operands, List.map_cons, List.map_nil] at h hin
    exact nextOf (aRange_ok (P := P) h hin hi).next (by simp only [execOp, ho])
  | next it s =>
    cases s with
    | true =>
      simp only [ho, aop, Op.operands, List.map_cons, List.map_nil] at h hin
      exact nextOf (aNext_ok (P := P) (ty := o.type) h hin hi).next (by simp only [execOp, ho])
    | false => simp [ho, aop] at h
  | call c =>
    simp only [ho, aop] at h
    split at h
    · rename_i b hb
      simp only [ho, Op.operands, Call.operands, hb] at hin
      have e : ∃ cs, execOp ρ o = builtin b c.argTypes o.type cs (c.args.map ρ) := ⟨_, by simp only [execOp, ho, resolve, hb, invoke, pure_bind]; exact rfl⟩
      obtain ⟨cs, e⟩ := e
      exact nextOf (aBuiltin_ok (args := c.args.map ρ) (ty := o.type) (cs := cs) h (by simpa using hin) hi) e
    · cases h
  | _ => simp [ho, aop] at h
end
end Go.Sim

namespace Go.Sim
open Go.WideShapes (add_plain)

section
variable {E : Env} {A : Ann} {g g0 : Gh} {B : Nat → Nat} {st st' : Store} {w w0 : World} {out : Out}

structure FR (A : Ann) (n0 : Nat) (g : Gh) (B : Nat → Nat) (w : World) (fr : AFr) (a : Act) : Prop where
  lt : fr.tmps.length = a.tmps.size
  lo : fr.offs.length = a.tmps.size
  ll : fr.lbs.length = a.tmps.size
  wf : ∀ t b, A.base t = some b → A.base b = some b
  tmp : ∀ t v, A.base t = none → fr.tmps[t]? = some v → Rep g (a.tmps.getD t undef) v
  off : ∀ t b off ob, A.base t = some b → fr.offs[b]? = some (some ob) → fr.offs[t]? = some (some off) → a.tmps.getD t undef = .pointer (some ⟨B b, off, none⟩)
  box : ∀ b ob cs, A.base b = some b → fr.offs[b]? = some (some ob) → fr.lbs[b]? = some cs → Box g w (B b) cs ∧ n0 ≤ B b
  inj : ∀ b b' o o', A.base b = some b → A.base b' = some b' → fr.offs[b]? = some (some o) → fr.offs[b']? = some (some o') → B b = B b' → b = b'

def GlobOk (E : Env) (g : Gh) : Prop := ∀ k v, E.globals k = some v → Rep g (.pointer (some ⟨k, 0, none⟩)) v
theorem GlobOk.mono {g g' : Gh} (h : GlobOk E g) (hl : Le g g') : GlobOk E g' := fun k v hk => (h k v hk).mono hl

/-- Deferred calls: the marks of loops over functions alone, whose blocks lie there, open and empty. -/
def Marks (n0 : Nat) (g : Gh) (w : World) : List Deferred → Prop
  | [] => True
  | d :: ds => (∃ r, d = { target := .collected r, args := #[] } ∧ n0 ≤ r ∧ g.blk r = none ∧ w.heap[r]? = some (.deferred (some [])) ∧ ∀ d' ∈ ds, d'.target ≠ .collected r) ∧ Marks n0 g w ds
theorem Marks.adv {n0 : Nat} {g' : Gh} {w' : World} (ha : Adv g w g' w') : ∀ {ds : List Deferred}, Marks n0 g w ds → Marks n0 g' w' ds
  | [], _ => trivial
  | d :: ds, ⟨⟨r, h1, h2, h3, h4, h5⟩, h6⟩ => by
    obtain ⟨k1, k2⟩ := ha.keep r (Array.getElem?_eq_some_iff.1 h4).1 h3
    exact ⟨⟨r, h1, h2, k2, k1.trans h4, h5⟩, Marks.adv ha h6⟩
theorem Marks.other {n0 : Nat} {w' : World} {b : Nat} {c : Array Value} {e : TypeId} {fr : Nat × Nat} (hb : w.heap[b]? = some (.cells c e fr)) (ho : ∀ i, i ≠ b → w'.heap[i]? = w.heap[i]?) : ∀ {ds : List Deferred}, Marks n0 g w ds → Marks n0 g w' ds
  | [], _ => trivial
  | d :: ds, ⟨⟨r, h1, h2, h3, h4, h5⟩, h6⟩ => by
    have : r ≠ b := by rintro rfl; rw [hb] at h4; cases h4
    exact ⟨⟨r, h1, h2, h3, (ho r this).trans h4, h5⟩, Marks.other hb ho h6⟩
structure FS (E : Env) (A : Ann) (g0 : Gh) (w0 : World) (g : Gh) (B : Nat → Nat) (st : Store) (w : World) (fr : AFr) (a : Act) : Prop where
  fr : FR A w0.heap.size g B w fr a
  inv : Inv g st w
  adv : Adv g0 w0 g w
  glob : GlobOk E g
  df : Marks w0.heap.size g w a.defers

theorem Box.lt {b : Nat} {cs : List AV} (h : Box g w b cs) : b < w.heap.size := by
  obtain ⟨c, e, fr, h1, _⟩ := h
  exact (Array.getElem?_eq_some_iff.1 h1).1
theorem Box.adv {g' : Gh} {w' : World} {b : Nat} {cs : List AV} (h : Box g w b cs) (ha : Adv g w g' w') : Box g' w' b cs := by
  have hlt := h.lt
  obtain ⟨c, e, fr, h1, h2, h3, h4, h5⟩ := h
  obtain ⟨k1, k2⟩ := ha.keep b hlt h5
  exact ⟨c, e, fr, k1.trans h1, h2.mono ha.le, h3, h4, k2⟩
theorem FR.adv {n0 : Nat} {fr : AFr} {a : Act} {g' : Gh} {w' : World} (h : FR A n0 g B w fr a) (ha : Adv g w g' w') : FR A n0 g' B w' fr a :=
  ⟨h.lt, h.lo, h.ll, h.wf, fun t v hb hv => (h.tmp t v hb hv).mono ha.le, h.off, fun b ob cs h1 h2 h3 => (h.box b ob cs h1 h2 h3).imp (·.adv ha) id, h.inj⟩
theorem FS.adv' {fr : AFr} {a : Act} {g' : Gh} {w' : World} {st' : Store} (h : FS E A g0 w0 g B st w fr a) (ha : Adv g w g' w') (hi : Inv g' st' w') : FS E A g0 w0 g' B st' w' fr a :=
  ⟨h.fr.adv ha, hi, h.adv.trans ha, h.glob.mono ha.le, h.df.adv ha⟩

theorem aeval_ok {n0 : Nat} {fr : AFr} {a : Act} (h : FR A n0 g B w fr a) (hg : GlobOk E g) {x : Operand} {i : In} (he : aeval E.globals A fr x = some i) : InRel g B w i (a.eval x) := by
  cases x with
  | tmp t =>
    simp only [aeval] at he
    split at he
    · rename_i hb
      cases hv : fr.tmps[t]? with
      | none => simp [hv] at he
      | some v =>
        simp only [hv, Option.map_some, Option.some.injEq] at he; subst he
        exact h.tmp t v hb hv
    · rename_i b hb
      split at he
      · rename_i ob off cs h1 h2 h3
        simp only [Option.some.injEq] at he; subst he
        exact ⟨h.off t b off ob hb h1 h2, (h.box b ob cs (h.wf t b hb) h1 h3).1⟩
      · cases he
  | const v =>
    simp only [aeval] at he
    cases hv : absC v with
    | none => simp [hv] at he
    | some y =>
      simp only [hv, Option.map_some, Option.some.injEq] at he; subst he
      exact absC_ok v y hv
  | global k =>
    simp only [aeval] at he
    cases hv : E.globals k with
    | none => simp [hv] at he
    | some y =>
      simp only [hv, Option.map_some, Option.some.injEq] at he; subst he
      exact hg k y hv
  | func f =>
    simp only [aeval, Option.some.injEq] at he; subst he
    exact .func _ _ _ _ _ rfl .nil .nil
theorem aevals_ok {n0 : Nat} {fr : AFr} {a : Act} (h : FR A n0 g B w fr a) (hg : GlobOk E g) : ∀ {xs : List Operand} {ins : List In}, aevals E.globals A fr xs = some ins → InsRel g B w ins (xs.map a.eval)
  | [], ins, he => by
    simp [aevals] at he; subst he; exact .nil
  | x :: xs, ins, he => by
    simp only [aevals] at he
    split at he
    · rename_i v hv
      split at he
      · rename_i vs hvs
        simp only [Option.some.injEq] at he; subst he
        exact .cons _ _ _ _ (aeval_ok h hg hv) (aevals_ok h hg hvs)
      · cases he
    · cases he

theorem getD_set_same {a : Array Value} {d : Nat} {v u : Value} (h : d < a.size) : (a.setIfInBounds d v).getD d u = v := by simp [Array.getD, h]
theorem getD_set_other {a : Array Value} {d t : Nat} {v u : Value} (h : d ≠ t) : (a.setIfInBounds d v).getD t u = a.getD t u := by
  simp only [Array.getD_eq_getD_getElem?]
  rw [Array.getElem?_setIfInBounds_ne h]
theorem list_set_some {α : Type} {l : List α} {d t : Nat} {v x : α} (h : (l.set d v)[t]? = some x) : (t = d ∧ x = v ∧ d < l.length) ∨ (t ≠ d ∧ l[t]? = some x) := by
  rw [List.getElem?_set] at h
  split at h
  · rename_i e
    split at h
    · injection h with h; exact .inl ⟨e.symm, h.symm, by assumption⟩
    · cases h
  · rename_i e
    exact .inr ⟨fun e' => e e'.symm, h⟩
theorem purge_len (A : Ann) (b : Nat) : ∀ (i : Nat) (os : List (Option Nat)), (purge A b i os).length = os.length
  | _, [] => rfl
  | i, _ :: os => by simp [purge, purge_len A b (i + 1) os]
theorem purge_get (A : Ann) (b : Nat) : ∀ (os : List (Option Nat)) (i t : Nat) (off : Nat), (purge A b i os)[t]? = some (some off) → A.base (i + t) ≠ some b ∧ os[t]? = some (some off)
  | [], i, t, off, h => by simp [purge] at h
  | o :: os, i, 0, off, h => by
    simp only [purge, List.getElem?_cons_zero, Option.some.injEq] at h
    split at h
    · cases h
    · rename_i hb; exact ⟨by simpa using hb, by simp [h]⟩
  | o :: os, i, t + 1, off, h => by
    simp only [purge, List.getElem?_cons_succ] at h
    obtain ⟨h1, h2⟩ := purge_get A b os (i + 1) t off h
    exact ⟨by rwa [show i + (t + 1) = i + 1 + t by omega], by simpa using h2⟩
theorem Act.put_size (a : Act) (dst : Option Tmp) (v : Value) : (a.put dst v).tmps.size = a.tmps.size := by
  cases dst <;> simp [Act.put]
theorem Act.put_defs (a : Act) (dst : Option Tmp) (v : Value) : (a.put dst v).defers = a.defers := by
  cases dst <;> simp [Act.put]

theorem FS.setVal {fr : AFr} {a : Act} (h : FS E A g0 w0 g B st w fr a) {d : Nat} {v : Value} {x : AV} (hb : A.base d = none) (hr : Rep g v x) : FS E A g0 w0 g B st w { fr with tmps := fr.tmps.set d x } (a.put (some d) v) := by
  obtain ⟨hf, hi, ha, hgl, hdf⟩ := h
  refine ⟨⟨by simp [Act.put, hf.lt], by simp [Act.put, hf.lo], by simp [Act.put, hf.ll], hf.wf, fun t y ht hy => ?_, fun t b off ob ht h1 h2 => ?_, hf.box, hf.inj⟩, hi, ha, hgl, by rw [Act.put_defs]; exact hdf⟩
  · rcases list_set_some hy with ⟨rfl, rfl, hlt⟩ | ⟨hne, hy⟩
    · simp only [Act.put]
      rw [getD_set_same (by rw [← hf.lt]; exact hlt)]; exact hr
    · simp only [Act.put]
      rw [getD_set_other (fun e => hne e.symm)]; exact hf.tmp t y ht hy
  · have hne : d ≠ t := by rintro rfl; rw [hb] at ht; cases ht
    simp only [Act.put]
    rw [getD_set_other hne]; exact hf.off t b off ob ht h1 h2
theorem FS.setNone {fr fr' : AFr} {a : Act} (h : FS E A g0 w0 g B st w fr a) {dst : Option Tmp} (hp : aputNone A fr dst = some fr') : FS E A g0 w0 g B st w fr' (a.put dst undef) := by
  cases dst with
  | none => simp only [aputNone, Option.some.injEq] at hp; subst hp; exact h
  | some d =>
    simp only [aputNone] at hp
    split at hp
    · rename_i hb
      simp only [Option.some.injEq] at hp; subst hp
      exact h.setVal hb (.tuple _ _ .nil)
    · rename_i b hb
      simp only [Option.some.injEq] at hp; subst hp
      obtain ⟨hf, hi, ha, hgl, hdf⟩ := h
      have get : ∀ {t o}, (fr.offs.set d none)[t]? = some (some o) → t ≠ d ∧ fr.offs[t]? = some (some o) := by
        intro t o ht
        rcases list_set_some ht with ⟨_, h2, _⟩ | h2
        · cases h2
        · exact h2
      refine ⟨⟨by simp [Act.put, hf.lt], by simp [Act.put, hf.lo], by simp [Act.put, hf.ll], hf.wf, fun t y ht hy => ?_, fun t b' off ob ht h1 h2 => ?_, fun b' ob cs h1 h2 h3 => hf.box b' ob cs h1 (get h2).2 h3, fun b1 b2 o o' h1 h2 h3 h4 => hf.inj b1 b2 o o' h1 h2 (get h3).2 (get h4).2⟩, hi, ha, hgl, by rw [Act.put_defs]; exact hdf⟩
      · have hne : d ≠ t := by rintro rfl; rw [hb] at ht; cases ht
        simp only [Act.put]
        rw [getD_set_other hne]; exact hf.tmp t y ht hy
      · simp only [Act.put]
        rw [getD_set_other (fun e => (get h2).1 e.symm)]
        exact hf.off t b' off ob ht (get h1).2 (get h2).2
/-- What an operation answers is laid down. -/
theorem aput_ok {fr fr' : AFr} {a : Act} (h : FS E A g0 w0 g B st w fr a) {op : Op} {dst : Option Tmp} {v : Value} {w' : World} (ho : OutOk g B st' w out v w') (hp : aput A fr op dst out = some fr') (hu : dst = none → True) :
    ∃ g' B', FS E A g0 w0 g' B' st' w' fr' (a.put dst v) := by
  cases out with
  | val x =>
    obtain ⟨g', a1, i1, r1⟩ := ho
    have h' := h.adv' a1 i1
    cases dst with
    | none => simp only [aput, Option.some.injEq] at hp; subst hp; exact ⟨g', B, h'⟩
    | some d =>
      simp only [aput] at hp
      split at hp
      · rename_i hb
        simp only [Option.some.injEq] at hp; subst hp
        exact ⟨g', B, h'.setVal hb r1⟩
      · cases hp
  | loc b off =>
    obtain ⟨rfl, rfl, hi⟩ := ho
    cases dst with
    | none => simp [aput] at hp
    | some d =>
      simp only [aput] at hp
      split at hp
      · rename_i ob hlive
        split at hp
        · rename_i hbd
          obtain ⟨hb, hne⟩ := hbd
          simp only [Option.some.injEq] at hp; subst hp
          obtain ⟨hf, _, ha, hgl, hdf⟩ := h
          have get : ∀ {t o}, (fr.offs.set d (some off))[t]? = some (some o) → t ≠ d → fr.offs[t]? = some (some o) := by
            intro t o ht hne
            rcases list_set_some ht with ⟨h1, _, _⟩ | h2
            · exact absurd h1 hne
            · exact h2.2
          have bd : ∀ b', A.base b' = some b' → b' ≠ d := by rintro b' hb' rfl; rw [hb] at hb'; injection hb' with hb'; exact hne hb'.symm
          refine ⟨g, B, ⟨by simp [Act.put, hf.lt], by simp [Act.put, hf.lo], by simp [Act.put, hf.ll], hf.wf, fun t y ht hy => ?_, fun t b' off' ob' ht h1 h2 => ?_,
            fun b' ob cs h1 h2 h3 => hf.box b' ob cs h1 (get h2 (bd b' h1)) h3, fun b1 b2 o o' h1 h2 h3 h4 => hf.inj b1 b2 o o' h1 h2 (get h3 (bd b1 h1)) (get h4 (bd b2 h2))⟩, hi, ha, hgl, by rw [Act.put_defs]; exact hdf⟩
          · have hne : d ≠ t := by rintro rfl; rw [hb] at ht; cases ht
            simp only [Act.put]
            rw [getD_set_other hne]; exact hf.tmp t y ht hy
          · have hb'd : b' ≠ d := bd b' (hf.wf t b' ht)
            rcases list_set_some h2 with ⟨rfl, e, hlt⟩ | ⟨hne', h2⟩
            · injection e with e; subst e
              rw [hb] at ht; injection ht with ht; subst ht
              simp only [Act.put]
              rw [getD_set_same (by rw [← hf.lo]; exact hlt)]
            · simp only [Act.put]
              rw [getD_set_other (fun e => hne' e.symm)]
              exact hf.off t b' off' ob' ht (get h1 hb'd) h2
        · cases hp
      · cases hp
  | box cs =>
    obtain ⟨c, e, rfl, rfl, hr, h1, hi⟩ := ho
    cases dst with
    | none => simp [aput] at hp
    | some d =>
      simp only [aput] at hp
      split at hp
      · rename_i hb
        simp only [Option.some.injEq] at hp; subst hp
        obtain ⟨hf, _, ha, hgl, hdf⟩ := h
        have adv1 : Adv g w g (w.alloc (.cells c e)) := Adv.alloc g w _ (fun b hb => hi.none_of_ge hb)
        have get : ∀ {t o}, ((purge A d 0 fr.offs).set d (some 0))[t]? = some (some o) → (t = d ∧ o = 0 ∧ d < fr.offs.length) ∨ (t ≠ d ∧ A.base t ≠ some d ∧ fr.offs[t]? = some (some o)) := by
          intro t o ht
          rcases list_set_some ht with ⟨h1, h2, h3⟩ | ⟨h1, h2⟩
          · injection h2 with h2; exact .inl ⟨h1, h2, by simpa [purge_len] using h3⟩
          · obtain ⟨p1, p2⟩ := purge_get A d fr.offs 0 t o h2
            exact .inr ⟨h1, by simpa using p1, p2⟩
        have hsz : ∀ {b ob}, A.base b = some b → fr.offs[b]? = some (some ob) → B b < w.heap.size := by
          intro b ob hb1 hb2
          have hlt : b < fr.lbs.length := by rw [hf.ll, ← hf.lo]; exact (List.getElem?_eq_some_iff.1 hb2).1
          exact (hf.box b ob fr.lbs[b] hb1 hb2 (List.getElem?_eq_getElem hlt)).1.lt
        refine ⟨g, fun i => if i = d then w.heap.size else B i, ⟨by simp [Act.put, hf.lt], by simp [Act.put, purge_len, hf.lo], by simp [Act.put, hf.ll], hf.wf, fun t y ht hy => ?_, fun t b' off' ob' ht k1 k2 => ?_,
          fun b' ob cs' k1 k2 k3 => ?_, fun b1 b2 o o' k1 k2 k3 k4 ke => ?_⟩, hi.alloc _, ha.trans adv1, hgl, by rw [Act.put_defs]; exact hdf.adv adv1⟩
        · have hne : d ≠ t := by rintro rfl; rw [hb] at ht; cases ht
          simp only [Act.put]
          rw [getD_set_other hne]; exact hf.tmp t y ht hy
        · rcases get k2 with ⟨rfl, rfl, hlt⟩ | ⟨hne, hnb, k2⟩
          · rw [hb] at ht; injection ht with ht; subst ht
            simp only [Act.put, if_true]
            rw [getD_set_same (by rw [← hf.lo]; exact hlt)]
          · have hb'd : b' ≠ d := by rintro rfl; exact hnb ht
            rcases get k1 with ⟨e', _, _⟩ | ⟨_, _, k1⟩
            · exact absurd e' hb'd
            · simp only [Act.put, if_neg hb'd]
              rw [getD_set_other (fun e => hne e.symm)]
              exact hf.off t b' off' ob' ht k1 k2
        · rcases get k2 with ⟨rfl, rfl, hlt⟩ | ⟨hne, hnb, k2⟩
          · rcases list_set_some k3 with ⟨_, rfl, _⟩ | ⟨k4, _⟩
            · simp only [if_true]
              exact ⟨⟨c, e, (0, 0), heap_alloc_new w _, hr, h1, fun i _ _ => by simp, hi.none_of_ge (Nat.le_refl _)⟩, ha.size⟩
            · exact absurd rfl k4
          · rcases list_set_some k3 with ⟨k4, _⟩ | ⟨_, k3⟩
            · exact absurd k4 hne
            · simp only [if_neg hne]
              exact (hf.box b' ob cs' k1 k2 k3).imp (·.adv adv1) id
        · rcases get k3 with ⟨e3, _, _⟩ | ⟨n1, _, l3⟩ <;> rcases get k4 with ⟨e4, _, _⟩ | ⟨n2, _, l4⟩
          · rw [e3, e4]
          · simp only [if_pos e3, if_neg n2] at ke
            have := hsz k2 l4; omega
          · simp only [if_pos e4, if_neg n1] at ke
            have := hsz k1 l3; omega
          · simp only [if_neg n1, if_neg n2] at ke
            exact hf.inj b1 b2 o o' k1 k2 l3 l4 ke
      · cases hp
  | lst b cs =>
    obtain ⟨c, e, fz, hup, hr, h1, hu', hi⟩ := ho
    cases dst with
    | some d => simp [aput] at hp
    | none =>
      simp only [aput] at hp
      split at hp
      rotate_left
      · cases hp
      split at hp
      · rename_i ob hlive
        split at hp
        · rename_i hb
          obtain ⟨_, hb⟩ := hb
          simp only [Option.some.injEq] at hp; subst hp
          obtain ⟨hf, _, ha, hgl, hdf⟩ := h
          have hlt : b < fr.lbs.length := by rw [hf.ll, ← hf.lo]; exact (List.getElem?_eq_some_iff.1 hlive).1
          obtain ⟨hbox, hn0⟩ := hf.box b ob fr.lbs[b] hb hlive (List.getElem?_eq_getElem hlt)
          have hnone : g.blk (B b) = none := by obtain ⟨_, _, _, _, _, _, _, q⟩ := hbox; exact q
          refine ⟨g, B, ⟨hf.lt, hf.lo, by simp [hf.ll, Act.put], hf.wf, hf.tmp, hf.off, fun b' ob' cs' k1 k2 k3 => ?_, hf.inj⟩, hi.same fun i hne => hup.other i (by rintro rfl; exact hne hnone), ?_, hgl, by rw [Act.put_defs]; obtain ⟨_, _, _, q0, _⟩ := hbox; exact hdf.other q0 (fun i hne => hup.other i hne)⟩
          · rcases list_set_some k3 with ⟨rfl, rfl, _⟩ | ⟨hne, k3⟩
            · exact ⟨⟨c, e, fz, hup.here, hr, h1, hu', hnone⟩, hn0⟩
            · obtain ⟨⟨c', e', fz', q1, q2, q3, q4, q5⟩, q6⟩ := hf.box b' ob' cs' k1 k2 k3
              have : B b' ≠ B b := fun e => hne (hf.inj b' b ob' ob k1 hb k2 hlive e)
              exact ⟨⟨c', e', fz', (hup.other _ this).trans q1, q2, q3, q4, q5⟩, q6⟩
          · refine ⟨ha.le, Nat.le_trans ha.size (Nat.le_of_eq hup.size.symm), fun b' hb' hn => ?_, fun b' cs' hb' => ?_, hup.os.trans ha.os, hup.tape.trans ha.tape, hup.output.trans ha.output⟩
            · obtain ⟨q1, q2⟩ := ha.keep b' hb' hn
              exact ⟨(hup.other b' (by omega)).trans q1, q2⟩
            · have := ha.le.stat b' cs' hb'
              exact (hup.other b' (by rintro rfl; rw [hnone] at this; cases this)).trans (ha.stat b' cs' hb')
        · cases hp
      · cases hp
theorem aYield_ok {n0 : Nat} {fr : AFr} {a : Act} (h : FR A n0 g B w fr a) {ops : Array Oper} {j : Nat} {r : Option Bool} (he : aYield ops.toList fr A j = some r) : yielded ops a.tmps j = r := by
  unfold aYield at he
  unfold yielded
  rw [← Array.getElem?_toList]
  split at he
  · rename_i hn
    injection he with he; subst he
    simp [hn]
  · rename_i o ho
    split at he
    · rename_i hd
      injection he with he; subst he
      simp [ho, hd]
    · rename_i d hd
      simp only [ho, hd, Option.bind_some]
      split at he
      · cases he
      · rename_i hb
        have key : ∀ x, fr.tmps[d]? = some x → ∃ v, a.tmps[d]? = some v ∧ Rep g v x := by
          intro x hx
          have hlt : d < a.tmps.size := by rw [← h.lt]; exact (List.getElem?_eq_some_iff.1 hx).1
          have := h.tmp d x hb hx
          rw [Array.getD_eq_getD_getElem?] at this
          rw [Array.getElem?_eq_getElem hlt] at this ⊢
          exact ⟨_, rfl, this⟩
        split at he
        · rename_i b hx
          injection he with he; subst he
          obtain ⟨v, h1, h2⟩ := key _ hx
          cases h2
          simp [h1]
        · rename_i vs hx
          injection he with he; subst he
          obtain ⟨v, h1, h2⟩ := key _ hx
          cases h2
          simp [h1]
        · cases he
theorem aWanted_ok {n0 : Nat} {fr : AFr} {a : Act} (h : FR A n0 g B w fr a) {ops : Array Oper} {o : Oper} {r : Bool} (he : aWanted A ops.toList fr o = some r) : Region.wanted o (yielded ops a.tmps) = r := by
  unfold aWanted at he
  unfold Region.wanted
  split at he
  · rename_i hg; injection he with he; subst he; simp [hg]
  · rename_i j want hg
    simp only [hg]
    cases hy : aYield ops.toList fr A j with
    | none => simp [hy] at he
    | some q =>
      simp only [hy, Option.map_some, Option.some.injEq] at he; subst he
      rw [aYield_ok h hy]
end
end Go.Sim

namespace Go.Sim

/-- What comes of a function's value that is called. -/
def Applies (P : Program) (fv : Value) (args : Array Value) (w : World) (R : Value → World → Prop) : Prop :=
  match (do let d ← Deferred.ofValue fv args; invoke d.target d.args : Sem Next).run P w with
  | .ok (.value v) w' => R v w'
  | .ok .skip w' => R undef w'
  | .ok (.enter f as) w' => CallsIn Fence.wide 0 P f as w' fun
      | .returned v, w'' => R v w''
      | _, _ => False
  | .ok (.round l f tmps assign body) w' => RoundIn Fence.wide 0 P l f tmps assign body w' fun
      | .returned v, w'' => R v w''
      | _, _ => False
  | _ => False
def CallOk (E : Env) (call : Caller) : Prop := ∀ (fv : AV) (args : List AV) (st : Store) (v : AV) (st' : Store), call fv args st = some (v, st') →
  ∀ (g : Gh) (w : World) (fval : Value) (vals : Array Value), Rep g fval fv → Reps g vals.toList args → Inv g st w → GlobOk E g →
    Applies E.P fval vals w fun u w' => ∃ g', Adv g w g' w' ∧ Inv g' st' w' ∧ Rep g' u v

section
variable {E : Env} {call : Caller} {A : Ann} {g g0 : Gh} {B : Nat → Nat} {st st' : Store} {w w0 : World} {fr fr' : AFr} {a : Act} {rd : Option Nat}

/-- What an operation answers is laid down, and it goes on. -/
def Goes (E : Env) (A : Ann) (g0 : Gh) (w0 : World) (st' : Store) (fr' : AFr) (K : Act → World → Prop) : Prop :=
  ∀ g B w a, FS E A g0 w0 g B st' w fr' a → K a w
/-- Nothing is barred; in a round of a loop, or not. -/
abbrev FW (rd : Option Nat) : Fence := { Fence.wide with round := rd }

theorem aop_wp (h : FS E A g0 w0 g B st w fr a) {md : Nat} {o : Oper} {ins : List In} {out : Out} {K : Act → World → Prop} {Q : Exit → Act → World → Prop}
    (hin : InsRel g B w ins (o.op.operands.toList.map a.eval)) (ha : aop E.L md o.type o.op ins st = some (out, st')) (hp : aput A fr o.op o.dst out = some fr') (hk : Goes E A g0 w0 st' fr' K) :
    o.wpIn (FW rd) 0 E.P a w K Q := by
  refine ⟨fun _ _ => trivial, ?_⟩
  have hnd : ∀ c, o.op ≠ .defer c := by intro c hc; rw [hc] at ha; simp [aop] at ha
  rw [show Oper.semAt (FW rd).round a.eval o = execOp a.eval o from Oper.semAt_eq _ _ _ hnd]
  rw [E.hL] at ha
  obtain ⟨v, w', hrun, ho⟩ := aop_ok (P := E.P) (B := B) ha hin h.inv
  obtain ⟨g', B', hfs⟩ := aput_ok h ho hp (fun _ => trivial)
  have := hk g' B' w' _ hfs
  rcases hrun with hrun | ⟨hrun, rfl⟩
  · rw [hrun]; exact this
  · rw [hrun]; exact this
theorem call_exec {o : Oper} {c : Call} {f : Operand} (ho : o.op = .call c) (hc : c.callee = .value f) (ρ : Operand → Value) :
    execOp ρ o = (do let d ← Deferred.ofValue (ρ f) (c.args.map ρ); invoke d.target d.args) := by
  simp only [execOp, ho, resolve, hc]
theorem aoper_wp (hcall : CallOk E call) (h : FS E A g0 w0 g B st w fr a) {md : Nat} {o : Oper} {ins : List In} {r : Out × Store} {K : Act → World → Prop} {Q : Exit → Act → World → Prop}
    (hi : aevals E.globals A fr o.op.operands.toList = some ins) (ha : aout E call md o ins st = some r) (hp : aput A fr o.op o.dst r.1 = some fr') (hk : Goes E A g0 w0 r.2 fr' K) :
    o.wpIn (FW rd) 0 E.P a w K Q := by
  have hin := aevals_ok h.fr h.glob hi
  have plain : aop E.L md o.type o.op ins st = some r → o.wpIn (FW rd) 0 E.P a w K Q := fun h2 => aop_wp h hin (out := r.1) (st' := r.2) h2 hp hk
  unfold aout at ha
  split at ha
  · rename_i c ho
    split at ha
    · rename_i f hf
      split at ha
      · rename_i fv args hv
        split at ha
        · rename_i r' hr'
          simp only [Option.some.injEq] at ha; subst ha
          have hops : o.op.operands.toList = f :: c.args.toList := by rw [ho]; simp [Op.operands, Call.operands, hf]
          rw [hops] at hin
          have hreps := valsOf_ok hv hin
          simp only [List.map_cons] at hreps
          cases hreps with
          | cons _ _ _ _ hfv hargs =>
            have hap := hcall fv args st r'.1 r'.2 hr' g w (a.eval f) (c.args.map a.eval) hfv (by simpa using hargs) h.inv h.glob
            refine ⟨fun _ _ => trivial, ?_⟩
            have hnd : ∀ c, o.op ≠ .defer c := by intro c hc; rw [hc] at ho; cases ho
            rw [show Oper.semAt (FW rd).round a.eval o = execOp a.eval o from Oper.semAt_eq _ _ _ hnd, call_exec ho hf]
            have fin : ∀ u w', (∃ g', Adv g w g' w' ∧ Inv g' r'.2 w' ∧ Rep g' u r'.1) → K (a.put o.dst u) w' := by
              intro u w' ⟨g', a1, i1, r1⟩
              obtain ⟨g2, B2, hfs⟩ := aput_ok (out := .val r'.1) (v := u) (st' := r'.2) h ⟨g', a1, i1, r1⟩ hp (fun _ => trivial)
              exact hk g2 B2 w' _ hfs
            unfold Applies at hap
            split at hap
            · rename_i v w' hrun; rw [hrun]; exact fin _ _ hap
            · rename_i w' hrun; rw [hrun]; exact fin _ _ hap
            · rename_i k as w' hrun
              rw [hrun]
              refine ⟨fun hd => by simp [FW, Fence.wide] at hd, hap.mono ?_⟩
              intro e w'' hh
              cases e with
              | returned v => exact fin _ _ hh
              | panicked ch => exact hh.elim
              | outgrown => exact hh.elim
            · rename_i l k tmps as body w' hrun
              rw [hrun]
              refine ⟨fun hd => by simp [FW, Fence.wide] at hd, hap.mono ?_⟩
              intro e w'' hh
              cases e with
              | returned v => exact fin _ _ hh
              | panicked ch => exact hh.elim
              | outgrown => exact hh.elim
            · exact hap.elim
        · cases ha
      · cases ha
    · cases ha
    · exact plain ha
  · exact plain ha

/-- Operations in a given order. -/
def astep (E : Env) (call : Caller) (A : Ann) (rid : Nat) (all : List Oper) (i : Nat) (fr : AFr) (st : Store) : Option (AFr × Store) :=
  match all[i]? with
  | none => none
  | some o => match aWanted A all fr o with
    | some true => aoper E call A (A.mode rid i) o fr st
    | some false => (match aputNone A fr o.dst with
      | some fr' => some (fr', st)
      | none => none)
    | none => none
def aopsI (E : Env) (call : Caller) (A : Ann) (rid : Nat) (all : List Oper) : List Nat → AFr → Store → Option (AFr × Store)
  | [], fr, st => some (fr, st)
  | i :: L, fr, st => match astep E call A rid all i fr st with
    | some r => aopsI E call A rid all L r.1 r.2
    | none => none
theorem aopsI_wp (hcall : CallOk E call) {rid : Nat} {ops : Array Oper} {Q : Exit → Act → World → Prop} : ∀ (L : List Nat) (fr : AFr) (st : Store) (g : Gh) (B : Nat → Nat) (w : World) (a : Act), aopsI E call A rid ops.toList L fr st = some (fr', st') →
    FS E A g0 w0 g B st w fr a → Goes E A g0 w0 st' fr' (Q .normal) → wpOpsIn (FW rd) 0 E.P ops Q L a w
  | [], fr, st, g, B, w, a, h, hfs, hk => by
    simp only [aopsI, Option.some.injEq, Prod.mk.injEq] at h
    obtain ⟨rfl, rfl⟩ := h
    exact hk g B w a hfs
  | i :: L, fr, st, g, B, w, a, h, hfs, hk => by
    simp only [aopsI] at h
    split at h
    · rename_i r hr
      unfold astep at hr
      rw [Array.getElem?_toList] at hr
      simp only [wpOpsIn]
      split at hr
      · cases hr
      · rename_i o ho
        simp only [ho]
        split at hr
        · rename_i hw
          rw [if_pos (by simpa using aWanted_ok hfs.fr hw)]
          unfold aoper at hr
          split at hr
          · cases hr
          · rename_i ins hins
            split at hr
            · rename_i r1 hr1
              split at hr
              · rename_i fr1 hp1
                simp only [Option.some.injEq] at hr; subst hr
                exact aoper_wp hcall hfs hins hr1 hp1 (fun g B w a' h1 => aopsI_wp hcall L fr1 r1.2 g B w a' h h1 hk)
              · cases hr
            · cases hr
        · rename_i hw
          rw [if_neg (by rw [aWanted_ok hfs.fr hw]; simp)]
          split at hr
          · rename_i fr1 hp1
            simp only [Option.some.injEq] at hr; subst hr
            exact ⟨fun _ _ => trivial, aopsI_wp hcall L fr1 st g B w (a.put o.dst undef) h (hfs.setNone hp1) hk⟩
          · cases hr
        · cases hr
    · cases h
theorem aops_I {rid : Nat} {all : List Oper} : ∀ (n i : Nat) (fr : AFr) (st : Store), i + n = all.length → aops E call A rid all (all.drop i) i fr st = aopsI E call A rid all (List.range' i n) fr st
  | 0, i, fr, st, h => by
    rw [List.drop_of_length_le (by omega)]
    simp [aops, aopsI]
  | n + 1, i, fr, st, h => by
    have hlt : i < all.length := by omega
    rw [List.drop_eq_getElem_cons hlt, List.range'_succ]
    have hget : all[i]? = some all[i] := List.getElem?_eq_getElem hlt
    simp only [aops, aopsI, astep, hget]
    cases hw : aWanted A all fr all[i] with
    | none => rfl
    | some b =>
      cases b with
      | true =>
        simp only []
        cases hr : aoper E call A (A.mode rid i) all[i] fr st with
        | none => rfl
        | some r => exact aops_I n (i + 1) r.1 r.2 (by omega)
      | false =>
        simp only []
        cases hp : aputNone A fr all[i].dst with
        | none => rfl
        | some fr1 => exact aops_I n (i + 1) fr1 st (by omega)
theorem aops_wp (hcall : CallOk E call) {rid : Nat} {ops : Array Oper} {Q : Exit → Act → World → Prop} (h : aops E call A rid ops.toList ops.toList 0 fr st = some (fr', st')) (hfs : FS E A g0 w0 g B st w fr a) (hk : Goes E A g0 w0 st' fr' (Q .normal)) :
    (Code.region rid ops false).wpIn (FW rd) 0 E.P Q a w := by
  refine wpIn_region (aopsI_wp hcall (rid := rid) (List.range ops.size) fr st g B w a ?_ hfs hk)
  have := aops_I (E := E) (call := call) (A := A) (rid := rid) (all := ops.toList) ops.size 0 fr st (by simp)
  rw [List.drop_zero] at this
  rw [List.range_eq_range', ← this]; exact h
end
end Go.Sim
