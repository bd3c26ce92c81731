/- What operations answer: append, copy. -/
import Derived.Test.YtnplidplamoejaaGreatDoorSimO
set_option linter.unusedVariables false
set_option linter.unusedSimpArgs false
set_option linter.unnecessarySimpa false
namespace Go.Sim
open Go.WideShapes (add_plain)

section
variable {P : Program} {g : Gh} {B : Nat → Nat} {st st' : Store} {w : World} {out : Out}

/-- What append is given to append. -/
inductive AppSrc (P : Program) (w : World) (t1 e sz : Nat) : Value → Nat → List Value → Prop
  | slice (e1 : TypeId) (hd : P.underlying t1 = some (.slice e1) ∨ P.underlying t1 = some .string) (a : Option Addr) (n c : Nat) (vs : List Value) (hl : vs.length = n * sz) (hv : (vs = [] ∧ n = 0) ∨ ∃ b o, a = some ⟨b, o, none⟩ ∧ ∀ j u, vs[j]? = some u → w.cell? ⟨b, o + j, none⟩ = some u) : AppSrc P w t1 e sz (.slice a n c) n vs
  | str (e1 : TypeId) (hd : P.underlying t1 = some (.slice e1) ∨ P.underlying t1 = some .string) (s : ByteArray) (h1 : sz = 1) : AppSrc P w t1 e sz (.string s) s.size (s.data.toList.map fun b => .int .u8 b.toNat)
  | zeros (k k' : IntKind) (hd : P.underlying t1 = some (.int k)) (n : Nat) (hn : n ≤ 140737488355328) (i : TypeInfo) (hi : P.info? e = some i) (hb : n * i.bytes ≤ 140737488355328) (zv : Value) (hz : i.zero = some zv) (hl : zv.cells.size = sz) : AppSrc P w t1 e sz (.int k' n) n (List.replicate n zv.cells.toList).flatten

theorem firstCells_none (size n : Nat) (w : World) (a : Option Addr) (c : Nat) : (Builtin.firstCells size 0 (.slice a n c)).run P w = .ok #[] w := by
  cases a with
  | none => simp [Builtin.firstCells]
  | some a =>
    have := run_loadCells_list (P := P) w a [] (by simp)
    simpa [Builtin.firstCells] using this
theorem appSrc_read {t1 e sz : Nat} {x : Value} {n : Nat} {vs : List Value} (hs : AppSrc P w t1 e sz x n vs) (w' : World) (hw : w'.heap = w.heap) : AppSrc P w' t1 e sz x n vs := by
  cases hs with
  | slice e1 hd a n c vs hl hv =>
    refine .slice e1 hd a n c vs hl (hv.imp id fun ⟨b, o, h1, h2⟩ => ⟨b, o, h1, fun j u hj => ?_⟩)
    have := h2 j u hj
    simpa [World.cell?, hw] using this
  | str e1 hd s h1 => exact .str e1 hd s h1
  | zeros k k' hd n hn i hi hb zv hz hl => exact .zeros k k' hd n hn i hi hb zv hz hl

theorem app_in {ts : Array TypeId} {t t1 e sz ty : Nat} (h0 : ts[0]? = some t) (h1 : ts[1]? = some t1) (ht : P.underlying t = some (.slice e)) (hsz : sizeT P e = some sz) (hz : 0 < sz) {x : Value} {n : Nat} {vs : List Value} (hs : AppSrc P w t1 e sz x n vs)
    (base : Option Addr) (len cap : Nat) (hc : len + n ≤ cap) :
    (Builtin.append_ ts ty #[.slice base len cap, x]).run P w = (match base with
      | none => .ok (.slice none (len + n) cap) w
      | some a => ((storeCells (a.add (len * sz)) vs).run P w).andThen fun _ w' => .ok (.slice (some a) (len + n) cap) w') := by
  have hsz' := run_sizeOf hsz
  obtain ⟨i, hi, his⟩ := sizeT_some hsz
  cases hs with
  | slice e1 hd a n c vs hl hv =>
    have hf : (Builtin.firstCells sz n (.slice a n c)).run P w = .ok vs.toArray w := by
      rcases hv with ⟨rfl, rfl⟩ | ⟨b, o, rfl, hv⟩
      · exact firstCells_none _ _ _ _ _
      · exact run_firstCells_some w sz n ⟨b, o, none⟩ n c vs hl (fun j v hj => by simpa [add_plain] using hv j v hj)
    rcases hd with hd | hd <;> cases base <;> simp [Builtin.append_, h0, h1, run_underlying ht, run_underlying hd, hsz', Builtin.lenOf, hc, hf]
  | str e1 hd s h1' =>
    have hx : s.extract 0 s.size = s := by
      apply ByteArray.ext
      simp [ByteArray.data_extract]
    have hf : (Builtin.firstCells sz s.size (.string s)).run P w = .ok (s.data.toList.map fun b => Value.int .u8 b.toNat).toArray w := by
      simp only [Builtin.firstCells, Sem.run_pure, hx]
      congr 1
      apply Array.ext'
      simp
    rcases hd with hd | hd <;> cases base <;> simp [Builtin.append_, h0, h1, run_underlying ht, run_underlying hd, hsz', Builtin.lenOf, hc, hf]
  | zeros k k' hd n hn i' hi' hb zv hzv hl =>
    rw [hi] at hi'; injection hi' with hi'; subst hi'
    have e1 : IntKind.i64.wrap (n : Int) = n := IntWalk.i64_in n ⟨by omega, by omega⟩
    have g2 : ¬ ((n : Int) < 0) := by omega
    have g4 : ¬ (281474976710656 < (n : Int) * (i.bytes : Int)) := by
      rw [← Int.natCast_mul]
      omega
    have hzeros := zeros_eq zv.cells n (by omega)
    have hzc : Builtin.zeroCells zv.cells n = (List.replicate n zv.cells.toList).flatten.toArray := by
      apply Array.ext'
      simpa [Builtin.zeroCells] using hzeros
    by_cases hn0 : n = 0
    · subst hn0
      have e0 : IntKind.i64.wrap 0 = 0 := by decide
      have hc0 : len ≤ cap := hc
      cases base <;> simp [Builtin.append_, h0, h1, run_underlying ht, run_underlying hd, hsz', Builtin.lenOf, hc0, asInt, asIntOf, e0, e1, g2, g4, typeInfo, hi, storeCells]
    · have hne : n * sz ≠ 0 := by
        intro h
        rcases Nat.mul_eq_zero.1 h with h | h <;> omega
      cases base <;> simp [Builtin.append_, h0, h1, run_underlying ht, run_underlying hd, hsz', Builtin.lenOf, hc, asInt, asIntOf, e1, g2, g4, typeInfo, hi, hne, run_zeroValue hi hzv, hzc]
theorem app_new {ts : Array TypeId} {t t1 e sz ty : Nat} (h0 : ts[0]? = some t) (h1 : ts[1]? = some t1) (ht : P.underlying t = some (.slice e)) {i : TypeInfo} (hi : P.info? e = some i) (his : i.size = sz) {zv : Value} (hzv : i.zero = some zv) (hz : 0 < sz) {x : Value} {n : Nat} {vs : List Value} (hs : AppSrc P w t1 e sz x n vs)
    (base : Option Addr) (len cap : Nat) (olds : List Value) (ho : ∀ w' : World, w'.heap = w.heap → (Builtin.firstCells sz len (.slice base len cap)).run P w' = .ok olds.toArray w') (hc : cap < len + n) (hb : (len + n) * i.bytes ≤ 140737488355328) (h63 : len + n ≤ 140737488355328) :
    (Builtin.append_ ts ty #[.slice base len cap, x]).run P w =
      .ok (.slice (some ⟨w.heap.size, 0, none⟩) (len + n) (grownCap w (len + n) cap e)) (w.drew.alloc (.cells (olds.toArray ++ vs.toArray ++ Builtin.zeroCells zv.cells (grownCap w (len + n) cap e - (len + n))) e)) := by
  have hsz : sizeT P e = some sz := by show (match P.info? e with | some i => some i.size | none => none) = some sz; rw [hi]; simp [his]
  have hsz' := run_sizeOf hsz
  have hn : ¬ (len + n ≤ cap) := by omega
  have h63' : ¬ (9223372036854775807 < ((len : Int) + (n : Int))) := by omega
  have h48' : ¬ (281474976710656 < Builtin.nextslicecap (len + n) cap * i.bytes) := by
    have := growslice_fits hc hb
    omega
  have ho' := ho w.drew rfl
  have hs' := appSrc_read hs w.drew rfl
  cases hs with
  | slice e1 hd a n c vs hl hv =>
    have hf : (Builtin.firstCells sz n (.slice a n c)).run P w.drew = .ok vs.toArray w.drew := by
      rcases hv with ⟨rfl, rfl⟩ | ⟨b, o, rfl, hv⟩
      · exact firstCells_none _ _ _ _ _
      · exact run_firstCells_some w.drew sz n ⟨b, o, none⟩ n c vs hl (fun j v hj => by simpa [add_plain] using hv j v hj)
    rcases hd with hd | hd <;> simp [Builtin.append_, h0, h1, run_underlying ht, run_underlying hd, hsz', Builtin.lenOf, hn, hf, typeInfo, hi, h63', h48', Question.forced, ho', run_zeroValue hi hzv, newRow, grownCap] <;> (congr 2; apply Array.ext'; simp)
  | str e1 hd s h1' =>
    have hx : s.extract 0 s.size = s := by
      apply ByteArray.ext
      simp [ByteArray.data_extract]
    have hf : (Builtin.firstCells sz s.size (.string s)).run P w.drew = .ok (s.data.toList.map fun b => Value.int .u8 b.toNat).toArray w.drew := by
      simp only [Builtin.firstCells, Sem.run_pure, hx]
      congr 1
      apply Array.ext'
      simp
    rcases hd with hd | hd <;> simp [Builtin.append_, h0, h1, run_underlying ht, run_underlying hd, hsz', Builtin.lenOf, hn, hf, typeInfo, hi, h63', h48', Question.forced, ho', run_zeroValue hi hzv, newRow, grownCap] <;> (congr 2; apply Array.ext'; simp)
  | zeros k k' hd n hn' i' hi' hb' zv' hzv' hl =>
    rw [hi] at hi'; injection hi' with hi'; subst hi'
    rw [hzv] at hzv'; injection hzv' with hzv'; subst hzv'
    have e1 : IntKind.i64.wrap (n : Int) = n := IntWalk.i64_in n ⟨by omega, by omega⟩
    have g2 : ¬ ((n : Int) < 0) := by omega
    have g4 : ¬ (281474976710656 < (n : Int) * (i.bytes : Int)) := by
      rw [← Int.natCast_mul]
      omega
    have hzeros := zeros_eq zv.cells n (by omega)
    have hzc : Builtin.zeroCells zv.cells n = (List.replicate n zv.cells.toList).flatten.toArray := by
      apply Array.ext'
      simpa [Builtin.zeroCells] using hzeros
    by_cases hn0 : n = 0
    · subst hn0
      have e0 : IntKind.i64.wrap 0 = 0 := by decide
      have hn1 : ¬ (len ≤ cap) := by omega
      have h63' : ¬ (9223372036854775807 < (len : Int)) := by omega
      have h48' : ¬ (281474976710656 < Builtin.nextslicecap len cap * i.bytes) := h48'
      simp [Builtin.append_, h0, h1, run_underlying ht, run_underlying hd, hsz', Builtin.lenOf, hn1, typeInfo, hi, h63', h48', Question.forced, ho', run_zeroValue hi hzv, newRow, grownCap, asInt, asIntOf, e0]
    · have hne : n * sz ≠ 0 := by
        intro h
        rcases Nat.mul_eq_zero.1 h with h | h <;> omega
      simp [Builtin.append_, h0, h1, run_underlying ht, run_underlying hd, hsz', Builtin.lenOf, hn, typeInfo, hi, h63', h48', Question.forced, ho', run_zeroValue hi hzv, newRow, grownCap, asInt, asIntOf, e1, g2, g4, hne, hzc]
      congr 2; apply Array.ext'; simp

theorem Inv.drew (hi : Inv g st w) : Inv g st w.drew := hi.same fun _ _ => rfl
theorem RepE.length {sz : Nat} {vs : List Value} {xs : List AV} (h : RepE g sz vs xs) : vs.length = xs.length * sz := h.flat'.2.2
/-- A block that carries on a row that grew. -/
theorem Inv.alloc_row_at (hi : Inv g st w) (c : Array Value) (e : TypeId) (fr : Nat × Nat) {sz t top n off k : Nat} {cs : List Value} (ht : st.top t = some (top, e)) (hle : top ≤ n) (hk : off + k ≤ n) (hz : 0 < sz) (hp : cs <+: c.toList) (hl : cs.length = k * sz) (hu : fr.2 ≤ cs.length) :
    Inv (g.upd w.heap.size (.row t off sz c.size cs)) (st.setTop t (n, e)) (w.alloc (.cells c e fr)) := by
  have hlex : Le g (g.upd w.heap.size (.row t off sz c.size cs)) := Le.upd_new g _ (hi.none_of_ge (Nat.le_refl _))
  have h1 := hi.alloc (.cells c e fr)
  have hlt := Store.top_lt ht
  refine ⟨hi.wfo, by simp [Store.setTop, hi.wft], fun b t' s sz' tot cs' hb => ?_, fun b cs hb => ?_, fun b o tot hb => ?_, fun b b' o n n' hb hb' => ?_, hi.dead⟩
  · by_cases h : b = w.heap.size
    · subst h
      simp [Gh.upd] at hb
      obtain ⟨rfl, rfl, rfl, rfl, rfl⟩ := hb
      exact ⟨hz, c, e, fr, n, k, heap_alloc_new w _, hp, hl, Store.top_set_same hi.wft ht, hk, hu, rfl⟩
    · rw [Gh.upd_other _ _ h] at hb
      obtain ⟨h0, c', e', fr', top', k', h2, h3, h4, h5, h6, h7⟩ := h1.row b t' s sz' tot cs' hb
      by_cases ht' : t = t'
      · subst ht'
        rw [ht] at h5; injection h5 with h5; injection h5 with h5 he5; subst h5 he5
        exact ⟨h0, c', _, fr', _, k', h2, h3, h4, Store.top_set_same hi.wft ht, by omega, h7⟩
      · exact ⟨h0, c', e', fr', top', k', h2, h3, h4, by rw [Store.top_set_other hlt ht']; exact h5, h6, h7⟩
  · by_cases h : b = w.heap.size
    · subst h; simp [Gh.upd] at hb
    · rw [Gh.upd_other _ _ h] at hb; exact h1.stat b cs hb
  · by_cases h : b = w.heap.size
    · subst h; simp [Gh.upd] at hb
    · rw [Gh.upd_other _ _ h] at hb
      obtain ⟨x, h2, h3⟩ := h1.obj b o tot hb
      exact ⟨x, h2, h3.mono hlex⟩
  · by_cases h : b = w.heap.size
    · subst h; simp [Gh.upd] at hb
    · by_cases h' : b' = w.heap.size
      · subst h'; simp [Gh.upd] at hb'
      · rw [Gh.upd_other _ _ h] at hb; rw [Gh.upd_other _ _ h'] at hb'
        exact hi.inj b b' o n n' hb hb'

/-- New memory. -/
theorem freshV_ok {md sz by_ : Nat} {all : List AV} {x' : AV} {e : TypeId} (h : freshV md sz by_ e all st = some (x', st')) (hi : Inv g st w) {c : Array Value} {vs rest : List Value} {G : Nat} (hc : c.toList = vs ++ rest) (hr : RepE g sz vs all) (hG : c.size = G * sz) (hle : all.length ≤ G) (hrest : AllOne rest) :
    ∃ g', Adv g w g' (w.alloc (.cells c e)) ∧ Inv g' st' (w.alloc (.cells c e)) ∧ Rep g' (.slice (some ⟨w.heap.size, 0, none⟩) all.length G) x' := by
  unfold freshV at h
  split at h
  · rename_i hcond
    obtain ⟨_, _, hz⟩ := hcond
    obtain ⟨f1, f2, f3⟩ := hr.flat'
    split at h
    · simp only [Option.some.injEq, Prod.mk.injEq] at h
      obtain ⟨rfl, rfl⟩ := h
      exact newArr_ok (e := e) (sz := sz) (len := all.length) (cap := none) (n := G) hi ⟨vs, rest, hc, f1, f2, hrest⟩ hle (fun m hm => by cases hm) (by omega) hz
    · simp only [Option.some.injEq, Prod.mk.injEq] at h
      obtain ⟨rfl, rfl⟩ := h
      refine ⟨_, Adv.alloc_upd hi _ _, hi.alloc_row c e (0, 0) sz all.length vs hz (by rw [hc]; exact List.prefix_append _ _) f3 (Nat.zero_le _), ?_⟩
      refine .row _ _ _ _ _ _ _ _ _ (.inr ⟨_, _, Gh.upd_same _ _ _, rfl, by simp⟩) (hr.mono (Le.upd_new g _ (hi.none_of_ge (Nat.le_refl _)))) rfl hle hz (fun m hm => by cases hm) (fun t' off ht => ?_)
      simp only [Option.some.injEq, Prod.mk.injEq] at ht
      obtain ⟨rfl, rfl⟩ := ht
      exact .inr ⟨0, _, _, Gh.upd_same _ _ _, Nat.le_refl _, by simp, by simp [f3], by simp [hG]⟩
  · cases h
/-- A row's end, where it lies in its block. -/
theorem row_end (hi : Inv g st w) {b t start sz tot n o off : Nat} {cs vs : List Value} (hb : g.blk b = some (.row t start sz tot cs)) (hv : Imm g b o vs) (hvl : vs.length = n * sz) (hs : start ≤ off) (ho : o = (off - start) * sz) (hn : o + n * sz ≤ cs.length) {et : TypeId} (htop : st.top t = some (off + n, et)) :
    cs.length = o + n * sz ∧ cs.drop o = vs := by
  obtain ⟨h0, c, e, fr, top, k, h2, h3, h4, h5, h6, h7, h8⟩ := hi.row b t start sz tot cs hb
  rw [htop] at h5; injection h5 with h5; injection h5 with h5 he5; subst h5
  have hk : off - start + n ≤ k := by
    rw [ho, h4, ← Nat.add_mul] at hn
    exact Nat.le_of_mul_le_mul_right hn h0
  have hk' : k = off - start + n := by omega
  have hlen : cs.length = o + n * sz := by rw [h4, hk', Nat.add_mul, ← ho]
  refine ⟨hlen, ?_⟩
  have hdl : (cs.drop o).length = n * sz := by rw [List.length_drop]; omega
  rcases hv with rfl | ⟨x, cs', hb', hx, hp⟩
  · simp at hvl
    exact List.eq_nil_of_length_eq_zero (by omega)
  · rw [hb] at hb'; injection hb' with hb'; subst hb'
    injection hx with hx; subst hx
    obtain ⟨q, hq⟩ := hp
    have : q = [] := by
      apply List.eq_nil_of_length_eq_zero
      have := congrArg List.length hq
      simp only [List.length_append] at this
      omega
    subst this
    simpa using hq.symm
/-- A row grows in its place. -/
theorem growIn_ok (hi : Inv g st w) {b o n c sz t off m : Nat} {cap : Option Nat} {xs new : List AV} {vs us : List Value} (hv : Imm g b o vs) (he : RepE g sz vs xs) (hn : xs.length = n) (hz : 0 < sz) (hcap : ∀ m, cap = some m → m = c)
    (ht : c = 0 ∨ ∃ start tot cs, g.blk b = some (.row t start sz tot cs) ∧ start ≤ off ∧ o = (off - start) * sz ∧ o + n * sz ≤ cs.length ∧ o + c * sz ≤ tot) {et : TypeId} (htop : st.top t = some (off + n, et)) (hnew : RepE g sz us new) (hm : new.length = m) (h0 : 0 < m) (hc : n + m ≤ c) :
    ∃ w' g', (storeCells ⟨b, o + n * sz, none⟩ us).run P w = .ok () w' ∧ Adv g w g' w' ∧ Inv g' (st.setTop t (off + n + m, et)) w' ∧ Rep g' (.slice (some ⟨b, o, none⟩) (n + m) c) (.row sz (some (t, off)) cap (xs ++ new)) := by
  rcases ht with h | ⟨start, tot, cs, hb, hs, ho, hle, hct⟩
  · omega
  obtain ⟨_, c0, e0, fr0, top0, k, h2, h3, h4, h5, h6, h7, h8⟩ := hi.row b t start sz tot cs hb
  have he0 : e0 = et := by rw [htop] at h5; injection h5 with h5; injection h5 with _ h5; exact h5.symm
  subst he0
  have hvl : vs.length = n * sz := by rw [he.length, hn]
  obtain ⟨hlen, hdrop⟩ := row_end hi hb hv hvl hs ho hle htop
  obtain ⟨f1, f2, f3⟩ := hnew.flat'
  rw [hm] at f3
  have hmc : (n + m) * sz ≤ c * sz := Nat.mul_le_mul_right _ hc
  rw [Nat.add_mul] at hmc
  obtain ⟨w', c', k1, k2, k3⟩ := store_run (P := P) b (o + n * sz) e0 fr0 us 0 w c0 h2 (by omega) f2 (fun i hi1 hi2 => by omega)
  have hc'sz : c'.size = c0.size := by
    rw [← Array.length_toList, k3]
    simp only [List.length_append, List.length_take, List.length_drop, Array.length_toList, Nat.add_zero]
    omega
  have hp : cs ++ us <+: c'.toList := by
    rw [k3, Nat.add_zero, ← hlen]
    obtain ⟨q, hq⟩ := h3
    rw [← hq, List.take_left']
    · exact List.prefix_append _ _
    · rfl
  obtain ⟨i1, a1⟩ := hi.grow (n := m) hb k2 hp f3 (by omega) (by omega) (off + n) htop (by
    rw [hlen, ho, Nat.add_mul, ← Nat.add_assoc, ← Nat.add_mul, show start + (off - start) = off by omega])
  refine ⟨w', _, k1, a1, i1, ?_⟩
  refine .row _ _ _ _ _ _ _ _ (vs ++ us) (.inr ⟨_, _, Gh.upd_same _ _ _, rfl, ?_⟩) ((he.mono a1.le).append (hnew.mono a1.le)) (by simp [hn, hm]) hc hz hcap (fun t' off' ht' => ?_)
  · rw [List.drop_append_of_le_length (by omega), hdrop]
    exact List.prefix_rfl
  · simp only [Option.some.injEq, Prod.mk.injEq] at ht'
    obtain ⟨rfl, rfl⟩ := ht'
    exact .inr ⟨start, tot, cs ++ us, Gh.upd_same _ _ _, hs, ho, by rw [List.length_append, f3, Nat.add_mul]; omega, by omega⟩
/-- A row whose room is not known grows: into new memory. -/
theorem growNew_ok (hi : Inv g st w) {sz t off G : Nat} {all : List AV} {vs rest : List Value} {n m : Nat} {c : Array Value} (e : TypeId) (hz : 0 < sz) (htop : st.top t = some (off + n, e)) (hc : c.toList = vs ++ rest) (hr : RepE g sz vs all) (hall : all.length = n + m) (hG : c.size = G * sz) (hle : n + m ≤ G) :
    ∃ g', Adv g w g' (w.alloc (.cells c e)) ∧ Inv g' (st.setTop t (off + n + m, e)) (w.alloc (.cells c e)) ∧ Rep g' (.slice (some ⟨w.heap.size, 0, none⟩) (n + m) G) (.row sz (some (t, off)) none all) := by
  have f3 := hr.length
  rw [hall] at f3
  refine ⟨_, Adv.alloc_upd hi _ _, hi.alloc_row_at c e (0, 0) (n := off + n + m) (off := off) (k := n + m) htop (by omega) (by omega) hz (by rw [hc]; exact List.prefix_append _ _) f3 (Nat.zero_le _), ?_⟩
  refine .row _ _ _ _ _ _ _ _ _ (.inr ⟨_, _, Gh.upd_same _ _ _, rfl, by simp⟩) (hr.mono (Le.upd_new g _ (hi.none_of_ge (Nat.le_refl _)))) hall hle hz (fun m hm => by cases hm) (fun t' off' ht => ?_)
  simp only [Option.some.injEq, Prod.mk.injEq] at ht
  obtain ⟨rfl, rfl⟩ := ht
  exact .inr ⟨off, _, _, Gh.upd_same _ _ _, Nat.le_refl _, by simp, by rw [f3]; simp, by simp [hG]⟩
end
end Go.Sim
