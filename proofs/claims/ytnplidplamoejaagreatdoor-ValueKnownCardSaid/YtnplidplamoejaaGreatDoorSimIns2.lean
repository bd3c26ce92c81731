/- slices.Insert: lists and cells; what its copies come to. -/
import Derived.Test.YtnplidplamoejaaGreatDoorSimIns
set_option linter.unusedVariables false
set_option linter.unusedSimpArgs false
set_option linter.unnecessarySimpa false
namespace Go.Sim

def isAgg : AV → Bool
  | .agg _ => true
  | _ => false
/-- Of so many cells, and made of them as its type says. -/
def goodB (L : Look) (e sz : Nat) (y : AV) : Bool := y.cells.length == sz && (match aggT L e with
  | some true => isAgg y
  | some false => !isAgg y && sz == 1
  | none => false)
section
variable {L : Look} {e sz : Nat} {st : Store}

theorem good_len {y : AV} (h : goodB L e sz y = true) : y.cells.length = sz := by
  simp only [goodB, Bool.and_eq_true, beq_iff_eq] at h; exact h.1
theorem good_mk {y : AV} (h : goodB L e sz y = true) : mkT L e y.cells = some y := by
  simp only [goodB, Bool.and_eq_true, beq_iff_eq] at h
  unfold mkT
  obtain ⟨h1, h2⟩ := h
  split at h2
  · rename_i ha
    rw [ha]
    cases y <;> simp [isAgg] at h2
    rfl
  · rename_i ha
    rw [ha]
    cases y <;> simp [isAgg] at h2 <;> rfl
  · cases h2
theorem flat_len {ys : List AV} (h : ∀ y ∈ ys, y.cells.length = sz) : (flat ys).length = ys.length * sz := by
  induction ys with
  | nil => simp [flat]
  | cons y ys ih =>
    have := ih fun z hz => h z (List.mem_cons_of_mem _ hz)
    simp only [flat, List.flatMap_cons, List.length_append, List.length_cons] at this ⊢
    rw [this, h y List.mem_cons_self, Nat.add_mul]; omega
theorem flat_app (a b : List AV) : flat (a ++ b) = flat a ++ flat b := by simp [flat]
theorem elems_flat (hs : sizeT L e = some sz) : ∀ {ys rest : List AV}, (∀ y ∈ ys, goodB L e sz y = true) → elemsOf L e (flat ys ++ rest) ys.length = some ys
  | [], rest, _ => rfl
  | y :: ys, rest, h => by
    have hy := h y List.mem_cons_self
    have hl := good_len hy
    have hc : cut (flat (y :: ys) ++ rest) 0 sz = some y.cells := by
      unfold cut
      rw [if_pos (by simp [flat]; omega)]
      simp [flat, ← hl]
    have hd : (flat (y :: ys) ++ rest).drop sz = flat ys ++ rest := by
      simp only [flat, List.flatMap_cons, List.append_assoc]
      rw [List.drop_append_of_le_length (by omega), List.drop_of_length_le (by omega), List.nil_append]
    simp only [List.length_cons, elemsOf, hs, hc, good_mk hy, hd]
    rw [elems_flat hs fun z hz => h z (List.mem_cons_of_mem _ hz)]
theorem flat_of_elems (hs : sizeT L e = some sz) : ∀ {n : Nat} {cs ys : List AV}, elemsOf L e cs n = some ys → (∀ y ∈ ys, goodB L e sz y = true) → flat ys = cs.take (n * sz) ∧ ys.length = n
  | 0, cs, ys, h, _ => by
    simp only [elemsOf, Option.some.injEq] at h; subst h; simp [flat]
  | n + 1, cs, ys, h, hg => by
    simp only [elemsOf, hs] at h
    split at h
    · cases h
    · rename_i c hc
      split at h
      · rename_i x xs hx hxs
        injection h with h; subst h
        obtain ⟨h1, h2⟩ := flat_of_elems hs hxs fun z hz => hg z (List.mem_cons_of_mem _ hz)
        obtain ⟨hc1, hc2⟩ := cut_some hc
        have hgx := hg x List.mem_cons_self
        have hcx : x.cells = c := by
          unfold mkT at hx
          simp only [goodB, Bool.and_eq_true] at hgx
          split at hx
          · injection hx with hx; subst hx; rfl
          · rename_i ha
            split at hx
            · injection hx with hx; subst hx
              have := hgx.2
              rw [ha] at this
              rename_i c1
              cases c1 <;> simp [isAgg] at this <;> rfl
            · cases hx
          · cases hx
        refine ⟨?_, by simp [h2]⟩
        rw [show flat (x :: xs) = x.cells ++ flat xs by simp [flat], hcx, h1, hc2, List.drop_zero, show (n + 1) * sz = sz + n * sz by rw [Nat.add_mul]; omega, List.take_add]
      · cases h
theorem readRow_at (hs : sizeT L e = some sz) (hz : 0 < sz) {o off n : Nat} {cap : Option Nat} {pre ys post : List AV} (hc : st.getCells o = some (pre ++ flat ys ++ post)) (ho : off = pre.length) (hn : n = ys.length) (hg : ∀ y ∈ ys, goodB L e sz y = true) :
    readRow L e st (.arr sz o off n cap) = some ys := by
  have hl := flat_len (sz := sz) fun y hy => good_len (hg y hy)
  simp only [readRow, hs, hz, and_self, if_true, hc]
  have : cut (pre ++ flat ys ++ post) off (n * sz) = some (flat ys) := by
    unfold cut
    subst ho hn
    rw [if_pos (by simp [hl])]
    rw [List.append_assoc, List.drop_append_of_le_length (Nat.le_refl _), List.drop_length, List.nil_append, List.take_append_of_le_length (by omega), List.take_of_length_le (by omega)]
  rw [this]
  simp only
  rw [hn]
  have := elems_flat (rest := []) hs hg
  rwa [List.append_nil] at this
theorem copy_at {o off n : Nat} {cap : Option Nat} {pre mid post src : List AV} (hc : st.getCells o = some (pre ++ mid ++ post)) (ho : off = pre.length) (hm : (flat (src.take n)).length = mid.length) :
    copyV (.arr sz o off n cap) src st = some (.int .i64 (min src.length n : Nat), st.put o (pre ++ flat (src.take n) ++ post)) := by
  simp only [copyV, hc]
  have : splice (pre ++ mid ++ post) off (flat (src.take n)) = some (pre ++ flat (src.take n) ++ post) := by
    unfold splice
    subst ho
    rw [if_pos (by simp [hm])]
    congr 1
    rw [List.append_assoc, List.append_assoc, List.take_append_of_le_length (Nat.le_refl _), List.take_length, hm]
    have : (pre ++ (mid ++ post)).drop (pre.length + mid.length) = post := by
      rw [← List.append_assoc, List.drop_append_of_le_length (by simp)]
      simp
    rw [this, List.append_assoc]
  rw [this]
theorem aCopy_at {t : Nat} {d x : AV} {xs : List AV} {r : AV × Store} (het : elemT L t = some e) (hs : sizeT L e = some sz) (hr : readRow L e st x = some xs) (hd : elSize sz d = true) (h : copyV d xs st = some r) : aCopy L t [.val d, .val x] st = some (.val r.1, r.2) := by
  simp only [aCopy, het, hs, hr, hd, if_true, h, ansV]

theorem getCells_put {o : Nat} {cs ys : List AV} (hl : st.objs.length = st.nobj) (h : st.getCells o = some cs) : (st.put o ys).getCells o = some ys := by
  obtain ⟨x, h1, h2⟩ := getCells_some h
  unfold Store.put
  rw [h1]
  cases x with
  | tcells t n zs => simp only [Store.getCells]; rw [Store.get_set_same hl h1]
  | scells zs => simp only [Store.getCells]; rw [Store.get_set_same hl h1]
  | cells zs => simp only [Store.getCells]; rw [Store.get_set_same hl h1]
  | _ => cases h2
theorem put_set {o : Nat} {cs ys : List AV} (h : st.get o = some (.cells cs)) : st.put o ys = st.set o (.cells ys) := by
  unfold Store.put; rw [h]
theorem set_set (o : Nat) (x y : AObj) : (st.set o x).set o y = st.set o y := by
  cases st; simp [Store.set]
theorem put_new {cs ys : List AV} : (st.new (.cells cs)).put st.nobj ys = st.new (.cells ys) := by
  rw [put_set (Store.get_new _)]
  cases st; simp [Store.set, Store.new]
theorem getCells_new {x : AObj} {o : Nat} (h : o < st.nobj) : (st.new x).getCells o = st.getCells o := by
  unfold Store.getCells; rw [Store.get_old x h]
theorem getCells_new' {cs : List AV} : (st.new (.cells cs)).getCells st.nobj = some cs := by
  unfold Store.getCells; rw [Store.get_new]
theorem wf_new {x : AObj} (h : st.objs.length = st.nobj) : (st.new x).objs.length = (st.new x).nobj := by cases st; simp [Store.new] at *; exact h
theorem wf_set {o : Nat} {x : AObj} (h : st.objs.length = st.nobj) : (st.set o x).objs.length = (st.set o x).nobj := by cases st; simp [Store.set] at *; exact h
theorem new_dead {o : Nat} {x : AObj} (h : o < st.nobj) : ((st.new x).set st.nobj .dead).set o .dead = (st.set o .dead).new .dead := by
  cases st with
  | mk objs nobj tops ntop =>
    simp only [Store.new, Store.set]
    have h' : o < nobj := h
    rw [show nobj + 1 - 1 - nobj = 0 by omega, show nobj + 1 - 1 - o = (nobj - 1 - o) + 1 by omega]
    simp

/-- The facts on a slice's type. -/
structure SlT (L : Look) (T e sz by_ : Nat) (z : AV) : Prop where
  el : elemT L T = some e
  un : L.und T = some (.slice e)
  size : sizeT L e = some sz
  bytes : bytesT L e = some by_
  zero : zeroT L e = some z
  zlen : z.cells.length = sz
  pos : 0 < sz
  int : isIntT L 3 = some true
  agg : aggT L e = some true ∨ (aggT L e = some false ∧ sz = 1)
/-- An element of which nothing is known. -/
def junkE (L : Look) (e sz : Nat) : AV := match aggT L e with
  | some true => .agg (List.replicate sz .junk)
  | _ => .junk
theorem SlT.junk_good {T by_ : Nat} {z : AV} (h : SlT L T e sz by_ z) : goodB L e sz (junkE L e sz) = true := by
  unfold goodB junkE
  rcases h.agg with ha | ⟨ha, h1⟩
  · rw [ha]; simp [isAgg, AV.cells]
  · rw [ha]; simp [isAgg, AV.cells, h1]
theorem SlT.junk_cells {T by_ : Nat} {z : AV} (h : SlT L T e sz by_ z) (k : Nat) : flat (List.replicate k (junkE L e sz)) = List.replicate (k * sz) .junk := by
  have : (junkE L e sz).cells = List.replicate sz .junk := by
    unfold junkE
    rcases h.agg with ha | ⟨ha, h1⟩
    · rw [ha]; rfl
    · rw [ha, h1]; rfl
  induction k with
  | zero => simp [flat]
  | succ k ih =>
    rw [List.replicate_succ, show flat (junkE L e sz :: List.replicate k (junkE L e sz)) = (junkE L e sz).cells ++ flat (List.replicate k (junkE L e sz)) by simp [flat], ih, this, List.replicate_append_replicate]
    congr 1; rw [Nat.add_mul]; omega
variable {T by_ : Nat} {z : AV}
/-- Into new memory. -/
theorem copiesA (hT : SlT L T e sz by_ z) (hwf : st.objs.length = st.nobj) {o i len : Nat} {A D : List AV} {x : AV} {tok : Option (Nat × Nat)} {cp : Option Nat} (hget : st.getCells o = some (flat (A ++ D))) (ho : o < st.nobj) (hA : A.length = i) (hD : i + D.length = len) (hD0 : i < len)
    (hgA : ∀ y ∈ A, goodB L e sz y = true) (hgD : ∀ y ∈ D, goodB L e sz y = true) (hgx : goodB L e sz x = true) (h1 : (len + 1) * by_ ≤ maxBytes) (h2 : len + 1 ≤ maxBytes) :
    ∃ st0 st1 nn mm, aAppend L 1 T 3 [.val (.arr sz o 0 i (some len)), .val (.int .i64 ((len + 1 - i : Nat) : Int))] st = some (.val (.arr sz st.nobj 0 (len + 1) none), st0) ∧
      aCopy L T [.val (.arr sz st.nobj (i * sz) (len + 1 - i) none), .val (.row sz tok cp [x])] st0 = some (.val nn, st1) ∧
      aCopy L T [.val (.arr sz st.nobj ((i + 1) * sz) (len + 1 - (i + 1)) none), .val (.arr sz o (i * sz) (len - i) (some (len - i)))] st1 = some (.val mm, st.new (.cells (flat (A ++ x :: D)))) := by
  have hz := hT.pos
  have hlA := flat_len (sz := sz) fun y hy => good_len (hgA y hy)
  have hlx := good_len hgx
  let zs := List.replicate (len + 1 - i) z
  refine ⟨st.new (.cells (flat (A ++ zs))), st.new (.cells (flat (A ++ x :: List.replicate (len - i) z))), .int .i64 (min [x].length (len + 1 - i) : Nat), .int .i64 (min D.length (len + 1 - (i + 1)) : Nat), ?_, ?_, ?_⟩
  · have hz' : zerosV L e (.int .i64 ((len + 1 - i : Nat) : Int)) = some zs := by
      simp only [zerosV, hT.size, hT.bytes, hT.zero]
      have hm : (len + 1 - i) * by_ ≤ maxBytes := Nat.le_trans (Nat.mul_le_mul_right _ (by omega)) h1
      have hmx : maxBytes = 140737488355328 := rfl
      rw [if_pos ⟨by omega, by omega, by simpa using hm, hT.zlen⟩]
      simp [zs]
    have hrd : readRow L e st (.arr sz o 0 i (some len)) = some A := readRow_at hT.size hz (pre := []) (ys := A) (post := flat D) (by rw [hget, flat_app]; rfl) rfl hA.symm hgA
    have hne : zs.isEmpty = false := by
      cases hzs : zs with
      | nil =>
        have hlen : zs.length = 0 := by rw [hzs]; rfl
        simp [zs] at hlen
        omega
      | cons _ _ => rfl
    have hlen : (A ++ zs).length = len + 1 := by simp [zs, hA]; omega
    simp only [aAppend, hT.el, hT.int, hz', appendV, hT.bytes, hT.size, hT.zero, hT.zlen, hz, and_self, if_true, hrd, hne, Bool.false_eq_true, if_false]
    have hzl : zs.length = len + 1 - i := by simp [zs]
    simp only [appendArr, hzl]
    rw [if_pos (by omega)]
    simp only [freshV, hlen]
    rw [if_pos ⟨h1, h2, hz⟩, if_pos trivial]
    rfl
  · have hc := copy_at (sz := sz) (st := st.new (.cells (flat (A ++ zs)))) (o := st.nobj) (off := i * sz) (n := len + 1 - i) (cap := none) (pre := flat A) (mid := z.cells) (post := flat (List.replicate (len - i) z)) (src := [x])
      (by
        rw [getCells_new', flat_app]
        congr 1
        rw [List.append_assoc]
        congr 1
        show flat (List.replicate (len + 1 - i) z) = _
        rw [show len + 1 - i = (len - i) + 1 by omega, List.replicate_succ]
        simp [flat]) (by rw [hlA, hA]) (by
        rw [List.take_of_length_le (by simp; omega)]
        simp [flat, hlx, hT.zlen])
    have := aCopy_at (L := L) (t := T) (d := .arr sz st.nobj (i * sz) (len + 1 - i) none) (x := .row sz tok cp [x]) hT.el hT.size (xs := [x]) (by simp only [readRow, hT.size, if_true]) (by simp [elSize]) hc
    rw [this]
    rw [put_new, List.take_of_length_le (by simp; omega)]
    simp [flat]
  · have hrd : readRow L e (st.new (.cells (flat (A ++ x :: List.replicate (len - i) z)))) (.arr sz o (i * sz) (len - i) (some (len - i))) = some D :=
      readRow_at hT.size hz (pre := flat A) (ys := D) (post := []) (by rw [getCells_new ho, hget, flat_app, List.append_nil]) (by rw [hlA, hA]) (by omega) hgD
    have hzl : (flat (List.replicate (len - i) z)).length = (len - i) * sz := by
      rw [flat_len (sz := sz) fun y hy => by rw [(List.mem_replicate.1 hy).2]; exact hT.zlen]; simp
    have hlD := flat_len (sz := sz) fun y hy => good_len (hgD y hy)
    have hc := copy_at (sz := sz) (st := st.new (.cells (flat (A ++ x :: List.replicate (len - i) z)))) (o := st.nobj) (off := (i + 1) * sz) (n := len + 1 - (i + 1)) (cap := none) (pre := flat (A ++ [x])) (mid := flat (List.replicate (len - i) z)) (post := []) (src := D)
      (by rw [getCells_new', List.append_nil, ← flat_app]; simp) (by rw [flat_app, List.length_append, hlA, hA]; simp [flat, hlx, Nat.add_mul]) (by
        rw [List.take_of_length_le (by omega), hzl, hlD, show D.length = len - i by omega])
    have := aCopy_at (L := L) (t := T) (d := .arr sz st.nobj ((i + 1) * sz) (len + 1 - (i + 1)) none) (x := .arr sz o (i * sz) (len - i) (some (len - i))) hT.el hT.size (xs := D) hrd (by simp [elSize]) hc
    rw [this]
    rw [put_new, List.take_of_length_le (by omega), List.append_nil, ← flat_app]
    simp
/-- In its place. -/
theorem copiesB (hT : SlT L T e sz by_ z) (hwf : st.objs.length = st.nobj) {o i len c : Nat} {A D : List AV} {x : AV} {tok : Option (Nat × Nat)} {cp : Option Nat} (hA : A.length = i) (hD : i + D.length = len) (hD0 : i < len) (hc : len + 1 ≤ c) (hget : st.get o = some (.cells (flat (A ++ D ++ List.replicate (c - len) (junkE L e sz)))))
    (hgA : ∀ y ∈ A, goodB L e sz y = true) (hgD : ∀ y ∈ D, goodB L e sz y = true) (hgx : goodB L e sz x = true) :
    ∃ st1 nn mm, aCopy L T [.val (.arr sz o ((i + 1) * sz) (len + 1 - (i + 1)) (some (c - (i + 1)))), .val (.arr sz o (i * sz) (len + 1 - i) (some (c - i)))] st = some (.val nn, st1) ∧
      aCopy L T [.val (.arr sz o (i * sz) (len + 1 - i) (some (c - i))), .val (.row sz tok cp [x])] st1 = some (.val mm, st.set o (.cells (flat (A ++ x :: D) ++ flat (List.replicate (c - len - 1) (junkE L e sz))))) := by
  have hz := hT.pos
  have hlA := flat_len (sz := sz) fun y hy => good_len (hgA y hy)
  have hlD := flat_len (sz := sz) fun y hy => good_len (hgD y hy)
  have hlx := good_len hgx
  have hj := hT.junk_good
  have hjl := good_len hj
  have hgc : st.getCells o = some (flat (A ++ D ++ List.replicate (c - len) (junkE L e sz))) := by unfold Store.getCells; rw [hget]
  have hrep : List.replicate (c - len) (junkE L e sz) = junkE L e sz :: List.replicate (c - len - 1) (junkE L e sz) := by
    rw [← List.replicate_succ]; congr 1; omega
  match D, hD, hgD, hlD, hgc, hget with
  | [], hD, _, _, _, _ => simp at hD; omega
  | d :: D, hD, hgD, hlD, hgc, hget =>
    simp only [List.length_cons] at hD
    have hdl := good_len (hgD d List.mem_cons_self)
    have hlD' := flat_len (sz := sz) (ys := D) fun y hy => good_len (hgD y (List.mem_cons_of_mem _ hy))
    refine ⟨st.set o (.cells (flat (A ++ d :: d :: D) ++ flat (List.replicate (c - len - 1) (junkE L e sz)))), .int .i64 (min (d :: D ++ [junkE L e sz]).length (len + 1 - (i + 1)) : Nat), .int .i64 (min [x].length (len + 1 - i) : Nat), ?_, ?_⟩
    · have hrd : readRow L e st (.arr sz o (i * sz) (len + 1 - i) (some (c - i))) = some (d :: D ++ [junkE L e sz]) :=
        readRow_at hT.size hz (pre := flat A) (ys := d :: D ++ [junkE L e sz]) (post := flat (List.replicate (c - len - 1) (junkE L e sz))) (by
          rw [hgc, hrep]
          congr 1
          rw [← flat_app, ← flat_app]; congr 1; simp) (by rw [hlA, hA]) (by simp; omega) (fun y hy => by
          rcases List.mem_append.1 hy with hy | hy
          · exact hgD y hy
          · rw [List.mem_singleton.1 hy]; exact hj)
      have hcp := copy_at (sz := sz) (st := st) (o := o) (off := (i + 1) * sz) (n := len + 1 - (i + 1)) (cap := some (c - (i + 1))) (pre := flat (A ++ [d])) (mid := flat (D ++ [junkE L e sz])) (post := flat (List.replicate (c - len - 1) (junkE L e sz))) (src := d :: D ++ [junkE L e sz])
        (by
          rw [hgc, hrep]
          congr 1
          rw [← flat_app, ← flat_app]; congr 1; simp) (by rw [flat_app, List.length_append, hlA, hA]; simp [flat, hdl, Nat.add_mul]) (by
          rw [show len + 1 - (i + 1) = (d :: D).length by simp; omega, List.take_left', hlD, flat_app, List.length_append, hlD']
          · simp [flat, hjl, Nat.add_mul]
          · rfl)
      have := aCopy_at (L := L) (t := T) (d := .arr sz o ((i + 1) * sz) (len + 1 - (i + 1)) (some (c - (i + 1)))) (x := .arr sz o (i * sz) (len + 1 - i) (some (c - i))) hT.el hT.size hrd (by simp [elSize]) hcp
      rw [this, put_set hget]
      rw [show len + 1 - (i + 1) = (d :: D).length by simp; omega, List.take_left' rfl, ← flat_app]
      simp
    · have hget1 : (st.set o (.cells (flat (A ++ d :: d :: D) ++ flat (List.replicate (c - len - 1) (junkE L e sz))))).get o = some (.cells (flat (A ++ d :: d :: D) ++ flat (List.replicate (c - len - 1) (junkE L e sz)))) := Store.get_set_same hwf hget
      have hcp := copy_at (sz := sz) (st := st.set o (.cells (flat (A ++ d :: d :: D) ++ flat (List.replicate (c - len - 1) (junkE L e sz))))) (o := o) (off := i * sz) (n := len + 1 - i) (cap := some (c - i)) (pre := flat A) (mid := d.cells) (post := flat (d :: D) ++ flat (List.replicate (c - len - 1) (junkE L e sz))) (src := [x])
        (by
          unfold Store.getCells; rw [hget1]
          simp [flat]) (by rw [hlA, hA]) (by
          rw [List.take_of_length_le (by simp; omega)]
          simp [flat, hlx, hdl])
      have := aCopy_at (L := L) (t := T) (d := .arr sz o (i * sz) (len + 1 - i) (some (c - i))) (x := .row sz tok cp [x]) hT.el hT.size (xs := [x]) (by simp only [readRow, hT.size, if_true]) (by simp [elSize]) hcp
      rw [this, put_set hget1, set_set, List.take_of_length_le (by simp; omega)]
      simp [flat]
theorem appendE (hT : SlT L T e sz by_ z) {o n c : Nat} {A post : List AV} {x : AV} {tok : Option (Nat × Nat)} {cp : Option Nat} (hA : A.length = n) (hgA : ∀ y ∈ A, goodB L e sz y = true) (hget : st.getCells o = some (flat A ++ post)) :
    aAppend L 1 T T [.val (.arr sz o 0 n (some c)), .val (.row sz tok cp [x])] st = ansV (appendArr 1 sz by_ e o 0 n (some c) A [x] st) := by
  have hint : isIntT L T = some false := by simp only [isIntT, hT.un]
  have hrd : readRow L e st (.arr sz o 0 n (some c)) = some A := readRow_at hT.size hT.pos (pre := []) (ys := A) (post := post) (by rw [hget]; rfl) rfl hA.symm hgA
  have hrx : readRow L e st (.row sz tok cp [x]) = some [x] := by simp only [readRow, hT.size, if_true]
  simp only [aAppend, hT.el, hint, hrx, appendV, hT.bytes, hT.size, hT.zero, hT.zlen, hT.pos, and_self, if_true, hrd, List.isEmpty_cons, Bool.false_eq_true, if_false]
/-- Behind its end: into new memory. -/
theorem endE (hT : SlT L T e sz by_ z) {o n : Nat} {A : List AV} {x : AV} {tok : Option (Nat × Nat)} {cp : Option Nat} (hA : A.length = n) (hgA : ∀ y ∈ A, goodB L e sz y = true) (hget : st.getCells o = some (flat A)) (h1 : (n + 1) * by_ ≤ maxBytes) (h2 : n + 1 ≤ maxBytes) :
    aAppend L 1 T T [.val (.arr sz o 0 n (some n)), .val (.row sz tok cp [x])] st = some (.val (.arr sz st.nobj 0 (n + 1) none), st.new (.cells (flat (A ++ [x])))) := by
  rw [appendE hT (post := []) hA hgA (by rw [hget, List.append_nil])]
  simp only [appendArr, List.length_cons, List.length_nil]
  rw [if_pos (by omega)]
  simp only [freshV, List.length_append, List.length_cons, List.length_nil, hA]
  rw [if_pos ⟨h1, h2, hT.pos⟩, if_pos trivial]
  rfl
/-- Behind its end: in its place. -/
theorem endG (hT : SlT L T e sz by_ z) {o n c : Nat} {A : List AV} {x : AV} {tok : Option (Nat × Nat)} {cp : Option Nat} (hA : A.length = n) (hgA : ∀ y ∈ A, goodB L e sz y = true) (hgx : goodB L e sz x = true) (hc : n + 1 ≤ c) (hget : st.get o = some (.cells (flat (A ++ List.replicate (c - n) (junkE L e sz))))) :
    aAppend L 1 T T [.val (.arr sz o 0 n (some c)), .val (.row sz tok cp [x])] st = some (.val (.arr sz o 0 (n + 1) (some c)), st.set o (.cells (flat (A ++ [x]) ++ flat (List.replicate (c - n - 1) (junkE L e sz))))) := by
  have hgc : st.getCells o = some (flat A ++ flat (List.replicate (c - n) (junkE L e sz))) := by unfold Store.getCells; rw [hget, flat_app]
  have hlA := flat_len (sz := sz) fun y hy => good_len (hgA y hy)
  have hlx := good_len hgx
  have hjl := good_len hT.junk_good
  rw [appendE hT hA hgA hgc]
  simp only [appendArr, List.length_cons, List.length_nil]
  rw [if_neg (by omega)]
  simp only [hgc]
  have hrep : List.replicate (c - n) (junkE L e sz) = junkE L e sz :: List.replicate (c - n - 1) (junkE L e sz) := by
    rw [← List.replicate_succ]; congr 1; omega
  have hsp : splice (flat A ++ flat (List.replicate (c - n) (junkE L e sz))) (0 + n * sz) (flat [x]) = some (flat (A ++ [x]) ++ flat (List.replicate (c - n - 1) (junkE L e sz))) := by
    rw [hrep]
    have e1 : flat (junkE L e sz :: List.replicate (c - n - 1) (junkE L e sz)) = (junkE L e sz).cells ++ flat (List.replicate (c - n - 1) (junkE L e sz)) := by simp [flat]
    have e2 : flat [x] = x.cells := by simp [flat]
    have hn : (flat A).length = n * sz := by rw [hlA, hA]
    rw [e1, e2, flat_app, e2]
    unfold splice
    rw [if_pos (by simp [hlx, hjl, hn])]
    congr 1
    have hlen2 : x.cells.length = (junkE L e sz).cells.length := by rw [hlx, hjl]
    have hdrop : (flat A ++ ((junkE L e sz).cells ++ flat (List.replicate (c - n - 1) (junkE L e sz)))).drop ((flat A).length + (junkE L e sz).cells.length) = flat (List.replicate (c - n - 1) (junkE L e sz)) := by
      rw [← List.append_assoc, List.drop_append_of_le_length (by simp)]
      simp
    rw [Nat.zero_add, ← hn, List.take_left' rfl, hlen2, hdrop]
  rw [hsp]
  simp only [ansV, put_set hget]
  try rfl
end
end Go.Sim
