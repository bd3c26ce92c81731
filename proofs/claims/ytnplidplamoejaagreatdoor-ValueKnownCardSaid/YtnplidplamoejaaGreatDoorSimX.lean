/- Regions whose order is drawn: every order comes to the same. -/
import Derived.Test.YtnplidplamoejaaGreatDoorSimW
import Derived.OrdersIn
set_option linter.unusedVariables false
set_option linter.unusedSimpArgs false
set_option linter.unnecessarySimpa false
namespace Go.Sim

section
variable {E : Env} {call : Caller} {A : Ann} {g g0 : Gh} {B : Nat → Nat} {w w0 : World} {a : Act} {rd : Option Nat}

theorem pairsFrom_ok {all : List Oper} {cl fs : List Nat} {i : Nat} {x : Oper} {fx : Nat} : ∀ (r : List Oper) (j : Nat), pairsFrom A all cl fs i x fx r j = true → ∀ k y, r[k]? = some y →
    (cl.getD (j + k) 0).testBit i = true ∨ (labsOk fx (fs.getD (j + k) 2) = true ∧ apartOps A all x y = true)
  | [], _, _, k, y, h => by simp at h
  | z :: r, j, hp, 0, y, h => by
    simp only [List.getElem?_cons_zero, Option.some.injEq] at h; subst h
    simp only [pairsFrom, Bool.and_eq_true, Bool.or_eq_true] at hp
    simpa using hp.1
  | z :: r, j, hp, k + 1, y, h => by
    simp only [pairsFrom, Bool.and_eq_true] at hp
    have := pairsFrom_ok r (j + 1) hp.2 k y (by simpa using h)
    rwa [show j + 1 + k = j + (k + 1) by omega] at this
theorem pairsOk_ok {all : List Oper} {cl fs : List Nat} (r : List Oper) : ∀ (i : Nat), pairsOk A all cl fs r i = true → ∀ k l x y, k < l → r[k]? = some x → r[l]? = some y →
    (cl.getD (i + l) 0).testBit (i + k) = true ∨ (labsOk (fs.getD (i + k) 2) (fs.getD (i + l) 2) = true ∧ apartOps A all x y = true) := by
  induction r with
  | nil => intro i _ k l x y _ h _; simp at h
  | cons z r ih =>
    intro i hp k l x y hkl hx hy
    rw [pairsOk, Bool.and_eq_true] at hp
    obtain ⟨l', rfl⟩ : ∃ l', l = l' + 1 := ⟨l - 1, by omega⟩
    rw [List.getElem?_cons_succ] at hy
    cases k with
    | zero =>
      rw [List.getElem?_cons_zero] at hx
      injection hx with hx
      have := pairsFrom_ok r (i + 1) hp.1 l' y hy
      rw [show i + 1 + l' = i + (l' + 1) from by omega] at this
      rw [← hx]
      exact this
    | succ k =>
      rw [List.getElem?_cons_succ] at hx
      have := ih (i + 1) hp.2 k l' x y (by omega) hx hy
      rw [show i + 1 + l' = i + (l' + 1) from by omega, show i + 1 + k = i + (k + 1) from by omega] at this
      exact this
theorem getD_app_l {α : Type} {a b : List α} {k : Nat} {d : α} (h : k < a.length) : (a ++ b).getD k d = a.getD k d := by
  simp [List.getD, List.getElem?_append_left h]
theorem getD_app_r {α : Type} {a b : List α} {k : Nat} {d : α} (h : a.length ≤ k) : (a ++ b).getD k d = b.getD (k - a.length) d := by
  simp [List.getD, List.getElem?_append_right h]
theorem fold_bit (acc : List Nat) (p : Nat) : ∀ (e : List Nat) (m : Nat), (e.foldl (fun m j => m ||| 2 ^ j ||| acc.getD j 0) m).testBit p = true → m.testBit p = true ∨ ∃ x ∈ e, x = p ∨ (acc.getD x 0).testBit p = true
  | [], m, h => .inl h
  | x :: e, m, h => by
    simp only [List.foldl_cons] at h
    rcases fold_bit acc p e _ h with h | ⟨y, hy, h⟩
    · rw [Nat.testBit_or, Nat.testBit_or, Nat.testBit_two_pow] at h
      simp only [Bool.or_eq_true, decide_eq_true_eq] at h
      rcases h with (h | h) | h
      · exact .inl h
      · exact .inr ⟨x, List.mem_cons_self, .inl h⟩
      · exact .inr ⟨x, List.mem_cons_self, .inr h⟩
    · exact .inr ⟨y, List.mem_cons_of_mem _ hy, h⟩
theorem closure_ok {full : List (List Nat)} {D : Nat → Prop} (hD : ∀ k, D k → ∀ e ∈ full.getD k [], D e) : ∀ (rest : List (List Nat)) (acc : List Nat), (∀ k, rest[k]? = full[acc.length + k]?) → (∀ k p, (acc.getD k 0).testBit p = true → (∀ e ∈ full.getD k [], D e) → D p) →
    ∀ k p, ((closure acc rest).getD k 0).testBit p = true → (∀ e ∈ full.getD k [], D e) → D p
  | [], acc, _, hi => hi
  | e :: rest, acc, hr, hi => by
    simp only [closure]
    refine closure_ok hD rest _ (fun k => ?_) (fun k p h he => ?_)
    · have := hr (k + 1)
      simp only [List.getElem?_cons_succ] at this
      rw [this, List.length_append]
      simp only [List.length_cons, List.length_nil]
      congr 1; omega
    · rcases Nat.lt_trichotomy k acc.length with hk | hk | hk
      · rw [getD_app_l hk] at h
        exact hi k p h he
      · subst hk
        rw [getD_app_r (Nat.le_refl _)] at h
        simp only [Nat.sub_self, List.getD_cons_zero] at h
        have h0 : full.getD acc.length [] = e := by
          have := hr 0
          simp only [List.getElem?_cons_zero, Nat.add_zero] at this
          simp [List.getD, ← this]
        rw [h0] at he
        rcases fold_bit acc p e 0 h with h | ⟨x, hx, h⟩
        · simp at h
        · rcases h with h | h
          · subst h; exact he x hx
          · exact hi x p h (hD x (he x hx))
      · rw [getD_app_r (by omega)] at h
        have : ([e.foldl (fun m j => m ||| 2 ^ j ||| acc.getD j 0) 0].getD (k - acc.length) 0) = 0 := by
          have : ∃ j, k - acc.length = j + 1 := ⟨k - acc.length - 1, by omega⟩
          obtain ⟨j, hj⟩ := this
          rw [hj]; rfl
        rw [this] at h
        simp at h
theorem backOk_ok : ∀ (es : List (List Nat)) (i : Nat), backOk i es = true → ∀ k e, e ∈ es.getD k [] → e < i + k
  | [], i, _, k, e, he => by simp at he
  | x :: es, i, h, 0, e, he => by
    simp only [backOk, Bool.and_eq_true] at h
    simp only [List.getD_cons_zero] at he
    have := List.all_eq_true.1 h.1 e he
    simpa using this
  | x :: es, i, h, k + 1, e, he => by
    simp only [backOk, Bool.and_eq_true] at h
    simp only [List.getD_cons_succ] at he
    have := backOk_ok es (i + 1) h.2 k e he
    omega

theorem aopsF_L {rid : Nat} {all : List Oper} {lab : Nat → Nat} : ∀ (n i : Nat) (fr : AFr) (st : Store) (q : AFr × Store × List Nat), i + n = all.length → aopsF E call A rid all (all.drop i) i fr st = some q → (∀ k, lab (i + k) = q.2.2.getD k 2) →
    opsL E call A rid all lab (List.range' i n) fr st = some (q.1, q.2.1)
  | 0, i, fr, st, q, h, hq, hl => by
    rw [List.drop_of_length_le (by omega)] at hq
    simp only [aopsF, Option.some.injEq] at hq; subst hq
    rfl
  | n + 1, i, fr, st, q, h, hq, hl => by
    have hlt : i < all.length := by omega
    rw [List.drop_eq_getElem_cons hlt] at hq
    have hget : all[i]? = some all[i] := List.getElem?_eq_getElem hlt
    simp only [aopsF] at hq
    rw [List.range'_succ]
    simp only [opsL]
    split at hq
    · rename_i hw
      split at hq
      · cases hq
      · rename_i ins hins
        split at hq
        · rename_i r hr
          split at hq
          · rename_i fr1 hp
            split at hq
            · rename_i q' hq'
              injection hq with hq; subst hq
              have hput := putO_eq A fr all[i].op all[i].dst (some r.1)
              simp only [putO, hp] at hput
              cases hu : putU A fr all[i].op all[i].dst (some r.1) with
              | none => simp [hu] at hput
              | some u =>
                simp only [hu, Option.map_some, Option.some.injEq] at hput
                have h0 := hl 0
                simp only [Nat.add_zero, List.getD_cons_zero] at h0
                have hout : outS E call A rid all i all[i] fr st = some (some r.1, r.2, lab i) := by
                  simp only [outS, hw, hins, hr, h0]
                rw [stepL_mk hget hout hu]
                simp only [← hput]
                exact aopsF_L n (i + 1) fr1 r.2 q' (by omega) hq' (fun k => by have := hl (k + 1); simp only [List.getD_cons_succ] at this; rw [← this]; congr 1; omega)
            · cases hq
          · cases hq
        · cases hq
    · rename_i hw
      split at hq
      · rename_i fr1 hp
        split at hq
        · rename_i q' hq'
          injection hq with hq; subst hq
          have hput := putO_eq A fr all[i].op all[i].dst none
          simp only [putO, hp] at hput
          cases hu : putU A fr all[i].op all[i].dst none with
          | none => simp [hu] at hput
          | some u =>
            simp only [hu, Option.map_some, Option.some.injEq] at hput
            have h0 := hl 0
            simp only [Nat.add_zero, List.getD_cons_zero] at h0
            have hout : outS E call A rid all i all[i] fr st = some (none, st, lab i) := by
              simp only [outS, hw, h0]
            rw [stepL_mk hget hout hu]
            simp only [← hput]
            exact aopsF_L n (i + 1) fr1 st q' (by omega) hq' (fun k => by have := hl (k + 1); simp only [List.getD_cons_succ] at this; rw [← this]; congr 1; omega)
        · cases hq
      · cases hq
    · cases hq
theorem stepL_astep {rid i l : Nat} {all : List Oper} {fr : AFr} {st : Store} {r : AFr × Store} (h : stepL E call A rid all i l fr st = some r) : astep E call A rid all i fr st = some r := by
  obtain ⟨o, out, u, ho, hq, hu, e⟩ := stepL_some h
  have hput := putO_eq A fr o.op o.dst out
  rw [hu] at hput
  simp only [astep, ho]
  unfold outS at hq
  split at hq
  · rename_i hw
    simp only [hw]
    split at hq
    · cases hq
    · rename_i ins hins
      split at hq
      · rename_i r1 hr1
        simp only [Option.some.injEq, Prod.mk.injEq] at hq
        obtain ⟨rfl, h2, _⟩ := hq
        simp only [putO, Option.map_some] at hput
        simp only [aoper, hins, hr1, hput, ← e, h2]
      · cases hq
  · rename_i hw
    simp only [hw]
    simp only [Option.some.injEq, Prod.mk.injEq] at hq
    obtain ⟨rfl, h2, _⟩ := hq
    simp only [putO, Option.map_some] at hput
    simp only [hput, ← e, h2]
  · cases hq
theorem opsL_I {rid : Nat} {all : List Oper} {lab : Nat → Nat} : ∀ (L : List Nat) (fr : AFr) (st : Store) (r : AFr × Store), opsL E call A rid all lab L fr st = some r → aopsI E call A rid all L fr st = some r
  | [], _, _, _, h => h
  | i :: L, fr, st, r, h => by
    simp only [opsL] at h
    split at h
    · rename_i r1 hr1
      simp only [aopsI, stepL_astep hr1]
      exact opsL_I L r1.1 r1.2 r h
    · cases h
/-- What is not yet done, in text order. -/
def left (n : Nat) (listed : Array Bool) : List Nat := (List.range n).filter fun i => !listed.getD i true
theorem lin_ok (wf : ∀ t b, A.base t = some b → A.base b = some b) {rid : Nat} {ops : Array Oper} {lab : Nat → Nat} {cl fs : List Nat} (hback : backOk 0 (ops.toList.map anyEdges) = true) (hcl : cl = closure [] (ops.toList.map anyEdges)) (hlab : ∀ i, lab i = fs.getD i 2) (hp : pairsOk A ops.toList cl fs ops.toList 0 = true) :
    ∀ (fuel t : Nat) (listed : Array Bool) (fr : AFr) (st : Store) (r : AFr × Store), listed.size = ops.size → (∀ i o, ops[i]? = some o → listed.getD i true = true → ∀ e ∈ anyEdges o, listed.getD e false = true) → (left ops.size listed).length ≤ fuel →
      opsL E call A rid ops.toList lab (left ops.size listed) fr st = some r → opsL E call A rid ops.toList lab (Region.linearise.go .any ops fuel t listed []) fr st = some r := by
  have hes : ∀ k, (ops.toList.map anyEdges).getD k [] = ((ops[k]?).map anyEdges).getD [] := by
    intro k
    simp only [List.getD, List.getElem?_map, Array.getElem?_toList]
  have hready : ∀ (listed : Array Bool) i, i ∈ Region.ready .any ops listed ↔ i < ops.size ∧ listed.getD i true = false ∧ ∀ o, ops[i]? = some o → ∀ e ∈ anyEdges o, listed.getD e false = true := by
    intro listed i
    simp only [Region.ready, List.mem_filter, List.mem_range, Bool.and_eq_true, Bool.not_eq_true']
    constructor
    · rintro ⟨h1, h2, h3⟩
      refine ⟨h1, h2, fun o ho e he => ?_⟩
      rw [ho] at h3
      simp only [Option.map_some, Option.getD_some, Array.all_eq_true_iff_forall_mem] at h3
      simp only [anyEdges, List.mem_map, List.mem_filter] at he
      obtain ⟨ed, ⟨he1, he2⟩, rfl⟩ := he
      have := h3 ed (by simpa using he1)
      rw [he2] at this
      simpa using this
    · rintro ⟨h1, h2, h3⟩
      refine ⟨h1, h2, ?_⟩
      have ho : ops[i]? = some ops[i] := Array.getElem?_eq_getElem h1
      rw [ho]
      simp only [Option.map_some, Option.getD_some, Array.all_eq_true_iff_forall_mem]
      intro ed hed
      by_cases hb : Region.binds .any ed = true
      · rw [hb]
        simp only [Bool.not_true, Bool.false_or]
        exact h3 _ ho _ (by simp only [anyEdges, List.mem_map, List.mem_filter]; exact ⟨ed, ⟨by simpa using hed, hb⟩, rfl⟩)
      · simp [hb]
  have getD_tf : ∀ (listed : Array Bool) i, i < listed.size → listed.getD i true = listed.getD i false := by
    intro listed i hi
    simp [Array.getD, hi]
  intro fuel
  induction fuel with
  | zero =>
    intro t listed fr st r _ _ hlen h
    have : left ops.size listed = [] := List.eq_nil_of_length_eq_zero (by omega)
    rw [this] at h
    exact h
  | succ fuel ih =>
    intro t listed fr st r hsz hclosed hlen h
    simp only [Region.linearise.go]
    change opsL E call A rid ops.toList lab (match (Region.ready .any ops listed)[t % (Region.ready .any ops listed).length]? with
      | some i => Region.linearise.go .any ops fuel (t / (Region.ready .any ops listed).length) (listed.setIfInBounds i true) [i]
      | none => [].reverse) fr st = some r
    cases hi : (Region.ready .any ops listed)[t % (Region.ready .any ops listed).length]? with
    | none =>
      have hnil : Region.ready .any ops listed = [] := by
        cases hr : Region.ready .any ops listed with
        | nil => rfl
        | cons x xs =>
          rw [hr] at hi
          have hlt : t % (x :: xs).length < (x :: xs).length := Nat.mod_lt _ (by simp)
          simp at hi
          simp at hlt
          omega
      cases hS : left ops.size listed with
      | nil => rw [hS] at h; exact h
      | cons m S =>
        exfalso
        have hm : m ∈ left ops.size listed := by rw [hS]; exact List.mem_cons_self
        simp only [left, List.mem_filter, List.mem_range, Bool.not_eq_true'] at hm
        have hleast : ∀ e, e < m → listed.getD e true = true := by
          intro e he
          cases hle : listed.getD e true with
          | true => rfl
          | false =>
            have hem : e ∈ left ops.size listed := by
              simp only [left, List.mem_filter, List.mem_range, Bool.not_eq_true']
              exact ⟨by omega, hle⟩
            have hpw : (left ops.size listed).Pairwise (· < ·) := List.Pairwise.filter _ List.pairwise_lt_range
            rw [hS] at hem hpw
            rcases List.mem_cons.1 hem with h | h
            · omega
            · have := (List.pairwise_cons.1 hpw).1 e h
              omega
        have : m ∈ Region.ready .any ops listed := by
          refine (hready listed m).2 ⟨hm.1, hm.2, fun o ho e he => ?_⟩
          have hlt := backOk_ok _ 0 hback m e (by rw [hes m, ho]; exact he)
          rw [← getD_tf listed e (by omega)]
          exact hleast e (by omega)
        rw [hnil] at this
        cases this
    | some i =>
      simp only []
      rw [linearise_go_acc, List.reverse_singleton, List.singleton_append]
      obtain ⟨hin, hun, hed⟩ := (hready listed i).1 (List.mem_of_getElem? hi)
      have hget : ops.toList[i]? = some ops[i] := by rw [Array.getElem?_toList]; exact Array.getElem?_eq_getElem hin
      have hmem : i ∈ left ops.size listed := by
        simp only [left, List.mem_filter, List.mem_range, Bool.not_eq_true']
        exact ⟨hin, hun⟩
      have hpw : (left ops.size listed).Pairwise (· < ·) := List.Pairwise.filter _ List.pairwise_lt_range
      obtain ⟨pre, post, hS⟩ := List.append_of_mem hmem
      have hpre : ∀ p ∈ pre, p < i ∧ p < ops.size ∧ listed.getD p true = false := by
        intro p hpm
        rw [hS] at hpw
        have h1 := (List.pairwise_append.1 hpw).2.2 p hpm i List.mem_cons_self
        have h2 : p ∈ left ops.size listed := by rw [hS]; exact List.mem_append_left _ hpm
        simp only [left, List.mem_filter, List.mem_range, Bool.not_eq_true'] at h2
        exact ⟨h1, h2⟩
      rw [hS] at h
      have hfront := front_ok wf hget pre fr st (fun p hpm => by
        obtain ⟨h1, h2, h3⟩ := hpre p hpm
        have hgp : ops.toList[p]? = some ops[p] := by rw [Array.getElem?_toList]; exact Array.getElem?_eq_getElem h2
        refine ⟨_, hgp, ?_⟩
        have := pairsOk_ok ops.toList 0 hp p i _ _ h1 hgp hget
        simp only [Nat.zero_add] at this
        rcases this with hb | hb
        · exfalso
          have hD := closure_ok (full := ops.toList.map anyEdges) (D := fun k => listed.getD k false = true) (fun k hk e he => by
              rw [hes k] at he
              cases ho : ops[k]? with
              | none => rw [ho] at he; cases he
              | some o =>
                rw [ho] at he
                have hlt : k < ops.size := (Array.getElem?_eq_some_iff.1 ho).1
                exact hclosed k o ho (by rw [getD_tf listed k (by omega)]; exact hk) e he)
            (ops.toList.map anyEdges) [] (fun k => by simp) (fun k p h _ => by simp at h) i p (by rw [← hcl]; exact hb) (fun e he => by
              rw [hes i, Array.getElem?_eq_getElem hin] at he
              exact hed _ (Array.getElem?_eq_getElem hin) e he)
          rw [getD_tf listed p (by omega)] at h3
          rw [h3] at hD; cases hD
        · rw [hlab p, hlab i]; exact hb) h
      simp only [opsL] at hfront ⊢
      split at hfront
      · rename_i r1 hr1
        have hleft : left ops.size (listed.setIfInBounds i true) = pre ++ post := by
          have h1 : left ops.size (listed.setIfInBounds i true) = (left ops.size listed).filter (fun k => k != i) := by
            simp only [left, List.filter_filter]
            apply List.filter_congr
            intro k hk
            by_cases hki : k = i
            · subst hki; simp [Array.getD, hsz, hin]
            · have : (listed.setIfInBounds i true).getD k true = listed.getD k true := by
                simp only [Array.getD_eq_getD_getElem?]
                rw [Array.getElem?_setIfInBounds_ne (fun e => hki e.symm)]
              rw [this]; simp [hki]
          rw [h1, hS, List.filter_append, List.filter_cons]
          have hpo : ∀ p ∈ post, p ≠ i := by
            intro p hpm
            rw [hS] at hpw
            have := (List.pairwise_cons.1 (List.pairwise_append.1 hpw).2.1).1 p hpm
            omega
          have f1 : pre.filter (fun k => k != i) = pre := List.filter_eq_self.2 fun p hpm => by have := (hpre p hpm).1; simp; omega
          have f2 : post.filter (fun k => k != i) = post := List.filter_eq_self.2 fun p hpm => by simpa using hpo p hpm
          rw [f1, f2]; simp
        refine ih _ _ r1.1 r1.2 r (by simp [hsz]) ?_ ?_ (by rw [hleft]; exact hfront)
        · intro k o ho hk e he
          have mono : ∀ z, listed.getD z false = true → (listed.setIfInBounds i true).getD z false = true := by
            intro z hz
            simp only [Array.getD_eq_getD_getElem?, Array.getElem?_setIfInBounds] at hz ⊢
            split
            · split <;> simp_all
            · exact hz
          apply mono
          by_cases hki : k = i
          · subst hki; exact hed o ho e he
          · refine hclosed k o ho ?_ e he
            simp only [Array.getD_eq_getD_getElem?] at hk ⊢
            rwa [Array.getElem?_setIfInBounds_ne (fun e => hki e.symm)] at hk
        · rw [hleft]
          have := congrArg List.length hS
          simp only [List.length_append, List.length_cons] at this ⊢
          omega
      · cases hfront
theorem adraw_wp (hcall : CallOk E call) (hmix : E.P.follows .mixedOrders = true) {rid : Nat} {ops : Array Oper} {Q : Exit → Act → World → Prop} {fr fr' : AFr} {st st' : Store} (h : adraw E call A rid ops.toList fr st = some (fr', st')) (hfs : FS E A g0 w0 g B st w fr a) (hk : Goes E A g0 w0 st' fr' (Q .normal)) :
    (Code.region rid ops true).wpIn (FW rd) 0 E.P Q a w := by
  unfold adraw at h
  split at h
  · rename_i hback
    split at h
    · rename_i q hq
      split at h
      · rename_i hp
        simp only [Option.some.injEq, Prod.mk.injEq] at h
        obtain ⟨rfl, rfl⟩ := h
        refine wpIn_region_draw fun t => ?_
        have hsch : Region.schedule (E.P.follows .mixedOrders) ops t = Region.linearise .any ops t := by
          simp only [Region.schedule, hmix, Bool.true_or, if_true]
        rw [hsch]
        have hL := aopsF_L (E := E) (call := call) (A := A) (rid := rid) (all := ops.toList) (lab := fun i => q.2.2.getD i 2) ops.toList.length 0 fr st q (by simp) (by rw [List.drop_zero]; exact hq) (fun k => by simp)
        have hleft : left ops.size (Array.replicate ops.size false) = List.range' 0 ops.toList.length := by
          unfold left
          have hf : (List.range ops.size).filter (fun i => !(Array.replicate ops.size false).getD i true) = List.range ops.size := by
            apply List.filter_eq_self.2
            intro i hi
            have := List.mem_range.1 hi
            simp [Array.getD, this]
          rw [hf, List.range_eq_range']
          simp
        have hlin := lin_ok (E := E) (call := call) (rid := rid) hfs.fr.wf hback rfl (fun i => rfl) hp ops.size t (Array.replicate ops.size false) fr st (q.1, q.2.1) (by simp) (fun i o ho hh => by
            have hlt : i < ops.size := (Array.getElem?_eq_some_iff.1 ho).1
            simp [Array.getD, hlt] at hh) (by rw [hleft]; simp) (by rw [hleft]; exact hL)
        refine aopsI_wp hcall (rid := rid) _ fr st g B _ a (opsL_I _ _ _ _ hlin) ?_ hk
        exact hfs.adv' (Adv.drew g w _) (hfs.inv.same fun _ _ => rfl)
      · cases h
    · cases h
  · cases h
end
end Go.Sim
