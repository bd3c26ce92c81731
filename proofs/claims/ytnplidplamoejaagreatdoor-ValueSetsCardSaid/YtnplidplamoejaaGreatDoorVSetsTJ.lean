/- Part of the proof that litmuslaw11.ValueSets answers true for every input. -/
import Derived.Test.YtnplidplamoejaaGreatDoorVSetsTH
import Derived.Test.YtnplidplamoejaaGreatDoorVSetsTI
set_option linter.unusedVariables false
set_option linter.unusedSimpArgs false
set_option linter.unnecessarySimpa false
namespace Go.Sim
open Go.Proofs

/-- One function of which something is known, beside others. -/
noncomputable def prWith (pr : Prims) (k : Nat) (p : List AV → Store → Option (AV × Store)) : Prims := fun f => if f = k then some p else pr f
set_option maxRecDepth 1000000 in
theorem prWith_ok {pr : Prims} (h : PrOk pr) {k : Nat} {p : List AV → Store → Option (AV × Store)} (hp : PrimOk E0 k p) : PrOk (prWith pr k p) := by
  intro f q hq
  unfold prWith at hq
  split at hq
  · rename_i e; injection hq with hq; subst e hq; exact hp
  · exact h f q hq
def GSize (args : List AV) (v : AV) : Prop := ∀ x a, args = [x] → IsV x a → v = .int .i64 (.ofNat a.size)
set_option maxRecDepth 1000000 in
theorem fn21 : E0.L.fn 21 = some Tryz.f21 := by kernel_rfl
set_option maxRecDepth 1000000 in
theorem prOk0 : PrOk pr0 := prims0
set_option maxRecDepth 1000000 in
set_option maxHeartbeats 1000000 in
theorem size_run : ∀ (m : Nat) (a : Vl) (x : AV), a.size ≤ m → a.size < big → IsV x a → stripV x = x → PureRun E0 21 [x] (.int .i64 (.ofNat a.size)) := by
  intro m
  induction m with
  | zero => intro a x h; have := size_pos a; omega
  | succ m ih =>
    intro a x hm hb hx hs
    refine pure_body e21 fn21 (by simp [plainVs, isV_plain hx]) (by simp [stripVs, hs]) fun ts => ?_
    refine ⟨prWith pr0 21 (pureP E0 21 GSize), a.size + 5, .int .i64 (.ofNat a.size), S0 ts, [], prWith_ok prOk0 pureP_ok, ?_, rfl, rfl, rfl⟩
    cases a with
    | mk t b n s ks vs f =>
    obtain ⟨K, W, rfl, hk, hw⟩ := isV_iff.1 hx
    have hsz : (Vl.mk t b n s ks vs f).size = 1 + n.length + s.length + ksum ks + vsum vs := by simp only [Vl.size]
    rw [hsz] at hb hm ⊢
    unfold big at hb
    have hkl := ksum_len ks
    have hvl := vsum_len vs
    simp only [b21, x_un1, x_un0, x_hCells, x_hLoc1, x_hNth0, x_hNthS, x_hLenS]
    rw [x_add (by omega), x_add (by omega), x_lenK hk]
    refine loop_rule (fun m vals st => ∃ i, vals = [.agg [.int .i64 t, .bool b, .str n, .str s, K, W, .int .i64 f], .int .i64 (.ofNat i), .int .i64 (.ofNat (1 + n.length + s.length + ksum (ks.take i))), K, .int .i64 (.ofNat ks.length)] ∧ i + m = ks.length ∧ st = S0 ts) ?_ ?_ ks.length _ _ _ ⟨0, by simp [ksum], by omega, rfl⟩ (by omega)
    · intro m vals st ih' ⟨i, hv, hi, hst⟩ hnext
      subst hv hst
      have hlt : i < ks.length := by omega
      have hg : ks[i]? = some ks[i] := List.getElem?_eq_getElem hlt
      have h1 := ksum_take_succ hg
      have h2 := ksum_take ks (i + 1)
      simp only [x_un1, x_unAgg, x_hCmpI, x_iLt, decide_eq_true hlt, x_hIf_t, x_elemK hk hg, x_hLd1_r, x_hLenS]
      rw [x_add (by omega), x_add (by omega), x_add (by omega)]
      refine hnext _ _ ⟨i + 1, ?_, by omega, rfl⟩
      rw [h1]
      simp only [List.cons.injEq, AV.int.injEq, Int.ofNat.injEq, true_and, and_true]
      omega
    · intro vals st ih' ⟨i, hv, hi, hst⟩
      subst hv hst
      have hi : i = ks.length := by omega
      subst hi
      simp only [x_un1, x_unAgg, x_hCmpI, x_iLt, decide_eq_false (Nat.lt_irrefl _), x_hIf_f, x_hLoc1, x_hNth0, x_hNthS, List.take_length]
      rw [x_lenW hw]
      refine loop_rule (fun m vals st => ∃ i, vals = [.int .i64 (.ofNat i), .int .i64 (.ofNat (1 + n.length + s.length + ksum ks + vsum (vs.take i))), W, .int .i64 (.ofNat vs.length)] ∧ i + m = vs.length ∧ st = S0 ts) ?_ ?_ vs.length _ _ _ ⟨0, by simp [vsum], by omega, rfl⟩ (by omega)
      · intro m vals st ih' ⟨i, hv, hi, hst⟩ hnext
        subst hv hst
        have hlt : i < vs.length := by omega
        have hg : vs[i]? = some vs[i] := List.getElem?_eq_getElem hlt
        have h1 := vsum_take_succ hg
        have h2 := vsum_take vs (i + 1)
        have h3 := vsum_get hg
        obtain ⟨cs, hcs, hlen, he⟩ := x_elemW hw hg
        obtain ⟨t', b', n', s', K', W', f', hcs'⟩ := isV_cells hcs
        injection hcs' with hcs'
        subst hcs'
        simp only [x_un1, x_unAgg, x_hCmpI, x_iLt, decide_eq_true hlt, x_hIf_t, he, x_hLdN_r, x_hCut7, x_hStLN7, x_hLocN]
        obtain ⟨v, hc1, hc2⟩ := call_pure (pr := prWith pr0 21 (pureP E0 21 GSize)) (k := 21) (Good := GSize) (by simp [prWith]) (args := [.agg [.int .i64 t', .bool b', .str n', .str s', K', W', .int .i64 f']]) (by simp [plainVs, isV_plain hcs])
          ⟨_, ih vs[i] _ (by omega) (by unfold big; omega) (isV_strip hcs) (strip_strip _), fun x a hx ha => by
            injection hx with hx
            rw [isV_inj ha (hx ▸ isV_strip hcs)]⟩ (1 + n.length + s.length + ksum ks + vsum vs + 4) (S0 ts)
        have hv := hc2 _ _ rfl (isV_strip hcs)
        subst hv
        rw [x_hCall hc1, x_add (by omega), x_add (by omega)]
        refine hnext _ _ ⟨i + 1, ?_, by omega, rfl⟩
        rw [h1]
        simp only [List.cons.injEq, AV.int.injEq, Int.ofNat.injEq, true_and, and_true]
        omega
      · intro vals st ih' ⟨i, hv, hi, hst⟩
        subst hv hst
        have hi : i = vs.length := by omega
        subst hi
        simp only [x_un1, x_hCmpI, x_iLt, decide_eq_false (Nat.lt_irrefl _), x_hIf_f, List.take_length]
end Go.Sim

namespace Go.Sim
open Go.Proofs

set_option maxRecDepth 1000000 in
theorem und4 : E0.L.und 4 = some .bool := by kernel_rfl
theorem bool_neq (a b : Bool) (st : Store) : aBinC E0.L 4 .neq false (.bool a) (.bool b) st = some (.val (.bool (!(a == b))), st) := by
  simp only [aBinC, binC, otherV, eqV, und4, eqBool]
open Classical in
def GSame (args : List AV) (v : AV) : Prop := ∀ x y a b, args = [x, y] → IsV x a → IsV y b → v = .bool (decide (a = b))
theorem gSame_of {x y : AV} {a b : Vl} (hx : IsV x a) (hy : IsV y b) : GSame [x, y] (.bool (@decide (a = b) (Classical.propDecidable _))) := by
  intro x' y' a' b' h ha hb
  injection h with h1 h2
  injection h2 with h2
  subst h1 h2
  rw [isV_inj hx ha, isV_inj hy hb]
set_option maxRecDepth 1000000 in
theorem fn32 : E0.L.fn 32 = some Tryz.f32 := by kernel_rfl
set_option maxRecDepth 1000000 in
theorem fn17 : E0.L.fn 17 = some Tryz.f17 := by kernel_rfl
open Classical in
set_option maxRecDepth 1000000 in
set_option maxHeartbeats 1000000 in
theorem rsame_run : ∀ (m : Nat) (a b : Vl) (x y : AV), a.size ≤ m → a.size < big → b.size < big → IsV x a → IsV y b → stripV x = x → stripV y = y → PureRun E0 32 [x, y] (.bool (decide (a = b))) := by
  intro m
  induction m with
  | zero => intro a b x y h; have := size_pos a; omega
  | succ m ih =>
    intro a b x y hm hba hbb hx hy hs hs'
    refine pure_body e32 fn32 (by simp [plainVs, isV_plain hx, isV_plain hy]) (by simp [stripVs, hs, hs']) fun ts => ?_
    refine ⟨prWith pr0 32 (pureP E0 32 GSame), a.size + 5, .bool (decide (a = b)), S0 ts, [], prWith_ok prOk0 pureP_ok, ?_, rfl, rfl, rfl⟩
    cases a with
    | mk t b1 n s ks vs f =>
    cases b with
    | mk t' b1' n' s' ks' vs' f' =>
    obtain ⟨K, W, rfl, hk, hw⟩ := isV_iff.1 hx
    obtain ⟨K', W', rfl, hk', hw'⟩ := isV_iff.1 hy
    have hsz : (Vl.mk t b1 n s ks vs f).size = 1 + n.length + s.length + ksum ks + vsum vs := by simp only [Vl.size]
    have hsz' : (Vl.mk t' b1' n' s' ks' vs' f').size = 1 + n'.length + s'.length + ksum ks' + vsum vs' := by simp only [Vl.size]
    rw [hsz] at hba hm ⊢
    rw [hsz'] at hbb
    unfold big at hba hbb
    have hkl := ksum_len ks
    have hvl := vsum_len vs
    simp only [b32, x_un1, x_un0, x_hCells, x_hLoc1, x_hNth0, x_hNthS, x_hCmpI, x_iEq, x_hWB, x_hlet]
    by_cases e1 : t = t'
    rotate_left
    · simp [e1, x_hWant_tf, x_hWB, x_hPick_t, x_hIf_t]
    simp only [e1, decide_true, Bool.not_true, x_hWant_ff, bool_neq, x_hVal rfl, x_hPick_f, x_hWB]
    by_cases e2 : b1 = b1'
    rotate_left
    · have e2' : (b1 == b1') = false := by simpa using e2
      simp only [e2', Bool.not_false, x_hWant_tf, x_hWB, x_hPick_t, x_hIf_t]
      simp [e2]
    simp only [e2, beq_self_eq_true, Bool.not_true, x_hWant_ff, x_hPick_f, x_hWB, x_hStr, x_bEq]
    by_cases e3 : n = n'
    rotate_left
    · simp [e3, x_hWant_tf, x_hWB, x_hPick_t, x_hIf_t]
    simp only [e3, decide_true, Bool.not_true, x_hWant_ff, x_hPick_f, x_hWB, x_hStr, x_bEq]
    by_cases e4 : s = s'
    rotate_left
    · simp [e4, x_hWant_tf, x_hWB, x_hPick_t, x_hIf_t]
    simp only [e4, decide_true, Bool.not_true, x_hWant_ff, x_hPick_f, x_hWB, x_hCmpI, x_iEq]
    by_cases e5 : f = f'
    rotate_left
    · simp [e5, x_hWant_tf, x_hWB, x_hPick_t, x_hIf_t]
    simp only [e5, decide_true, Bool.not_true, x_hWant_ff, x_hPick_f, x_hWB, x_lenK hk, x_lenK hk', x_hCmpI, x_iEq]
    by_cases e6 : ks.length = ks'.length
    rotate_left
    · have : ks ≠ ks' := fun e => e6 (by rw [e])
      have e6' : ¬ (Int.ofNat ks.length = Int.ofNat ks'.length) := fun q => e6 (Int.ofNat.inj q)
      simp only [e6', decide_false, Bool.not_false, x_hWant_tf, x_hWB, x_hPick_t, x_hIf_t]
      simp [this]
    simp only [e6, decide_true, Bool.not_true, x_hWant_ff, x_hPick_f, x_hWB, x_lenW hw, x_lenW hw', x_hCmpI, x_iEq]
    by_cases e7 : vs.length = vs'.length
    rotate_left
    · have : vs ≠ vs' := fun e => e7 (by rw [e])
      have e7' : ¬ (Int.ofNat vs.length = Int.ofNat vs'.length) := fun q => e7 (Int.ofNat.inj q)
      simp only [e7', decide_false, Bool.not_false, x_hIf_t]
      simp [this]
    simp only [e7, decide_true, Bool.not_true, x_hIf_f]
    subst e1 e2 e3 e4 e5
    refine loop_rule (fun m vals st => ∃ i, vals = [.agg [.int .i64 t, .bool b1, .str n, .str s, K', W', .int .i64 f], .agg [.int .i64 t, .bool b1, .str n, .str s, K, W, .int .i64 f], .int .i64 (.ofNat i)] ∧ i + m = ks.length ∧ st = S0 ts ∧ ∀ j, j < i → ks[j]? = ks'[j]?) ?_ ?_ ks.length _ _ _ ⟨0, rfl, by omega, rfl, fun j hj => by omega⟩ (by omega)
    · intro m vals st ih' ⟨i, hv, hi, hst, heq⟩ hnext
      subst hv hst
      have hlt : i < ks.length := by omega
      have hlt' : i < ks'.length := by omega
      have hg : ks[i]? = some ks[i] := List.getElem?_eq_getElem hlt
      have hg' : ks'[i]? = some ks'[i] := List.getElem?_eq_getElem hlt'
      simp only [x_un1, x_unAgg, x_hLoc1, x_hNth0, x_hNthS, x_lenK hk, x_hCmpI, x_iLt, decide_eq_true hlt, x_hIf_t, x_elemK hk hg, x_elemK hk' hg', x_hLd1_r, x_hStr, x_bEq]
      by_cases he : ks[i] = ks'[i]
      · simp only [he, decide_true, Bool.not_true, x_hIf_f]
        rw [x_add (by omega)]
        refine hnext _ _ ⟨i + 1, rfl, by omega, rfl, fun j hj => ?_⟩
        by_cases hji : j = i
        · subst hji; rw [hg, hg', he]
        · exact heq j (by omega)
      · simp only [he, decide_false, Bool.not_false, x_hIf_t]
        have : ks ≠ ks' := by
          rintro rfl
          exact he rfl
        simp [this]
    · intro vals st ih' ⟨i, hv, hi, hst, heq⟩
      subst hv hst
      have hi : i = ks.length := by omega
      subst hi
      have hks : ks = ks' := List.ext_getElem? fun j => by
        by_cases hj : j < ks.length
        · exact heq j hj
        · rw [List.getElem?_eq_none (by omega), List.getElem?_eq_none (by omega)]
      subst hks
      simp only [x_un1, x_unAgg, x_hLoc1, x_hNth0, x_hNthS, x_lenK hk, x_hCmpI, x_iLt, decide_eq_false (Nat.lt_irrefl _), x_hIf_f]
      refine loop_rule (fun m vals st => ∃ i, vals = [.agg [.int .i64 t, .bool b1, .str n, .str s, K', W', .int .i64 f], .agg [.int .i64 t, .bool b1, .str n, .str s, K, W, .int .i64 f], .int .i64 (.ofNat i)] ∧ i + m = vs.length ∧ st = S0 ts ∧ ∀ j, j < i → vs[j]? = vs'[j]?) ?_ ?_ vs.length _ _ _ ⟨0, rfl, by omega, rfl, fun j hj => by omega⟩ (by omega)
      · intro m vals st ih' ⟨i, hv, hi, hst, heq⟩ hnext
        subst hv hst
        have hlt : i < vs.length := by omega
        have hlt' : i < vs'.length := by omega
        have hg : vs[i]? = some vs[i] := List.getElem?_eq_getElem hlt
        have hg' : vs'[i]? = some vs'[i] := List.getElem?_eq_getElem hlt'
        have h3 := vsum_get hg
        have h3' := vsum_get hg'
        obtain ⟨cs, hcs, hlen, hel⟩ := x_elemW hw hg
        obtain ⟨cs', hcs', hlen', hel'⟩ := x_elemW hw' hg'
        simp only [x_un1, x_unAgg, x_hLoc1, x_hNth0, x_hNthS, x_lenW hw, x_hCmpI, x_iLt, decide_eq_true hlt, x_hIf_t, hel, hel', x_hLdN_r, x_hCut_all hlen, x_hCut_all hlen']
        obtain ⟨v, hc1, hc2⟩ := call_pure (pr := prWith pr0 32 (pureP E0 32 GSame)) (k := 32) (Good := GSame) (by simp [prWith]) (args := [.agg cs, .agg cs']) (by simp [plainVs, isV_plain hcs, isV_plain hcs'])
          ⟨_, ih vs[i] vs'[i] _ _ (by omega) (by unfold big; omega) (by unfold big; omega) (isV_strip hcs) (isV_strip hcs') (strip_strip _) (strip_strip _), gSame_of (isV_strip hcs) (isV_strip hcs')⟩ (1 + n.length + s.length + ksum ks + vsum vs + 4) (S0 ts)
        have hv := hc2 _ _ _ _ rfl (isV_strip hcs) (isV_strip hcs')
        subst hv
        rw [x_hCall hc1, x_hNot]
        by_cases he : vs[i] = vs'[i]
        · simp only [he, decide_true, Bool.not_true, x_hIf_f]
          rw [x_add (by omega)]
          refine hnext _ _ ⟨i + 1, rfl, by omega, rfl, fun j hj => ?_⟩
          by_cases hji : j = i
          · subst hji; rw [hg, hg', he]
          · exact heq j (by omega)
        · simp only [he, decide_false, Bool.not_false, x_hIf_t]
          have : vs ≠ vs' := by
            rintro rfl
            exact he rfl
          simp [this]
      · intro vals st ih' ⟨i, hv, hi, hst, heq⟩
        subst hv hst
        have hi : i = vs.length := by omega
        subst hi
        have hvs : vs = vs' := List.ext_getElem? fun j => by
          by_cases hj : j < vs.length
          · exact heq j hj
          · rw [List.getElem?_eq_none (by omega), List.getElem?_eq_none (by omega)]
        subst hvs
        simp only [x_un1, x_unAgg, x_hLoc1, x_hNth0, x_hNthS, x_lenW hw, x_hCmpI, x_iLt, decide_eq_false (Nat.lt_irrefl _), x_hIf_f, decide_true]
open Classical in
set_option maxRecDepth 1000000 in
theorem same_run {a b : Vl} {x y : AV} (hba : a.size < big) (hbb : b.size < big) (hx : IsV x a) (hy : IsV y b) (hs : stripV x = x) (hs' : stripV y = y) : PureRun E0 17 [x, y] (.bool (decide (a = b))) := by
  refine pure_body e17 fn17 (by simp [plainVs, isV_plain hx, isV_plain hy]) (by simp [stripVs, hs, hs']) fun ts => ?_
  refine ⟨prWith pr0 32 (pureP E0 32 GSame), 1, .bool (decide (a = b)), S0 ts, [], prWith_ok prOk0 pureP_ok, ?_, rfl, rfl, rfl⟩
  obtain ⟨t, b1, n, s, K, W, f, rfl⟩ := isV_cells hx
  obtain ⟨t', b1', n', s', K', W', f', rfl⟩ := isV_cells hy
  simp only [b17, x_un1, x_un0, x_hCells, x_hLocN, x_hCut7]
  obtain ⟨v, hc1, hc2⟩ := call_pure (pr := prWith pr0 32 (pureP E0 32 GSame)) (k := 32) (Good := GSame) (by simp [prWith]) (args := [_, _]) (by simp [plainVs, isV_plain hx, isV_plain hy])
    ⟨_, rsame_run a.size a b _ _ (Nat.le_refl _) hba hbb (isV_strip hx) (isV_strip hy) (strip_strip _) (strip_strip _), gSame_of (isV_strip hx) (isV_strip hy)⟩ 0 (S0 ts)
  have hv := hc2 _ _ _ _ rfl (isV_strip hx) (isV_strip hy)
  subst hv
  rw [x_hCall hc1]
end Go.Sim

namespace Go.Sim
open Go.Proofs

abbrev blt (a b : Bytes) : Bool := Op.bytesLess a b
theorem blt_cons (a b : UInt8) (x y : Bytes) : blt (a :: x) (b :: y) = (decide (a < b) || (a == b && blt x y)) := rfl
theorem blt_irrefl : ∀ a : Bytes, blt a a = false
  | [] => rfl
  | a :: x => by
    have : ¬ a < a := by rw [UInt8.lt_iff_toNat_lt]; omega
    rw [blt_cons, blt_irrefl x]; simp
theorem blt_trans : ∀ {a b c : Bytes}, blt a b = true → blt b c = true → blt a c = true
  | [], [], _, h, _ => by cases h
  | _ :: _, [], _, h, _ => by cases h
  | _, _ :: _, [], _, h => by cases h
  | [], _ :: _, _ :: _, _, _ => rfl
  | a :: x, b :: y, c :: z, h, h' => by
    rw [blt_cons] at h h' ⊢
    simp only [Bool.or_eq_true, decide_eq_true_eq, Bool.and_eq_true, beq_iff_eq] at h h' ⊢
    rcases h with h | ⟨rfl, h⟩
    · rcases h' with h' | ⟨rfl, h'⟩
      · exact .inl (by rw [UInt8.lt_iff_toNat_lt] at *; omega)
      · exact .inl h
    · rcases h' with h' | ⟨rfl, h'⟩
      · exact .inl h'
      · exact .inr ⟨rfl, blt_trans h h'⟩
theorem blt_total : ∀ {a b : Bytes}, blt a b = false → blt b a = false → a = b
  | [], [], _, _ => rfl
  | [], _ :: _, h, _ => by cases h
  | _ :: _, [], _, h => by cases h
  | a :: x, b :: y, h, h' => by
    rw [blt_cons] at h h'
    simp only [Bool.or_eq_false_iff, decide_eq_false_iff_not, Bool.and_eq_false_iff, beq_eq_false_iff_ne] at h h'
    have hab : a = b := by
      have h1 := h.1
      have h2 := h'.1
      rw [UInt8.lt_iff_toNat_lt] at h1 h2
      exact UInt8.toNat_inj.1 (by omega)
    subst hab
    have h1 : blt x y = false := h.2.resolve_left (fun q => q rfl)
    have h2 : blt y x = false := h'.2.resolve_left (fun q => q rfl)
    rw [blt_total h1 h2]
theorem blt_asymm {a b : Bytes} (h : blt a b = true) : blt b a = false := by
  cases h' : blt b a with
  | false => rfl
  | true => rw [← blt_irrefl a, blt_trans h h']
/-- Keys that rise. -/
def Rising (ks : List Bytes) : Prop := ks.Pairwise fun a b => blt a b = true
/-- How many are ahead of one. -/
def lbnd (k : Bytes) : List Bytes → Nat
  | [] => 0
  | x :: r => if blt x k = true then lbnd k r + 1 else 0
theorem lbnd_le (k : Bytes) : ∀ ks : List Bytes, lbnd k ks ≤ ks.length
  | [] => Nat.le_refl _
  | x :: r => by
    have := lbnd_le k r
    simp only [lbnd, List.length_cons]; split <;> omega
theorem lbnd_lt {k : Bytes} : ∀ {ks : List Bytes} {j : Nat} {y : Bytes}, j < lbnd k ks → ks[j]? = some y → blt y k = true
  | [], j, y, h, _ => by simp [lbnd] at h
  | x :: r, j, y, h, hy => by
    simp only [lbnd] at h
    split at h
    · rename_i hx
      cases j with
      | zero => simp at hy; subst hy; exact hx
      | succ j => exact lbnd_lt (ks := r) (j := j) (by omega) (by simpa using hy)
    · omega
theorem lbnd_ge {k : Bytes} : ∀ {ks : List Bytes} {j : Nat} {y : Bytes}, Rising ks → lbnd k ks ≤ j → ks[j]? = some y → blt y k = false
  | [], j, y, _, _, hy => by simp at hy
  | x :: r, j, y, hr, h, hy => by
    simp only [Rising, List.pairwise_cons] at hr
    simp only [lbnd] at h
    split at h
    · cases j with
      | zero => omega
      | succ j => exact lbnd_ge (ks := r) (j := j) hr.2 (by omega) (by simpa using hy)
    · rename_i hx
      have hx : blt x k = false := by simpa using hx
      cases j with
      | zero => simp at hy; subst hy; exact hx
      | succ j =>
        have hm : y ∈ r := by
          have : r[j]? = some y := by simpa using hy
          exact List.mem_of_getElem? this
        cases hyk : blt y k with
        | false => rfl
        | true => rw [← hx, blt_trans (hr.1 y hm) hyk]
theorem lbnd_uniq {k : Bytes} {ks : List Bytes} (hr : Rising ks) {i : Nat} (hi : i ≤ ks.length) (h1 : ∀ j y, j < i → ks[j]? = some y → blt y k = true) (h2 : ∀ j y, i ≤ j → ks[j]? = some y → blt y k = false) : i = lbnd k ks := by
  have hl := lbnd_le k ks
  rcases Nat.lt_trichotomy i (lbnd k ks) with h | h | h
  · have hg : ks[i]? = some ks[i] := List.getElem?_eq_getElem (by omega)
    have := lbnd_lt h hg
    rw [h2 i _ (Nat.le_refl _) hg] at this; cases this
  · exact h
  · have hg : ks[lbnd k ks]? = some (ks[lbnd k ks]'(by omega)) := List.getElem?_eq_getElem (by omega)
    have := h1 _ _ h hg
    rw [lbnd_ge hr (Nat.le_refl _) hg] at this; cases this

set_option maxRecDepth 1000000 in
theorem fn51 : E0.L.fn 51 = some Tryz.f51 := by kernel_rfl
set_option maxRecDepth 1000000 in
theorem fn89 : E0.L.fn 89 = some Tryz.f89 := by kernel_rfl
set_option maxRecDepth 1000000 in
theorem fn90 : E0.L.fn 90 = some Tryz.f90 := by kernel_rfl
set_option maxRecDepth 1000000 in
theorem fn129 : E0.L.fn 129 = some Tryz.f129 := by kernel_rfl
theorem p0_89 : pr0 89 = none := by kernel_rfl
theorem p0_90 : pr0 90 = none := by kernel_rfl
theorem p0_129 : pr0 129 = none := by kernel_rfl
set_option maxRecDepth 1000000 in
theorem isnan_call {pr : Prims} (h : pr 129 = none) (n : Nat) (a : Bytes) (st : Store) : Call pr (n + 1) (Fv 129) [.str a] st = some (.bool false, st) := by
  refine call_body e129 fn129 h ?_
  simp only [b129, List.nil_append, List.append_nil, x_un1, x_un0, x_hStr, x_bEq, decide_true, Bool.not_true]
set_option maxRecDepth 1000000 in
theorem isnan2_call {pr : Prims} (h : pr 90 = none) (n : Nat) (a : Bytes) (st : Store) : Call pr (n + 1) (Fv 90) [.str a] st = some (.bool false, st) := by
  refine call_body e90 fn90 h ?_
  simp only [b90, List.nil_append, List.append_nil, x_un1, x_un0, x_hStr, x_bEq, decide_true, Bool.not_true]
theorem str_lss (t : TypeId) (a b : Bytes) (st : Store) : aBinC E0.L t .lss false (.str a) (.str b) st = some (.val (.bool (blt a b)), st) := rfl
set_option maxRecDepth 1000000 in
theorem less_call {pr : Prims} (h : pr 89 = none) (h' : pr 129 = none) (n : Nat) (a b : Bytes) (st : Store) : Call pr (n + 2) (Fv 89) [.str a, .str b] st = some (.bool (blt a b), st) := by
  refine call_body e89 fn89 h ?_
  simp only [b89, List.nil_append, List.append_nil, x_un1, x_un0, x_hCall (isnan_call h' n a st), x_hlet, x_hWant_ft, x_hPick_f, x_hWant_ff, x_hVal (str_lss 9 a b st)]
theorem wrap_u64 {n : Nat} (h : n < 18446744073709551616) : IntKind.u64.wrap (.ofNat n) = .ofNat n := wrap_pos (Nat.ble_eq_true_of_le h)
theorem shr_one (t : TypeId) (n : Nat) (st : Store) (h : n < 18446744073709551616) : aBinC E0.L t .shr true (.int .u64 (.ofNat n)) (.int .u64 (.ofNat 1)) st = some (.val (.int .u64 (.ofNat (n / 2))), st) := by
  have : (Int.ofNat n).fdiv (2 ^ min (1 : Int).toNat IntKind.u64.bits) = Int.ofNat (n / 2) := by
    show (Int.ofNat n).fdiv ((2 : Int) ^ 1) = _
    rw [show ((2 : Int) ^ 1) = ((2 : Nat) : Int) from rfl]
    exact Int.fdiv_eq_ediv_of_nonneg _ (by decide) |>.trans rfl
  simp only [aBinC, binC, intV, shiftOp]
  rw [if_neg (by decide)]
  show some (Out.val (AV.int .u64 ((Int.ofNat n).fdiv (2 ^ min (1 : Int).toNat IntKind.u64.bits))), st) = _
  rw [this]
/-- A round of slices.BinarySearch. -/
noncomputable def searchBody (call : Caller) : (List AV → Store → Rs) → List AV → Store → Rs :=
  (fun h2 v3 s4 =>
  un1 v3 fun x5 v10 =>
  un1 v10 fun x6 v11 =>
  un1 v11 fun x7 v12 =>
  un1 v12 fun x8 v13 =>
  un1 v13 fun x9 v14 =>
  hCmpI iLt x8 x7 fun x15 =>
  hIf x15 (
  hArith Int.add x8 x7 fun x20 =>
  hConvI .u64 x20 fun x21 =>
  hVal (aBinC E0.L 130 .shr true x21 (.int .u64 (.ofNat 1)) s4) fun x22 s23 =>
  hConvI .i64 x22 fun x24 =>
  hElem 1 x6 x24 fun x25 =>
  hLd1 x25 s23 fun x26 =>
  hCall call (.func (.func 89) [] []) [x26, x5] s23 fun x27 s28 =>
  hlet (α := List AV → Store → Rs) (fun v34 s35 =>
  un1 v34 fun x36 v41 =>
  un1 v41 fun x37 v42 =>
  un1 v42 fun x38 v43 =>
  un1 v43 fun x39 v44 =>
  un1 v44 fun x40 v45 =>
  h2 [x36, x37, x38, x39, x40] s35) fun j33 =>
  hIf x27 (
  hArith Int.add x24 (.int .i64 (.ofNat 1)) fun x30 =>
  j33 [x5, x6, x7, x30, x9] s28) (
  j33 [x5, x6, x24, x8, x9] s28)) (
  hCmpI iLt x8 x9 fun x47 =>
  hlet (α := AV → Store → Rs) (fun x48 s49 =>
  hlet (α := AV → Store → Rs) (fun x51 s52 =>
  hlet (α := AV → Store → Rs) (fun x54 s55 =>
  hlet (α := AV → Store → Rs) (fun x57 s58 =>
  hlet (α := AV → Store → Rs) (fun x60 s61 =>
  hlet (α := AV → Store → Rs) (fun x63 s64 =>
  hlet (α := AV → Store → Rs) (fun x66 s67 =>
  hlet (α := AV → Store → Rs) (fun x69 s70 =>
  hlet (α := AV → Store → Rs) (fun x72 s73 =>
  hlet (α := AV → Store → Rs) (fun x75 s76 =>
  hlet (α := AV → Store → Rs) (fun x78 s79 =>
  hlet (α := AV → Store → Rs) (fun x81 s82 =>
  hlet (α := AV → Store → Rs) (fun x84 s85 =>
  hlet (α := AV → Store → Rs) (fun x87 s88 =>
  hlet (α := AV → Store → Rs) (fun x90 s91 =>
  hlet (α := AV → Store → Rs) (fun x93 s94 =>
  hlet (α := AV → Store → Rs) (fun x96 s97 =>
  hPick x47 x96 (.bool false) fun x99 =>
  some (.tuple [x8, x99], s97)) fun j98 =>
  hWant x47 true (
  hPick x66 (.bool true) x93 fun x100 =>
  j98 x100 s94) (j98 aundef s94)) fun j95 =>
  hWant x66 false (
  hPick x84 x90 (.bool false) fun x101 =>
  j95 x101 s91) (j95 aundef s91)) fun j92 =>
  hWant x84 true (
  hCall call (.func (.func 90) [] []) [x87] s88 fun x102 s103 =>
  j92 x102 s103) (j92 aundef s88)) fun j89 =>
  hWant x84 true (
  j89 x5 s85) (j89 aundef s85)) fun j86 =>
  hWant x66 false (
  j86 x81 s82) (j86 aundef s82)) fun j83 =>
  hWant x66 false (
  hCall call (.func (.func 90) [] []) [x78] s79 fun x104 s105 =>
  j83 x104 s105) (j83 aundef s79)) fun j80 =>
  hWant x66 false (
  hLd1 x75 s76 fun x106 =>
  j80 x106 s76) (j80 aundef s76)) fun j77 =>
  hWant x66 false (
  hElem 1 x69 x72 fun x107 =>
  j77 x107 s73) (j77 aundef s73)) fun j74 =>
  hWant x66 false (
  j74 x8 s70) (j74 aundef s70)) fun j71 =>
  hWant x66 false (
  j71 x6 s67) (j71 aundef s67)) fun j68 =>
  hWant x47 true (
  j68 x63 s64) (j68 aundef s64)) fun j65 =>
  hWant x47 true (
  hStr bEq x57 x60 fun x108 =>
  j65 x108 s61) (j65 aundef s61)) fun j62 =>
  hWant x47 true (
  j62 x5 s58) (j62 aundef s58)) fun j59 =>
  hWant x47 true (
  hLd1 x54 s55 fun x109 =>
  j59 x109 s55) (j59 aundef s55)) fun j56 =>
  hWant x47 true (
  hElem 1 x48 x51 fun x110 =>
  j56 x110 s52) (j56 aundef s52)) fun j53 =>
  hWant x47 true (
  j53 x8 s49) (j53 aundef s49)) fun j50 =>
  hWant x47 true (
  j50 x6 s4) (j50 aundef s4)))
open Classical in
/-- What slices.BinarySearch answers. -/
noncomputable def found (k : Bytes) (ks : List Bytes) : AV := .tuple [.int .i64 (.ofNat (lbnd k ks)), .bool (decide (ks[lbnd k ks]? = some k))]
open Classical in
set_option maxRecDepth 1000000 in
set_option maxHeartbeats 1000000 in
theorem search_run {K : AV} {ks : List Bytes} {k : Bytes} (hk : IsKs K ks) (hr : Rising ks) (hl : ks.length < big) (hs : stripV K = K) (hp : plainV K = true) : PureRun E0 51 [K, .str k] (found k ks) := by
  refine pure_body e51 fn51 (by simp [plainVs, hp, plainV]) (by simp [stripVs, stripV, hs]) fun ts => ?_
  refine ⟨pr0, ks.length + 5, found k ks, S0 ts, [], prOk0, ?_, rfl, rfl, rfl⟩
  unfold big at hl
  simp only [b51, x_un1, x_un0]
  rw [x_lenK hk]
  have exit_ : ∀ (i : Nat) (ih' : List AV → Store → Rs), i ≤ ks.length → (∀ l y, l < i → ks[l]? = some y → blt y k = true) → (∀ l y, i ≤ l → ks[l]? = some y → blt y k = false) →
      searchBody (Call pr0 (ks.length + 5)) ih' [.str k, K, .int .i64 (.ofNat i), .int .i64 (.ofNat i), .int .i64 (.ofNat ks.length)] (S0 ts) = some (found k ks, S0 ts) := by
    intro i ih' hi h1 h2
    have hi := lbnd_uniq hr hi h1 h2
    simp only [searchBody, x_un1, x_hCmpI, x_iLt, decide_eq_false (Nat.lt_irrefl _), x_hIf_f]
    by_cases hn : i < ks.length
    · have hg : ks[i]? = some ks[i] := List.getElem?_eq_getElem hn
      simp only [decide_eq_true hn, x_hlet, x_hWant_tt, x_elemK hk hg, x_hLd1_r, x_hStr, x_bEq]
      by_cases he : ks[i] = k
      · simp only [he, decide_true, x_hWant_tf, x_hWant_u, x_hPick_t, found]
        rw [← hi, hg, he]; simp
      · simp only [he, decide_false, x_hWant_ff, x_hLd1_r, x_hCall (isnan2_call p0_90 (ks.length + 4) _ (S0 ts)), x_hWant_ft, x_hPick_f, x_hPick_t, found]
        rw [← hi, hg]; simp [he]
    · simp only [decide_eq_false hn, x_hlet, x_hWant_ft, x_hWant_u, x_hPick_f, found]
      rw [← hi, List.getElem?_eq_none (by omega)]; simp
  refine loop_rule (fun m vals st => ∃ i j, vals = [.str k, K, .int .i64 (.ofNat j), .int .i64 (.ofNat i), .int .i64 (.ofNat ks.length)] ∧ st = S0 ts ∧ i ≤ j ∧ j ≤ ks.length ∧ j - i ≤ m ∧ (∀ l y, l < i → ks[l]? = some y → blt y k = true) ∧ (∀ l y, j ≤ l → ks[l]? = some y → blt y k = false)) ?_ ?_ ks.length _ _ _
    ⟨0, ks.length, rfl, rfl, by omega, by omega, by omega, fun l y h => by omega, fun l y h hy => by rw [List.getElem?_eq_none h] at hy; cases hy⟩ (by omega)
  · intro m vals st ih' ⟨i, j, hv, hst, hij, hj, hm, h1, h2⟩ hnext
    subst hv hst
    by_cases hlt : i < j
    · have hw1 : (i + j) / 2 < ks.length := by omega
      have hg : ks[(i + j) / 2]? = some ks[(i + j) / 2] := List.getElem?_eq_getElem hw1
      simp only [x_un1, x_hCmpI, x_iLt, decide_eq_true hlt, x_hIf_t]
      rw [x_add (by omega)]
      simp only [x_hConvI]
      rw [wrap_u64 (by omega), x_hVal (shr_one 130 (i + j) (S0 ts) (by omega))]
      simp only [x_hConvI, wrap_nat (show (i + j) / 2 < 9223372036854775808 by omega), x_elemK hk hg, x_hLd1_r]
      rw [x_hCall (less_call p0_89 p0_129 (ks.length + 3) ks[(i + j) / 2] k (S0 ts))]
      simp only [x_hlet, x_hIf]
      split
      · rename_i hb
        rw [x_add (by omega)]
        simp only [x_un1]
        refine hnext _ _ ⟨(i + j) / 2 + 1, j, rfl, rfl, by omega, hj, by omega, fun l y hl' hy => ?_, h2⟩
        by_cases hli : l = (i + j) / 2
        · subst hli; rw [hg] at hy; injection hy with hy; rw [← hy]; exact hb
        · have hl2 : l < ks.length := by omega
          rw [List.getElem?_eq_getElem hl2] at hy
          injection hy with hy
          rw [← hy]
          exact blt_trans (List.pairwise_iff_getElem.1 hr l ((i + j) / 2) hl2 hw1 (by omega)) hb
      · rename_i hb
        have hb : blt ks[(i + j) / 2] k = false := by simpa using hb
        simp only [x_un1]
        refine hnext _ _ ⟨i, (i + j) / 2, rfl, rfl, by omega, by omega, by omega, h1, fun l y hl' hy => ?_⟩
        by_cases hli : l = (i + j) / 2
        · subst hli; rw [hg] at hy; injection hy with hy; rw [← hy]; exact hb
        · have hl2 := (List.getElem?_eq_some_iff.1 hy).1
          rw [List.getElem?_eq_getElem hl2] at hy
          injection hy with hy
          rw [← hy]
          cases hyk : blt ks[l] k with
          | false => rfl
          | true => rw [← hb, blt_trans (List.pairwise_iff_getElem.1 hr ((i + j) / 2) l hw1 hl2 (by omega)) hyk]
    · have hij' : i = j := by omega
      subst hij'
      exact exit_ i ih' hj h1 h2
  · intro vals st ih' ⟨i, j, hv, hst, hij, hj, hm, h1, h2⟩
    subst hv hst
    have hij' : i = j := by omega
    subst hij'
    exact exit_ i ih' hj h1 h2
end Go.Sim

namespace Go.Sim
open Go.Proofs

theorem loop_ruleP {body : (List AV → Store → Rs) → List AV → Store → Rs} (P : Rs → Prop) (Inv : Nat → List AV → Store → Prop)
    (step : ∀ m vs st ih, Inv (m + 1) vs st → (∀ vs' st', Inv m vs' st' → P (ih vs' st')) → P (body ih vs st))
    (last : ∀ vs st ih, Inv 0 vs st → P (body ih vs st)) : ∀ m n vs st, Inv m vs st → m < n → P (hloop body n vs st) := by
  intro m
  induction m with
  | zero =>
    intro n vs st h hn
    cases n with
    | zero => omega
    | succ n => exact last vs st _ h
  | succ m ih =>
    intro n vs st h hn
    cases n with
    | zero => omega
    | succ n => exact step m vs st _ h (fun vs' st' h' => ih n vs' st' h' (by omega))
def zeroA : AV := .agg [.int .i64 (.ofNat 0), .bool false, .str [], .str [], .nils, .nils, .int .i64 (.ofNat 0)]
def zeroVl : Vl := .mk 0 false [] [] [] [] 0
theorem zero_is : IsV zeroA zeroVl := isV_iff.2 ⟨.nils, .nils, rfl, .inl ⟨rfl, rfl⟩, .inl ⟨rfl, rfl⟩⟩
def GSearch (args : List AV) (v : AV) : Prop := ∀ K ks k, args = [K, .str k] → IsKs K ks → v = found k ks
theorem gSearch_of {K : AV} {ks : List Bytes} {k : Bytes} (hk : IsKs K ks) : GSearch [K, .str k] (found k ks) := by
  intro K' ks' k' h hk'
  injection h with h1 h2
  injection h2 with h2 h3
  injection h2 with h2
  subst h1 h2
  rw [isKs_inj hk hk']
theorem isKs_strip {K : AV} {ks : List Bytes} (h : IsKs K ks) : IsKs (stripV K) ks := by
  rcases h with ⟨rfl, h⟩ | ⟨tok, cap, rfl⟩
  · exact .inl ⟨rfl, h⟩
  · exact .inr ⟨none, cap, by simp [stripV, strip_keys]⟩
theorem isKs_plain {K : AV} {ks : List Bytes} (h : IsKs K ks) : plainV K = true := by
  rcases h with ⟨rfl, h⟩ | ⟨tok, cap, rfl⟩
  · rfl
  · simp [plainV, plain_keys]
set_option maxRecDepth 1000000 in
theorem search_call {pr : Prims} (h : pr 51 = some (pureP E0 51 GSearch)) {K : AV} {ks : List Bytes} (k : Bytes) (hk : IsKs K ks) (hr : Rising ks) (hl : ks.length < big) (n : Nat) (st : Store) : Call pr (n + 1) (Fv 51) [K, .str k] st = some (found k ks, st) := by
  obtain ⟨v, h1, h2⟩ := call_pure h (args := [K, .str k]) (by simp [plainVs, plainV, isKs_plain hk]) ⟨_, search_run (isKs_strip hk) hr hl (strip_strip K) (isKs_plain (isKs_strip hk)), gSearch_of (isKs_strip hk)⟩ n st
  rw [h1, h2 _ _ _ rfl (isKs_strip hk)]
/-- What Get finds. -/
def getV (a : Vl) (k : Bytes) : Option Vl := if a.ks[lbnd k a.ks]? = some k then a.vs[lbnd k a.ks]? else none
def GGet (args : List AV) (v : AV) : Prop := ∀ x a k, args = [x, .str k] → IsV x a → ∃ y b, IsV y b ∧ ((getV a k = some b ∧ v = .tuple [y, .bool true]) ∨ (getV a k = none ∧ b = zeroVl ∧ v = .tuple [y, .bool false]))
set_option maxRecDepth 1000000 in
theorem fn23 : E0.L.fn 23 = some Tryz.f23 := by kernel_rfl
set_option maxRecDepth 1000000 in
set_option maxHeartbeats 1000000 in
theorem get_run {x : AV} {a : Vl} {k : Bytes} (hx : IsV x a) (hb : a.size < big) (hr : Rising a.ks) (hlen : a.ks.length ≤ a.vs.length) (hs : stripV x = x) : ∃ v, PureRun E0 23 [x, .str k] v ∧ GGet [x, .str k] v := by
  obtain ⟨y, b, v, hy, hv, hrun⟩ : ∃ y b v, IsV y b ∧ ((getV a k = some b ∧ v = .tuple [y, .bool true]) ∨ (getV a k = none ∧ b = zeroVl ∧ v = .tuple [y, .bool false])) ∧
      ∀ n st, b23 (Call (prWith pr0 51 (pureP E0 51 GSearch)) (n + 1)) (n + 1) [x, .str k] st = some (v, st) := by
    cases a with
    | mk t b1 n s ks vs f =>
    obtain ⟨K, W, rfl, hk, hw⟩ := isV_iff.1 hx
    have hsz : (Vl.mk t b1 n s ks vs f).size = 1 + n.length + s.length + ksum ks + vsum vs := by simp only [Vl.size]
    have hkl := ksum_len ks
    have hlb : ks.length < big := by omega
    have key : ∀ n' st, Call (prWith pr0 51 (pureP E0 51 GSearch)) (n' + 1) (Fv 51) [K, .str k] st = some (found k ks, st) := fun n' st => search_call (by simp [prWith]) k hk hr hlb n' st
    by_cases hf : ks[lbnd k ks]? = some k
    · have hi := (List.getElem?_eq_some_iff.1 hf).1
      have hvl : ks.length ≤ vs.length := hlen
      have hg : vs[lbnd k ks]? = some (vs[lbnd k ks]'(by omega)) := List.getElem?_eq_getElem (by omega)
      obtain ⟨cs, hcs, hlen7, hel⟩ := x_elemW hw hg
      obtain ⟨t', b', n', s', K', W', f', hcs'⟩ := isV_cells hcs
      injection hcs' with hcs'
      subst hcs'
      refine ⟨_, _, _, hcs, .inl ⟨?_, rfl⟩, fun n' st => ?_⟩
      · simp only [getV, Vl.ks, Vl.vs, if_pos hf, hg]
      · simp only [b23, x_un1, x_un0, x_hCells, x_hLoc1, x_hNth0, x_hNthS, x_hCall (key n' st), found, x_hExt, hf, decide_true, x_hIf_t, hel, x_hLdN_r, x_hCut7, x_hStLN7, x_hLocN]
    · refine ⟨_, _, _, zero_is, .inr ⟨?_, rfl, rfl⟩, fun n' st => ?_⟩
      · show (if ks[lbnd k ks]? = some k then _ else none) = none
        rw [if_neg hf]
      · simp only [b23, x_un1, x_un0, x_hCells, x_hLoc1, x_hNth0, x_hNthS, x_hCall (key n' st), found, x_hExt, hf, decide_false, x_hIf_f, x_hCut7, x_hStLN7, x_hLocN]
        rfl
  have hpv : plainV v = true := by
    rcases hv with ⟨_, rfl⟩ | ⟨_, _, rfl⟩ <;> simp [plainV, plainVs, isV_plain hy]
  refine ⟨stripV v, ?_, ?_⟩
  · refine pure_body e23 fn23 (by simp [plainVs, isV_plain hx, plainV]) (by simp [stripVs, stripV, hs]) fun ts => ?_
    exact ⟨_, 1, v, S0 ts, [], prWith_ok prOk0 (pureP_ok (k := 51) (Good := GSearch)), hrun 0 (S0 ts), rfl, hpv, rfl⟩
  · intro x' a' k' h ha
    injection h with h1 h2
    injection h2 with h2
    injection h2 with h2
    subst h1 h2
    rw [isV_inj hx ha] at *
    refine ⟨stripV y, b, isV_strip hy, ?_⟩
    rcases hv with ⟨h1, rfl⟩ | ⟨h1, h2, rfl⟩
    · exact .inl ⟨h1, by simp [stripV, stripVs]⟩
    · exact .inr ⟨h1, h2, by simp [stripV, stripVs]⟩

/-! ### Data -/
mutual
def Vl.data : Vl → Bool
  | .mk t _ _ _ _ vs _ => !(decide (t = 5)) && dall vs
def dall : List Vl → Bool
  | [] => true
  | v :: r => v.data && dall r
end
theorem dall_get : ∀ {vs : List Vl} {i : Nat} {v : Vl}, vs[i]? = some v → v.data = false → dall vs = false
  | [], i, v, h, _ => by simp at h
  | w :: vs, 0, v, h, hd => by simp at h; subst h; simp [dall, hd]
  | w :: vs, i + 1, v, h, hd => by
    have := dall_get (vs := vs) (i := i) (v := v) (by simpa using h) hd
    simp [dall, this]
theorem dall_all : ∀ {vs : List Vl}, (∀ (i : Nat) (v : Vl), vs[i]? = some v → v.data = true) → dall vs = true
  | [], _ => rfl
  | w :: vs, h => by
    have h1 := h 0 w rfl
    have h2 := dall_all (vs := vs) fun i v hi => h (i + 1) v (by simpa using hi)
    simp [dall, h1, h2]
def GData (args : List AV) (v : AV) : Prop := ∀ x a, args = [x] → IsV x a → v = .bool a.data
theorem gData_of {x : AV} {a : Vl} (hx : IsV x a) : GData [x] (.bool a.data) := by
  intro x' a' h ha
  injection h with h1
  subst h1
  rw [isV_inj hx ha]
set_option maxRecDepth 1000000 in
theorem fn22 : E0.L.fn 22 = some Tryz.f22 := by kernel_rfl
set_option maxRecDepth 1000000 in
theorem fn56 : E0.L.fn 56 = some Tryz.f56 := by kernel_rfl
set_option maxRecDepth 1000000 in
theorem fn57 : E0.L.fn 57 = some Tryz.f57 := by kernel_rfl
set_option maxRecDepth 1000000 in
theorem fn95 : E0.L.fn 95 = some Tryz.f95 := by kernel_rfl
theorem p0_56 : pr0 56 = none := by kernel_rfl
theorem p0_57 : pr0 57 = none := by kernel_rfl
theorem p0_95 : pr0 95 = none := by kernel_rfl
set_option maxRecDepth 1000000 in
/-- slices.ContainsFunc, by a function that tells something of each value. -/
theorem contains_call {pr : Prims} (h56 : pr 56 = none) (h95 : pr 95 = none) {W : AV} {vs : List Vl} (hw : IsW W vs) (hl : vs.length < big) (fv : AV) (bad : Vl → Bool) (st : Store) (N : Nat)
    (hf : ∀ (cs : List AV) (v : Vl) (i : Nat), vs[i]? = some v → IsV (.agg cs) v → ∀ n, N ≤ n → Call pr n fv [.agg cs] st = some (.bool (bad v), st)) (n : Nat) (hn : N + vs.length + 3 ≤ n) : Call pr n (Fv 56) [W, fv] st = some (.bool (vs.any bad), st) := by
  unfold big at hl
  obtain ⟨n, rfl⟩ : ∃ n', n = n' + 2 := ⟨n - 2, by omega⟩
  have hidx : ∃ z : Int, Call pr (n + 1) (Fv 95) [W, fv] st = some (.int .i64 z, st) ∧ (!(iLt z (.ofNat 0))) = vs.any bad := by
    have hb : ∃ z : Int, b95 (Call pr n) n [W, fv] st = some (.int .i64 z, st) ∧ (!(iLt z (.ofNat 0))) = vs.any bad := by
      simp only [b95, x_un1, x_un0]
      rw [x_lenW hw]
      refine loop_ruleP (fun r => ∃ z : Int, r = some (.int .i64 z, st) ∧ (!(iLt z (.ofNat 0))) = vs.any bad) (fun m vals st' => ∃ i, vals = [.int .i64 (.ofNat i), W, fv, .int .i64 (.ofNat vs.length)] ∧ st' = st ∧ i + m = vs.length ∧ ∀ j v, j < i → vs[j]? = some v → bad v = false) ?_ ?_ vs.length _ _ _ ⟨0, rfl, rfl, by omega, fun j v h => by omega⟩ (by omega)
      · intro m vals st' ih' ⟨i, hv, hst, hi, hall⟩ hnext
        subst hv hst
        have hlt : i < vs.length := by omega
        have hg : vs[i]? = some vs[i] := List.getElem?_eq_getElem hlt
        obtain ⟨cs, hcs, hlen7, hel⟩ := x_elemW hw hg
        simp only [x_un1, x_hCmpI, x_iLt, decide_eq_true hlt, x_hIf_t, hel, x_hLdN_r, x_hCut_all hlen7, x_hCall (hf cs _ _ hg hcs n (by omega))]
        cases hbad : bad vs[i] with
        | true =>
          simp only [x_hIf_t]
          refine ⟨_, rfl, ?_⟩
          have : vs.any bad = true := List.any_eq_true.2 ⟨vs[i], List.getElem_mem hlt, hbad⟩
          rw [this]; rfl
        | false =>
          simp only [x_hIf_f]
          rw [x_add (by omega)]
          refine hnext _ _ ⟨i + 1, rfl, rfl, by omega, fun j v hj hv => ?_⟩
          by_cases hji : j = i
          · subst hji; rw [hg] at hv; injection hv with hv; rw [← hv]; exact hbad
          · exact hall j v (by omega) hv
      · intro vals st' ih' ⟨i, hv, hst, hi, hall⟩
        subst hv hst
        have hi : i = vs.length := by omega
        subst hi
        simp only [x_un1, x_hCmpI, x_iLt, decide_eq_false (Nat.lt_irrefl _), x_hIf_f]
        refine ⟨_, rfl, ?_⟩
        have : vs.any bad = false := List.any_eq_false.2 fun v hv => by
          obtain ⟨j, hj, e⟩ := List.getElem_of_mem hv
          have := hall j v hj (by rw [List.getElem?_eq_getElem hj, e])
          simp [this]
        rw [this]; rfl
    obtain ⟨z, h1, h2⟩ := hb
    exact ⟨z, call_body e95 fn95 h95 (first := []) (cap := []) (by simpa using h1), h2⟩
  obtain ⟨z, h1, h2⟩ := hidx
  refine call_body e56 fn56 h56 (first := []) (cap := []) ?_
  simp only [b56, List.nil_append, List.append_nil, x_un1, x_un0, x_hCall h1, x_hCmpI]
  rw [h2]
theorem any_data (vs : List Vl) : vs.any (fun v => !v.data) = !dall vs := by
  induction vs with
  | nil => rfl
  | cons v vs ih => simp [dall, ih]
set_option maxRecDepth 1000000 in
set_option maxHeartbeats 1000000 in
theorem data_run : ∀ (m : Nat) (a : Vl) (x : AV), a.size ≤ m → a.size < big → IsV x a → stripV x = x → PureRun E0 22 [x] (.bool a.data) := by
  intro m
  induction m with
  | zero => intro a x h; have := size_pos a; omega
  | succ m ih =>
    intro a x hm hb hx hs
    refine pure_body e22 fn22 (by simp [plainVs, isV_plain hx]) (by simp [stripVs, hs]) fun ts => ?_
    refine ⟨prWith pr0 22 (pureP E0 22 GData), a.size + 8, .bool a.data, S0 ts, [], prWith_ok prOk0 pureP_ok, ?_, rfl, rfl, rfl⟩
    cases a with
    | mk t b n s ks vs f =>
    obtain ⟨K, W, rfl, hk, hw⟩ := isV_iff.1 hx
    have hsz : (Vl.mk t b n s ks vs f).size = 1 + n.length + s.length + ksum ks + vsum vs := by simp only [Vl.size]
    rw [hsz] at hb hm ⊢
    have hvl := vsum_len vs
    simp only [b22, x_un1, x_un0, x_hCells, x_hLoc1, x_hNth0, x_hNthS, x_hCmpI, x_iEq, x_hWB, x_hlet]
    by_cases ht : t = 5
    · have : decide (t = Int.ofNat 5) = true := by simpa using ht
      simp only [this, Bool.not_true, x_hWant_ft, x_hWant_u, x_hPick_f, Vl.data]
      simp [ht]
    · have : decide (t = Int.ofNat 5) = false := by simpa using ht
      have hc := contains_call (pr := prWith pr0 22 (pureP E0 22 GData)) (by simp [prWith, p0_56]) (by simp [prWith, p0_95]) hw (by omega) (Fv 57) (fun v => !v.data) (S0 ts) 3 (fun cs v i hi hcs n hn => by
        obtain ⟨n, rfl⟩ : ∃ n', n = n' + 2 := ⟨n - 2, by omega⟩
        refine call_body e57 fn57 (by simp [prWith, p0_57]) (first := []) (cap := []) ?_
        obtain ⟨t', b', n', s', K', W', f', hcs'⟩ := isV_cells hcs
        injection hcs' with hcs'
        subst hcs'
        have h3 := vsum_get hi
        obtain ⟨w, hc1, hc2⟩ := call_pure (pr := prWith pr0 22 (pureP E0 22 GData)) (k := 22) (Good := GData) (by simp [prWith]) (args := [_]) (by simp [plainVs, isV_plain hcs]) ⟨_, ih v _ (by omega) (by omega) (isV_strip hcs) (strip_strip _), gData_of (isV_strip hcs)⟩ n (S0 ts)
        have hv := hc2 _ _ rfl (isV_strip hcs)
        subst hv
        simp only [b57, List.nil_append, List.append_nil, x_un1, x_un0, x_hCells, x_hLocN, x_hCut7, x_hCall hc1, x_hNot]) (1 + n.length + s.length + ksum ks + vsum vs + 8) (by omega)
      simp only [this, Bool.not_false, x_hWant_tt, x_hCall hc, x_hNot, x_hPick_t, Vl.data, ht, decide_false, Bool.true_and, any_data, Bool.not_not]
end Go.Sim

namespace Go.Sim
open Go.Proofs

set_option maxRecDepth 1000000 in
theorem sk : SlT E0.L 25 9 1 16 (.str []) := sl9
set_option maxRecDepth 1000000 in
theorem sw : SlT E0.L 26 28 7 104 (.agg [.int .i64 0, .bool false, .str [], .str [], .nils, .nils, .int .i64 0]) := sl28
set_option maxRecDepth 1000000 in
theorem int25 : isIntT E0.L 25 = some false := by kernel_rfl
set_option maxRecDepth 1000000 in
theorem int26 : isIntT E0.L 26 = some false := by kernel_rfl
set_option maxRecDepth 1000000 in
theorem fn52 : E0.L.fn 52 = some Tryz.f52 := by kernel_rfl
set_option maxRecDepth 1000000 in
theorem fn53 : E0.L.fn 53 = some Tryz.f53 := by kernel_rfl
set_option maxRecDepth 1000000 in
theorem fn54 : E0.L.fn 54 = some Tryz.f54 := by kernel_rfl
set_option maxRecDepth 1000000 in
theorem fn55 : E0.L.fn 55 = some Tryz.f55 := by kernel_rfl
theorem p0_52 : pr0 52 = none := by kernel_rfl
theorem p0_53 : pr0 53 = none := by kernel_rfl
theorem p0_54 : pr0 54 = some (pInsert (Look.of Tryz.prog) 9 1 16) := by kernel_rfl
theorem p0_55 : pr0 55 = some (pInsert (Look.of Tryz.prog) 28 7 104) := by kernel_rfl
set_option maxRecDepth 1000000 in
theorem build0 (st : Store) : aBuildSlice E0.L 0 25 0 [] [] st = some (.val (.row 1 none (some 0) []), st) := by kernel_rfl
set_option maxRecDepth 1000000 in
theorem build0w (st : Store) : aBuildSlice E0.L 0 26 0 [] [] st = some (.val (.row 7 none (some 0) []), st) := by kernel_rfl
set_option maxRecDepth 1000000 in
theorem build1 (k : Bytes) (st : Store) : aBuildSlice E0.L 0 25 1 [0] [.str k] st = some (.val (.row 1 none (some 1) [.str k]), st) := by kernel_rfl
set_option maxRecDepth 1000000 in
theorem build1w (a b c d e f g : AV) (st : Store) : aBuildSlice E0.L 0 26 1 [0] [.agg [a, b, c, d, e, f, g]] st = some (.val (.row 7 none (some 1) [.agg [a, b, c, d, e, f, g]]), st) := by kernel_rfl
set_option maxRecDepth 1000000 in
theorem nil_nil (t : TypeId) (h : ∃ e, E0.L.und t = some (.slice e)) (st : Store) : aBinC E0.L t .eql true .nils .nils st = some (.val (.bool true), st) := by
  obtain ⟨e, h⟩ := h
  simp only [aBinC, binC, otherV, eqV, h, sliceNil, eqNil]
set_option maxRecDepth 1000000 in
theorem row_nil (t : TypeId) (h : ∃ e, E0.L.und t = some (.slice e)) (sz : Nat) (tok : Option (Nat × Nat)) (cap : Option Nat) (xs : List AV) (st : Store) : aBinC E0.L t .eql true (.row sz tok cap xs) .nils st = some (.val (.bool false), st) := by
  obtain ⟨e, h⟩ := h
  simp only [aBinC, binC, otherV, eqV, h, sliceNil, eqNil]
set_option maxRecDepth 1000000 in
/-- append, all of a row to what is empty, in new memory. -/
theorem append_clone {T e sz by_ : Nat} {z : AV} (h : SlT E0.L T e sz by_ z) (hi : isIntT E0.L T = some false) (hby : by_ ≤ 104) (tok : Option (Nat × Nat)) (cap : Option Nat) {xs : List AV} (hx : xs ≠ []) (hl : xs.length < big) (st : Store) :
    aAppend E0.L 1 T T [.val (.row sz none (some 0) []), .val (.row sz tok cap xs)] st = some (.val (.arr sz st.nobj 0 xs.length none), st.new (.cells (flat xs))) := by
  have hne : xs.isEmpty = false := by cases xs <;> simp at hx ⊢
  have hpos : 0 < xs.length := List.length_pos_iff.2 hx
  unfold big at hl
  have hmul : xs.length * by_ ≤ maxBytes := by
    unfold maxBytes
    exact Nat.le_trans (Nat.mul_le_mul (Nat.le_of_lt hl) hby) (by decide)
  have hm : xs.length ≤ maxBytes := by unfold maxBytes; omega
  have h1 : readRow E0.L e st (.row sz tok cap xs) = some xs := by simp only [readRow, if_pos h.size]
  have h2 : readRow E0.L e st (.row sz none (some 0) []) = some [] := by simp only [readRow, if_pos h.size]
  have h3 : appendV E0.L 1 e (.row sz none (some 0) []) xs st = some (.arr sz st.nobj 0 xs.length none, st.new (.cells (flat xs))) := by
    unfold appendV
    simp only [h.bytes, h.size, h.zero, if_pos (And.intro h.zlen h.pos), h2, hne, Bool.false_eq_true, if_false, appendRow, List.length_nil, Nat.zero_add, if_pos hpos, List.nil_append, freshV, if_pos (And.intro hmul (And.intro hm h.pos)), if_true]
  simp only [aAppend, h.el, hi, h1, h3, ansV]
set_option maxRecDepth 1000000 in
/-- append of one to nothing. -/
theorem append_one {T e sz by_ : Nat} {z : AV} (h : SlT E0.L T e sz by_ z) (hi : isIntT E0.L T = some false) (hby : by_ ≤ 104) (tok : Option (Nat × Nat)) (cap : Option Nat) (x : AV) (st : Store) :
    aAppend E0.L 0 T T [.val .nils, .val (.row sz tok cap [x])] st = some (.val (.row sz (some (st.ntop, 0)) none [x]), st.newTop (1, e)) := by
  have hm : 1 * by_ ≤ maxBytes := by
    unfold maxBytes; omega
  have hm' : 1 ≤ maxBytes := by unfold maxBytes; omega
  have h1 : readRow E0.L e st (.row sz tok cap [x]) = some [x] := by simp only [readRow, if_pos h.size]
  have h3 : appendV E0.L 0 e .nils [x] st = some (.row sz (some (st.ntop, 0)) none [x], st.newTop (1, e)) := by
    unfold appendV
    simp only [h.bytes, h.size, h.zero, if_pos (And.intro h.zlen h.pos), readRow, List.isEmpty_cons, Bool.false_eq_true, if_false, freshV, List.length_singleton, if_pos (And.intro hm (And.intro hm' h.pos))]
    rfl
  simp only [aAppend, h.el, hi, h1, h3, ansV]
set_option maxRecDepth 1000000 in
theorem clone_nil {pr : Prims} (h : pr 52 = none) (n : Nat) (st : Store) : Call pr (n + 1) (Fv 52) [.nils] st = some (.nils, st) := by
  refine call_body e52 fn52 h (first := []) (cap := []) ?_
  simp only [b52, List.nil_append, List.append_nil, x_un1, x_un0, x_hVal (nil_nil 25 ⟨_, sk.un⟩ st), x_hIf_t]
set_option maxRecDepth 1000000 in
theorem clone_nilw {pr : Prims} (h : pr 53 = none) (n : Nat) (st : Store) : Call pr (n + 1) (Fv 53) [.nils] st = some (.nils, st) := by
  refine call_body e53 fn53 h (first := []) (cap := []) ?_
  simp only [b53, List.nil_append, List.append_nil, x_un1, x_un0, x_hVal (nil_nil 26 ⟨_, sw.un⟩ st), x_hIf_t]
set_option maxRecDepth 1000000 in
theorem clone_row {pr : Prims} (h : pr 52 = none) (n : Nat) (tok : Option (Nat × Nat)) (cap : Option Nat) {xs : List AV} (hx : xs ≠ []) (hl : xs.length < big) (st : Store) : Call pr (n + 1) (Fv 52) [.row 1 tok cap xs] st = some (.arr 1 st.nobj 0 xs.length none, st.new (.cells (flat xs))) := by
  refine call_body e52 fn52 h (first := []) (cap := []) ?_
  simp only [b52, List.nil_append, List.append_nil, x_un1, x_un0, x_hVal (row_nil 25 ⟨_, sk.un⟩ _ _ _ _ st), x_hIf_f, x_hVal (build0 st), x_hValF (append_clone sk int25 (by decide) tok cap hx hl st)]
set_option maxRecDepth 1000000 in
theorem clone_roww {pr : Prims} (h : pr 53 = none) (n : Nat) (tok : Option (Nat × Nat)) (cap : Option Nat) {xs : List AV} (hx : xs ≠ []) (hl : xs.length < big) (st : Store) : Call pr (n + 1) (Fv 53) [.row 7 tok cap xs] st = some (.arr 7 st.nobj 0 xs.length none, st.new (.cells (flat xs))) := by
  refine call_body e53 fn53 h (first := []) (cap := []) ?_
  simp only [b53, List.nil_append, List.append_nil, x_un1, x_un0, x_hVal (row_nil 26 ⟨_, sw.un⟩ _ _ _ _ st), x_hIf_f, x_hVal (build0w st), x_hValF (append_clone sw int26 (by decide) tok cap hx hl st)]
/-- A primitive that leaves a call to the code. -/
theorem call_left {k m : Nat} {fn : Func} {ha : HA} {b : HBody} (he : b = hfun E0 (An0 k) ha (List.range m) fn) (hf : E0.L.fn k = some fn) {pr : Prims} {p : List AV → Store → Option (AV × Store)} (hp : pr k = some p) {n : Nat} {args : List AV} {st : Store} {r : AV × Store} (hpn : p args st = none) (h : b (Call pr n) n args st = some r) : Call pr (n + 1) (Fv k) args st = some r := by
  have := body_ok he hf h
  simp only [acall, hp, List.nil_append, List.append_nil, hpn]
  exact this
set_option maxRecDepth 1000000 in
theorem insert_nil {pr : Prims} (h : pr 54 = some (pInsert (Look.of Tryz.prog) 9 1 16)) (n : Nat) (tok : Option (Nat × Nat)) (cap : Option Nat) (x : AV) (st : Store) : Call pr (n + 1) (Fv 54) [.nils, .int .i64 (.ofNat 0), .row 1 tok cap [x]] st = some (.row 1 (some (st.ntop, 0)) none [x], st.newTop (1, 9)) := by
  refine call_left e54 fn54 h rfl ?_
  have hs : sliceV E0.L 25 st .nils (some (.int .i64 (.ofNat 0))) none none = some .nils := by
    simp only [sliceV, sk.el, sk.size, capOf, bounds, bnd, Option.getD_some]; rfl
  simp only [b54, x_un1, x_un0, x_hV hs, x_hLenR_r, x_hLenR_n, x_hCmpI, x_iEq, List.length_singleton, show (Int.ofNat 1 = Int.ofNat 0) = False from by simp, decide_false, x_hIf_f, decide_true, x_hIf_t, x_hValF (append_one sk int25 (by decide) tok cap x st)]
set_option maxRecDepth 1000000 in
theorem insert_nilw {pr : Prims} (h : pr 55 = some (pInsert (Look.of Tryz.prog) 28 7 104)) (n : Nat) (tok : Option (Nat × Nat)) (cap : Option Nat) (x : AV) (st : Store) : Call pr (n + 1) (Fv 55) [.nils, .int .i64 (.ofNat 0), .row 7 tok cap [x]] st = some (.row 7 (some (st.ntop, 0)) none [x], st.newTop (1, 28)) := by
  refine call_left e55 fn55 h rfl ?_
  have hs : sliceV E0.L 26 st .nils (some (.int .i64 (.ofNat 0))) none none = some .nils := by
    simp only [sliceV, sw.el, sw.size, capOf, bounds, bnd, Option.getD_some]; rfl
  simp only [b55, x_un1, x_un0, x_hV hs, x_hLenR_r, x_hLenR_n, x_hCmpI, x_iEq, List.length_singleton, show (Int.ofNat 1 = Int.ofNat 0) = False from by simp, decide_false, x_hIf_f, decide_true, x_hIf_t, x_hValF (append_one sw int26 (by decide) tok cap x st)]
end Go.Sim

namespace Go.Sim
open Go.Proofs

/-- Rows that are not nil hold something. -/
def neatR : AV → Prop
  | .nils => True
  | .row _ _ _ xs => xs ≠ []
  | _ => False
def Neat : AV → Prop
  | .agg [_, _, _, _, K, W, _] => neatR K ∧ neatR W
  | _ => False
theorem neatR_strip {x : AV} (h : neatR x) : neatR (stripV x) := by
  cases x <;> first | exact h | skip
  rename_i xs
  simp only [stripV, neatR] at h ⊢
  cases xs with
  | nil => exact absurd rfl h
  | cons y ys => simp [stripVs]
theorem neat_strip {x : AV} (h : Neat x) : Neat (stripV x) := by
  unfold Neat at h
  split at h
  · exact ⟨neatR_strip h.1, neatR_strip h.2⟩
  · exact h.elim
/-- What Set makes. -/
def setV (a : Vl) (k : Bytes) (b : Vl) : Vl := match a with
  | .mk t b1 n s ks vs f => if t = 4 then
      (if ks[lbnd k ks]? = some k then .mk t b1 n s ks (vs.set (lbnd k ks) b) f
      else .mk t b1 n s (ks.take (lbnd k ks) ++ k :: ks.drop (lbnd k ks)) (vs.take (lbnd k ks) ++ b :: vs.drop (lbnd k ks)) f)
    else a
def GSet (args : List AV) (v : AV) : Prop := ∀ x k y a b, args = [x, .str k, y] → IsV x a → IsV y b → IsV v (setV a k b) ∧ Neat v ∧ stripV v = v
set_option maxRecDepth 1000000 in
theorem fn19 : E0.L.fn 19 = some Tryz.f19 := by kernel_rfl
set_option maxRecDepth 1000000 in
theorem size28 : sizeT E0.L 28 = some 7 := sw.size
set_option maxRecDepth 1000000 in
/-- A value whose lists are rows is what it is. -/
theorem freeze_rows (sk' tk ck) (t b n s f : AV) (xs : List AV) (sw' tw cw) (ys : List AV) (ht : ∃ i, t = .int .i64 i) (hb : ∃ i, b = .bool i) (hn : ∃ i, n = .str i) (hs : ∃ i, s = .str i) (hf : ∃ i, f = .int .i64 i) (st : Store) :
    aLoad E0.L 2 28 [.loc 3 0 [t, b, n, s, .row sk' tk ck xs, .row sw' tw cw ys, f]] st = some (.val (.agg [t, b, n, s, .row sk' tk ck xs, .row sw' tw cw ys, f]), st) := by
  obtain ⟨t, rfl⟩ := ht
  obtain ⟨b, rfl⟩ := hb
  obtain ⟨n, rfl⟩ := hn
  obtain ⟨s, rfl⟩ := hs
  obtain ⟨f, rfl⟩ := hf
  kernel_rfl
set_option maxRecDepth 1000000 in
theorem agg28 : aggT E0.L 28 = some true := by kernel_rfl
set_option maxRecDepth 1000000 in
theorem fld4 : fieldsT E0.L 28 4 = some (4, 25) := by kernel_rfl
set_option maxRecDepth 1000000 in
theorem fld5 : fieldsT E0.L 28 5 = some (5, 26) := by kernel_rfl
theorem x_stRow (cs : List AV) (o : Nat) (a : Nat) (b : Option (Nat × Nat)) (c : Option Nat) (d : List AV) (k : List AV → Rs) : hStL1 cs o (.row a b c d) k = hPut cs o (.row a b c d) k := rfl
theorem x_stArr (cs : List AV) (o : Nat) (a b c d : Nat) (e : Option Nat) (k : List AV → Rs) : hStL1 cs o (.arr a b c d e) k = hPut cs o (.arr a b c d e) k := rfl
theorem x_stNils (cs : List AV) (o : Nat) (k : List AV → Rs) : hStL1 cs o .nils k = hPut cs o .nils k := rfl
set_option maxRecDepth 1000000 in
/-- A value whose lists are new memory is for good. -/
theorem freeze_arrs (o1 n1 o2 n2 : Nat) (t f : Int) (b : Bool) (n s : Bytes) (xs ys : List AV) (st : Store) (h1 : readRow E0.L 9 st (.arr 1 o1 0 n1 none) = some xs) (h2 : readRow E0.L 28 (st.set o1 .dead) (.arr 7 o2 0 n2 none) = some ys) :
    aLoad E0.L 2 28 [.loc 3 0 [.int .i64 t, .bool b, .str n, .str s, .arr 1 o1 0 n1 none, .arr 7 o2 0 n2 none, .int .i64 f]] st = some (.val (.agg [.int .i64 t, .bool b, .str n, .str s, .row 1 none none xs, .row 7 none none ys, .int .i64 f]), (st.set o1 .dead).set o2 .dead) := by
  simp only [aLoad, size28, loadCs, cut, List.length_cons, List.length_nil]
  rw [if_pos (by decide)]
  simp only [List.drop_zero, List.take_succ_cons, List.take_zero, mkT, agg28, if_true, freezeV, freezeCells, Nat.zero_add, Nat.reduceAdd, fld4, fld5, sk.el, sw.el, h1, h2]
theorem flat_keys (ks : List Bytes) : flat (ks.map AV.str) = ks.map AV.str := by
  induction ks with
  | nil => rfl
  | cons k ks ih => simp only [List.map_cons, flat, List.flatMap_cons, AV.cells] at ih ⊢; simp only [List.singleton_append]; rw [ih]
set_option maxRecDepth 1000000 in
theorem agg9 : aggT E0.L 9 = some false := by kernel_rfl
theorem good_str (k : Bytes) : goodB E0.L 9 1 (.str k) = true := by
  simp only [goodB, agg9, AV.cells, isAgg]; rfl
theorem good_val {y : AV} {v : Vl} (h : IsV y v) : goodB E0.L 28 7 y = true := by
  obtain ⟨t, b, n, s, K, W, f, rfl⟩ := isV_cells h
  simp only [goodB, agg28, AV.cells, isAgg]; rfl
theorem good_vals : ∀ {xs : List AV} {vs : List Vl}, IsVL xs vs → ∀ y ∈ xs, goodB E0.L 28 7 y = true
  | xs, [], h, y, hy => by simp only [IsVL] at h; subst h; cases hy
  | xs, v :: vs, h, y, hy => by
    simp only [IsVL] at h
    obtain ⟨z, zs, rfl, h1, h2⟩ := h
    rcases List.mem_cons.1 hy with rfl | hy
    · exact good_val h1
    · exact good_vals h2 y hy
theorem good_keys (ks : List Bytes) : ∀ y ∈ ks.map AV.str, goodB E0.L 9 1 y = true := by
  intro y hy
  obtain ⟨k, _, rfl⟩ := List.mem_map.1 hy
  exact good_str k
theorem isVL_insert : ∀ {xs : List AV} {vs : List Vl} {y : AV} {v : Vl} (i : Nat), IsVL xs vs → IsV y v → IsVL (xs.take i ++ y :: xs.drop i) (vs.take i ++ v :: vs.drop i)
  | xs, vs, y, v, 0, h, hy => by
    simp only [List.take_zero, List.drop_zero, List.nil_append, IsVL]
    exact ⟨y, xs, rfl, hy, h⟩
  | xs, [], y, v, i + 1, h, hy => by
    simp only [IsVL] at h; subst h
    simp only [List.take_nil, List.drop_nil, List.nil_append, IsVL]
    exact ⟨y, [], rfl, hy, rfl⟩
  | xs, w :: vs, y, v, i + 1, h, hy => by
    simp only [IsVL] at h
    obtain ⟨z, zs, rfl, h1, h2⟩ := h
    simp only [List.take_succ_cons, List.drop_succ_cons, List.cons_append, IsVL]
    exact ⟨z, _, rfl, h1, isVL_insert i h2 hy⟩
theorem isVL_set : ∀ {xs : List AV} {vs : List Vl} {y : AV} {v : Vl} (i : Nat), IsVL xs vs → IsV y v → IsVL (xs.set i y) (vs.set i v)
  | xs, [], y, v, i, h, hy => by simp only [IsVL] at h; subst h; simp [IsVL]
  | xs, w :: vs, y, v, 0, h, hy => by
    simp only [IsVL] at h
    obtain ⟨z, zs, rfl, h1, h2⟩ := h
    simp only [List.set_cons_zero, IsVL]
    exact ⟨y, zs, rfl, hy, h2⟩
  | xs, w :: vs, y, v, i + 1, h, hy => by
    simp only [IsVL] at h
    obtain ⟨z, zs, rfl, h1, h2⟩ := h
    simp only [List.set_cons_succ, IsVL]
    exact ⟨z, _, rfl, h1, isVL_set i h2 hy⟩
set_option maxRecDepth 1000000 in
/-- slices.Insert into new memory. -/
theorem insert_call {pr : Prims} {F T e sz by_ : Nat} {z : AV} (hsl : SlT E0.L T e sz by_ z) (hby : by_ ≤ 104) (h : pr F = some (pInsert (Look.of Tryz.prog) e sz by_)) (n : Nat) {o i : Nat} {xs : List AV} (x : AV) (cap : Option Nat) (tok : Option (Nat × Nat)) {st : Store}
    (hg : st.get o = some (.cells (flat xs))) (hi : i ≤ xs.length) (hl : xs.length < big - 1) (hxs : ∀ y ∈ xs, goodB E0.L e sz y = true) (hx : goodB E0.L e sz x = true) :
    Call pr (n + 1) (Fv F) [.arr sz o 0 xs.length none, .int .i64 (.ofNat i), .row sz tok cap [x]] st = some (.row sz none none (xs.take i ++ x :: xs.drop i), (st.set o .dead).new .dead) := by
  refine call_prim h ?_
  unfold big at hl
  have h1 : elemsOf E0.L e (flat xs) xs.length = some xs := by
    have := elems_flat (L := E0.L) hsl.size (ys := xs) (rest := []) hxs
    rwa [List.append_nil] at this
  have h2 : (flat xs).length = xs.length * sz := flat_len fun y hy => good_len (hxs y hy)
  have h3 : (xs.length + 1) * by_ ≤ maxBytes := by
    unfold maxBytes
    exact Nat.le_trans (Nat.mul_le_mul (show xs.length + 1 ≤ 1099511627776 by omega) hby) (by decide)
  have h4 : xs.length + 1 ≤ maxBytes := by unfold maxBytes; omega
  have h5 : (xs.all (goodB E0.L e sz) && goodB E0.L e sz x) = true := by
    rw [hx, Bool.and_true]; exact List.all_eq_true.2 hxs
  have h1' : elemsOf (Look.of Tryz.prog) e (flat xs) xs.length = some xs := h1
  have h5' : (xs.all (goodB (Look.of Tryz.prog) e sz) && goodB (Look.of Tryz.prog) e sz x) = true := h5
  simp only [pInsert, hg, h1']
  rw [if_pos ⟨trivial, trivial, h2, hi, h3, h4, h5'⟩]
theorem keys_take (ks : List Bytes) (k : Bytes) (i : Nat) : (ks.map AV.str).take i ++ AV.str k :: (ks.map AV.str).drop i = (ks.take i ++ k :: ks.drop i).map AV.str := by
  simp [List.map_take, List.map_drop]
set_option maxRecDepth 1000000 in
theorem key_insert_set (ks : List Bytes) (k : Bytes) (i : Nat) : (ks.take i ++ k :: ks.drop i) ≠ [] := by simp
theorem x_hSplice {cs new : List AV} {off : Nat} {k : List AV → Rs} (h : off + new.length ≤ cs.length) : hSplice cs off new k = k (cs.take off ++ new ++ cs.drop (off + new.length)) := by
  have ho : ∀ (new xs : List AV) (k : List AV → Rs), new.length ≤ xs.length → hOver xs new k = k (new ++ xs.drop new.length) := by
    intro new
    induction new with
    | nil => intro xs k _; rfl
    | cons y new ih =>
      intro xs k h
      cases xs with
      | nil => simp at h
      | cons x xs => exact ih xs (fun r => k (y :: r)) (by simpa using h)
  induction cs generalizing off k with
  | nil =>
    simp at h
    obtain ⟨rfl, h⟩ := h
    have := ho new [] k (by simp [h])
    exact (show hSplice [] 0 new k = hOver [] new k from rfl).trans (by simpa using this)
  | cons x xs ih =>
    cases off with
    | zero =>
      have := ho new (x :: xs) k (by simpa using h)
      exact (show hSplice (x :: xs) 0 new k = hOver (x :: xs) new k from rfl).trans (by simpa using this)
    | succ off =>
      have := ih (off := off) (k := fun r => k (x :: r)) (by simp only [List.length_cons] at h; omega)
      rw [show off + 1 + new.length = (off + new.length) + 1 by omega]
      exact (show hSplice (x :: xs) (off + 1) new k = hSplice xs off new (fun r => k (x :: r)) from rfl).trans (by simpa using this)
theorem x_hElem_a {sz o len j : Nat} {kd : IntKind} {k : AV → Rs} (h : j < len) : hElem sz (.arr sz o 0 len none) (.int kd (.ofNat j)) k = k (.ptr o (j * sz)) := by
  have h1 : Nat.beq sz sz = true := by simp
  have h2 : Nat.blt j len = true := Nat.ble_eq_true_of_le h
  simp only [hElem, h1, hIdx, h2, fNat_eq, Nat.zero_add]
theorem flat_set7 : ∀ {xs : List AV} {i : Nat} {cs : List AV}, (∀ y ∈ xs, y.cells.length = 7) → cs.length = 7 → i < xs.length → (flat xs).take (i * 7) ++ cs ++ (flat xs).drop (i * 7 + 7) = flat (xs.set i (.agg cs))
  | [], i, cs, _, _, hi => by simp at hi
  | x :: xs, 0, cs, h, hc, _ => by
    have hx := h x List.mem_cons_self
    have hfl : flat (x :: xs) = x.cells ++ flat xs := by simp [flat]
    have hfl' : flat (AV.agg cs :: xs) = cs ++ flat xs := by simp [flat, AV.cells]
    rw [List.set_cons_zero, hfl, hfl']
    simp only [Nat.zero_mul, List.take_zero, List.nil_append, Nat.zero_add]
    rw [List.drop_append_of_le_length (by omega), List.drop_of_length_le (by omega), List.nil_append]
  | x :: xs, i + 1, cs, h, hc, hi => by
    have hx := h x List.mem_cons_self
    have ih := flat_set7 (xs := xs) (i := i) (cs := cs) (fun y hy => h y (List.mem_cons_of_mem _ hy)) hc (by simpa using hi)
    have hfl : flat (x :: xs) = x.cells ++ flat xs := by simp [flat]
    have hfl' : flat (x :: xs.set i (.agg cs)) = x.cells ++ flat (xs.set i (.agg cs)) := by simp [flat]
    rw [List.set_cons_succ, hfl, hfl', ← ih]
    rw [show (i + 1) * 7 = x.cells.length + i * 7 by omega, show x.cells.length + i * 7 + 7 = x.cells.length + (i * 7 + 7) by omega]
    rw [List.take_length_add_append, List.drop_length_add_append, List.append_assoc, List.append_assoc, List.append_assoc]
theorem x_hStN7 {st : Store} {o i : Nat} {xs : List AV} {a b c d e f g : AV} {k : Store → Rs} (h : st.getCells o = some (flat xs)) (hx : ∀ y ∈ xs, y.cells.length = 7) (hi : i < xs.length) : hStN 7 (.ptr o (i * 7)) (.agg [a, b, c, d, e, f, g]) st k = k (st.put o (flat (xs.set i (.agg [a, b, c, d, e, f, g])))) := by
  have hl : (flat xs).length = xs.length * 7 := flat_len hx
  show hMod st o (fun cs k => hSplice cs (i * 7) [a, b, c, d, e, f, g] k) k = _
  rw [x_hMod h, x_hSplice (by simp only [List.length_cons, List.length_nil, hl]; omega)]
  have := flat_set7 (cs := [a, b, c, d, e, f, g]) hx rfl hi
  simp only [List.length_cons, List.length_nil, Nat.zero_add, Nat.reduceAdd]
  rw [this]
theorem strips_set : ∀ {xs : List AV} {i : Nat} {y : AV}, stripVs xs = xs → stripV y = y → stripVs (xs.set i y) = xs.set i y
  | [], i, y, _, _ => rfl
  | x :: xs, 0, y, h, hy => by
    simp only [stripVs, List.cons.injEq] at h
    simp [stripVs, hy, h.2]
  | x :: xs, i + 1, y, h, hy => by
    simp only [stripVs, List.cons.injEq] at h
    simp [stripVs, h.1, strips_set h.2 hy]
theorem strips_insert : ∀ {xs : List AV} (i : Nat) {y : AV}, stripVs xs = xs → stripV y = y → stripVs (xs.take i ++ y :: xs.drop i) = xs.take i ++ y :: xs.drop i
  | xs, 0, y, h, hy => by simp [stripVs, hy, h]
  | [], i + 1, y, h, hy => by simp [stripVs, hy]
  | x :: xs, i + 1, y, h, hy => by
    simp only [stripVs, List.cons.injEq] at h
    simp [stripVs, h.1, strips_insert i h.2 hy]
set_option maxRecDepth 1000000 in
theorem readRow_flat {T e sz by_ : Nat} {z : AV} (hsl : SlT E0.L T e sz by_ z) {st : Store} {o : Nat} {ys : List AV} (h : st.getCells o = some (flat ys)) (hg : ∀ y ∈ ys, goodB E0.L e sz y = true) : readRow E0.L e st (.arr sz o 0 ys.length none) = some ys :=
  readRow_at hsl.size hsl.pos (pre := []) (post := []) (by simpa using h) rfl rfl hg
/-- Where Set begins. -/
noncomputable def prSet : Prims := prWith pr0 51 (pureP E0 51 GSearch)
set_option maxRecDepth 1000000 in
theorem prSet_ok : PrOk prSet := prWith_ok prOk0 pureP_ok
set_option maxRecDepth 1000000 in
set_option maxHeartbeats 2000000 in
theorem set_run {x y : AV} {a b : Vl} {k : Bytes} (hx : IsV x a) (hy : IsV y b) (hb : a.size < big - 1) (hr : Rising a.ks) (hlen : a.tag = 4 → a.ks.length = a.vs.length) (hn : Neat x) (hs : stripV x = x) (hs' : stripV y = y) : ∃ v, PureRun E0 19 [x, .str k, y] v ∧ GSet [x, .str k, y] v := by
  suffices H : ∃ v : AV, IsV v (setV a k b) ∧ Neat v ∧ ∀ ts, ∃ v' st1 more, b19 (Call prSet 5) 5 [x, .str k, y] (S0 ts) = some (v', st1) ∧ st1.tops = more ++ ts ∧ plainV v' = true ∧ stripV v' = v by
    obtain ⟨v, h1, h2, h3⟩ := H
    refine ⟨v, ?_, ?_⟩
    · refine pure_body e19 fn19 (by simp [plainVs, isV_plain hx, isV_plain hy, plainV]) (by simp [stripVs, stripV, hs, hs']) fun ts => ?_
      obtain ⟨v', st1, more, h4, h5, h6, h7⟩ := h3 ts
      exact ⟨prSet, 5, v', st1, more, prSet_ok, h4, h5, h6, h7⟩
    · intro x' k' y' a' b' h ha hb'
      injection h with e1 e2
      injection e2 with e2 e3
      injection e3 with e3
      injection e2 with e2
      subst e1 e2 e3
      rw [← isV_inj hx ha, ← isV_inj hy hb']
      obtain ⟨v', _, _, _, _, _, h7⟩ := h3 []
      exact ⟨h1, h2, by rw [← h7, strip_strip]⟩
  cases a with
  | mk t b1 n s ks vs f =>
  obtain ⟨K, W, rfl, hk, hw⟩ := isV_iff.1 hx
  obtain ⟨t', b1', n', s', K', W', f', rfl⟩ := isV_cells hy
  have hsz : (Vl.mk t b1 n s ks vs f).size = 1 + n.length + s.length + ksum ks + vsum vs := by simp only [Vl.size]
  have hkl := ksum_len ks
  have hvl := vsum_len vs
  have hlb : ks.length < big := by omega
  have hlk : ks.length < big - 1 := by omega
  have hlv : vs.length < big - 1 := by omega
  simp only [Vl.ks, Vl.tag, Vl.vs] at hr hlen
  by_cases ht : t = 4
  rotate_left
  · refine ⟨_, ?_, hn, fun ts => ⟨_, S0 ts, [], ?_, rfl, isV_plain hx, hs⟩⟩
    · simp only [setV, if_neg ht]; exact hx
    · have : decide (t = Int.ofNat 4) = false := by simpa using ht
      simp only [b19, x_un1, x_un0, x_hCells, x_hLoc1, x_hNth0, x_hNthS, x_hCmpI, x_iEq, this, Bool.not_false, x_hIf_t, x_hLocN, x_hCut7, x_hStLN7]
  have hlen := hlen ht
  have ht' : decide (t = Int.ofNat 4) = true := by simpa using ht
  have hsearch : ∀ st, Call prSet 5 (Fv 51) [K, .str k] st = some (found k ks, st) := fun st => search_call (by simp [prSet, prWith]) k hk hr hlb 4 st
  have p52 : prSet 52 = none := by simp [prSet, prWith, p0_52]
  have p53 : prSet 53 = none := by simp [prSet, prWith, p0_53]
  have p54 : prSet 54 = some (pInsert (Look.of Tryz.prog) 9 1 16) := by simp [prSet, prWith, p0_54]
  have p55 : prSet 55 = some (pInsert (Look.of Tryz.prog) 28 7 104) := by simp [prSet, prWith, p0_55]
  have hil := lbnd_le k ks
  rcases hk with ⟨rfl, rfl⟩ | ⟨tok, cap, rfl⟩
  · -- nothing in it
    rcases hw with ⟨rfl, rfl⟩ | ⟨tokw, capw, xs, rfl, hxs⟩
    rotate_left
    · have : vs = [] := by cases vs with
        | nil => rfl
        | cons _ _ => simp at hlen
      subst this
      have := isVL_len hxs
      have hxn : xs = [] := by cases xs with
        | nil => rfl
        | cons _ _ => simp at this
      exact absurd hxn hn.2
    refine ⟨.agg [.int .i64 t, .bool b1, .str n, .str s, .row 1 none none [.str k], .row 7 none none [.agg [.int .i64 t', .bool b1', .str n', .str s', K', W', .int .i64 f']], .int .i64 f], ?_, ⟨by simp [neatR], by simp [neatR]⟩, fun ts => ?_⟩
    · simp only [setV, if_pos ht, lbnd, List.getElem?_nil]
      rw [if_neg (by simp)]
      refine isV_iff.2 ⟨_, _, rfl, .inr ⟨none, none, rfl⟩, .inr ⟨none, none, _, rfl, ?_⟩⟩
      simp only [List.take_nil, List.drop_nil, List.nil_append, IsVL]
      exact ⟨_, [], rfl, hy, rfl⟩
    · refine ⟨.agg [.int .i64 t, .bool b1, .str n, .str s, .row 1 (some (ts.length, 0)) none [.str k], .row 7 (some (ts.length + 1, 0)) none [.agg [.int .i64 t', .bool b1', .str n', .str s', K', W', .int .i64 f']], .int .i64 f], ((S0 ts).newTop (1, 9)).newTop (1, 28), [(1, 28), (1, 9)], ?_, rfl, ?_, ?_⟩
      · simp only [b19, x_un1, x_un0, x_hCells, x_hLoc1, x_hNth0, x_hNthS, x_hCmpI, x_iEq, ht', Bool.not_true, x_hIf_f, x_hCall (hsearch (S0 ts)), found, lbnd, List.getElem?_nil, x_hExt, x_hCall (clone_nil p52 4 (S0 ts)), x_hCall (clone_nilw p53 4 (S0 ts)), x_hFrees_loc,
          x_stNils, x_stRow, x_hPut0, x_hPutS, show (none = some k) = False from by simp, decide_false, x_hVal (build1 k (S0 ts)), x_hCall (insert_nil p54 4 none (some 1) (.str k) (S0 ts)), x_hLocN, x_hCut7, x_hVal (build1w _ _ _ _ _ _ _ ((S0 ts).newTop (1, 9))), x_hCall (insert_nilw p55 4 none (some 1) _ ((S0 ts).newTop (1, 9)))]
        rw [x_hVal (freeze_rows 1 _ _ _ _ _ _ _ _ 7 _ _ _ ⟨t, rfl⟩ ⟨b1, rfl⟩ ⟨n, rfl⟩ ⟨s, rfl⟩ ⟨f, rfl⟩ _)]
        rfl
      · have := isV_plain hy
        simp [plainV, plainVs] at this ⊢
        exact this
      · simp only [stripV, stripVs] at hs' ⊢
        rw [hs']
  · -- something in it
    have hkne : ks ≠ [] := by
      have := hn.1
      intro e
      subst e
      exact this rfl
    have hkpos : 0 < ks.length := List.length_pos_iff.2 hkne
    rcases hw with ⟨rfl, rfl⟩ | ⟨tokw, capw, xs, rfl, hxs⟩
    · simp at hlen; exact absurd hlen hkne
    have hxl := isVL_len hxs
    have hxne : xs ≠ [] := by
      intro e; subst e; simp at hxl; omega
    have hgk := good_keys ks
    have hgw := good_vals hxs
    have hkm : (ks.map AV.str) ≠ [] := by simpa using hkne
    have hkml : (ks.map AV.str).length = ks.length := List.length_map _
    have hc1 := fun st => clone_row p52 4 tok cap hkm (by rw [hkml]; omega) st
    have hc2 := fun st => clone_roww p53 4 tokw capw hxne (by omega) st
    have hsK : stripVs xs = xs := by
      simp only [stripV, stripVs, AV.agg.injEq, List.cons.injEq, AV.row.injEq, true_and, and_true] at hs
      exact hs.2.2
    simp only [b19, x_un1, x_un0, x_hCells, x_hLoc1, x_hNth0, x_hNthS, x_hCmpI, x_iEq, ht', Bool.not_true, x_hIf_f, x_hCall (hsearch _), found, x_hExt, x_hCall (hc1 _), x_hCall (hc2 _), x_hFrees_loc, x_stArr, x_hPut0, x_hPutS]
    by_cases hf : ks[lbnd k ks]? = some k
    · have hi := (List.getElem?_eq_some_iff.1 hf).1
      simp only [hf, decide_true, x_hIf_t, x_hLocN, x_hCut7]
      refine ⟨.agg [.int .i64 t, .bool b1, .str n, .str s, .row 1 none none (ks.map .str), .row 7 none none (xs.set (lbnd k ks) (.agg [.int .i64 t', .bool b1', .str n', .str s', K', W', .int .i64 f'])), .int .i64 f], ?_, ⟨hkm, by simpa [neatR] using hxne⟩, fun ts => ?_⟩
      · simp only [setV, if_pos ht, if_pos hf]
        exact isV_iff.2 ⟨_, _, rfl, .inr ⟨none, none, rfl⟩, .inr ⟨none, none, _, rfl, isVL_set _ hxs hy⟩⟩
      · have hy7 : ∀ z ∈ xs, z.cells.length = 7 := fun z hz => good_len (hgw z hz)
        have hgw' : ∀ z ∈ xs.set (lbnd k ks) (.agg [.int .i64 t', .bool b1', .str n', .str s', K', W', .int .i64 f']), goodB E0.L 28 7 z = true := good_vals (isVL_set _ hxs hy)
        rw [x_hElem_a (show lbnd k ks < xs.length by omega), x_hStN7 (xs := xs) rfl hy7 (by omega)]
        have h1 := freeze_arrs 0 (ks.map AV.str).length 1 xs.length t f b1 n s (ks.map AV.str) (xs.set (lbnd k ks) (.agg [.int .i64 t', .bool b1', .str n', .str s', K', W', .int .i64 f'])) ((((S0 ts).new (.cells (flat (ks.map AV.str)))).new (.cells (flat xs))).put 1 (flat (xs.set (lbnd k ks) (.agg [.int .i64 t', .bool b1', .str n', .str s', K', W', .int .i64 f']))))
          (readRow_flat sk rfl hgk) (by
            have := readRow_flat (st := ((((S0 ts).new (.cells (flat (ks.map AV.str)))).new (.cells (flat xs))).put 1 (flat (xs.set (lbnd k ks) (.agg [.int .i64 t', .bool b1', .str n', .str s', K', W', .int .i64 f'])))).set 0 .dead) (o := 1) sw rfl hgw'
            rwa [List.length_set] at this)
        refine ⟨_, _, [], by
          rw [show ((S0 ts).new (AObj.cells (flat (List.map AV.str ks)))).nobj = 1 from rfl, show (S0 ts).nobj = 0 from rfl, x_hVal h1]
          rfl, rfl, ?_, ?_⟩
        · have h2 := isVL_plain (isVL_set (lbnd k ks) hxs hy)
          simp [plainV, plainVs, plain_keys, h2]
        · simp [stripV, stripVs, strip_keys, strips_set hsK hs']
    · simp only [hf, decide_false, x_hIf_f, x_hLocN, x_hCut7, x_hVal (build1 k _)]
      refine ⟨.agg [.int .i64 t, .bool b1, .str n, .str s, .row 1 none none ((ks.map .str).take (lbnd k ks) ++ .str k :: (ks.map .str).drop (lbnd k ks)), .row 7 none none (xs.take (lbnd k ks) ++ .agg [.int .i64 t', .bool b1', .str n', .str s', K', W', .int .i64 f'] :: xs.drop (lbnd k ks)), .int .i64 f], ?_, ⟨by simp [neatR], by simp [neatR]⟩, fun ts => ?_⟩
      · simp only [setV, if_pos ht, if_neg hf]
        exact isV_iff.2 ⟨_, _, rfl, .inr ⟨none, none, by rw [keys_take]⟩, .inr ⟨none, none, _, rfl, isVL_insert _ hxs hy⟩⟩
      · have hi1 := insert_call sk (by decide) p54 4 (o := 0) (i := lbnd k ks) (xs := ks.map AV.str) (.str k) (some 1) none (st := ((S0 ts).new (.cells (flat (ks.map AV.str)))).new (.cells (flat xs))) rfl (by omega) (by omega) hgk (good_str k)
        have hi2 := insert_call sw (by decide) p55 4 (o := 1) (i := lbnd k ks) (xs := xs) (.agg [.int .i64 t', .bool b1', .str n', .str s', K', W', .int .i64 f']) (some 1) none (st := ((((S0 ts).new (.cells (flat (ks.map AV.str)))).new (.cells (flat xs))).set 0 .dead).new .dead) rfl (by omega) (by omega) hgw (good_val hy)
        refine ⟨_, _, [], by
          rw [show ((S0 ts).new (AObj.cells (flat (List.map AV.str ks)))).nobj = 1 from rfl, show (S0 ts).nobj = 0 from rfl, x_hCall hi1]
          simp only [x_hNth0, x_hNthS, x_hVal (build1w _ _ _ _ _ _ _ _)]
          rw [x_hCall hi2]
          simp only [x_stRow, x_hPut0, x_hPutS]
          rw [x_hVal (freeze_rows 1 _ _ _ _ _ _ _ _ 7 _ _ _ ⟨t, rfl⟩ ⟨b1, rfl⟩ ⟨n, rfl⟩ ⟨s, rfl⟩ ⟨f, rfl⟩ _)]
          rfl, rfl, ?_, ?_⟩
        · have h2 := isVL_plain (isVL_insert (lbnd k ks) hxs hy)
          simp only [plainV, plainVs, keys_take, plain_keys, h2, Bool.and_self]
        · have h3 := strips_insert (lbnd k ks) (y := .str k) (strip_keys ks) rfl
          have h4 := strips_insert (lbnd k ks) hsK hs'
          simp [stripV, stripVs, h3, h4]
end Go.Sim
