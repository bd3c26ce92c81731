/- What operations answer: slices, maps, iterators. -/
import Derived.Test.YtnplidplamoejaaGreatDoorSimJ
import Derived.Lib.Strings
set_option linter.unusedVariables false
set_option linter.unusedSimpArgs false
set_option linter.unnecessarySimpa false
namespace Go.Sim
open Go.WideShapes (add_plain)

section
variable {P : Program} {g : Gh} {B : Nat → Nat} {st st' : Store} {w : World} {out : Out}

inductive OptRel (g : Gh) : Option AV → Option Value → Prop
  | none : OptRel g .none .none
  | some (x : AV) (v : Value) (h : Rep g v x) : OptRel g (.some x) (.some v)
theorem bound_run {v : Value} {x : AV} {d n k : Nat} (code : BoundsCode) (h : bnd (some x) d n = some k) (hx : Rep g v x) : (Instr.sliceBound v n code).run P w = .ok k w ∧ k ≤ n := by
  unfold bnd at h
  split at h
  · rename_i e; cases e
  · rename_i kk i e
    injection e with e; subst e
    split at h
    · rename_i hc
      injection h with h; subst h
      cases hx
      exact ⟨by simp [Instr.sliceBound, asIntOf, hc.1, hc.2], by omega⟩
    · cases h
  · cases h
theorem bounds_some {lo hi : Option AV} {len m l h : Nat} (e : bounds lo hi len m = some (l, h)) : bnd hi len m = some h ∧ bnd lo 0 h = some l := by
  unfold bounds at e
  split at e
  · rename_i h' hh
    split at e
    · rename_i l' hl
      simp only [Option.some.injEq, Prod.mk.injEq] at e
      obtain ⟨rfl, rfl⟩ := e
      exact ⟨hh, hl⟩
    · cases e
  · cases e
theorem bnd_some_le {x : AV} {d n k : Nat} (h : bnd (some x) d n = some k) : k ≤ n := by
  unfold bnd at h
  split at h
  · rename_i e; cases e
  · split at h
    · injection h with h; omega
    · cases h
  · cases h
/-- the bounds, as the machine reckons them: mc: the most, cap or what is told -/
theorem sliceBounds_run {isSlice : Bool} {len cap mc mb l h : Nat} {lo hi mx : Option AV} {clo chi cmx : Option Value} (hlo : OptRel g lo clo) (hhi : OptRel g hi chi) (hmx : OptRel g mx cmx)
    (hm : (mx = none ∧ mc = cap) ∨ ∃ v, mx = some v ∧ bnd (some v) 0 cap = some mc) (hno : ¬ (mx.isSome = true ∧ hi.isNone = true)) (hb : bounds lo hi len mb = some (l, h)) (hle : mb ≤ mc) (hlen : hi = none → len ≤ mb) :
    (Instr.sliceBounds isSlice len cap clo chi cmx).run P w = .ok (l, h, mc) w ∧ l ≤ h ∧ h ≤ mb := by
  obtain ⟨h1, h2⟩ := bounds_some hb
  have hl : l ≤ h := by
    cases hlo with
    | none => simp [bnd] at h2; omega
    | some x v hv => exact bnd_some_le h2
  have hh : h ≤ mb := by
    cases hhi with
    | none => have := hlen rfl; simp [bnd] at h1; omega
    | some x v hv => exact bnd_some_le h1
  have widen : ∀ {x : AV} {d n n' k : Nat}, bnd (some x) d n = some k → n ≤ n' → bnd (some x) d n' = some k := by
    intro x d n n' k h hn
    unfold bnd at h ⊢
    split at h
    · rename_i e; cases e
    · rename_i e
      injection e with e; subst e
      split at h
      · rw [if_pos (by omega)]; exact h
      · cases h
    · cases h
  have rl : ∀ code, (match clo with
      | some v => Instr.sliceBound v h code
      | none => pure 0 : Sem Nat).run P w = .ok l w := by
    intro code
    cases hlo with
    | none => simp [bnd] at h2; subst h2; rfl
    | some x v hv => exact (bound_run code h2 hv).1
  refine ⟨?_, hl, hh⟩
  cases hmx with
  | none =>
    rcases hm with ⟨_, rfl⟩ | ⟨v, e, _⟩
    · cases hhi with
      | none =>
        simp [bnd] at h1; subst h1
        simp only [Instr.sliceBounds, Sem.run_bind, Sem.run_pure, Result.andThen_ok]
        cases hlo with
        | none => simp [bnd] at h2; subst h2; rfl
        | some x v hv => simp [(bound_run _ h2 hv).1]
      | some x v hv =>
        have := (bound_run (P := P) (w := w) (if isSlice then BoundsCode.sliceAcap else .sliceAlen) (widen h1 hle) hv).1
        simp only [Instr.sliceBounds, Sem.run_bind, Sem.run_pure, Result.andThen_ok, this]
        cases hlo with
        | none => simp [bnd] at h2; subst h2; rfl
        | some x v hv => simp [(bound_run _ h2 hv).1]
    · cases e
  | some xm vm hvm =>
    rcases hm with ⟨e, _⟩ | ⟨v, e, hmc⟩
    · cases e
    · injection e with e; subst e
      cases hhi with
      | none => exact absurd ⟨rfl, rfl⟩ hno
      | some x v hv =>
        have a1 := (bound_run (P := P) (w := w) (if isSlice then BoundsCode.slice3Acap else .slice3Alen) hmc hvm).1
        have a2 := (bound_run (P := P) (w := w) BoundsCode.slice3B (widen h1 hle) hv).1
        simp only [Instr.sliceBounds, Sem.run_bind, Sem.run_pure, Result.andThen_ok, a1, a2]
        cases hlo with
        | none => simp [bnd] at h2; subst h2; rfl
        | some x v hv => simp [(bound_run _ h2 hv).1]
/-- the most, as it is told and as it is -/
theorem capOf_ok {mx : Option AV} {len c : Nat} {cap m : Option Nat} (h : capOf mx len cap = some m) (hc : len ≤ c) (hcap : ∀ n, cap = some n → n = c) :
    ∃ mc, ((mx = none ∧ mc = c) ∨ ∃ v, mx = some v ∧ bnd (some v) 0 c = some mc) ∧ (∀ n, m = some n → n = mc) ∧ (m = none → mc = c ∧ cap = none) ∧ mc ≤ c := by
  unfold capOf at h
  split at h
  · injection h with h; subst h
    exact ⟨c, .inl ⟨rfl, rfl⟩, hcap, fun h => ⟨rfl, h⟩, Nat.le_refl _⟩
  · rename_i v
    split at h
    · rename_i n hn
      injection h with h; subst h
      have hle := bnd_some_le hn
      have hcc : cap.getD len ≤ c := by
        cases cap with
        | none => exact hc
        | some n' => have := hcap n' rfl; simp; omega
      refine ⟨n, .inr ⟨v, rfl, ?_⟩, fun k hk => (by injection hk with hk; exact hk.symm), fun h => (by cases h), (by omega)⟩
      unfold bnd at hn ⊢
      split at hn
      · rename_i e; cases e
      · rename_i e; injection e with e; subst e
        split at hn
        · rw [if_pos (by omega)]; exact hn
        · cases hn
      · cases hn
    · cases h
theorem _root_.Go.Sim.LiveA.le {b o n m : Nat} (h : LiveA g b o n) (hm : m ≤ n) : LiveA g b o m := h.imp id fun ⟨t, h1, h2⟩ => ⟨t, h1, Nat.le_trans hm h2⟩
theorem sliceArr_ok {sz o off len c b : Nat} {cap : Option Nat} {lo hi mx : Option AV} {clo chi cmx : Option Value} {z : AV} {isSlice : Bool} (h : sliceArr sz o off len cap lo hi mx = some z) (hlo : OptRel g lo clo) (hhi : OptRel g hi chi) (hmx : OptRel g mx cmx)
    (hno : ¬ (mx.isSome = true ∧ hi.isNone = true)) (hl : LiveA g b o (off + c * sz)) (hz : 0 < sz) (hc : len ≤ c) (hcap : ∀ n, cap = some n → n = c) :
    ∃ l h m, (Instr.sliceBounds isSlice len c clo chi cmx).run P w = .ok (l, h, m) w ∧ Rep g (.slice (some (if m = l then ⟨b, off, none⟩ else ⟨b, off + l * sz, none⟩)) (h - l) (m - l)) z := by
  unfold sliceArr at h
  split at h
  · rename_i m hm
    obtain ⟨mc, h1, h2, h3, h4⟩ := capOf_ok hm hc hcap
    split at h
    · rename_i l hh hb
      have hmle : m.getD len ≤ mc := by
        cases m with
        | none => have := (h3 rfl).1; simp; omega
        | some n => have := h2 n rfl; simp; omega
      -- the length may be more than what it may be cut up to, if that is told
      have hcase : len ≤ m.getD len ∨ ∃ x, hi = some x := by
        cases hi with
        | some x => exact .inr ⟨x, rfl⟩
        | none =>
          left
          cases hmx with
          | none =>
            cases m with
            | none => simp
            | some n =>
              have hq : cap = some n := by simpa [capOf] using hm
              have := hcap n hq
              simp; omega
          | some x v hv => exact absurd ⟨rfl, rfl⟩ hno
      obtain ⟨r1, r2, r3⟩ := sliceBounds_run (P := P) (w := w) (isSlice := isSlice) hlo hhi hmx h1 hno hb hmle (fun e => by
        rcases hcase with hq | ⟨x, hx⟩
        · exact hq
        · rw [hx] at e; cases e)
      refine ⟨l, hh, mc, r1, ?_⟩
      split at h
      · rename_i e
        injection h with h; subst h
        have := h2 l e
        subst this
        rw [if_pos rfl]
        exact .arr _ _ _ _ _ _ _ (hl.le (by simp)) (by omega) hz (fun n hn => by injection hn with hn; omega)
      · rename_i e
        split at h
        · cases h
        · rename_i e2
          injection h with h; subst h
          have hne : mc ≠ l ∨ l = 0 := by
            cases m with
            | none =>
              have h5 := (h3 rfl).1
              simp at r3
              rcases Nat.eq_zero_or_pos l with q | q
              · exact .inr q
              · left
                intro q2
                exact e2 ⟨rfl, by omega, q⟩
            | some n => left; intro q; exact e (by rw [h2 n rfl, q])
          have haddr : (if mc = l then (⟨b, off, none⟩ : Addr) else ⟨b, off + l * sz, none⟩) = ⟨b, off + l * sz, none⟩ := by
            split
            · rename_i q
              rcases hne with h | h
              · exact absurd q h
              · subst h; simp
            · rfl
          rw [haddr]
          refine .arr _ _ _ _ _ _ _ (hl.le ?_) (by omega) hz (fun n hn => ?_)
          · have e : off + l * sz + (mc - l) * sz = off + mc * sz := by
              rw [Nat.add_assoc, ← Nat.add_mul]
              congr 2
              omega
            rw [e]
            exact Nat.add_le_add_left (Nat.mul_le_mul_right sz h4) off
          cases m with
          | none => cases hn
          | some k => simp at hn; have := h2 k rfl; omega
    · cases h
  · cases h
theorem sliceRow_ok {sz o c b : Nat} {tok : Option (Nat × Nat)} {cap : Option Nat} {xs : List AV} {vs : List Value} {lo hi mx : Option AV} {clo chi cmx : Option Value} {z : AV} {isSlice : Bool} (h : sliceRow sz tok cap xs lo hi mx = some z) (hlo : OptRel g lo clo) (hhi : OptRel g hi chi) (hmx : OptRel g mx cmx)
    (hno : ¬ (mx.isSome = true ∧ hi.isNone = true)) (hm : Imm g b o vs) (he : RepE g sz vs xs) (hc : xs.length ≤ c) (hz : 0 < sz) (hcap : ∀ n, cap = some n → n = c)
    (ht : ∀ t off, tok = some (t, off) → c = 0 ∨ ∃ start tot cs, g.blk b = some (.row t start sz tot cs) ∧ start ≤ off ∧ o = (off - start) * sz ∧ o + xs.length * sz ≤ cs.length ∧ o + c * sz ≤ tot) :
    ∃ l h m, (Instr.sliceBounds isSlice xs.length c clo chi cmx).run P w = .ok (l, h, m) w ∧ Rep g (.slice (some (if m = l then ⟨b, o, none⟩ else ⟨b, o + l * sz, none⟩)) (h - l) (m - l)) z := by
  unfold sliceRow at h
  split at h
  · rename_i m hmm
    obtain ⟨mc, h1, h2, h3, h4⟩ := capOf_ok hmm hc hcap
    split at h
    · rename_i l hh hb
      injection h with h; subst h
      have hmle : min xs.length (m.getD xs.length) ≤ mc := by
        cases m with
        | none => have := (h3 rfl).1; simp; omega
        | some n => have := h2 n rfl; simp; omega
      obtain ⟨r1, r2, r3⟩ := sliceBounds_run (P := P) (w := w) (isSlice := isSlice) hlo hhi hmx h1 hno hb hmle (fun e => by
        subst e
        cases hmx with
        | none =>
          cases m with
          | none => simp
          | some n =>
            have hq : cap = some n := by simpa [capOf] using hmm
            have := hcap n hq
            simp; omega
        | some x v hv => exact absurd ⟨rfl, rfl⟩ hno)
      refine ⟨l, hh, mc, r1, ?_⟩
      have hlen : ((xs.drop l).take (hh - l)).length = hh - l := by rw [List.length_take, List.length_drop]; omega
      have hE := (he.drop l).take (hh - l)
      have hI := hm.sub (l * sz) ((hh - l) * sz)
      have hcap' : ∀ n, (match m with | some c => some (c - l) | none => none) = some n → n = mc - l := by
        intro n hn
        cases m with
        | none => cases hn
        | some k => simp at hn; have := h2 k rfl; omega
      split
      · rename_i e
        subst e
        have h0 : hh - mc = 0 := by omega
        rw [h0] at hE hI
        simp only [Nat.zero_mul, List.take_zero] at hE hI
        rw [h0]
        refine .row b o 0 (mc - mc) sz _ _ _ [] (Imm.nil g b o) (by simpa using hE) rfl (by omega) hz hcap' (fun t off hto => .inl (by omega))
      · rename_i e
        refine .row b (o + l * sz) (hh - l) (mc - l) sz _ _ _ _ hI hE hlen (by omega) hz hcap' (fun t off hto => ?_)
        cases tok with
        | none => cases hto
        | some p =>
          obtain ⟨t', p'⟩ := p
          simp only [Option.some.injEq, Prod.mk.injEq] at hto
          obtain ⟨rfl, rfl⟩ := hto
          rcases ht _ _ rfl with h0 | ⟨s, tot, cs, q1, q2, q3, q4, q5⟩
          · exact .inl (by omega)
          · refine .inr ⟨s, tot, cs, q1, by omega, ?_, ?_, ?_⟩
            · rw [q3, ← Nat.add_mul]
              congr 1
              omega
            · have e : o + l * sz + (hh - l) * sz = o + hh * sz := by
                rw [Nat.add_assoc, ← Nat.add_mul]
                congr 2
                omega
              rw [e]
              have : hh ≤ xs.length := by omega
              exact Nat.le_trans (Nat.add_le_add_left (Nat.mul_le_mul_right sz this) o) q4
            · have e : o + l * sz + (mc - l) * sz = o + mc * sz := by
                rw [Nat.add_assoc, ← Nat.add_mul]
                congr 2
                omega
              rw [e]
              exact Nat.le_trans (Nat.add_le_add_left (Nat.mul_le_mul_right sz h4) o) q5
    · cases h
  · cases h
theorem run_size_elem {t e sz : Nat} (h : elemT P t = some e) (hsz : sizeT P e = some sz) {isx : Value} {a : Option Addr} {n c l h' m : Nat} {clo chi cmx : Option Value} (w : World)
    (hr : (Instr.sliceBounds true n c clo chi cmx).run P w = .ok (l, h', m) w) :
    (Instr.sliceAt t (.slice a n c) clo chi cmx).run P w = .ok (.slice (if m = l then a else a.map (·.add (l * sz))) (h' - l) (m - l)) w := by
  have hu := elemT_some (P := P) h
  simp [Instr.sliceAt, underlying, show P.underlying _ = _ from hu, Instr.slice, hr, run_sizeOf hsz]
theorem sliceV_ok {t : Nat} {x z : AV} {a : Value} {lo hi mx : Option AV} {clo chi cmx : Option Value} (h : sliceV P t st x lo hi mx = some z) (hx : Rep g a x) (hinv : Inv g st w) (hlo : OptRel g lo clo) (hhi : OptRel g hi chi) (hmx : OptRel g mx cmx)
    (hno : ¬ (mx.isSome = true ∧ hi.isNone = true)) : RunsTo P g w (Instr.sliceAt t a clo chi cmx) z := by
  cases hx with
  | str s =>
    simp only [sliceV] at h
    split at h
    · rename_i hu
      split at h
      · cases h
      · unfold sliceStr at h
        split at h
        · rename_i l hh hb
          injection h with h; subst h
          cases hmx with
          | none =>
            obtain ⟨r1, r2, r3⟩ := sliceBounds_run (P := P) (w := w) (isSlice := false) (cap := s.size) hlo hhi .none (.inl ⟨rfl, rfl⟩) (by simp) hb (Nat.le_refl _) (fun _ => Nat.le_refl _)
            have hs : s.data.toList.length = s.size := rfl
            rw [hs] at r1
            refine .mk (v := .string (s.extract l hh)) (by simp [Instr.sliceAt, underlying, show P.underlying _ = _ from hu, Instr.slice, r1]) ?_
            rw [← Lib.extract_data]
            exact .str _
        · cases h
    · cases h
  | nils =>
    simp only [sliceV] at h
    split at h
    · rename_i e he
      have hu := elemT_some he
      split at h
      · rename_i sz hsz
        split at h
        · rename_i m hm
          split at h
          · rename_i p hb
            injection h with h; subst h
            obtain ⟨l, hh⟩ := p
            obtain ⟨mc, h1, h2, h3, h4⟩ := capOf_ok hm (Nat.le_refl 0) (fun n hn => by injection hn with hn; exact hn.symm)
            have hm0 : m.getD 0 ≤ 0 := by
              cases m with
              | none => simp
              | some n => have := h2 n rfl; simp; omega
            obtain ⟨r1, r2, r3⟩ := sliceBounds_run (P := P) (w := w) (isSlice := true) hlo hhi hmx h1 hno hb (by omega) (fun _ => Nat.zero_le _)
            have e1 : mc = 0 := by omega
            have e2 : l = 0 := by omega
            have e3 : hh = 0 := by omega
            subst e1 e2 e3
            exact .mk (v := .slice none 0 0) (by rw [run_size_elem he hsz (isx := .nilFunc) w r1]; simp) .nils
          · cases h
        · cases h
      · cases h
    · cases h
  | row b o n c sz tok cap xs vs hm he hn hc hz hcap ht =>
    simp only [sliceV] at h
    split at h
    · rename_i e hel
      split at h
      · rename_i hsz
        subst hn
        obtain ⟨l, hh, m, r1, r2⟩ := sliceRow_ok (P := P) (w := w) (isSlice := true) h hlo hhi hmx hno hm he hc hz hcap ht
        refine .mk ?_ r2
        rw [run_size_elem hel hsz (isx := .nilFunc) w r1]
        congr 2
        split <;> simp [add_plain]
      · cases h
    · cases h
  | arr b off o len c sz cap hl hc hz hcap =>
    simp only [sliceV] at h
    split at h
    · rename_i e hel
      split at h
      · rename_i hsz
        obtain ⟨l, hh, m, r1, r2⟩ := sliceArr_ok (P := P) (w := w) (isSlice := true) h hlo hhi hmx hno hl hz hc hcap
        refine .mk ?_ r2
        rw [run_size_elem hel hsz (isx := .nilFunc) w r1]
        congr 2
        split <;> simp [add_plain]
      · cases h
    · cases h
  | ptr b off o hl =>
    simp only [sliceV] at h
    split at h
    · rename_i n e hu
      split at h
      · rename_i sz hsz
        split at h
        · rename_i cs hg
          split at h
          · rename_i hle
            obtain ⟨tot, hb, _, c2, e2, fr, vs, rest, k1, k2, k3, k4, k5, k6⟩ := hinv.cellsAt hl hg
            have hcl := k3.length
            have hct : c2.size = vs.length + rest.length := by rw [← Array.length_toList, k2, List.length_append]
            obtain ⟨l, hh, m, r1, r2⟩ := sliceArr_ok (P := P) (w := w) (isSlice := false) h hlo hhi hmx hno (.inr ⟨tot, hb, by omega⟩ : LiveA g b o (off + n * sz)) hle.1 (Nat.le_refl n) (fun k hk => by injection hk with hk; exact hk.symm)
            refine .mk ?_ r2
            simp [Instr.sliceAt, underlying, show P.underlying _ = _ from hu, Instr.sureAddr, r1, run_sizeOf hsz, add_plain]
          · cases h
        · cases h
      · cases h
    · cases h
  | _ => simp [sliceV] at h
theorem takeO_ok {o : Option Operand} {ρ : Operand → Value} {ins r : List In} {x : Option AV} {rest : List Value} (h : takeO o ins = some (x, r)) (hin : InsRel g B w ins ((o.map ρ).toList ++ rest)) : OptRel g x (o.map ρ) ∧ InsRel g B w r rest := by
  cases o with
  | none =>
    simp only [takeO, Option.some.injEq, Prod.mk.injEq] at h
    obtain ⟨rfl, rfl⟩ := h
    exact ⟨.none, by simpa using hin⟩
  | some o =>
    simp only [Option.map_some, Option.toList_some, List.singleton_append] at hin
    match ins, hin with
    | .val v :: r', .cons _ _ _ _ hv hs =>
      simp only [takeO, Option.some.injEq, Prod.mk.injEq] at h
      obtain ⟨rfl, rfl⟩ := h
      exact ⟨.some _ _ hv, hs⟩
    | .loc .. :: r', _ => simp [takeO] at h
theorem aSlice_ok {t : Nat} {lo hi' mx : Option Operand} {ρ : Operand → Value} {ins : List In} {a : Value} (h : aSlice P t lo hi' mx ins st = some (out, st'))
    (hin : InsRel g B w ins (a :: ((lo.map ρ).toList ++ ((hi'.map ρ).toList ++ ((mx.map ρ).toList ++ []))))) (hi : Inv g st w) : ValOk g B P st' w out (Instr.sliceAt t a (lo.map ρ) (hi'.map ρ) (mx.map ρ)) := by
  match ins, hin with
  | .val x :: r, .cons _ _ _ _ hx hs =>
    simp only [aSlice] at h
    split at h
    · cases h
    · rename_i hno
      split at h
      · rename_i l r1 h1
        obtain ⟨o1, s1⟩ := takeO_ok h1 hs
        split at h
        · rename_i hh r2 h2
          obtain ⟨o2, s2⟩ := takeO_ok h2 s1
          split at h
          · rename_i m h3
            obtain ⟨o3, s3⟩ := takeO_ok h3 s2
            split at h
            · rename_i v hv
              simp only [Option.some.injEq, Prod.mk.injEq] at h
              obtain ⟨rfl, rfl⟩ := h
              refine RunsTo.ok hi (sliceV_ok hv hx hi o1 o2 o3 ?_)
              rintro ⟨q1, q2⟩
              refine hno ⟨?_, ?_⟩
              · cases mx with
                | none => cases o3; cases q1
                | some _ => rfl
              · cases hi' with
                | none => rfl
                | some _ => cases o2; cases q2
            · cases h
          · cases h
        · cases h
      · cases h
  | .loc .. :: r, _ => simp [aSlice] at h
end
end Go.Sim
