/- What operations answer: append and copy, put together; all operations that call no function. -/
import Derived.Test.YtnplidplamoejaaGreatDoorSimQ
set_option linter.unusedVariables false
set_option linter.unusedSimpArgs false
set_option linter.unnecessarySimpa false
namespace Go.Sim
open Go.WideShapes (add_plain)

section
variable {P : Program} {g : Gh} {B : Nat → Nat} {st st' : Store} {w : World} {out : Out}

/-- What is read of a slice or a text. -/
theorem src_ok {e sz : Nat} {v : Value} {x : AV} {ys : List AV} (h : readRow P e st x = some ys) (hsz : sizeT P e = some sz) (hr : Rep g v x) (hi : Inv g st w) :
    ∃ vs, RepE g sz vs ys ∧ (∀ m, m ≤ ys.length → (Builtin.firstCells sz m v).run P w = .ok (vs.take (m * sz)).toArray w) ∧ (Builtin.lenOf v).run P w = .ok ys.length w ∧
      ∀ t1 e1, (P.underlying t1 = some (.slice e1) ∨ P.underlying t1 = some .string) → AppSrc P w t1 e sz v ys.length vs := by
  by_cases hs : ∃ s, x = .str s
  · obtain ⟨s, rfl⟩ := hs
    cases hr with
    | str s =>
      simp only [readRow] at h
      split at h
      · rename_i h1
        injection h with h; subst h
        rw [hsz] at h1; injection h1 with h1; subst h1
        refine ⟨_, bytesV_repE _, fun m hm => ?_, ?_, fun t1 e1 hd => ?_⟩
        · simp only [Builtin.firstCells, Sem.run_pure]
          congr 1
          apply Array.ext'
          simp [bytesV] at hm
          simp [ByteArray.data_extract]
        · simp [Builtin.lenOf, bytesV]
        · have := AppSrc.str (P := P) (w := w) (e := e) (sz := 1) e1 hd s rfl
          simpa [bytesV] using this
      · cases h
  · obtain ⟨sz', hz⟩ := readRow_ok h hr hi (fun s hx => hs ⟨s, hx⟩)
    rcases hz with ⟨hsz', ⟨a, c, rfl, hc, vs, he, hv⟩⟩ | ⟨rfl, rfl⟩
    · rw [hsz] at hsz'; injection hsz' with hsz'; subst hsz'
      have hvl := he.length
      refine ⟨vs, he, fun m hm => ?_, by simp [Builtin.lenOf], fun t1 e1 hd => .slice e1 hd _ _ _ _ hvl ?_⟩
      · rcases hv with rfl | ⟨b, o, rfl, hv⟩
        · simp at hm; subst hm
          simpa using firstCells_none (P := P) sz 0 w a c
        · have hl : (vs.take (m * sz)).length = m * sz := by
            rw [List.length_take, hvl]
            exact Nat.min_eq_left (Nat.mul_le_mul_right _ hm)
          refine run_firstCells_some w sz m ⟨b, o, none⟩ _ c _ hl (fun j u hj => ?_)
          rw [List.getElem?_take] at hj
          split at hj
          · simpa [add_plain] using hv j u hj
          · cases hj
      · rcases hv with rfl | ⟨b, o, rfl, hv⟩
        · exact .inl ⟨by simpa using hvl, rfl⟩
        · exact .inr ⟨b, o, rfl, hv⟩
    · cases hr with
      | nils => exact ⟨[], .nil _, fun m hm => by simp at hm; subst hm; simpa using firstCells_none (P := P) sz 0 w none 0, by simp [Builtin.lenOf], fun t1 e1 hd => .slice e1 hd _ _ _ _ (by simp) (.inl ⟨rfl, rfl⟩)⟩

theorem appendV_ok {ts : Array TypeId} {t t1 e ty md : Nat} (h0 : ts[0]? = some t) (h1 : ts[1]? = some t1) (ht : P.underlying t = some (.slice e)) (hi : Inv g st w) {s x : Value} {sx x' : AV} {new : List AV} (hr : Rep g s sx)
    (hsrc : ∀ sz, sizeT P e = some sz → ∃ us, AppSrc P w t1 e sz x new.length us ∧ RepE g sz us new) (h : appendV P md e sx new st = some (x', st')) : AppOk P g st' w x' (Builtin.append_ ts ty #[s, x]) := by
  unfold appendV at h
  split at h
  · rename_i by_ hby
    split at h
    · rename_i sz hsz
      split at h
      · rename_i z hz
        split at h
        · rename_i hcond
          obtain ⟨hzl, hzp⟩ := hcond
          obtain ⟨i, zv, k1, k2, k3, k4⟩ := zeroT_ok hz
          obtain ⟨r1, r1'⟩ := Rep.cells (k3 g) k4
          have A : AppIn P ts t t1 e sz by_ i zv := ⟨h0, h1, ht, k1, by obtain ⟨i', hi', rfl⟩ := sizeT_some hsz; rw [k1] at hi'; injection hi' with hi'; subst hi'; rfl, by
            unfold bytesT at hby; simp only [Look.of] at hby; rw [k1] at hby; exact Option.some.inj hby, k2, by have := r1.length; simp at this; omega, hzp, r1'⟩
          obtain ⟨us, hs, hu⟩ := hsrc sz hsz
          split at h
          · rename_i xs hrd
            by_cases hem : new = []
            · subst hem
              have hus : us = [] := by have := hu.length; simpa using this
              subst hus
              simp only [List.isEmpty_nil, if_true] at h
              have fin : ∀ (base : Option Addr) (len cap : Nat), len ≤ cap → (Builtin.append_ ts ty #[.slice base len cap, x]).run P w = .ok (.slice base len cap) w := by
                intro base len cap hle
                have := app_in (ty := ty) h0 h1 ht hsz hzp hs base len cap hle
                cases base <;> simpa [storeCells] using this
              cases hr with
              | nils =>
                simp only [Option.some.injEq, Prod.mk.injEq] at h
                obtain ⟨rfl, rfl⟩ := h
                exact ⟨_, w, fin none 0 0 (Nat.le_refl _), g, Adv.refl g w, hi, .nils⟩
              | row b o n c sz' tok cap xs' vs hv he hn hc hz hcap htk =>
                simp only [Option.some.injEq, Prod.mk.injEq] at h
                obtain ⟨rfl, rfl⟩ := h
                exact ⟨_, w, fin _ n c hc, g, Adv.refl g w, hi, .row b o n c sz' tok cap xs' vs hv he hn hc hz hcap htk⟩
              | arr b off o len c sz' cap hl hc hz hcap =>
                simp only [Option.some.injEq, Prod.mk.injEq] at h
                obtain ⟨rfl, rfl⟩ := h
                exact ⟨_, w, fin _ len c hc, g, Adv.refl g w, hi, .arr b off o len c sz' cap hl hc hz hcap⟩
              | str s => cases h
              | _ => simp [readRow] at hrd
            · have hne : 0 < new.length := List.length_pos_iff.2 hem
              have hem' : new.isEmpty = false := by simpa using hem
              rw [hem'] at h
              simp only [Bool.false_eq_true, if_false] at h
              cases hr with
              | nils =>
                exact app_fresh (olds := []) (vs := []) A hi hs hu (.nil _) rfl (fun w' _ => firstCells_none _ _ _ _ _) (by simpa using hne) (by simpa using h)
              | row b o n c sz' tok cap xs' vs hv he hn hc hz hcap htk =>
                simp only [readRow] at hrd
                split at hrd
                · rename_i hszz
                  rw [hsz] at hszz; injection hszz with hszz; subst hszz
                  exact appendRow_ok A hi hs hu hne (.row b o n c sz tok cap xs' vs hv he hn hc hz hcap htk) h
                · cases hrd
              | arr b off o len c sz' cap hl hc hz hcap =>
                have hszz := (readRow_arr hrd hl hi).1
                rw [hsz] at hszz; injection hszz with hszz; subst hszz
                exact appendArr_ok A hi hs hu hne (.arr b off o len c sz cap hl hc hz hcap) hrd h
              | _ => cases h
          · cases h
        · cases h
      · cases h
    · cases h
  · cases h
theorem AppOk.val {x' : AV} {s : Sem Value} (h : AppOk P g st' w x' s) : ValOk g B P st' w (.val x') s := let ⟨v, w', h1, h2⟩ := h; ⟨v, w', h1, h2⟩
theorem aAppend_ok {ts : Array TypeId} {t t1 ty md : Nat} {ins : List In} {a b : Value} (h0 : ts[0]? = some t) (h1 : ts[1]? = some t1) (h : aAppend P md t t1 ins st = some (out, st')) (hin : InsRel g B w ins [a, b]) (hi : Inv g st w) : ValOk g B P st' w out (Builtin.append_ ts ty #[a, b]) := by
  match ins, hin with
  | [.val s, .val x], .cons _ _ _ _ hs (.cons _ _ _ _ hx .nil) =>
    simp only [aAppend] at h
    split at h
    · rename_i e hel
      have hu := elemT_some (P := P) hel
      have fin : ∀ xs, ansV (appendV P md e s xs st) = some (out, st') → (∀ sz, sizeT P e = some sz → ∃ us, AppSrc P w t1 e sz b xs.length us ∧ RepE g sz us xs) → ValOk g B P st' w out (Builtin.append_ ts ty #[a, b]) := by
        intro xs hx hsrc
        cases hr : appendV P md e s xs st with
        | none => simp [hr, ansV] at hx
        | some r =>
          simp only [hr, ansV, Option.some.injEq, Prod.mk.injEq] at hx
          obtain ⟨rfl, rfl⟩ := hx
          exact (appendV_ok h0 h1 hu hi hs hsrc hr).val
      split at h
      · rename_i hint
        split at h
        · rename_i xs hz
          refine fin xs h (fun sz hsz => ?_)
          cases hx with
          | int k n =>
            simp only [zerosV] at hz
            split at hz
            · rename_i sz' hsz'
              rw [hsz] at hsz'; injection hsz' with hsz'; subst hsz'
              split at hz
              · rename_i by_ hby
                split at hz
                · rename_i z hzt
                  obtain ⟨i, zv, k1, k2, k3, k4⟩ := zeroT_ok hzt
                  split at hz
                  · rename_i hc
                    obtain ⟨c1, c2, c3, c4⟩ := hc
                    injection hz with hz; subst hz
                    obtain ⟨z1, z2⟩ := zeros_ok (e := e) k3 k4 c4 n.toNat g
                    have hib : i.bytes = by_ := by
                      unfold bytesT at hby
                      simp only [Look.of] at hby
                      rw [k1] at hby
                      exact Option.some.inj hby
                    unfold isIntT at hint
                    split at hint
                    · rename_i k' hk'
                      refine ⟨_, ?_, z2⟩
                      have := AppSrc.zeros (P := P) (w := w) (t1 := t1) (e := e) (sz := sz) k' k hk' n.toNat (by omega) i k1 (by rw [hib]; exact c3) zv k2 z1
                      rw [Int.toNat_of_nonneg c1] at this
                      simpa using this
                    · cases hint
                    · cases hint
                    · cases hint
                  · cases hz
                · cases hz
              · cases hz
            · cases hz
          | _ => simp [zerosV] at hz
        · cases h
      · rename_i hint
        split at h
        · rename_i xs hrd
          refine fin xs h (fun sz hsz => ?_)
          obtain ⟨vs, q1, _, _, q2⟩ := src_ok hrd hsz hx hi
          refine ⟨vs, ?_, q1⟩
          unfold isIntT at hint
          split at hint
          · cases hint
          · rename_i e1 he1; exact q2 t1 e1 (.inl he1)
          · rename_i he1; exact q2 t1 0 (.inr he1)
          · cases hint
        · cases h
      · cases h
    · cases h
  | [.val _, .loc ..], _ => simp [aAppend] at h
  | [.loc .., _], _ => simp [aAppend] at h

theorem copyV_ok {ts : Array TypeId} {t e ty sz : Nat} (h0 : ts[0]? = some t) (ht : P.underlying t = some (.slice e)) (hsz : sizeT P e = some sz) (hi : Inv g st w) {d x : Value} {dx x' sx : AV} {src : List AV} (hd : Rep g d dx) (hx : Rep g x sx) (hrd : readRow P e st sx = some src)
    (hes : ∀ s o off len cap, dx = .arr s o off len cap → s = sz) (h : copyV dx src st = some (x', st')) : AppOk P g st' w x' (Builtin.copy_ ts ty #[d, x]) := by
  obtain ⟨vs, he, hf, hl, _⟩ := src_ok hrd hsz hx hi
  have hsz' := run_sizeOf hsz
  have none_ : ∀ (base : Option Addr) (len cap : Nat), min src.length len = 0 → (Builtin.copy_ ts ty #[.slice base len cap, x]).run P w = .ok (.int .i64 0) w := by
    intro base len cap h0'
    have hf0 : (Builtin.firstCells sz 0 x).run P w = .ok #[] w := by simpa using hf 0 (Nat.zero_le _)
    have h0'' : Nat.min src.length len = 0 := h0'
    cases base <;> simp [Builtin.copy_, h0, run_underlying ht, hl, hsz', h0'', storeCells, goInt, hf0]
  cases hd with
  | nils =>
    simp only [copyV, Option.some.injEq, Prod.mk.injEq] at h
    obtain ⟨rfl, rfl⟩ := h
    exact ⟨_, w, none_ none 0 0 (by simp), g, Adv.refl g w, hi, .int _ _⟩
  | row b o n c sz' tok cap xs vs' hv he' hn hc hz hcap ht' =>
    simp only [copyV] at h
    split at h
    · rename_i h0'
      simp only [Option.some.injEq, Prod.mk.injEq] at h
      obtain ⟨rfl, rfl⟩ := h
      rw [hn] at h0'
      exact ⟨_, w, none_ _ n c h0', g, Adv.refl g w, hi, .int _ _⟩
    · cases h
  | arr b off o len c sz' cap hla hc hz hcap =>
    have := hes _ _ _ _ _ rfl; subst this
    simp only [copyV] at h
    split at h
    · rename_i cs hg
      split at h
      · rename_i cs' hsp
        simp only [Option.some.injEq, Prod.mk.injEq] at h
        obtain ⟨rfl, rfl⟩ := h
        obtain ⟨tot, hb, hn, c2, e2, fr, vs2, rest, h1, h2, h3, h4, h5, h6⟩ := hi.cellsAt hla hg
        obtain ⟨h8, rfl⟩ := splice_some hsp
        have hm : min src.length len ≤ src.length := Nat.min_le_left _ _
        have htk : src.take len = src.take (min src.length len) := by
          rw [Nat.min_comm, List.take_eq_take_iff]; omega
        have hus := he.take (min src.length len)
        rw [← htk] at hus
        obtain ⟨f1, f2, f3⟩ := hus.flat'
        have hfl := f1.length
        have hlv := h3.length
        have hcs : c2.size = (vs2 ++ rest).length := by rw [← Array.length_toList, h2]
        simp only [List.length_append] at hcs
        obtain ⟨w', c3, k1, k2, k3⟩ := store_run (P := P) b off e2 fr (vs.take (min src.length len * sz')) 0 w c2 h1 (by omega) f2 (fun i _ hi' => h5 i (Nat.zero_le _) hi')
        simp only [Nat.add_zero] at k3
        have hnew : c3.toList = (vs2.take off ++ vs.take (min src.length len * sz') ++ vs2.drop (off + (flat (src.take len)).length)) ++ rest := by
          rw [k3, h2, hfl]
          rw [List.take_append, List.drop_append, show off - vs2.length = 0 by omega, show off + (flat (src.take len)).length - vs2.length = 0 by omega]
          simp [List.append_assoc]
        have hc3 : c3.size = c2.size := by
          rw [← Array.length_toList, k3, ← Array.length_toList]
          simp only [List.length_append, List.length_take, List.length_drop, Array.length_toList] at *
          omega
        obtain ⟨i1, a1⟩ := hi.writeCells (ys := cs.take off ++ flat (src.take len) ++ cs.drop (off + (flat (src.take len)).length)) hb hg h1 k2 hnew
          (((h3.take _).append f1).append (h3.drop _)) (((h4.take _).append f2).append (h4.drop _)) (hi.allRest hb hg h1 h2) (fun i _ hi' => h5 i (Nat.zero_le _) (by omega)) (by omega)
        have hf' := hf _ hm
        have hrun : (Builtin.copy_ ts ty #[.slice (some ⟨b, off, none⟩) len c, x]).run P w = .ok (.int .i64 (min src.length len : Nat)) w' := by
          have hmin : Nat.min src.length len = min src.length len := rfl
          simp only [Builtin.copy_, Sem.run_bind, Result.andThen_ok]
          simp [h0, run_underlying ht, hl, hsz', hmin, hf', k1, goInt]
        exact ⟨_, w', hrun, g, a1, i1, .int _ _⟩
      · cases h
    · cases h
  | _ => simp [copyV] at h
theorem aCopy_ok {ts : Array TypeId} {t ty : Nat} {ins : List In} {a b : Value} (h0 : ts[0]? = some t) (h : aCopy P t ins st = some (out, st')) (hin : InsRel g B w ins [a, b]) (hi : Inv g st w) : ValOk g B P st' w out (Builtin.copy_ ts ty #[a, b]) := by
  match ins, hin with
  | [.val d, .val x], .cons _ _ _ _ hd (.cons _ _ _ _ hx .nil) =>
    simp only [aCopy] at h
    split at h
    · rename_i e hel
      split at h
      · rename_i sz hsz
        split at h
        · rename_i xs hrd
          split at h
          · rename_i hes
            cases hr : copyV d xs st with
            | none => simp [hr, ansV] at h
            | some r =>
              simp only [hr, ansV, Option.some.injEq, Prod.mk.injEq] at h
              obtain ⟨rfl, rfl⟩ := h
              refine (copyV_ok h0 (elemT_some (P := P) hel) hsz hi hd hx hrd (fun s o off len cap e => ?_) hr).val
              subst e
              simpa [elSize] using hes
          · cases h
        · cases h
      · cases h
    · cases h
  | [.val _, .loc ..], _ => simp [aCopy] at h
  | [.loc .., _], _ => simp [aCopy] at h
end
end Go.Sim
