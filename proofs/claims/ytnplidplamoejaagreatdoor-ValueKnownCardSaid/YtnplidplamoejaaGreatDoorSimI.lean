/- What operations answer: two operands, one, conversions of numbers, interfaces, functions, parts, places. -/
import Derived.Test.YtnplidplamoejaaGreatDoorSimH
set_option linter.unusedVariables false
set_option linter.unusedSimpArgs false
set_option linter.unnecessarySimpa false
namespace Go.Sim
open Go.WideShapes (add_plain)

section
variable {P : Program} {g : Gh} {B : Nat → Nat} {st st' : Store} {w : World} {out : Out}

def Value.num : Value → Bool
  | .int _ _ | .float _ _ | .complex _ _ _ | .string _ => true
  | _ => false
theorem binOp_eql (t : TypeId) (a b : Value) (h : Value.num a = false) : binOp .eql t a b = (do pure (.bool (← Op.equal t a b))) := by
  cases a <;> first | (simp [Value.num] at h; done) | rfl
theorem binOp_neq (t : TypeId) (a b : Value) (h : Value.num a = false) : binOp .neq t a b = (do pure (.bool (!(← Op.equal t a b)))) := by
  cases a <;> first | (simp [Value.num] at h; done) | rfl
theorem otherV_ok {t : TypeId} {op : BinOp} {xo yo : Operand} {a b : Value} {x y z : AV} (h : otherV P t op x y = some z) (hn : Value.num a = false) (hx : Rep g a x) (hy : Rep g b y) :
    RunsTo P g w (do eqGuard op t xo yo a b; binOp op t a b) z := by
  cases op with
  | eql =>
    simp only [otherV] at h
    split at h
    · rename_i r hr
      injection h with h; subst h
      obtain ⟨h1, h2⟩ := eqV_run hr hx hy w
      refine .mk (v := .bool r) ?_ (.bool r)
      rw [binOp_eql t a b hn]
      simp [h1, h2]
    · cases h
  | neq =>
    simp only [otherV] at h
    split at h
    · rename_i r hr
      injection h with h; subst h
      obtain ⟨h1, h2⟩ := eqV_run hr hx hy w
      refine .mk (v := .bool (!r)) ?_ (.bool _)
      rw [binOp_neq t a b hn]
      simp [h1, h2]
    · cases h
  | _ => simp [otherV] at h
theorem eqGuard_nils {op : BinOp} {t : TypeId} {xo yo : Operand} (h : (isNilC xo || isNilC yo) = true) (w : World) : (eqGuard op t xo yo .nilIface .nilIface).run P w = .ok () w := by
  cases xo <;> cases yo <;> first | (simp [isNilC] at h; done) | (cases op <;> rfl)
theorem binV_ok {t : TypeId} {op : BinOp} {xo yo : Operand} {a b : Value} {x y z : AV} (h : binV P t op xo yo x y = some z) (hx : Rep g a x) (hy : Rep g b y) :
    RunsTo P g w (do eqGuard op t xo yo a b; binOp op t a b) z := by
  have wrap : ∀ {a b : Value}, (¬ (a = .nilIface ∧ b = .nilIface)) → (∀ u v, ¬ (a = .agg u ∧ b = .agg v)) → RunsTo P g w (binOp op t a b) z → RunsTo P g w (do eqGuard op t xo yo a b; binOp op t a b) z := by
    intro a b h1 h2 ⟨v, hv, hr⟩
    exact ⟨v, by simp [guard_plain op t xo yo a b h1 h2 w, hv], hr⟩
  cases hx with
  | int k n =>
    cases hy with
    | int k' m => exact wrap (by simp) (by simp) (intV_run t h)
    | _ => simp [binV] at h
  | str s =>
    cases hy with
    | str s' => exact wrap (by simp) (by simp) (strOp_run t h)
    | _ => simp [binV] at h
  | nilIface =>
    simp only [binV] at h
    cases hy with
    | nilIface =>
      simp only [binNil] at h
      split at h
      · rename_i ms hu
        cases op with
        | eql =>
          simp only [nilsV] at h
          split at h
          · rename_i hc
            injection h with h; subst h
            refine .mk (v := .bool true) ?_ (.bool _)
            rw [binOp_eql t _ _ rfl]
            simp [eqGuard_nils hc, equal_of (fun d => eq_if1 hu d w)]
          · cases h
        | neq =>
          simp only [nilsV] at h
          split at h
          · rename_i hc
            injection h with h; subst h
            refine .mk (v := .bool false) ?_ (.bool _)
            rw [binOp_neq t _ _ rfl]
            simp [eqGuard_nils hc, equal_of (fun d => eq_if1 hu d w)]
          · cases h
        | _ => simp [nilsV] at h
      · cases h
    | iface u v y' h' => exact otherV_ok h rfl .nilIface (.iface u v y' h')
    | bool b => exact otherV_ok h rfl .nilIface (.bool b)
    | int k n => exact otherV_ok h rfl .nilIface (.int k n)
    | str s => exact otherV_ok h rfl .nilIface (.str s)
    | nilptr => exact otherV_ok h rfl .nilIface .nilptr
    | ptr b off o h' => exact otherV_ok h rfl .nilIface (.ptr b off o h')
    | rptr b o vs cs h' h1 hr => exact otherV_ok h rfl .nilIface (.rptr b o vs cs h' h1 hr)
    | nils => exact otherV_ok h rfl .nilIface .nils
    | row b o n c sz tok cap xs' vs hi' he hn hc hz hcap ht => exact otherV_ok h rfl .nilIface (.row b o n c sz tok cap xs' vs hi' he hn hc hz hcap ht)
    | arr b off o len c sz cap hl hc hz hcap => exact otherV_ok h rfl .nilIface (.arr b off o len c sz cap hl hc hz hcap)
    | nilmap => exact otherV_ok h rfl .nilIface .nilmap
    | map b o h' => exact otherV_ok h rfl .nilIface (.map b o h')
    | func fn a b x y hf ha hb => exact otherV_ok h rfl .nilIface (.func fn a b x y hf ha hb)
    | yield b o h' => exact otherV_ok h rfl .nilIface (.yield b o h')
    | nilFunc => exact otherV_ok h rfl .nilIface .nilFunc
    | agg cs xs h1 h' => exact otherV_ok h rfl .nilIface (.agg cs xs h1 h')
    | tuple cs xs h' => exact otherV_ok h rfl .nilIface (.tuple cs xs h')
    | junk v => exact otherV_ok h rfl .nilIface (.junk _)
    | uptr b t tot cs' vs' xs' hb hv he => exact otherV_ok h rfl .nilIface (.uptr b t tot cs' vs' xs' hb hv he)
  | bool b => exact otherV_ok h rfl (.bool b) hy
  | nilptr => exact otherV_ok h rfl .nilptr hy
  | ptr b off o h' => exact otherV_ok h rfl (.ptr b off o h') hy
  | rptr b o vs cs h' h1 hr => exact otherV_ok h rfl (.rptr b o vs cs h' h1 hr) hy
  | nils => exact otherV_ok h rfl .nils hy
  | row b o n c sz tok cap xs' vs hi' he hn hc hz hcap ht => exact otherV_ok h rfl (.row b o n c sz tok cap xs' vs hi' he hn hc hz hcap ht) hy
  | arr b off o len c sz cap hl hc hz hcap => exact otherV_ok h rfl (.arr b off o len c sz cap hl hc hz hcap) hy
  | nilmap => exact otherV_ok h rfl .nilmap hy
  | map b o h' => exact otherV_ok h rfl (.map b o h') hy
  | func fn a b x y hf ha hb => exact otherV_ok h rfl (.func fn a b x y hf ha hb) hy
  | yield b o h' => exact otherV_ok h rfl (.yield b o h') hy
  | nilFunc => exact otherV_ok h rfl .nilFunc hy
  | iface t v x h' => exact otherV_ok h rfl (.iface t v x h') hy
  | agg cs xs h1 h' => exact otherV_ok h rfl (.agg cs xs h1 h') hy
  | tuple cs xs h' => exact otherV_ok h rfl (.tuple cs xs h') hy
  | uptr b t tot cs' vs' xs' hb hv he => exact otherV_ok h rfl (.uptr b t tot cs' vs' xs' hb hv he) hy
  | junk _ =>
    exfalso
    have hn : ∀ z, eqV P t .junk z = none := by
      intro z
      unfold eqV
      split <;> first | rfl | (cases z <;> rfl)
    have h' := h
    simp only [binV, otherV] at h'
    split at h' <;> simp_all
theorem aBin_ok {t : TypeId} {op : BinOp} {xo yo : Operand} {ins : List In} {a b : Value} (h : aBin P t op xo yo ins st = some (out, st')) (hin : InsRel g B w ins [a, b]) (hi : Inv g st w) :
    ValOk g B P st' w out (do eqGuard op t xo yo a b; binOp op t a b) := by
  match ins, hin with
  | [.val x, .val y], .cons _ _ _ _ hx (.cons _ _ _ _ hy .nil) =>
    simp only [aBin] at h
    split at h
    · rename_i z hz
      simp only [Option.some.injEq, Prod.mk.injEq] at h
      obtain ⟨rfl, rfl⟩ := h
      exact (binV_ok hz hx hy).ok hi
    · unfold ptrBin at h
      split at h
      · rename_i o off o' off' hbin
        split at h
        · rename_i te hte
          split at h
          · rename_i sz hsz
            split at h
            · rename_i cs hcs
              split at h
              · rename_i heq
                obtain ⟨rfl, rfl⟩ := heq
                cases hx with
                | ptr b _ _ hl =>
                  cases hy with
                  | ptr b' _ _ hl' =>
                    obtain ⟨tot, k1, _⟩ := hi.cellsAt hl hcs
                    obtain ⟨tot', k2, _⟩ := hi.cellsAt hl' hcs
                    have hbb := hi.inj b b' _ _ _ k1 k2
                    subst hbb
                    obtain ⟨j, hj, _⟩ := sizeT_some hsz
                    have hg : (eqGuard op t xo yo (.pointer (some ⟨b, off, none⟩)) (.pointer (some ⟨b, off, none⟩))).run P w = .ok () w := guard_plain op t xo yo _ _ (by rintro ⟨h, _⟩; cases h) (by rintro u v ⟨h, _⟩; cases h) w
                    have hE : ∀ d : Nat, (Op.equalIn (d + 1) t (.pointer (some ⟨b, off, none⟩)) (.pointer (some ⟨b, off, none⟩))).run P w = .ok true w := fun d => by
                      simp [Op.equalIn, run_underlying hte, sizeOf, typeInfo, hj, run_sameAddr_same]
                    split at h
                    · simp only [Option.some.injEq, Prod.mk.injEq] at h
                      obtain ⟨rfl, rfl⟩ := h
                      refine ⟨.bool true, w, ?_, OutOk.pure hi (.bool _)⟩
                      simp only [Sem.run_bind, hg, Result.andThen_ok, binOp]
                      simp [Op.equal, Op.maxDepth, hE 9999]
                    · simp only [Option.some.injEq, Prod.mk.injEq] at h
                      obtain ⟨rfl, rfl⟩ := h
                      refine ⟨.bool false, w, ?_, OutOk.pure hi (.bool _)⟩
                      simp only [Sem.run_bind, hg, Result.andThen_ok, binOp]
                      simp [Op.equal, Op.maxDepth, hE 9999]
                    · cases h
              · cases h
            · cases h
          · cases h
        · cases h
      · cases h
  | [.val _, .loc ..], _ => simp [aBin] at h
  | [.loc .., _], _ => simp [aBin] at h
theorem aUn_ok {op : UnOp} {ins : List In} {a : Value} (h : aUn op ins st = some (out, st')) (hin : InsRel g B w ins [a]) (hi : Inv g st w) : ValOk g B P st' w out (Op.unary op a) := by
  match ins, hin with
  | [.val x], .cons _ _ _ _ hx .nil =>
    simp only [aUn] at h
    split at h
    · rename_i z hz
      simp only [Option.some.injEq, Prod.mk.injEq] at h
      obtain ⟨rfl, rfl⟩ := h
      refine RunsTo.ok hi ?_
      cases hx with
      | int k n =>
        cases op with
        | neg => simp [unV] at hz; subst hz; exact .mk (v := .int k (k.wrap (-n))) (by simp [Op.unary, Op.intArith]) (.int _ _)
        | xor =>
          simp only [unV] at hz
          split at hz
          · rename_i m hm
            injection hz with hz; subst hz
            exact .mk (by simpa [Op.unary] using bitsOf_run hm w) (.int _ _)
          · cases hz
        | _ => simp [unV] at hz
      | bool b =>
        cases op with
        | not => simp [unV] at hz; subst hz; exact .mk (v := .bool (!b)) (by simp [Op.unary]) (.bool _)
        | _ => simp [unV] at hz
      | _ => cases op <;> simp [unV] at hz
    · cases h
  | [.loc ..], _ => simp [aUn] at h
theorem aIface_ok {t : TypeId} {ins : List In} {a : Value} (h : aIface P t ins st = some (out, st')) (hin : InsRel g B w ins [a]) (hi : Inv g st w) : ValOk g B P st' w out (Instr.makeInterface t a) := by
  match ins, hin with
  | [.val x], .cons _ _ _ _ hx .nil =>
    simp only [aIface] at h
    split at h
    · cases h
    · rename_i d hnot hu
      simp only [Option.some.injEq, Prod.mk.injEq] at h
      obtain ⟨rfl, rfl⟩ := h
      refine RunsTo.ok hi (.mk (v := .iface t a) ?_ (.iface t a x hx))
      replace hu : P.underlying t = _ := hu
      simp only [Instr.makeInterface, underlying, Sem.run_bind, run_program, Result.andThen_ok, hu]
      cases d <;> first | rfl | exact (hnot _ rfl).elim
    · cases h
  | [.loc ..], _ => simp [aIface] at h
theorem InsRel.vals {ins : List In} {vs : List Value} {xs : List AV} (h : valsOf ins = some xs) (hin : InsRel g B w ins vs) : Reps g vs xs := by
  match ins, hin with
  | [], .nil => simp [valsOf] at h; subst h; exact .nil
  | .val x :: r, .cons _ _ _ _ hx hs =>
    simp only [valsOf] at h
    split at h
    · rename_i ys hy
      injection h with h; subst h
      exact .cons _ _ _ _ hx (InsRel.vals hy hs)
    · cases h
  | .loc .. :: _, _ => simp [valsOf] at h
theorem die_stat (hi : Inv g st w) {b o tot : Nat} {c2 : Array Value} {e2 : TypeId} {fr : Nat × Nat} (hb : g.blk b = some (.obj o tot)) (h1 : w.heap[b]? = some (.cells c2 e2 fr)) :
    Adv g w ((g.drop b o).upd b (.stat c2.toList)) w ∧ Inv ((g.drop b o).upd b (.stat c2.toList)) (st.set o .dead) w := by
  have hd := hi.die hb
  have hb1 : (g.drop b o).blk b = none := Gh.drop_same
  have hle1 : Le g (g.drop b o) := Le.drop hb
  have hle2 : Le (g.drop b o) ((g.drop b o).upd b (.stat c2.toList)) := Le.upd_new _ _ hb1
  refine ⟨⟨hle1.trans hle2, Nat.le_refl _, fun b' _ hn => ⟨rfl, ?_⟩, fun _ _ _ => rfl, rfl, rfl, rfl⟩, ⟨hd.wfo, hd.wft, fun b' t s sz' n cs' hb' => ?_, fun b' cs' hb' => ?_, fun b' o' n hb' => ?_, fun b1 b2 o' n1 n2 h1' h2' => ?_, hd.dead⟩⟩
  · have : b' ≠ b := by rintro rfl; rw [hb] at hn; cases hn
    rw [Gh.upd_other _ _ this, Gh.drop_other this]
    exact hn
  · have h : b' ≠ b := by rintro rfl; simp [Gh.upd] at hb'
    rw [Gh.upd_other _ _ h] at hb'; exact hd.row b' t s sz' n cs' hb'
  · by_cases h : b' = b
    · subst h; simp [Gh.upd] at hb'; subst hb'; exact ⟨c2, e2, fr, h1, rfl⟩
    · rw [Gh.upd_other _ _ h] at hb'; exact hd.stat b' cs' hb'
  · have h : b' ≠ b := by rintro rfl; simp [Gh.upd] at hb'
    rw [Gh.upd_other _ _ h] at hb'
    obtain ⟨x, h7, h8⟩ := hd.obj b' o' n hb'
    exact ⟨x, h7, h8.mono hle2⟩
  · have h : b1 ≠ b := by rintro rfl; simp [Gh.upd] at h1'
    have h' : b2 ≠ b := by rintro rfl; simp [Gh.upd] at h2'
    rw [Gh.upd_other _ _ h] at h1'; rw [Gh.upd_other _ _ h'] at h2'
    exact hd.inj b1 b2 o' n1 n2 h1' h2'
theorem freezePtrs_ok : ∀ (xs : List AV) (st st' : Store) (g : Gh) (zs : List AV) (vs : List Value), freezePtrs xs st = some (zs, st') → Reps g vs xs → Inv g st w → ∃ g', Adv g w g' w ∧ Inv g' st' w ∧ Reps g' vs zs
  | [], st, st', g, zs, vs, h, hr, hi => by
    simp only [freezePtrs, Option.some.injEq, Prod.mk.injEq] at h
    obtain ⟨rfl, rfl⟩ := h
    exact ⟨g, Adv.refl g w, hi, hr⟩
  | x :: xs, st, st', g, zs, vs, h, hr, hi => by
    match vs, hr with
    | v :: vs, .cons _ _ _ _ hx hxs =>
    have plain : ∀ (hp : (match freezePtrs xs st with
        | some q => some (x :: q.1, q.2)
        | none => none) = some (zs, st')), ∃ g', Adv g w g' w ∧ Inv g' st' w ∧ Reps g' (v :: vs) zs := by
      intro hp
      cases hf : freezePtrs xs st with
      | none => simp [hf] at hp
      | some r =>
        obtain ⟨zs1, st1⟩ := r
        simp only [hf, Option.some.injEq, Prod.mk.injEq] at hp
        obtain ⟨rfl, rfl⟩ := hp
        obtain ⟨g', a, b, c⟩ := freezePtrs_ok xs st st1 g zs1 vs hf hxs hi
        exact ⟨g', a, b, .cons _ _ _ _ (hx.mono a.le) c⟩
    cases hx with
    | ptr b off o hl =>
      simp only [freezePtrs] at h
      split at h
      · rename_i cs hg
        split at h
        · rename_i h0
          subst h0
          cases hf : freezePtrs xs (st.set o .dead) with
          | none => simp [hf] at h
          | some r =>
            obtain ⟨zs1, st1⟩ := r
            simp only [hf, Option.some.injEq, Prod.mk.injEq] at h
            obtain ⟨rfl, rfl⟩ := h
            obtain ⟨tot, hb, hn, c2, e2, fr, us, rest, h1, h2, h3, h4, h5, h6⟩ := hi.cellsAt hl hg
            obtain ⟨a1, i1⟩ := die_stat hi hb h1
            obtain ⟨g', a, b', d⟩ := freezePtrs_ok xs (st.set o .dead) st1 _ zs1 vs hf (hxs.mono a1.le) i1
            refine ⟨g', a1.trans a, b', .cons _ _ _ _ (Rep.mono a.le (.rptr b 0 us cs (.inr ⟨_, _, Gh.upd_same _ _ _, rfl, ?_⟩) h4 (h3.mono a1.le))) d⟩
            rw [h2]; exact List.prefix_append _ _
        · cases h
      · cases h
    | bool b => exact plain h
    | int k n => exact plain h
    | str s => exact plain h
    | nilptr => exact plain h
    | rptr b o vs cs h' h1 hr => exact plain h
    | nils => exact plain h
    | row b o n c sz tok cap xs' vs hi' he hn hc hz hcap ht => exact plain h
    | arr b off o len c sz cap hl hc hz hcap => exact plain h
    | nilmap => exact plain h
    | map b o h' => exact plain h
    | func fn a b x y hf ha hb => exact plain h
    | yield b o h' => exact plain h
    | nilFunc => exact plain h
    | iface t v x h' => exact plain h
    | nilIface => exact plain h
    | agg cs xs h1 h' => exact plain h
    | tuple cs xs h' => exact plain h
    | junk v => exact plain h
    | uptr b t tot cs' vs' xs' hb hv he => exact plain h
theorem aMakeFunc_ok {md : Nat} {fn : Fn} {a b : Array Value} {xs : List AV} (h : aMakeFunc md fn a.size xs st = some (out, st')) (hr : Reps g (a.toList ++ b.toList) xs) (hi : Inv g st w) : ValOk g B P st' w out (Instr.makeFunc fn a b) := by
  cases fn with
  | func f =>
    simp only [aMakeFunc] at h
    split at h
    · split at h
      · rename_i q hq
        simp only [Option.some.injEq, Prod.mk.injEq] at h
        obtain ⟨rfl, rfl⟩ := h
        obtain ⟨g', a1, i1, r1⟩ := freezePtrs_ok xs st q.2 g q.1 _ hq hr hi
        refine ⟨.func (.func f) a b, w, rfl, g', a1, i1, .func _ _ _ _ _ rfl ?_ ?_⟩
        · have := r1.take a.size
          rwa [List.take_left' (by simp)] at this
        · have := r1.drop a.size
          rwa [List.drop_left' (by simp)] at this
      · cases h
    · simp only [Option.some.injEq, Prod.mk.injEq] at h
      obtain ⟨rfl, rfl⟩ := h
      refine RunsTo.ok hi (.mk (v := .func (.func f) a b) rfl (.func _ _ _ _ _ rfl ?_ ?_))
      · have := hr.take a.size
        rwa [List.take_left' (by simp)] at this
      · have := hr.drop a.size
        rwa [List.drop_left' (by simp)] at this
  | _ => simp [aMakeFunc] at h
theorem aExtract_ok {i : Nat} {ins : List In} {a : Value} (h : aExtract i ins st = some (out, st')) (hin : InsRel g B w ins [a]) (hi : Inv g st w) : ValOk g B P st' w out (Instr.extract a i) := by
  match ins, hin with
  | [.val x], .cons _ _ _ _ hx .nil =>
    cases hx with
    | tuple cs xs hs =>
      simp only [aExtract] at h
      split at h
      · rename_i y hy
        simp only [Option.some.injEq, Prod.mk.injEq] at h
        obtain ⟨rfl, rfl⟩ := h
        obtain ⟨v, hv, hr⟩ := hs.get i y hy
        refine RunsTo.ok hi (.mk (v := v) ?_ hr)
        have : cs[i]? = some v := by simpa using hv
        simp [Instr.extract, this]
      · cases h
    | _ => simp [aExtract] at h
  | [.loc ..], _ => simp [aExtract] at h
end
end Go.Sim
