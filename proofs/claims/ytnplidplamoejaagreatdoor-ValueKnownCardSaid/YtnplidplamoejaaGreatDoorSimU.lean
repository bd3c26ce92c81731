/- Operations in an order, calls. -/
import Derived.Test.YtnplidplamoejaaGreatDoorSimS
set_option linter.unusedVariables false
set_option linter.unusedSimpArgs false
set_option linter.unnecessarySimpa false
namespace Go.Sim

/-- What comes of a function's value that is called. -/
def Applies (P : Program) (fv : Value) (args : Array Value) (w : World) (R : Value → World → Prop) : Prop :=
  match (do let d ← Deferred.ofValue fv args; invoke d.target d.args : Sem Next).run P w with
  | .ok (.value v) w' => R v w'
  | .ok .skip w' => R undef w'
  | .ok (.enter f as) w' => CallsIn Fence.wide 0 P f as w' fun
      | .returned v, w'' => R v w''
      | _, _ => False
  | .ok (.round l f tmps assign body) w' => RoundIn Fence.wide 0 P l f tmps assign body w' fun
      | .returned v, w'' => R v w''
      | _, _ => False
  | _ => False
def CallOk (E : Env) (call : Caller) : Prop := ∀ (fv : AV) (args : List AV) (st : Store) (v : AV) (st' : Store), call fv args st = some (v, st') →
  ∀ (g : Gh) (w : World) (fval : Value) (vals : Array Value), Rep g fval fv → Reps g vals.toList args → Inv g st w → GlobOk E g →
    Applies E.P fval vals w fun u w' => ∃ g', Adv g w g' w' ∧ Inv g' st' w' ∧ Rep g' u v

section
variable {E : Env} {call : Caller} {A : Ann} {g g0 : Gh} {B : Nat → Nat} {st st' : Store} {w w0 : World} {fr fr' : AFr} {a : Act} {rd : Option Nat}

/-- What an operation answers is laid down, and it goes on. -/
def Goes (E : Env) (A : Ann) (g0 : Gh) (w0 : World) (st' : Store) (fr' : AFr) (K : Act → World → Prop) : Prop :=
  ∀ g B w a, FS E A g0 w0 g B st' w fr' a → K a w
/-- Nothing is barred; in a round of a loop, or not. -/
abbrev FW (rd : Option Nat) : Fence := { Fence.wide with round := rd }

theorem aop_wp (h : FS E A g0 w0 g B st w fr a) {md : Nat} {o : Oper} {ins : List In} {out : Out} {K : Act → World → Prop} {Q : Exit → Act → World → Prop}
    (hin : InsRel g B w ins (o.op.operands.toList.map a.eval)) (ha : aop E.L md o.type o.op ins st = some (out, st')) (hp : aput A fr o.op o.dst out = some fr') (hk : Goes E A g0 w0 st' fr' K) :
    o.wpIn (FW rd) 0 E.P a w K Q := by
  refine ⟨fun _ _ => trivial, ?_⟩
  have hnd : ∀ c, o.op ≠ .defer c := by intro c hc; rw [hc] at ha; simp [aop] at ha
  rw [show Oper.semAt (FW rd).round a.eval o = execOp a.eval o from Oper.semAt_eq _ _ _ hnd]
  rw [E.hL] at ha
  obtain ⟨v, w', hrun, ho⟩ := aop_ok (P := E.P) (B := B) ha hin h.inv
  obtain ⟨g', B', hfs⟩ := aput_ok h ho hp (fun _ => trivial)
  have := hk g' B' w' _ hfs
  rcases hrun with hrun | ⟨hrun, rfl⟩
  · rw [hrun]; exact this
  · rw [hrun]; exact this
theorem call_exec {o : Oper} {c : Call} {f : Operand} (ho : o.op = .call c) (hc : c.callee = .value f) (ρ : Operand → Value) :
    execOp ρ o = (do let d ← Deferred.ofValue (ρ f) (c.args.map ρ); invoke d.target d.args) := by
  simp only [execOp, ho, resolve, hc]
theorem aoper_wp (hcall : CallOk E call) (h : FS E A g0 w0 g B st w fr a) {md : Nat} {o : Oper} {ins : List In} {r : Out × Store} {K : Act → World → Prop} {Q : Exit → Act → World → Prop}
    (hi : aevals E.globals A fr o.op.operands.toList = some ins) (ha : aout E call md o ins st = some r) (hp : aput A fr o.op o.dst r.1 = some fr') (hk : Goes E A g0 w0 r.2 fr' K) :
    o.wpIn (FW rd) 0 E.P a w K Q := by
  have hin := aevals_ok h.fr h.glob hi
  have plain : aop E.L md o.type o.op ins st = some r → o.wpIn (FW rd) 0 E.P a w K Q := fun h2 => aop_wp h hin (out := r.1) (st' := r.2) h2 hp hk
  unfold aout at ha
  split at ha
  · rename_i c ho
    split at ha
    · rename_i f hf
      split at ha
      · rename_i fv args hv
        split at ha
        · rename_i r' hr'
          simp only [Option.some.injEq] at ha; subst ha
          have hops : o.op.operands.toList = f :: c.args.toList := by rw [ho]; simp [Op.operands, Call.operands, hf]
          rw [hops] at hin
          have hreps := valsOf_ok hv hin
          simp only [List.map_cons] at hreps
          cases hreps with
          | cons _ _ _ _ hfv hargs =>
            have hap := hcall fv args st r'.1 r'.2 hr' g w (a.eval f) (c.args.map a.eval) hfv (by simpa using hargs) h.inv h.glob
            refine ⟨fun _ _ => trivial, ?_⟩
            have hnd : ∀ c, o.op ≠ .defer c := by intro c hc; rw [hc] at ho; cases ho
            rw [show Oper.semAt (FW rd).round a.eval o = execOp a.eval o from Oper.semAt_eq _ _ _ hnd, call_exec ho hf]
            have fin : ∀ u w', (∃ g', Adv g w g' w' ∧ Inv g' r'.2 w' ∧ Rep g' u r'.1) → K (a.put o.dst u) w' := by
              intro u w' ⟨g', a1, i1, r1⟩
              obtain ⟨g2, B2, hfs⟩ := aput_ok (out := .val r'.1) (v := u) (st' := r'.2) h ⟨g', a1, i1, r1⟩ hp (fun _ => trivial)
              exact hk g2 B2 w' _ hfs
            unfold Applies at hap
            split at hap
            · rename_i v w' hrun; rw [hrun]; exact fin _ _ hap
            · rename_i w' hrun; rw [hrun]; exact fin _ _ hap
            · rename_i k as w' hrun
              rw [hrun]
              refine ⟨fun hd => by simp [FW, Fence.wide] at hd, hap.mono ?_⟩
              intro e w'' hh
              cases e with
              | returned v => exact fin _ _ hh
              | panicked ch => exact hh.elim
              | outgrown => exact hh.elim
            · rename_i l k tmps as body w' hrun
              rw [hrun]
              refine ⟨fun hd => by simp [FW, Fence.wide] at hd, hap.mono ?_⟩
              intro e w'' hh
              cases e with
              | returned v => exact fin _ _ hh
              | panicked ch => exact hh.elim
              | outgrown => exact hh.elim
            · exact hap.elim
        · cases ha
      · cases ha
    · cases ha
    · exact plain ha
  · exact plain ha

/-- Operations in a given order. -/
def astep (E : Env) (call : Caller) (A : Ann) (rid : Nat) (all : List Oper) (i : Nat) (fr : AFr) (st : Store) : Option (AFr × Store) :=
  match all[i]? with
  | none => none
  | some o => match aWanted A all fr o with
    | some true => aoper E call A (A.mode rid i) o fr st
    | some false => (match aputNone A fr o.dst with
      | some fr' => some (fr', st)
      | none => none)
    | none => none
def aopsI (E : Env) (call : Caller) (A : Ann) (rid : Nat) (all : List Oper) : List Nat → AFr → Store → Option (AFr × Store)
  | [], fr, st => some (fr, st)
  | i :: L, fr, st => match astep E call A rid all i fr st with
    | some r => aopsI E call A rid all L r.1 r.2
    | none => none
theorem aopsI_wp (hcall : CallOk E call) {rid : Nat} {ops : Array Oper} {Q : Exit → Act → World → Prop} : ∀ (L : List Nat) (fr : AFr) (st : Store) (g : Gh) (B : Nat → Nat) (w : World) (a : Act), aopsI E call A rid ops.toList L fr st = some (fr', st') →
    FS E A g0 w0 g B st w fr a → Goes E A g0 w0 st' fr' (Q .normal) → wpOpsIn (FW rd) 0 E.P ops Q L a w
  | [], fr, st, g, B, w, a, h, hfs, hk => by
    simp only [aopsI, Option.some.injEq, Prod.mk.injEq] at h
    obtain ⟨rfl, rfl⟩ := h
    exact hk g B w a hfs
  | i :: L, fr, st, g, B, w, a, h, hfs, hk => by
    simp only [aopsI] at h
    split at h
    · rename_i r hr
      unfold astep at hr
      rw [Array.getElem?_toList] at hr
      simp only [wpOpsIn]
      split at hr
      · cases hr
      · rename_i o ho
        simp only [ho]
        split at hr
        · rename_i hw
          rw [if_pos (by simpa using aWanted_ok hfs.fr hw)]
          unfold aoper at hr
          split at hr
          · cases hr
          · rename_i ins hins
            split at hr
            · rename_i r1 hr1
              split at hr
              · rename_i fr1 hp1
                simp only [Option.some.injEq] at hr; subst hr
                exact aoper_wp hcall hfs hins hr1 hp1 (fun g B w a' h1 => aopsI_wp hcall L fr1 r1.2 g B w a' h h1 hk)
              · cases hr
            · cases hr
        · rename_i hw
          rw [if_neg (by rw [aWanted_ok hfs.fr hw]; simp)]
          split at hr
          · rename_i fr1 hp1
            simp only [Option.some.injEq] at hr; subst hr
            exact ⟨fun _ _ => trivial, aopsI_wp hcall L fr1 st g B w (a.put o.dst undef) h (hfs.setNone hp1) hk⟩
          · cases hr
        · cases hr
    · cases h
theorem aops_I {rid : Nat} {all : List Oper} : ∀ (n i : Nat) (fr : AFr) (st : Store), i + n = all.length → aops E call A rid all (all.drop i) i fr st = aopsI E call A rid all (List.range' i n) fr st
  | 0, i, fr, st, h => by
    rw [List.drop_of_length_le (by omega)]
    simp [aops, aopsI]
  | n + 1, i, fr, st, h => by
    have hlt : i < all.length := by omega
    rw [List.drop_eq_getElem_cons hlt, List.range'_succ]
    have hget : all[i]? = some all[i] := List.getElem?_eq_getElem hlt
    simp only [aops, aopsI, astep, hget]
    cases hw : aWanted A all fr all[i] with
    | none => rfl
    | some b =>
      cases b with
      | true =>
        simp only []
        cases hr : aoper E call A (A.mode rid i) all[i] fr st with
        | none => rfl
        | some r => exact aops_I n (i + 1) r.1 r.2 (by omega)
      | false =>
        simp only []
        cases hp : aputNone A fr all[i].dst with
        | none => rfl
        | some fr1 => exact aops_I n (i + 1) fr1 st (by omega)
theorem aops_wp (hcall : CallOk E call) {rid : Nat} {ops : Array Oper} {Q : Exit → Act → World → Prop} (h : aops E call A rid ops.toList ops.toList 0 fr st = some (fr', st')) (hfs : FS E A g0 w0 g B st w fr a) (hk : Goes E A g0 w0 st' fr' (Q .normal)) :
    (Code.region rid ops false).wpIn (FW rd) 0 E.P Q a w := by
  refine wpIn_region (aopsI_wp hcall (rid := rid) (List.range ops.size) fr st g B w a ?_ hfs hk)
  have := aops_I (E := E) (call := call) (A := A) (rid := rid) (all := ops.toList) ops.size 0 fr st (by simp)
  rw [List.drop_zero] at this
  rw [List.range_eq_range', ← this]; exact h
end
end Go.Sim
