/- What operations answer: iterators, conversions, aggregates. -/
import Derived.Test.YtnplidplamoejaaGreatDoorSimL
set_option linter.unusedVariables false
set_option linter.unusedSimpArgs false
set_option linter.unnecessarySimpa false
namespace Go.Sim
open Go.WideShapes (add_plain)

section
variable {P : Program} {g : Gh} {B : Nat → Nat} {st st' : Store} {w : World} {out : Out}

theorem bytes_eta (s : ByteArray) : (⟨s.data.toList.toArray⟩ : ByteArray) = s := by cases s; simp
theorem newObj_ok (hi : Inv g st w) (o : Obj) (x : AObj) (tot : Nat) (hx : ∀ g', Le g g' → ObjOk g' (w.alloc o) w.heap.size tot x) :
    ∃ g', Adv g w g' (w.alloc o) ∧ Inv g' (st.new x) (w.alloc o) ∧ g'.blk w.heap.size = some (.obj st.nobj tot) :=
  ⟨_, Adv.alloc_upd hi _ (.obj st.nobj tot), hi.alloc_obj _ _ _ (hx _ (Le.upd_new g _ (hi.none_of_ge (Nat.le_refl _)))), Gh.upd_same _ _ _⟩
theorem aRange_ok {t : Nat} {ins : List In} {a : Value} (h : aRange P t ins st = some (out, st')) (hin : InsRel g B w ins [a]) (hi : Inv g st w) : ValOk g B P st' w out (Instr.range t a) := by
  match ins, hin with
  | [.val x], .cons _ _ _ _ hx .nil =>
    cases hx with
    | str s =>
      simp only [aRange] at h
      split at h
      · rename_i hu
        simp only [Option.some.injEq, Prod.mk.injEq] at h
        obtain ⟨rfl, rfl⟩ := h
        obtain ⟨g', a, b, c⟩ := newObj_ok hi (.stringIter s 0) (.siter s.data.toList 0) 0 (fun g' _ => by
          show (w.alloc (.stringIter s 0)).heap[w.heap.size]? = _
          rw [heap_alloc_new, bytes_eta])
        exact ⟨.pointer (some ⟨w.heap.size, 0, none⟩), _, by simp [Instr.range, underlying, show P.underlying _ = _ from hu], g', a, b, .ptr _ _ _ (.inr ⟨_, c, Nat.zero_le _⟩)⟩
      · cases h
    | _ => simp [aRange] at h
  | [.loc ..], _ => simp [aRange] at h
theorem aNext_ok {ty : TypeId} {ins : List In} {a : Value} (h : aNext ins st = some (out, st')) (hin : InsRel g B w ins [a]) (hi : Inv g st w) : ValOk g B P st' w out (Instr.next a true ty) := by
  match ins, hin with
  | [.val (.ptr o 0)], .cons _ _ _ _ hx .nil =>
    cases hx with
    | ptr b _ _ hl =>
      simp only [aNext] at h
      split at h
      · rename_i s pos hg
        obtain ⟨tot, hb⟩ : ∃ tot, g.blk b = some (.obj o tot) := by
          rcases hl with hd | ⟨tot, hb, _⟩
          · rw [hi.dead o hd] at hg; cases hg
          · exact ⟨tot, hb⟩
        obtain ⟨x, h1, h2⟩ := hi.obj b o tot hb
        rw [hg] at h1; injection h1 with h1; subst h1
        have h2' : w.heap[b]? = some (.stringIter ⟨s.toArray⟩ pos) := h2
        have hgo := run_getObj (P := P) h2' (by simp)
        have hsz : (⟨s.toArray⟩ : ByteArray).size = s.length := by simp [ByteArray.size]
        split at h
        · rename_i hlt
          simp only [Option.some.injEq, Prod.mk.injEq] at h
          obtain ⟨rfl, rfl⟩ := h
          obtain ⟨r1, r2⟩ := setObj_upd (P := P) (y := .stringIter ⟨s.toArray⟩ (pos + (Utf8.decode ⟨s.toArray⟩ pos).2)) h2' (by simp)
          obtain ⟨i1, a1⟩ := hi.write hb r2 (.siter s (pos + (Utf8.decode ⟨s.toArray⟩ pos).2)) r2.here
          refine ⟨.tuple #[.bool true, .int .i64 pos, .int .i32 (Utf8.decode ⟨s.toArray⟩ pos).1], _, ?_, g, a1, i1, .tuple _ _ (.cons _ _ _ _ (.bool _) (.cons _ _ _ _ (.int _ _) (.cons _ _ _ _ (.int _ _) .nil)))⟩
          simp [Instr.next, hgo, hsz, hlt, r1, goInt]
        · rename_i hlt
          simp only [Option.some.injEq, Prod.mk.injEq] at h
          obtain ⟨rfl, rfl⟩ := h
          exact RunsTo.ok hi (.mk (v := .tuple #[.bool false]) (by simp [Instr.next, hgo, hsz, hlt]) (.tuple _ _ (.cons _ _ _ _ (.bool _) .nil)))
      · cases h
  | [.loc ..], _ => simp [aNext] at h
  | [.val (.ptr o (n + 1))], _ => simp [aNext] at h
  | [.val (.bool _)], _ => simp [aNext] at h
  | [.val (.int _ _)], _ => simp [aNext] at h
  | [.val (.str _)], _ => simp [aNext] at h
  | [.val .nilptr], _ => simp [aNext] at h
  | [.val (.rptr _)], _ => simp [aNext] at h
  | [.val .nils], _ => simp [aNext] at h
  | [.val (.row _ _ _ _)], _ => simp [aNext] at h
  | [.val (.arr _ _ _ _ _)], _ => simp [aNext] at h
  | [.val .nilmap], _ => simp [aNext] at h
  | [.val (.map _)], _ => simp [aNext] at h
  | [.val (.func _ _ _)], _ => simp [aNext] at h
  | [.val .nilFunc], _ => simp [aNext] at h
  | [.val (.iface _ _)], _ => simp [aNext] at h
  | [.val .nilIface], _ => simp [aNext] at h
  | [.val (.agg _)], _ => simp [aNext] at h
  | [.val (.tuple _)], _ => simp [aNext] at h
  | [.val .junk], _ => simp [aNext] at h
theorem aMakeMap_ok {t : TypeId} (hi : Inv g st w) : ValOk g B P (st.new (.map [] 0)) w (.val (.map st.nobj)) (Instr.makeMap t none) := by
  obtain ⟨g', a, b, c⟩ := newObj_ok hi (.map #[] 0) (.map [] 0) 0 (fun g' _ => ⟨#[], heap_alloc_new w _, .nil⟩)
  exact ⟨.map (some w.heap.size), _, by simp [Instr.makeMap], g', a, b, .map _ _ (.inr ⟨_, c, Nat.zero_le _⟩)⟩

/-! ### Conversions -/
theorem bytesV_reps (s : List UInt8) : Reps g (s.map fun b => Value.int .u8 b.toNat) (bytesV s) := by
  induction s with
  | nil => exact .nil
  | cons b s ih => exact .cons _ _ _ _ (.int _ _) ih
theorem bytesV_repE (s : List UInt8) : RepE g 1 (s.map fun b => Value.int .u8 b.toNat) (bytesV s) := by
  induction s with
  | nil => exact .nil 1
  | cons b s ih =>
    have : RepE g 1 ([Value.int .u8 b.toNat] ++ s.map fun b => Value.int .u8 b.toNat) (AV.int .u8 b.toNat :: bytesV s) := .cons 1 _ _ _ _ rfl (fun v hv => by rw [List.mem_singleton.1 hv]; rfl) (.cons _ _ _ _ (.int _ _) .nil) ih
    exact this
theorem asBytes_ok : ∀ {xs : List AV} {bs : List UInt8} {vs : List Value}, asBytes xs = some bs → RepE g 1 vs xs → ∃ ns : List Int, vs = ns.map (Value.int .u8) ∧ bs = ns.map fun n => UInt8.ofNat n.toNat
  | [], bs, vs, h, he => by
    cases he
    simp [asBytes] at h; subst h
    exact ⟨[], rfl, rfl⟩
  | x :: xs, bs, vs, h, he => by
    match vs, he with
    | _, .cons _ c _ vs' _ hl h1 hc hs =>
    simp only [asBytes] at h
    split at h
    · rename_i b hb
      split at h
      · rename_i bs' hbs
        injection h with h; subst h
        obtain ⟨ns, rfl, rfl⟩ := asBytes_ok hbs hs
        unfold asByte at hb
        split at hb
        · rename_i n
          injection hb with hb; subst hb
          match c, hc with
          | [_], .cons _ _ _ _ (.int _ _) .nil => exact ⟨n :: ns, rfl, rfl⟩
        · cases hb
      · cases h
    · cases h
theorem grownCap_ge (w : World) (need old : Nat) (e : TypeId) : need ≤ grownCap w need old e := by
  simp only [grownCap, Question.cut]; omega
theorem Inv.tcellsAt (hi : Inv g st w) {b o n m : Nat} {e : TypeId} {cs : List AV} (hl : LiveA g b o m) (hg : st.get o = some (.tcells e n cs)) : ∃ c : Array Value, ∃ fr : Nat × Nat, w.heap[b]? = some (.cells c e fr) ∧ c.size = n := by
  rcases hl with hd | ⟨tot, hb, _⟩
  · rw [hi.dead o hd] at hg; cases hg
  · obtain ⟨x, h1, h2⟩ := hi.obj b o tot hb
    rw [hg] at h1; injection h1 with h1; subst h1
    obtain ⟨c, fr, vs, rest, q1, q2, q3, q4, q5, q6, q7⟩ := h2
    exact ⟨c, fr, q1, q6.trans q7.symm⟩
theorem convV_ok {s d : Nat} {x : AV} {a : Value} {r : AV × Store} (h : convV P s d x st = some r) (hx : Rep g a x) (hi : Inv g st w) : ValOk g B P r.2 w (.val r.1) (convert s d a) := by
  unfold convV at h
  split at h
  · rename_i sd hs
    split at h
    · rename_i k hd
      unfold convInt at h
      split at h
      · injection h with h; subst h
        cases hx
        exact RunsTo.ok hi (.mk (v := .int k _) (by simp [convert, underlying, show P.underlying _ = _ from hs, show P.underlying _ = _ from hd, Conv.intToInt]) (.int _ _))
      · cases h
    · rename_i hd
      unfold convStr at h
      split at h
      · injection h with h; subst h
        cases hx with
        | str t => exact RunsTo.ok hi (.mk (v := .string t) (by simp [convert, underlying, show P.underlying _ = _ from hs, show P.underlying _ = _ from hd]) (.str t))
      · rename_i hns
        split at h
        · rename_i e
          unfold strOf at h
          split at h
          · rename_i he
            split at h
            · rename_i hsz
              split at h
              · rename_i xs hxs
                split at h
                · rename_i b hb
                  injection h with h; subst h
                  obtain ⟨sz, hsz' | ⟨rfl, rfl⟩⟩ := readRow_ok hxs hx hi (fun t e => hns t e)
                  · obtain ⟨hsz', ⟨av, c, rfl, hc, vs, hE, hcell⟩⟩ := hsz'
                    rw [hsz] at hsz'; injection hsz' with hsz'; subst hsz'
                    obtain ⟨ns, rfl, rfl⟩ := asBytes_ok hb hE
                    have hnl : ns.length = xs.length := by have := hE.flat'.2.2; simpa using this
                    refine RunsTo.ok hi (.mk (v := .string (strOfNums ns)) ?_ ?_)
                    · rcases hcell with rfl | ⟨bl, o, rfl, hcell⟩
                      · have : ns = [] := by cases ns <;> simp at hnl ⊢
                        subst this
                        cases av with
                        | none => rw [run_convert_bytes_nil w s e hs he _ _ d hd]; rfl
                        | some ad =>
                          obtain ⟨bl, o, sp⟩ := ad
                          rw [run_convert_bytes_string w s d e _ _ c hs he hd]
                          rfl
                      · exact run_convert_bytes_arg w s e hs he bl o xs.length c ns hnl (fun i hi' => hcell i _ (by simp [List.getElem?_map, List.getElem?_eq_getElem (show i < ns.length by omega), List.getD_eq_getElem?_getD])) d hd
                    · have : Rep g (.string (strOfNums ns)) (.str (strOfNums ns).data.toList) := .str _
                      rwa [strOfNums_data] at this
                  · simp [asBytes] at hb; subst hb
                    cases hx
                    exact RunsTo.ok hi (.mk (v := .string .empty) (run_convert_bytes_nil w s e hs he 0 0 d hd) (.str .empty))
                · cases h
              · cases h
            · cases h
          · cases h
        · cases h
    · rename_i e hd
      unfold bytesOf at h
      split at h
      · split at h
        · rename_i t he
          injection h with h; subst h
          cases hx with
          | str t =>
            have hrun := Lib.run_convert_string_bytes (P := P) w s d e t hs hd he
            have hnew := Lib.bytesWorld_at_new w e t
            have hle : Le g (g.upd w.heap.size (.obj st.nobj (Lib.bytesCells w e t).size)) := Le.upd_new g _ (hi.none_of_ge (Nat.le_refl _))
            have hold : ∀ b : Nat, b < w.heap.size → (Lib.bytesWorld w e t).heap[b]? = w.heap[b]? := fun b hb => Lib.bytesWorld_at_old w e t b hb
            -- the same as a new block, but for its mark
            have hsame : ∀ b : Nat, (Lib.bytesWorld w e t).heap[b]? = (w.alloc (.cells (Lib.bytesCells w e t) e ((Lib.bytesCells w e t).size, (Lib.bytesCells w e t).size + 1))).heap[b]? := by
              intro b
              rcases Nat.lt_trichotomy b w.heap.size with h | h | h
              · rw [hold b h, heap_alloc_old w _ h]
              · subst h; rw [hnew, heap_alloc_new]
              · rw [Array.getElem?_eq_none (by rw [Lib.bytesWorld_size]; omega), Array.getElem?_eq_none (by show (w.heap.push _).size ≤ b; simp; omega)]
            have hA := Adv.alloc_upd hi (.cells (Lib.bytesCells w e t) e ((Lib.bytesCells w e t).size, (Lib.bytesCells w e t).size + 1)) (.obj st.nobj (Lib.bytesCells w e t).size)
            have hI := hi.alloc_obj (.cells (Lib.bytesCells w e t) e ((Lib.bytesCells w e t).size, (Lib.bytesCells w e t).size + 1)) (.scells (bytesV t.data.toList)) (Lib.bytesCells w e t).size
              ⟨_, _, _, t.data.toList.map (fun b => Value.int .u8 b.toNat), List.replicate (grownCap w t.size 0 e - t.size) (.int .u8 0), heap_alloc_new w _, by simp [Lib.bytesCells], bytesV_reps _, fun v hv => by
                simp only [Lib.bytesCells, List.mem_append, List.mem_map, List.mem_replicate] at hv
                have hv' : (∃ b, b ∈ t.data.toList ∧ Value.int .u8 b.toNat = v) ∨ v = .int .u8 0 := by
                  simp at hv
                  rcases hv with h | h
                  · left; simpa using h
                  · right; exact h.2
                rcases hv' with ⟨b, _, rfl⟩ | rfl <;> rfl, fun i _ hi' => by simp; omega, rfl⟩
            refine ⟨_, _, hrun, _, ⟨hA.le, ?_, ?_, ?_, rfl, rfl, rfl⟩, hI.same (fun b _ => hsame b), ?_⟩
            · rw [Lib.bytesWorld_size]; omega
            · intro b hb hn; exact ⟨hold b hb, (hA.keep b hb hn).2⟩
            · intro b cs hb; exact hold b (hi.lt (by simp [hb]))
            · refine .arr _ _ _ _ _ _ _ (.inr ⟨_, Gh.upd_same _ _ _, ?_⟩) (grownCap_ge _ _ _ _) (by omega) (fun n hn => by cases hn)
              have := grownCap_ge w t.size 0 e
              have h2 : t.data.size = t.size := rfl
              simp [Lib.bytesCells]
              omega
        · cases h
      · cases h
    · rename_i hd
      unfold toUnsafe at h
      split at h
      · rename_i o
        split at h
        · rename_i t
          split at h
          · rename_i sz hsz
            split at h
            · rename_i e n cs hg
              split at h
              · rename_i hc
                injection h with h; subst h
                cases hx with
                | ptr b _ _ hl =>
                  obtain ⟨c, fr, hb⟩ := hi.tcellsAt hl hg
                  obtain ⟨j, hj, rfl⟩ := sizeT_some hsz
                  refine ⟨_, _, Lib.run_to_unsafe w ⟨b, 0, none⟩ hs hd hj hc.1 (e := e) (cells := n) ?_ hc.2, OutOk.pure hi (.ptr _ _ _ hl)⟩
                  simp [World.shape?, hb.1, hb.2]
              · cases h
            · cases h
          · cases h
        · cases h
      · cases h
    · rename_i u hd
      unfold fromUnsafe at h
      split at h
      · rename_i o
        split at h
        · split at h
          · rename_i sz hsz
            split at h
            · rename_i e n cs hg
              split at h
              · rename_i hc
                injection h with h; subst h
                cases hx with
                | ptr b _ _ hl =>
                  obtain ⟨c, fr, hb⟩ := hi.tcellsAt hl hg
                  obtain ⟨j, hj, rfl⟩ := sizeT_some hsz
                  refine ⟨_, _, Lib.run_from_unsafe w ⟨b, 0, none⟩ hs hd hj (e := e) (cells := n) ?_ hc, OutOk.pure hi (.ptr _ _ _ hl)⟩
                  simp [World.shape?, hb.1, hb.2]
              · cases h
            · cases h
          · cases h
        · cases h
      · cases h
    · cases h
  · cases h
theorem aConv_ok {s d : Nat} {ins : List In} {a : Value} (h : aConv P s d ins st = some (out, st')) (hin : InsRel g B w ins [a]) (hi : Inv g st w) : ValOk g B P st' w out (convert s d a) := by
  match ins, hin with
  | [.val x], .cons _ _ _ _ hx .nil =>
    simp only [aConv] at h
    split at h
    · rename_i r hr
      simp only [Option.some.injEq, Prod.mk.injEq] at h
      obtain ⟨rfl, rfl⟩ := h
      exact convV_ok hr hx hi
    · cases h
  | [.loc ..], _ => simp [aConv] at h
end
end Go.Sim
