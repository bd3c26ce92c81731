/- Part of the proof that litmuslaw11.ValueSets answers true for every input. -/
import Derived.Test.YtnplidplamoejaaGreatDoorVSetsTL
import Derived.ChangeSlices
import Derived.OpenShut
import Derived.WalkKit
import Derived.ProofKit
import Derived.Test.YtnplidplamoejaaGreatDoorCards
import Derived.Test.YtnplidplamoejaaGreatDoorTie
import Derived.Deep.DeepHandedRow
import Derived.Lib.LaidTab
import Derived.Laws.IdiomArrays
set_option linter.unusedVariables false
set_option linter.unusedSimpArgs false
set_option linter.unnecessarySimpa false
namespace Go.Sim
open Go.Proofs Go.ChangeShapes Go.WideShapes Go.ChangeAt Go.RowKit

theorem s0_empty : S0 [] = Store.empty := rfl
set_option maxRecDepth 1000000 in
/-- A law that is read as true. -/
theorem law_calls {pr : Prims} (hpr : PrOk pr) {k m n : Nat} {fn : Func} {ha : HA} {b : HBody} (he : b = hfun E0 (An0 k) ha (List.range m) fn) (hf : E0.L.fn k = some fn) (hb : fn.body ≠ none) (hp : pr k = none) {xs : List AV} {st : Store} (h : b (Call pr n) n xs (S0 []) = some (.bool true, st))
    (W : World) (args : Array Value) (hargs : Reps (Gh.start W) args.toList xs) : Calls Tryz.prog k args W fun e W' => e = .returned (.bool true) ∧ Kept W W' := by
  have ha := body_ok he hf h
  have hf' : Tryz.prog.funcs[k]? = some fn := hf
  have ha' : acall E0 (fun f => (An0 f).ann) pr (n + 1) (.func (.func k) [] []) xs Store.empty = some (.bool true, st) := by
    simp only [acall, hp, List.nil_append, List.append_nil]
    exact ha
  have wf : ∀ (f : FuncId) (t b : Nat), ((fun f => (An0 f).ann) f).base t = some b → ((fun f => (An0 f).ann) f).base b = some b := fun f t b hh => wf0 f t b hh
  have := @calls_of_reading E0 mix0 (fun f => (An0 f).ann) wf name0 pr hpr n k fn hf' hb hp W args xs (.bool true) st ha' hargs (glob0 _)
  refine this.mono fun e W' ⟨u, he, hkept, g, hrep⟩ => ?_
  rw [rep_bool hrep] at he
  exact ⟨he, hkept⟩
def byteV (n : Int) : Value := .int .u8 n
theorem repE_bytes {g : Gh} : ∀ (zs : List Int), RepE g 1 (zs.map byteV) (zs.map fun n => .int .u8 n)
  | [] => .nil 1
  | z :: zs => by
    have := RepE.cons (g := g) 1 [byteV z] (.int .u8 z) (zs.map byteV) (zs.map fun n => .int .u8 n) rfl (fun v hv => by rw [List.mem_singleton.1 hv]; rfl) (.cons _ _ _ _ (.int _ _) .nil) (repE_bytes zs)
    simpa using this
/-- Cells that hold bytes. -/
theorem cells_imm {W : World} {b o : Nat} {zs : List Int} (hpos : 0 < zs.length) (h : ∀ i, i < zs.length → W.cell? (Addr.add ⟨b, o, none⟩ i) = some (.int .u8 (zs.getD i 0))) (len : Nat) (hl : len ≤ zs.length) : Imm (Gh.start W) b o ((zs.take len).map byteV) := by
  have h0 := h 0 hpos
  simp only [World.cell?, Addr.add] at h0
  cases hb : W.heap[b]? with
  | none => simp [hb] at h0
  | some c =>
    cases c with
    | cells c e fr =>
      refine .inr ⟨.stat c.toList, c.toList, by simp [Gh.start, hb], rfl, ?_⟩
      have hc : ∀ i, i < zs.length → c[o + i]? = some (.int .u8 (zs.getD i 0)) := by
        intro i hi
        have := h i hi
        by_cases h00 : i = 0
        · subst h00; simpa [World.cell?, Addr.add, hb] using this
        · simpa [World.cell?, Addr.add, hb, h00] using this
      refine List.prefix_iff_eq_take.2 (List.ext_getElem? fun j => ?_)
      simp only [List.length_map, List.length_take]
      by_cases hj : j < min len zs.length
      · rw [List.getElem?_map, List.getElem?_take, if_pos (by omega), List.getElem?_take, if_pos (by omega), List.getElem?_drop]
        have := hc j (by omega)
        rw [← Array.getElem?_toList] at this
        rw [this, List.getElem?_eq_getElem (by omega)]
        simp [List.getD, List.getElem?_eq_getElem (show j < zs.length by omega), byteV]
      · rw [List.getElem?_eq_none (by simp; omega), List.getElem?_eq_none (by simp; omega)]
    | _ => simp [hb] at h0
theorem und22 : Tryz.prog.underlying 22 = some (.slice 5) := by kernel_rfl
theorem und5 : Tryz.prog.underlying 5 = some (.int .u8) := by kernel_rfl
theorem cells5 : Tryz.prog.cellsOf 5 = 1 := by kernel_rfl
section
variable {H : Type} {enc : TypeId × Value → H}
set_option maxRecDepth 1000000 in
/-- What a slice of bytes that came in gives: it is read as data; it reads as it did wherever what lay there lies there. -/
theorem open_bytes {W : World} {base : Nat} {v1 : Value} {d1 : DataW H} {p1 : List MemPlace} (hval : Value.okWide Tryz.prog W .any base 22 v1) (h1 : DataW.Trod enc Tryz.prog W 0 (fun _ => true) true 22 v1 d1 p1) :
    ∃ (B : AV) (xs : List UInt8), IsB0 B xs ∧ Rep (Gh.start W) v1 B ∧ ∀ (W' : World) (sp : Nat → Bool), Kept W W' → (∀ p ∈ p1, p.block < W.heap.size) → (∀ p ∈ p1, sp p.block = true) → DataW.Trod enc Tryz.prog W' 0 sp true 22 v1 d1 p1 := by
  obtain ⟨a1, len, cap, rfl⟩ := okWide_slice und22 hval
  obtain ⟨fuel, hf⟩ := h1
  rcases open_ints und22 und5 cells5 hf with ⟨hcs, hx⟩ | ⟨a, len', cap', zs, hcs, hbase, hl, hm, hz, hx, hcell, hwz⟩
  · simp [Value.cells] at hcs
    obtain ⟨rfl, rfl, rfl⟩ := hcs
    simp only [Prod.mk.injEq] at hx
    obtain ⟨rfl, rfl⟩ := hx
    exact ⟨.nils, [], .inl ⟨.inl rfl, rfl⟩, .nils, fun W' sp _ _ _ => shut_slice_nil und22⟩
  · simp [Value.cells] at hcs
    obtain ⟨rfl, rfl, rfl⟩ := hcs
    simp only [Prod.mk.injEq] at hx
    obtain ⟨rfl, rfl⟩ := hx
    simp only [if_true] at hz
    have again : ∀ (W' : World) (sp : Nat → Bool), Kept W W' → (∀ p ∈ MemPlace.row a zs.length, p.block < W.heap.size) → (∀ p ∈ MemPlace.row a zs.length, sp p.block = true) → DataW.Trod enc Tryz.prog W' 0 sp true 22 (.slice (some a) len cap) (.slice (lits .u8 (zs.take len)) (lits .u8 (zs.drop len))) (MemPlace.row a zs.length) := by
      intro W' sp hk hlt hsp
      have hmem : 0 < zs.length → MemPlace.cell a.block (a.off + 0) ∈ MemPlace.row a zs.length := fun h => by
        simp only [MemPlace.row, List.mem_map, List.mem_range]
        exact ⟨0, h, rfl⟩
      refine ⟨2, shut_ints 0 und22 und5 cells5 (Nat.zero_le _) hl hm ?_ (fun i hi => ?_) hwz⟩
      · by_cases hpos : 0 < zs.length
        · rw [if_pos (show sp a.block = true from hsp _ (hmem hpos))]; exact hz
        · have : cap = 0 := by omega
          split <;> omega
      · rw [hk.cell _ (by rw [block_add]; exact hlt _ (hmem (by omega)))]
        exact hcell i hi
    by_cases hpos : 0 < zs.length
    · obtain ⟨ab, ao, spot⟩ := a
      have hspot : spot = none := by simpa [Addr.add] using World.cell?_spot (hcell 0 hpos)
      subst hspot
      refine ⟨.row 1 none none (((zs.take len).map fun n => UInt8.ofNat n.toNat).map byteA), (zs.take len).map fun n => UInt8.ofNat n.toNat, .inr rfl, ?_, again⟩
      have hb : ((zs.take len).map fun n => UInt8.ofNat n.toNat).map byteA = (zs.take len).map fun n => AV.int .u8 n := by
        rw [List.map_map]
        refine List.map_congr_left fun n hn => ?_
        have hw := bounds_u8 (hwz n (List.mem_of_mem_take hn))
        simp only [Function.comp, byteA]
        congr 1
        show ((UInt8.ofNat n.toNat).toNat : Int) = n
        rw [UInt8.toNat_ofNat']
        omega
      rw [hb]
      exact .row ab ao len cap 1 none none _ _ (cells_imm hpos hcell len (by omega)) (repE_bytes _) (by simp; omega) hl (by decide) (fun m h => by cases h) (fun t off h => by cases h)
    · have h1 : cap = 0 := by omega
      have h2 : len = 0 := by omega
      subst h1 h2
      exact ⟨.zsl, [], .inl ⟨.inr rfl, rfl⟩, .zsl a, again⟩
end
end Go.Sim

namespace Go.Proofs.YtnplidplamoejaaGreatDoor
open Go.ChangeShapes Go.WideShapes Go.ChangeAt Go.RowKit Go.Sim

section
variable {H : Type} {enc : TypeId × Value → H} {P : Program}
/-- What a call that leaves what lay there as it lay owes its row. -/
theorem post_of_kept {f : Func} {s : ChangeSpec} {apart fresh handsOn again : Bool} {W W' : World} {args : Array Value} {v : Value} {ds gs : List (DataW H)} {before pa pv : List MemPlace}
    (hW : DataW.Whole enc P f.params.toList s.vars apart W args.toList ds gs before)
    (hres : ∀ (b : Nat) (sp : Nat → Bool) (hd : Bool), DataW.TrodAll enc P W' b sp hd f.resultTypes.toList (v.resultList f.resultTypes.size) (s.fn H (ds ++ gs)).results [])
    (hargs : ∀ sp : Nat → Bool, (∀ p ∈ before, sp p.block = true) → DataW.TrodAll enc P W' 0 sp true f.params.toList args.toList (s.fn H (ds ++ gs)).args pa)
    (hvars : ∀ sp : Nat → Bool, (∀ p ∈ before, sp p.block = true) → DataW.TrodVars enc P W' sp s.vars (s.fn H (ds ++ gs)).vars pv)
    (hps : before = pa ++ pv) (hk : Kept W W')
    (hok : ∀ (j : Nat) (t : TypeId) (r : Value), f.resultTypes[j]? = some t → (v.resultList f.resultTypes.size)[j]? = some r → Value.okWide P W' .any 0 t r) :
    s.post enc P f apart fresh handsOn again W args v W' := by
  have hold : ∀ p ∈ before, (fun b => decide (b < W.heap.size)) p.block = true := fun p hp => by simpa using hW.lt p hp
  have hlt := hW.lt
  refine ⟨ds, gs, before, [], pa, pv, hW, hres _ _ _, hargs _ hold, hvars _ hold, World.keptBut_mono (fun p hp => ⟨hp, ?_⟩) (hk.keptBut (· ∈ before)), fun _ => ?_⟩
  · rw [hps, List.mem_append] at hp
    exact Or.inr hp
  · obtain ⟨_, _, _, _, _, hz, hn⟩ := hW
    refine ⟨hok, _, _, ([] ++ pa) ++ pv, ⟨[] ++ pa, pv, trodAll_append (hargs _ (fun _ _ => rfl)) (hres _ _ _), hvars _ (fun _ _ => rfl), rfl, ?_, ?_⟩, ?_⟩
    · intro b off hp
      have hp' : (.cell b off : MemPlace) ∈ before := by rw [hps]; simpa using hp
      rw [hk.frozen _ (hlt _ hp')]
      exact hz b off hp'
    · intro ha
      have := hn ha
      rw [hps] at this
      simpa using this
    · intro p hp _
      rw [hps]
      simpa using hp
end

def lit1 : DataW Unit → Value
  | .lit (.int k n) => .int k n
  | _ => .bool false
def lits1 : DataW Unit → List Value
  | .agg ds => ds.map lit1
  | d => [lit1 d]
def lits2 : DataW Unit → List Value
  | .agg ds => ds.flatMap lits1
  | d => [lit1 d]
def layAt (b : Nat) (l : List Value) (w : World) : World := { w with heap := w.heap.modify b fun
  | .cells _ t frozen => .cells l.toArray t frozen
  | o => o }
/-- A world for the witness: the settled one, the five tables laid. -/
noncomputable def laidWorld (os : Os) : World :=
  layAt 1 (lits1 Rows.laid_internal_strconv_uint64pow10) (layAt 2 (lits1 Rows.laid_math_bits_deBruijn32tab) (layAt 3 (lits1 Rows.laid_math_bits_deBruijn64tab) (layAt 4 (lits1 Rows.laid_unicode_utf8_first) (layAt 5 (lits2 Rows.laid_unicode_utf8_acceptRanges)
    (World.holding Tryz.prog os ⟨#[], #[], []⟩)))))
theorem own : ownKnob Tryz.prog.godebug = none := by kernel_rfl

end Go.Proofs.YtnplidplamoejaaGreatDoor

namespace Go.Sim
open Go.Proofs Go.ChangeShapes Go.WideShapes Go.ChangeAt Go.RowKit

theorem und23 : Tryz.prog.underlying 23 = some (.array 3 5) := by kernel_rfl
theorem cells23 : Tryz.prog.cellsOf 23 = 3 := by kernel_rfl
section
variable {H : Type} {enc : TypeId × Value → H}
theorem arr_mk {W : World} {base : Nat} {sp : Nat → Bool} {held : Bool} {m t n e : Nat} {cs : List Value} {xs : List (DataW H × List MemPlace)} (ht : Tryz.prog.underlying t = some (.array n e)) (hl : cs.length = Tryz.prog.cellsOf t)
    (hp : (List.range n).mapM (fun i => DataW.trod enc Tryz.prog W base sp held m e ((cs.drop (i * Tryz.prog.cellsOf e)).take (Tryz.prog.cellsOf e))) = some xs) : DataW.trod enc Tryz.prog W base sp held (m + 1) t cs = some (.agg (xs.map (·.1)), xs.flatMap (·.2)) := by
  unfold DataW.trod
  rw [ht]
  split <;> simp_all
theorem byte_trod {W : World} {base : Nat} {sp : Nat → Bool} {held : Bool} {m : Nat} {c : Value} {y : DataW H × List MemPlace} (h : DataW.trod enc Tryz.prog W base sp held m 5 [c] = some y) : ∃ n : Int, c = .int .u8 n ∧ y = (.lit (.int .u8 n), []) ∧ (Lit.int .u8 n).wf = true := by
  obtain ⟨n, h1, h2, h3⟩ := DataW.trod_int und5 h
  injection h1 with h1
  exact ⟨n, h1, h2, h3⟩
set_option maxRecDepth 1000000 in
theorem open_three {W : World} {base : Nat} {v1 : Value} {d1 : DataW H} {p1 : List MemPlace} (hval : Value.okWide Tryz.prog W .any base 23 v1) (h1 : DataW.Trod enc Tryz.prog W 0 (fun _ => true) true 23 v1 d1 p1) :
    ∃ a b c : Nat, c < 256 ∧ p1 = [] ∧ (∀ g, Rep g v1 (.agg [.int .u8 (.ofNat a), .int .u8 (.ofNat b), .int .u8 (.ofNat c)])) ∧ ∀ (W' : World) (sp : Nat → Bool), DataW.Trod enc Tryz.prog W' 0 sp true 23 v1 d1 [] := by
  simp only [Value.okWide, und23] at hval
  obtain ⟨cs, rfl, hsz, _⟩ := hval
  rw [cells23] at hsz
  obtain ⟨c0, c1, c2, rfl⟩ : ∃ c0 c1 c2, cs = #[c0, c1, c2] := by
    obtain ⟨l⟩ := cs
    match l, hsz with
    | [x, y, z], _ => exact ⟨x, y, z, rfl⟩
  obtain ⟨fuel, hf⟩ := h1
  have hf' : DataW.trod enc Tryz.prog W 0 (fun _ => true) true fuel 23 [c0, c1, c2] = some (d1, p1) := hf
  obtain ⟨y0, y1, y2, n, hx, t0, t1, t2⟩ := trod_array3 und23 cells5 hf'
  obtain ⟨a, rfl, rfl, wa⟩ := byte_trod t0
  obtain ⟨b, rfl, rfl, wb⟩ := byte_trod t1
  obtain ⟨c, rfl, rfl, wc⟩ := byte_trod t2
  simp only [Prod.mk.injEq, List.append_nil] at hx
  obtain ⟨rfl, rfl⟩ := hx
  have qa := bounds_u8 wa
  have qb := bounds_u8 wb
  have qc := bounds_u8 wc
  obtain ⟨a, rfl⟩ : ∃ m : Nat, a = Int.ofNat m := ⟨a.toNat, by show a = (a.toNat : Int); omega⟩
  obtain ⟨b, rfl⟩ : ∃ m : Nat, b = Int.ofNat m := ⟨b.toNat, by show b = (b.toNat : Int); omega⟩
  obtain ⟨c, rfl⟩ : ∃ m : Nat, c = Int.ofNat m := ⟨c.toNat, by show c = (c.toNat : Int); omega⟩
  have hc : c < 256 := by have := qc.2; have h : (c : Int) ≤ 255 := this; omega
  refine ⟨a, b, c, hc, rfl, fun g => .agg _ _ (fun v hv => ?_) (.cons _ _ _ _ (.int _ _) (.cons _ _ _ _ (.int _ _) (.cons _ _ _ _ (.int _ _) .nil))), fun W' sp => ⟨2, ?_⟩⟩
  · simp only [List.mem_cons, List.not_mem_nil, or_false] at hv
    rcases hv with rfl | rfl | rfl <;> rfl
  · have ha : ∀ z : Int, (Lit.int .u8 z).wf = true → DataW.trod enc Tryz.prog W' 0 sp true 1 5 [.int .u8 z] = some (.lit (.int .u8 z), []) := fun z hz => by simp [DataW.trod, und5, hz]
    show DataW.trod enc Tryz.prog W' 0 sp true 2 23 [.int .u8 (.ofNat a), .int .u8 (.ofNat b), .int .u8 (.ofNat c)] = some (.agg [.lit (.int .u8 (.ofNat a)), .lit (.int .u8 (.ofNat b)), .lit (.int .u8 (.ofNat c))], [])
    refine arr_mk (xs := [(.lit (.int .u8 (.ofNat a)), []), (.lit (.int .u8 (.ofNat b)), []), (.lit (.int .u8 (.ofNat c)), [])]) und23 (by rw [cells23]; rfl) ?_
    rw [show List.range 3 = [0, 1, 2] from rfl, cells5]
    have e0 := ha _ wa
    have e1 := ha _ wb
    have e2 := ha _ wc
    simp only [List.mapM_cons, List.mapM_nil]
    simp only [Nat.zero_mul, Nat.one_mul, List.drop_zero, List.drop_succ_cons, List.take_succ_cons, List.take_zero]
    rw [e0, e1, e2]
    rfl
end
end Go.Sim

namespace Go.Proofs.YtnplidplamoejaaGreatDoor
open Go.ChangeShapes Go.WideShapes Go.ChangeAt Go.RowKit Go.Sim
namespace sets
set_option maxRecDepth 1000000 in
theorem fn8 : E0.L.fn 8 = some Tryz.f8 := by kernel_rfl
theorem p0_8 : pr0 8 = none := by kernel_rfl
theorem pS8 : prS 8 = none := by simp [prS, prV, prWith, p0_8]
theorem laid_met (os : Os) : laidMet Tryz.prog Rows.valueSetsRow.laid ((laidWorld os).forCall (fun _ _ => 0) ⟨#[], #[.slice none 0 0, .slice none 0 0, .agg #[.int .u8 0, .int .u8 0, .int .u8 0]], []⟩).memory :=
  laidMet_of_run' 8 (by kernel_rfl) (by kernel_rfl)
theorem reads (os : Os) {H : Type} (enc : TypeId × Value → H) : ∃ ds places, DataW.whole enc Tryz.prog ((laidWorld os).forCall (fun _ _ => 0) ⟨#[], #[.slice none 0 0, .slice none 0 0, .agg #[.int .u8 0, .int .u8 0, .int .u8 0]], []⟩).memory Tryz.f8.params.toList Rows.valueSetsSpec.vars false (#[.slice none 0 0, .slice none 0 0, .agg #[.int .u8 0, .int .u8 0, .int .u8 0]] : Array Value).toList 8 = some (ds, [], places) :=
  ⟨[.nil, .nil, .agg [.lit (.int .u8 0), .lit (.int .u8 0), .lit (.int .u8 0)]], [], by kernel_rfl⟩
set_option maxRecDepth 100000 in
theorem contract (H : Type) (enc : TypeId × Value → H) (W : World) (base : Nat) (args : Array Value) (ds gs : List (DataW H)) (before : List MemPlace)
    (hval : ∀ (j : Nat) t v, Tryz.f8.params[j]? = some t → args[j]? = some v → Value.okWide Tryz.prog W .any base t v)
    (hW : DataW.Whole enc Tryz.prog Tryz.f8.params.toList Rows.valueSetsSpec.vars false W args.toList ds gs before) :
    Calls Tryz.prog 8 args W fun e W' => ∃ v, e = .returned v ∧ Rows.valueSetsSpec.post enc Tryz.prog Tryz.f8 false true false false W args v W' := by
  have hW' := hW
  have hlt := hW.lt
  obtain ⟨p, q, hA0, hV, rfl, hfz, hnd⟩ := hW
  have hA : DataW.TrodAll enc Tryz.prog W 0 (fun _ => true) true Tryz.f8.params.toList args.toList ds p := hA0
  rw [Tryz.params8] at hA hval
  obtain ⟨v0, vs0, d0, ds0, p0, q0, hargs, rfl, rfl, h0, r0⟩ := trodAll_cons hA
  obtain ⟨v1, vs1, d1, ds1, p1, q1, rfl, rfl, rfl, h1, r1⟩ := trodAll_cons r0
  obtain ⟨v2, vs2, d2, ds2, p2, q2, rfl, rfl, rfl, h2, r2⟩ := trodAll_cons r1
  obtain ⟨rfl, rfl, rfl⟩ := trodAll_nil r2
  obtain rfl : args = #[v0, v1, v2] := by cases args; simp_all
  obtain ⟨rfl, rfl⟩ := trodVars_none hV
  obtain ⟨a, b, c, hc, rfl, hrep2, again2⟩ := open_three (hval 2 23 v2 rfl rfl) h2
  obtain ⟨B0, xs0, hB0, hrep0, again0⟩ := open_bytes (hval 0 22 v0 rfl rfl) h0
  obtain ⟨B1, xs1, hB1, hrep1, again1⟩ := open_bytes (hval 1 22 v1 rfl rfl) h1
  clear hA0
  simp only [List.append_nil] at hW' hlt
  obtain ⟨n, hn⟩ := sets_true hB0 hB1 a b c hc
  refine (law_calls prS_ok e8 fn8 (by simp [Tryz.f8]) pS8 hn W #[v0, v1, v2] (.cons _ _ _ _ hrep0 (.cons _ _ _ _ hrep1 (.cons _ _ _ _ (hrep2 _) .nil)))).mono fun e W' ⟨he, hg⟩ => ?_
  subst he
  exact ⟨_, rfl, post_of_kept (pa := p0 ++ (p1 ++ ([] ++ []))) (pv := []) hW' (fun _ _ _ => trodAll_cons_mk (shut_bool Tryz.underlying4 _) trodAll_mk0)
    (fun sp hsp => trodAll_cons_mk (again0 W' sp hg (fun p hp => hlt p (by simp [hp])) (fun p hp => hsp p (by simp [hp]))) (trodAll_cons_mk (again1 W' sp hg (fun p hp => hlt p (by simp [hp])) (fun p hp => hsp p (by simp [hp]))) (trodAll_cons_mk (again2 W' sp) trodAll_mk0))) (fun _ _ => rfl) (by simp)
    hg (ok_one (by kernel_rfl) rfl (okWide_bool_mk Tryz.underlying4 _))⟩
set_option maxRecDepth 100000 in
theorem lifted (os : Os) (started : os.Started) (H : Type) (enc : TypeId × Value → H) (F : Stop.Interp) :
    ReturnsInHanded {} Tryz.checked os 8 .any ((OpenSpec.ofChange Rows.valueSetsSpec).preRow enc Tryz.prog Tryz.f8 Rows.valueSetsRow.domain false Rows.valueSetsRow.laid) (((OpenSpec.ofChange Rows.valueSetsSpec).at F).post enc Tryz.prog Tryz.f8 false true false false) := by
  obtain ⟨ds, places, hx⟩ := reads os enc
  refine returnsInHanded_of_row (C := Tryz.checked) (s := OpenSpec.ofChange Rows.valueSetsSpec) own started (by kernel_rfl) Tryz.func8
    (witness_row_at (enc := enc) (C := Tryz.checked) false (laidWorld os) #[.slice none 0 0, .slice none 0 0, .agg #[.int .u8 0, .int .u8 0, .int .u8 0]] rfl (by kernel_rfl) (by kernel_rfl) (by kernel_rfl)
      (OpenSpec.preRow_of_cond 8 hx (by kernel_rfl) (fun k hk => by cases hk) (by kernel_rfl) (laid_met os))) ?_
  intro W base args ds gs before hval hW _ _ _ hL _ _
  exact contract H enc W base args ds gs before hval hW
theorem said : Rows.ValueSetsSaid :=
  OpenClaim.holds_of_cond 8 Tryz.f8 rfl rfl rfl rfl rfl rfl rfl ⟨rfl, rfl, rfl, rfl, rfl⟩ rfl rfl rfl rfl rfl (by kernel_rfl) Tryz.func8 (by kernel_rfl)
    (of_decide_eq_true (by kernel_rfl)) (by unfold Func.isWrapper; first | (rw [if_pos (by decide +kernel)]; kernel_rfl) | (rw [if_neg (by decide +kernel)]; exact ⟨rfl, rfl⟩))
    (fun os started H enc _ F => by rw [OpenClaim.pre_eq_preRow]; exact lifted os started H enc F)
theorem w22 : Tryz.pinned.checked.prog.wantsStandIn 22 = false := by kernel_rfl
theorem w23 : Tryz.pinned.checked.prog.wantsStandIn 23 = false := by kernel_rfl
theorem plain (f : FuncId) (fn : Func) (hf : Tryz.pinned.checked.prog.funcNamed "litmus/litmuslaw11.ValueSets" = some f) (hfn : Tryz.pinned.checked.prog.funcs[f]? = some fn) :
    false = Tryz.pinned.checked.prog.looks [] ∧ ∀ (j : Nat) t, fn.params[j]? = some t → Tryz.pinned.checked.prog.wantsStandIn t = false := by
  obtain rfl : f = 8 := Option.some.inj ((show Tryz.prog.funcNamed "litmus/litmuslaw11.ValueSets" = some 8 by kernel_rfl).symm.trans hf) |>.symm
  obtain rfl : fn = Tryz.f8 := (Option.some.inj (Tryz.func8.symm.trans hfn)).symm
  refine ⟨by kernel_rfl, fun j t ht => ?_⟩
  rw [Tryz.params8] at ht
  have hj : j < 3 := by
    rcases Nat.lt_or_ge j 3 with h | h
    · exact h
    · rw [Array.getElem?_eq_none (by simpa using h)] at ht; cases ht
  have key : ∀ j, j < 3 → ∀ t, (#[22, 22, 23] : Array TypeId)[j]? = some t → Tryz.pinned.checked.prog.wantsStandIn t = false := by
    intro j hj t ht
    match j, hj with
    | 0, _ =>
      have e : t = 22 := by simpa using ht.symm
      subst e
      exact w22
    | 1, _ =>
      have e : t = 22 := by simpa using ht.symm
      subst e
      exact w22
    | 2, _ =>
      have e : t = 23 := by simpa using ht.symm
      subst e
      exact w23
  exact key j hj t ht
/-- ████ THE CARD ████ -/
theorem card : Rows.ValueSetsCardSaid :=
  Claim7.holds_tied_plain_at .later [] _ _ _ _ said (fun _ h => by cases h) (by kernel_rfl) (fun _ h => by cases h) valueSets_row_tie rfl ⟨rfl, rfl⟩ (by kernel_rfl) rfl plain (by kernel_rfl)
end sets
end Go.Proofs.YtnplidplamoejaaGreatDoor
