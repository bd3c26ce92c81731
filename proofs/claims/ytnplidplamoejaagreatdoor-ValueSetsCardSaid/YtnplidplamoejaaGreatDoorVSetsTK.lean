/- Part of the proof that litmuslaw11.ValueSets answers true for every input. -/
import Derived.Test.YtnplidplamoejaaGreatDoorVSetsTJ
set_option linter.unusedVariables false
set_option linter.unusedSimpArgs false
set_option linter.unnecessarySimpa false
namespace Go.Sim
open Go.Proofs

/-- A round of litmusref11.Set. -/
noncomputable def rsetBody (call : Caller) : (List AV → Store → Rs) → List AV → Store → Rs :=
  (fun h12 v13 s14 =>
  un1 v13 fun a22 v23 =>
  unAgg a22 fun c15 =>
  un1 v23 fun a24 v25 =>
  unAgg a24 fun c16 =>
  un1 v25 fun a26 v27 =>
  unAgg a26 fun c17 =>
  un1 v27 fun a28 v29 =>
  unAgg a28 fun c18 =>
  un1 v29 fun x19 v30 =>
  un1 v30 fun x20 v31 =>
  un1 v31 fun x21 v32 =>
  hLoc1 c16 4 fun x33 =>
  hLenR x33 fun x34 =>
  hCmpI iLt x19 x34 fun x35 =>
  hIf x35 (
  hNot x21 fun x40 =>
  hWB x40 (
  hlet (α := AV → Store → Rs) (fun x41 s42 =>
  hlet (α := AV → Store → Rs) (fun x44 s45 =>
  hlet (α := AV → Store → Rs) (fun x47 s48 =>
  hlet (α := AV → Store → Rs) (fun x50 s51 =>
  hlet (α := AV → Store → Rs) (fun x53 s54 =>
  hlet (α := AV → Store → Rs) (fun x56 s57 =>
  hPick x40 x56 (.bool false) fun x59 =>
  hlet (α := List AV → Store → Rs) (fun v77 s78 =>
  un1 v77 fun a86 v87 =>
  unAgg a86 fun c79 =>
  un1 v87 fun a88 v89 =>
  unAgg a88 fun c80 =>
  un1 v89 fun a90 v91 =>
  unAgg a90 fun c81 =>
  un1 v91 fun a92 v93 =>
  unAgg a92 fun c82 =>
  un1 v93 fun x83 v94 =>
  un1 v94 fun x84 v95 =>
  un1 v95 fun x85 v96 =>
  hLoc1 c80 4 fun x97 =>
  hElem 1 x97 x83 fun x98 =>
  hLd1 x98 s78 fun x99 =>
  hStr (fun x y => !(bEq x y)) x99 x84 fun x100 =>
  hlet (α := List AV → Store → Rs) (fun v123 s124 =>
  un1 v123 fun a132 v133 =>
  unAgg a132 fun c125 =>
  un1 v133 fun a134 v135 =>
  unAgg a134 fun c126 =>
  un1 v135 fun a136 v137 =>
  unAgg a136 fun c127 =>
  un1 v137 fun a138 v139 =>
  unAgg a138 fun c128 =>
  un1 v139 fun x129 v140 =>
  un1 v140 fun x130 v141 =>
  un1 v141 fun x131 v142 =>
  hArith Int.add x129 (.int .i64 (.ofNat 1)) fun x149 =>
  h12 [.agg c125, .agg c126, .agg c127, .agg c128, x149, x130, x131] s124) fun j122 =>
  hIf x100 (
  hLoc1 c79 4 fun x102 =>
  hLoc1 c80 4 fun x103 =>
  hElem 1 x103 x83 fun x104 =>
  hLd1 x104 s78 fun x105 =>
  hVal (aBuildSlice E0.L 0 25 1 [0] [x105] s78) fun x106 s107 =>
  hValF (aAppend E0.L 0 25 25 [.val x102, .val x106] s107) fun x108 s109 =>
  hStL1 c79 4 x108 fun c110 =>
  hLoc1 c110 5 fun x111 =>
  hLoc1 c80 5 fun x112 =>
  hElem 7 x112 x83 fun x113 =>
  hLdN 7 x113 s109 fun x114 =>
  hVal (aBuildSlice E0.L 0 26 1 [0] [x114] s109) fun x115 s116 =>
  hValF (aAppend E0.L 0 26 26 [.val x111, .val x115] s116) fun x117 s118 =>
  hStL1 c110 5 x117 fun c119 =>
  j122 [.agg c119, .agg c80, .agg c81, .agg c82, x83, x84, x85] s118) (
  j122 [.agg c79, .agg c80, .agg c81, .agg c82, x83, x84, x85] s78)) fun j76 =>
  hIf x59 (
  hLoc1 c15 4 fun x61 =>
  hVal (aBuildSlice E0.L 0 25 1 [0] [x20] s57) fun x62 s63 =>
  hValF (aAppend E0.L 0 25 25 [.val x61, .val x62] s63) fun x64 s65 =>
  hStL1 c15 4 x64 fun c66 =>
  hLoc1 c66 5 fun x67 =>
  hLocN 7 c17 0 fun x68 =>
  hVal (aBuildSlice E0.L 0 26 1 [0] [x68] s65) fun x69 s70 =>
  hValF (aAppend E0.L 0 26 26 [.val x67, .val x69] s70) fun x71 s72 =>
  hStL1 c66 5 x71 fun c73 =>
  j76 [.agg c73, .agg c16, .agg c17, .agg c18, x19, x20, (.bool true)] s72) (
  j76 [.agg c15, .agg c16, .agg c17, .agg c18, x19, x20, x21] s57)) fun j58 =>
  hWant x40 true (
  hVal (aBinC E0.L 9 .geq false x50 x53 s54) fun x144 s145 =>
  j58 x144 s145) (j58 aundef s54)) fun j55 =>
  hWant x40 true (
  j55 x20 s51) (j55 aundef s51)) fun j52 =>
  hWant x40 true (
  hLd1 x47 s48 fun x146 =>
  j52 x146 s48) (j52 aundef s48)) fun j49 =>
  hWant x40 true (
  hElem 1 x41 x44 fun x147 =>
  j49 x147 s45) (j49 aundef s45)) fun j46 =>
  hWant x40 true (
  j46 x19 s42) (j46 aundef s42)) fun j43 =>
  hWant x40 true (
  hLoc1 c16 4 fun x148 =>
  j43 x148 s14) (j43 aundef s14))) (
  hNot x21 fun x150 =>
  hlet (α := List AV → Store → Rs) (fun v168 s169 =>
  un1 v168 fun a172 v173 =>
  unAgg a172 fun c170 =>
  un1 v173 fun a174 v175 =>
  unAgg a174 fun c171 =>
  hLocN 7 c170 0 fun x176 =>
  hStLN 7 c171 0 x176 fun c177 =>
  hLocN 7 c177 0 fun x178 =>
  some (x178, s169)) fun j167 =>
  hIf x150 (
  hLoc1 c15 4 fun x152 =>
  hVal (aBuildSlice E0.L 0 25 1 [0] [x20] s14) fun x153 s154 =>
  hValF (aAppend E0.L 0 25 25 [.val x152, .val x153] s154) fun x155 s156 =>
  hStL1 c15 4 x155 fun c157 =>
  hLoc1 c157 5 fun x158 =>
  hLocN 7 c17 0 fun x159 =>
  hVal (aBuildSlice E0.L 0 26 1 [0] [x159] s156) fun x160 s161 =>
  hValF (aAppend E0.L 0 26 26 [.val x158, .val x160] s161) fun x162 s163 =>
  hStL1 c157 5 x162 fun c164 =>
  j167 [.agg c164, .agg c18] s163) (
  j167 [.agg c15, .agg c18] s14)))
def draftK (ts : List (Nat × TypeId)) (oks : List Bytes) : AV := match oks with
  | [] => .nils
  | k :: r => .row 1 (some (ts.length, 0)) none ((k :: r).map .str)
def draftW (ts : List (Nat × TypeId)) (ovs : List AV) : AV := match ovs with
  | [] => .nils
  | k :: r => .row 7 (some (ts.length + 1, 0)) none (k :: r)
def draftS (ts : List (Nat × TypeId)) (m : Nat) : Store := match m with
  | 0 => S0 ts
  | m + 1 => ⟨[], 0, (m + 1, 28) :: (m + 1, 9) :: ts, ts.length + 2⟩
/-- Between two appends. -/
def draftH (ts : List (Nat × TypeId)) (m : Nat) : Store := match m with
  | 0 => ⟨[], 0, (1, 9) :: ts, ts.length + 1⟩
  | m + 1 => ⟨[], 0, (m + 1, 28) :: (m + 2, 9) :: ts, ts.length + 2⟩
theorem draftK_snoc (ts : List (Nat × TypeId)) (oks : List Bytes) (k : Bytes) : draftK ts (oks ++ [k]) = .row 1 (some (ts.length, 0)) none ((oks ++ [k]).map .str) := by
  cases oks <;> rfl
theorem draftW_snoc (ts : List (Nat × TypeId)) (oks : List AV) (k : AV) : draftW ts (oks ++ [k]) = .row 7 (some (ts.length + 1, 0)) none (oks ++ [k]) := by
  cases oks <;> rfl
set_option maxRecDepth 1000000 in
theorem append_grow {T e sz by_ : Nat} {z : AV} (h : SlT E0.L T e sz by_ z) (hi : isIntT E0.L T = some false) (hby : by_ ≤ 104) (t : Nat) (tok : Option (Nat × Nat)) (cap : Option Nat) (xs : List AV) (x : AV) (hl : xs.length < big - 1) (st : Store) (ht : st.top t = some (xs.length, e)) :
    aAppend E0.L 0 T T [.val (.row sz (some (t, 0)) none xs), .val (.row sz tok cap [x])] st = some (.val (.row sz (some (t, 0)) none (xs ++ [x])), st.setTop t (xs.length + 1, e)) := by
  unfold big at hl
  have hm : (xs.length + 1) * by_ ≤ maxBytes := by
    unfold maxBytes
    exact Nat.le_trans (Nat.mul_le_mul (show xs.length + 1 ≤ 1099511627776 by omega) hby) (by decide)
  have hm' : xs.length + 1 ≤ maxBytes := by unfold maxBytes; omega
  have h1 : readRow E0.L e st (.row sz tok cap [x]) = some [x] := by simp only [readRow, if_pos h.size]
  have h2 : readRow E0.L e st (.row sz (some (t, 0)) none xs) = some xs := by simp only [readRow, if_pos h.size]
  have ht' : st.top t = some (0 + xs.length, e) := by rw [ht, Nat.zero_add]
  have h3 : appendV E0.L 0 e (.row sz (some (t, 0)) none xs) [x] st = some (.row sz (some (t, 0)) none (xs ++ [x]), st.setTop t (xs.length + 1, e)) := by
    unfold appendV
    simp only [h.bytes, h.size, h.zero, if_pos (And.intro h.zlen h.pos), h2, List.isEmpty_cons, Bool.false_eq_true, if_false, appendRow, List.length_singleton, if_pos (And.intro hm hm'), growV, Nat.zero_add]
    rw [if_pos ht]
  simp only [aAppend, h.el, hi, h1, h3, ansV]
theorem top_a (ts : List (Nat × TypeId)) (p q : Nat) : (Store.mk [] 0 ((p, 28) :: (q, 9) :: ts) (ts.length + 2)).top ts.length = some (q, 9) := by
  show (if ts.length < ts.length + 2 then ((p, 28) :: (q, 9) :: ts)[ts.length + 2 - 1 - ts.length]? else none) = _
  rw [if_pos (by omega), show ts.length + 2 - 1 - ts.length = 1 by omega]; rfl
theorem top_b (ts : List (Nat × TypeId)) (p q : Nat) : (Store.mk [] 0 ((p, 28) :: (q, 9) :: ts) (ts.length + 2)).top (ts.length + 1) = some (p, 28) := by
  show (if ts.length + 1 < ts.length + 2 then ((p, 28) :: (q, 9) :: ts)[ts.length + 2 - 1 - (ts.length + 1)]? else none) = _
  rw [if_pos (by omega), show ts.length + 2 - 1 - (ts.length + 1) = 0 by omega]; rfl
theorem set_a (ts : List (Nat × TypeId)) (p q q' : Nat) : (Store.mk [] 0 ((p, 28) :: (q, 9) :: ts) (ts.length + 2)).setTop ts.length (q', 9) = Store.mk [] 0 ((p, 28) :: (q', 9) :: ts) (ts.length + 2) := by
  show Store.mk [] 0 (((p, 28) :: (q, 9) :: ts).set (ts.length + 2 - 1 - ts.length) (q', 9)) (ts.length + 2) = _
  rw [show ts.length + 2 - 1 - ts.length = 1 by omega]; rfl
theorem set_b (ts : List (Nat × TypeId)) (p q p' : Nat) : (Store.mk [] 0 ((p, 28) :: (q, 9) :: ts) (ts.length + 2)).setTop (ts.length + 1) (p', 28) = Store.mk [] 0 ((p', 28) :: (q, 9) :: ts) (ts.length + 2) := by
  show Store.mk [] 0 (((p, 28) :: (q, 9) :: ts).set (ts.length + 2 - 1 - (ts.length + 1)) (p', 28)) (ts.length + 2) = _
  rw [show ts.length + 2 - 1 - (ts.length + 1) = 0 by omega]; rfl
set_option maxRecDepth 1000000 in
theorem pushK (ts : List (Nat × TypeId)) (oks : List Bytes) (k : Bytes) (tok : Option (Nat × Nat)) (cap : Option Nat) (hl : oks.length < big - 1) :
    aAppend E0.L 0 25 25 [.val (draftK ts oks), .val (.row 1 tok cap [.str k])] (draftS ts oks.length) = some (.val (draftK ts (oks ++ [k])), draftH ts oks.length) := by
  rw [draftK_snoc]
  cases oks with
  | nil => exact append_one sk int25 (by decide) tok cap (.str k) (S0 ts)
  | cons x r =>
    have hlen : ((x :: r).map AV.str).length = r.length + 1 := by simp
    have := append_grow sk int25 (by decide) ts.length tok cap ((x :: r).map AV.str) (.str k) (by rw [hlen]; simpa using hl) (draftS ts (r.length + 1)) (by
      rw [hlen]
      exact top_a ts (r.length + 1) (r.length + 1))
    simp only [List.length_cons]
    rw [show (x :: r ++ [k]).map AV.str = (x :: r).map AV.str ++ [AV.str k] by simp]
    refine this.trans ?_
    rw [hlen]
    exact congrArg (fun s => some (Out.val _, s)) (set_a ts (r.length + 1) (r.length + 1) (r.length + 2))
set_option maxRecDepth 1000000 in
theorem pushW (ts : List (Nat × TypeId)) (ovs : List AV) (y : AV) (tok : Option (Nat × Nat)) (cap : Option Nat) (hl : ovs.length < big - 1) :
    aAppend E0.L 0 26 26 [.val (draftW ts ovs), .val (.row 7 tok cap [y])] (draftH ts ovs.length) = some (.val (draftW ts (ovs ++ [y])), draftS ts (ovs.length + 1)) := by
  rw [draftW_snoc]
  cases ovs with
  | nil => exact append_one sw int26 (by decide) tok cap y ⟨[], 0, (1, 9) :: ts, ts.length + 1⟩
  | cons x r =>
    have := append_grow sw int26 (by decide) (ts.length + 1) tok cap (x :: r) y (by simpa using hl) (draftH ts (r.length + 1)) (by
      exact top_b ts (r.length + 1) (r.length + 2))
    simp only [List.length_cons]
    refine this.trans ?_
    exact congrArg (fun s => some (Out.val _, s)) (set_b ts (r.length + 1) (r.length + 2) (r.length + 2))
end Go.Sim

namespace Go.Sim
open Go.Proofs

/-- What is made of the first i, with one more at lb, and e left out behind it. -/
def gath {α : Type} (l : List α) (lb e : Nat) (x : α) (i : Nat) : List α := if i ≤ lb then l.take i else l.take lb ++ x :: (l.take i).drop (lb + e)
section
variable {α : Type} {l : List α} {lb e i : Nat} {x y : α}
theorem gath_zero : gath l lb e x 0 = [] := by simp [gath]
theorem gath_lt (h : i < lb) (hy : l[i]? = some y) : gath l lb e x (i + 1) = gath l lb e x i ++ [y] := by
  simp only [gath, if_pos (show i + 1 ≤ lb by omega), if_pos (show i ≤ lb by omega)]
  rw [List.take_add_one, hy]; rfl
theorem gath_at0 (h : i = lb) (hy : l[i]? = some y) : gath l lb 0 x (i + 1) = gath l lb 0 x i ++ [x] ++ [y] := by
  subst h
  simp only [gath, if_neg (show ¬ i + 1 ≤ i by omega), if_pos (Nat.le_refl i)]
  have hi := (List.getElem?_eq_some_iff.1 hy).1
  rw [List.take_add_one, hy, Nat.add_zero, List.drop_append_of_le_length (by simp; omega), List.drop_of_length_le (by simp; omega)]
  simp
theorem gath_at1 (h : i = lb) : gath l lb 1 x (i + 1) = gath l lb 1 x i ++ [x] := by
  subst h
  simp only [gath, if_neg (show ¬ i + 1 ≤ i by omega), if_pos (Nat.le_refl i)]
  rw [List.drop_of_length_le (by simp; omega)]
theorem gath_gt (h : lb < i) (he : e ≤ 1) (hy : l[i]? = some y) : gath l lb e x (i + 1) = gath l lb e x i ++ [y] := by
  simp only [gath, if_neg (show ¬ i + 1 ≤ lb by omega), if_neg (show ¬ i ≤ lb by omega)]
  have hi := (List.getElem?_eq_some_iff.1 hy).1
  rw [List.take_add_one, hy, List.drop_append_of_le_length (by simp; omega)]
  simp
theorem gath_len (hlb : lb ≤ l.length) (hi : i ≤ l.length) : (gath l lb e x i).length = if i ≤ lb then i else lb + 1 + (i - (lb + e)) := by
  simp only [gath]
  split
  · simp; omega
  · simp; omega
end
theorem str_geq (t : TypeId) (a b : Bytes) (st : Store) : aBinC E0.L t .geq false (.str a) (.str b) st = some (.val (.bool (!(blt a b))), st) := rfl
theorem x_stK (cs : List AV) (o : Nat) (ts : List (Nat × TypeId)) (oks : List Bytes) (k : List AV → Rs) : hStL1 cs o (draftK ts oks) k = hPut cs o (draftK ts oks) k := by cases oks <;> rfl
theorem x_stW (cs : List AV) (o : Nat) (ts : List (Nat × TypeId)) (oks : List AV) (k : List AV → Rs) : hStL1 cs o (draftW ts oks) k = hPut cs o (draftW ts oks) k := by cases oks <;> rfl
def outA (ts : List (Nat × TypeId)) (oks : List Bytes) (ovs : List AV) : List AV := [.int .i64 (.ofNat 4), .bool false, .str [], .str [], draftK ts oks, draftW ts ovs, .int .i64 (.ofNat 0)]
set_option maxRecDepth 1000000 in
theorem fn38 : E0.L.fn 38 = some Tryz.f38 := by kernel_rfl
set_option maxRecDepth 1000000 in
set_option maxHeartbeats 2000000 in
theorem rset_round (call : Caller) (ih : List AV → Store → Rs) (ts : List (Nat × TypeId)) (t : Int) (b : Bool) (n s : Bytes) (f : Int) {K W : AV} {ks : List Bytes} {vs : List Vl} {xs : List AV} (hk : IsKs K ks) (hW : W = .row 7 none none xs ∨ True) (k : Bytes) (a1 a2 a3 a4 a5 a6 a7 : AV) (z : List AV) (i : Nat) (oks : List Bytes) (ovs : List AV) (hol : oks.length = ovs.length) (hob : oks.length < big - 2)
    {ki : Bytes} {c1 c2 c3 c4 c5 c6 c7 : AV} (hki : ks[i]? = some ki) (hel : ∀ k : AV → Rs, hElem 7 W (.int .i64 (.ofNat i)) k = k (.rptr [c1, c2, c3, c4, c5, c6, c7])) (hlen : ks.length < big) (put : Bool) :
    rsetBody call ih [.agg (outA ts oks ovs), .agg [.int .i64 t, .bool b, .str n, .str s, K, W, .int .i64 f], .agg [a1, a2, a3, a4, a5, a6, a7], .agg z, .int .i64 (.ofNat i), .str k, .bool put] (draftS ts oks.length) =
      ih [.agg (outA ts ((if put = false ∧ blt ki k = false then oks ++ [k] else oks) ++ (if ki = k then [] else [ki])) ((if put = false ∧ blt ki k = false then ovs ++ [.agg [a1, a2, a3, a4, a5, a6, a7]] else ovs) ++ (if ki = k then [] else [.agg [c1, c2, c3, c4, c5, c6, c7]]))), .agg [.int .i64 t, .bool b, .str n, .str s, K, W, .int .i64 f], .agg [a1, a2, a3, a4, a5, a6, a7], .agg z, .int .i64 (.ofNat (i + 1)), .str k, .bool (put || !(blt ki k))]
        (draftS ts ((if put = false ∧ blt ki k = false then oks ++ [k] else oks) ++ (if ki = k then [] else [ki])).length) := by
  have hi := (List.getElem?_eq_some_iff.1 hki).1
  unfold big at hlen hob
  have tail : ∀ (oks : List Bytes) (ovs : List AV) (put : Bool), oks.length = ovs.length → oks.length < big - 1 →
      (hElem 1 K (.int .i64 (.ofNat i)) fun x98 => hLd1 x98 (draftS ts oks.length) fun x99 => hStr (fun x y => !(bEq x y)) x99 (.str k) fun x100 =>
        hIf x100 (hElem 1 K (.int .i64 (.ofNat i)) fun x104 => hLd1 x104 (draftS ts oks.length) fun x105 => hVal (aBuildSlice E0.L 0 25 1 [0] [x105] (draftS ts oks.length)) fun x106 s107 => hValF (aAppend E0.L 0 25 25 [.val (draftK ts oks), .val x106] s107) fun x108 s109 =>
          hStL1 [.int .i64 (.ofNat 4), .bool false, .str [], .str [], draftK ts oks, draftW ts ovs, .int .i64 (.ofNat 0)] 4 x108 fun c110 => hNth c110 5 fun x111 =>
          hValF (aAppend E0.L 0 26 26 [.val x111, .val (.row 7 none (some 1) [.agg [c1, c2, c3, c4, c5, c6, c7]])] s109) fun x117 s118 =>
          hStL1 c110 5 x117 fun c125 => ih [.agg c125, .agg [.int .i64 t, .bool b, .str n, .str s, K, W, .int .i64 f], .agg [a1, a2, a3, a4, a5, a6, a7], .agg z, .int .i64 (.ofNat (i + 1)), .str k, .bool put] s118)
        (ih [.agg [.int .i64 (.ofNat 4), .bool false, .str [], .str [], draftK ts oks, draftW ts ovs, .int .i64 (.ofNat 0)], .agg [.int .i64 t, .bool b, .str n, .str s, K, W, .int .i64 f], .agg [a1, a2, a3, a4, a5, a6, a7], .agg z, .int .i64 (.ofNat (i + 1)), .str k, .bool put] (draftS ts oks.length))) =
      ih [.agg (outA ts (oks ++ (if ki = k then [] else [ki])) (ovs ++ (if ki = k then [] else [.agg [c1, c2, c3, c4, c5, c6, c7]]))), .agg [.int .i64 t, .bool b, .str n, .str s, K, W, .int .i64 f], .agg [a1, a2, a3, a4, a5, a6, a7], .agg z, .int .i64 (.ofNat (i + 1)), .str k, .bool put]
        (draftS ts (oks ++ (if ki = k then [] else [ki])).length) := by
    intro oks ovs put hol hob
    simp only [x_elemK hk hki, x_hLd1_r, x_hStr, x_bEq]
    by_cases he : ki = k
    · simp only [he, decide_true, Bool.not_true, x_hIf_f, if_true, List.append_nil, outA]
    · simp only [he, decide_false, Bool.not_false, x_hIf_t, if_false, x_hVal (build1 _ _)]
      rw [x_hValF (pushK ts oks ki none (some 1) hob), x_stK, hol]
      simp only [x_hPut0, x_hPutS, x_hNth0, x_hNthS]
      rw [x_hValF (pushW ts ovs _ none (some 1) (by omega)), x_stW]
      simp only [x_hPut0, x_hPutS, outA, List.length_append, List.length_singleton, hol]
  cases put with
  | true =>
    simp only [rsetBody, outA, x_un1, x_unAgg, x_hLoc1, x_hNth0, x_hNthS, x_lenK hk, x_hCmpI, x_iLt, decide_eq_true hi, x_hIf_t, x_hNot, Bool.not_true, x_hWB, x_hlet, x_hWant_ft, x_hPick_f, x_hIf_f, hel, x_hLdN_r, x_hCut7, x_hVal (build1 _ _), x_hVal (build1w _ _ _ _ _ _ _ _), x_stRow, x_hPut0, x_hPutS, x_add (show i + 1 < 9223372036854775808 by omega)]
    have := tail oks ovs true hol (by unfold big; omega)
    simpa only [outA, Bool.true_eq_false, false_and, if_false, Bool.true_or] using this
  | false =>
    cases hb : blt ki k with
    | true =>
      simp only [rsetBody, outA, x_un1, x_unAgg, x_hLoc1, x_hNth0, x_hNthS, x_lenK hk, x_hCmpI, x_iLt, decide_eq_true hi, x_hIf_t, x_hNot, Bool.not_false, x_hWB, x_hlet, x_hWant_tt, x_elemK hk hki, x_hLd1_r, x_hVal (str_geq 9 _ _ _), hb, Bool.not_true, x_hPick_t, x_hPick_f, x_hIf_f, hel, x_hLdN_r, x_hCut7, x_hVal (build1 _ _), x_hVal (build1w _ _ _ _ _ _ _ _), x_stRow, x_hPut0, x_hPutS, x_add (show i + 1 < 9223372036854775808 by omega)]
      have := tail oks ovs false hol (by unfold big; omega)
      simp only [x_elemK hk hki, x_hLd1_r, x_hVal (build1 _ _)] at this
      simpa only [outA, Bool.true_eq_false, and_false, if_false, Bool.false_or, Bool.not_true] using this
    | false =>
      simp only [rsetBody, outA, x_un1, x_unAgg, x_hLoc1, x_hNth0, x_hNthS, x_lenK hk, x_hCmpI, x_iLt, decide_eq_true hi, x_hIf_t, x_hNot, Bool.not_false, x_hWB, x_hlet, x_hWant_tt, x_elemK hk hki, x_hLd1_r, x_hVal (str_geq 9 _ _ _), hb, x_hPick_t, x_hPick_f, x_hLocN, x_hCut7, x_hVal (build1 _ _)]
      rw [x_hValF (pushK ts oks k none (some 1) (by unfold big; omega)), x_stK, hol]
      simp only [x_hPut0, x_hPutS, x_hNth0, x_hNthS, x_hVal (build1w _ _ _ _ _ _ _ _)]
      rw [x_hValF (pushW ts ovs _ none (some 1) (by unfold big; omega)), x_stW]
      simp only [x_hPut0, x_hPutS, x_un1, x_unAgg, hel, x_hLdN_r, x_hCut7, x_hVal (build1w _ _ _ _ _ _ _ _), x_hNth0, x_hNthS, x_add (show i + 1 < 9223372036854775808 by omega)]
      have := tail (oks ++ [k]) (ovs ++ [.agg [a1, a2, a3, a4, a5, a6, a7]]) true (by simp [hol]) (by unfold big; simp; omega)
      simp only [x_elemK hk hki, x_hLd1_r, x_hVal (build1 _ _)] at this
      simp only [List.length_append, List.length_singleton, hol] at this
      simpa only [outA, and_self, if_true, Bool.false_or, Bool.not_false, List.length_append, List.length_singleton, hol] using this
end Go.Sim

namespace Go.Sim
open Go.Proofs

/-- A list with one more in it, or another one in it. -/
def putL {α : Type} (l : List α) (lb e : Nat) (x : α) : List α := l.take lb ++ x :: l.drop (lb + e)
/-- 1, if there is such a key. -/
def hasK (ks : List Bytes) (k : Bytes) : Nat := if ks[lbnd k ks]? = some k then 1 else 0
theorem hasK_le (ks : List Bytes) (k : Bytes) : hasK ks k ≤ 1 := by unfold hasK; split <;> omega
theorem setV_put {b1 : Bool} {n s : Bytes} {ks : List Bytes} {vs : List Vl} {f : Int} {k : Bytes} {b : Vl} (hl : ks.length = vs.length) : setV (.mk 4 b1 n s ks vs f) k b = .mk 4 b1 n s (putL ks (lbnd k ks) (hasK ks k) k) (putL vs (lbnd k ks) (hasK ks k) b) f := by
  simp only [setV, if_true, putL, hasK]
  split
  · rename_i h
    have hi := (List.getElem?_eq_some_iff.1 h).1
    have h1 : ks.take (lbnd k ks) ++ k :: ks.drop (lbnd k ks + 1) = ks := by
      have := (List.getElem?_eq_some_iff.1 h).2
      conv => rhs; rw [← List.take_append_drop (lbnd k ks) ks, List.drop_eq_getElem_cons hi, this]
    have h2 : vs.set (lbnd k ks) b = vs.take (lbnd k ks) ++ b :: vs.drop (lbnd k ks + 1) := by
      rw [List.set_eq_take_append_cons_drop, if_pos (by omega)]
    rw [h1, h2]
  · rfl
theorem isVL_put {xs : List AV} {vs : List Vl} {y : AV} {v : Vl} (i e : Nat) (h : IsVL xs vs) (hy : IsV y v) : IsVL (putL xs i e y) (putL vs i e v) := by
  have hd : ∀ (n : Nat) {xs : List AV} {vs : List Vl}, IsVL xs vs → IsVL (xs.drop n) (vs.drop n) := by
    intro n
    induction n with
    | zero => intro xs vs h; exact h
    | succ n ih =>
      intro xs vs h
      cases vs with
      | nil => simp only [IsVL] at h; subst h; simp [IsVL]
      | cons v vs =>
        simp only [IsVL] at h
        obtain ⟨z, zs, rfl, _, h2⟩ := h
        exact ih h2
  have ht : ∀ (n : Nat) {xs : List AV} {vs : List Vl} {ys : List AV} {ws : List Vl}, IsVL xs vs → IsVL ys ws → n ≤ xs.length → IsVL (xs.take n ++ ys) (vs.take n ++ ws) := by
    intro n
    induction n with
    | zero => intro xs vs ys ws _ h _; simpa using h
    | succ n ih =>
      intro xs vs ys ws h h' hn
      cases vs with
      | nil => simp only [IsVL] at h; subst h; simp at hn
      | cons v vs =>
        simp only [IsVL] at h
        obtain ⟨z, zs, rfl, h1, h2⟩ := h
        simp only [List.take_succ_cons, List.cons_append, IsVL]
        exact ⟨z, _, rfl, h1, ih h2 h' (by simpa using hn)⟩
  have h2 : IsVL (y :: xs.drop (i + e)) (v :: vs.drop (i + e)) := by
    simp only [IsVL]; exact ⟨y, _, rfl, hy, hd _ h⟩
  unfold putL
  by_cases hi : i ≤ xs.length
  · exact ht i h h2 hi
  · have hl := isVL_len h
    rw [List.take_of_length_le (by omega), List.take_of_length_le (by omega)]
    have := ht xs.length h h2 (Nat.le_refl _)
    rwa [List.take_length, List.take_of_length_le (by omega)] at this
theorem strips_app : ∀ {a b : List AV}, stripVs a = a → stripVs b = b → stripVs (a ++ b) = a ++ b
  | [], b, _, h => h
  | x :: a, b, h, h' => by
    simp only [stripVs, List.cons.injEq] at h
    simp [stripVs, h.1, strips_app h.2 h']
theorem strips_take : ∀ {a : List AV} (n : Nat), stripVs a = a → stripVs (a.take n) = a.take n
  | a, 0, _ => by simp [stripVs]
  | [], n + 1, _ => by simp [stripVs]
  | x :: a, n + 1, h => by
    simp only [stripVs, List.cons.injEq] at h
    simp [stripVs, h.1, strips_take n h.2]
theorem strips_drop : ∀ {a : List AV} (n : Nat), stripVs a = a → stripVs (a.drop n) = a.drop n
  | a, 0, h => by simpa using h
  | [], n + 1, _ => by simp [stripVs]
  | x :: a, n + 1, h => by
    simp only [stripVs, List.cons.injEq] at h
    simpa using strips_drop n h.2
theorem strips_put {a : List AV} {y : AV} (i e : Nat) (h : stripVs a = a) (hy : stripV y = y) : stripVs (putL a i e y) = putL a i e y :=
  strips_app (strips_take i h) (by simp [stripVs, hy, strips_drop (i + e) h])
theorem put_ne {α : Type} (l : List α) (i e : Nat) (x : α) : putL l i e x ≠ [] := by simp [putL]
end Go.Sim

namespace Go.Sim
open Go.Proofs

theorem b38_eq : b38 = fun call n args st =>
  un1 args fun p0 r0 =>
  un1 r0 fun p1 r1 =>
  un1 r1 fun p2 r2 =>
  un0 r2 (
  hCells p0 fun c0 =>
  hCells p2 fun c1 =>
  hLoc1 c0 0 fun x2 =>
  hCmpI (fun x y => !(iEq x y)) x2 (.int .i64 (.ofNat 4)) fun x3 =>
  hIf x3 (
  hLocN 7 c0 0 fun x5 =>
  hStLN 7 [(.int .i64 (.ofNat 0)), (.bool false), (.str []), (.str []), .nils, .nils, (.int .i64 (.ofNat 0))] 0 x5 fun c6 =>
  hLocN 7 c6 0 fun x7 =>
  some (x7, st)) (
  hFill [(0, 1, (.int .i64 (.ofNat 4)))] [(.int .i64 (.ofNat 0)), (.bool false), (.str []), (.str []), .nils, .nils, (.int .i64 (.ofNat 0))] fun c9 =>
  hStLN 7 [(.int .i64 (.ofNat 0)), (.bool false), (.str []), (.str []), .nils, .nils, (.int .i64 (.ofNat 0))] 0 (.agg c9) fun c10 =>
  hloop (rsetBody call) n [.agg c10, .agg c0, .agg c1, .agg [(.int .i64 (.ofNat 0)), (.bool false), (.str []), (.str []), .nils, .nils, (.int .i64 (.ofNat 0))], (.int .i64 (.ofNat 0)), p1, (.bool false)] st)) := rfl
set_option maxRecDepth 1000000 in
set_option maxHeartbeats 2000000 in
theorem rset_run {x y : AV} {ks : List Bytes} {vs : List Vl} {b : Vl} {k : Bytes} (hx : IsV x (.mk 4 false [] [] ks vs 0)) (hy : IsV y b) (hb : (Vl.mk 4 false [] [] ks vs 0).size < big - 10) (hr : Rising ks) (hlen : ks.length = vs.length) (hs : stripV x = x) (hs' : stripV y = y) : ∃ v, PureRun E0 38 [x, .str k, y] v ∧ GSet [x, .str k, y] v := by
  obtain ⟨K, W, rfl, hk, hw⟩ := isV_iff.1 hx
  obtain ⟨t', b1', n', s', K', W', f', rfl⟩ := isV_cells hy
  have hsz : (Vl.mk 4 false [] [] ks vs 0).size = 1 + 0 + 0 + ksum ks + vsum vs := by simp only [Vl.size, List.length_nil]
  have hkl := ksum_len ks
  have hlb : ks.length < big - 10 := by omega
  obtain ⟨xs, hxs, hel, hsx⟩ : ∃ xs, IsVL xs vs ∧ (∀ i c1 c2 c3 c4 c5 c6 c7, xs[i]? = some (.agg [c1, c2, c3, c4, c5, c6, c7]) → ∀ k : AV → Rs, hElem 7 W (.int .i64 (.ofNat i)) k = k (.rptr [c1, c2, c3, c4, c5, c6, c7])) ∧ stripVs xs = xs := by
    rcases hw with ⟨rfl, rfl⟩ | ⟨tok, cap, xs, rfl, hxs⟩
    · exact ⟨[], rfl, fun i _ _ _ _ _ _ _ h => by simp at h, rfl⟩
    · refine ⟨xs, hxs, fun i _ _ _ _ _ _ _ h k => x_hElem h, ?_⟩
      simp only [stripV, stripVs, AV.agg.injEq, List.cons.injEq, AV.row.injEq, true_and, and_true] at hs
      exact hs.2.2
  have hxl := isVL_len hxs
  have hfk := put_ne ks (lbnd k ks) (hasK ks k) k
  have hfw := put_ne xs (lbnd k ks) (hasK ks k) (.agg [.int .i64 t', .bool b1', .str n', .str s', K', W', .int .i64 f'])
  have hput := isVL_put (lbnd k ks) (hasK ks k) hxs hy
  have hstp := strips_put (lbnd k ks) (hasK ks k) hsx hs'
  have hil := lbnd_le k ks
  have he := hasK_le ks k
  refine ⟨.agg [.int .i64 (.ofNat 4), .bool false, .str [], .str [], .row 1 none none ((putL ks (lbnd k ks) (hasK ks k) k).map .str), .row 7 none none (putL xs (lbnd k ks) (hasK ks k) (.agg [.int .i64 t', .bool b1', .str n', .str s', K', W', .int .i64 f'])), .int .i64 (.ofNat 0)], ?_, ?_⟩
  rotate_left
  · intro x2 k2 y2 a2 b2 h ha hb'
    injection h with e1 e2
    injection e2 with e2 e3
    injection e3 with e3
    injection e2 with e2
    subst e1 e2 e3
    rw [← isV_inj hx ha, ← isV_inj hy hb', setV_put hlen]
    exact ⟨isV_iff.2 ⟨_, _, rfl, .inr ⟨none, none, rfl⟩, .inr ⟨none, none, _, rfl, hput⟩⟩, ⟨by simpa [neatR] using hfk, by simpa [neatR] using hfw⟩, by simp only [stripV, stripVs, strip_keys, hstp]⟩
  refine pure_body e38 fn38 (by show (plainV _ && (true && (plainV _ && true))) = true; rw [isV_plain hx, isV_plain hy]; rfl) (by show [stripV _, _, stripV _] = _; rw [hs, hs']; rfl) fun ts => ?_
  refine ⟨pr0, ks.length + 5, .agg (outA ts (putL ks (lbnd k ks) (hasK ks k) k) (putL xs (lbnd k ks) (hasK ks k) (.agg [.int .i64 t', .bool b1', .str n', .str s', K', W', .int .i64 f']))), draftS ts (putL ks (lbnd k ks) (hasK ks k) k).length, [((putL ks (lbnd k ks) (hasK ks k) k).length, 28), ((putL ks (lbnd k ks) (hasK ks k) k).length, 9)], prOk0, ?_, ?_, ?_, ?_⟩
  · have ht' : decide ((4 : Int) = Int.ofNat 4) = true := by decide
    have key : hloop (rsetBody (Call pr0 (ks.length + 5))) (ks.length + 5) [.agg (outA ts [] []), .agg [.int .i64 4, .bool false, .str [], .str [], K, W, .int .i64 0], .agg [.int .i64 t', .bool b1', .str n', .str s', K', W', .int .i64 f'], .agg [.int .i64 (.ofNat 0), .bool false, .str [], .str [], .nils, .nils, .int .i64 (.ofNat 0)], .int .i64 (.ofNat 0), .str k, .bool false] (S0 ts) =
        some (.agg (outA ts (putL ks (lbnd k ks) (hasK ks k) k) (putL xs (lbnd k ks) (hasK ks k) (.agg [.int .i64 t', .bool b1', .str n', .str s', K', W', .int .i64 f']))), draftS ts (putL ks (lbnd k ks) (hasK ks k) k).length) := by
      refine loop_rule (fun m vals st => ∃ i, vals = [.agg (outA ts (gath ks (lbnd k ks) (hasK ks k) k i) (gath xs (lbnd k ks) (hasK ks k) (.agg [.int .i64 t', .bool b1', .str n', .str s', K', W', .int .i64 f']) i)), .agg [.int .i64 4, .bool false, .str [], .str [], K, W, .int .i64 0], .agg [.int .i64 t', .bool b1', .str n', .str s', K', W', .int .i64 f'], .agg [.int .i64 (.ofNat 0), .bool false, .str [], .str [], .nils, .nils, .int .i64 (.ofNat 0)], .int .i64 (.ofNat i), .str k, .bool (decide (lbnd k ks < i))] ∧ st = draftS ts (gath ks (lbnd k ks) (hasK ks k) k i).length ∧ i + m = ks.length) ?_ ?_ ks.length _ _ _ ⟨0, by simp [gath_zero], by simp [gath_zero, draftS], by omega⟩ (by omega)
      · intro m vals st ih ⟨i, hv, hst, hi⟩ hnext
        subst hv hst
        have hlt : i < ks.length := by omega
        have hg : ks[i]? = some ks[i] := List.getElem?_eq_getElem hlt
        have hgx : xs[i]? = some (xs[i]'(by omega)) := List.getElem?_eq_getElem (by omega)
        obtain ⟨z, hz1, hz2⟩ := isVL_get hxs (List.getElem?_eq_getElem (l := vs) (i := i) (by omega))
        rw [hgx] at hz1; injection hz1 with hz1
        obtain ⟨q1, q2, q3, q4, q5, q6, q7, hq⟩ := isV_cells hz2
        have hgx' : xs[i]? = some (.agg [.int .i64 q1, .bool q2, .str q3, .str q4, q5, q6, .int .i64 q7]) := by rw [hgx, hz1, hq]
        have hol : (gath ks (lbnd k ks) (hasK ks k) k i).length = (gath xs (lbnd k ks) (hasK ks k) (.agg [.int .i64 t', .bool b1', .str n', .str s', K', W', .int .i64 f']) i).length := by
          rw [gath_len hil (by omega), gath_len (by omega) (by omega)]
        have hob : (gath ks (lbnd k ks) (hasK ks k) k i).length < big - 2 := by
          rw [gath_len hil (by omega)]; unfold big at hlb ⊢; split <;> omega
        rw [rset_round (vs := vs) (xs := xs) (Call pr0 (ks.length + 5)) ih ts 4 false [] [] 0 hk (.inr trivial) k _ _ _ _ _ _ _ _ i _ _ hol hob hg (hel i _ _ _ _ _ _ _ hgx') (by unfold big at hlb ⊢; omega) (decide (lbnd k ks < i))]
        have F : ((if decide (lbnd k ks < i) = false ∧ blt ks[i] k = false then gath ks (lbnd k ks) (hasK ks k) k i ++ [k] else gath ks (lbnd k ks) (hasK ks k) k i) ++ (if ks[i] = k then [] else [ks[i]]) = gath ks (lbnd k ks) (hasK ks k) k (i + 1)) ∧
            ((if decide (lbnd k ks < i) = false ∧ blt ks[i] k = false then gath xs (lbnd k ks) (hasK ks k) (.agg [.int .i64 t', .bool b1', .str n', .str s', K', W', .int .i64 f']) i ++ [(.agg [.int .i64 t', .bool b1', .str n', .str s', K', W', .int .i64 f'])] else gath xs (lbnd k ks) (hasK ks k) (.agg [.int .i64 t', .bool b1', .str n', .str s', K', W', .int .i64 f']) i) ++ (if ks[i] = k then [] else [.agg [.int .i64 q1, .bool q2, .str q3, .str q4, q5, q6, .int .i64 q7]]) = gath xs (lbnd k ks) (hasK ks k) (.agg [.int .i64 t', .bool b1', .str n', .str s', K', W', .int .i64 f']) (i + 1)) ∧ (decide (lbnd k ks < i) || !(blt ks[i] k)) = decide (lbnd k ks < i + 1) := by
          rcases Nat.lt_trichotomy i (lbnd k ks) with h | h | h
          · have hb1 := lbnd_lt h hg
            have hne : ks[i] ≠ k := fun e => by rw [e, blt_irrefl] at hb1; cases hb1
            rw [gath_lt h hg, gath_lt h hgx', decide_eq_false (show ¬ lbnd k ks < i by omega), decide_eq_false (show ¬ lbnd k ks < i + 1 by omega), hb1]
            simp [hne]
          · have hb1 := lbnd_ge (k := k) hr (by omega) hg
            rw [decide_eq_false (show ¬ lbnd k ks < i by omega), decide_eq_true (show lbnd k ks < i + 1 by omega), hb1]
            by_cases hek : ks[i] = k
            · have h1 : hasK ks k = 1 := by unfold hasK; rw [← h, hg, hek]; simp
              rw [h1, gath_at1 h, gath_at1 h]
              simp [hek]
            · have h1 : hasK ks k = 0 := by unfold hasK; rw [← h, hg]; simp [hek]
              rw [h1, gath_at0 h hg, gath_at0 h hgx']
              simp [hek]
          · have hb1 := lbnd_ge (k := k) hr (by omega) hg
            have hlb2 : lbnd k ks < ks.length := by omega
            have hne : ks[i] ≠ k := fun e => by
              have h1 := lbnd_ge hr (Nat.le_refl _) (List.getElem?_eq_getElem hlb2)
              have h2 := List.pairwise_iff_getElem.1 hr (lbnd k ks) i hlb2 hlt h
              rw [e] at h2
              rw [h1] at h2; cases h2
            rw [gath_gt h he hg, gath_gt h he hgx', decide_eq_true h, decide_eq_true (show lbnd k ks < i + 1 by omega)]
            simp [hne]
        obtain ⟨F1, F2, F3⟩ := F
        exact hnext _ _ ⟨i + 1, by rw [F1, F2, F3], by rw [F1], by omega⟩
      · intro vals st ih ⟨i, hv, hst, hi⟩
        subst hv hst
        have hi : i = ks.length := by omega
        subst hi
        simp only [rsetBody, x_un1, x_unAgg, x_hLoc1, x_hNth0, x_hNthS, x_lenK hk, x_hCmpI, x_iLt, decide_eq_false (Nat.lt_irrefl _), x_hIf_f, x_hNot, x_hlet]
        by_cases hlb3 : lbnd k ks < ks.length
        · have g1 : gath ks (lbnd k ks) (hasK ks k) k ks.length = putL ks (lbnd k ks) (hasK ks k) k := by
            simp only [gath, if_neg (show ¬ ks.length ≤ lbnd k ks by omega), List.take_length, putL]
          have g2 : gath xs (lbnd k ks) (hasK ks k) (.agg [.int .i64 t', .bool b1', .str n', .str s', K', W', .int .i64 f']) ks.length = putL xs (lbnd k ks) (hasK ks k) (.agg [.int .i64 t', .bool b1', .str n', .str s', K', W', .int .i64 f']) := by
            simp only [gath, if_neg (show ¬ ks.length ≤ lbnd k ks by omega), putL]
            rw [hlen, ← hxl, List.take_length]
          rw [decide_eq_true hlb3, g1, g2]
          simp only [Bool.not_true, x_hIf_f, x_un1, x_unAgg, outA, x_hLocN, x_hCut7, x_hStLN7]
        · have hl2 : lbnd k ks = ks.length := by omega
          have h1 : hasK ks k = 0 := by unfold hasK; rw [hl2, List.getElem?_eq_none (Nat.le_refl _)]; simp
          have g1 : gath ks (lbnd k ks) (hasK ks k) k ks.length = ks := by
            simp only [gath, if_pos (show ks.length ≤ lbnd k ks by omega), List.take_length]
          have g2 : gath xs (lbnd k ks) (hasK ks k) (.agg [.int .i64 t', .bool b1', .str n', .str s', K', W', .int .i64 f']) ks.length = xs := by
            simp only [gath, if_pos (show ks.length ≤ lbnd k ks by omega)]
            rw [hlen, ← hxl, List.take_length]
          have g3 : putL ks (lbnd k ks) (hasK ks k) k = ks ++ [k] := by
            simp only [putL, hl2, h1, List.take_length]; simp
          have g4 : putL xs (lbnd k ks) (hasK ks k) (.agg [.int .i64 t', .bool b1', .str n', .str s', K', W', .int .i64 f']) = xs ++ [(.agg [.int .i64 t', .bool b1', .str n', .str s', K', W', .int .i64 f'])] := by
            simp only [putL, hl2, h1]
            rw [hlen, ← hxl, List.take_length]; simp
          have hxk : ks.length = xs.length := by omega
          rw [decide_eq_false hlb3, g1, g2, g3, g4]
          simp only [Bool.not_false, x_hIf_t, outA, x_hNth0, x_hNthS, x_hVal (build1 _ _)]
          unfold big at hlb
          rw [x_hValF (pushK ts ks k none (some 1) (by unfold big; omega)), x_stK, hxk]
          simp only [x_hPut0, x_hPutS, x_hNth0, x_hNthS, x_hLocN, x_hCut7, x_hVal (build1w _ _ _ _ _ _ _ _)]
          rw [x_hValF (pushW ts xs _ none (some 1) (by unfold big; omega)), x_stW]
          simp only [x_hPut0, x_hPutS, x_un1, x_unAgg, x_hLocN, x_hCut7, x_hStLN7, List.length_append, List.length_singleton, hxk]
    simp only [b38_eq, x_un1, x_un0, x_hCells, x_hLoc1, x_hNth0, x_hCmpI, x_iEq, ht', Bool.not_true, x_hIf_f]
    exact key
  · cases hp : putL ks (lbnd k ks) (hasK ks k) k with
    | nil => exact absurd hp hfk
    | cons a r => rfl
  · cases hp : putL ks (lbnd k ks) (hasK ks k) k with
    | nil => exact absurd hp hfk
    | cons a r =>
      cases hq : putL xs (lbnd k ks) (hasK ks k) (.agg [.int .i64 t', .bool b1', .str n', .str s', K', W', .int .i64 f']) with
      | nil => exact absurd hq hfw
      | cons a' r' =>
        have h2 := isVL_plain hput
        rw [hq] at h2
        have h2' : (plainV a' && plainVs r') = true := h2
        simp only [outA, draftK, draftW, plainV, plainVs, plain_keys]
        rw [h2']; rfl
  · cases hp : putL ks (lbnd k ks) (hasK ks k) k with
    | nil => exact absurd hp hfk
    | cons a r =>
      cases hq : putL xs (lbnd k ks) (hasK ks k) (.agg [.int .i64 t', .bool b1', .str n', .str s', K', W', .int .i64 f']) with
      | nil => exact absurd hq hfw
      | cons a' r' =>
        rw [hq] at hstp
        have h3 : stripV a' :: stripVs r' = a' :: r' := hstp
        simp only [outA, draftK, draftW, stripV, stripVs, strip_keys]
        rw [h3]
end Go.Sim

namespace Go.Sim
open Go.Proofs

theorem pureP_det {E : Env} {k : FuncId} {Good : List AV → AV → Prop} {args args' : List AV} {st st' : Store} {v : AV} (h : pureP E k Good args st = some (v, st)) (hs : stripVs args' = stripVs args) (hp : plainVs args' = true) : pureP E k Good args' st' = some (v, st') := by
  unfold pureP at h ⊢
  split at h
  · rename_i hh
    injection h with h; injection h with h1 h2
    have hh' : plainVs args' = true ∧ ∃ v, PureRun E k (stripVs args') v ∧ Good (stripVs args') v := ⟨hp, by rw [hs]; exact hh.2⟩
    rw [dif_pos hh']
    have key : ∀ (s s' : List AV) (e : s' = s) (p : ∃ v, PureRun E k s v ∧ Good s v) (p' : ∃ v, PureRun E k s' v ∧ Good s' v), Classical.choose p' = Classical.choose p := by
      intro s s' e p p'
      subst e
      rfl
    rw [key _ _ hs hh.2 hh'.2, h1]
  · cases h
/-- Where a draft lies. -/
def SD (B : AV) (a : Nat) (tops : List (Nat × TypeId)) : Store := ⟨[.cells [B, .int .i64 (.ofNat a)]], 1, tops, tops.length⟩
def IsB (B : AV) (xs : List UInt8) : Prop := ((B = .nils ∨ B = .zsl) ∧ xs = []) ∨ ∃ tok cap, B = .row 1 tok cap (xs.map fun b => .int .u8 (.ofNat b.toNat))
def nextR (xs : List UInt8) (a m : Nat) : Nat := match xs[a % xs.length]? with
  | some b => (b.toNat + (a / xs.length) % 256) % 256 % m
  | none => 0
def nextA (xs : List UInt8) (a : Nat) : Nat := match xs with
  | [] => a
  | _ :: _ => a + 1
theorem nextR_lt (xs : List UInt8) (a : Nat) {m : Nat} (hm : 0 < m) : nextR xs a m < m := by
  unfold nextR; split
  · exact Nat.mod_lt _ hm
  · exact hm
theorem nextA_le (xs : List UInt8) (a : Nat) : nextA xs a ≤ a + 1 := by
  unfold nextA; split <;> omega
theorem x_lenB {B : AV} {xs : List UInt8} {k : AV → Rs} (h : IsB B xs) : hLenR B k = k (.int .i64 (.ofNat xs.length)) := by
  rcases h with ⟨rfl | rfl, rfl⟩ | ⟨tok, cap, rfl⟩
  · rfl
  · rfl
  · rw [x_hLenR_r, List.length_map]
theorem int_rem (t : TypeId) (kd : IntKind) (p q : Nat) (hq : q ≠ 0) (c : Bool) (st : Store) : aBinC E0.L t .rem c (.int kd (.ofNat p)) (.int kd (.ofNat q)) st = some (.val (.int kd (.ofNat (p % q))), st) := by
  have : ¬ (Int.ofNat q = 0) := by
    intro e; exact hq (Int.ofNat.inj e)
  simp only [aBinC, binC, intV, if_true, intOp, if_neg this]
  rfl
theorem int_quo (t : TypeId) (p q : Nat) (hq : q ≠ 0) (c : Bool) (st : Store) (hp : p < 9223372036854775808) : aBinC E0.L t .quo c (.int .i64 (.ofNat p)) (.int .i64 (.ofNat q)) st = some (.val (.int .i64 (.ofNat (p / q))), st) := by
  have : ¬ (Int.ofNat q = 0) := by
    intro e; exact hq (Int.ofNat.inj e)
  have h2 : IntKind.i64.wrap ((Int.ofNat p).tdiv (Int.ofNat q)) = Int.ofNat (p / q) := wrap_nat (show p / q < _ from Nat.lt_of_le_of_lt (Nat.div_le_self p q) hp)
  simp only [aBinC, binC, intV, if_true, intOp, if_neg this, h2]
theorem wrap_u8 (n : Nat) : IntKind.u8.wrap (.ofNat n) = .ofNat (n % 256) := by
  simp only [IntKind.wrap, IntKind.bits, IntKind.signed]
  rfl
theorem x_add8 (a b : Nat) (k : AV → Rs) : hArith Int.add (.int .u8 (.ofNat a)) (.int .u8 (.ofNat b)) k = k (.int .u8 (.ofNat ((a + b) % 256))) := by
  rw [x_hArith]; exact congrArg (fun z => k (.int .u8 z)) (wrap_u8 (a + b))
theorem x_sub {a b : Nat} {k : AV → Rs} (h : b ≤ a) (ha : a < 9223372036854775808) : hArith Int.sub (.int .i64 (.ofNat a)) (.int .i64 (.ofNat b)) k = k (.int .i64 (.ofNat (a - b))) := by
  rw [x_hArith]
  have : Int.sub (.ofNat a) (.ofNat b) = .ofNat (a - b) := by
    show (a : Int) - (b : Int) = ((a - b : Nat) : Int)
    omega
  rw [this, wrap_nat (by omega)]
set_option maxRecDepth 1000000 in
theorem fn83 : E0.L.fn 83 = some Tryz.f83 := by kernel_rfl
theorem p0_83 : pr0 83 = none := by kernel_rfl
theorem p0_46 : pr0 46 = none := by kernel_rfl
set_option maxRecDepth 1000000 in
set_option maxHeartbeats 1000000 in
theorem next_call {pr : Prims} (h83 : pr 83 = none) {B : AV} {xs : List UInt8} (hB : IsB B xs) {a m : Nat} (hm : 0 < m) (ha : a < big) (hx : xs.length < big) (n : Nat) (tops : List (Nat × TypeId)) :
    Call pr (n + 1) (Fv 83) [.ptr 0 0, .int .i64 (.ofNat m)] (SD B a tops) = some (.int .i64 (.ofNat (nextR xs a m)), SD B (nextA xs a) tops) := by
  unfold big at ha hx
  refine call_body e83 fn83 h83 (first := []) (cap := []) ?_
  have h1 : (SD B a tops).getCells 0 = some [B, .int .i64 (.ofNat a)] := rfl
  have h2 : (SD B (a + 1) tops).getCells 0 = some [B, .int .i64 (.ofNat (a + 1))] := rfl
  have h3 : (SD B a tops).put 0 ([B, .int .i64 (.ofNat a)].set 1 (.int .i64 (.ofNat (a + 1)))) = SD B (a + 1) tops := rfl
  simp only [b83, List.nil_append, List.append_nil, x_un1, x_un0, x_hNN (show notNil (.ptr 0 0) = true from rfl), x_hAddr_p, Nat.zero_add, x_hLd1_p h1, x_hNth0, x_lenB hB, x_hCmpI, x_iEq]
  cases xs with
  | nil =>
    simp only [List.length_nil, decide_true, x_hIf_t, nextR, nextA, List.getElem?_nil]
  | cons x r =>
    have hne : (x :: r).length ≠ 0 := by simp
    have : decide (Int.ofNat (x :: r).length = Int.ofNat 0) = false := by
      refine decide_eq_false fun e => hne (Int.ofNat.inj e)
    have hlt : a % (x :: r).length < (x :: r).length := Nat.mod_lt _ (by simp)
    have hg : (x :: r)[a % (x :: r).length]? = some ((x :: r)[a % (x :: r).length]) := List.getElem?_eq_getElem hlt
    simp only [this, x_hIf_f]
    simp only [x_hNthS, x_hNth0, x_add (show a + 1 < 9223372036854775808 by omega), x_hSt1_p h1 (show oneC (.int .i64 (.ofNat (a + 1))) = true from rfl) (show 1 < [B, AV.int .i64 (.ofNat a)].length by simp), h3, x_hLd1_p h2, x_sub (show 1 ≤ a + 1 by omega) (show a + 1 < 9223372036854775808 by omega), Nat.add_sub_cancel, x_lenB hB, x_hVal (int_rem 3 .i64 a (x :: r).length hne false _), x_hVal (int_quo 3 a (x :: r).length hne false _ (by omega))]
    have hel : ∀ k : AV → Rs, hElem 1 B (.int .i64 (.ofNat (a % (x :: r).length))) k = k (.rptr [.int .u8 (.ofNat ((x :: r)[a % (x :: r).length]).toNat)]) := by
      intro k
      rcases hB with ⟨_, h⟩ | ⟨tok, cap, rfl⟩
      · cases h
      · rw [x_hElem (y := .int .u8 (.ofNat ((x :: r)[a % (x :: r).length]).toNat)) (by rw [List.getElem?_map, hg]; rfl)]; rfl
    simp only [hel, x_hLd1_r, x_hConvI, wrap_u8, x_add8]
    rw [wrap_nat (show _ % 256 < 9223372036854775808 by omega)]
    rw [x_hVal (int_rem 3 .i64 _ m (by omega) false _)]
    simp only [nextR, nextA, hg]
end Go.Sim

namespace Go.Sim
open Go.Proofs

noncomputable def dictBody (call : Caller) : (List AV → Store → Rs) → List AV → Store → Rs :=
  (fun h154 v155 s156 =>
  un1 v155 fun a164 v165 =>
  unAgg a164 fun c157 =>
  un1 v165 fun a166 v167 =>
  unAgg a166 fun c158 =>
  un1 v167 fun x159 v168 =>
  un1 v168 fun x160 v169 =>
  un1 v169 fun x161 v170 =>
  un1 v170 fun x162 v171 =>
  un1 v171 fun x163 v172 =>
  hCmpI iLt x159 x163 fun x173 =>
  hIf x173 (
  hFrees [.loc 8 0 c157] (
  hLocN 7 c157 0 fun x178 =>
  hVal (aBuildSlice E0.L 0 25 5 [0, 1, 2, 3, 4] [(.str [97]), (.str [98]), (.str []), (.str [107]), (.str [122, 122])] s156) fun x179 s180 =>
  hCall call (.func (.func 83) [] []) [x162, (.int .i64 (.ofNat 5))] s180 fun x181 s182 =>
  hElem 1 x179 x181 fun x183 =>
  hFrees [.val x183] (
  hLd1 x183 s182 fun x184 =>
  hNotPtrs [.val x161, .val (.int .i64 (.ofNat 1))] (
  hArith Int.sub x161 (.int .i64 (.ofNat 1)) fun x185 =>
  hCall call (.func (.func 46) [] []) [x162, x185, x160] s182 fun x186 s187 =>
  hCall call (.func (.func 38) [] []) [x178, x184, x186] s187 fun x188 s189 =>
  hStLN 7 c157 0 x188 fun c190 =>
  hArith Int.add x159 (.int .i64 (.ofNat 1)) fun x192 =>
  h154 [.agg c190, .agg c158, x192, x160, x161, x162, x163] s189)))) (
  hLocN 7 c157 0 fun x193 =>
  hStLN 7 c158 0 x193 fun c194 =>
  hLocN 7 c194 0 fun x195 =>
  some (x195, s156)))
noncomputable def funBody (call : Caller) : (List AV → Store → Rs) → List AV → Store → Rs :=
  (fun h216 v217 s218 =>
  un1 v217 fun a226 v227 =>
  unAgg a226 fun c219 =>
  un1 v227 fun a228 v229 =>
  unAgg a228 fun c220 =>
  un1 v229 fun x221 v230 =>
  un1 v230 fun x222 v231 =>
  un1 v231 fun x223 v232 =>
  un1 v232 fun x224 v233 =>
  un1 v233 fun x225 v234 =>
  hCmpI iLt x221 x225 fun x235 =>
  hIf x235 (
  hFrees [.loc 11 5 c219] (
  hLoc1 c219 5 fun x240 =>
  hArith Int.sub x223 (.int .i64 (.ofNat 1)) fun x241 =>
  hCall call (.func (.func 46) [] []) [x224, x241, x222] s218 fun x242 s243 =>
  hVal (aBuildSlice E0.L 0 26 1 [0] [x242] s243) fun x244 s245 =>
  hValF (aAppend E0.L 0 26 26 [.val x240, .val x244] s245) fun x246 s247 =>
  hStL1 c219 5 x246 fun c248 =>
  hArith Int.add x221 (.int .i64 (.ofNat 1)) fun x250 =>
  h216 [.agg c248, .agg c220, x250, x222, x223, x224, x225] s247)) (
  hLocN 7 c219 0 fun x251 =>
  hStLN 7 c220 0 x251 fun c252 =>
  hLocN 7 c252 0 fun x253 =>
  some (x253, s218)))
noncomputable def valDisp (call : Caller) (n : Nat) : List AV → Store → Rs :=
  (fun v15 s16 =>
  un1 v15 fun a22 v23 =>
  unAgg a22 fun c17 =>
  un1 v23 fun x18 v24 =>
  un1 v24 fun x19 v25 =>
  un1 v25 fun x20 v26 =>
  un1 v26 fun x21 v27 =>
  hCmpI iEq x18 (.int .i64 (.ofNat 0)) fun x29 =>
  hIf x29 (
  hFill [] [(.int .i64 (.ofNat 0)), (.bool false), (.str []), (.str []), .nils, .nils, (.int .i64 (.ofNat 0))] fun c31 =>
  hStLN 7 c17 0 (.agg c31) fun c32 =>
  hLocN 7 c32 0 fun x33 =>
  some (x33, s16)) (
  hCmpI iEq x18 (.int .i64 (.ofNat 1)) fun x34 =>
  hIf x34 (
  hCall call (.func (.func 83) [] []) [x19, (.int .i64 (.ofNat 2))] s16 fun x36 s37 =>
  hCmpI iEq x36 (.int .i64 (.ofNat 1)) fun x38 =>
  hFill [(0, 1, (.int .i64 (.ofNat 1))), (1, 1, x38)] [(.int .i64 (.ofNat 0)), (.bool false), (.str []), (.str []), .nils, .nils, (.int .i64 (.ofNat 0))] fun c39 =>
  hStLN 7 c17 0 (.agg c39) fun c40 =>
  hLocN 7 c40 0 fun x41 =>
  some (x41, s37)) (
  hCmpI iEq x18 (.int .i64 (.ofNat 2)) fun x42 =>
  hlet (α := List AV → Store → Rs) (fun v48 s49 =>
  un1 v48 fun a56 v57 =>
  unAgg a56 fun c50 =>
  un1 v57 fun x51 v58 =>
  un1 v58 fun x52 v59 =>
  un1 v59 fun x53 v60 =>
  un1 v60 fun x54 v61 =>
  un1 v61 fun x55 v62 =>
  hIf x51 (
  hVal (aBuildSlice E0.L 0 25 9 [0, 1, 2, 3, 4, 5, 6, 7, 8] [(.str [48]), (.str [49]), (.str [45, 49]), (.str [50]), (.str [55]), (.str [45, 49, 50]), (.str [51, 48, 48]), (.str [49, 50, 51, 52, 53, 54, 55, 56, 57, 48, 49, 50, 51, 52, 53, 54, 55, 56, 57, 48, 49]), (.str [45, 57, 57, 57, 57, 57, 57, 57, 57, 57, 57, 57, 57, 57, 57, 57, 57, 57, 57, 57, 57])] s49) fun x64 s65 =>
  hCall call (.func (.func 83) [] []) [x55, (.int .i64 (.ofNat 9))] s65 fun x66 s67 =>
  hElem 1 x64 x66 fun x68 =>
  hLd1 x68 s67 fun x69 =>
  hFill [(0, 1, (.int .i64 (.ofNat 2))), (2, 1, x69)] [(.int .i64 (.ofNat 0)), (.bool false), (.str []), (.str []), .nils, .nils, (.int .i64 (.ofNat 0))] fun c70 =>
  hStLN 7 c50 0 (.agg c70) fun c71 =>
  hLocN 7 c71 0 fun x72 =>
  some (x72, s67)) (
  hCmpI iEq x54 (.int .i64 (.ofNat 4)) fun x73 =>
  hlet (α := List AV → Store → Rs) (fun v79 s80 =>
  un1 v79 fun a87 v88 =>
  unAgg a87 fun c81 =>
  un1 v88 fun x82 v89 =>
  un1 v89 fun x83 v90 =>
  un1 v90 fun x84 v91 =>
  un1 v91 fun x85 v92 =>
  un1 v92 fun x86 v93 =>
  hIf x82 (
  hVal (aBuildSlice E0.L 0 25 7 [0, 1, 2, 3, 4, 5, 6] [(.str []), (.str [97]), (.str [98]), (.str [97, 98]), (.str [107]), (.str [0, 255]), (.str [108, 111, 110, 103, 32, 116, 101, 120, 116, 32, 34, 111, 102, 34, 32, 98, 121, 116, 101, 115])] s80) fun x95 s96 =>
  hCall call (.func (.func 83) [] []) [x86, (.int .i64 (.ofNat 7))] s96 fun x97 s98 =>
  hElem 1 x95 x97 fun x99 =>
  hLd1 x99 s98 fun x100 =>
  hFill [(0, 1, (.int .i64 (.ofNat 3))), (3, 1, x100)] [(.int .i64 (.ofNat 0)), (.bool false), (.str []), (.str []), .nils, .nils, (.int .i64 (.ofNat 0))] fun c101 =>
  hStLN 7 c81 0 (.agg c101) fun c102 =>
  hLocN 7 c102 0 fun x103 =>
  some (x103, s98)) (
  hCmpI iEq x83 (.int .i64 (.ofNat 6)) fun x104 =>
  hlet (α := List AV → Store → Rs) (fun v110 s111 =>
  un1 v110 fun a118 v119 =>
  unAgg a118 fun c112 =>
  un1 v119 fun x113 v120 =>
  un1 v120 fun x114 v121 =>
  un1 v121 fun x115 v122 =>
  un1 v122 fun x116 v123 =>
  un1 v123 fun x117 v124 =>
  hIf x113 (
  hFill [(0, 1, (.int .i64 (.ofNat 4)))] [(.int .i64 (.ofNat 0)), (.bool false), (.str []), (.str []), .nils, .nils, (.int .i64 (.ofNat 0))] fun c126 =>
  hStLN 7 c112 0 (.agg c126) fun c127 =>
  hLocN 7 c127 0 fun x128 =>
  some (x128, s111)) (
  hCmpI iEq x117 (.int .i64 (.ofNat 8)) fun x129 =>
  hlet (α := List AV → Store → Rs) (fun v135 s136 =>
  un1 v135 fun a142 v143 =>
  unAgg a142 fun c137 =>
  un1 v143 fun x138 v144 =>
  un1 v144 fun x139 v145 =>
  un1 v145 fun x140 v146 =>
  un1 v146 fun x141 v147 =>
  hIf x138 (
  hFill [(0, 1, (.int .i64 (.ofNat 4)))] [(.int .i64 (.ofNat 0)), (.bool false), (.str []), (.str []), .nils, .nils, (.int .i64 (.ofNat 0))] fun c149 =>
  hStLN 7 [(.int .i64 (.ofNat 0)), (.bool false), (.str []), (.str []), .nils, .nils, (.int .i64 (.ofNat 0))] 0 (.agg c149) fun c150 =>
  hCall call (.func (.func 83) [] []) [x141, (.int .i64 (.ofNat 4))] s136 fun x151 s152 =>
  hloop (dictBody call) n [.agg c150, .agg c137, (.int .i64 (.ofNat 0)), x139, x140, x141, x151] s152) (
  hNot x139 fun x203 =>
  hIf x203 (
  hFill [(0, 1, (.int .i64 (.ofNat 3))), (3, 1, (.str [97]))] [(.int .i64 (.ofNat 0)), (.bool false), (.str []), (.str []), .nils, .nils, (.int .i64 (.ofNat 0))] fun c205 =>
  hStLN 7 c137 0 (.agg c205) fun c206 =>
  hLocN 7 c206 0 fun x207 =>
  some (x207, s136)) (
  hCall call (.func (.func 83) [] []) [x141, (.int .i64 (.ofNat 9))] s136 fun x209 s210 =>
  hFill [(0, 1, (.int .i64 (.ofNat 5))), (6, 1, x209)] [(.int .i64 (.ofNat 0)), (.bool false), (.str []), (.str []), .nils, .nils, (.int .i64 (.ofNat 0))] fun c211 =>
  hStLN 7 [(.int .i64 (.ofNat 0)), (.bool false), (.str []), (.str []), .nils, .nils, (.int .i64 (.ofNat 0))] 0 (.agg c211) fun c212 =>
  hCall call (.func (.func 83) [] []) [x141, (.int .i64 (.ofNat 3))] s210 fun x213 s214 =>
  hloop (funBody call) n [.agg c212, .agg c137, (.int .i64 (.ofNat 0)), x139, x140, x141, x213] s214))) fun j134 =>
  hIf x129 (
  j134 [.agg c112, x129, x116, x115, x114] s111) (
  hCmpI iEq x117 (.int .i64 (.ofNat 9)) fun x132 =>
  j134 [.agg c112, x132, x116, x115, x114] s111))) fun j109 =>
  hIf x104 (
  j109 [.agg c81, x104, x86, x85, x84, x83] s80) (
  hCmpI iEq x83 (.int .i64 (.ofNat 7)) fun x107 =>
  j109 [.agg c81, x107, x86, x85, x84, x83] s80))) fun j78 =>
  hIf x73 (
  j78 [.agg c50, x73, x54, x53, x52, x55] s49) (
  hCmpI iEq x54 (.int .i64 (.ofNat 5)) fun x76 =>
  j78 [.agg c50, x76, x54, x53, x52, x55] s49))) fun j47 =>
  hIf x42 (
  j47 [.agg c17, x42, x20, x21, x18, x19] s16) (
  hCmpI iEq x18 (.int .i64 (.ofNat 3)) fun x45 =>
  j47 [.agg c17, x45, x20, x21, x18, x19] s16))))
def numsL : List Bytes := [[48], [49], [45, 49], [50], [55], [45, 49, 50], [51, 48, 48], [49, 50, 51, 52, 53, 54, 55, 56, 57, 48, 49, 50, 51, 52, 53, 54, 55, 56, 57, 48, 49], [45, 57, 57, 57, 57, 57, 57, 57, 57, 57, 57, 57, 57, 57, 57, 57, 57, 57, 57, 57, 57]]
def strsL : List Bytes := [[], [97], [98], [97, 98], [107], [0, 255], [108, 111, 110, 103, 32, 116, 101, 120, 116, 32, 34, 111, 102, 34, 32, 98, 121, 116, 101, 115]]
def keysL : List Bytes := [[97], [98], [], [107], [122, 122]]
def Dbase (v : Vl) : Prop := v = zeroVl ∨ (∃ b, v = .mk 1 b [] [] [] [] 0) ∨ (∃ n, n ∈ numsL ∧ v = .mk 2 false n [] [] [] 0) ∨ (∃ s, s ∈ strsL ∧ v = .mk 3 false [] s [] [] 0) ∨ v = .mk 4 false [] [] [] [] 0
/-- What may be drawn, of a depth at most. -/
def Dr (fn : Bool) : Nat → Vl → Prop
  | 0, v => Dbase v
  | d + 1, v => Dbase v ∨ (∃ ks vs, v = .mk 4 false [] [] ks vs 0 ∧ Rising ks ∧ ks.length = vs.length ∧ ks.length ≤ 3 ∧ (∀ k, k ∈ ks → k ∈ keysL) ∧ ∀ w, w ∈ vs → Dr fn d w) ∨
      (fn = true ∧ ∃ vs f, f < 9 ∧ v = .mk 5 false [] [] [] vs (.ofNat f) ∧ vs.length ≤ 2 ∧ ∀ w, w ∈ vs → Dr fn d w)
theorem Dr_base {fn : Bool} {d : Nat} {v : Vl} (h : Dbase v) : Dr fn d v := by
  cases d with
  | zero => exact h
  | succ d => exact .inl h
theorem nums_size {n : Bytes} (h : n ∈ numsL) : n.length ≤ 21 := by
  have : ∀ n, n ∈ numsL → n.length ≤ 21 := by decide
  exact this n h
theorem strs_size {n : Bytes} (h : n ∈ strsL) : n.length ≤ 20 := by
  have : ∀ n, n ∈ strsL → n.length ≤ 20 := by decide
  exact this n h
theorem keys_size {n : Bytes} (h : n ∈ keysL) : n.length ≤ 2 := by
  have : ∀ n, n ∈ keysL → n.length ≤ 2 := by decide
  exact this n h
def szB : Nat → Nat
  | 0 => 22
  | d + 1 => 32 + 3 * szB d
theorem szB_pos (d : Nat) : 22 ≤ szB d := by cases d <;> simp only [szB] <;> omega
theorem vsum_le {m : Nat} : ∀ {vs : List Vl}, (∀ w, w ∈ vs → w.size ≤ m) → vsum vs ≤ vs.length * m
  | [], _ => by simp [vsum]
  | v :: vs, h => by
    have h1 := h v List.mem_cons_self
    have h2 := vsum_le (vs := vs) fun w hw => h w (List.mem_cons_of_mem _ hw)
    simp only [vsum, List.length_cons, Nat.add_mul]; omega
theorem ksum_le {m : Nat} : ∀ {ks : List Bytes}, (∀ w, w ∈ ks → w.length ≤ m) → ksum ks ≤ ks.length * (m + 1)
  | [], _ => by simp [ksum]
  | v :: vs, h => by
    have h1 := h v List.mem_cons_self
    have h2 := ksum_le (ks := vs) fun w hw => h w (List.mem_cons_of_mem _ hw)
    simp only [ksum, List.length_cons, Nat.add_mul]; omega
theorem Dbase_size {v : Vl} (h : Dbase v) : v.size ≤ 22 := by
  rcases h with rfl | ⟨b, rfl⟩ | ⟨n, h, rfl⟩ | ⟨n, h, rfl⟩ | rfl
  · simp [zeroVl, Vl.size, ksum, vsum]
  · simp [Vl.size, ksum, vsum]
  · have := nums_size h; simp [Vl.size, ksum, vsum]; omega
  · have := strs_size h; simp [Vl.size, ksum, vsum]; omega
  · simp [Vl.size, ksum, vsum]
theorem Dr_size {fn : Bool} : ∀ {d : Nat} {v : Vl}, Dr fn d v → v.size ≤ szB d
  | 0, v, h => Dbase_size h
  | d + 1, v, h => by
    have hp := szB_pos d
    rcases h with h | ⟨ks, vs, rfl, hr, hl, h3, hk, hv⟩ | ⟨_, vs, f, hf, rfl, hl, hv⟩
    · have := Dbase_size h; simp only [szB]; omega
    · have h1 := ksum_le (m := 2) fun w hw => keys_size (hk w hw)
      have h2 := vsum_le (m := szB d) fun w hw => Dr_size (hv w hw)
      have h4 : vs.length * szB d ≤ 3 * szB d := Nat.mul_le_mul (by omega) (Nat.le_refl _)
      simp only [Vl.size, szB, List.length_nil]; omega
    · have h2 := vsum_le (m := szB d) fun w hw => Dr_size (hv w hw)
      have h4 : vs.length * szB d ≤ 2 * szB d := Nat.mul_le_mul hl (Nat.le_refl _)
      simp only [Vl.size, szB, List.length_nil, ksum]; omega
/-- How many numbers are asked for. -/
def cost : Nat → Nat
  | 0 => 2
  | d + 1 => 3 + 3 * (1 + cost d)
/-- Drawing is done. -/
noncomputable def prD : Prims := prWith pr0 38 (pureP E0 38 GSet)
set_option maxRecDepth 1000000 in
theorem prD_ok : PrOk prD := prWith_ok prOk0 pureP_ok
theorem pD83 : prD 83 = none := by simp [prD, prWith, p0_83]
theorem pD46 : prD 46 = none := by simp [prD, prWith, p0_46]
theorem pD38 : prD 38 = some (pureP E0 38 GSet) := by simp [prD, prWith]
set_option maxRecDepth 1000000 in
theorem fn46 : E0.L.fn 46 = some Tryz.f46 := by kernel_rfl
set_option maxRecDepth 1000000 in
theorem buildN (st : Store) : aBuildSlice E0.L 0 25 9 [0, 1, 2, 3, 4, 5, 6, 7, 8] [.str [48], .str [49], .str [45, 49], .str [50], .str [55], .str [45, 49, 50], .str [51, 48, 48], .str [49, 50, 51, 52, 53, 54, 55, 56, 57, 48, 49, 50, 51, 52, 53, 54, 55, 56, 57, 48, 49], .str [45, 57, 57, 57, 57, 57, 57, 57, 57, 57, 57, 57, 57, 57, 57, 57, 57, 57, 57, 57, 57]] st = some (.val (.row 1 none (some 9) (numsL.map .str)), st) := by kernel_rfl
set_option maxRecDepth 1000000 in
theorem buildS (st : Store) : aBuildSlice E0.L 0 25 7 [0, 1, 2, 3, 4, 5, 6] [.str [], .str [97], .str [98], .str [97, 98], .str [107], .str [0, 255], .str [108, 111, 110, 103, 32, 116, 101, 120, 116, 32, 34, 111, 102, 34, 32, 98, 121, 116, 101, 115]] st = some (.val (.row 1 none (some 7) (strsL.map .str)), st) := by kernel_rfl
set_option maxRecDepth 1000000 in
theorem buildK (st : Store) : aBuildSlice E0.L 0 25 5 [0, 1, 2, 3, 4] [.str [97], .str [98], .str [], .str [107], .str [122, 122]] st = some (.val (.row 1 none (some 5) (keysL.map .str)), st) := by kernel_rfl
/-- What a draft of a depth comes to. -/
def Drawn (pr : Prims) (B : AV) (fn : Bool) (d a : Nat) (f : Nat → List AV → Store → Rs) : Prop := ∃ (w : AV) (val : Vl) (a' : Nat), a' ≤ a + cost d ∧ stripV w = w ∧ IsV w val ∧ Neat w ∧ Dr fn d val ∧
  ∀ n tops, 4 * d + 8 ≤ n → ∃ v more, f n [.ptr 0 0, .int .i64 (.ofNat d), .bool fn] (SD B a tops) = some (v, SD B a' (more ++ tops)) ∧ stripV v = w ∧ plainV v = true
theorem put_len {α : Type} {l : List α} {lb e : Nat} {x : α} (h : lb ≤ l.length) : (putL l lb e x).length ≤ l.length + 1 := by
  simp only [putL, List.length_append, List.length_cons, List.length_take, List.length_drop]; omega
theorem put_mem {α : Type} {l : List α} {lb e : Nat} {x y : α} (h : y ∈ putL l lb e x) : y = x ∨ y ∈ l := by
  simp only [putL, List.mem_append, List.mem_cons] at h
  rcases h with h | h | h
  · exact .inr (List.mem_of_mem_take h)
  · exact .inl h
  · exact .inr (List.mem_of_mem_drop h)
theorem put_lens {α β : Type} {l : List α} {l' : List β} {lb e : Nat} {x : α} {y : β} (h : l.length = l'.length) : (putL l lb e x).length = (putL l' lb e y).length := by
  simp only [putL, List.length_append, List.length_cons, List.length_take, List.length_drop, h]
theorem put_rising {ks : List Bytes} (hr : Rising ks) (k : Bytes) : Rising (putL ks (lbnd k ks) (hasK ks k) k) := by
  unfold putL Rising
  have hl := lbnd_le k ks
  refine List.pairwise_append.2 ⟨hr.sublist (List.take_sublist _ _), List.pairwise_cons.2 ⟨fun y hy => ?_, hr.sublist (List.drop_sublist _ _)⟩, fun x hx y hy => ?_⟩
  · obtain ⟨j, hj, e⟩ := List.getElem_of_mem hy
    rw [List.getElem_drop] at e
    have hjl : lbnd k ks + hasK ks k + j < ks.length := by
      simp only [List.length_drop] at hj; omega
    have h1 := lbnd_ge hr (show lbnd k ks ≤ lbnd k ks + hasK ks k + j by omega) (List.getElem?_eq_getElem hjl)
    rw [e] at h1
    cases h2 : blt k y with
    | true => rfl
    | false =>
      have h3 := blt_total h1 h2
      -- y = k: then it is at lbnd, and is left out
      exfalso
      have hlt : lbnd k ks < ks.length := by omega
      have h4 := lbnd_ge hr (Nat.le_refl _) (List.getElem?_eq_getElem hlt)
      by_cases h5 : hasK ks k + j = 0
      · have h6 : hasK ks k = 0 := by omega
        unfold hasK at h6
        split at h6
        · cases h6
        · rename_i h7
          refine h7 ?_
          have h9 : ks[lbnd k ks + hasK ks k + j]? = some y := by rw [List.getElem?_eq_getElem hjl, e]
          rw [show lbnd k ks + hasK ks k + j = lbnd k ks by omega] at h9
          exact h9.trans (congrArg some h3)
      · have h8 := List.pairwise_iff_getElem.1 hr (lbnd k ks) (lbnd k ks + hasK ks k + j) hlt hjl (by omega)
        rw [e, h3, h4] at h8; cases h8
  · obtain ⟨i, hi, e⟩ := List.getElem_of_mem hx
    rw [List.getElem_take] at e
    have hil : i < lbnd k ks := by simp only [List.length_take] at hi; omega
    have h1 := lbnd_lt hil (List.getElem?_eq_getElem (by omega))
    rw [e] at h1
    rcases List.mem_cons.1 hy with rfl | hy
    · exact h1
    · obtain ⟨j, hj, e'⟩ := List.getElem_of_mem hy
      rw [List.getElem_drop] at e'
      have hjl : lbnd k ks + hasK ks k + j < ks.length := by
        simp only [List.length_drop] at hj; omega
      have h8 := List.pairwise_iff_getElem.1 hr i (lbnd k ks + hasK ks k + j) (by omega) hjl (by omega)
      rw [e, e'] at h8; exact h8
/-- The zero value's cells. -/
def zc : List AV := [.int .i64 (.ofNat 0), .bool false, .str [], .str [], .nils, .nils, .int .i64 (.ofNat 0)]
theorem x_hNotPtrs (k1 k2 : IntKind) (a b : Int) (r : Rs) : hNotPtrs [.val (.int k1 a), .val (.int k2 b)] r = r := rfl
theorem elemL {l : List Bytes} {j : Nat} {y : Bytes} {cap : Option Nat} {k : AV → Rs} (h : l[j]? = some y) : hElem 1 (.row 1 none cap (l.map .str)) (.int .i64 (.ofNat j)) k = k (.rptr [.str y]) := by
  rw [x_hElem (y := .str y) (by simp [h])]; rfl
end Go.Sim

namespace Go.Sim
open Go.Proofs

theorem cells7 {w : AV} {a : Vl} (h : IsV w a) : ∃ c1 c2 c3 c4 c5 c6 c7, w = .agg [c1, c2, c3, c4, c5, c6, c7] := by
  obtain ⟨t, b, n, s, K, W, f, rfl⟩ := isV_cells h
  exact ⟨_, _, _, _, _, _, _, rfl⟩
theorem plain3 {x y : AV} {k : Bytes} (h : plainV x = true) (h' : plainV y = true) : plainVs [x, .str k, y] = true := by
  show (plainV x && (true && (plainV y && true))) = true
  rw [h, h']; rfl
/-- A dictionary that is being drawn. -/
structure DictOk (fn : Bool) (d i : Nat) (w : AV) (ks : List Bytes) (vs : List Vl) : Prop where
  is : IsV w (.mk 4 false [] [] ks vs 0)
  st : stripV w = w
  neat : Neat w
  ri : Rising ks
  le : ks.length = vs.length
  ln : ks.length ≤ i
  me : ∀ k, k ∈ ks → k ∈ keysL
  dr : ∀ v, v ∈ vs → Dr fn d v
set_option maxRecDepth 1000000 in
set_option maxHeartbeats 2000000 in
theorem dict_loop {B : AV} {xs : List UInt8} (hB : IsB B xs) (hx : xs.length < big) {fn : Bool} {d : Nat} (hd : szB (d + 1) < big - 10) (hd63 : d + 1 < 9223372036854775808) {cnt : Nat} (hc3 : cnt ≤ 3)
    (ih : ∀ a, a + cost d < big → Drawn prD B fn d a (fun n args st => Call prD n (Fv 46) args st)) : ∀ (j i a : Nat) (w : AV) (ks : List Bytes) (vs : List Vl), i + j = cnt → a + j * (1 + cost d) < big → DictOk fn d i w ks vs →
    ∃ (w' : AV) (val : Vl) (a' : Nat), a' ≤ a + j * (1 + cost d) ∧ stripV w' = w' ∧ IsV w' val ∧ Neat w' ∧ Dr fn (d + 1) val ∧
      ∀ n m tops, 4 * d + 9 ≤ m → j < n → ∃ v more, hloop (dictBody (Call prD m)) n [w, .agg zc, .int .i64 (.ofNat i), .bool fn, .int .i64 (.ofNat (d + 1)), .ptr 0 0, .int .i64 (.ofNat cnt)] (SD B a tops) = some (v, SD B a' (more ++ tops)) ∧ stripV v = w' ∧ plainV v = true := by
  intro j
  induction j with
  | zero =>
    intro i a w ks vs hi ha hw
    obtain ⟨c1, c2, c3, c4, c5, c6, c7, rfl⟩ := cells7 hw.is
    refine ⟨_, _, a, by omega, hw.st, hw.is, hw.neat, .inr (.inl ⟨ks, vs, rfl, hw.ri, hw.le, Nat.le_trans hw.ln (by omega), hw.me, hw.dr⟩), fun n m tops hm hn => ⟨_, [], ?_, hw.st, isV_plain hw.is⟩⟩
    obtain ⟨n, rfl⟩ : ∃ n', n = n' + 1 := ⟨n - 1, by omega⟩
    have : i = cnt := by omega
    subst this
    simp only [x_hloop, dictBody, x_un1, x_unAgg, zc, x_hCmpI, x_iLt, decide_eq_false (Nat.lt_irrefl _), x_hIf_f, x_hLocN, x_hCut7, x_hStLN7, List.nil_append]
  | succ j ihj =>
    intro i a w ks vs hi ha hw
    obtain ⟨c1, c2, c3, c4, c5, c6, c7, rfl⟩ := cells7 hw.is
    have hlt : i < cnt := by omega
    have hmul : (j + 1) * (1 + cost d) = j * (1 + cost d) + (1 + cost d) := by rw [Nat.add_mul, Nat.one_mul]
    have hal := nextA_le xs a
    obtain ⟨w1, val1, a1, h1, h2, h3, h4, h5, h6⟩ := ih (nextA xs a) (by omega)
    have hr5 := nextR_lt xs a (m := 5) (by omega)
    have hkl : keysL[nextR xs a 5]? = some (keysL[nextR xs a 5]'hr5) := List.getElem?_eq_getElem hr5
    generalize hkk : keysL[nextR xs a 5]'hr5 = k at hkl
    have hkm : k ∈ keysL := by rw [← hkk]; exact List.getElem_mem _
    -- the dictionary with one more
    have hsize : (Vl.mk 4 false [] [] ks vs 0).size < big - 10 := by
      have : (Vl.mk 4 false [] [] ks vs 0).size ≤ szB (d + 1) := Dr_size (fn := fn) (d := d + 1) (.inr (.inl ⟨ks, vs, rfl, hw.ri, hw.le, Nat.le_trans hw.ln (by omega), hw.me, hw.dr⟩))
      omega
    obtain ⟨v2, hv2, hg2⟩ := pureP_some (E := E0) (k := 38) (Good := GSet) (args := [.agg [c1, c2, c3, c4, c5, c6, c7], .str k, w1]) (plain3 (isV_plain hw.is) (isV_plain h3)) (by
      rw [show stripVs [.agg [c1, c2, c3, c4, c5, c6, c7], .str k, w1] = [.agg [c1, c2, c3, c4, c5, c6, c7], .str k, w1] by
        show [stripV _, .str k, stripV _] = _; rw [hw.st, h2]]
      exact rset_run hw.is h3 hsize hw.ri hw.le hw.st h2) (S0 [])
    rw [show stripVs [.agg [c1, c2, c3, c4, c5, c6, c7], .str k, w1] = [.agg [c1, c2, c3, c4, c5, c6, c7], .str k, w1] by
        show [stripV _, .str k, stripV _] = _; rw [hw.st, h2]] at hg2
    obtain ⟨q1, q2, q3⟩ := hg2 _ _ _ _ _ rfl hw.is h3
    rw [setV_put hw.le] at q1
    have hok : DictOk fn d (i + 1) v2 (putL ks (lbnd k ks) (hasK ks k) k) (putL vs (lbnd k ks) (hasK ks k) val1) := by
      refine ⟨q1, q3, q2, put_rising hw.ri k, put_lens hw.le, ?_, fun k' hk' => ?_, fun v hv => ?_⟩
      · have := put_len (l := ks) (lb := lbnd k ks) (e := hasK ks k) (x := k) (lbnd_le k ks)
        have := hw.ln
        omega
      · rcases put_mem hk' with rfl | h
        · exact hkm
        · exact hw.me k' h
      · rcases put_mem hv with rfl | h
        · exact h5
        · exact hw.dr v h
    obtain ⟨w', val', a', r1, r2, r3, r4, r5, r6⟩ := ihj (i + 1) a1 v2 _ _ (by omega) (by omega) hok
    refine ⟨w', val', a', by omega, r2, r3, r4, r5, fun n m tops hm hn => ?_⟩
    obtain ⟨n, rfl⟩ : ∃ n', n = n' + 1 := ⟨n - 1, by omega⟩
    obtain ⟨m', rfl⟩ : ∃ m', m = m' + 1 := ⟨m - 1, by omega⟩
    obtain ⟨v1, more1, e1, e2, e3⟩ := h6 (m' + 1) tops (by omega)
    obtain ⟨v, more, e4, e5, e6⟩ := r6 n (m' + 1) (more1 ++ tops) hm (by omega)
    refine ⟨v, more ++ more1, ?_, e5, e6⟩
    rw [List.append_assoc, ← e4]
    obtain ⟨z1, z2, z3, z4, z5, z6, z7, rfl⟩ := cells7 q1
    have hset : Call prD (m' + 1) (Fv 38) [.agg [c1, c2, c3, c4, c5, c6, c7], .str k, v1] (SD B a1 (more1 ++ tops)) = some (.agg [z1, z2, z3, z4, z5, z6, z7], SD B a1 (more1 ++ tops)) := by
      refine call_prim pD38 (pureP_det hv2 ?_ (plain3 (isV_plain hw.is) e3))
      show [stripV _, .str k, stripV _] = [stripV _, .str k, stripV _]
      rw [e2, h2]
    have hnext := next_call pD83 hB (a := a) (m := 5) (by omega) (by omega) hx m' tops
    rw [x_hloop]
    generalize hloop (dictBody (Call prD (m' + 1))) n = H
    unfold dictBody
    simp only [x_un1, x_unAgg, zc, x_hCmpI, x_iLt, decide_eq_true hlt, x_hIf_t, x_hFrees_loc, x_hLocN, x_hCut7, x_hVal (buildK _), x_hCall hnext, elemL hkl, x_hFrees_v (show freeIn (.rptr [.str k]) = true from rfl), x_hLd1_r, x_hNotPtrs, x_sub (show 1 ≤ d + 1 by omega) (show d + 1 < 9223372036854775808 from hd63), Nat.add_sub_cancel, x_hCall e1, x_hCall hset, x_hStLN7, x_add (show i + 1 < 9223372036854775808 by omega)]
end Go.Sim

namespace Go.Sim
open Go.Proofs

theorem strip_agg7 {v : AV} {c1 c2 c3 c4 c5 c6 c7 : AV} (h : stripV v = .agg [c1, c2, c3, c4, c5, c6, c7]) : ∃ d1 d2 d3 d4 d5 d6 d7, v = .agg [d1, d2, d3, d4, d5, d6, d7] := by
  cases v <;> simp only [stripV, reduceCtorEq] at h
  rename_i xs
  injection h with h
  have hl : xs.length = 7 := by
    have := congrArg List.length h
    rw [strip_len] at this; simpa using this
  match xs, hl with
  | [a, b, c, d, e, f, g], _ => exact ⟨a, b, c, d, e, f, g, rfl⟩
theorem plains_app : ∀ {a b : List AV}, plainVs a = true → plainVs b = true → plainVs (a ++ b) = true
  | [], b, _, h => h
  | x :: a, b, h, h' => by
    simp only [plainVs, Bool.and_eq_true] at h
    simp [plainVs, h.1, plains_app h.2 h']
theorem stripVs_app : ∀ (a b : List AV), stripVs (a ++ b) = stripVs a ++ stripVs b
  | [], b => rfl
  | x :: a, b => by simp [stripVs, stripVs_app a b]
theorem isVL_snoc : ∀ {xs : List AV} {vs : List Vl} {y : AV} {v : Vl}, IsVL xs vs → IsV y v → IsVL (xs ++ [y]) (vs ++ [v])
  | xs, [], y, v, h, hy => by simp only [IsVL] at h; subst h; exact ⟨y, [], rfl, hy, rfl⟩
  | xs, w :: vs, y, v, h, hy => by
    simp only [IsVL] at h
    obtain ⟨z, zs, rfl, h1, h2⟩ := h
    simp only [List.cons_append, IsVL]
    exact ⟨z, _, rfl, h1, isVL_snoc h2 hy⟩
theorem sd_top {B : AV} {a a' : Nat} {more T : List (Nat × TypeId)} {t : Nat} (ht : t < T.length) : (SD B a' (more ++ T)).top t = (SD B a T).top t := by
  show (if t < (more ++ T).length then (more ++ T)[(more ++ T).length - 1 - t]? else none) = (if t < T.length then T[T.length - 1 - t]? else none)
  rw [if_pos ht, if_pos (by simp; omega), List.getElem?_append_right (by simp; omega)]
  congr 1
  simp; omega
theorem sd_set {B : AV} {a : Nat} {T : List (Nat × TypeId)} {t : Nat} {x : Nat × TypeId} : (SD B a T).setTop t x = SD B a (T.set (T.length - 1 - t) x) := by
  show Store.mk _ 1 (T.set (T.length - 1 - t) x) T.length = _
  unfold SD
  rw [List.length_set]
theorem set_pre {P ts : List (Nat × TypeId)} {t : Nat} {x : Nat × TypeId} (ht : ts.length ≤ t) (h : t < (P ++ ts).length) : (P ++ ts).set ((P ++ ts).length - 1 - t) x = P.set ((P ++ ts).length - 1 - t) x ++ ts := by
  rw [List.set_append, if_pos]
  simp at h ⊢; omega
theorem sd_top_set {B : AV} {a : Nat} {T : List (Nat × TypeId)} {t : Nat} {x : Nat × TypeId} (h : t < T.length) : (SD B a (T.set (T.length - 1 - t) x)).top t = some x := by
  show (if t < (T.set (T.length - 1 - t) x).length then (T.set (T.length - 1 - t) x)[(T.set (T.length - 1 - t) x).length - 1 - t]? else none) = _
  rw [List.length_set, if_pos h, List.getElem?_set_self (by omega)]
/-- The values of a function that is being drawn. -/
def FunW (B : AV) (a : Nat) (W : AV) (ys : List AV) (ts pre : List (Nat × TypeId)) : Prop := (W = .nils ∧ ys = []) ∨ ∃ t ys', W = .row 7 (some (t, 0)) none ys' ∧ ys' ≠ [] ∧ stripVs ys' = ys ∧ plainVs ys' = true ∧ ts.length ≤ t ∧ t < (pre ++ ts).length ∧ (SD B a (pre ++ ts)).top t = some (ys'.length, 28)
def endW (ys : List AV) : AV := match ys with
  | [] => .nils
  | y :: r => .row 7 none none (y :: r)
set_option maxRecDepth 1000000 in
set_option maxHeartbeats 2000000 in
theorem fun_loop {B : AV} {xs : List UInt8} (hx : xs.length < big) {d : Nat} (hd63 : d + 1 < 9223372036854775808) {cnt f : Nat} (hf : f < 9) (hc2 : cnt ≤ 2)
    (ih : ∀ a, a + cost d < big → Drawn prD B true d a (fun n args st => Call prD n (Fv 46) args st)) : ∀ (j i a : Nat) (ys : List AV) (vs : List Vl), i + j = cnt → a + j * (1 + cost d) < big → IsVL ys vs → stripVs ys = ys → vs.length = i → (∀ v, v ∈ vs → Dr true d v) →
    ∃ (w' : AV) (val : Vl) (a' : Nat), a' ≤ a + j * (1 + cost d) ∧ stripV w' = w' ∧ IsV w' val ∧ Neat w' ∧ Dr true (d + 1) val ∧
      ∀ n m ts pre W, 4 * d + 9 ≤ m → j < n → FunW B a W ys ts pre → ∃ v pre', hloop (funBody (Call prD m)) n [.agg [.int .i64 (.ofNat 5), .bool false, .str [], .str [], .nils, W, .int .i64 (.ofNat f)], .agg zc, .int .i64 (.ofNat i), .bool true, .int .i64 (.ofNat (d + 1)), .ptr 0 0, .int .i64 (.ofNat cnt)] (SD B a (pre ++ ts)) = some (v, SD B a' (pre' ++ ts)) ∧ stripV v = w' ∧ plainV v = true := by
  intro j
  induction j with
  | zero =>
    intro i a ys vs hi ha hys hst hl hdr
    have hiw : IsW (endW ys) vs := by
      cases ys with
      | nil => cases vs with
        | nil => exact .inl ⟨rfl, rfl⟩
        | cons v vs => simp only [IsVL] at hys; obtain ⟨_, _, e, _⟩ := hys; cases e
      | cons y r => exact .inr ⟨none, none, _, rfl, hys⟩
    refine ⟨.agg [.int .i64 (.ofNat 5), .bool false, .str [], .str [], .nils, endW ys, .int .i64 (.ofNat f)], .mk 5 false [] [] [] vs (.ofNat f), a, by omega, ?_, isV_iff.2 ⟨_, _, rfl, .inl ⟨rfl, rfl⟩, hiw⟩, ⟨trivial, ?_⟩, .inr (.inr ⟨rfl, vs, f, hf, rfl, by omega, hdr⟩), fun n m ts pre W hm hn hW => ⟨.agg [.int .i64 (.ofNat 5), .bool false, .str [], .str [], .nils, W, .int .i64 (.ofNat f)], pre, ?_, ?_, ?_⟩⟩
    · cases ys with
      | nil => rfl
      | cons y r => simp only [stripV, stripVs, endW] at hst ⊢; rw [hst]
    · cases ys with
      | nil => trivial
      | cons y r => simp [endW, neatR]
    · obtain ⟨n, rfl⟩ : ∃ n', n = n' + 1 := ⟨n - 1, by omega⟩
      have : i = cnt := by omega
      subst this
      rw [x_hloop]
      generalize hloop (funBody (Call prD m)) n = H
      unfold funBody
      simp only [x_un1, x_unAgg, zc, x_hCmpI, x_iLt, decide_eq_false (Nat.lt_irrefl _), x_hIf_f, x_hLocN, x_hCut7, x_hStLN7]
    · rcases hW with ⟨rfl, rfl⟩ | ⟨t, ys', rfl, hne, h1, _⟩
      · rfl
      · subst h1
        cases ys' with
        | nil => exact absurd rfl hne
        | cons y r => simp only [stripV, stripVs, endW]
    · rcases hW with ⟨rfl, rfl⟩ | ⟨t, ys', rfl, hne, h1, h2, _⟩
      · rfl
      · simp [plainV, plainVs, h2]
  | succ j ihj =>
    intro i a ys vs hi ha hys hst hl hdr
    have hlt : i < cnt := by omega
    have hmul : (j + 1) * (1 + cost d) = j * (1 + cost d) + (1 + cost d) := by rw [Nat.add_mul, Nat.one_mul]
    obtain ⟨w1, val1, a1, h1, h2, h3, h4, h5, h6⟩ := ih a (by omega)
    obtain ⟨w', val', a', r1, r2, r3, r4, r5, r6⟩ := ihj (i + 1) a1 (ys ++ [w1]) (vs ++ [val1]) (by omega) (by omega) (isVL_snoc hys h3) (by rw [stripVs_app, hst]; simp [stripVs, h2]) (by simp; omega) (fun v hv => by
      rcases List.mem_append.1 hv with h | h
      · exact hdr v h
      · rw [List.mem_singleton.1 h]; exact h5)
    refine ⟨w', val', a', by omega, r2, r3, r4, r5, fun n m ts pre W hm hn hW => ?_⟩
    obtain ⟨n, rfl⟩ : ∃ n', n = n' + 1 := ⟨n - 1, by omega⟩
    obtain ⟨v1, more1, e1, e2, e3⟩ := h6 m (pre ++ ts) (by omega)
    obtain ⟨c1, c2, c3, c4, c5, c6, c7, rfl⟩ := cells7 h3
    obtain ⟨d1, d2, d3, d4, d5, d6, d7, rfl⟩ := strip_agg7 e2
    -- the values grow
    obtain ⟨W', pre', hap, hW', hone⟩ : ∃ W' pre', aAppend E0.L 0 26 26 [.val W, .val (.row 7 none (some 1) [.agg [d1, d2, d3, d4, d5, d6, d7]])] (SD B a1 (more1 ++ (pre ++ ts))) = some (.val W', SD B a1 (pre' ++ ts)) ∧ FunW B a1 W' (ys ++ [.agg [c1, c2, c3, c4, c5, c6, c7]]) ts pre' ∧ oneC W' = true := by
      rcases hW with ⟨rfl, rfl⟩ | ⟨t, ys', rfl, hne, g1, g2, g3, g4, g5⟩
      · refine ⟨.row 7 (some ((more1 ++ (pre ++ ts)).length, 0)) none [.agg [d1, d2, d3, d4, d5, d6, d7]], (1, 28) :: (more1 ++ pre), ?_, .inr ⟨_, _, rfl, by simp, by simp [stripVs, e2], by simp [plainVs, e3], by simp; omega, by simp, ?_⟩, rfl⟩
        · have := append_one sw int26 (by decide) none (some 1) (.agg [d1, d2, d3, d4, d5, d6, d7]) (SD B a1 (more1 ++ (pre ++ ts)))
          rw [this]
          simp only [SD, Store.newTop, List.cons_append, List.append_assoc, List.length_cons]
        · have : (SD B a1 ((1, 28) :: (more1 ++ pre) ++ ts)).top (more1 ++ (pre ++ ts)).length = some (1, 28) := by
            show (if (more1 ++ (pre ++ ts)).length < ((1, 28) :: (more1 ++ pre) ++ ts).length then ((1, 28) :: (more1 ++ pre) ++ ts)[((1, 28) :: (more1 ++ pre) ++ ts).length - 1 - (more1 ++ (pre ++ ts)).length]? else none) = _
            rw [if_pos (by simp), show ((1, 28) :: (more1 ++ pre) ++ ts).length - 1 - (more1 ++ (pre ++ ts)).length = 0 by simp]
            rfl
          exact this
      · have hyl : ys'.length = ys.length := by rw [← g1, strip_len]
        have hysl := isVL_len hys
        have htop : (SD B a1 (more1 ++ (pre ++ ts))).top t = some (ys'.length, 28) := by rw [sd_top (a := a) g4, g5]
        have := append_grow sw int26 (by decide) t none (some 1) ys' (.agg [d1, d2, d3, d4, d5, d6, d7]) (by unfold big; omega) (SD B a1 (more1 ++ (pre ++ ts))) htop
        have hlt2 : t < ((more1 ++ pre) ++ ts).length := by simp at g4 ⊢; omega
        rw [sd_set, ← List.append_assoc, set_pre g3 hlt2] at this
        rw [← List.append_assoc]
        refine ⟨_, _, this, .inr ⟨t, ys' ++ [.agg [d1, d2, d3, d4, d5, d6, d7]], rfl, by simp, by rw [stripVs_app, g1]; simp [stripVs, e2], plains_app g2 (by simp [plainVs, e3]), g3, by simp at hlt2 ⊢; omega, ?_⟩, rfl⟩
        rw [← set_pre g3 hlt2, sd_top_set hlt2]
        simp
    obtain ⟨v, pre2, e4, e5, e6⟩ := r6 n m ts pre' W' hm (by omega) hW'
    refine ⟨v, pre2, ?_, e5, e6⟩
    rw [← e4, x_hloop]
    generalize hloop (funBody (Call prD m)) n = H
    unfold funBody
    simp only [x_un1, x_unAgg, zc, x_hCmpI, x_iLt, decide_eq_true hlt, x_hIf_t, x_hFrees_loc, x_hLoc1, x_hNth0, x_hNthS, x_sub (show 1 ≤ d + 1 by omega) hd63, Nat.add_sub_cancel, x_hCall e1, x_hVal (build1w _ _ _ _ _ _ _ _), x_hValF hap, x_hStL1 hone, x_hPut0, x_hPutS, x_add (show i + 1 < 9223372036854775808 by omega)]
end Go.Sim

namespace Go.Sim
open Go.Proofs

def kOf (d r : Nat) : Nat := if d = 0 ∧ 7 < r then r - 5 else r
set_option maxRecDepth 1000000 in
set_option maxHeartbeats 2000000 in
theorem value_start {B : AV} {xs : List UInt8} (hB : IsB B xs) (hx : xs.length < big) {a d : Nat} (ha : a < big) (fn : Bool) (n : Nat) (tops : List (Nat × TypeId)) :
    b46 (Call prD (n + 1)) (n + 1) [.ptr 0 0, .int .i64 (.ofNat d), .bool fn] (SD B a tops) = valDisp (Call prD (n + 1)) (n + 1) [.agg zc, .int .i64 (.ofNat (kOf d (nextR xs a 11))), .ptr 0 0, .int .i64 (.ofNat d), .bool fn] (SD B (nextA xs a) tops) := by
  have hnext := next_call pD83 hB (a := a) (m := 11) (by omega) ha hx n tops
  have hlt := nextR_lt xs a (m := 11) (by omega)
  generalize hr : nextR xs a 11 = r at hnext hlt
  have key : ∀ q : List AV → Store → Rs, (hlet (α := AV → Store → Rs) (fun x3 s4 => hlet (α := AV → Store → Rs) (fun x6 s7 => hPick (.bool (decide (d < 1))) x6 (.bool false) fun x9 => hIf x9 (hArith Int.sub (.int .i64 (.ofNat r)) (.int .i64 (.ofNat 5)) fun x11 => q [.agg zc, x11, .ptr 0 0, .int .i64 (.ofNat d), .bool fn] s7) (q [.agg zc, .int .i64 (.ofNat r), .ptr 0 0, .int .i64 (.ofNat d), .bool fn] s7)) fun j8 => hWant (.bool (decide (d < 1))) true (hCmpI (fun x y => iLt y x) x3 (.int .i64 (.ofNat 7)) fun x254 => j8 x254 s4) (j8 aundef s4)) fun j5 => hWant (.bool (decide (d < 1))) true (j5 (.int .i64 (.ofNat r)) (SD B (nextA xs a) tops)) (j5 aundef (SD B (nextA xs a) tops))) =
      q [.agg zc, .int .i64 (.ofNat (kOf d r)), .ptr 0 0, .int .i64 (.ofNat d), .bool fn] (SD B (nextA xs a) tops) := by
    intro q
    by_cases hd : d = 0
    · subst hd
      simp only [x_hlet, decide_eq_true (show (0 : Nat) < 1 by omega), x_hWant_tt, x_hCmpI, x_iLt, x_hPick_t]
      by_cases h7 : 7 < r
      · simp only [decide_eq_true h7, x_hIf_t, x_sub (show 5 ≤ r by omega) (show r < 9223372036854775808 by omega), kOf]
        rw [if_pos ⟨trivial, h7⟩]
      · simp only [decide_eq_false h7, x_hIf_f, kOf]
        rw [if_neg (fun h => h7 h.2)]
    · simp only [x_hlet, decide_eq_false (show ¬ d < 1 by omega), x_hWant_ft, x_hPick_f, x_hIf_f, kOf]
      rw [if_neg (fun h => hd h.1)]
  refine Eq.trans ?_ (key (valDisp (Call prD (n + 1)) (n + 1)))
  simp only [b46, x_un1, x_un0, x_hCall hnext, x_hCmpI, x_iLt]
  rfl
theorem x_hFill0 (cs : List AV) (k : List AV → Rs) : hFill [] cs k = k cs := rfl
theorem x_hFillI (o : Nat) (kd : IntKind) (z : Int) (zs : List (Nat × Nat × AV)) (cs : List AV) (k : List AV → Rs) : hFill ((o, 1, .int kd z) :: zs) cs k = hPut cs o (.int kd z) (fun cs => hFill zs cs k) := rfl
theorem x_hFillB (o : Nat) (b : Bool) (zs : List (Nat × Nat × AV)) (cs : List AV) (k : List AV → Rs) : hFill ((o, 1, .bool b) :: zs) cs k = hPut cs o (.bool b) (fun cs => hFill zs cs k) := rfl
theorem x_hFillS (o : Nat) (b : Bytes) (zs : List (Nat × Nat × AV)) (cs : List AV) (k : List AV → Rs) : hFill ((o, 1, .str b) :: zs) cs k = hPut cs o (.str b) (fun cs => hFill zs cs k) := rfl
theorem base_is (t : Int) (b : Bool) (n s : Bytes) : IsV (.agg [.int .i64 t, .bool b, .str n, .str s, .nils, .nils, .int .i64 (.ofNat 0)]) (.mk t b n s [] [] 0) := isV_iff.2 ⟨.nils, .nils, rfl, .inl ⟨rfl, rfl⟩, .inl ⟨rfl, rfl⟩⟩
theorem ieq (a b : Nat) : decide (Int.ofNat a = Int.ofNat b) = decide (a = b) := by
  rw [Bool.eq_iff_iff, decide_eq_true_iff, decide_eq_true_iff]
  exact ⟨fun h => Int.ofNat.inj h, fun h => h ▸ rfl⟩
/-- What is left to be shown of a draft. -/
def DrawnD (B : AV) (fn : Bool) (d a a0 k : Nat) : Prop := ∃ (w : AV) (val : Vl) (a' : Nat), a' ≤ a + cost d ∧ stripV w = w ∧ IsV w val ∧ Neat w ∧ Dr fn d val ∧
  ∀ m tops, 4 * d + 6 ≤ m → ∃ v more, valDisp (Call prD (m + 1)) (m + 1) [.agg zc, .int .i64 (.ofNat k), .ptr 0 0, .int .i64 (.ofNat d), .bool fn] (SD B a0 tops) = some (v, SD B a' (more ++ tops)) ∧ stripV v = w ∧ plainV v = true
theorem drawnD_of {B : AV} {fn : Bool} {d a a0 k : Nat} {w : AV} {val : Vl} {a' : Nat} (ha : a' ≤ a + cost d) (hs : stripV w = w) (hv : IsV w val) (hn : Neat w) (hd : Dr fn d val)
    (h : ∀ m tops, 4 * d + 6 ≤ m → valDisp (Call prD (m + 1)) (m + 1) [.agg zc, .int .i64 (.ofNat k), .ptr 0 0, .int .i64 (.ofNat d), .bool fn] (SD B a0 tops) = some (w, SD B a' tops)) : DrawnD B fn d a a0 k :=
  ⟨w, val, a', ha, hs, hv, hn, hd, fun m tops hm => ⟨w, [], h m tops hm, hs, isV_plain hv⟩⟩
theorem cost_pos (d : Nat) : 2 ≤ cost d := by cases d <;> simp only [cost] <;> omega
set_option maxRecDepth 1000000 in
set_option maxHeartbeats 4000000 in
theorem disp_low {B : AV} {xs : List UInt8} (hB : IsB B xs) (hx : xs.length < big) {fn : Bool} {d a k : Nat} (ha : a + 1 < big) (hk : k < 8) : DrawnD B fn d a (nextA xs a) k := by
  have hal := nextA_le xs a
  have hal2 := nextA_le xs (nextA xs a)
  have hcp := cost_pos d
  have hnext : ∀ (j : Nat), 0 < j → ∀ m tops, Call prD (m + 1) (Fv 83) [.ptr 0 0, .int .i64 (.ofNat j)] (SD B (nextA xs a) tops) = some (.int .i64 (.ofNat (nextR xs (nextA xs a) j)), SD B (nextA xs (nextA xs a)) tops) := fun j hj m tops => next_call pD83 hB hj (by omega) hx m tops
  have hnum : ∀ j, j = 2 ∨ j = 3 → DrawnD B fn d a (nextA xs a) j := by
    intro j hj
    have hr := nextR_lt xs (nextA xs a) (m := 9) (by omega)
    have hkl : numsL[nextR xs (nextA xs a) 9]? = some (numsL[nextR xs (nextA xs a) 9]'hr) := List.getElem?_eq_getElem hr
    generalize hkk : numsL[nextR xs (nextA xs a) 9]'hr = num at hkl
    refine drawnD_of (w := .agg [.int .i64 (.ofNat 2), .bool false, .str num, .str [], .nils, .nils, .int .i64 (.ofNat 0)]) (a' := nextA xs (nextA xs a)) (by omega) rfl (base_is 2 false num []) ⟨trivial, trivial⟩ (Dr_base (.inr (.inr (.inl ⟨num, by rw [← hkk]; exact List.getElem_mem _, rfl⟩)))) fun m tops hm => ?_
    rcases hj with rfl | rfl <;>
    simp (config := { decide := true }) only [valDisp, x_un1, x_unAgg, zc, x_hCmpI, x_iEq, ieq, x_hIf_t, x_hIf_f, x_hlet, decide_true, decide_false, x_hVal (buildN _), x_hCall (hnext 9 (by omega) m tops), elemL hkl, x_hLd1_r, x_hFillI, x_hFillS, x_hFill0, x_hPut0, x_hPutS, x_hStLN7, x_hLocN, x_hCut7]
  have hstr : ∀ j, j = 4 ∨ j = 5 → DrawnD B fn d a (nextA xs a) j := by
    intro j hj
    have hr := nextR_lt xs (nextA xs a) (m := 7) (by omega)
    have hkl : strsL[nextR xs (nextA xs a) 7]? = some (strsL[nextR xs (nextA xs a) 7]'hr) := List.getElem?_eq_getElem hr
    generalize hkk : strsL[nextR xs (nextA xs a) 7]'hr = num at hkl
    refine drawnD_of (w := .agg [.int .i64 (.ofNat 3), .bool false, .str [], .str num, .nils, .nils, .int .i64 (.ofNat 0)]) (a' := nextA xs (nextA xs a)) (by omega) rfl (base_is 3 false [] num) ⟨trivial, trivial⟩ (Dr_base (.inr (.inr (.inr (.inl ⟨num, by rw [← hkk]; exact List.getElem_mem _, rfl⟩))))) fun m tops hm => ?_
    rcases hj with rfl | rfl <;>
    simp (config := { decide := true }) only [valDisp, x_un1, x_unAgg, zc, x_hCmpI, x_iEq, ieq, x_hIf_t, x_hIf_f, x_hlet, decide_true, decide_false, x_hVal (buildS _), x_hCall (hnext 7 (by omega) m tops), elemL hkl, x_hLd1_r, x_hFillI, x_hFillB, x_hFillS, x_hFill0, x_hPut0, x_hPutS, x_hStLN7, x_hLocN, x_hCut7]
  have hdic : ∀ j, j = 6 ∨ j = 7 → DrawnD B fn d a (nextA xs a) j := by
    intro j hj
    refine drawnD_of (w := .agg [.int .i64 (.ofNat 4), .bool false, .str [], .str [], .nils, .nils, .int .i64 (.ofNat 0)]) (a' := nextA xs a) (by omega) rfl (base_is 4 false [] []) ⟨trivial, trivial⟩ (Dr_base (.inr (.inr (.inr (.inr rfl))))) fun m tops hm => ?_
    rcases hj with rfl | rfl <;>
    simp (config := { decide := true }) only [valDisp, x_un1, x_unAgg, zc, x_hCmpI, x_iEq, ieq, x_hIf_t, x_hIf_f, x_hlet, decide_true, decide_false, decide_true, x_hLd1_r, x_hFillI, x_hFillB, x_hFillS, x_hFill0, x_hPut0, x_hPutS, x_hStLN7, x_hLocN, x_hCut7]
  rcases (show k = 0 ∨ k = 1 ∨ (k = 2 ∨ k = 3) ∨ (k = 4 ∨ k = 5) ∨ (k = 6 ∨ k = 7) by omega) with rfl | rfl | h | h | h
  · refine drawnD_of (w := zeroA) (a' := nextA xs a) (by omega) rfl zero_is ⟨trivial, trivial⟩ (Dr_base (.inl rfl)) fun m tops hm => ?_
    simp (config := { decide := true }) only [zeroA, valDisp, x_un1, x_unAgg, zc, x_hCmpI, x_iEq, ieq, x_hIf_t, decide_true, x_hFill0, x_hStLN7, x_hLocN, x_hCut7]
  · refine drawnD_of (w := .agg [.int .i64 (.ofNat 1), .bool (decide (nextR xs (nextA xs a) 2 = 1)), .str [], .str [], .nils, .nils, .int .i64 (.ofNat 0)]) (a' := nextA xs (nextA xs a)) (by omega) rfl (base_is 1 _ [] []) ⟨trivial, trivial⟩ (Dr_base (.inr (.inl ⟨_, rfl⟩))) fun m tops hm => ?_
    simp (config := { decide := true }) only [valDisp, x_un1, x_unAgg, zc, x_hCmpI, x_iEq, ieq, x_hIf_t, x_hIf_f, x_hlet, decide_true, decide_false, x_hCall (hnext 2 (by omega) m tops), x_hLd1_r, x_hFillI, x_hFillB, x_hFillS, x_hFill0, x_hPut0, x_hPutS, x_hStLN7, x_hLocN, x_hCut7]
  · exact hnum k h
  · exact hstr k h
  · exact hdic k h
set_option maxRecDepth 1000000 in
set_option maxHeartbeats 4000000 in
theorem disp_dict {B : AV} {xs : List UInt8} (hB : IsB B xs) (hx : xs.length < big) {fn : Bool} {d a k : Nat} (hd : szB (d + 1) < big - 10) (hd63 : d + 1 < 9223372036854775808) (ha : a + cost (d + 1) < big) (hk : k = 8 ∨ k = 9)
    (ih : ∀ a, a + cost d < big → Drawn prD B fn d a (fun n args st => Call prD n (Fv 46) args st)) : DrawnD B fn (d + 1) a (nextA xs a) k := by
  have hal := nextA_le xs a
  have hal2 := nextA_le xs (nextA xs a)
  have hr := nextR_lt xs (nextA xs a) (m := 4) (by omega)
  have hcost : cost (d + 1) = 3 + 3 * (1 + cost d) := rfl
  have hnext : ∀ m tops, Call prD (m + 1) (Fv 83) [.ptr 0 0, .int .i64 (.ofNat 4)] (SD B (nextA xs a) tops) = some (.int .i64 (.ofNat (nextR xs (nextA xs a) 4)), SD B (nextA xs (nextA xs a)) tops) := fun m tops => next_call pD83 hB (by omega) (by omega) hx m tops
  generalize nextR xs (nextA xs a) 4 = cnt at hr hnext
  have hmul : cnt * (1 + cost d) ≤ 3 * (1 + cost d) := Nat.mul_le_mul (by omega) (Nat.le_refl _)
  have h0 : DictOk fn d 0 (.agg [.int .i64 (.ofNat 4), .bool false, .str [], .str [], .nils, .nils, .int .i64 (.ofNat 0)]) [] [] :=
    ⟨base_is 4 false [] [], rfl, ⟨trivial, trivial⟩, List.Pairwise.nil, rfl, Nat.le_refl _, fun k hk => (by cases hk), fun v hv => (by cases hv)⟩
  obtain ⟨w', val, a', r1, r2, r3, r4, r5, r6⟩ := dict_loop hB hx hd hd63 (cnt := cnt) (by omega) ih cnt 0 (nextA xs (nextA xs a)) _ [] [] (by omega) (by omega) h0
  refine ⟨w', val, a', by omega, r2, r3, r4, r5, fun m tops hm => ?_⟩
  obtain ⟨v, more, e1, e2, e3⟩ := r6 (m + 1) (m + 1) tops (by omega) (by omega)
  refine ⟨v, more, ?_, e2, e3⟩
  rw [← e1]
  rcases hk with rfl | rfl <;>
  simp (config := { decide := true }) only [valDisp, x_un1, x_unAgg, zc, x_hCmpI, x_iEq, ieq, x_hIf_t, x_hIf_f, x_hlet, x_hNot, decide_true, decide_false, x_hCall (hnext m tops), x_hFillI, x_hFillB, x_hFillS, x_hFill0, x_hPut0, x_hPutS, x_hStLN7, x_hLocN, x_hCut7]
set_option maxRecDepth 1000000 in
set_option maxHeartbeats 4000000 in
theorem disp_fun {B : AV} {xs : List UInt8} (hB : IsB B xs) (hx : xs.length < big) {fn : Bool} {d a : Nat} (hd63 : d + 1 < 9223372036854775808) (ha : a + cost (d + 1) < big)
    (ih : ∀ a, a + cost d < big → Drawn prD B fn d a (fun n args st => Call prD n (Fv 46) args st)) : DrawnD B fn (d + 1) a (nextA xs a) 10 := by
  have hal := nextA_le xs a
  have hal2 := nextA_le xs (nextA xs a)
  have hal3 := nextA_le xs (nextA xs (nextA xs a))
  have hcost : cost (d + 1) = 3 + 3 * (1 + cost d) := rfl
  cases fn with
  | false =>
    refine drawnD_of (w := .agg [.int .i64 (.ofNat 3), .bool false, .str [], .str [97], .nils, .nils, .int .i64 (.ofNat 0)]) (a' := nextA xs a) (by omega) rfl (base_is 3 false [] [97]) ⟨trivial, trivial⟩ (Dr_base (.inr (.inr (.inr (.inl ⟨[97], by decide, rfl⟩))))) fun m tops hm => ?_
    simp (config := { decide := true }) only [valDisp, x_un1, x_unAgg, zc, x_hCmpI, x_iEq, ieq, x_hIf_t, x_hIf_f, x_hlet, x_hNot, decide_true, decide_false, Bool.not_false, decide_true, x_hFillI, x_hFillB, x_hFillS, x_hFill0, x_hPut0, x_hPutS, x_hStLN7, x_hLocN, x_hCut7]
  | true =>
    have hf := nextR_lt xs (nextA xs a) (m := 9) (by omega)
    have hr := nextR_lt xs (nextA xs (nextA xs a)) (m := 3) (by omega)
    have hnext : ∀ m tops, Call prD (m + 1) (Fv 83) [.ptr 0 0, .int .i64 (.ofNat 9)] (SD B (nextA xs a) tops) = some (.int .i64 (.ofNat (nextR xs (nextA xs a) 9)), SD B (nextA xs (nextA xs a)) tops) := fun m tops => next_call pD83 hB (by omega) (by omega) hx m tops
    have hnext2 : ∀ m tops, Call prD (m + 1) (Fv 83) [.ptr 0 0, .int .i64 (.ofNat 3)] (SD B (nextA xs (nextA xs a)) tops) = some (.int .i64 (.ofNat (nextR xs (nextA xs (nextA xs a)) 3)), SD B (nextA xs (nextA xs (nextA xs a))) tops) := fun m tops => next_call pD83 hB (by omega) (by omega) hx m tops
    generalize nextR xs (nextA xs (nextA xs a)) 3 = cnt at hr hnext2
    generalize nextR xs (nextA xs a) 9 = f at hf hnext
    have hmul : cnt * (1 + cost d) ≤ 2 * (1 + cost d) := Nat.mul_le_mul (by omega) (Nat.le_refl _)
    obtain ⟨w', val, a', r1, r2, r3, r4, r5, r6⟩ := fun_loop (B := B) hx hd63 (cnt := cnt) (f := f) hf (by omega) ih cnt 0 (nextA xs (nextA xs (nextA xs a))) [] [] (by omega) (by omega) rfl rfl rfl (fun v hv => by cases hv)
    refine ⟨w', val, a', by omega, r2, r3, r4, r5, fun m tops hm => ?_⟩
    obtain ⟨v, more, e1, e2, e3⟩ := r6 (m + 1) (m + 1) tops [] .nils (by omega) (by omega) (.inl ⟨rfl, rfl⟩)
    refine ⟨v, more, ?_, e2, e3⟩
    rw [← e1]
    simp (config := { decide := true }) only [valDisp, x_un1, x_unAgg, zc, x_hCmpI, x_iEq, ieq, x_hIf_t, x_hIf_f, x_hlet, x_hNot, decide_true, decide_false, x_hCall (hnext m tops), x_hCall (hnext2 m tops), Bool.not_true, List.nil_append, x_hFillI, x_hFillB, x_hFillS, x_hFill0, x_hPut0, x_hPutS, x_hStLN7, x_hLocN, x_hCut7]
set_option maxRecDepth 1000000 in
theorem value_call {B : AV} {xs : List UInt8} (hB : IsB B xs) (hx : xs.length < big) {fn : Bool} : ∀ d a, szB d < big - 10 → d < 1000 → a + cost d < big → Drawn prD B fn d a (fun n args st => Call prD n (Fv 46) args st) := by
  intro d
  induction d with
  | zero =>
    intro a hs hd ha
    have hlt := nextR_lt xs a (m := 11) (by omega)
    have hk : kOf 0 (nextR xs a 11) < 8 := by unfold kOf; split <;> omega
    have hcp := cost_pos 0
    obtain ⟨w, val, a', r1, r2, r3, r4, r5, r6⟩ := disp_low hB hx (fn := fn) (d := 0) (a := a) (by omega) hk
    refine ⟨w, val, a', r1, r2, r3, r4, r5, fun n tops hn => ?_⟩
    obtain ⟨n, rfl⟩ : ∃ n', n = n' + 2 := ⟨n - 2, by omega⟩
    obtain ⟨v, more, e1, e2, e3⟩ := r6 n tops (by omega)
    refine ⟨v, more, ?_, e2, e3⟩
    refine call_body e46 fn46 pD46 (first := []) (cap := []) ?_
    simp only [List.nil_append, List.append_nil]
    rw [value_start hB hx (by omega), e1]
  | succ d ih =>
    intro a hs hd ha
    have hlt := nextR_lt xs a (m := 11) (by omega)
    have hcp := cost_pos (d + 1)
    have hk : kOf (d + 1) (nextR xs a 11) < 11 := by unfold kOf; split <;> omega
    have hsz : szB d < big - 10 := by
      have : szB (d + 1) = 32 + 3 * szB d := rfl
      omega
    have ih' : ∀ a, a + cost d < big → Drawn prD B fn d a (fun n args st => Call prD n (Fv 46) args st) := fun a ha => ih a hsz (by omega) ha
    have H : DrawnD B fn (d + 1) a (nextA xs a) (kOf (d + 1) (nextR xs a 11)) := by
      generalize kOf (d + 1) (nextR xs a 11) = k at hk
      by_cases h8 : k < 8
      · exact disp_low hB hx (by omega) h8
      · by_cases h10 : k = 10
        · subst h10; exact disp_fun hB hx (by omega) ha ih'
        · exact disp_dict hB hx hs (by omega) ha (by omega) ih'
    obtain ⟨w, val, a', r1, r2, r3, r4, r5, r6⟩ := H
    refine ⟨w, val, a', r1, r2, r3, r4, r5, fun n tops hn => ?_⟩
    obtain ⟨n, rfl⟩ : ∃ n', n = n' + 2 := ⟨n - 2, by omega⟩
    obtain ⟨v, more, e1, e2, e3⟩ := r6 n tops (by omega)
    refine ⟨v, more, ?_, e2, e3⟩
    refine call_body e46 fn46 pD46 (first := []) (cap := []) ?_
    simp only [List.nil_append, List.append_nil]
    rw [value_start hB hx (by omega), e1]
end Go.Sim
