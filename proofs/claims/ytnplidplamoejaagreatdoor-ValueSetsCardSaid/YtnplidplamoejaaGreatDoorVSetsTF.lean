/- Part of the proof that litmuslaw11.ValueSets answers true for every input. -/
import Derived.Test.YtnplidplamoejaaGreatDoorVSetsTE
set_option linter.unusedVariables false
set_option linter.unusedSimpArgs false
set_option linter.unnecessarySimpa false
namespace Go.Sim
noncomputable section
abbrev Rs := Option (AV × Store)

/-! ### Things brought to their form -/
def fNat (n : Nat) (k : Nat → Rs) : Rs := Nat.casesOn (motive := fun _ => Rs) n (k 0) (fun p => k (Nat.succ p))
theorem fNat_eq (n : Nat) (k : Nat → Rs) : fNat n k = k n := by cases n <;> rfl
def fInt (z : Int) (k : Int → Rs) : Rs := match z with
  | .ofNat n => fNat n fun n => k (.ofNat n)
  | .negSucc n => fNat n fun n => k (.negSucc n)
theorem fInt_eq (z : Int) (k : Int → Rs) : fInt z k = k z := by
  cases z <;> simp only [fInt, fNat_eq]
def fBool (b : Bool) (k : Bool → Rs) : Rs := match b with
  | true => k true
  | false => k false
theorem fBool_eq (b : Bool) (k : Bool → Rs) : fBool b k = k b := by cases b <;> rfl
def fList {α : Type} (xs : List α) (k : List α → Rs) : Rs := List.rec (motive := fun _ => (List α → Rs) → Rs) (fun k => k []) (fun x _ ih k => ih fun r => k (x :: r)) xs k
theorem fList_eq {α : Type} (xs : List α) (k : List α → Rs) : fList xs k = k xs := by
  induction xs generalizing k with
  | nil => rfl
  | cons x xs ih => exact ih _
def limPos : IntKind → Nat
  | .i8 => 128 | .i16 => 32768 | .i32 => 2147483648 | .i64 => 9223372036854775808
  | .u8 => 256 | .u16 => 65536 | .u32 => 4294967296 | .u64 => 18446744073709551616
def limNeg : IntKind → Nat
  | .i8 => 128 | .i16 => 32768 | .i32 => 2147483648 | .i64 => 9223372036854775808
  | _ => 0
def fWrap (kd : IntKind) (z : Int) (k : Int → Rs) : Rs := match z with
  | .ofNat m => (match Nat.blt m (limPos kd) with
    | true => fNat m fun m => k (.ofNat m)
    | false => fInt (kd.wrap (.ofNat m)) k)
  | .negSucc m => (match Nat.blt m (limNeg kd) with
    | true => fNat m fun m => k (.negSucc m)
    | false => fInt (kd.wrap (.negSucc m)) k)
theorem wrap_pos {kd : IntKind} {m : Nat} (h : Nat.blt m (limPos kd) = true) : kd.wrap (.ofNat m) = .ofNat m := by
  have h := Nat.le_of_ble_eq_true h
  cases kd <;> simp only [limPos, IntKind.wrap, IntKind.bits, IntKind.signed] at h ⊢ <;> simp <;> omega
theorem wrap_neg {kd : IntKind} {m : Nat} (h : Nat.blt m (limNeg kd) = true) : kd.wrap (.negSucc m) = .negSucc m := by
  have h := Nat.le_of_ble_eq_true h
  cases kd <;> simp only [limNeg, IntKind.wrap, IntKind.bits, IntKind.signed] at h ⊢ <;> simp <;> omega
theorem fWrap_eq (kd : IntKind) (z : Int) (k : Int → Rs) : fWrap kd z k = k (kd.wrap z) := by
  cases z with
  | ofNat m =>
    simp only [fWrap]
    split
    · rename_i h; rw [fNat_eq, wrap_pos h]
    · rw [fInt_eq]
  | negSucc m =>
    simp only [fWrap]
    split
    · rename_i h; rw [fNat_eq, wrap_neg h]
    · rw [fInt_eq]
def kNum : IntKind → Nat
  | .i8 => 0 | .i16 => 1 | .i32 => 2 | .i64 => 3 | .u8 => 4 | .u16 => 5 | .u32 => 6 | .u64 => 7
theorem kNum_inj {a b : IntKind} (h : Nat.beq (kNum a) (kNum b) = true) : a = b := by
  cases a <;> cases b <;> first | rfl | (simp [kNum] at h)

/-! ### What is handed on -/
def hVal (a : Ans) (k : AV → Store → Rs) : Rs := match a with
  | some (.val v, s) => k v s
  | _ => none
def hV (a : Option AV) (k : AV → Rs) : Rs := match a with
  | some v => k v
  | none => none
def hIf (v : AV) (a b : Rs) : Rs := match v with
  | .bool true => a
  | .bool false => b
  | _ => none
def hWant (v : AV) (want : Bool) (a b : Rs) : Rs := match v with
  | .bool c => (match c with
    | true => (match want with | true => a | false => b)
    | false => (match want with | true => b | false => a))
  | .tuple _ => b
  | _ => none
def hlet {α : Type} (f : α) (g : α → Rs) : Rs := g f
def un1 (vs : List AV) (k : AV → List AV → Rs) : Rs := match vs with
  | x :: r => k x r
  | [] => none
def unAgg (x : AV) (k : List AV → Rs) : Rs := match x with
  | .agg cs => k cs
  | _ => none
def hGuard (b : Bool) (a : Rs) : Rs := match b with
  | true => a
  | false => none
def hNth (xs : List AV) (n : Nat) (k : AV → Rs) : Rs := List.rec (motive := fun _ => Nat → Rs) (fun _ => none) (fun x _ ih n => Nat.casesOn (motive := fun _ => Rs) n (k x) ih) xs n
theorem hNth_ok {xs : List AV} {n : Nat} {k : AV → Rs} {r : AV × Store} (h : hNth xs n k = some r) : ∃ x, xs[n]? = some x ∧ k x = some r := by
  induction xs generalizing n with
  | nil => cases h
  | cons x xs ih =>
    cases n with
    | zero => exact ⟨x, rfl, h⟩
    | succ n => obtain ⟨y, h1, h2⟩ := ih (n := n) h; exact ⟨y, by simpa using h1, h2⟩
/-- Another thing at a place. -/
def hPut (xs : List AV) (n : Nat) (v : AV) (k : List AV → Rs) : Rs := List.rec (motive := fun _ => Nat → (List AV → Rs) → Rs) (fun _ _ => none)
  (fun x xs ih n k => Nat.casesOn (motive := fun _ => Rs) n (k (v :: xs)) (fun n => ih n fun r => k (x :: r))) xs n k
theorem hPut_ok {xs : List AV} {n : Nat} {v : AV} {k : List AV → Rs} {r : AV × Store} (h : hPut xs n v k = some r) : n < xs.length ∧ k (xs.set n v) = some r := by
  induction xs generalizing n k with
  | nil => cases h
  | cons x xs ih =>
    cases n with
    | zero => exact ⟨by simp, h⟩
    | succ n => obtain ⟨h1, h2⟩ := ih (n := n) (k := fun r => k (x :: r)) h; exact ⟨by simp; omega, by simpa using h2⟩
/-- What is of one cell. -/
def oneC : AV → Bool
  | .agg _ | .tuple _ | .junk => false
  | _ => true
theorem oneC_ok {v : AV} (h : oneC v = true) : v.cells = [v] ∧ v.noTuple = true := by
  cases v <;> first | exact ⟨rfl, rfl⟩ | cases h
def hCells (v : AV) (k : List AV → Rs) : Rs := match v with
  | .agg cs => k cs
  | .tuple _ => none
  | .junk => none
  | v => k [v]
theorem hCells_ok {v : AV} {k : List AV → Rs} {r : AV × Store} (h : hCells v k = some r) : v.noTuple = true ∧ k v.cells = some r := by
  cases v <;> first | exact ⟨rfl, h⟩ | cases h
def hLenIs (xs : List AV) (n : Nat) (a : Rs) : Rs := List.rec (motive := fun _ => Nat → Rs) (fun n => Nat.casesOn (motive := fun _ => Rs) n a (fun _ => none)) (fun _ _ ih n => Nat.casesOn (motive := fun _ => Rs) n none ih) xs n
theorem hLenIs_ok {xs : List AV} {n : Nat} {a : Rs} {r : AV × Store} (h : hLenIs xs n a = some r) : xs.length = n ∧ a = some r := by
  induction xs generalizing n with
  | nil => cases n with
    | zero => exact ⟨rfl, h⟩
    | succ n => cases h
  | cons x xs ih => cases n with
    | zero => cases h
    | succ n => obtain ⟨h1, h2⟩ := ih (n := n) h; exact ⟨by simp [h1], h2⟩
/-- n cells from a place on. -/
def hTake (xs : List AV) (n : Nat) (k : List AV → Rs) : Rs := List.rec (motive := fun _ => Nat → (List AV → Rs) → Rs) (fun n k => Nat.casesOn (motive := fun _ => Rs) n (k []) (fun _ => none))
  (fun x _ ih n k => Nat.casesOn (motive := fun _ => Rs) n (k []) (fun n => ih n fun r => k (x :: r))) xs n k
theorem hTake_ok {xs : List AV} {n : Nat} {k : List AV → Rs} {r : AV × Store} (h : hTake xs n k = some r) : n ≤ xs.length ∧ k (xs.take n) = some r := by
  induction xs generalizing n k with
  | nil => cases n with
    | zero => exact ⟨by simp, h⟩
    | succ n => cases h
  | cons x xs ih => cases n with
    | zero => exact ⟨by simp, h⟩
    | succ n => obtain ⟨h1, h2⟩ := ih (n := n) (k := fun r => k (x :: r)) h; exact ⟨by simp; omega, by simpa using h2⟩
def hDrop (xs : List AV) (n : Nat) (k : List AV → Rs) : Rs := List.rec (motive := fun _ => Nat → Rs) (fun n => Nat.casesOn (motive := fun _ => Rs) n (k []) (fun _ => none))
  (fun x xs ih n => Nat.casesOn (motive := fun _ => Rs) n (k (x :: xs)) ih) xs n
theorem hDrop_ok {xs : List AV} {n : Nat} {k : List AV → Rs} {r : AV × Store} (h : hDrop xs n k = some r) : n ≤ xs.length ∧ k (xs.drop n) = some r := by
  induction xs generalizing n with
  | nil => cases n with
    | zero => exact ⟨by simp, h⟩
    | succ n => cases h
  | cons x xs ih => cases n with
    | zero => exact ⟨by simp, h⟩
    | succ n => obtain ⟨h1, h2⟩ := ih (n := n) h; exact ⟨by simp; omega, by simpa using h2⟩
def hCut (cs : List AV) (off n : Nat) (k : List AV → Rs) : Rs := hDrop cs off fun r => hTake r n k
theorem hCut_ok {cs : List AV} {off n : Nat} {k : List AV → Rs} {r : AV × Store} (h : hCut cs off n k = some r) : ∃ c, cut cs off n = some c ∧ k c = some r := by
  obtain ⟨h1, h2⟩ := hDrop_ok h
  obtain ⟨h3, h4⟩ := hTake_ok h2
  rw [List.length_drop] at h3
  exact ⟨_, by rw [cut, if_pos (by omega)], h4⟩
theorem cut_one {cs : List AV} {off : Nat} {x : AV} (h : cs[off]? = some x) : cut cs off 1 = some [x] := by
  obtain ⟨h1, h2⟩ := List.getElem?_eq_some_iff.1 h
  rw [cut, if_pos (by omega), List.drop_eq_getElem_cons h1, h2]
  rfl
/-- new cells in place of others -/
def hOver (xs new : List AV) (k : List AV → Rs) : Rs := List.rec (motive := fun _ => List AV → (List AV → Rs) → Rs) (fun xs k => k xs)
  (fun y _ ih xs k => match xs with
    | [] => none
    | _ :: xs => ih xs fun r => k (y :: r)) new xs k
theorem hOver_ok {xs new : List AV} {k : List AV → Rs} {r : AV × Store} (h : hOver xs new k = some r) : new.length ≤ xs.length ∧ k (new ++ xs.drop new.length) = some r := by
  induction new generalizing xs k with
  | nil => exact ⟨by simp, h⟩
  | cons y new ih => cases xs with
    | nil => cases h
    | cons x xs => obtain ⟨h1, h2⟩ := ih (xs := xs) (k := fun r => k (y :: r)) h; exact ⟨by simp; omega, by simpa using h2⟩
def hSplice (cs : List AV) (off : Nat) (new : List AV) (k : List AV → Rs) : Rs := List.rec (motive := fun _ => Nat → (List AV → Rs) → Rs) (fun n k => Nat.casesOn (motive := fun _ => Rs) n (hOver [] new k) (fun _ => none))
  (fun x xs ih n k => Nat.casesOn (motive := fun _ => Rs) n (hOver (x :: xs) new k) (fun n => ih n fun r => k (x :: r))) cs off k
theorem hSplice_ok {cs : List AV} {off : Nat} {new : List AV} {k : List AV → Rs} {r : AV × Store} (h : hSplice cs off new k = some r) : ∃ c, splice cs off new = some c ∧ k c = some r := by
  have key : off + new.length ≤ cs.length ∧ k (cs.take off ++ new ++ cs.drop (off + new.length)) = some r := by
    induction cs generalizing off k with
    | nil => cases off with
      | zero => obtain ⟨h1, h2⟩ := hOver_ok h; exact ⟨by simpa using h1, by simpa using h2⟩
      | succ n => cases h
    | cons x xs ih => cases off with
      | zero => obtain ⟨h1, h2⟩ := hOver_ok h; exact ⟨by simpa using h1, by simpa using h2⟩
      | succ n =>
        obtain ⟨h1, h2⟩ := ih (off := n) (k := fun r => k (x :: r)) h
        refine ⟨by simp; omega, ?_⟩
        rw [show n + 1 + new.length = (n + new.length) + 1 by omega]
        simpa using h2
  exact ⟨_, by rw [splice, if_pos key.1], key.2⟩
theorem splice_one {cs : List AV} {off : Nat} {v : AV} (h : off < cs.length) : splice cs off [v] = some (cs.set off v) := by
  rw [splice, if_pos (by simp only [List.length_cons, List.length_nil]; omega)]
  congr 1
  rw [List.set_eq_take_append_cons_drop, if_pos h]
  simp

/-! ### The store -/
def hObj (xs : List AObj) (n : Nat) (k : AObj → Rs) : Rs := List.rec (motive := fun _ => Nat → Rs) (fun _ => none) (fun x _ ih n => Nat.casesOn (motive := fun _ => Rs) n (k x) ih) xs n
theorem hObj_ok {xs : List AObj} {n : Nat} {k : AObj → Rs} {r : AV × Store} (h : hObj xs n k = some r) : ∃ x, xs[n]? = some x ∧ k x = some r := by
  induction xs generalizing n with
  | nil => cases h
  | cons x xs ih =>
    cases n with
    | zero => exact ⟨x, rfl, h⟩
    | succ n => obtain ⟨y, h1, h2⟩ := ih (n := n) h; exact ⟨y, by simpa using h1, h2⟩
def hObjSet (xs : List AObj) (n : Nat) (f : AObj → (AObj → Rs) → Rs) (k : List AObj → Rs) : Rs := List.rec (motive := fun _ => Nat → (List AObj → Rs) → Rs) (fun _ _ => none)
  (fun x xs ih n k => Nat.casesOn (motive := fun _ => Rs) n (f x fun y => k (y :: xs)) (fun n => ih n fun r => k (x :: r))) xs n k
theorem hObjSet_ok {xs : List AObj} {n : Nat} {f : AObj → (AObj → Rs) → Rs} {k : List AObj → Rs} {r : AV × Store} (h : hObjSet xs n f k = some r) : ∃ x, xs[n]? = some x ∧ f x (fun y => k (xs.set n y)) = some r := by
  induction xs generalizing n k with
  | nil => cases h
  | cons x xs ih =>
    cases n with
    | zero => exact ⟨x, rfl, h⟩
    | succ n =>
      obtain ⟨y, h1, h2⟩ := ih (n := n) (k := fun r => k (x :: r)) h
      exact ⟨y, by simpa using h1, by simpa using h2⟩
def objCells (x : AObj) (k : List AV → Rs) : Rs := match x with
  | .cells xs => k xs
  | .tcells _ _ xs => k xs
  | .scells xs => k xs
  | _ => none
def hGet (st : Store) (o : Nat) (k : List AV → Rs) : Rs := match st with
  | ⟨objs, nobj, _, _⟩ => (match Nat.blt o nobj with
    | true => hObj objs (nobj - 1 - o) fun x => objCells x k
    | false => none)
theorem hGet_ok {st : Store} {o : Nat} {k : List AV → Rs} {r : AV × Store} (h : hGet st o k = some r) : ∃ cs, st.getCells o = some cs ∧ k cs = some r := by
  obtain ⟨objs, nobj, tops, ntop⟩ := st
  simp only [hGet] at h
  split at h
  · rename_i hlt
    have hlt : o < nobj := Nat.le_of_ble_eq_true hlt
    obtain ⟨x, h1, h2⟩ := hObj_ok h
    simp only [Store.getCells, Store.get, if_pos hlt, h1]
    unfold objCells at h2
    split at h2
    · exact ⟨_, rfl, h2⟩
    · exact ⟨_, rfl, h2⟩
    · exact ⟨_, rfl, h2⟩
    · cases h2
  · cases h
/-- Cells of an object are others. -/
def hMod (st : Store) (o : Nat) (f : List AV → (List AV → Rs) → Rs) (k : Store → Rs) : Rs := match st with
  | ⟨objs, nobj, tops, ntop⟩ => (match Nat.blt o nobj with
    | true => hObjSet objs (nobj - 1 - o) (fun x k => match x with
      | .cells xs => f xs fun ys => k (.cells ys)
      | .tcells t n xs => f xs fun ys => k (.tcells t n ys)
      | .scells xs => f xs fun ys => k (.scells ys)
      | _ => none) (fun objs => k ⟨objs, nobj, tops, ntop⟩)
    | false => none)
theorem hMod_ok {st : Store} {o : Nat} {f : List AV → (List AV → Rs) → Rs} {k : Store → Rs} {r : AV × Store} (h : hMod st o f k = some r) : ∃ cs, st.getCells o = some cs ∧ f cs (fun ys => k (st.put o ys)) = some r := by
  obtain ⟨objs, nobj, tops, ntop⟩ := st
  simp only [hMod] at h
  split at h
  · rename_i hlt
    have hlt : o < nobj := Nat.le_of_ble_eq_true hlt
    obtain ⟨x, h1, h2⟩ := hObjSet_ok h
    have hg : (Store.mk objs nobj tops ntop).get o = some x := by simp only [Store.get, if_pos hlt, h1]
    simp only [Store.getCells, hg]
    split at h2
    · refine ⟨_, rfl, ?_⟩
      simpa only [Store.put, hg, Store.set] using h2
    · refine ⟨_, rfl, ?_⟩
      simpa only [Store.put, hg, Store.set] using h2
    · refine ⟨_, rfl, ?_⟩
      simpa only [Store.put, hg, Store.set] using h2
    · cases h2
  · cases h
def hNewO (st : Store) (x : AObj) (k : Nat → Store → Rs) : Rs := match st with
  | ⟨objs, nobj, tops, ntop⟩ => fNat nobj fun nobj => k nobj ⟨x :: objs, Nat.succ nobj, tops, ntop⟩
theorem hNewO_eq (st : Store) (x : AObj) (k : Nat → Store → Rs) : hNewO st x k = k st.nobj (st.new x) := by
  obtain ⟨objs, nobj, tops, ntop⟩ := st
  simp only [hNewO, fNat_eq]; rfl
def hNew (cs : List AV) (st : Store) (k : AV → Store → Rs) : Rs := hNewO st (.cells cs) fun o st => k (.ptr o 0) st
theorem hNew_eq (cs : List AV) (st : Store) (k : AV → Store → Rs) : hNew cs st k = k (.ptr st.nobj 0) (st.new (.cells cs)) := by
  simp only [hNew, hNewO_eq]

/-! ### Operations -/
def hPick (c a b : AV) (k : AV → Rs) : Rs := match c with
  | .bool true => k a
  | .bool false => k b
  | _ => none
def hLd1 (p : AV) (st : Store) (k : AV → Rs) : Rs := match p with
  | .ptr o off => hGet st o fun cs => hNth cs off k
  | .rptr cs => hNth cs 0 k
  | _ => none
theorem hLd1_ok {p : AV} {st : Store} {k : AV → Rs} {r : AV × Store} (h : hLd1 p st k = some r) : ∃ v, loadCs st 1 (.val p) = some [v] ∧ k v = some r := by
  unfold hLd1 at h
  split at h
  · obtain ⟨cs, h1, h2⟩ := hGet_ok h
    obtain ⟨x, h3, h4⟩ := hNth_ok h2
    exact ⟨x, by simp only [loadCs, h1, cut_one h3], h4⟩
  · obtain ⟨x, h3, h4⟩ := hNth_ok h
    exact ⟨x, by simp only [loadCs, cut_one h3], h4⟩
  · cases h
def hLdN (sz : Nat) (p : AV) (st : Store) (k : AV → Rs) : Rs := match p with
  | .ptr o off => hGet st o fun cs => hCut cs off sz fun c => k (.agg c)
  | .rptr cs => hCut cs 0 sz fun c => k (.agg c)
  | _ => none
theorem hLdN_ok {sz : Nat} {p : AV} {st : Store} {k : AV → Rs} {r : AV × Store} (h : hLdN sz p st k = some r) : ∃ c, loadCs st sz (.val p) = some c ∧ k (.agg c) = some r := by
  unfold hLdN at h
  split at h
  · obtain ⟨cs, h1, h2⟩ := hGet_ok h
    obtain ⟨x, h3, h4⟩ := hCut_ok h2
    exact ⟨x, by simp only [loadCs, h1, h3], h4⟩
  · obtain ⟨x, h3, h4⟩ := hCut_ok h
    exact ⟨x, by simp only [loadCs, h3], h4⟩
  · cases h
def hLoc1 (cs : List AV) (off : Nat) (k : AV → Rs) : Rs := hNth cs off k
def hLocN (sz : Nat) (cs : List AV) (off : Nat) (k : AV → Rs) : Rs := hCut cs off sz fun c => k (.agg c)
def hStL1 (cs : List AV) (off : Nat) (v : AV) (k : List AV → Rs) : Rs := match oneC v with
  | true => hPut cs off v k
  | false => none
def hStLN (sz : Nat) (cs : List AV) (off : Nat) (v : AV) (k : List AV → Rs) : Rs := hCells v fun c => hLenIs c sz (hSplice cs off c k)
def hSt1 (p : AV) (v : AV) (st : Store) (k : Store → Rs) : Rs := match p with
  | .ptr o off => (match oneC v with
    | true => hMod st o (fun cs k => hPut cs off v k) k
    | false => none)
  | _ => none
def hStN (sz : Nat) (p : AV) (v : AV) (st : Store) (k : Store → Rs) : Rs := match p with
  | .ptr o off => hCells v fun c => hLenIs c sz (hMod st o (fun cs k => hSplice cs off c k) k)
  | _ => none
def hArith (op : Int → Int → Int) (a b : AV) (k : AV → Rs) : Rs := match a with
  | .int kd x => (match b with
    | .int kd' y => (match Nat.beq (kNum kd) (kNum kd') with
      | true => fWrap kd (op x y) fun z => k (.int kd z)
      | false => none)
    | _ => none)
  | _ => none
def iLt : Int → Int → Bool
  | .ofNat a, .ofNat b => Nat.blt a b
  | .ofNat _, .negSucc _ => false
  | .negSucc _, .ofNat _ => true
  | .negSucc a, .negSucc b => Nat.blt b a
theorem iLt_eq (a b : Int) : iLt a b = decide (a < b) := by
  cases a <;> cases b <;> simp only [iLt] <;> rw [Bool.eq_iff_iff] <;> simp [Nat.blt_eq] <;> omega
def iEq : Int → Int → Bool
  | .ofNat a, .ofNat b => Nat.beq a b
  | .negSucc a, .negSucc b => Nat.beq a b
  | _, _ => false
theorem iEq_eq (a b : Int) : iEq a b = (a == b) := by
  cases a <;> cases b <;> simp only [iEq] <;> rw [Bool.eq_iff_iff] <;> simp [Nat.beq_eq] <;> omega
def hCmpI (op : Int → Int → Bool) (a b : AV) (k : AV → Rs) : Rs := match a with
  | .int kd x => (match b with
    | .int kd' y => (match Nat.beq (kNum kd) (kNum kd') with
      | true => fBool (op x y) fun z => k (.bool z)
      | false => none)
    | _ => none)
  | _ => none
def bEq : List UInt8 → List UInt8 → Bool
  | [], [] => true
  | a :: as', b :: bs => (match Nat.beq a.toNat b.toNat with
    | true => bEq as' bs
    | false => false)
  | _, _ => false
theorem bEq_eq : ∀ a b : List UInt8, bEq a b = (a == b)
  | [], [] => rfl
  | [], _ :: _ => rfl
  | _ :: _, [] => rfl
  | a :: as', b :: bs => by
    simp only [bEq]
    split
    · rename_i h
      have : a = b := UInt8.toNat_inj.1 (Nat.eq_of_beq_eq_true h)
      subst this
      rw [bEq_eq as' bs]
      simp
    · rename_i h
      have : a ≠ b := fun e => by subst e; simp at h
      simp [this]
def hStr (op : List UInt8 → List UInt8 → Bool) (a b : AV) (k : AV → Rs) : Rs := match a with
  | .str x => (match b with
    | .str y => fBool (op x y) fun z => k (.bool z)
    | _ => none)
  | _ => none
def hNot (a : AV) (k : AV → Rs) : Rs := match a with
  | .bool true => k (.bool false)
  | .bool false => k (.bool true)
  | _ => none
def hAddr (n : Nat) (p : AV) (k : AV → Rs) : Rs := match p with
  | .ptr o a => fNat (a + n) fun a => k (.ptr o a)
  | .rptr cs => k (.rptr (cs.drop n))
  | _ => none
def hFld1 (x : AV) (off : Nat) (k : AV → Rs) : Rs := match x with
  | .agg cs => hNth cs off k
  | _ => none
def hFldN (sz : Nat) (x : AV) (off : Nat) (k : AV → Rs) : Rs := match x with
  | .agg cs => hCut cs off sz fun c => k (.agg c)
  | _ => none
def hIdx (v : AV) (n : Nat) (k : Nat → Rs) : Rs := match v with
  | .int _ i => (match i with
    | .ofNat j => (match Nat.blt j n with
      | true => fNat j k
      | false => none)
    | .negSucc _ => none)
  | _ => none
theorem hIdx_ok {v : AV} {n : Nat} {k : Nat → Rs} {r : AV × Store} (h : hIdx v n k = some r) : ∃ j, idx v n = some j ∧ j < n ∧ k j = some r := by
  unfold hIdx at h
  split at h
  · split at h
    · rename_i j
      split at h
      · rename_i hj
        have hj : j < n := Nat.le_of_ble_eq_true hj
        rw [fNat_eq] at h
        refine ⟨j, ?_, hj, h⟩
        simp only [idx]
        rw [if_pos ⟨by simp, by simpa using hj⟩]
        rfl
      · cases h
    · cases h
  · cases h
def fLen (xs : List AV) (k : Nat → Rs) : Rs := fNat xs.length k
def hNthR (xs : List AV) (i : AV) (k : AV → Rs) : Rs := match i with
  | .int _ i => (match i with
    | .ofNat j => hNth xs j k
    | .negSucc _ => none)
  | _ => none
theorem hNthR_ok {xs : List AV} {i : AV} {k : AV → Rs} {r : AV × Store} (h : hNthR xs i k = some r) : ∃ j x, idx i xs.length = some j ∧ xs[j]? = some x ∧ k x = some r := by
  unfold hNthR at h
  split at h
  · split at h
    · rename_i j
      obtain ⟨x, h1, h2⟩ := hNth_ok h
      have hj := (List.getElem?_eq_some_iff.1 h1).1
      refine ⟨j, x, ?_, h1, h2⟩
      simp only [idx]
      rw [if_pos ⟨by simp, by simpa using hj⟩]
      rfl
    · cases h
  · cases h
def hCellsA (y : AV) (k : List AV → Rs) : Rs := match y with
  | .agg cs => k cs
  | y => k [y]
def hElem (sz : Nat) (x i : AV) (k : AV → Rs) : Rs := match x with
  | .row s _ _ xs => (match Nat.beq s sz with
    | true => hNthR xs i fun y => hCellsA y fun c => k (.rptr c)
    | false => none)
  | .arr s o off len _ => (match Nat.beq s sz with
    | true => hIdx i len fun j => fNat (off + j * sz) fun a => k (.ptr o a)
    | false => none)
  | _ => none
theorem hCellsA_eq (y : AV) (k : List AV → Rs) : hCellsA y k = k y.cells := by cases y <;> rfl
def hStrAt (x i : AV) (k : AV → Rs) : Rs := match x with
  | .str s => (match i with
    | .int _ z => (match z with
      | .ofNat j => (match s[j]? with
        | some b => fNat b.toNat fun b => k (.int .u8 (.ofNat b))
        | none => none)
      | .negSucc _ => none)
    | _ => none)
  | _ => none
def hLenS (x : AV) (k : AV → Rs) : Rs := match x with
  | .str s => fNat s.length fun n => k (.int .i64 (.ofNat n))
  | _ => none
def hLenR (x : AV) (k : AV → Rs) : Rs := match x with
  | .nils => k (.int .i64 (.ofNat 0))
  | .zsl => k (.int .i64 (.ofNat 0))
  | .row _ _ _ xs => fNat xs.length fun n => k (.int .i64 (.ofNat n))
  | .arr _ _ _ n _ => k (.int .i64 (.ofNat n))
  | _ => none
def hExt (i : Nat) (x : AV) (k : AV → Rs) : Rs := match x with
  | .tuple vs => hNth vs i k
  | _ => none
def hConvI (kd : IntKind) (x : AV) (k : AV → Rs) : Rs := match x with
  | .int _ n => fWrap kd n fun z => k (.int kd z)
  | _ => none
def hNN (v : AV) (a : Rs) : Rs := match notNil v with
  | true => a
  | false => none
def hCall (call : Caller) (f : AV) (args : List AV) (st : Store) (k : AV → Store → Rs) : Rs := match call f args st with
  | some (v, st) => k v st
  | none => none
def hFill (zs : List (Nat × Nat × AV)) (cs : List AV) (k : List AV → Rs) : Rs := List.rec (motive := fun _ => List AV → Rs) k
  (fun z _ ih cs => match z with
    | (off, sz, v) => (match Nat.beq sz 1 with
      | true => (match oneC v with
        | true => hPut cs off v ih
        | false => hCells v fun c => hLenIs c sz (hSplice cs off c ih))
      | false => hCells v fun c => hLenIs c sz (hSplice cs off c ih))) zs cs
end
end Go.Sim

namespace Go.Sim

section
variable {α : Type}
def lk (t : Nat) (l : List (Nat × α)) : Option α := match l with
  | [] => none
  | p :: r => (match Nat.beq p.1 t with
    | true => some p.2
    | false => lk t r)
theorem lk_cons (t : Nat) (p : Nat × α) (l : List (Nat × α)) : lk t (p :: l) = if p.1 = t then some p.2 else lk t l := by
  simp only [lk]
  split
  · rename_i h; rw [if_pos (Nat.eq_of_beq_eq_true h)]
  · rename_i h; rw [if_neg (Nat.ne_of_beq_eq_false h)]
def memN (t : Nat) : List Nat → Bool
  | [] => false
  | x :: r => (match Nat.beq x t with
    | true => true
    | false => memN t r)
theorem memN_ok {t : Nat} : ∀ {l : List Nat}, memN t l = false → t ∉ l
  | [], _ => by simp
  | x :: r, h => by
    simp only [memN] at h
    split at h
    · cases h
    · rename_i hx
      simp only [List.mem_cons, not_or]
      exact ⟨fun e => Nat.ne_of_beq_eq_false hx e.symm, memN_ok h⟩
def drops (ks : List Nat) : List (Nat × α) → List (Nat × α)
  | [] => []
  | p :: r => (match memN p.1 ks with
    | true => drops ks r
    | false => p :: drops ks r)
theorem lk_drops {ks : List Nat} {t : Nat} {v : α} : ∀ {l : List (Nat × α)}, lk t (drops ks l) = some v → lk t l = some v ∧ t ∉ ks
  | [], h => by cases h
  | p :: r, h => by
    simp only [drops] at h
    split at h
    · rename_i hm
      obtain ⟨h1, h2⟩ := lk_drops h
      refine ⟨?_, h2⟩
      rw [lk_cons]
      split
      · rename_i e
        exfalso
        have : memN p.1 ks = true := hm
        -- p.1 is dropped, but t = p.1 is not among the dropped ones
        have h3 : ∀ (l : List Nat), memN p.1 l = true → p.1 ∈ l := by
          intro l
          induction l with
          | nil => intro h; cases h
          | cons x r ih =>
            intro h
            simp only [memN] at h
            split at h
            · rename_i hx; rw [Nat.eq_of_beq_eq_true hx]; exact List.mem_cons_self
            · exact List.mem_cons_of_mem _ (ih h)
        exact h2 (e ▸ h3 ks this)
      · exact h1
    · rename_i hm
      rw [lk_cons] at h ⊢
      split at h
      · rename_i e
        rw [if_pos e]
        exact ⟨h, e ▸ memN_ok hm⟩
      · rename_i e
        rw [if_neg e]
        exact lk_drops h
end

/-- What is known of a frame. -/
structure HEnv where
  n : Nat
  vs : List (Nat × AV)
  os : List (Nat × Nat)
  bs : List (Nat × List AV)
  gs : List (Nat × Nat × Bool × Nat)
/-- Places that are known where a guard holds: those that another operation does not touch. -/
def dropG (d : Nat) : List (Nat × Nat × Bool × Nat) → List (Nat × Nat × Bool × Nat)
  | [] => []
  | g :: r => (match Nat.beq g.1 d || Nat.beq g.2.1 d with
    | true => dropG d r
    | false => g :: dropG d r)
theorem dropG_ok {d : Nat} {g : Nat × Nat × Bool × Nat} : ∀ {l : List (Nat × Nat × Bool × Nat)}, g ∈ dropG d l → g ∈ l ∧ g.1 ≠ d ∧ g.2.1 ≠ d
  | [], h => by cases h
  | x :: r, h => by
    simp only [dropG] at h
    split at h
    · obtain ⟨h1, h2⟩ := dropG_ok h
      exact ⟨List.mem_cons_of_mem _ h1, h2⟩
    · rename_i hx
      simp only [Bool.or_eq_false_iff] at hx
      rcases List.mem_cons.1 h with rfl | h
      · exact ⟨List.mem_cons_self, Nat.ne_of_beq_eq_false hx.1, Nat.ne_of_beq_eq_false hx.2⟩
      · obtain ⟨h1, h2⟩ := dropG_ok h
        exact ⟨List.mem_cons_of_mem _ h1, h2⟩
structure HRel (A : FAnn) (e : HEnv) (fr : AFr) : Prop where
  lt : e.n ≤ fr.tmps.length
  lo : e.n ≤ fr.offs.length
  ll : e.n ≤ fr.lbs.length
  vs : ∀ t v, lk t e.vs = some v → fr.tmps[t]? = some v
  os : ∀ t o, lk t e.os = some o → fr.offs[t]? = some (some o)
  bs : ∀ b cs, lk b e.bs = some cs → A.base b = some b ∧ fr.lbs[b]? = some cs ∧ ∃ o, fr.offs[b]? = some (some o)
  gs : ∀ g ∈ e.gs, fr.tmps[g.2.1]? = some (.bool g.2.2.1) → fr.offs[g.1]? = some (some g.2.2.2)

noncomputable section
def heval (G : Nat → Option AV) (A : FAnn) (e : HEnv) : Operand → Option In
  | .tmp t => (match A.base t with
    | none => (match lk t e.vs with
      | some v => some (.val v)
      | none => none)
    | some b => (match lk b e.bs with
      | some cs => (match lk t e.os with
        | some off => some (.loc b off cs)
        | none => none)
      | none => none))
  | .const v => (match absC v with
    | some x => some (.val x)
    | none => none)
  | .global g => (match G g with
    | some x => some (.val x)
    | none => none)
  | .func f => some (.val (.func (.func f) [] []))
def hevals (G : Nat → Option AV) (A : FAnn) (e : HEnv) : List Operand → Option (List In)
  | [] => some []
  | x :: xs => (match heval G A e x with
    | some v => (match hevals G A e xs with
      | some vs => some (v :: vs)
      | none => none)
    | none => none)
def hputV (A : FAnn) (e : HEnv) (dst : Option Tmp) (v : AV) : Option HEnv := match dst with
  | none => some e
  | some d => (match A.base d with
    | none => (match Nat.blt d e.n with
      | true => some ⟨e.n, (d, v) :: e.vs, e.os, e.bs, dropG d e.gs⟩
      | false => none)
    | some _ => none)
def optIs (o : Option Nat) (b : Nat) : Bool := match o with
  | some x => Nat.beq x b
  | none => false
theorem optIs_ok {o : Option Nat} {b : Nat} (h : optIs o b = true) : o = some b := by
  cases o with
  | none => cases h
  | some x => rw [Nat.eq_of_beq_eq_true (show Nat.beq x b = true from h)]
def hput (A : FAnn) (e : HEnv) (op : Op) (dst : Option Tmp) (out : Out) : Option HEnv := match out with
  | .val v => hputV A e dst v
  | .loc b off => (match dst with
    | some d => (match lk b e.bs with
      | some _ => (match optIs (A.base d) b && (!(Nat.beq d b) && Nat.blt d e.n) with
        | true => some ⟨e.n, e.vs, (d, off) :: e.os, e.bs, dropG d e.gs⟩
        | false => none)
      | none => none)
    | none => none)
  | .box cs => (match dst with
    | some d => (match optIs (A.base d) d && Nat.blt d e.n with
      | true => some ⟨e.n, e.vs, (d, 0) :: drops (A.subs d) e.os, (d, cs) :: e.bs, []⟩
      | false => none)
    | none => none)
  | .lst b cs => (match dst with
    | some _ => none
    | none => (match op with
      | .store _ (.tmp t) _ => (match lk b e.bs with
        | some _ => (match optIs (A.base t) b with
          | true => some ⟨e.n, e.vs, e.os, (b, cs) :: e.bs, e.gs⟩
          | false => none)
        | none => none)
      | _ => none))
/-- The temporary by which an operation is run or not. -/
def hGuardT (A : FAnn) (ops : List Oper) (j : Nat) : Option Nat := match ops[j]? with
  | none => none
  | some o => (match o.dst with
    | none => none
    | some d => (match A.base d with
      | some _ => none
      | none => some d))
end

section
variable {E : Env} {call : Caller} {A : FAnn} {e e' : HEnv} {fr : AFr}
theorem heval_ok (h : HRel A e fr) {x : Operand} {i : In} (he : heval E.globals A e x = some i) : aeval E.globals A.ann fr x = some i := by
  cases x with
  | tmp t =>
    simp only [heval] at he
    simp only [aeval, FAnn.ann]
    cases hb : A.base t with
    | none =>
      simp only [hb] at he
      split at he
      · rename_i v hv
        simp only [h.vs t v hv, Option.map_some]; exact he
      · cases he
    | some b =>
      simp only [hb] at he
      split at he
      · rename_i cs hcs
        split at he
        · rename_i off hoff
          obtain ⟨_, h1, o, h2⟩ := h.bs b cs hcs
          simp only [h2, h.os t off hoff, h1]; exact he
        · cases he
      · cases he
  | const v =>
    simp only [heval] at he
    simp only [aeval]
    split at he
    · rename_i x hx; simp only [hx, Option.map_some]; exact he
    · cases he
  | global k =>
    simp only [heval] at he
    simp only [aeval]
    split at he
    · rename_i x hx; simp only [hx, Option.map_some]; exact he
    · cases he
  | func f => exact he
theorem hevals_ok (h : HRel A e fr) : ∀ {xs : List Operand} {ins : List In}, hevals E.globals A e xs = some ins → aevals E.globals A.ann fr xs = some ins
  | [], ins, he => he
  | x :: xs, ins, he => by
    simp only [hevals] at he
    split at he
    · rename_i v hv
      split at he
      · rename_i vs hvs
        simp only [aevals, heval_ok h hv, hevals_ok h hvs]; exact he
      · cases he
    · cases he
theorem HRel.setV (h : HRel A e fr) {d : Nat} (hd : d < e.n) (v : AV) : HRel A ⟨e.n, (d, v) :: e.vs, e.os, e.bs, dropG d e.gs⟩ { fr with tmps := fr.tmps.set d v } := by
  refine ⟨by simpa using h.lt, h.lo, h.ll, fun t y ht => ?_, h.os, h.bs, fun g hg hc => ?_⟩
  rotate_left
  · obtain ⟨h1, h2, h3⟩ := dropG_ok hg
    refine h.gs g h1 ?_
    rw [← hc]
    exact (List.getElem?_set_ne (fun e => h3 e.symm)).symm
  rw [lk_cons] at ht
  split at ht
  · rename_i e1; injection ht with ht; subst ht
    rw [← e1]
    exact List.getElem?_set_self (Nat.lt_of_lt_of_le hd h.lt)
  · rename_i e1
    show (fr.tmps.set d v)[t]? = _
    rw [List.getElem?_set_ne e1]
    exact h.vs t y ht
theorem hputV_ok (h : HRel A e fr) {op : Op} {dst : Option Tmp} {v : AV} (he : hputV A e dst v = some e') : ∃ fr', aput A.ann fr op dst (.val v) = some fr' ∧ HRel A e' fr' := by
  cases dst with
  | none => simp only [hputV, Option.some.injEq] at he; subst he; exact ⟨fr, rfl, h⟩
  | some d =>
    simp only [hputV] at he
    simp only [aput, FAnn.ann]
    split at he
    · rename_i hb
      split at he
      · rename_i hd
        injection he with he; subst he
        exact ⟨_, by simp only [hb], h.setV (Nat.le_of_ble_eq_true hd) v⟩
      · cases he
    · cases he
theorem hput_ok (hA : A.Ok) (h : HRel A e fr) {op : Op} {dst : Option Tmp} {out : Out} (he : hput A e op dst out = some e') : ∃ fr', aput A.ann fr op dst out = some fr' ∧ HRel A e' fr' := by
  cases out with
  | val v => exact hputV_ok h he
  | loc b off =>
    cases dst with
    | none => simp [hput] at he
    | some d =>
      simp only [hput] at he
      split at he
      · rename_i cs hcs
        split at he
        · rename_i hc
          simp only [Bool.and_eq_true, Bool.not_eq_true'] at hc
          injection he with he; subst he
          have hb := optIs_ok hc.1
          have hdb : d ≠ b := Nat.ne_of_beq_eq_false hc.2.1
          have hdn : d < e.n := Nat.le_of_ble_eq_true hc.2.2
          obtain ⟨q1, q2, o, q3⟩ := h.bs b cs hcs
          refine ⟨{ fr with offs := fr.offs.set d (some off) }, by simp only [aput, q3]; exact if_pos (show A.ann.base d = some b ∧ d ≠ b from ⟨hb, hdb⟩), h.lt, by simpa using h.lo, h.ll, h.vs, fun t o ht => ?_, fun b' cs' hb' => ?_, fun g hg hc' => (by
            obtain ⟨h1, h2, h3⟩ := dropG_ok hg
            exact (List.getElem?_set_ne (fun e => h2 e.symm)).trans (h.gs g h1 hc'))⟩
          · rw [lk_cons] at ht
            split at ht
            · rename_i e1; injection ht with ht; subst ht
              rw [← e1]
              exact List.getElem?_set_self (Nat.lt_of_lt_of_le hdn h.lo)
            · rename_i e1
              show (fr.offs.set d (some off))[t]? = _
              rw [List.getElem?_set_ne e1]; exact h.os t o ht
          · obtain ⟨p1, p2, p3⟩ := h.bs b' cs' hb'
            have : d ≠ b' := by
              rintro rfl
              rw [hb] at p1; injection p1 with p1; exact hdb p1.symm
            exact ⟨p1, p2, by rw [List.getElem?_set_ne this]; exact p3⟩
        · cases he
      · cases he
  | box cs =>
    cases dst with
    | none => simp [hput] at he
    | some d =>
      simp only [hput] at he
      split at he
      · rename_i hc
        simp only [Bool.and_eq_true] at hc
        injection he with he; subst he
        have hb := optIs_ok hc.1
        have hdn : d < e.n := Nat.le_of_ble_eq_true hc.2
        have hlo := h.lo
        have hll := h.ll
        refine ⟨{ fr with offs := (purge A.ann d 0 fr.offs).set d (some 0), lbs := fr.lbs.set d cs }, by simp only [aput]; exact if_pos (show A.ann.base d = some d from hb), h.lt, by simpa [purge_len] using h.lo, by simpa using h.ll, h.vs, fun t o ht => ?_, fun b' cs' hb' => ?_, fun g hg => (by cases hg)⟩
        · rw [lk_cons] at ht
          split at ht
          · rename_i e1; injection ht with ht; subst ht
            rw [← e1]
            exact List.getElem?_set_self (by rw [purge_len]; exact Nat.lt_of_lt_of_le hdn hlo)
          · rename_i e1
            show ((purge A.ann d 0 fr.offs).set d (some 0))[t]? = _
            rw [List.getElem?_set_ne e1, purge_getElem]
            obtain ⟨h2, h3⟩ := lk_drops ht
            have h2 := h.os t o h2
            have h4 : A.base (0 + t) ≠ some d := by
              rw [Nat.zero_add]
              intro hb'
              rcases hA.subs t d hb' with q | q
              · exact e1 q.symm
              · exact h3 q
            rw [h2]; exact congrArg some (if_neg (show ¬ A.ann.base (0 + t) = some d from h4))
        · rw [lk_cons] at hb'
          split at hb'
          · rename_i e1; injection hb' with hb'; subst hb'
            simp only at e1
            subst e1
            exact ⟨hb, List.getElem?_set_self (Nat.lt_of_lt_of_le hdn hll), 0, List.getElem?_set_self (by rw [purge_len]; exact Nat.lt_of_lt_of_le hdn hlo)⟩
          · rename_i e1
            simp only at e1
            obtain ⟨p1, p2, o, p3⟩ := h.bs b' cs' hb'
            refine ⟨p1, (List.getElem?_set_ne e1).trans p2, o, ?_⟩
            show ((purge A.ann d 0 fr.offs).set d (some 0))[b']? = _
            rw [List.getElem?_set_ne e1, purge_getElem]
            have h4 : A.base (0 + b') ≠ some d := by
              rw [Nat.zero_add, p1]; intro hh; injection hh with hh; exact e1 hh.symm
            rw [p3]; exact congrArg some (if_neg (show ¬ A.ann.base (0 + b') = some d from h4))
      · cases he
  | lst b cs =>
    cases dst with
    | some d => simp [hput] at he
    | none =>
      simp only [hput] at he
      split at he
      · rename_i ty t v
        split at he
        · rename_i cs0 hcs
          split at he
          · rename_i hc
            injection he with he; subst he
            have hc := optIs_ok hc
            obtain ⟨q1, q2, o, q3⟩ := h.bs b cs0 hcs
            have hbn : b < fr.lbs.length := (List.getElem?_eq_some_iff.1 q2).1
            refine ⟨{ fr with lbs := fr.lbs.set b cs }, by simp only [aput, q3]; exact if_pos (show A.ann.base t = some b ∧ A.ann.base b = some b from ⟨hc, q1⟩), h.lt, h.lo, by simpa using h.ll, h.vs, h.os, fun b' cs' hb' => ?_, h.gs⟩
            rw [lk_cons] at hb'
            split at hb'
            · rename_i e1; injection hb' with hb'; subst hb'
              simp only at e1
              subst e1
              exact ⟨q1, List.getElem?_set_self hbn, o, q3⟩
            · rename_i e1
              obtain ⟨p1, p2, p3⟩ := h.bs b' cs' hb'
              exact ⟨p1, (List.getElem?_set_ne e1).trans p2, p3⟩
          · cases he
        · cases he
      · cases he
/-- What is known where a guard holds. -/
def condL (dg : Nat) (want : Bool) : List (Nat × Nat × Bool × Nat) → List (Nat × Nat) → List (Nat × Nat)
  | [], os => os
  | g :: r, os => (match Nat.beq g.2.1 dg && (match want with | true => g.2.2.1 | false => !g.2.2.1) with
    | true => (g.1, g.2.2.2) :: condL dg want r os
    | false => condL dg want r os)
def hcond (e : HEnv) (dg : Nat) (want : Bool) : HEnv := ⟨e.n, e.vs, condL dg want e.gs e.os, e.bs, e.gs⟩
theorem condL_ok {dg : Nat} {want : Bool} {os : List (Nat × Nat)} {t o : Nat} : ∀ {l : List (Nat × Nat × Bool × Nat)}, lk t (condL dg want l os) = some o → lk t os = some o ∨ (t, dg, want, o) ∈ l
  | [], h => .inl h
  | g :: r, h => by
    simp only [condL] at h
    split at h
    · rename_i hg
      rw [lk_cons] at h
      split at h
      · rename_i e1
        simp only at e1 h
        injection h with h
        simp only [Bool.and_eq_true] at hg
        refine .inr (List.mem_cons.2 (.inl ?_))
        obtain ⟨a, b, c, d⟩ := g
        simp only at e1 h hg
        rw [Nat.eq_of_beq_eq_true hg.1, e1, h]
        cases want <;> cases c <;> simp at hg ⊢
      · rcases condL_ok h with h | h
        · exact .inl h
        · exact .inr (List.mem_cons_of_mem _ h)
    · rcases condL_ok h with h | h
      · exact .inl h
      · exact .inr (List.mem_cons_of_mem _ h)
theorem HRel.cond (h : HRel A e fr) {dg : Nat} {want : Bool} (hg : lk dg e.vs = some (.bool want)) : HRel A (hcond e dg want) fr :=
  ⟨h.lt, h.lo, h.ll, h.vs, fun t o ht => by
    rcases condL_ok ht with q | q
    · exact h.os t o q
    · exact h.gs _ q (h.vs dg _ hg), h.bs, h.gs⟩
end
end Go.Sim

namespace Go.Sim
noncomputable section

/-- What is handed on is what is answered. -/
def HOk (a : Ans) (h : (Out → Store → Rs) → Rs) : Prop := ∀ k r, h k = some r → ∃ o s, a = some (o, s) ∧ k o s = some r
def kv (k : Out → Store → Rs) (v : AV) (s : Store) : Rs := k (.val v) s
theorem hVal_ok {a : Ans} : HOk a (fun k => hVal a (fun v s => k (.val v) s)) := by
  intro k r h
  simp only [hVal] at h
  split at h
  · rename_i v s; exact ⟨_, _, rfl, h⟩
  · cases h
def fAV (v : AV) (k : AV → Rs) : Rs := match v with
  | .row sz tok cap xs => fList xs fun xs => k (.row sz tok cap xs)
  | v => k v
theorem fAV_eq (v : AV) (k : AV → Rs) : fAV v k = k v := by
  unfold fAV; split
  · rw [fList_eq]
  · rfl
def fSt (s : Store) (k : Store → Rs) : Rs := match s with
  | ⟨objs, nobj, tops, ntop⟩ => fNat nobj fun nobj => fNat ntop fun ntop => k ⟨objs, nobj, tops, ntop⟩
theorem fSt_eq (s : Store) (k : Store → Rs) : fSt s k = k s := by
  obtain ⟨objs, nobj, tops, ntop⟩ := s
  simp only [fSt, fNat_eq]
def hValF (a : Ans) (k : AV → Store → Rs) : Rs := match a with
  | some (.val v, s) => fAV v fun v => fSt s fun s => k v s
  | _ => none
theorem hValF_ok {a : Ans} : HOk a (fun k => hValF a (fun v s => k (.val v) s)) := by
  intro k r h
  simp only [hValF] at h
  split at h
  · rename_i v s; rw [fAV_eq, fSt_eq] at h; exact ⟨_, _, rfl, h⟩
  · cases h
def hMove (L : Look) (md : Nat) (type : TypeId) (ins : List In) (st : Store) (k : Out → Store → Rs) : Rs := match ins with
  | [.val v] => (match Nat.beq md 2 with
    | true => hVal (aMove L 2 type [.val v] st) (fun v s => k (.val v) s)
    | false => k (.val v) st)
  | [.loc b off _] => k (.loc b off) st
  | _ => none
theorem hMove_ok {L : Look} {md : Nat} {type : TypeId} {ins : List In} {st : Store} : HOk (aMove L md type ins st) (hMove L md type ins st) := by
  intro k r h
  unfold hMove at h
  split at h
  · split at h
    · rename_i hb; rw [Nat.eq_of_beq_eq_true hb]; exact hVal_ok k r h
    · rename_i hb; exact ⟨_, _, by simp only [aMove, if_neg (Nat.ne_of_beq_eq_false hb)], h⟩
  · exact ⟨_, _, by simp only [aMove], h⟩
  · cases h
def hPickO (ins : List In) (st : Store) (k : Out → Store → Rs) : Rs := match ins with
  | [.val c, .val a, .val b] => hPick c a b fun v => k (.val v) st
  | _ => none
theorem hPickO_ok {ins : List In} {st : Store} : HOk (aPick ins st) (hPickO ins st) := by
  intro k r h
  unfold hPickO at h
  split at h
  · unfold hPick at h
    split at h
    · exact ⟨_, _, by simp only [aPick]; rfl, h⟩
    · exact ⟨_, _, by simp only [aPick]; rfl, h⟩
    · cases h
  · cases h
def hAlloc (L : Look) (md : Nat) (t : TypeId) (st : Store) (k : Out → Store → Rs) : Rs := match zeroT L t with
  | none => none
  | some z => (match Nat.beq md 1 with
    | true => k (.box z.cells) st
    | false => (match Nat.beq md 3 with
      | true => hVal (aAlloc L 3 t st) (fun v s => k (.val v) s)
      | false => hNew z.cells st fun p s => k (.val p) s))
theorem hAlloc_ok {L : Look} {md : Nat} {t : TypeId} {st : Store} : HOk (aAlloc L md t st) (hAlloc L md t st) := by
  intro k r h
  unfold hAlloc at h
  split at h
  · cases h
  · rename_i z hz
    split at h
    · rename_i hb; have := Nat.eq_of_beq_eq_true hb; subst this
      exact ⟨_, _, by simp only [aAlloc, hz]; rfl, h⟩
    · rename_i hb
      have hb := Nat.ne_of_beq_eq_false hb
      split at h
      · rename_i hb3; have := Nat.eq_of_beq_eq_true hb3; subst this
        exact hVal_ok k r h
      · rename_i hb3
        have hb3 := Nat.ne_of_beq_eq_false hb3
        rw [hNew_eq] at h
        exact ⟨_, _, by simp only [aAlloc, hz, if_neg hb, if_neg hb3], h⟩
def hBox (md : Nat) (ins : List In) (st : Store) (k : Out → Store → Rs) : Rs := match ins with
  | [.val v] => (match Nat.beq md 1 with
    | true => hCells v fun cs => k (.box cs) st
    | false => (match Nat.beq md 2 with
      | true => hCells v fun cs => k (.val (.rptr cs)) st
      | false => hCells v fun cs => hNew cs st fun p s => k (.val p) s))
  | _ => none
theorem hBox_ok {md : Nat} {ins : List In} {st : Store} : HOk (aBox md ins st) (hBox md ins st) := by
  intro k r h
  unfold hBox at h
  split at h
  · rename_i v
    split at h
    · rename_i hb; have := Nat.eq_of_beq_eq_true hb; subst this
      obtain ⟨h1, h2⟩ := hCells_ok h
      exact ⟨_, _, by simp only [aBox, if_pos h1]; rfl, h2⟩
    · rename_i hb
      have hb := Nat.ne_of_beq_eq_false hb
      split at h
      · rename_i hb2; have := Nat.eq_of_beq_eq_true hb2; subst this
        obtain ⟨h1, h2⟩ := hCells_ok h
        exact ⟨_, _, by simp only [aBox, if_pos h1]; rfl, h2⟩
      · rename_i hb2
        have hb2 := Nat.ne_of_beq_eq_false hb2
        obtain ⟨h1, h2⟩ := hCells_ok h
        rw [hNew_eq] at h2
        exact ⟨_, _, by simp only [aBox, if_pos h1, if_neg hb, if_neg hb2], h2⟩
  · cases h
/-- Where parts are laid. -/
def places (place : Nat → Option (Nat × Nat)) : List (Nat × AV) → Option (List (Nat × Nat × AV))
  | [] => some []
  | (i, v) :: r => (match place i with
    | none => none
    | some (off, sz) => (match places place r with
      | some zs => some ((off, sz, v) :: zs)
      | none => none))
theorem hFill_ok {place : Nat → Option (Nat × Nat)} : ∀ {l : List (Nat × AV)} {zs : List (Nat × Nat × AV)} {cs : List AV} {k : List AV → Rs} {r : AV × Store}, places place l = some zs → hFill zs cs k = some r → ∃ cs', fillV place l cs = some cs' ∧ k cs' = some r
  | [], zs, cs, k, r, hp, h => by
    simp only [places, Option.some.injEq] at hp; subst hp
    exact ⟨cs, rfl, h⟩
  | (i, v) :: l, zs, cs, k, r, hp, h => by
    simp only [places] at hp
    split at hp
    · cases hp
    · rename_i off sz hpl
      split at hp
      · rename_i zs' hzs
        injection hp with hp; subst hp
        have gen : ∀ {k' : List AV → Rs}, (hCells v fun c => hLenIs c sz (hSplice cs off c k')) = some r → ∃ cs', splice cs off v.cells = some cs' ∧ v.cells.length = sz ∧ v.noTuple = true ∧ k' cs' = some r := by
          intro k' h
          obtain ⟨h1, h2⟩ := hCells_ok h
          obtain ⟨h3, h4⟩ := hLenIs_ok h2
          obtain ⟨c, h5, h6⟩ := hSplice_ok h4
          exact ⟨c, h5, h3, h1, h6⟩
        have step : ∃ cs', splice cs off v.cells = some cs' ∧ v.cells.length = sz ∧ v.noTuple = true ∧ hFill zs' cs' k = some r := by
          have h : (match Nat.beq sz 1 with
            | true => (match oneC v with
              | true => hPut cs off v (fun cs => hFill zs' cs k)
              | false => hCells v fun c => hLenIs c sz (hSplice cs off c (fun cs => hFill zs' cs k)))
            | false => hCells v fun c => hLenIs c sz (hSplice cs off c (fun cs => hFill zs' cs k))) = some r := h
          split at h
          · rename_i hs
            split at h
            · rename_i h1
              obtain ⟨h2, h3⟩ := hPut_ok h
              obtain ⟨h4, h5⟩ := oneC_ok h1
              refine ⟨_, by rw [h4]; exact splice_one h2, by rw [h4, Nat.eq_of_beq_eq_true hs]; rfl, h5, h3⟩
            · exact gen h
          · exact gen h
        obtain ⟨cs', h1, h2, h3, h4⟩ := step
        obtain ⟨cs'', h5, h6⟩ := hFill_ok hzs h4
        refine ⟨cs'', ?_, h6⟩
        simp only [fillV, hpl, h1, h2, h3]
        rw [if_pos ⟨trivial, trivial⟩]
        exact h5
      · cases hp
def hBuild (L : Look) (t : TypeId) (ps : List Nat) (vs : List AV) (st : Store) (k : Out → Store → Rs) : Rs := match zeroT L t with
  | none => none
  | some z => (match L.und t with
    | some (.struct fs) => (match fs.all (fun f => (sizeT L f.type).isSome) with
      | true => (match places (placeS L fs) (ps.zip vs) with
        | some zs => hFill zs z.cells fun cs => k (.val (.agg cs)) st
        | none => none)
      | false => none)
    | some (.array _ e) => (match sizeT L e with
      | some sz => (match places (placeA sz) (ps.zip vs) with
        | some zs => hFill zs z.cells fun cs => k (.val (.agg cs)) st
        | none => none)
      | none => none)
    | _ => none)
theorem hBuild_ok {L : Look} {t : TypeId} {ps : List Nat} {vs : List AV} {st : Store} : HOk (aBuild L t ps vs st) (hBuild L t ps vs st) := by
  intro k r h
  unfold hBuild at h
  split at h
  · cases h
  · rename_i z hz
    split at h
    · rename_i fs hu
      split at h
      · rename_i hall
        split at h
        · rename_i zs hzs
          obtain ⟨cs, h1, h2⟩ := hFill_ok hzs h
          exact ⟨_, _, by simp only [aBuild, hz, hu, if_pos hall, h1], h2⟩
        · cases h
      · cases h
    · rename_i n e hu
      split at h
      · rename_i sz hsz
        split at h
        · rename_i zs hzs
          obtain ⟨cs, h1, h2⟩ := hFill_ok hzs h
          exact ⟨_, _, by simp only [aBuild, hz, hu, hsz, h1], h2⟩
        · cases h
      · cases h
    · cases h
def hLoad (L : Look) (md : Nat) (t : TypeId) (ins : List In) (st : Store) (k : Out → Store → Rs) : Rs := match Nat.beq md 2 with
  | true => hVal (aLoad L 2 t ins st) (fun v s => k (.val v) s)
  | false => (match sizeT L t with
    | none => none
    | some sz => (match aggT L t with
      | some true => (match ins with
        | [.val p] => hLdN sz p st fun v => k (.val v) st
        | [.loc _ off cs] => hLocN sz cs off fun v => k (.val v) st
        | _ => none)
      | some false => (match Nat.beq sz 1 with
        | true => (match ins with
          | [.val p] => hLd1 p st fun v => k (.val v) st
          | [.loc _ off cs] => hLoc1 cs off fun v => k (.val v) st
          | _ => none)
        | false => none)
      | none => none))
theorem hLoad_ok {L : Look} {md : Nat} {t : TypeId} {ins : List In} {st : Store} : HOk (aLoad L md t ins st) (hLoad L md t ins st) := by
  intro k r h
  unfold hLoad at h
  split at h
  · rename_i hb; rw [Nat.eq_of_beq_eq_true hb]; exact hVal_ok k r h
  · rename_i hb
    have hb := Nat.ne_of_beq_eq_false hb
    split at h
    · cases h
    · rename_i sz hsz
      split at h
      · rename_i hag
        split at h
        · obtain ⟨c, h1, h2⟩ := hLdN_ok h
          exact ⟨_, _, by simp only [aLoad, hsz, h1, mkT, hag, if_neg hb], h2⟩
        · obtain ⟨c, h1, h2⟩ := hCut_ok h
          exact ⟨_, _, by simp only [aLoad, hsz, loadCs, h1, mkT, hag, if_neg hb], h2⟩
        · cases h
      · rename_i hag
        split at h
        · rename_i h1
          have := Nat.eq_of_beq_eq_true h1; subst this
          split at h
          · obtain ⟨c, h1, h2⟩ := hLd1_ok h
            exact ⟨_, _, by simp only [aLoad, hsz, h1, mkT, hag, if_neg hb], h2⟩
          · obtain ⟨c, h1, h2⟩ := hNth_ok h
            exact ⟨_, _, by simp only [aLoad, hsz, loadCs, cut_one h1, mkT, hag, if_neg hb], h2⟩
          · cases h
        · cases h
      · cases h
def hStore (L : Look) (t : TypeId) (ins : List In) (st : Store) (k : Out → Store → Rs) : Rs := match sizeT L t with
  | none => none
  | some sz => (match aggT L t with
    | some false => (match Nat.beq sz 1 with
      | true => (match ins with
        | [.val p, .val v] => hSt1 p v st fun s => k (.val aundef) s
        | [.loc b off cs, .val v] => hStL1 cs off v fun cs => k (.lst b cs) st
        | _ => none)
      | false => none)
    | _ => (match ins with
        | [.val p, .val v] => hStN sz p v st fun s => k (.val aundef) s
        | [.loc b off cs, .val v] => hStLN sz cs off v fun cs => k (.lst b cs) st
        | _ => none))
theorem hStore_ok {L : Look} {t : TypeId} {ins : List In} {st : Store} : HOk (aStore L t ins st) (hStore L t ins st) := by
  intro k r h
  unfold hStore at h
  split at h
  · cases h
  · rename_i sz hsz
    split at h
    · split at h
      · rename_i h1
        have := Nat.eq_of_beq_eq_true h1; subst this
        split at h
        · unfold hSt1 at h
          split at h
          · split at h
            · rename_i h1
              obtain ⟨h2, h3⟩ := oneC_ok h1
              obtain ⟨cs, h4, h5⟩ := hMod_ok h
              obtain ⟨h6, h7⟩ := hPut_ok h5
              exact ⟨_, _, by simp only [aStore, hsz, h2, h3]; rw [if_pos ⟨rfl, trivial⟩]; simp only [storeCs, h4, h2, splice_one h6, aundefO], h7⟩
            · cases h
          · cases h
        · unfold hStL1 at h
          split at h
          · rename_i h1
            obtain ⟨h2, h3⟩ := oneC_ok h1
            obtain ⟨h6, h7⟩ := hPut_ok h
            exact ⟨_, _, by simp only [aStore, hsz, h2, h3]; rw [if_pos ⟨rfl, trivial⟩]; simp only [storeCs, h2, splice_one h6], h7⟩
          · cases h
        · cases h
      · cases h
    · split at h
      · unfold hStN at h
        split at h
        · obtain ⟨h1, h2⟩ := hCells_ok h
          obtain ⟨h3, h4⟩ := hLenIs_ok h2
          obtain ⟨cs, h5, h6⟩ := hMod_ok h4
          obtain ⟨c, h7, h8⟩ := hSplice_ok h6
          exact ⟨_, _, by simp only [aStore, hsz]; rw [if_pos ⟨h3, h1⟩]; simp only [storeCs, h5, h7, aundefO], h8⟩
        · cases h
      · unfold hStLN at h
        obtain ⟨h1, h2⟩ := hCells_ok h
        obtain ⟨h3, h4⟩ := hLenIs_ok h2
        obtain ⟨c, h7, h8⟩ := hSplice_ok h4
        exact ⟨_, _, by simp only [aStore, hsz]; rw [if_pos ⟨h3, h1⟩]; simp only [storeCs, h7], h8⟩
      · cases h
def hNilCheck (ins : List In) (st : Store) (k : Out → Store → Rs) : Rs := match ins with
  | [.val v] => hNN v (k (.val v) st)
  | [.loc b off _] => k (.loc b off) st
  | _ => none
theorem hNilCheck_ok {ins : List In} {st : Store} : HOk (aNilCheck ins st) (hNilCheck ins st) := by
  intro k r h
  unfold hNilCheck at h
  split at h
  · unfold hNN at h
    split at h
    · rename_i hn; exact ⟨_, _, by simp only [aNilCheck, if_pos hn], h⟩
    · cases h
  · exact ⟨_, _, by simp only [aNilCheck], h⟩
  · cases h
/-- Two that are held against each other; c: one of them is nil as it is written. -/
def binC (P : Look) (t : TypeId) (op : BinOp) (c : Bool) (x y : AV) : Option AV :=
  match x with
  | .int k a => (match y with | .int k' b => intV op k k' a b | _ => none)
  | .str a => (match y with | .str b => strOp op a b | _ => none)
  | .nilIface => binNil P t op c y
  | x => otherV P t op x y
def aBinC (P : Look) (t : TypeId) (op : BinOp) (c : Bool) (a b : AV) (st : Store) : Ans := match binC P t op c a b with
  | some v => some (.val v, st)
  | none => ptrBin P t op a b st
theorem aBinC_eq (P : Look) (t : TypeId) (op : BinOp) (x y : Operand) (a b : AV) (st : Store) : aBin P t op x y [.val a, .val b] st = aBinC P t op (isNilC x || isNilC y) a b st := by
  simp only [aBin, aBinC]
  have : binV P t op x y a b = binC P t op (isNilC x || isNilC y) a b := by
    cases a <;> rfl
  rw [this]
  cases binC P t op (isNilC x || isNilC y) a b <;> rfl
def hBinI (L : Look) (t : TypeId) (op : BinOp) (c : Bool) (a b : AV) (st : Store) (k : Out → Store → Rs) : Rs := match op with
  | .add => hArith Int.add a b fun v => k (.val v) st
  | .sub => hArith Int.sub a b fun v => k (.val v) st
  | .mul => hArith Int.mul a b fun v => k (.val v) st
  | .eql => hCmpI iEq a b fun v => k (.val v) st
  | .neq => hCmpI (fun x y => !(iEq x y)) a b fun v => k (.val v) st
  | .lss => hCmpI iLt a b fun v => k (.val v) st
  | .gtr => hCmpI (fun x y => iLt y x) a b fun v => k (.val v) st
  | .leq => hCmpI (fun x y => !(iLt y x)) a b fun v => k (.val v) st
  | .geq => hCmpI (fun x y => !(iLt x y)) a b fun v => k (.val v) st
  | op => hVal (aBinC L t op c a b st) (fun v s => k (.val v) s)
def hBinS (L : Look) (t : TypeId) (op : BinOp) (c : Bool) (a b : AV) (st : Store) (k : Out → Store → Rs) : Rs := match op with
  | .eql => hStr bEq a b fun v => k (.val v) st
  | .neq => hStr (fun x y => !(bEq x y)) a b fun v => k (.val v) st
  | op => hVal (aBinC L t op c a b st) (fun v s => k (.val v) s)
def hBin (L : Look) (t : TypeId) (op : BinOp) (c : Bool) (ins : List In) (st : Store) (k : Out → Store → Rs) : Rs := match ins with
  | [.val a, .val b] => (match L.und t with
    | some (.int _) => hBinI L t op c a b st k
    | some .string => hBinS L t op c a b st k
    | _ => hVal (aBinC L t op c a b st) (fun v s => k (.val v) s))
  | _ => none
theorem hArith_ok {f : Int → Int → Int} {a b : AV} {k : AV → Rs} {r : AV × Store} (h : hArith f a b k = some r) : ∃ kd x y, a = .int kd x ∧ b = .int kd y ∧ k (.int kd (kd.wrap (f x y))) = some r := by
  cases a with
  | int kd x =>
    cases b with
    | int kd' y =>
      simp only [hArith] at h
      split at h
      · rename_i hk
        have := kNum_inj hk; subst this
        rw [fWrap_eq] at h
        exact ⟨kd, x, y, rfl, rfl, h⟩
      · cases h
    | _ => cases h
  | _ => cases h
theorem hCmpI_ok {f : Int → Int → Bool} {a b : AV} {k : AV → Rs} {r : AV × Store} (h : hCmpI f a b k = some r) : ∃ kd x y, a = .int kd x ∧ b = .int kd y ∧ k (.bool (f x y)) = some r := by
  cases a with
  | int kd x =>
    cases b with
    | int kd' y =>
      simp only [hCmpI] at h
      split at h
      · rename_i hk
        have := kNum_inj hk; subst this
        rw [fBool_eq] at h
        exact ⟨kd, x, y, rfl, rfl, h⟩
      · cases h
    | _ => cases h
  | _ => cases h
theorem hStr_ok {f : List UInt8 → List UInt8 → Bool} {a b : AV} {k : AV → Rs} {r : AV × Store} (h : hStr f a b k = some r) : ∃ x y, a = .str x ∧ b = .str y ∧ k (.bool (f x y)) = some r := by
  cases a with
  | str x =>
    cases b with
    | str y =>
      simp only [hStr, fBool_eq] at h
      exact ⟨x, y, rfl, rfl, h⟩
    | _ => cases h
  | _ => cases h
theorem hBin_ok {L : Look} {t : TypeId} {op : BinOp} {xo yo : Operand} {ins : List In} {st : Store} : HOk (aBin L t op xo yo ins st) (hBin L t op (isNilC xo || isNilC yo) ins st) := by
  intro k r h
  unfold hBin at h
  split at h
  · rename_i a b
    rw [aBinC_eq]
    generalize (isNilC xo || isNilC yo) = c at h ⊢
    split at h
    · unfold hBinI at h
      split at h
      · obtain ⟨kd, x, y, rfl, rfl, h'⟩ := hArith_ok h; exact ⟨_, _, by simp only [aBinC, binC, intV, if_true, intOp]; rfl, h'⟩
      · obtain ⟨kd, x, y, rfl, rfl, h'⟩ := hArith_ok h; exact ⟨_, _, by simp only [aBinC, binC, intV, if_true, intOp]; rfl, h'⟩
      · obtain ⟨kd, x, y, rfl, rfl, h'⟩ := hArith_ok h; exact ⟨_, _, by simp only [aBinC, binC, intV, if_true, intOp]; rfl, h'⟩
      · obtain ⟨kd, x, y, rfl, rfl, h'⟩ := hCmpI_ok h; rw [iEq_eq] at h'; exact ⟨_, _, by simp only [aBinC, binC, intV, if_true, intOp], h'⟩
      · obtain ⟨kd, x, y, rfl, rfl, h'⟩ := hCmpI_ok h; rw [iEq_eq] at h'; exact ⟨_, _, by simp only [aBinC, binC, intV, if_true, intOp, bne], h'⟩
      · obtain ⟨kd, x, y, rfl, rfl, h'⟩ := hCmpI_ok h; rw [iLt_eq] at h'; exact ⟨_, _, by simp only [aBinC, binC, intV, if_true, intOp], h'⟩
      · obtain ⟨kd, x, y, rfl, rfl, h'⟩ := hCmpI_ok h; rw [iLt_eq] at h'; exact ⟨_, _, by simp only [aBinC, binC, intV, if_true, intOp], h'⟩
      · obtain ⟨kd, x, y, rfl, rfl, h'⟩ := hCmpI_ok h; rw [iLt_eq] at h'
        refine ⟨_, _, by simp only [aBinC, binC, intV, if_true, intOp]; rfl, ?_⟩
        rw [show decide (x ≤ y) = !decide (y < x) by rw [Bool.eq_iff_iff]; simp]; exact h'
      · obtain ⟨kd, x, y, rfl, rfl, h'⟩ := hCmpI_ok h; rw [iLt_eq] at h'
        refine ⟨_, _, by simp only [aBinC, binC, intV, if_true, intOp]; rfl, ?_⟩
        rw [show decide (x ≥ y) = !decide (x < y) by rw [Bool.eq_iff_iff]; simp]; exact h'
      · exact hVal_ok k r h
    · unfold hBinS at h
      split at h
      · obtain ⟨x, y, rfl, rfl, h'⟩ := hStr_ok h; rw [bEq_eq] at h'; exact ⟨_, _, by simp only [aBinC, binC, strOp], h'⟩
      · obtain ⟨x, y, rfl, rfl, h'⟩ := hStr_ok h; rw [bEq_eq] at h'; exact ⟨_, _, by simp only [aBinC, binC, strOp], h'⟩
      · exact hVal_ok k r h
    · exact hVal_ok k r h
  · cases h
def hUn (op : UnOp) (ins : List In) (st : Store) (k : Out → Store → Rs) : Rs := match ins with
  | [.val a] => (match op with
    | .not => hNot a fun v => k (.val v) st
    | op => hV (unV op a) fun v => k (.val v) st)
  | _ => none
theorem hUn_ok {op : UnOp} {ins : List In} {st : Store} : HOk (aUn op ins st) (hUn op ins st) := by
  intro k r h
  unfold hUn at h
  split at h
  · split at h
    · unfold hNot at h
      split at h
      · exact ⟨_, _, by simp only [aUn, unV]; rfl, h⟩
      · exact ⟨_, _, by simp only [aUn, unV]; rfl, h⟩
      · cases h
    · unfold hV at h
      split at h
      · rename_i v hv; exact ⟨_, _, by simp only [aUn, hv], h⟩
      · cases h
  · cases h
def hConv (L : Look) (s d : TypeId) (ins : List In) (st : Store) (k : Out → Store → Rs) : Rs := match L.und d with
  | some (.int kd) => (match L.und s with
    | some _ => (match ins with
      | [.val x] => hConvI kd x fun v => k (.val v) st
      | _ => none)
    | none => none)
  | _ => hVal (aConv L s d ins st) (fun v s => k (.val v) s)
theorem hConv_ok {L : Look} {s d : TypeId} {ins : List In} {st : Store} : HOk (aConv L s d ins st) (hConv L s d ins st) := by
  intro k r h
  unfold hConv at h
  split at h
  · rename_i kd hd
    split at h
    · rename_i ds hs
      split at h
      · rename_i x
        unfold hConvI at h
        split at h
        · rw [fWrap_eq] at h
          exact ⟨_, _, by simp only [aConv, convV, hs, hd, convInt], h⟩
        · cases h
      · cases h
    · cases h
  · exact hVal_ok k r h
def hIface (L : Look) (t : TypeId) (ins : List In) (st : Store) (k : Out → Store → Rs) : Rs := match ins with
  | [.val a] => (match L.und t with
    | some (.interface _) => none
    | some _ => k (.val (.iface t a)) st
    | none => none)
  | _ => none
theorem hIface_ok {L : Look} {t : TypeId} {ins : List In} {st : Store} : HOk (aIface L t ins st) (hIface L t ins st) := by
  intro k r h
  unfold hIface at h
  split at h
  · split at h
    · cases h
    · rename_i hn hu; exact ⟨_, _, by simp only [aIface, hu], h⟩
    · cases h
  · cases h
def hMakeFunc (md : Nat) (fn : Fn) (n : Nat) (vs : List AV) (st : Store) (k : Out → Store → Rs) : Rs := match fn with
  | .func f => (match Nat.beq md 2 with
    | true => hVal (aMakeFunc 2 (.func f) n vs st) (fun v s => k (.val v) s)
    | false => k (.val (.func (.func f) (vs.take n) (vs.drop n))) st)
  | _ => none
theorem hMakeFunc_ok {md : Nat} {fn : Fn} {n : Nat} {vs : List AV} {st : Store} : HOk (aMakeFunc md fn n vs st) (hMakeFunc md fn n vs st) := by
  intro k r h
  unfold hMakeFunc at h
  split at h
  · split at h
    · rename_i hb; rw [Nat.eq_of_beq_eq_true hb]; exact hVal_ok k r h
    · rename_i hb; exact ⟨_, _, by simp only [aMakeFunc, if_neg (Nat.ne_of_beq_eq_false hb)], h⟩
  · cases h
def natOf (v : AV) : Option Nat := match v with
  | .int _ (.ofNat n) => some n
  | _ => none
def hBnd (v : Option AV) (d : Nat) (k : Nat → Rs) : Rs := match v with
  | none => k d
  | some v => (match v with
    | .int _ (.ofNat n) => k n
    | _ => none)
theorem hBnd_ok {v : Option AV} {d m : Nat} {k : Nat → Rs} {r : AV × Store} (h : hBnd v d k = some r) : ∃ n, k n = some r ∧ ((v = none ∧ n = d) ∨ (v ≠ none ∧ (n ≤ m → bnd v d m = some n))) := by
  unfold hBnd at h
  split at h
  · exact ⟨d, h, .inl ⟨rfl, rfl⟩⟩
  · split at h
    · rename_i kd n
      refine ⟨n, h, .inr ⟨by simp, fun hn => ?_⟩⟩
      simp only [bnd]
      rw [if_pos ⟨by simp, by simpa using hn⟩]; rfl
    · cases h
/-- A text's part. -/
def hSlS (x : AV) (lo hi : Option AV) (k : AV → Rs) : Rs := match x with
  | .str s => hBnd hi s.length fun h => hBnd lo 0 fun l => (match Nat.ble h s.length with
    | true => (match Nat.ble l h with
      | true => fList ((s.drop l).take (h - l)) fun s => k (.str s)
      | false => none)
    | false => none)
  | _ => none
theorem hSlS_ok {x : AV} {lo hi : Option AV} {k : AV → Rs} {r : AV × Store} (h : hSlS x lo hi k = some r) : ∃ s v, x = .str s ∧ sliceStr s lo hi = some v ∧ k v = some r := by
  unfold hSlS at h
  split at h
  · rename_i s
    obtain ⟨hh, h, hhi⟩ := hBnd_ok (m := s.length) h
    obtain ⟨l, h, hlo⟩ := hBnd_ok (m := hh) h
    split at h
    · rename_i h1
      split at h
      · rename_i h2
        have h1 := Nat.le_of_ble_eq_true h1
        have h2 := Nat.le_of_ble_eq_true h2
        rw [fList_eq] at h
        refine ⟨s, _, rfl, ?_, h⟩
        have e1 : bnd hi s.length s.length = some hh := by
          rcases hhi with ⟨rfl, rfl⟩ | ⟨_, q⟩
          · rfl
          · exact q h1
        have e2 : bnd lo 0 hh = some l := by
          rcases hlo with ⟨rfl, rfl⟩ | ⟨_, q⟩
          · rfl
          · exact q h2
        simp only [sliceStr, bounds, e1, e2]
      · cases h
    · cases h
  · cases h
def hSlice (L : Look) (t : TypeId) (lo hi mx : Option Operand) (ins : List In) (st : Store) (k : Out → Store → Rs) : Rs := match ins with
  | .val x :: r => (match mx.isSome && hi.isNone with
    | true => none
    | false => (match takeO lo r with
      | some (l, r) => (match takeO hi r with
        | some (h, r) => (match takeO mx r with
          | some (m, r) => (match r with
            | [] => (match L.und t with
              | some .string => (match m with
                | none => hSlS x l h fun v => k (.val v) st
                | some _ => none)
              | _ => hV (sliceV L t st x l h m) fun v => k (.val v) st)
            | _ => none)
          | none => none)
        | none => none)
      | none => none))
  | _ => none
theorem hSlice_ok {L : Look} {t : TypeId} {lo hi mx : Option Operand} {ins : List In} {st : Store} : HOk (aSlice L t lo hi mx ins st) (hSlice L t lo hi mx ins st) := by
  intro k r h
  unfold hSlice at h
  split at h
  rotate_left
  · cases h
  rename_i x rest
  split at h
  · cases h
  rename_i hm
  split at h
  rotate_left
  · cases h
  rename_i l r1 h1
  split at h
  rotate_left
  · cases h
  rename_i hh r2 h2
  split at h
  rotate_left
  · cases h
  rename_i m r3 h3
  split at h
  rotate_left
  · cases h
  have hm' : ¬ (mx.isSome = true ∧ hi.isNone = true) := by
    intro q; rw [q.1, q.2] at hm; cases hm
  split at h
  · rename_i hu
    split at h
    · obtain ⟨s, v, rfl, h4, h5⟩ := hSlS_ok h
      exact ⟨_, _, by simp only [aSlice, if_neg hm', h1, h2, h3, sliceV, hu, h4], h5⟩
    · cases h
  · unfold hV at h
    split at h
    · rename_i v hv; exact ⟨_, _, by simp only [aSlice, if_neg hm', h1, h2, h3, hv], h⟩
    · cases h
def hAddrO (n : Nat) (st : Store) (i : In) (k : Out → Store → Rs) : Rs := match i with
  | .val p => hAddr n p fun v => k (.val v) st
  | .loc b a _ => k (.loc b (a + n)) st
theorem hAddrO_ok {n : Nat} {st : Store} {i : In} : HOk (addrBy n st i) (hAddrO n st i) := by
  intro k r h
  unfold hAddrO at h
  split at h
  · unfold hAddr at h
    split at h
    · rw [fNat_eq] at h; exact ⟨_, _, by simp only [addrBy], h⟩
    · exact ⟨_, _, by simp only [addrBy], h⟩
    · cases h
  · exact ⟨_, _, by simp only [addrBy], h⟩
def hFieldAddr (L : Look) (s : TypeId) (f : Nat) (ins : List In) (st : Store) (k : Out → Store → Rs) : Rs := match ins with
  | [x] => (match fieldsT L s f with
    | some (off, ft) => (match sizeT L ft with
      | some sz => (match Nat.blt 0 sz with
        | true => hAddrO off st x k
        | false => none)
      | none => none)
    | none => none)
  | _ => none
theorem hFieldAddr_ok {L : Look} {s : TypeId} {f : Nat} {ins : List In} {st : Store} : HOk (aFieldAddr L s f ins st) (hFieldAddr L s f ins st) := by
  intro k r h
  unfold hFieldAddr at h
  split at h
  · split at h
    · rename_i off ft hf
      split at h
      · rename_i sz hsz
        split at h
        · rename_i h0
          have h0 : 0 < sz := Nat.le_of_ble_eq_true h0
          obtain ⟨o, s', h1, h2⟩ := hAddrO_ok k r h
          exact ⟨o, s', by simp only [aFieldAddr, hf, hsz, if_pos h0, h1], h2⟩
        · cases h
      · cases h
    · cases h
  · cases h
def hPart (L : Look) (t : TypeId) (x : AV) (off : Nat) (st : Store) (k : Out → Store → Rs) : Rs := match sizeT L t with
  | none => none
  | some sz => (match aggT L t with
    | some true => hFldN sz x off fun v => k (.val v) st
    | some false => (match Nat.beq sz 1 with
      | true => hFld1 x off fun v => k (.val v) st
      | false => none)
    | none => none)
theorem hPart_ok {L : Look} {t : TypeId} {x : AV} {off : Nat} {st : Store} {k : Out → Store → Rs} {r : AV × Store} (h : hPart L t x off st k = some r) : ∃ cs o s, x = .agg cs ∧ partV L t cs off st = some (o, s) ∧ k o s = some r := by
  unfold hPart at h
  split at h
  · cases h
  · rename_i sz hsz
    split at h
    · rename_i hag
      unfold hFldN at h
      split at h
      · rename_i cs
        obtain ⟨c, h1, h2⟩ := hCut_ok h
        exact ⟨cs, _, _, rfl, by simp only [partV, hsz, h1, mkT, hag], h2⟩
      · cases h
    · rename_i hag
      split at h
      · rename_i h1
        have := Nat.eq_of_beq_eq_true h1; subst this
        unfold hFld1 at h
        split at h
        · rename_i cs
          obtain ⟨c, h1, h2⟩ := hNth_ok h
          exact ⟨cs, _, _, rfl, by simp only [partV, hsz, cut_one h1, mkT, hag], h2⟩
        · cases h
      · cases h
    · cases h
def hField (L : Look) (s : TypeId) (f : Nat) (ins : List In) (st : Store) (k : Out → Store → Rs) : Rs := match ins with
  | [.val x] => (match fieldsT L s f with
    | some (off, ft) => hPart L ft x off st k
    | none => none)
  | _ => none
theorem hField_ok {L : Look} {s : TypeId} {f : Nat} {ins : List In} {st : Store} : HOk (aField L s f ins st) (hField L s f ins st) := by
  intro k r h
  unfold hField at h
  split at h
  · split at h
    · rename_i off ft hf
      obtain ⟨cs, o, s', rfl, h1, h2⟩ := hPart_ok h
      exact ⟨o, s', by simp only [aField, hf, h1], h2⟩
    · cases h
  · cases h
def hIndexAddr (L : Look) (t : TypeId) (ins : List In) (st : Store) (k : Out → Store → Rs) : Rs := match ins with
  | [x, .val i] => (match L.und t with
    | some (.slice e) => (match sizeT L e with
      | some sz => (match x with
        | .val x => hElem sz x i fun v => k (.val v) st
        | _ => none)
      | none => none)
    | some (.array n e) => (match sizeT L e with
      | some sz => hIdx i n fun j => hAddrO (j * sz) st x k
      | none => none)
    | _ => none)
  | _ => none
theorem hElem_ok {sz : Nat} {x i : AV} {st : Store} {k : Out → Store → Rs} {r : AV × Store} (h : hElem sz x i (fun v => k (.val v) st) = some r) : ∃ o s, elemAddr sz i st (.val x) = some (o, s) ∧ k o s = some r := by
  unfold hElem at h
  split at h
  · split at h
    · rename_i hs
      have := Nat.eq_of_beq_eq_true hs; subst this
      obtain ⟨j, y, h1, h2, h3⟩ := hNthR_ok h
      rw [hCellsA_eq] at h3
      exact ⟨_, _, by simp only [elemAddr, if_true, h1, h2], h3⟩
    · cases h
  · split at h
    · rename_i hs
      have := Nat.eq_of_beq_eq_true hs; subst this
      obtain ⟨j, h1, h2, h3⟩ := hIdx_ok h
      rw [fNat_eq] at h3
      exact ⟨_, _, by simp only [elemAddr, if_true, h1], h3⟩
    · cases h
  · cases h
theorem hIndexAddr_ok {L : Look} {t : TypeId} {ins : List In} {st : Store} : HOk (aIndexAddr L t ins st) (hIndexAddr L t ins st) := by
  intro k r h
  unfold hIndexAddr at h
  split at h
  · rename_i x i
    split at h
    · rename_i e hu
      split at h
      · rename_i sz hsz
        split at h
        · obtain ⟨o, s, h1, h2⟩ := hElem_ok h
          exact ⟨o, s, by simp only [aIndexAddr, hu, hsz, h1], h2⟩
        · cases h
      · cases h
    · rename_i n e hu
      split at h
      · rename_i sz hsz
        obtain ⟨j, h1, h2, h3⟩ := hIdx_ok h
        obtain ⟨o, s, h4, h5⟩ := hAddrO_ok k r h3
        exact ⟨o, s, by simp only [aIndexAddr, hu, hsz, h1, h4], h5⟩
      · cases h
    · cases h
  · cases h
def hIndex (L : Look) (t : TypeId) (ins : List In) (st : Store) (k : Out → Store → Rs) : Rs := match ins with
  | [.val x, .val i] => (match L.und t with
    | some .string => hStrAt x i fun v => k (.val v) st
    | some (.array n e) => (match sizeT L e with
      | some sz => hIdx i n fun j => hPart L e x (j * sz) st k
      | none => none)
    | _ => none)
  | _ => none
theorem hIndex_ok {L : Look} {t : TypeId} {ins : List In} {st : Store} : HOk (aIndex L t ins st) (hIndex L t ins st) := by
  intro k r h
  unfold hIndex at h
  split at h
  · rename_i x i
    split at h
    · rename_i hu
      unfold hStrAt at h
      split at h
      · rename_i s
        split at h
        · split at h
          · rename_i j
            split at h
            · rename_i b hb
              rw [fNat_eq] at h
              have hj := (List.getElem?_eq_some_iff.1 hb).1
              refine ⟨_, _, ?_, h⟩
              simp only [aIndex, hu, indexS, idx]
              rw [if_pos ⟨by simp, by simpa using hj⟩]
              simp only [show (Int.ofNat j).toNat = j from rfl, hb]
              rfl
            · cases h
          · cases h
        · cases h
      · cases h
    · rename_i n e hu
      split at h
      · rename_i sz hsz
        obtain ⟨j, h1, h2, h3⟩ := hIdx_ok h
        obtain ⟨cs, o, s, rfl, h4, h5⟩ := hPart_ok h3
        exact ⟨o, s, by simp only [aIndex, hu, indexC, hsz, h1, h4], h5⟩
      · cases h
    · cases h
  · cases h
def hExtract (i : Nat) (ins : List In) (st : Store) (k : Out → Store → Rs) : Rs := match ins with
  | [.val x] => hExt i x fun v => k (.val v) st
  | _ => none
theorem hExtract_ok {i : Nat} {ins : List In} {st : Store} : HOk (aExtract i ins st) (hExtract i ins st) := by
  intro k r h
  unfold hExtract at h
  split at h
  · unfold hExt at h
    split at h
    · obtain ⟨x, h1, h2⟩ := hNth_ok h
      exact ⟨_, _, by simp only [aExtract, h1], h2⟩
    · cases h
  · cases h
def hLen (L : Look) (t : TypeId) (ins : List In) (st : Store) (k : Out → Store → Rs) : Rs := match ins with
  | [.val x] => (match L.und t with
    | some .string => hLenS x fun v => k (.val v) st
    | some (.slice _) => hLenR x fun v => k (.val v) st
    | _ => hVal (aLen L t [.val x] st) (fun v s => k (.val v) s))
  | _ => none
theorem hLen_ok {L : Look} {t : TypeId} {ins : List In} {st : Store} : HOk (aLen L t ins st) (hLen L t ins st) := by
  intro k r h
  unfold hLen at h
  split at h
  · split at h
    · rename_i hu
      unfold hLenS at h
      split at h
      · rw [fNat_eq] at h; exact ⟨_, _, by simp only [aLen, hu, lenV]; rfl, h⟩
      · cases h
    · rename_i hu
      unfold hLenR at h
      split at h
      · exact ⟨_, _, by simp only [aLen, hu, lenV]; rfl, h⟩
      · exact ⟨_, _, by simp only [aLen, hu, lenV]; rfl, h⟩
      · rw [fNat_eq] at h; exact ⟨_, _, by simp only [aLen, hu, lenV]; rfl, h⟩
      · exact ⟨_, _, by simp only [aLen, hu, lenV]; rfl, h⟩
      · cases h
    · exact hVal_ok k r h
  · cases h
def hBuiltin (L : Look) (md : Nat) (b : Builtin) (ts : Array TypeId) (ins : List In) (st : Store) (k : Out → Store → Rs) : Rs := match b with
  | .len => (match ts[0]? with
    | some t => hLen L t ins st k
    | none => none)
  | .append => (match ts[0]? with
    | some t => (match ts[1]? with
      | some t1 => hValF (aAppend L md t t1 ins st) (fun v s => k (.val v) s)
      | none => none)
    | none => none)
  | b => hVal (aBuiltin L md b ts ins st) (fun v s => k (.val v) s)
theorem hBuiltin_ok {L : Look} {md : Nat} {b : Builtin} {ts : Array TypeId} {ins : List In} {st : Store} : HOk (aBuiltin L md b ts ins st) (hBuiltin L md b ts ins st) := by
  intro k r h
  unfold hBuiltin at h
  split at h
  · split at h
    · rename_i t ht
      obtain ⟨o, s, h1, h2⟩ := hLen_ok k r h
      exact ⟨o, s, by simp only [aBuiltin, ht, h1], h2⟩
    · cases h
  · split at h
    · rename_i t ht
      split at h
      · rename_i t1 ht1
        obtain ⟨o, s, h1, h2⟩ := hValF_ok k r h
        exact ⟨o, s, by simp only [aBuiltin, ht, ht1, h1], h2⟩
      · cases h
    · cases h
  · exact hVal_ok k r h

/-- What an operation that calls no function hands on. -/
def hop (L : Look) (md : Nat) (type : TypeId) (o : Op) (ins : List In) (st : Store) (k : Out → Store → Rs) : Rs := match o with
  | .move _ => hMove L md type ins st k
  | .assign _ => hMove L md type ins st k
  | .pick _ _ _ => hPickO ins st k
  | .alloc t => hAlloc L md t st k
  | .box _ _ => hBox md ins st k
  | .build t ps => (match valsOf ins with
    | some vs => hBuild L t (ps.toList.map (·.1)) vs st k
    | none => none)
  | .buildSlice t len ps => (match valsOf ins with
    | some vs => hVal (aBuildSlice L md t len (ps.toList.map (·.1)) vs st) (fun v s => k (.val v) s)
    | none => none)
  | .load t _ => hLoad L md t ins st k
  | .store t _ _ => hStore L t ins st k
  | .nilCheck _ => hNilCheck ins st k
  | .binOp op t x y _ => hBin L t op (isNilC x || isNilC y) ins st k
  | .unOp op _ _ => hUn op ins st k
  | .convert s d _ => hConv L s d ins st k
  | .makeInterface t _ => hIface L t ins st k
  | .makeFunc fn first _ => (match valsOf ins with
    | some vs => hMakeFunc md fn first.size vs st k
    | none => none)
  | .makeMap _ none => hNewO st (.map [] 0) fun o s => k (.val (.map o)) s
  | .makeSlice t _ _ => hVal (aMakeSlice L md t ins st) (fun v s => k (.val v) s)
  | .slice t _ lo hi mx => hSlice L t lo hi mx ins st k
  | .fieldAddr s _ f => hFieldAddr L s f ins st k
  | .field s _ f => hField L s f ins st k
  | .indexAddr t _ _ => hIndexAddr L t ins st k
  | .index t _ _ => hIndex L t ins st k
  | .lookup t _ _ ok => hVal (aLookup L t ok ins st) (fun v s => k (.val v) s)
  | .mapUpdate t _ _ _ => hVal (aMapSet L t ins st) (fun v s => k (.val v) s)
  | .insert t _ _ _ => hVal (aMapSet L t ins st) (fun v s => k (.val v) s)
  | .extract _ i => hExtract i ins st k
  | .range t _ => hVal (aRange L t ins st) (fun v s => k (.val v) s)
  | .next _ true => hVal (aNext ins st) (fun v s => k (.val v) s)
  | .call c => (match c.callee with
    | .builtin b => hBuiltin L md b c.argTypes ins st k
    | _ => none)
  | _ => none
theorem hop_ok {L : Look} {md : Nat} {type : TypeId} {o : Op} {ins : List In} {st : Store} : HOk (aop L md type o ins st) (hop L md type o ins st) := by
  intro k r h
  unfold hop at h
  split at h
  · exact hMove_ok k r h
  · exact hMove_ok k r h
  · exact hPickO_ok k r h
  · exact hAlloc_ok k r h
  · exact hBox_ok k r h
  · split at h
    · rename_i vs hv
      obtain ⟨o, s, h1, h2⟩ := hBuild_ok k r h
      exact ⟨o, s, by simp only [aop, hv, h1], h2⟩
    · cases h
  · split at h
    · rename_i vs hv
      obtain ⟨o, s, h1, h2⟩ := hVal_ok k r h
      exact ⟨o, s, by simp only [aop, hv, h1], h2⟩
    · cases h
  · exact hLoad_ok k r h
  · exact hStore_ok k r h
  · exact hNilCheck_ok k r h
  · exact hBin_ok k r h
  · exact hUn_ok k r h
  · exact hConv_ok k r h
  · exact hIface_ok k r h
  · split at h
    · rename_i vs hv
      obtain ⟨o, s, h1, h2⟩ := hMakeFunc_ok k r h
      exact ⟨o, s, by simp only [aop, hv, h1], h2⟩
    · cases h
  · rw [hNewO_eq] at h; exact ⟨_, _, rfl, h⟩
  · exact hVal_ok k r h
  · exact hSlice_ok k r h
  · exact hFieldAddr_ok k r h
  · exact hField_ok k r h
  · exact hIndexAddr_ok k r h
  · exact hIndex_ok k r h
  · exact hVal_ok k r h
  · exact hVal_ok k r h
  · exact hVal_ok k r h
  · exact hExtract_ok k r h
  · exact hVal_ok k r h
  · exact hVal_ok k r h
  · split at h
    · rename_i c b hb
      obtain ⟨o, s, h1, h2⟩ := hBuiltin_ok k r h
      exact ⟨o, s, by simp only [aop, hb, h1], h2⟩
    · cases h
  · cases h
end
end Go.Sim

namespace Go.Sim
noncomputable section

def hout (E : Env) (call : Caller) (md : Nat) (o : Oper) (ins : List In) (st : Store) (k : Out → Store → Rs) : Rs := match o.op with
  | .call c => (match c.callee with
    | .value _ => (match valsOf ins with
      | some (f :: args) => hCall call f args st fun v s => k (.val v) s
      | _ => none)
    | .invoke _ _ => none
    | .builtin b => hBuiltin E.L md b c.argTypes ins st k)
  | op => hop E.L md o.type op ins st k
theorem hout_ok {E : Env} {call call' : Caller} (hc : Refines call call') {md : Nat} {o : Oper} {ins : List In} {st : Store} : HOk (aout E call' md o ins st) (hout E call md o ins st) := by
  intro k r h
  obtain ⟨dst, op, type, pos, after, guard⟩ := o
  cases op with
  | call c =>
    obtain ⟨callee, cargs, cts⟩ := c
    cases callee with
    | value f =>
      simp only [hout] at h
      split at h
      · rename_i f args hv
        unfold hCall at h
        split at h
        · rename_i v s hq
          exact ⟨_, _, by simp only [aout, hv, hc _ _ _ _ hq], h⟩
        · cases h
      · cases h
    | invoke r m => cases h
    | builtin b => obtain ⟨o, s, h1, h2⟩ := hBuiltin_ok k r h; exact ⟨o, s, h1, h2⟩
  | _ =>
    simp only [hout] at h
    obtain ⟨o, s, h1, h2⟩ := hop_ok k r h
    exact ⟨o, s, h1, h2⟩

/-! ### What an operation has to do with the store -/
def freeS (md : Nat) (o : Op) : Bool := match o with
  | .move _ | .assign _ | .makeFunc .. => md != 2
  | .pick .. | .build .. | .nilCheck _ | .unOp .. | .makeInterface .. | .fieldAddr .. | .field .. | .index .. | .indexAddr .. | .extract .. => true
  | .alloc _ => md == 1
  | .box .. => md == 1 || md == 2
  | .buildSlice .. => md != 1
  | .call c => (match c.callee with
    | .builtin .min | .builtin .max => true
    | .builtin .unsafeSliceData => true
    | _ => false)
  | _ => false
theorem freeS_ok {L : Look} {md : Nat} {o : Op} {ins : List In} (h : freeS md o = true) : freeOp L md o ins = true := by
  unfold freeS at h
  unfold freeOp
  split at h <;> first | exact h | rfl | skip
  · split at h
    · rename_i h1; simp only [h1]
    · rename_i h1; simp only [h1]
    · rename_i h1; simp only [h1]
    · cases h
  · cases h
def hFrees : List In → Rs → Rs
  | [], a => a
  | .val v :: r, a => (match freeIn v with
    | true => hFrees r a
    | false => none)
  | .loc .. :: r, a => hFrees r a
theorem hFrees_ok {a : Rs} {r : AV × Store} : ∀ {ins : List In}, hFrees ins a = some r → freeIns ins = true ∧ a = some r
  | [], h => ⟨rfl, h⟩
  | .val v :: l, h => by
    simp only [hFrees] at h
    split at h
    · rename_i hv
      obtain ⟨h1, h2⟩ := hFrees_ok h
      exact ⟨by simp [freeIns, hv, h1], h2⟩
    · cases h
  | .loc .. :: l, h => by
    obtain ⟨h1, h2⟩ := hFrees_ok (show hFrees l a = some r from h)
    exact ⟨by simp [freeIns, h1], h2⟩
def hNotPtrs (ins : List In) (a : Rs) : Rs := match notPtrs ins with
  | true => a
  | false => none
def hDyn (L : Look) (md : Nat) (o : Op) (ins : List In) (a : Rs) : Rs := match o with
  | .load .. => (match Nat.beq md 2 with
    | true => none
    | false => hFrees ins a)
  | .slice .. => hFrees ins a
  | .convert _ d _ => (match notSliceT L d with
    | true => hFrees ins a
    | false => none)
  | .call c => (match c.callee with
    | .builtin .len => hFrees ins a
    | .builtin .cap => hFrees ins a
    | _ => none)
  | .binOp .. => hNotPtrs ins a
  | _ => none
theorem hDyn_ok {L : Look} {md : Nat} {o : Op} {ins : List In} {a : Rs} {r : AV × Store} (h : hDyn L md o ins a = some r) : freeOp L md o ins = true ∧ a = some r := by
  unfold hDyn at h
  split at h
  · split at h
    · cases h
    · rename_i hb
      obtain ⟨h1, h2⟩ := hFrees_ok h
      exact ⟨by simp [freeOp, h1, Nat.ne_of_beq_eq_false hb], h2⟩
  · obtain ⟨h1, h2⟩ := hFrees_ok h
    exact ⟨by simp [freeOp, h1], h2⟩
  · split at h
    · rename_i hn
      obtain ⟨h1, h2⟩ := hFrees_ok h
      exact ⟨by simp [freeOp, h1, hn], h2⟩
    · cases h
  · split at h
    · rename_i hc
      obtain ⟨h1, h2⟩ := hFrees_ok h
      exact ⟨by simp [freeOp, h1, hc], h2⟩
    · rename_i hc
      obtain ⟨h1, h2⟩ := hFrees_ok h
      exact ⟨by simp [freeOp, h1, hc], h2⟩
    · cases h
  · unfold hNotPtrs at h
    split at h
    · rename_i hn; exact ⟨by simp [freeOp, hn], h⟩
    · cases h
  · cases h
def hChk (L : Look) (md : Nat) (o : Op) (ins : List In) (l : Nat) (a : Rs) : Rs := match Nat.beq l 2 with
  | true => a
  | false => (match freeS md o with
    | true => a
    | false => (match keepOp L md o && Nat.beq l 1 with
      | true => a
      | false => hDyn L md o ins a))
theorem labOp_le {L : Look} {md : Nat} {o : Op} {ins : List In} : labOp L md o ins ≤ 2 := by
  unfold labOp; split
  · omega
  · split <;> omega
theorem hChk_ok {L : Look} {md : Nat} {o : Op} {ins : List In} {l : Nat} {a : Rs} {r : AV × Store} (h : hChk L md o ins l a = some r) : labOp L md o ins ≤ l ∧ a = some r := by
  unfold hChk at h
  split at h
  · rename_i hb; rw [Nat.eq_of_beq_eq_true hb]; exact ⟨labOp_le, h⟩
  · split at h
    · rename_i hf; exact ⟨by simp [labOp, freeS_ok hf], h⟩
    · split at h
      · rename_i hk
        simp only [Bool.and_eq_true] at hk
        rw [Nat.eq_of_beq_eq_true hk.2]
        refine ⟨?_, h⟩
        unfold labOp; split
        · omega
        · rw [if_pos hk.1]; omega
      · obtain ⟨h1, h2⟩ := hDyn_ok h
        exact ⟨by simp [labOp, h1], h2⟩

/-- A temporary that points into a box. -/
def isLoc (A : FAnn) : Option Tmp → Option Tmp
  | none => none
  | some d => (match A.base d with
    | some _ => some d
    | none => none)
def hWB (v : AV) (a : Rs) : Rs := match v with
  | .bool _ => a
  | .tuple _ => a
  | _ => none
theorem hWB_ok {v : AV} {a : Rs} {r : AV × Store} (h : hWB v a = some r) : a = some r ∧ ((∃ b, v = .bool b) ∨ ∃ vs, v = .tuple vs) := by
  unfold hWB at h
  split at h
  · exact ⟨h, .inl ⟨_, rfl⟩⟩
  · exact ⟨h, .inr ⟨_, rfl⟩⟩
  · cases h
def hops (E : Env) (call : Caller) (A : FAnn) (rid : Nat) (all : List Oper) : List Oper → List Nat → Nat → HEnv → Store → (HEnv → Store → Rs) → Rs
  | [], _, _, e, st, k => k e st
  | o :: rest, ls, i, e, st, k => (match ls with
    | [] => none
    | l :: ls => (match o.guard with
      | none => (match hevals E.globals A e o.op.operands.toList with
        | none => none
        | some ins => hChk E.L (A.mode rid i) o.op ins l (hout E call (A.mode rid i) o ins st fun out s => (match hput A e o.op o.dst out with
          | some e' => hops E call A rid all rest ls (i + 1) e' s k
          | none => none)))
      | some (j, want) => (match hGuardT A all j with
        | none => none
        | some dg => (match lk dg e.vs with
          | none => none
          | some gv => (match isLoc A o.dst with
            | some d => (match o.op with
              | .fieldAddr s x f => (match heval E.globals A (hcond e dg want) x with
                | some (.loc b a _) => (match fieldsT E.L s f with
                  | some (off, ft) => (match sizeT E.L ft with
                    | some sz => (match Nat.blt 0 sz && (optIs (A.base d) b && (!(Nat.beq d b) && Nat.blt d e.n)) with
                      | true => hWB gv (hops E call A rid all rest ls (i + 1) ⟨e.n, e.vs, drops [d] e.os, e.bs, (d, dg, want, a + off) :: dropG d e.gs⟩ st k)
                      | false => none)
                    | none => none)
                  | none => none)
                | _ => none)
              | _ => none)
            | none => hlet (α := AV → Store → Rs) (fun v s => (match hputV A e o.dst v with
                | some e' => hops E call A rid all rest ls (i + 1) e' s k
                | none => none))
              fun jn => hWant gv want (match hevals E.globals A (hcond e dg want) o.op.operands.toList with
                | none => none
                | some ins => hChk E.L (A.mode rid i) o.op ins l (hout E call (A.mode rid i) o ins st fun out s => (match out with
                  | .val v => jn v s
                  | _ => none))) (jn aundef st))))))

theorem hWant_ok {v : AV} {want : Bool} {a b : Rs} {r : AV × Store} (h : hWant v want a b = some r) : (v = .bool want ∧ a = some r) ∨ ((∃ c, v = .bool c ∧ c ≠ want) ∧ b = some r) ∨ ((∃ vs, v = .tuple vs) ∧ b = some r) := by
  unfold hWant at h
  split at h
  · rename_i c
    cases c <;> cases want
    · exact .inl ⟨rfl, h⟩
    · exact .inr (.inl ⟨⟨_, rfl, by simp⟩, h⟩)
    · exact .inr (.inl ⟨⟨_, rfl, by simp⟩, h⟩)
    · exact .inl ⟨rfl, h⟩
  · exact .inr (.inr ⟨⟨_, rfl⟩, h⟩)
  · cases h
section
variable {E : Env} {call call' : Caller} {A : FAnn}
theorem wanted_ok {all : List Oper} {e : HEnv} {fr : AFr} (h : HRel A e fr) {j dg : Nat} {gv : AV} (hg : hGuardT A all j = some dg) (hv : lk dg e.vs = some gv) {o : Oper} {want : Bool} (ho : o.guard = some (j, want)) :
    (∀ c, gv = .bool c → aWanted A.ann all fr o = some (c == want)) ∧ (∀ vs, gv = .tuple vs → aWanted A.ann all fr o = some false) := by
  unfold hGuardT at hg
  split at hg
  · cases hg
  · rename_i oj hj
    split at hg
    · cases hg
    · rename_i d hd
      split at hg
      · cases hg
      · rename_i hb
        injection hg with hg; subst hg
        have := h.vs d gv hv
        have hb' : A.ann.base d = none := hb
        refine ⟨fun c hc => ?_, fun vs hc => ?_⟩
        · subst hc
          simp only [aWanted, ho, aYield, hj, hd, hb', this, Option.map_some]
          cases c <;> cases want <;> rfl
        · subst hc
          simp only [aWanted, ho, aYield, hj, hd, hb', this, Option.map_some]
          rfl
theorem guardT_base {all : List Oper} {j dg : Nat} (hg : hGuardT A all j = some dg) : A.base dg = none := by
  unfold hGuardT at hg
  split at hg
  · cases hg
  · split at hg
    · cases hg
    · split at hg
      · cases hg
      · rename_i hb; injection hg with hg; subst hg; exact hb
theorem none_of_putV {e e' : HEnv} {fr : AFr} (h : HRel A e fr) {dst : Option Tmp} (he : hputV A e dst aundef = some e') : ∃ fr', aputNone A.ann fr dst = some fr' ∧ HRel A e' fr' := by
  cases dst with
  | none => simp only [hputV, Option.some.injEq] at he; subst he; exact ⟨fr, rfl, h⟩
  | some d =>
    obtain ⟨fr', h1, h2⟩ := hputV_ok (op := .ready 0) h he
    refine ⟨fr', ?_, h2⟩
    simp only [hputV] at he
    simp only [aput] at h1
    simp only [aputNone]
    split at he
    · rename_i hb
      have hb' : A.ann.base d = none := hb
      simp only [hb'] at h1 ⊢; exact h1
    · cases he
theorem hops_ok (hA : A.Ok) (hc : Refines call call') {rid : Nat} {all : List Oper} {k : HEnv → Store → Rs} {r : AV × Store} : ∀ {rest : List Oper} {ls : List Nat} {i : Nat} {e : HEnv} {fr : AFr} {st : Store}, HRel A e fr → hops E call A rid all rest ls i e st k = some r →
    ∃ fr' e' st' fs, aopsF E call' A.ann rid all rest i fr st = some (fr', st', fs) ∧ HRel A e' fr' ∧ k e' st' = some r ∧ ∀ m, fs.getD m 2 ≤ (ls.take rest.length).getD m 2
  | [], ls, i, e, fr, st, h, he => ⟨fr, e, st, [], rfl, h, he, fun m => by simp⟩
  | o :: rest, [], i, e, fr, st, h, he => by simp [hops] at he
  | o :: rest, l :: ls, i, e, fr, st, h, he => by
    simp only [hops] at he
    split at he
    · rename_i hg
      split at he
      · cases he
      · rename_i ins hins
        obtain ⟨hlab, he⟩ := hChk_ok he
        obtain ⟨out, s, h1, h2⟩ := hout_ok hc _ r he
        split at h2
        · rename_i e' hp
          obtain ⟨fr1, h3, h4⟩ := hput_ok hA h hp
          obtain ⟨fr2, e2, st2, fs, h5, h6, h7, h8⟩ := hops_ok hA hc h4 h2
          refine ⟨fr2, e2, st2, labOp E.L (A.ann.mode rid i) o.op ins :: fs, ?_, h6, h7, fun m => ?_⟩
          · have h1' : aout E call' (A.ann.mode rid i) o ins st = some (out, s) := h1
            simp only [aopsF, aWanted, hg, hevals_ok h hins, h1', h3, h5]
          · cases m with
            | zero => exact hlab
            | succ m => simpa using h8 m
        · cases h2
    · rename_i j want hg
      split at he
      · cases he
      · rename_i dg hdg
        split at he
        · cases he
        · rename_i gv hgv
          obtain ⟨w1, w2⟩ := wanted_ok h hdg hgv hg
          split at he
          · rename_i d hloc
            have hdst : o.dst = some d ∧ ∃ b, A.base d = some b := by
              unfold isLoc at hloc
              split at hloc
              · cases hloc
              · rename_i d' hd'
                split at hloc
                · rename_i b hb; injection hloc with hloc; subst hloc; exact ⟨hd', b, hb⟩
                · cases hloc
            have hdd : dg ≠ d := by
              rintro rfl
              obtain ⟨b, hb⟩ := hdst.2
              rw [guardT_base hdg] at hb; cases hb
            split at he
            · rename_i s x f hop
              split at he
              · rename_i b a cs hx
                split at he
                · rename_i off ft hft
                  split at he
                  · rename_i sz hsz
                    split at he
                    · rename_i hcond
                      simp only [Bool.and_eq_true, Bool.not_eq_true'] at hcond
                      obtain ⟨h0, hb, hdb, hdn⟩ := hcond
                      have h0 : 0 < sz := Nat.le_of_ble_eq_true h0
                      have hb := optIs_ok hb
                      have hdb : d ≠ b := Nat.ne_of_beq_eq_false hdb
                      have hdn : d < e.n := Nat.le_of_ble_eq_true hdn
                      obtain ⟨he, hgb⟩ := hWB_ok he
                      have hlab0 : ∀ ins, labOp E.L (A.ann.mode rid i) o.op ins = 0 := by
                        intro ins; rw [hop]; simp [labOp, freeOp]
                      have rel : ∀ (ov : Option Nat), (fr.tmps[dg]? = some (.bool want) → ov = some (a + off)) → HRel A ⟨e.n, e.vs, drops [d] e.os, e.bs, (d, dg, want, a + off) :: dropG d e.gs⟩ { fr with offs := fr.offs.set d ov } := by
                        intro ov hov
                        refine ⟨h.lt, by simpa using h.lo, h.ll, h.vs, fun t o' ht => ?_, fun b' cs' hb' => ?_, fun g hgm hc => ?_⟩
                        · obtain ⟨q1, q2⟩ := lk_drops ht
                          have : d ≠ t := fun e => q2 (by rw [e]; exact List.mem_singleton.2 rfl)
                          exact (List.getElem?_set_ne this).trans (h.os t o' q1)
                        · obtain ⟨p1, p2, o', p3⟩ := h.bs b' cs' hb'
                          have : d ≠ b' := by
                            rintro rfl
                            rw [hb] at p1; injection p1 with p1; exact hdb p1.symm
                          exact ⟨p1, p2, o', (List.getElem?_set_ne this).trans p3⟩
                        · rcases List.mem_cons.1 hgm with rfl | hgm
                          · rw [hov hc]
                            exact List.getElem?_set_self (Nat.lt_of_lt_of_le hdn h.lo)
                          · obtain ⟨q1, q2, q3⟩ := dropG_ok hgm
                            exact (List.getElem?_set_ne (fun e => q2 e.symm)).trans (h.gs g q1 hc)
                      have hbase : A.ann.base d = some b := hb
                      have notrun : aWanted A.ann all fr o = some false → fr.tmps[dg]? ≠ some (.bool want) → ∃ fr' e' st' fs, aopsF E call' A.ann rid all (o :: rest) i fr st = some (fr', st', fs) ∧ HRel A e' fr' ∧ k e' st' = some r ∧ ∀ m, fs.getD m 2 ≤ ((l :: ls).take (o :: rest).length).getD m 2 := by
                        intro hw hne
                        obtain ⟨fr2, e2, st2, fs, h5, h6, h7, h8⟩ := hops_ok hA hc (rel none (fun q => absurd q hne)) he
                        refine ⟨fr2, e2, st2, 0 :: fs, ?_, h6, h7, fun m => ?_⟩
                        · simp only [aopsF, hw, hdst.1, aputNone, hbase, h5]
                        · cases m with
                          | zero => simp
                          | succ m => simpa using h8 m
                      have htm := h.vs dg gv hgv
                      rcases hgb with ⟨c, rfl⟩ | ⟨vs, rfl⟩
                      · by_cases hcw : c = want
                        · subst hcw
                          have hw := w1 c rfl
                          rw [beq_self_eq_true] at hw
                          have hx' := heval_ok (h.cond hgv) hx
                          obtain ⟨fr2, e2, st2, fs, h5, h6, h7, h8⟩ := hops_ok hA hc (rel (some (a + off)) (fun _ => rfl)) he
                          refine ⟨fr2, e2, st2, labOp E.L (A.ann.mode rid i) o.op [.loc b a cs] :: fs, ?_, h6, h7, fun m => ?_⟩
                          · have hev : aevals E.globals A.ann fr o.op.operands.toList = some [.loc b a cs] := by
                              rw [hop]; simp only [Op.operands, aevals, hx']
                            have hout' : aout E call' (A.ann.mode rid i) o [.loc b a cs] st = some (.loc b (a + off), st) := by
                              simp only [aout, hop, aop, aFieldAddr, hft, hsz, if_pos h0, addrBy]
                            have hoff : ∃ ob, fr.offs[b]? = some (some ob) := by
                              simp only [heval] at hx
                              split at hx
                              · rename_i t
                                split at hx
                                · split at hx <;> cases hx
                                · rename_i b2 hb2
                                  split at hx
                                  · rename_i cs2 hcs2
                                    split at hx
                                    · injection hx with hx; injection hx with hx1 hx2 hx3
                                      subst hx1
                                      obtain ⟨_, _, o3, q3⟩ := h.bs _ _ hcs2
                                      exact ⟨o3, q3⟩
                                    · cases hx
                                  · cases hx
                              · split at hx <;> cases hx
                              · split at hx <;> cases hx
                              · cases hx
                            obtain ⟨ob, hob⟩ := hoff
                            have hput' : aput A.ann fr o.op o.dst (.loc b (a + off)) = some { fr with offs := fr.offs.set d (some (a + off)) } := by
                              simp only [hdst.1, aput, hob]; exact if_pos (show A.ann.base d = some b ∧ d ≠ b from ⟨hb, hdb⟩)
                            simp only [aopsF, hw, hev, hout', hput', h5]
                          · cases m with
                            | zero => simp [hlab0]
                            | succ m => simpa using h8 m
                        · have hw := w1 c rfl
                          rw [show (c == want) = false by simpa using hcw] at hw
                          exact notrun hw (by rw [htm]; intro q; injection q with q; injection q with q; exact hcw q)
                      · exact notrun (w2 vs rfl) (by rw [htm]; intro q; injection q with q; cases q)
                    · cases he
                  · cases he
                · cases he
              · cases he
            · cases he
          · unfold hlet at he
            have notrun : aWanted A.ann all fr o = some false → (match hputV A e o.dst aundef with
                | some e' => hops E call A rid all rest ls (i + 1) e' st k
                | none => none) = some r → ∃ fr' e' st' fs, aopsF E call' A.ann rid all (o :: rest) i fr st = some (fr', st', fs) ∧ HRel A e' fr' ∧ k e' st' = some r ∧ ∀ m, fs.getD m 2 ≤ ((l :: ls).take (o :: rest).length).getD m 2 := by
              intro hw he
              split at he
              · rename_i e' hp
                obtain ⟨fr1, h3, h4⟩ := none_of_putV h hp
                obtain ⟨fr2, e2, st2, fs, h5, h6, h7, h8⟩ := hops_ok hA hc h4 he
                refine ⟨fr2, e2, st2, 0 :: fs, ?_, h6, h7, fun m => ?_⟩
                · simp only [aopsF, hw, h3, h5]
                · cases m with
                  | zero => simp
                  | succ m => simpa using h8 m
              · cases he
            rcases hWant_ok he with ⟨rfl, he1⟩ | ⟨⟨c, rfl, hcw⟩, he1⟩ | ⟨⟨vs, rfl⟩, he1⟩
            · have hw := w1 want rfl
              rw [beq_self_eq_true] at hw
              split at he1
              · cases he1
              · rename_i ins hins
                obtain ⟨hlab, he1⟩ := hChk_ok he1
                obtain ⟨out, s, h1, h2⟩ := hout_ok hc _ r he1
                split at h2
                · rename_i v
                  dsimp only at h2
                  split at h2
                  · rename_i e' hp
                    obtain ⟨fr1, h3, h4⟩ := hputV_ok (op := o.op) h hp
                    obtain ⟨fr2, e2, st2, fs, h5, h6, h7, h8⟩ := hops_ok hA hc h4 h2
                    refine ⟨fr2, e2, st2, labOp E.L (A.ann.mode rid i) o.op ins :: fs, ?_, h6, h7, fun m => ?_⟩
                    · have h1' : aout E call' (A.ann.mode rid i) o ins st = some (.val v, s) := h1
                      simp only [aopsF, hw, hevals_ok (h.cond hgv) hins, h1', h3, h5]
                    · cases m with
                      | zero => exact hlab
                      | succ m => simpa using h8 m
                  · cases h2
                · cases h2
            · have hw := w1 c rfl
              rw [show (c == want) = false by simpa using hcw] at hw
              exact notrun hw he1
            · exact notrun (w2 vs rfl) he1
theorem aops_of_F {rid : Nat} {all : List Oper} : ∀ {rest : List Oper} {i : Nat} {fr : AFr} {st : Store} {q : AFr × Store × List Nat}, aopsF E call A.ann rid all rest i fr st = some q → aops E call A.ann rid all rest i fr st = some (q.1, q.2.1)
  | [], i, fr, st, q, h => by simp only [aopsF, Option.some.injEq] at h; subst h; rfl
  | o :: rest, i, fr, st, q, h => by
    simp only [aopsF] at h
    split at h
    · rename_i hw
      split at h
      · cases h
      · rename_i ins hins
        split at h
        · rename_i r hr
          split at h
          · rename_i fr' hp
            split at h
            · rename_i q' hq
              injection h with h; subst h
              simp only [aops, hw, aoper, hins, hr, hp]
              exact aops_of_F hq
            · cases h
          · cases h
        · cases h
    · rename_i hw
      split at h
      · rename_i fr' hp
        split at h
        · rename_i q' hq
          injection h with h; subst h
          simp only [aops, hw, hp]
          exact aops_of_F hq
        · cases h
      · cases h
    · cases h
end

end
end Go.Sim

namespace Go.Sim
noncomputable section

/-! ### Code -/
/-- What is kept where ways meet. -/
structure HJ where
  ts : List Nat
  os : List Nat
  bs : List Nat
inductive HA where
  | o
  | s (a b : HA)
  | c (j : Option HJ) (a b : HA)
  | b (j : Option HJ) (a : HA)
  | l (j : HJ) (a : HA)
def hpackT (l : List (Nat × AV)) : List Nat → Option (List AV)
  | [] => some []
  | t :: ts => (match lk t l with
    | some v => (match hpackT l ts with
      | some r => some (v :: r)
      | none => none)
    | none => none)
def hpackB (l : List (Nat × List AV)) (more : List AV) : List Nat → Option (List AV)
  | [] => some more
  | t :: ts => (match lk t l with
    | some v => (match hpackB l more ts with
      | some r => some (.agg v :: r)
      | none => none)
    | none => none)
def hos (l : List (Nat × Nat)) : List Nat → List (Nat × Nat)
  | [] => []
  | o :: os => (match lk o l with
    | some x => (o, x) :: hos l os
    | none => hos l os)
def sameO (l l' : List (Nat × Nat)) : List Nat → Bool
  | [] => true
  | o :: os => (match lk o l with
    | some x => (match lk o l' with
      | some y => (match Nat.beq x y with
        | true => sameO l l' os
        | false => false)
      | none => false)
    | none => sameO l l' os)
def hunT : List Nat → List AV → List (Nat × AV) → (List (Nat × AV) → List AV → Rs) → Rs
  | [], vs, acc, k => k acc vs
  | t :: ts, vs, acc, k => un1 vs fun x r => hunT ts r ((t, x) :: acc) k
def hunB : List Nat → List AV → List (Nat × List AV) → (List (Nat × List AV) → List AV → Rs) → Rs
  | [], vs, acc, k => k acc vs
  | t :: ts, vs, acc, k => un1 vs fun x r => unAgg x fun cs => hunB ts r ((t, cs) :: acc) k
def hunpack (J : HJ) (e : HEnv) (vs : List AV) (k : HEnv → Rs) : Rs := hunB J.bs vs [] fun ba r => hunT J.ts r [] fun va _ => k ⟨e.n, va, hos e.os J.os, ba, []⟩
def hjump (J : HJ) (e0 e : HEnv) (st : Store) (j : List AV → Store → Rs) : Rs := match sameO e0.os e.os J.os && Nat.ble e0.n e.n with
  | true => (match hpackT e.vs J.ts with
    | some vs => (match hpackB e.bs vs J.bs with
      | some vs => j vs st
      | none => none)
    | none => none)
  | false => none
def hwith (J : Option HJ) (e0 : HEnv) (nrm : HEnv → Store → Rs) (f : (HEnv → Store → Rs) → Rs) : Rs := match J with
  | none => f nrm
  | some J => hlet (α := List AV → Store → Rs) (fun vs st => hunpack J e0 vs fun e => nrm e st) fun j => f fun e st => hjump J e0 e st j
def hloop (body : (List AV → Store → Rs) → List AV → Store → Rs) (n : Nat) : List AV → Store → Rs := Nat.rec (motive := fun _ => List AV → Store → Rs) (fun _ _ => none) (fun _ ih vs st => body ih vs st) n
def hcode (E : Env) (call : Caller) (A : FAnn) (n : Nat) : Code → HA → HEnv → Store → (HEnv → Store → Rs) → List (Nat × (HEnv → Store → Rs)) → (HEnv → Store → Rs) → Rs
  | .skip, _, e, st, nrm, _, _ => nrm e st
  | .label _, _, e, st, nrm, _, _ => nrm e st
  | .region id ops dr, _, e, st, nrm, _, _ => (match dr with
    | false => hops E call A id ops.toList ops.toList (List.replicate ops.toList.length 2) 0 e st nrm
    | true => (match A.labs id with
      | some ls => hops E call A id ops.toList ops.toList ls 0 e st nrm
      | none => none))
  | .seq a b, .s ha hb, e, st, nrm, exs, ret => hcode E call A n a ha e st (fun e st => hcode E call A n b hb e st nrm exs ret) exs ret
  | .cond c a b, .c J ha hb, e, st, nrm, exs, ret => (match heval E.globals A e c with
    | some (.val v) => hwith J e nrm fun nrm => hIf v (hcode E call A n a ha e st nrm exs ret) (hcode E call A n b hb e st nrm exs ret)
    | _ => none)
  | .block id body, .b J ha, e, st, nrm, exs, ret => hwith J e nrm fun nrm => hcode E call A n body ha e st nrm ((id, nrm) :: exs) ret
  | .loop body, .l J ha, e, st, _, exs, ret => hjump J e e st fun vs st => hloop (fun ih vs st => hunpack J e vs fun e1 => hcode E call A n body ha e1 st (fun e2 st2 => hjump J e e2 st2 ih) exs ret) n vs st
  | .exit id, _, e, st, _, exs, _ => (match lk id exs with
    | some k => k e st
    | none => none)
  | .ret, _, e, st, _, _, ret => ret e st
  | _, _, _, _, _, _, _ => none

section
variable {E : Env} {call call' : Caller} {A : FAnn}
/-- What goes on in one way goes on in the other. -/
def Leads (A : FAnn) (k' k : HEnv → Store → Rs) : Prop := ∀ e fr st r, HRel A e fr → k' e st = some r → ∃ e', HRel A e' fr ∧ k e' st = some r
theorem hpackT_ok {l : List (Nat × AV)} : ∀ {ts : List Nat} {vs : List AV}, hpackT l ts = some vs → ∀ (more : List AV) (acc : List (Nat × AV)) (k : List (Nat × AV) → List AV → Rs), ∃ va, (hunT ts (vs ++ more) acc k = k va more) ∧ ∀ t v, lk t va = some v → lk t acc = some v ∨ lk t l = some v
  | [], vs, h, more, acc, k => by
    simp only [hpackT, Option.some.injEq] at h; subst h
    exact ⟨acc, rfl, fun t v h => .inl h⟩
  | t :: ts, vs, h, more, acc, k => by
    simp only [hpackT] at h
    split at h
    · rename_i v hv
      split at h
      · rename_i r hr
        injection h with h; subst h
        obtain ⟨va, h1, h2⟩ := hpackT_ok hr more ((t, v) :: acc) k
        refine ⟨va, ?_, fun t' v' h' => ?_⟩
        · simpa only [hunT, un1, List.cons_append] using h1
        · rcases h2 t' v' h' with q | q
          · rw [lk_cons] at q
            split at q
            · rename_i e1; simp only at e1; subst e1; injection q with q; subst q; exact .inr hv
            · exact .inl q
          · exact .inr q
      · cases h
    · cases h
theorem hpackB_ok {l : List (Nat × List AV)} {more : List AV} : ∀ {bs : List Nat} {vs : List AV}, hpackB l more bs = some vs → ∀ (acc : List (Nat × List AV)) (k : List (Nat × List AV) → List AV → Rs), ∃ ba, hunB bs vs acc k = k ba more ∧ ∀ t v, lk t ba = some v → lk t acc = some v ∨ lk t l = some v
  | [], vs, h, acc, k => by
    simp only [hpackB, Option.some.injEq] at h; subst h
    exact ⟨acc, rfl, fun t v h => .inl h⟩
  | t :: ts, vs, h, acc, k => by
    simp only [hpackB] at h
    split at h
    · rename_i v hv
      split at h
      · rename_i r hr
        injection h with h; subst h
        obtain ⟨va, h1, h2⟩ := hpackB_ok hr ((t, v) :: acc) k
        refine ⟨va, by simpa only [hunB, un1, unAgg] using h1, fun t' v' h' => ?_⟩
        rcases h2 t' v' h' with q | q
        · rw [lk_cons] at q
          split at q
          · rename_i e1; simp only at e1; subst e1; injection q with q; subst q; exact .inr hv
          · exact .inl q
        · exact .inr q
      · cases h
    · cases h
theorem hos_ok {l l' : List (Nat × Nat)} : ∀ {os : List Nat}, sameO l l' os = true → ∀ t o, lk t (hos l os) = some o → lk t l' = some o
  | [], _, t, o, h => by cases h
  | x :: os, hs, t, o, h => by
    simp only [sameO] at hs
    simp only [hos] at h
    split at hs
    · rename_i y hy
      simp only [hy] at h
      split at hs
      · rename_i z hz
        split at hs
        · rename_i hyz
          have := Nat.eq_of_beq_eq_true hyz; subst this
          rw [lk_cons] at h
          split at h
          · rename_i e1; simp only at e1; subst e1; injection h with h; subst h; exact hz
          · exact hos_ok hs t o h
        · cases hs
      · cases hs
    · rename_i hy
      simp only [hy] at h
      exact hos_ok hs t o h
theorem hjump_ok {J : HJ} {e0 e : HEnv} {fr : AFr} {st : Store} {j : List AV → Store → Rs} {r : AV × Store} (h : HRel A e fr) (he : hjump J e0 e st j = some r) :
    ∃ vs, j vs st = some r ∧ ∀ (k : HEnv → Rs) r', hunpack J e0 vs k = some r' → ∃ e', HRel A e' fr ∧ k e' = some r' := by
  unfold hjump at he
  split at he
  · rename_i hs
    simp only [Bool.and_eq_true] at hs
    split at he
    · rename_i va hva
      split at he
      · rename_i vs hvs
        refine ⟨vs, he, fun k r' hk => ?_⟩
        unfold hunpack at hk
        obtain ⟨ba, h1, h2⟩ := hpackB_ok hvs [] (fun ba r => hunT J.ts r [] fun va _ => k ⟨e0.n, va, hos e0.os J.os, ba, []⟩)
        rw [h1] at hk
        obtain ⟨va', h3, h4⟩ := hpackT_ok hva [] [] (fun va _ => k ⟨e0.n, va, hos e0.os J.os, ba, []⟩)
        rw [List.append_nil] at h3
        rw [h3] at hk
        have hn := Nat.le_of_ble_eq_true hs.2
        refine ⟨⟨e0.n, va', hos e0.os J.os, ba, []⟩, ⟨Nat.le_trans hn h.lt, Nat.le_trans hn h.lo, Nat.le_trans hn h.ll, fun t v q => ?_, fun t o q => h.os t o (hos_ok hs.1 t o q), fun b cs q => ?_, fun g hg => (by cases hg)⟩, hk⟩
        · rcases h4 t v q with q | q
          · cases q
          · exact h.vs t v q
        · rcases h2 b cs q with q | q
          · cases q
          · exact h.bs b cs q
      · cases he
    · cases he
  · cases he
theorem hwith_ok {J : Option HJ} {e0 : HEnv} {nrm : HEnv → Store → Rs} {f : (HEnv → Store → Rs) → Rs} {r : AV × Store} (h : hwith J e0 nrm f = some r) : ∃ nrm', f nrm' = some r ∧ Leads A nrm' nrm := by
  unfold hwith at h
  split at h
  · exact ⟨nrm, h, fun e fr st r h1 h2 => ⟨e, h1, h2⟩⟩
  · rename_i J
    refine ⟨_, h, fun e fr st r h1 h2 => ?_⟩
    obtain ⟨vs, h3, h4⟩ := hjump_ok h1 h2
    obtain ⟨e', h5, h6⟩ := h4 _ _ h3
    exact ⟨e', h5, h6⟩
/-- How code ends, and what goes on there. -/
def HGoes (nrm : HEnv → Store → Rs) (exs : List (Nat × (HEnv → Store → Rs))) (ret : HEnv → Store → Rs) (ex : AEx) (e : HEnv) (st : Store) (r : AV × Store) : Prop := match ex with
  | .normal => nrm e st = some r
  | .ret => ret e st = some r
  | .exit i => ∃ k, lk i exs = some k ∧ k e st = some r
theorem hIf_ok {v : AV} {a b : Rs} {r : AV × Store} (h : hIf v a b = some r) : (v = .bool true ∧ a = some r) ∨ (v = .bool false ∧ b = some r) := by
  unfold hIf at h
  split at h
  · exact .inl ⟨rfl, h⟩
  · exact .inr ⟨rfl, h⟩
  · cases h
theorem hcode_ok (hA : A.Ok) (hc : Refines call call') {f n : Nat} : ∀ (c : Code), codeOk A c = true → ∀ {ha : HA} {e : HEnv} {fr : AFr} {st : Store} {nrm : HEnv → Store → Rs} {exs : List (Nat × (HEnv → Store → Rs))} {ret : HEnv → Store → Rs} {r : AV × Store}, HRel A e fr → hcode E call A n c ha e st nrm exs ret = some r →
    ∃ ex fr' st' e', acode E call' A.ann f n false c fr st = some (ex, fr', st') ∧ HRel A e' fr' ∧ HGoes nrm exs ret ex e' st' r
  | .skip, _, ha, e, fr, st, nrm, exs, ret, r, h, he => ⟨.normal, fr, st, e, rfl, h, by simp only [hcode] at he; exact he⟩
  | .label _, _, ha, e, fr, st, nrm, exs, ret, r, h, he => ⟨.normal, fr, st, e, rfl, h, by simp only [hcode] at he; exact he⟩
  | .region id ops dr, hd, ha, e, fr, st, nrm, exs, ret, r, h, he => by
    simp only [hcode] at he
    split at he
    · obtain ⟨fr', e', st', fs, h1, h2, h3, _⟩ := hops_ok hA hc h he
      exact ⟨.normal, fr', st', e', by simp only [acode, aops_of_F h1], h2, h3⟩
    · split at he
      · rename_i ls hls
        obtain ⟨fr', e', st', fs, h1, h2, h3, h4⟩ := hops_ok hA hc h he
        simp only [codeOk, drawOk, hls, Bool.and_eq_true] at hd
        obtain ⟨hb, hlen, hp⟩ := hd
        have hlen := Nat.eq_of_beq_eq_true hlen
        rw [← hlen, List.take_length] at h4
        refine ⟨.normal, fr', st', e', ?_, h2, h3⟩
        have : adraw E call' A.ann id ops.toList fr st = some (fr', st') := by
          unfold adraw
          rw [if_pos hb]
          simp only [h1]
          rw [if_pos (pairsOk_mono h4 _ _ hp)]
        simp only [acode, this]
      · cases he
  | .seq a b, hd, ha, e, fr, st, nrm, exs, ret, r, h, he => by
    cases ha with
    | s ha hb =>
      simp only [codeOk, Bool.and_eq_true] at hd
      simp only [hcode] at he
      obtain ⟨ex, fr1, st1, e1, h1, h2, h3⟩ := hcode_ok hA hc (f := f) a hd.1 h he
      cases ex with
      | normal =>
        obtain ⟨ex, fr2, st2, e2, h4, h5, h6⟩ := hcode_ok hA hc (f := f) b hd.2 h2 h3
        exact ⟨ex, fr2, st2, e2, by simp only [acode, h1, h4], h5, h6⟩
      | exit i => exact ⟨.exit i, fr1, st1, e1, by simp only [acode, h1], h2, h3⟩
      | ret => exact ⟨.ret, fr1, st1, e1, by simp only [acode, h1], h2, h3⟩
    | _ => cases he
  | .cond c a b, hd, ha, e, fr, st, nrm, exs, ret, r, h, he => by
    cases ha with
    | c J ha hb =>
      simp only [codeOk, Bool.and_eq_true] at hd
      simp only [hcode] at he
      split at he
      · rename_i v hv
        have hv' := heval_ok h hv
        obtain ⟨nrm', h0, hl⟩ := hwith_ok (A := A) he
        have fin : ∀ {ex : AEx} {fr1 : AFr} {st1 : Store} {e1 : HEnv}, HRel A e1 fr1 → HGoes nrm' exs ret ex e1 st1 r → ∃ e2, HRel A e2 fr1 ∧ HGoes nrm exs ret ex e2 st1 r := by
          intro ex fr1 st1 e1 h2 h3
          cases ex with
          | normal => obtain ⟨e2, h4, h5⟩ := hl _ _ _ _ h2 h3; exact ⟨e2, h4, h5⟩
          | exit i => exact ⟨e1, h2, h3⟩
          | ret => exact ⟨e1, h2, h3⟩
        rcases hIf_ok h0 with ⟨rfl, h0⟩ | ⟨rfl, h0⟩
        · obtain ⟨ex, fr1, st1, e1, h1, h2, h3⟩ := hcode_ok hA hc (f := f) a hd.1 h h0
          obtain ⟨e2, h4, h5⟩ := fin h2 h3
          exact ⟨ex, fr1, st1, e2, by simp only [acode, hv', h1], h4, h5⟩
        · obtain ⟨ex, fr1, st1, e1, h1, h2, h3⟩ := hcode_ok hA hc (f := f) b hd.2 h h0
          obtain ⟨e2, h4, h5⟩ := fin h2 h3
          exact ⟨ex, fr1, st1, e2, by simp only [acode, hv', h1], h4, h5⟩
      · cases he
    | _ => cases he
  | .block id body, hd, ha, e, fr, st, nrm, exs, ret, r, h, he => by
    cases ha with
    | b J ha =>
      simp only [hcode] at he
      obtain ⟨nrm', h0, hl⟩ := hwith_ok (A := A) he
      obtain ⟨ex, fr1, st1, e1, h1, h2, h3⟩ := hcode_ok hA hc (f := f) body hd h h0
      cases ex with
      | normal =>
        obtain ⟨e2, h4, h5⟩ := hl _ _ _ _ h2 h3
        exact ⟨.normal, fr1, st1, e2, by simp only [acode, h1], h4, h5⟩
      | ret => exact ⟨.ret, fr1, st1, e1, by simp only [acode, h1], h2, h3⟩
      | exit i =>
        obtain ⟨k, hk, h3⟩ := h3
        rw [lk_cons] at hk
        split at hk
        · rename_i e0; simp only at e0; subst e0
          injection hk with hk; subst hk
          obtain ⟨e2, h4, h5⟩ := hl _ _ _ _ h2 h3
          refine ⟨.normal, fr1, st1, e2, ?_, h4, h5⟩
          simp only [acode, h1]
          exact if_pos (beq_self_eq_true id)
        · rename_i e0
          refine ⟨.exit i, fr1, st1, e1, ?_, h2, k, hk, h3⟩
          simp only [acode, h1]
          exact if_neg (fun q => e0 (eq_of_beq q).symm)
    | _ => cases he
  | .loop body, hd, ha, e, fr, st, nrm, exs, ret, r, h, he => by
    cases ha with
    | l J ha =>
      simp only [hcode] at he
      obtain ⟨vs, h1, h2⟩ := hjump_ok h he
      have key : ∀ (m : Nat) (vs : List AV) (fr : AFr) (st : Store), (∀ (k : HEnv → Rs) r', hunpack J e vs k = some r' → ∃ e', HRel A e' fr ∧ k e' = some r') →
          hloop (fun ih vs st => hunpack J e vs fun e1 => hcode E call A n body ha e1 st (fun e2 st2 => hjump J e e2 st2 ih) exs ret) m vs st = some r →
          ∃ ex fr' st' e', aloop (acode E call' A.ann f n false body) m fr st = some (ex, fr', st') ∧ ex ≠ .normal ∧ HRel A e' fr' ∧ HGoes nrm exs ret ex e' st' r := by
        intro m
        induction m with
        | zero => intro vs fr st _ hh; cases hh
        | succ m ih =>
          intro vs fr st hvs hh
          have hh' : hunpack J e vs (fun e1 => hcode E call A n body ha e1 st (fun e2 st2 => hjump J e e2 st2 (hloop (fun ih vs st => hunpack J e vs fun e1 => hcode E call A n body ha e1 st (fun e2 st2 => hjump J e e2 st2 ih) exs ret) m)) exs ret) = some r := hh
          obtain ⟨e1, h3, h4⟩ := hvs _ _ hh'
          obtain ⟨ex, fr1, st1, e2, h5, h6, h7⟩ := hcode_ok hA hc (f := f) body hd h3 h4
          cases ex with
          | normal =>
            obtain ⟨vs', h8, h9⟩ := hjump_ok h6 h7
            obtain ⟨ex, fr2, st2, e3, q1, q2, q3, q4⟩ := ih vs' fr1 st1 h9 h8
            exact ⟨ex, fr2, st2, e3, by simp only [aloop, h5, q1], q2, q3, q4⟩
          | exit i => exact ⟨.exit i, fr1, st1, e2, by simp only [aloop, h5], by simp, h6, h7⟩
          | ret => exact ⟨.ret, fr1, st1, e2, by simp only [aloop, h5], by simp, h6, h7⟩
      obtain ⟨ex, fr', st', e', q1, _, q3, q4⟩ := key n vs fr st h2 h1
      exact ⟨ex, fr', st', e', by simp only [acode, q1], q3, q4⟩
    | _ => cases he
  | .exit id, _, ha, e, fr, st, nrm, exs, ret, r, h, he => by
    simp only [hcode] at he
    split at he
    · rename_i k hk
      exact ⟨.exit id, fr, st, e, rfl, h, k, hk, he⟩
    · cases he
  | .ret, _, ha, e, fr, st, nrm, exs, ret, r, h, he => ⟨.ret, fr, st, e, rfl, h, by simp only [hcode] at he; exact he⟩
  | .rangeFunc .., _, ha, e, fr, st, nrm, exs, ret, r, h, he => by simp [hcode] at he
  | .scope _, _, ha, e, fr, st, nrm, exs, ret, r, h, he => by simp [hcode] at he
  | .goto _, _, ha, e, fr, st, nrm, exs, ret, r, h, he => by simp [hcode] at he
  | .refuse _, _, ha, e, fr, st, nrm, exs, ret, r, h, he => by simp [hcode] at he
end

/-! ### Functions -/
def hRd1 (p : AV) (st : Store) (k : AV → Rs) : Rs := match p with
  | .ptr o off => hGet st o fun cs => hNth cs off k
  | _ => none
def hRdN (sz : Nat) (p : AV) (st : Store) (k : AV → Rs) : Rs := match p with
  | .ptr o off => hGet st o fun cs => hCut cs off sz fun c => k (.agg c)
  | _ => none
def hres1 (E : Env) (A : FAnn) (e : HEnv) (st : Store) (rv : ResultVar) (k : AV → Rs) : Rs := match rv with
  | .tmp t => (match A.base t with
    | none => (match lk t e.vs with
      | some v => k v
      | none => none)
    | some _ => none)
  | .cell a t => (match sizeT E.L t with
    | none => none
    | some sz => (match aggT E.L t with
      | none => none
      | some true => (match A.base a with
        | some b => (match lk b e.bs with
          | some cs => (match lk a e.os with
            | some off => hLocN sz cs off k
            | none => none)
          | none => none)
        | none => (match lk a e.vs with
          | some p => hRdN sz p st k
          | none => none))
      | some false => (match Nat.beq sz 1 with
        | false => none
        | true => (match A.base a with
          | some b => (match lk b e.bs with
            | some cs => (match lk a e.os with
              | some off => hLoc1 cs off k
              | none => none)
            | none => none)
          | none => (match lk a e.vs with
            | some p => hRd1 p st k
            | none => none)))))
def hresL (E : Env) (A : FAnn) (e : HEnv) (st : Store) : List ResultVar → (List AV → Rs) → Rs
  | [], k => k []
  | r :: rs, k => hres1 E A e st r fun v => hresL E A e st rs fun vs => k (v :: vs)
def hres (E : Env) (A : FAnn) (rs : List ResultVar) (e : HEnv) (st : Store) : Rs := hresL E A e st rs fun vs => (match vs with
  | [v] => some (v, st)
  | vs => some (.tuple vs, st))
def un0 (vs : List AV) (a : Rs) : Rs := match vs with
  | [] => a
  | _ => none
def hfun (E : Env) (A : FAnn) (ha : HA) (ps : List Nat) (fn : Func) (call : Caller) (n : Nat) (args : List AV) (st : Store) : Rs := match fn.body with
  | none => none
  | some c => hunT ps args [] fun va r => un0 r (hcode E call A n c ha ⟨fn.ntmps, va, [], [], []⟩ st (hres E A fn.results.toList) [] (hres E A fn.results.toList))
section
variable {E : Env} {call call' : Caller} {A : FAnn}
theorem hres1_ok {e : HEnv} {fr : AFr} {st : Store} (h : HRel A e fr) {rv : ResultVar} {k : AV → Rs} {r : AV × Store} (he : hres1 E A e st rv k = some r) : ∃ v, aresult E A.ann fr st rv = some v ∧ k v = some r := by
  cases rv with
  | tmp t =>
    simp only [hres1] at he
    split at he
    · rename_i hb
      have hb' : A.ann.base t = none := hb
      split at he
      · rename_i v hv; exact ⟨v, by simp only [aresult, hb', h.vs t v hv], he⟩
      · cases he
    · cases he
  | cell a t =>
    simp only [hres1] at he
    split at he
    · cases he
    · rename_i sz hsz
      split at he
      · cases he
      · rename_i hag
        split at he
        · rename_i b hb
          have hb' : A.ann.base a = some b := hb
          split at he
          · rename_i cs hcs
            obtain ⟨q1, q2, o, q3⟩ := h.bs b cs hcs
            split at he
            · rename_i off hoff
              have hoff := h.os a off hoff
              obtain ⟨c, h1, h2⟩ := hCut_ok he
              exact ⟨_, by simp only [aresult, hsz, hb', q3, hoff, q2, h1, mkT, hag], h2⟩
            · cases he
          · cases he
        · rename_i hb
          have hb' : A.ann.base a = none := hb
          split at he
          · rename_i p hp
            have hp := h.vs a p hp
            unfold hRdN at he
            split at he
            · obtain ⟨cs, h1, h2⟩ := hGet_ok he
              obtain ⟨c, h3, h4⟩ := hCut_ok h2
              exact ⟨_, by simp only [aresult, hsz, hb', hp, h1, Option.bind_some, h3, mkT, hag], h4⟩
            · cases he
          · cases he
      · rename_i hag
        split at he
        · cases he
        · rename_i h1
          have := Nat.eq_of_beq_eq_true h1; subst this
          split at he
          · rename_i b hb
            have hb' : A.ann.base a = some b := hb
            split at he
            · rename_i cs hcs
              obtain ⟨q1, q2, o, q3⟩ := h.bs b cs hcs
              split at he
              · rename_i off hoff
                have hoff := h.os a off hoff
                obtain ⟨c, h1, h2⟩ := hNth_ok he
                exact ⟨_, by simp only [aresult, hsz, hb', q3, hoff, q2, cut_one h1, mkT, hag], h2⟩
              · cases he
            · cases he
          · rename_i hb
            have hb' : A.ann.base a = none := hb
            split at he
            · rename_i p hp
              have hp := h.vs a p hp
              unfold hRd1 at he
              split at he
              · obtain ⟨cs, h1, h2⟩ := hGet_ok he
                obtain ⟨c, h3, h4⟩ := hNth_ok h2
                exact ⟨_, by simp only [aresult, hsz, hb', hp, h1, Option.bind_some, cut_one h3, mkT, hag], h4⟩
              · cases he
            · cases he
theorem hresL_ok {e : HEnv} {fr : AFr} {st : Store} (h : HRel A e fr) : ∀ {rs : List ResultVar} {k : List AV → Rs} {r : AV × Store}, hresL E A e st rs k = some r → ∃ vs, aresults E A.ann fr st rs = some vs ∧ k vs = some r
  | [], k, r, he => ⟨[], rfl, he⟩
  | x :: rs, k, r, he => by
    simp only [hresL] at he
    obtain ⟨v, h1, h2⟩ := hres1_ok h he
    obtain ⟨vs, h3, h4⟩ := hresL_ok h h2
    exact ⟨v :: vs, by simp only [aresults, h1, h3], h4⟩
theorem hunT_range : ∀ (ps : List Nat) (args : List AV) (acc : List (Nat × AV)) (k : List (Nat × AV) → List AV → Rs) (r : AV × Store), hunT ps args acc k = some r → ∃ va rest, k va rest = some r ∧ args.length = ps.length + rest.length ∧ ∀ t v, lk t va = some v → lk t acc = some v ∨ ∃ i : Nat, ps[i]? = some t ∧ args[i]? = some v
  | [], args, acc, k, r, h => ⟨acc, args, h, by simp, fun t v h => .inl h⟩
  | p :: ps, args, acc, k, r, h => by
    simp only [hunT] at h
    cases args with
    | nil => cases h
    | cons x args =>
      obtain ⟨va, rest, h1, h2, h3⟩ := hunT_range ps args _ k r (show hunT ps args ((p, x) :: acc) k = some r from h)
      refine ⟨va, rest, h1, by simp only [List.length_cons]; omega, fun t v q => ?_⟩
      rcases h3 t v q with q | ⟨i, q1, q2⟩
      · rw [lk_cons] at q
        split at q
        · rename_i e1; simp only at e1; injection q with q; subst q
          exact .inr ⟨0, by simp [e1], rfl⟩
        · exact .inl q
      · exact .inr ⟨i + 1, by simpa using q1, by simpa using q2⟩
theorem hfun_ok (hA : A.Ok) (hc : Refines call call') {An : FuncId → Ann} {f n : Nat} {ha : HA} {m : Nat} {fn : Func} {args : List AV} {st : Store} {r : AV × Store} (hf : E.L.fn f = some fn) (hAn : An f = A.ann) (hcode' : ∀ c, fn.body = some c → codeOk A c = true)
    (h : hfun E A ha (List.range m) fn call n args st = some r) : afun E An call' n f args st = some r := by
  unfold hfun at h
  split at h
  · cases h
  · rename_i c hb
    obtain ⟨va, rest, h1, h2, h3⟩ := hunT_range _ _ _ _ _ h
    unfold un0 at h1
    split at h1
    · have hrel : HRel A ⟨fn.ntmps, va, [], [], []⟩ (aenter fn args) := by
        refine ⟨by simp [aenter]; omega, by simp [aenter]; omega, by simp [aenter]; omega, fun t v q => ?_, fun t o q => (by cases q), fun b cs q => (by cases q), fun g hg => (by cases hg)⟩
        rcases h3 t v q with q | ⟨i, q1, q2⟩
        · cases q
        · have hi : i < m := by
            have := (List.getElem?_eq_some_iff.1 q1).1
            simpa using this
          rw [List.getElem?_range hi] at q1
          injection q1 with q1; subst q1
          have hl := (List.getElem?_eq_some_iff.1 q2).1
          simp only [aenter]
          rw [List.getElem?_append_left hl]
          exact q2
      obtain ⟨ex, fr', st', e', h4, h5, h6⟩ := hcode_ok hA hc (f := f) c (hcode' c hb) hrel h1
      have fin : hres E A fn.results.toList e' st' = some r → (match aresults E A.ann fr' st' fn.results.toList with
        | some [v] => some (v, st')
        | some vs => some (.tuple vs, st')
        | none => none) = some r := by
        intro hh
        obtain ⟨vs, h7, h8⟩ := hresL_ok h5 hh
        rw [h7]
        split at h8
        · exact h8
        · rename_i hne
          split
          · rename_i v hv; injection hv with hv; exact absurd hv (hne v)
          · rename_i hv; injection hv with hv; subst hv; exact h8
          · rename_i hv; cases hv
      unfold afun
      simp only [hf, hb, hAn]
      cases ex with
      | normal => simp only [h4]; exact fin h6
      | ret => simp only [h4]; exact fin h6
      | exit i => obtain ⟨k, hk, _⟩ := h6; cases hk
    · cases h1
end

/-! ### Calls -/
abbrev HBody := Caller → Nat → List AV → Store → Rs
/-- A function's term says what the function's reading says. -/
def BodyOk (E : Env) (An : FuncId → FAnn) (f : FuncId) (b : HBody) : Prop := ∀ call call' n args st r, Refines call call' → b call n args st = some r → afun E (fun f => (An f).ann) call' n f args st = some r
def hcall1 (E : Env) (An : FuncId → FAnn) (pr : Prims) (tbl : Nat → Option HBody) (call : Caller) (n : Nat) (f : Nat) (args : List AV) (st : Store) : Rs := match tbl f with
  | some b => b call n args st
  | none => ffun E An call n f args st
def hcall (E : Env) (An : FuncId → FAnn) (pr : Prims) (tbl : Nat → Option HBody) (n : Nat) : Caller := Nat.rec (motive := fun _ => Caller) (fun _ _ _ => none) (fun n ih fv args st => match fv with
  | .func fn first cap => (match fn with
    | .func f => (match pr f with
      | some p => (match p (first ++ args ++ cap) st with
        | some r => some r
        | none => hcall1 E An pr tbl ih n f (first ++ args ++ cap) st)
      | none => hcall1 E An pr tbl ih n f (first ++ args ++ cap) st)
    | .yield l => (match first with
      | [] => (match cap with
        | [] => fyield E An ih n l args st
        | _ => none)
      | _ => none)
    | _ => none)
  | _ => none) n
theorem hcall_ok {E : Env} {An : FuncId → FAnn} (hO : FOk E An) {pr : Prims} {tbl : Nat → Option HBody} (ht : ∀ f b, tbl f = some b → BodyOk E An f b) : ∀ n, Refines (hcall E An pr tbl n) (acall E (fun f => (An f).ann) pr n)
  | 0 => fun f args st r h => by cases h
  | n + 1 => fun fv args st r h => by
    have ih := hcall_ok hO ht (pr := pr) n
    have body : ∀ {f : Nat} {args : List AV}, hcall1 E An pr tbl (hcall E An pr tbl n) n f args st = some r → afun E (fun f => (An f).ann) (acall E (fun f => (An f).ann) pr n) n f args st = some r := by
      intro f args h
      unfold hcall1 at h
      split at h
      · rename_i b hb; exact ht f b hb _ _ _ _ _ _ ih h
      · exact ffun_ok hO ih h
    cases fv with
    | func fn first cap =>
      cases fn with
      | func f =>
        have h' : (match pr f with
          | some p => (match p (first ++ args ++ cap) st with
            | some r => some r
            | none => hcall1 E An pr tbl (hcall E An pr tbl n) n f (first ++ args ++ cap) st)
          | none => hcall1 E An pr tbl (hcall E An pr tbl n) n f (first ++ args ++ cap) st) = some r := h
        simp only [acall]
        split at h'
        · rename_i p hp
          simp only [hp]
          split at h'
          · rename_i q hq; simp only [hq]; exact h'
          · rename_i hq; simp only [hq]; exact body h'
        · rename_i hp; simp only [hp]; exact body h'
      | yield l =>
        cases first with
        | nil =>
          cases cap with
          | nil => exact fyield_ok hO ih (show fyield E An (hcall E An pr tbl n) n l args st = some r from h)
          | cons _ _ => cases h
        | cons _ _ => cases h
      | _ => cases h
    | _ => cases h
end
end Go.Sim

namespace Go.Sim
section
variable {k : AV → Rs} {r : Rs}
theorem x_un1 (x : AV) (vs : List AV) (k : AV → List AV → Rs) : un1 (x :: vs) k = k x vs := rfl
theorem x_un0 (a : Rs) : un0 [] a = a := rfl
theorem x_unAgg (cs : List AV) (k : List AV → Rs) : unAgg (.agg cs) k = k cs := rfl
theorem x_hIf_t (a b : Rs) : hIf (.bool true) a b = a := rfl
theorem x_hIf_f (a b : Rs) : hIf (.bool false) a b = b := rfl
theorem x_hIf (c : Bool) (a b : Rs) : hIf (.bool c) a b = if c = true then a else b := by cases c <;> rfl
theorem x_hlet {α : Type} (f : α) (g : α → Rs) : hlet f g = g f := rfl
theorem x_hWant_tt (a b : Rs) : hWant (.bool true) true a b = a := rfl
theorem x_hWant_tf (a b : Rs) : hWant (.bool true) false a b = b := rfl
theorem x_hWant_ft (a b : Rs) : hWant (.bool false) true a b = b := rfl
theorem x_hWant_ff (a b : Rs) : hWant (.bool false) false a b = a := rfl
theorem x_hWant_u (w : Bool) (a b : Rs) : hWant aundef w a b = b := rfl
theorem x_hWB (c : Bool) (a : Rs) : hWB (.bool c) a = a := rfl
theorem x_hWB_u (a : Rs) : hWB aundef a = a := rfl
theorem x_hPick_t (a b : AV) (k : AV → Rs) : hPick (.bool true) a b k = k a := rfl
theorem x_hPick_f (a b : AV) (k : AV → Rs) : hPick (.bool false) a b k = k b := rfl
theorem x_hNot (b : Bool) (k : AV → Rs) : hNot (.bool b) k = k (.bool (!b)) := by cases b <;> rfl
theorem x_hCells (cs : List AV) (k : List AV → Rs) : hCells (.agg cs) k = k cs := rfl
theorem x_hCells_int (kd : IntKind) (n : Int) (k : List AV → Rs) : hCells (.int kd n) k = k [.int kd n] := rfl
theorem x_hCells_str (s : List UInt8) (k : List AV → Rs) : hCells (.str s) k = k [.str s] := rfl
theorem x_hNth0 (x : AV) (xs : List AV) (k : AV → Rs) : hNth (x :: xs) 0 k = k x := rfl
theorem x_hNthS (x : AV) (xs : List AV) (n : Nat) (k : AV → Rs) : hNth (x :: xs) (n + 1) k = hNth xs n k := rfl
theorem x_hNth {xs : List AV} {n : Nat} {x : AV} {k : AV → Rs} (h : xs[n]? = some x) : hNth xs n k = k x := by
  induction xs generalizing n with
  | nil => simp at h
  | cons y ys ih =>
    cases n with
    | zero => simp at h; subst h; rfl
    | succ n => exact ih (by simpa using h)
theorem x_hLoc1 (cs : List AV) (o : Nat) (k : AV → Rs) : hLoc1 cs o k = hNth cs o k := rfl
theorem x_hLocN (sz : Nat) (cs : List AV) (o : Nat) (k : AV → Rs) : hLocN sz cs o k = hCut cs o sz fun c => k (.agg c) := rfl
theorem x_hCut {cs : List AV} {o n : Nat} {k : List AV → Rs} (h : o + n ≤ cs.length) : hCut cs o n k = k ((cs.drop o).take n) := by
  have hd : ∀ (cs : List AV) (o : Nat) (k : List AV → Rs), o ≤ cs.length → hDrop cs o k = k (cs.drop o) := by
    intro cs
    induction cs with
    | nil => intro o k h; simp at h; subst h; rfl
    | cons x xs ih =>
      intro o k h
      cases o with
      | zero => rfl
      | succ o => exact ih o k (by simpa using h)
  have ht : ∀ (cs : List AV) (n : Nat) (k : List AV → Rs), n ≤ cs.length → hTake cs n k = k (cs.take n) := by
    intro cs
    induction cs with
    | nil => intro n k h; simp at h; subst h; rfl
    | cons x xs ih =>
      intro n k h
      cases n with
      | zero => rfl
      | succ n => exact ih n (fun r => k (x :: r)) (by simpa using h)
  unfold hCut
  rw [hd _ _ _ (by omega), ht _ _ _ (by rw [List.length_drop]; omega)]
theorem x_hCut_all {cs : List AV} {n : Nat} {k : List AV → Rs} (h : cs.length = n) : hCut cs 0 n k = k cs := by
  rw [x_hCut (by omega), List.drop_zero, ← h, List.take_length]
theorem x_hCut7 (a b c d e f g : AV) (k : List AV → Rs) : hCut [a, b, c, d, e, f, g] 0 7 k = k [a, b, c, d, e, f, g] := rfl
theorem x_hStLN7 (a b c d e f g a' b' c' d' e' f' g' : AV) (k : List AV → Rs) : hStLN 7 [a, b, c, d, e, f, g] 0 (.agg [a', b', c', d', e', f', g']) k = k [a', b', c', d', e', f', g'] := rfl
theorem x_hPut0 (x : AV) (xs : List AV) (v : AV) (k : List AV → Rs) : hPut (x :: xs) 0 v k = k (v :: xs) := rfl
theorem x_hPutS (x : AV) (xs : List AV) (n : Nat) (v : AV) (k : List AV → Rs) : hPut (x :: xs) (n + 1) v k = hPut xs n v (fun r => k (x :: r)) := rfl
theorem x_hStL1 {cs : List AV} {o : Nat} {v : AV} {k : List AV → Rs} (h : oneC v = true) : hStL1 cs o v k = hPut cs o v k := by
  simp only [hStL1, h]
theorem x_hArith (f : Int → Int → Int) (kd : IntKind) (x y : Int) (k : AV → Rs) : hArith f (.int kd x) (.int kd y) k = k (.int kd (kd.wrap (f x y))) := by
  have : Nat.beq (kNum kd) (kNum kd) = true := by cases kd <;> rfl
  simp only [hArith, this, fWrap_eq]
theorem wrap_nat {n : Nat} (h : n < 9223372036854775808) : IntKind.i64.wrap (.ofNat n) = .ofNat n := wrap_pos (Nat.ble_eq_true_of_le h)
theorem x_add {a b : Nat} {k : AV → Rs} (h : a + b < 9223372036854775808) : hArith Int.add (.int .i64 (.ofNat a)) (.int .i64 (.ofNat b)) k = k (.int .i64 (.ofNat (a + b))) := by
  rw [x_hArith]; exact congrArg (fun z => k (.int .i64 z)) (wrap_nat h)
theorem x_hCmpI (f : Int → Int → Bool) (kd : IntKind) (x y : Int) (k : AV → Rs) : hCmpI f (.int kd x) (.int kd y) k = k (.bool (f x y)) := by
  have : Nat.beq (kNum kd) (kNum kd) = true := by cases kd <;> rfl
  simp only [hCmpI, this, fBool_eq]
theorem x_iLt (a b : Nat) : iLt (.ofNat a) (.ofNat b) = decide (a < b) := by
  rw [iLt_eq, Bool.eq_iff_iff]; simp
theorem x_iEq (a b : Int) : iEq a b = decide (a = b) := by
  rw [iEq_eq, Bool.eq_iff_iff]; simp
theorem x_hStr (f : List UInt8 → List UInt8 → Bool) (x y : List UInt8) (k : AV → Rs) : hStr f (.str x) (.str y) k = k (.bool (f x y)) := by
  simp only [hStr, fBool_eq]
theorem x_bEq (a b : List UInt8) : bEq a b = decide (a = b) := by
  rw [bEq_eq, Bool.eq_iff_iff]; simp
theorem x_hLenS (s : List UInt8) (k : AV → Rs) : hLenS (.str s) k = k (.int .i64 (.ofNat s.length)) := by simp only [hLenS, fNat_eq]
theorem x_hLenR_n (k : AV → Rs) : hLenR .nils k = k (.int .i64 (.ofNat 0)) := rfl
theorem x_hLenR_r (sz : Nat) (tok : Option (Nat × Nat)) (cap : Option Nat) (xs : List AV) (k : AV → Rs) : hLenR (.row sz tok cap xs) k = k (.int .i64 (.ofNat xs.length)) := by simp only [hLenR, fNat_eq]
theorem x_hLenR_a (sz o off n : Nat) (cap : Option Nat) (k : AV → Rs) : hLenR (.arr sz o off n cap) k = k (.int .i64 (.ofNat n)) := rfl
theorem x_hElem {sz : Nat} {tok : Option (Nat × Nat)} {cap : Option Nat} {xs : List AV} {kd : IntKind} {j : Nat} {y : AV} {k : AV → Rs} (h : xs[j]? = some y) : hElem sz (.row sz tok cap xs) (.int kd (.ofNat j)) k = k (.rptr y.cells) := by
  have : Nat.beq sz sz = true := by simp
  simp only [hElem, this, hNthR]
  rw [x_hNth h, hCellsA_eq]
theorem x_hLd1_r (x : AV) (cs : List AV) (st : Store) (k : AV → Rs) : hLd1 (.rptr (x :: cs)) st k = k x := rfl
theorem x_hLdN_r (sz : Nat) (cs : List AV) (st : Store) (k : AV → Rs) : hLdN sz (.rptr cs) st k = hCut cs 0 sz fun c => k (.agg c) := rfl
theorem x_hExt (i : Nat) (vs : List AV) (k : AV → Rs) : hExt i (.tuple vs) k = hNth vs i k := rfl
theorem x_hCall {call : Caller} {f : AV} {args : List AV} {st st' : Store} {v : AV} {k : AV → Store → Rs} (h : call f args st = some (v, st')) : hCall call f args st k = k v st' := by
  simp only [hCall, h]
theorem x_hVal {a : Ans} {v : AV} {s : Store} {k : AV → Store → Rs} (h : a = some (.val v, s)) : hVal a k = k v s := by
  subst h; rfl
theorem x_hValF {a : Ans} {v : AV} {s : Store} {k : AV → Store → Rs} (h : a = some (.val v, s)) : hValF a k = k v s := by
  subst h; simp only [hValF, fAV_eq, fSt_eq]
theorem x_hV {a : Option AV} {v : AV} {k : AV → Rs} (h : a = some v) : hV a k = k v := by
  subst h; rfl
theorem x_hFrees_loc (b o : Nat) (cs : List AV) (a : Rs) : hFrees [.loc b o cs] a = a := rfl
theorem x_hFrees_v {v : AV} {a : Rs} (h : freeIn v = true) : hFrees [.val v] a = a := by
  simp only [hFrees, h]
theorem x_hNN {v : AV} {a : Rs} (h : notNil v = true) : hNN v a = a := by simp only [hNN, h]
theorem x_hloop (body : (List AV → Store → Rs) → List AV → Store → Rs) (n : Nat) (vs : List AV) (st : Store) : hloop body (n + 1) vs st = body (hloop body n) vs st := rfl
theorem x_hConvI (kd kd' : IntKind) (n : Int) (k : AV → Rs) : hConvI kd (.int kd' n) k = k (.int kd (kd.wrap n)) := by
  simp only [hConvI, fWrap_eq]
theorem x_hNew (cs : List AV) (st : Store) (k : AV → Store → Rs) : hNew cs st k = k (.ptr st.nobj 0) (st.new (.cells cs)) := hNew_eq cs st k
theorem x_hAddr_p (n o a : Nat) (k : AV → Rs) : hAddr n (.ptr o a) k = k (.ptr o (a + n)) := by simp only [hAddr, fNat_eq]
theorem x_hFld1 (cs : List AV) (o : Nat) (k : AV → Rs) : hFld1 (.agg cs) o k = hNth cs o k := rfl
theorem x_hGet {st : Store} {o : Nat} {cs : List AV} {k : List AV → Rs} (h : st.getCells o = some cs) : hGet st o k = k cs := by
  obtain ⟨objs, nobj, tops, ntop⟩ := st
  simp only [Store.getCells, Store.get] at h
  by_cases hlt : o < nobj
  · rw [if_pos hlt] at h
    have hb : Nat.blt o nobj = true := Nat.ble_eq_true_of_le hlt
    have ho : ∀ (xs : List AObj) (n : Nat) (x : AObj) (k : AObj → Rs), xs[n]? = some x → hObj xs n k = k x := by
      intro xs
      induction xs with
      | nil => intro n x k h; simp at h
      | cons y ys ih =>
        intro n x k h
        cases n with
        | zero => simp at h; subst h; rfl
        | succ n => exact ih n x k (by simpa using h)
    simp only [hGet, hb]
    split at h
    · rename_i hx; injection h with h; subst h; rw [ho _ _ _ _ hx]; rfl
    · rename_i hx; injection h with h; subst h; rw [ho _ _ _ _ hx]; rfl
    · rename_i hx; injection h with h; subst h; rw [ho _ _ _ _ hx]; rfl
    · cases h
  · rw [if_neg hlt] at h; cases h
theorem x_hLd1_p {st : Store} {o a : Nat} {cs : List AV} {k : AV → Rs} (h : st.getCells o = some cs) : hLd1 (.ptr o a) st k = hNth cs a k := by
  simp only [hLd1]; rw [x_hGet h]
theorem x_hPut {xs : List AV} {n : Nat} {v : AV} {k : List AV → Rs} (h : n < xs.length) : hPut xs n v k = k (xs.set n v) := by
  induction xs generalizing n k with
  | nil => simp at h
  | cons x xs ih =>
    cases n with
    | zero => rfl
    | succ n => exact ih (n := n) (k := fun r => k (x :: r)) (by simpa using h)
theorem x_hMod {st : Store} {o : Nat} {cs : List AV} {f : List AV → (List AV → Rs) → Rs} {k : Store → Rs} (h : st.getCells o = some cs) : hMod st o f k = f cs (fun ys => k (st.put o ys)) := by
  obtain ⟨objs, nobj, tops, ntop⟩ := st
  simp only [Store.getCells] at h
  have hs : ∀ (xs : List AObj) (n : Nat) (x : AObj) (f : AObj → (AObj → Rs) → Rs) (k : List AObj → Rs), xs[n]? = some x → hObjSet xs n f k = f x (fun y => k (xs.set n y)) := by
    intro xs
    induction xs with
    | nil => intro n x f k h; simp at h
    | cons y ys ih =>
      intro n x f k h
      cases n with
      | zero => simp at h; subst h; rfl
      | succ n =>
        have := ih n x f (fun r => k (y :: r)) (by simpa using h)
        exact this
  have hlt : o < nobj := by
    by_cases hlt : o < nobj
    · exact hlt
    · simp only [Store.get, if_neg hlt] at h; cases h
  have hb : Nat.blt o nobj = true := Nat.ble_eq_true_of_le hlt
  have hg : (Store.mk objs nobj tops ntop).get o = objs[nobj - 1 - o]? := by simp only [Store.get, if_pos hlt]
  simp only [hMod, hb]
  rw [hg] at h
  split at h
  · rename_i hx; injection h with h; subst h
    rw [hs _ _ _ _ _ hx]
    simp only [Store.put, hg, hx, Store.set]
  · rename_i hx; injection h with h; subst h
    rw [hs _ _ _ _ _ hx]
    simp only [Store.put, hg, hx, Store.set]
  · rename_i hx; injection h with h; subst h
    rw [hs _ _ _ _ _ hx]
    simp only [Store.put, hg, hx, Store.set]
  · cases h
theorem x_hSt1_p {st : Store} {o a : Nat} {cs : List AV} {v : AV} {k : Store → Rs} (h : st.getCells o = some cs) (h1 : oneC v = true) (ha : a < cs.length) : hSt1 (.ptr o a) v st k = k (st.put o (cs.set a v)) := by
  simp only [hSt1, h1]; rw [x_hMod h, x_hPut ha]
/-- A loop, by what holds while so many rounds are left. -/
theorem loop_rule {body : (List AV → Store → Rs) → List AV → Store → Rs} {res : Rs} (Inv : Nat → List AV → Store → Prop)
    (step : ∀ m vs st ih, Inv (m + 1) vs st → (∀ vs' st', Inv m vs' st' → ih vs' st' = res) → body ih vs st = res)
    (last : ∀ vs st ih, Inv 0 vs st → body ih vs st = res) : ∀ m n vs st, Inv m vs st → m < n → hloop body n vs st = res := by
  intro m
  induction m with
  | zero =>
    intro n vs st h hn
    cases n with
    | zero => omega
    | succ n => exact last vs st _ h
  | succ m ih =>
    intro n vs st h hn
    cases n with
    | zero => omega
    | succ n => exact step m vs st _ h (fun vs' st' h' => ih n vs' st' h' (by omega))
end
end Go.Sim
