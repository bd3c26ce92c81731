/- What a value of the machine has to do with a value that is read as data; what may change. -/
import Derived.Test.YtnplidplamoejaaGreatDoorSimA
import Derived.Laws.IdiomCopy
import Derived.Laws.Append
import Derived.Below
set_option linter.unusedVariables false
set_option linter.unusedSimpArgs false
set_option linter.unnecessarySimpa false
namespace Go.Sim

/-- What a block of memory is for: a row that grows at its end alone; what nobody writes any more; an object. -/
inductive GB where
  | row (t start size tot : Nat) (cells : List Value)
  | stat (cells : List Value)
  | obj (o tot : Nat)

structure Gh where
  blk : Nat → Option GB
  dead : Nat → Prop

def GB.fixed : GB → Option (List Value)
  | .row _ _ _ _ cs => some cs
  | .stat cs => some cs
  | .obj _ _ => none

/-- These cells lie there for good. -/
def Imm (g : Gh) (b o : Nat) (vs : List Value) : Prop := vs = [] ∨ ∃ x cs, g.blk b = some x ∧ x.fixed = some cs ∧ vs <+: cs.drop o
def LiveA (g : Gh) (b o n : Nat) : Prop := g.dead o ∨ ∃ tot, g.blk b = some (.obj o tot) ∧ n ≤ tot
def Live (g : Gh) (b o : Nat) : Prop := LiveA g b o 0
def Fn.plain : Fn → Bool
  | .yield _ => false
  | _ => true
def AllOne (vs : List Value) : Prop := ∀ v ∈ vs, v.oneCell' = true

mutual
inductive Rep (g : Gh) : Value → AV → Prop
  | bool (b : Bool) : Rep g (.bool b) (.bool b)
  | int (k : IntKind) (n : Int) : Rep g (.int k n) (.int k n)
  | str (s : ByteArray) : Rep g (.string s) (.str s.data.toList)
  | nilptr : Rep g (.pointer none) .nilptr
  | ptr (b off o : Nat) (h : Live g b o) : Rep g (.pointer (some ⟨b, off, none⟩)) (.ptr o off)
  | rptr (b o : Nat) (vs : List Value) (cs : List AV) (h : Imm g b o vs) (h1 : AllOne vs) (hr : Reps g vs cs) : Rep g (.pointer (some ⟨b, o, none⟩)) (.rptr cs)
  | nils : Rep g (.slice none 0 0) .nils
  | row (b o n c sz : Nat) (tok : Option (Nat × Nat)) (cap : Option Nat) (xs : List AV) (vs : List Value) (hi : Imm g b o vs) (he : RepE g sz vs xs) (hn : xs.length = n) (hc : n ≤ c) (hz : 0 < sz)
      (hcap : ∀ m, cap = some m → m = c) (ht : ∀ t off, tok = some (t, off) → c = 0 ∨ ∃ start tot cs, g.blk b = some (.row t start sz tot cs) ∧ start ≤ off ∧ o = (off - start) * sz ∧ o + n * sz ≤ cs.length ∧ o + c * sz ≤ tot) :
      Rep g (.slice (some ⟨b, o, none⟩) n c) (.row sz tok cap xs)
  | arr (b off o len c sz : Nat) (cap : Option Nat) (h : LiveA g b o (off + c * sz)) (hc : len ≤ c) (hz : 0 < sz) (hcap : ∀ m, cap = some m → m = c) : Rep g (.slice (some ⟨b, off, none⟩) len c) (.arr sz o off len cap)
  | nilmap : Rep g (.map none) .nilmap
  | map (b o : Nat) (h : Live g b o) : Rep g (.map (some b)) (.map o)
  | func (fn : Fn) (a b : Array Value) (x y : List AV) (hf : Fn.plain fn = true) (ha : Reps g a.toList x) (hb : Reps g b.toList y) : Rep g (.func fn a b) (.func fn x y)
  | yield (b o : Nat) (h : Live g b o) : Rep g (.func (.yield b) #[] #[]) (.func (.yield o) [] [])
  | nilFunc : Rep g .nilFunc .nilFunc
  | iface (t : TypeId) (v : Value) (x : AV) (h : Rep g v x) : Rep g (.iface t v) (.iface t x)
  | nilIface : Rep g .nilIface .nilIface
  | agg (cs : Array Value) (xs : List AV) (h1 : AllOne cs.toList) (h : Reps g cs.toList xs) : Rep g (.agg cs) (.agg xs)
  | tuple (cs : Array Value) (xs : List AV) (h : Reps g cs.toList xs) : Rep g (.tuple cs) (.tuple xs)
  | uptr (b t tot : Nat) (cs vs : List Value) (xs : List AV) (hb : g.blk b = some (.row t 0 1 tot cs)) (hv : vs <+: cs) (he : RepE g 1 vs xs) : Rep g (.pointer (some ⟨b, 0, none⟩)) (.uptr t xs)
  | junk (v : Value) : Rep g v .junk
inductive Reps (g : Gh) : List Value → List AV → Prop
  | nil : Reps g [] []
  | cons (v : Value) (x : AV) (vs : List Value) (xs : List AV) (h : Rep g v x) (hs : Reps g vs xs) : Reps g (v :: vs) (x :: xs)
/-- Elements of so many cells. -/
inductive RepE (g : Gh) : Nat → List Value → List AV → Prop
  | nil (sz : Nat) : RepE g sz [] []
  | cons (sz : Nat) (c : List Value) (x : AV) (vs : List Value) (xs : List AV) (hl : c.length = sz) (h1 : AllOne c) (h : Reps g c x.cells) (hs : RepE g sz vs xs) : RepE g sz (c ++ vs) (x :: xs)
end

/-- More is known. -/
structure Le (g g' : Gh) : Prop where
  row : ∀ b t s z n cs, g.blk b = some (.row t s z n cs) → ∃ cs', g'.blk b = some (.row t s z n cs') ∧ cs <+: cs'
  stat : ∀ b cs, g.blk b = some (.stat cs) → g'.blk b = some (.stat cs)
  obj : ∀ b o n, g.blk b = some (.obj o n) → LiveA g' b o n
  dead : ∀ o, g.dead o → g'.dead o

theorem Le.refl (g : Gh) : Le g g := ⟨fun _ _ _ _ _ cs h => ⟨cs, h, List.prefix_rfl⟩, fun _ _ h => h, fun _ _ n h => .inr ⟨n, h, Nat.le_refl n⟩, fun _ h => h⟩
theorem LiveA.mono {g g' : Gh} {b o n : Nat} (hl : Le g g') (h : LiveA g b o n) : LiveA g' b o n := by
  rcases h with h | ⟨tot, h, hn⟩
  · exact .inl (hl.dead o h)
  · rcases hl.obj b o tot h with h | ⟨tot', h, hn'⟩
    · exact .inl h
    · exact .inr ⟨tot', h, by omega⟩
theorem Live.mono {g g' : Gh} {b o : Nat} (hl : Le g g') (h : Live g b o) : Live g' b o := LiveA.mono hl h
theorem LiveA.live {g : Gh} {b o n : Nat} (h : LiveA g b o n) : Live g b o := h.imp id fun ⟨t, h, _⟩ => ⟨t, h, Nat.zero_le _⟩
theorem Le.trans {g g1 g2 : Gh} (h : Le g g1) (h' : Le g1 g2) : Le g g2 where
  row b t s z n cs hb := by
    obtain ⟨cs1, h1, p1⟩ := h.row b t s z n cs hb
    obtain ⟨cs2, h2, p2⟩ := h'.row b t s z n cs1 h1
    exact ⟨cs2, h2, p1.trans p2⟩
  stat b cs hb := h'.stat b cs (h.stat b cs hb)
  obj b o n hb := (h.obj b o n hb).mono h'
  dead o hd := h'.dead o (h.dead o hd)
theorem List.IsPrefix.drop' {α : Type} {a b : List α} (h : a <+: b) (n : Nat) : a.drop n <+: b.drop n := by
  obtain ⟨t, rfl⟩ := h
  rw [List.drop_append]
  exact ⟨_, rfl⟩
theorem Imm.mono {g g' : Gh} {b o : Nat} {vs : List Value} (hl : Le g g') (h : Imm g b o vs) : Imm g' b o vs := by
  rcases h with h | ⟨x, cs, hb, hx, hp⟩
  · exact .inl h
  · cases x with
    | row t s z n c =>
      injection hx with hx; subst hx
      obtain ⟨cs', h1, p1⟩ := hl.row _ _ _ _ _ _ hb
      exact .inr ⟨_, cs', h1, rfl, hp.trans (List.IsPrefix.drop' p1 o)⟩
    | stat c =>
      injection hx with hx; subst hx
      exact .inr ⟨_, _, hl.stat _ _ hb, rfl, hp⟩
    | obj _ _ => cases hx

mutual
theorem Rep.mono {g g' : Gh} (hl : Le g g') : ∀ {v : Value} {x : AV}, Rep g v x → Rep g' v x
  | _, _, .bool b => .bool b
  | _, _, .int k n => .int k n
  | _, _, .str s => .str s
  | _, _, .nilptr => .nilptr
  | _, _, .ptr b off o h => .ptr b off o (h.mono hl)
  | _, _, .rptr b o vs cs h h1 hr => .rptr b o vs cs (h.mono hl) h1 (Reps.mono hl hr)
  | _, _, .nils => .nils
  | _, _, .row b o n c sz tok cap xs vs hi he hn hc hz hcap ht => .row b o n c sz tok cap xs vs (hi.mono hl) (RepE.mono hl he) hn hc hz hcap (fun t off e => (ht t off e).imp id fun ⟨s, tot, cs, h1, h2, h3, h4, h5⟩ => by
      obtain ⟨cs', h6, h7⟩ := hl.row _ _ _ _ _ _ h1
      exact ⟨s, tot, cs', h6, h2, h3, Nat.le_trans h4 h7.length_le, h5⟩)
  | _, _, .arr b off o len c sz cap h hc hz hcap => .arr b off o len c sz cap (h.mono hl) hc hz hcap
  | _, _, .nilmap => .nilmap
  | _, _, .map b o h => .map b o (h.mono hl)
  | _, _, .func fn a b x y hf ha hb => .func fn a b x y hf (Reps.mono hl ha) (Reps.mono hl hb)
  | _, _, .yield b o h => .yield b o (h.mono hl)
  | _, _, .nilFunc => .nilFunc
  | _, _, .iface t v x h => .iface t v x (Rep.mono hl h)
  | _, _, .nilIface => .nilIface
  | _, _, .agg cs xs h1 h => .agg cs xs h1 (Reps.mono hl h)
  | _, _, .tuple cs xs h => .tuple cs xs (Reps.mono hl h)
  | _, _, .uptr b t tot cs vs xs hb hv he => by
    obtain ⟨cs', h6, h7⟩ := hl.row _ _ _ _ _ _ hb
    exact .uptr b t tot cs' vs xs h6 (hv.trans h7) (RepE.mono hl he)
  | _, _, .junk v => .junk v
theorem Reps.mono {g g' : Gh} (hl : Le g g') : ∀ {v : List Value} {x : List AV}, Reps g v x → Reps g' v x
  | _, _, .nil => .nil
  | _, _, .cons v x vs xs h hs => .cons v x vs xs (Rep.mono hl h) (Reps.mono hl hs)
theorem RepE.mono {g g' : Gh} (hl : Le g g') : ∀ {sz : Nat} {v : List Value} {x : List AV}, RepE g sz v x → RepE g' sz v x
  | _, _, _, .nil sz => .nil sz
  | _, _, _, .cons sz c x vs xs hl' h1 h hs => .cons sz c x vs xs hl' h1 (Reps.mono hl h) (RepE.mono hl hs)
end
end Go.Sim
