/- Tables: how all functions of a program are read. -/
import Derived.Test.YtnplidplamoejaaGreatDoorSimFb
set_option linter.unusedVariables false
set_option linter.unusedSimpArgs false
set_option linter.unnecessarySimpa false
namespace Go.Sim

section
variable {α : Type}
noncomputable def mkTr (l : List (Nat × α)) : Tr α := l.foldl (fun t p => t.set p.1 p.2) .e
theorem mkTr_get {l : List (Nat × α)} {k : Nat} {v : α} (hl : ∀ p ∈ l, p.1 < 8000) (h : (mkTr l).get k = some v) : (k, v) ∈ l := by
  have key : ∀ (l : List (Nat × α)) (t : Tr α), (∀ p ∈ l, p.1 < 8000) → (l.foldl (fun t p => t.set p.1 p.2) t).get k = some v → (k, v) ∈ l ∨ t.get k = some v := by
    intro l
    induction l with
    | nil => intro t _ h; exact .inr h
    | cons p l ih =>
      intro t hl h
      rcases ih (t.set p.1 p.2) (fun q hq => hl q (List.mem_cons_of_mem _ hq)) h with h1 | h1
      · exact .inl (List.mem_cons_of_mem _ h1)
      · rcases Tr.get_set (hl p List.mem_cons_self) h1 with ⟨h2, h3⟩ | ⟨_, h2⟩
        · exact .inl (by rw [h2, h3]; exact List.mem_cons_self)
        · exact .inr h2
  rcases key l .e hl h with h | h
  · exact h
  · cases h
end
/-- One row of the table: boxes; kinds of single operations; kinds in drawn regions. -/
structure FRow where
  base : List (Nat × Nat)
  mode : List (Nat × List (Nat × Nat))
  labs : List (Nat × List Nat)
noncomputable def FRow.ann (r : FRow) : FAnn where
  base := (mkTr r.base).get
  subs b := (r.base.filter (fun p => p.2 == b)).map (·.1)
  mode rid i := match (mkTr r.mode).get rid with
    | some l => (match l.lookup i with
      | some m => m
      | none => 0)
    | none => 0
  labs := (mkTr r.labs).get
def FRow.ok (r : FRow) : Bool := r.base.all fun p => Nat.blt p.1 8000 && (Nat.blt p.2 8000 && (r.base.contains (p.2, p.2) && r.base.all fun q => q.1 != p.2 || q.2 == p.2))
theorem FRow.ok_ok {r : FRow} (h : r.ok = true) : r.ann.Ok := by
  simp only [FRow.ok, List.all_eq_true, Bool.and_eq_true] at h
  have low : ∀ p ∈ r.base, p.1 < 8000 := fun p hp => Nat.le_of_ble_eq_true (h p hp).1
  have mem : ∀ {t b}, r.ann.base t = some b → (t, b) ∈ r.base := fun hb => mkTr_get low hb
  have get_some : ∀ (l : List (Nat × Nat)) (t : Tr Nat) (k : Nat), (∀ p ∈ l, p.1 < 8000) → ((∃ v, (k, v) ∈ l) ∨ (∃ v, t.get k = some v)) → ∃ v, (l.foldl (fun t p => t.set p.1 p.2) t).get k = some v := by
    intro l
    induction l with
    | nil => intro t k _ h; rcases h with ⟨v, h⟩ | h
             · cases h
             · exact h
    | cons p l ih =>
      intro t k hl h
      refine ih (t.set p.1 p.2) k (fun q hq => hl q (List.mem_cons_of_mem _ hq)) ?_
      by_cases hk : k = p.1
      · refine .inr ⟨p.2, ?_⟩
        rw [Tr.set, Tr.get_put_if _ _ (hl p List.mem_cons_self), if_pos hk]
      · rcases h with ⟨v, h⟩ | ⟨v, h⟩
        · rcases List.mem_cons.1 h with h | h
          · exact absurd (congrArg Prod.fst h) hk
          · exact .inl ⟨v, h⟩
        · refine .inr ⟨v, ?_⟩
          rw [Tr.set, Tr.get_put_if _ _ (hl p List.mem_cons_self), if_neg hk]; exact h
  refine ⟨fun t b hb => ?_, fun t b hb => ?_, fun b k hk => ?_⟩
  · have hm := mem hb
    obtain ⟨_, _, h3, h4⟩ := h _ hm
    have h3 : (b, b) ∈ r.base := by simpa using h3
    obtain ⟨v, hv⟩ := get_some r.base .e b low (.inl ⟨b, h3⟩)
    have hv' := mem (show r.ann.base b = some v from hv)
    have := h4 _ hv'
    simp only [bne_self_eq_false, Bool.false_or, beq_iff_eq] at this
    have hv2 : r.ann.base b = some v := hv
    rw [this] at hv2; exact hv2
  · refine .inr ?_
    have := mem hb
    simp only [FRow.ann, List.mem_map, List.mem_filter]
    exact ⟨(t, b), ⟨this, by simp⟩, rfl⟩
  · simp only [FRow.ann, List.mem_map, List.mem_filter] at hk
    obtain ⟨p, ⟨hp, _⟩, rfl⟩ := hk
    exact low p hp
/-- Nothing told. -/
def FRow.none : FRow := ⟨[], [], []⟩
noncomputable def rows (t : Tr FRow) (f : Nat) : FRow := match t.get f with
  | some r => r
  | .none => FRow.none
theorem rows_ok {l : List (Nat × FRow)} (hl : l.all (fun p => Nat.blt p.1 8000 && p.2.ok) = true) (f : Nat) : (rows (mkTr l) f).ann.Ok := by
  simp only [List.all_eq_true, Bool.and_eq_true] at hl
  unfold rows
  split
  · rename_i r hr
    exact FRow.ok_ok (hl _ (mkTr_get (fun p hp => Nat.le_of_ble_eq_true (hl p hp).1) hr)).2
  · exact FRow.ok_ok rfl
end Go.Sim
