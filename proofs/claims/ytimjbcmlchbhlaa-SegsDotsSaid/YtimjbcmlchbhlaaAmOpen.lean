/-
  The abstract store logic: how a row's start becomes an abstract store, and what a law's call leaves.
-/
import Derived.Test.YtimjbcmlchbhlaaAmRow2
import Derived.ProofKit
import Derived.SliceStrings
set_option linter.unusedVariables false
set_option linter.unusedSimpArgs false
namespace Go.AM
open Go Go.RowKit
/-- A store that only reads the start's world. -/
structure Rd (W : World) (ι : Inj) (σ : AStore) : Prop where
  rel : SRel W ι σ W
  own : ∀ b o, σ.get b = some o → o.own = false
def σ0 : AStore := ⟨0, fun _ => none, fun _ _ h => by simp at h⟩
theorem Rd.start (W : World) : Rd W (fun _ => none) σ0 where
  rel := ⟨Below.refl _ _, fun _ _ _ h => by simp [σ0] at h, fun _ _ h => by simp [σ0] at h, fun _ _ h => by simp at h, fun _ _ _ _ _ _ h => by simp [σ0] at h⟩
  own := fun _ _ h => by simp [σ0] at h
/-- A run of cells that are only read, as an object. -/
theorem Rd.lay {W : World} {ι : Inj} {σ : AStore} (h : Rd W ι σ) (blk off : Nat) (cells : List Value) (e : TypeId) (hb : blk < W.heap.size)
    (hc : ∀ j v, cells[j]? = some v → ∃ v', W.cell? ⟨blk, off + j, none⟩ = some v' ∧ VRel ι v v') :
    ∃ ι', Le ι ι' ∧ Rd W ι' (σ.alloc ⟨cells, e, 0, false⟩) ∧ ι' σ.next = some ⟨blk, off, 0, 0⟩ := by
  have hnone : ι σ.next = none := by
    cases hx : ι σ.next with
    | none => rfl
    | some l => have := (h.rel.bnd _ _ hx).1; omega
  have hle : Le ι (fun b => if b = σ.next then some ⟨blk, off, 0, 0⟩ else ι b) := by
    intro b l hl
    show (if b = σ.next then _ else _) = _
    rw [if_neg (by intro e; subst e; rw [hnone] at hl; simp at hl)]
    exact hl
  have hg : ∀ b o, (σ.alloc ⟨cells, e, 0, false⟩).get b = some o → (b = σ.next ∧ o = ⟨cells, e, 0, false⟩) ∨ (b ≠ σ.next ∧ σ.get b = some o) := by
    intro b o hb
    by_cases hx : b = σ.next
    · subst hx; rw [get_alloc_self] at hb; injection hb with hb; exact .inl ⟨rfl, hb.symm⟩
    · rw [get_alloc_ne _ _ _ hx] at hb; exact .inr ⟨hx, hb⟩
  have hown : ∀ b o, (σ.alloc ⟨cells, e, 0, false⟩).get b = some o → o.own = false := by
    intro b o hb
    rcases hg b o hb with ⟨_, rfl⟩ | ⟨_, hb⟩
    · rfl
    · exact h.own b o hb
  refine ⟨_, hle, ⟨⟨h.rel.below, ?_, ?_, ?_, ?_⟩, hown⟩, by simp⟩
  · intro b o l hb ho _
    rw [hown b o hb] at ho
    simp at ho
  · intro b o hb'
    rcases hg b o hb' with ⟨rfl, rfl⟩ | ⟨hne, hb'⟩
    · refine ⟨⟨blk, off, 0, 0⟩, by simp, ⟨?_, rfl, fun ho => by simp at ho⟩⟩
      intro j v hj
      obtain ⟨v', h1, h2⟩ := hc j v hj
      exact ⟨v', h1, h2.mono hle⟩
    · obtain ⟨l, h1, h2⟩ := h.rel.obj b o hb'
      refine ⟨l, hle b l h1, ⟨?_, h2.esz, fun ho => by rw [h.own b o hb'] at ho; simp at ho⟩⟩
      intro j v hj
      obtain ⟨v', h3, h4⟩ := h2.cells j v hj
      exact ⟨v', h3, h4.mono hle⟩
  · intro b l hl
    show b < σ.next + 1 ∧ _
    by_cases hx : b = σ.next
    · simp only [hx, if_true] at hl; injection hl with hl; subst hl; exact ⟨by omega, hb⟩
    · simp only [hx, if_false] at hl; have := h.rel.bnd b l hl; exact ⟨by omega, this.2⟩
  · intro b o b' o' l l' hb _ ho
    rw [hown b o hb] at ho
    simp at ho
def bl (s : ByteArray) : List UInt8 := s.data.toList
theorem B_bl (s : ByteArray) : B (bl s) = s := by cases s; simp [B, bl]
/-- A slice of texts, opened. -/
theorem Rd.strings {W : World} {ι : Inj} {σ : AStore} (h : Rd W ι σ) (e : TypeId) (a : Addr) (len cap : Nat) (ss : List ByteArray) (hl : len ≤ cap) (hz : ss.length = cap) (hcell : ∀ i, i < ss.length → W.cell? (a.add i) = some (.string (ss.getD i ByteArray.empty))) :
    ∃ ι' σ' v, Le ι ι' ∧ Rd W ι' σ' ∧ Same σ σ' [] ∧ VRel ι' v (.slice (some a) len cap) ∧ Row σ' 1 v (strs ((ss.take len).map bl)) := by
  by_cases h0 : cap = 0
  · have : len = 0 := by omega
    subst this; subst h0
    exact ⟨ι, σ, .slice (some a) 0 0, .refl _, h, .refl _ _, .slice0 a a 0 (.inr rfl), by simpa [strs] using Row.empty a 0⟩
  · have hc0 := hcell 0 (by omega)
    have hadd0 : a.add 0 = a := by simp [Addr.add]
    rw [hadd0] at hc0
    obtain ⟨blk, off, spot⟩ := a
    have hspot : spot = none := by
      unfold World.cell? at hc0
      cases spot with
      | none => rfl
      | some q => split at hc0 <;> simp at hc0
    subst hspot
    have hblk : blk < W.heap.size := by
      unfold World.cell? at hc0
      rcases Nat.lt_or_ge blk W.heap.size with hlt | hge
      · exact hlt
      · rw [Array.getElem?_eq_none hge] at hc0; simp at hc0
    obtain ⟨ι', h1, h2, h3⟩ := h.lay blk off (ss.map .string) e hblk (by
      intro j v hj
      rw [List.getElem?_map] at hj
      have hlt : j < ss.length := by
        rcases Nat.lt_or_ge j ss.length with h | h
        · exact h
        · rw [List.getElem?_eq_none h] at hj; simp at hj
      have := hcell j hlt
      rw [add_spot] at this
      rw [List.getElem?_eq_getElem hlt] at hj
      rw [List.getD_eq_getElem?_getD, List.getElem?_eq_getElem hlt] at this
      simp at hj this
      subst hj
      exact ⟨_, this, .string _⟩)
    refine ⟨ι', _, .slice (some ⟨σ.next, 0, none⟩) len cap, h1, h2, .alloc _ _ _, ?_, ?_⟩
    · exact VRel.slice σ.next 0 _ len cap cap h3 hl (.inr rfl) (.inl rfl)
    · refine .mk σ.next 0 len cap _ _ (get_alloc_self _ _) (.inl rfl) ?_ ?_
      · simp; omega
      · simp only [List.drop_zero, Nat.mul_one, strs, List.map_map, ← List.map_take]
        congr 1
/-- What a law's call leaves. -/
theorem law_walk {P : Program} {W : World} {ι : Inj} {σ : AStore} {f : FuncId} {args args' : List Value} (h : Rd W ι σ) (ha : LRel ι args args') (hc : ACalls P W f args σ (fun r σ' => r = .bool true ∧ Same σ σ' [])) :
    Calls P f args'.toArray W fun e w' => e = .returned (.bool true) ∧ Below W.heap.size W w' := by
  unfold ACalls at hc
  refine (hc ι args' W ha h.rel).mono ?_
  rintro e w' ⟨v', rfl, ι', v, σ', h1, h2, h3, rfl, _⟩
  rw [h2.of_flat rfl]
  exact ⟨rfl, h3.below⟩
theorem LRel.two {ι : Inj} {a a' b b' : Value} (h : VRel ι a a') (h' : VRel ι b b') : LRel ι [a, b] [a', b'] := .cons _ _ _ _ h (.cons _ _ _ _ h' .nil)
end Go.AM
