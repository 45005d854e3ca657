/-
  The abstract store logic: operations that read, make and write memory.
-/
import Derived.Test.YtimjbcmlchbhlaaAmOps
set_option linter.unusedVariables false
set_option linter.unusedSimpArgs false
namespace Go.AM
open Go Go.RowKit

/-! ### 1. The store's own laws -/
def AStore.alloc (σ : AStore) (o : AObj) : AStore where
  next := σ.next + 1
  get := fun b => if b = σ.next then some o else σ.get b
  wf := fun b x h => by
    by_cases hb : b = σ.next
    · omega
    · rw [if_neg hb] at h; have := σ.wf b x h; omega
def AStore.set (σ : AStore) (b : Nat) (o : AObj) : AStore where
  next := σ.next
  get := fun x => if x = b ∧ b < σ.next then some o else σ.get x
  wf := fun x y h => by
    by_cases hb : x = b ∧ b < σ.next
    · omega
    · rw [if_neg hb] at h; exact σ.wf x y h
def AStore.del (σ : AStore) (b : Nat) : AStore where
  next := σ.next
  get := fun x => if x = b then none else σ.get x
  wf := fun x y h => by
    by_cases hb : x = b
    · rw [if_pos hb] at h; simp at h
    · rw [if_neg hb] at h; exact σ.wf x y h
section
variable (σ : AStore) (b b' : Nat) (o : AObj)
theorem next_alloc : (σ.alloc o).next = σ.next + 1 := rfl
theorem next_set : (σ.set b o).next = σ.next := rfl
theorem next_del : (σ.del b).next = σ.next := rfl
theorem get_alloc_self : (σ.alloc o).get σ.next = some o := by simp [AStore.alloc]
theorem get_alloc_ne (h : b ≠ σ.next) : (σ.alloc o).get b = σ.get b := by simp [AStore.alloc, h]
theorem get_set_self (h : b < σ.next) : (σ.set b o).get b = some o := by simp [AStore.set, h]
theorem get_set_ne (h : b' ≠ b) : (σ.set b o).get b' = σ.get b' := by simp [AStore.set, h]
theorem get_del_ne (h : b' ≠ b) : (σ.del b).get b' = σ.get b' := by simp [AStore.del, h]
end

/-- Behind a piece of a run what is not named is as it was. -/
structure Same (σ σ' : AStore) (ex : List Nat) : Prop where
  next : σ.next ≤ σ'.next
  get : ∀ b, b < σ.next → b ∉ ex → σ'.get b = σ.get b
theorem Same.refl (σ : AStore) (ex : List Nat) : Same σ σ ex := ⟨Nat.le_refl _, fun _ _ _ => rfl⟩
theorem Same.trans {a b c : AStore} {ex : List Nat} (h : Same a b ex) (k : Same b c ex) : Same a c ex :=
  ⟨Nat.le_trans h.next k.next, fun x hx hn => (k.get x (Nat.lt_of_lt_of_le hx h.next) hn).trans (h.get x hx hn)⟩
theorem Same.mono {a b : AStore} {ex ex' : List Nat} (h : Same a b ex) (hs : ∀ x, x ∈ ex → x ∈ ex') : Same a b ex' := ⟨h.next, fun x hx hn => h.get x hx fun hm => hn (hs x hm)⟩
theorem Same.alloc (σ : AStore) (o : AObj) (ex : List Nat) : Same σ (σ.alloc o) ex := ⟨by rw [next_alloc]; omega, fun b hb _ => get_alloc_ne _ _ _ (by omega)⟩
theorem Same.set (σ : AStore) (b : Nat) (o : AObj) (ex : List Nat) (h : b ∈ ex) : Same σ (σ.set b o) ex := ⟨Nat.le_refl _, fun x hx hn => get_set_ne _ _ _ _ (fun e => hn (e ▸ h))⟩
theorem Same.del (σ : AStore) (b : Nat) (ex : List Nat) (h : b ∈ ex) : Same σ (σ.del b) ex := ⟨Nat.le_refl _, fun x hx hn => get_del_ne _ _ _ (fun e => hn (e ▸ h))⟩
/-- What has been made behind a store is no part of it. -/
theorem Same.new {a b c : AStore} {ex ex' : List Nat} (h : Same a b ex) (k : Same b c ex') (hn : ∀ x, x ∈ ex' → x ∈ ex ∨ a.next ≤ x) : Same a c ex :=
  ⟨Nat.le_trans h.next k.next, fun x hx hx' => (k.get x (Nat.lt_of_lt_of_le hx h.next) (fun hm => by rcases hn x hm with h1 | h1; exact hx' h1; omega)).trans (h.get x hx hx')⟩

theorem heap_alloc_self (w : World) (o : Obj) : (w.alloc o).heap[w.heap.size]? = some o := by
  show (w.heap.push o)[w.heap.size]? = some o
  simp
theorem ORel.keep {ι ι' : Inj} {w w' : World} {o : AObj} {l : Loc} (h : ORel ι w o l) (hi : Le ι ι') (hb : w'.heap[l.blk]? = w.heap[l.blk]?) : ORel ι' w' o l where
  cells := fun j v hj => by
    obtain ⟨v', h1, h2⟩ := h.cells j v hj
    refine ⟨v', ?_, h2.mono hi⟩
    rw [← h1]
    unfold World.cell?
    simp only [hb]
  esz := h.esz
  own := fun ho => by
    obtain ⟨h0, c, fr, h1, h2⟩ := h.own ho
    exact ⟨h0, c, fr, by rw [hb]; exact h1, h2⟩

/-- A new object. -/
theorem SRel.alloc {C : World} {ι : Inj} {σ : AStore} {w : World} (h : SRel C ι σ w) (w' : World) (cs : Array Value) (o : AObj) (total : Nat) (fr : Nat × Nat) (hfr : ∀ j, j < cs.size → ¬ (fr.1 ≤ j ∧ j < fr.2))
    (hw : w'.heap[w.heap.size]? = some (.cells cs o.elem fr)) (hold : ∀ k, k < w.heap.size → w'.heap[k]? = w.heap[k]?) (hsz : w'.heap.size = w.heap.size + 1) (henv : w'.os = w.os ∧ w'.tape = w.tape ∧ w'.output = w.output)
    (hc : LRel ι o.cells (cs.toList.take o.cells.length)) (ht : total = cs.size) :
    let l : Loc := ⟨w.heap.size, 0, total, o.esz⟩
    let ι' : Inj := fun b => if b = σ.next then some l else ι b
    Ext ι σ w ι' (σ.alloc o) w' ∧ SRel C ι' (σ.alloc o) w' ∧ ι' σ.next = some l := by
  intro l ι'
  have hfresh : ι σ.next = none := by
    cases hx : ι σ.next with
    | none => rfl
    | some l => have := (h.bnd _ _ hx).1; omega
  have hle : Le ι ι' := by
    intro b x hb
    have : b ≠ σ.next := by intro e; subst e; rw [hfresh] at hb; simp at hb
    simp only [ι', if_neg this]; exact hb
  have hself : ι' σ.next = some l := by simp [ι']
  have hback : ∀ b x, ι' b = some x → (b = σ.next ∧ x = l) ∨ (b ≠ σ.next ∧ ι b = some x) := by
    intro b x hb
    by_cases e : b = σ.next
    · subst e; rw [hself] at hb; injection hb with hb; exact .inl ⟨rfl, hb.symm⟩
    · simp only [ι', if_neg e] at hb; exact .inr ⟨e, hb⟩
  have hlen : o.cells.length ≤ cs.size := by
    have := hc.length
    simp at this
    omega
  have hE : Ext ι σ w ι' (σ.alloc o) w' := by
    refine ⟨hle, by rw [next_alloc]; omega, by omega, fun k hk _ => hold k hk, ?_, henv⟩
    intro b x l1 hb ho hl hlt
    rcases hback b l1 hl with ⟨rfl, rfl⟩ | ⟨hne, hl'⟩
    · simp [l] at hlt
    · rw [get_alloc_ne _ _ _ hne] at hb
      exact ⟨b, x, l1, hb, ho, hl', rfl⟩
  refine ⟨hE, ⟨?_, ?_, ?_, ?_, ?_⟩, hself⟩
  · exact h.below.trans ⟨henv.1, henv.2.1, henv.2.2, by omega, fun k hk => hold k (by have := h.below.size; omega)⟩
  · intro b x l1 hb ho hl
    rcases hback b l1 hl with ⟨rfl, rfl⟩ | ⟨hne, hl'⟩
    · exact h.below.size
    · rw [get_alloc_ne _ _ _ hne] at hb
      exact h.low b x l1 hb ho hl'
  · intro b x hb
    by_cases e : b = σ.next
    · subst e
      rw [get_alloc_self] at hb
      injection hb with hb
      subst hb
      refine ⟨l, hself, ⟨?_, rfl, fun _ => ⟨rfl, cs, fr, hw, ht, hlen, hfr⟩⟩⟩
      intro j v hj
      obtain ⟨v', h1, h2⟩ := hc.get j v hj
      refine ⟨v', ?_, h2.mono hle⟩
      have hjl : j < o.cells.length := (List.getElem?_eq_some_iff.1 hj).1
      rw [List.getElem?_take, if_pos hjl] at h1
      simp only [World.cell?, l, hw, Nat.zero_add]
      simpa using h1
    · rw [get_alloc_ne _ _ _ e] at hb
      obtain ⟨l1, hl, ho⟩ := h.obj b x hb
      exact ⟨l1, hle b l1 hl, ho.keep hle (hold _ (h.bnd b l1 hl).2)⟩
  · intro b x hb
    rcases hback b x hb with ⟨rfl, rfl⟩ | ⟨hne, hl'⟩
    · exact ⟨by rw [next_alloc]; omega, by simp [l]; omega⟩
    · have := h.bnd b x hl'
      exact ⟨by rw [next_alloc]; omega, by omega⟩
  · intro b x b2 x2 l1 l2 hb hb2 ho hne hl hl2
    rcases hback b l1 hl with ⟨rfl, rfl⟩ | ⟨hne1, hl1⟩ <;> rcases hback b2 l2 hl2 with ⟨rfl, rfl⟩ | ⟨hne2, hl2'⟩
    · exact absurd rfl hne
    · have := (h.bnd b2 l2 hl2').2; simp [l]; omega
    · have := (h.bnd b l1 hl1).2; simp [l]; omega
    · rw [get_alloc_ne _ _ _ hne1] at hb
      rw [get_alloc_ne _ _ _ hne2] at hb2
      exact h.sep b x b2 x2 l1 l2 hb hb2 ho hne hl1 hl2'

/-- A cell of an owned object is written. -/
theorem SRel.store {C : World} {ι : Inj} {σ : AStore} {w : World} (h : SRel C ι σ w) {b j : Nat} {o : AObj} {l : Loc} {v v' : Value} (hb : σ.get b = some o) (ho : o.own = true) (hl : ι b = some l) (hj : j < o.cells.length) (hv : VRel ι v v') :
    (∃ u, w.cell? ⟨l.blk, l.off + j, none⟩ = some u) ∧ w.frozen? ⟨l.blk, l.off + j, none⟩ = false ∧
    Ext ι σ w ι (σ.set b { o with cells := o.cells.set j v }) (w.setCell ⟨l.blk, l.off + j, none⟩ v') ∧ SRel C ι (σ.set b { o with cells := o.cells.set j v }) (w.setCell ⟨l.blk, l.off + j, none⟩ v') := by
  obtain ⟨l0, hl0, hO⟩ := h.obj b o hb
  rw [hl] at hl0
  injection hl0 with hl0
  subst hl0
  obtain ⟨hoff, c, fr, hw, htot, hlen, hfr⟩ := hO.own ho
  have hlt : b < σ.next := σ.wf b o hb
  have hcell : w.cell? ⟨l.blk, l.off + j, none⟩ = some (c[j]'(by omega)) := by
    simp only [World.cell?, hw, hoff, Nat.zero_add]
    simp [show j < c.size by omega]
  have hheap : ∀ k, k ≠ l.blk → (w.setCell ⟨l.blk, l.off + j, none⟩ v').heap[k]? = w.heap[k]? := fun k hk => Below.heap_setCell w _ _ k hk
  have hnew : (w.setCell ⟨l.blk, l.off + j, none⟩ v').heap[l.blk]? = some (.cells (c.setIfInBounds j v') o.elem fr) := by
    simp [World.setCell, Array.getElem?_modify, hw, hoff]
  have hothers : ∀ b2 o2 l2, σ.get b2 = some o2 → b2 ≠ b → ι b2 = some l2 → l2.blk ≠ l.blk := fun b2 o2 l2 h2 hne hl2 e => h.sep b o b2 o2 l l2 hb h2 ho (Ne.symm hne) hl hl2 e.symm
  refine ⟨⟨_, hcell⟩, ?_, ?_, ?_⟩
  · simp only [World.frozen?, hw, hoff, Nat.zero_add]
    have := hfr j (by omega)
    simpa using this
  · refine ⟨.refl _, Nat.le_refl _, by simp [World.setCell], ?_, ?_, rfl, rfl, rfl⟩
    · intro k hk hn
      exact hheap k (fun e => hn b o l hb ho hl e.symm)
    · intro b2 o2 l2 h2 ho2 hl2 _
      by_cases e : b2 = b
      · subst e
        rw [hl] at hl2; injection hl2 with hl2; subst hl2
        exact ⟨b2, o, l, hb, ho, hl, rfl⟩
      · rw [get_set_ne _ _ _ _ e] at h2
        exact ⟨b2, o2, l2, h2, ho2, hl2, rfl⟩
  · refine ⟨?_, ?_, ?_, ?_, ?_⟩
    · exact h.below.setCell (h.low b o l hb ho hl) _
    · intro b2 o2 l2 h2 ho2 hl2
      by_cases e : b2 = b
      · subst e
        rw [hl] at hl2; injection hl2 with hl2; subst hl2
        exact h.low b2 o l hb ho hl
      · rw [get_set_ne _ _ _ _ e] at h2
        exact h.low b2 o2 l2 h2 ho2 hl2
    · intro b2 o2 h2
      by_cases e : b2 = b
      · subst e
        rw [get_set_self _ _ _ hlt] at h2
        injection h2 with h2
        subst h2
        refine ⟨l, hl, ⟨?_, hO.esz, fun _ => ⟨hoff, c.setIfInBounds j v', fr, hnew, by simpa using htot, by simpa using hlen, fun q hq => hfr q (by simpa using hq)⟩⟩⟩
        intro q x hq
        simp only [List.getElem?_set] at hq
        have hc2 : (w.setCell ⟨l.blk, l.off + j, none⟩ v').cell? ⟨l.blk, l.off + q, none⟩ = (c.setIfInBounds j v')[q]? := by
          unfold World.cell?
          simp only [hnew]
          simp [hoff]
        rw [hc2]
        by_cases hqj : j = q
        · subst hqj
          rw [if_pos rfl, if_pos hj] at hq
          injection hq with hq
          subst hq
          exact ⟨v', by simp [show j < c.size by omega], hv⟩
        · rw [if_neg hqj] at hq
          obtain ⟨x', h3, h4⟩ := hO.cells q x hq
          simp only [World.cell?, hw, hoff, Nat.zero_add, Option.isSome_none, Bool.false_eq_true, if_false] at h3
          exact ⟨x', by rw [Array.getElem?_setIfInBounds_ne hqj]; exact h3, h4⟩
      · rw [get_set_ne _ _ _ _ e] at h2
        obtain ⟨l2, hl2, ho2⟩ := h.obj b2 o2 h2
        exact ⟨l2, hl2, ho2.keep (.refl _) (hheap _ (hothers b2 o2 l2 h2 e hl2))⟩
    · intro b2 l2 hl2
      have := h.bnd b2 l2 hl2
      exact ⟨this.1, by simpa [World.setCell] using this.2⟩
    · intro b2 o2 b3 o3 l2 l3 h2 h3 ho2 hne hl2 hl3
      by_cases e : b2 = b
      · subst e
        have e3 : b3 ≠ b2 := Ne.symm hne
        rw [get_set_ne _ _ _ _ e3] at h3
        exact h.sep b2 o b3 o3 l2 l3 hb h3 ho hne hl2 hl3
      · rw [get_set_ne _ _ _ _ e] at h2
        by_cases e3 : b3 = b
        · subst e3
          exact h.sep b2 o2 b3 o l2 l3 h2 hb ho2 hne hl2 hl3
        · rw [get_set_ne _ _ _ _ e3] at h3
          exact h.sep b2 o2 b3 o3 l2 l3 h2 h3 ho2 hne hl2 hl3
/-- Less is known of the store. -/
theorem SRel.del {C : World} {ι : Inj} {σ : AStore} {w : World} (h : SRel C ι σ w) (b : Nat) : SRel C ι (σ.del b) w := by
  have hg : ∀ x o, (σ.del b).get x = some o → σ.get x = some o := by
    intro x o hx
    by_cases e : x = b
    · subst e; simp [AStore.del] at hx
    · rwa [get_del_ne _ _ _ e] at hx
  exact ⟨h.below, fun x o l h1 h2 h3 => h.low x o l (hg x o h1) h2 h3, fun x o h1 => h.obj x o (hg x o h1), h.bnd, fun x o y p l m h1 h2 h3 h4 h5 h6 => h.sep x o y p l m (hg x o h1) (hg y p h2) h3 h4 h5 h6⟩
theorem Ext.del {ι : Inj} {σ : AStore} {w : World} (b : Nat) : Ext ι σ w ι (σ.del b) w := by
  refine ⟨.refl _, Nat.le_refl _, Nat.le_refl _, fun _ _ _ => rfl, ?_, rfl, rfl, rfl⟩
  intro x o l hx ho hl _
  by_cases e : x = b
  · subst e; simp [AStore.del] at hx
  · rw [get_del_ne _ _ _ e] at hx; exact ⟨x, o, l, hx, ho, hl, rfl⟩

theorem AStore.ext' {a b : AStore} (h1 : a.next = b.next) (h2 : ∀ x, a.get x = b.get x) : a = b := by
  cases a; cases b
  simp only at h1 h2
  subst h1
  have := funext h2
  subst this
  rfl
theorem set_set (σ : AStore) (b : Nat) (o o' : AObj) : (σ.set b o).set b o' = σ.set b o' := by
  refine AStore.ext' rfl fun x => ?_
  show (if x = b ∧ b < (σ.set b o).next then some o' else (σ.set b o).get x) = if x = b ∧ b < σ.next then some o' else σ.get x
  rw [next_set]
  by_cases h : x = b ∧ b < σ.next
  · rw [if_pos h, if_pos h]
  · rw [if_neg h, if_neg h]
    show (if x = b ∧ b < σ.next then some o else σ.get x) = _
    rw [if_neg h]
theorem set_same {σ : AStore} {b : Nat} {o : AObj} (h : σ.get b = some o) : σ.set b o = σ := by
  refine AStore.ext' rfl fun x => ?_
  show (if x = b ∧ b < σ.next then some o else σ.get x) = σ.get x
  by_cases hx : x = b ∧ b < σ.next
  · rw [if_pos hx, hx.1, h]
  · rw [if_neg hx]

/-! ### 2. Loads and stores -/
def setMany : List Value → Nat → List Value → List Value
  | l, _, [] => l
  | l, i, v :: r => setMany (l.set i v) (i + 1) r
def scells : Value → List Value
  | .agg xs => xs.toList
  | v => [v]
theorem scells_rel {ι : Inj} {v v' : Value} (h : VRel ι v v') : LRel ι (scells v) v'.cells.toList := by
  cases h with
  | agg a a' h => exact h
  | _ => exact .cons _ _ _ _ (by constructor <;> assumption) .nil
class SZ (P : Program) (t : TypeId) (n : outParam Nat) : Prop where
  out : ∃ i, P.info? t = some i ∧ i.size = n
theorem run_SZ {P : Program} {t : TypeId} {n : Nat} [h : SZ P t n] (w : World) : (sizeOf t).run P w = .ok n w := by
  obtain ⟨i, h1, h2⟩ := h.out
  simp [sizeOf, typeInfo, h1, h2]
class ZV (P : Program) (t : TypeId) (z : outParam Value) : Prop where
  out : ∃ i, P.info? t = some i ∧ i.zero = some z ∧ cst z = true
theorem run_ZV {P : Program} {t : TypeId} {z : Value} [h : ZV P t z] (w : World) : (zeroValue t).run P w = .ok z w := by
  obtain ⟨i, h1, h2, _⟩ := h.out
  simp [zeroValue, typeInfo, h1, h2]

theorem run_storeCells {P : Program} {C : World} {ι : Inj} {b o : Nat} {l : Loc} (hl : ι b = some l) : ∀ (vs vs' : List Value) (i : Nat) (σ : AStore) (w : World) (ob : AObj), SRel C ι σ w → σ.get b = some ob → ob.own = true → LRel ι vs vs' → vs.all cell1 = true →
    o + i + vs.length ≤ ob.cells.length → ∃ w', (storeCells ⟨l.blk, l.off + o, none⟩ vs' i).run P w = .ok () w' ∧ Ext ι σ w ι (σ.set b { ob with cells := setMany ob.cells (o + i) vs }) w' ∧ SRel C ι (σ.set b { ob with cells := setMany ob.cells (o + i) vs }) w'
  | [], vs', i, σ, w, ob, hs, hb, ho, hv, hc, hle => by
    cases hv
    rw [show setMany ob.cells (o + i) [] = ob.cells from rfl, set_same hb]
    exact ⟨w, by simp [storeCells], .refl .., hs⟩
  | v :: vs, _, i, σ, w, ob, hs, hb, ho, .cons _ v' _ vs' hv hvs, hc, hle => by
    simp only [List.all_cons, Bool.and_eq_true] at hc
    simp only [List.length_cons] at hle
    obtain ⟨⟨u, h1⟩, h2, h3, h4⟩ := hs.store (j := o + i) hb ho hl (by omega) hv
    have hlt := σ.wf b ob hb
    obtain ⟨w', g1, g2, g3⟩ := run_storeCells (P := P) (o := o) hl vs vs' (i + 1) (σ.set b { ob with cells := ob.cells.set (o + i) v }) _ { ob with cells := ob.cells.set (o + i) v } h4 (get_set_self _ _ _ hlt) ho hvs hc.2 (by simp; omega)
    rw [set_set] at g2 g3
    refine ⟨w', ?_, ?_, ?_⟩
    · simp only [storeCells, Sem.run_bind]
      rw [run_store _ _ _ _ _ (hv.cell1 hc.1), add_spot, Nat.add_assoc, h1]
      simp [h2, g1]
    · exact h3.trans g2
    · exact g3

section
variable {P : Program} {C : World} {n : Nat} {τ : Env} {σ : AStore} {ty : TypeId} {pos : String} {aft : Array Edge} {g : Option (Nat × Bool)} {d : Option Nat}

theorem OpOK.load {x : Operand} {t : TypeId} {m : Option Nat} [LD P t m] {b o : Nat} {ob : AObj} {v : Value} (hx : ev τ x = some (.pointer (some ⟨b, o, none⟩))) (hb : σ.get b = some ob) (hv : ldm m ob o = some v) : OpOK P C τ σ ⟨d, .load t x, ty, pos, aft, g⟩ v σ := by
  intro n ι a w ht hs
  have h := ev_rel ht hx
  generalize hz : a.eval x = z at h
  obtain ⟨l, hl, ho⟩ := hs.obj b ob hb
  cases h with
  | ptr _ _ l' hl' =>
    rw [hl] at hl'; injection hl' with hl'; subst hl'
    obtain ⟨v', h1, h2⟩ := run_loadVar (P := P) (b := b) (o := o) (t := t) ho hv
    exact ⟨ι, w, v', .inl (by simp [execOp, hz, Instr.loadAt, Instr.sureAddr, h1]), .refl .., h2, hs⟩
theorem OpOK.store {x y : Operand} {t : TypeId} {sz : Nat} [SZ P t sz] {b o : Nat} {ob : AObj} {v : Value} (hx : ev τ x = some (.pointer (some ⟨b, o, none⟩))) (hy : ev τ y = some v) (hb : σ.get b = some ob) (ho : ob.own = true)
    (hc : (scells v).all cell1 = true) (hn : (scells v).length = sz) (hle : o + sz ≤ ob.cells.length) : OpOK P C τ σ ⟨d, .store t x y, ty, pos, aft, g⟩ undef (σ.set b { ob with cells := setMany ob.cells o (scells v) }) := by
  intro n ι a w ht hs
  have h := ev_rel ht hx
  have h' := ev_rel ht hy
  generalize hz : a.eval x = z at h
  generalize hz' : a.eval y = z' at h'
  obtain ⟨l, hl, hO⟩ := hs.obj b ob hb
  have hr := scells_rel h'
  have hle' : o + 0 + (scells v).length ≤ ob.cells.length := by rw [hn]; exact hle
  cases h with
  | ptr _ _ l' hl' =>
    rw [hl] at hl'; injection hl' with hl'; subst hl'
    obtain ⟨w', g1, g2, g3⟩ := run_storeCells (P := P) (o := o) hl (scells v) z'.cells.toList 0 σ w ob hs hb ho hr hc hle'
    have hsz : z'.cells.size = sz := by rw [← hn]; have := hr.length; simp at this; omega
    refine ⟨ι, w', undef, .inr ⟨?_, rfl⟩, g2, .tuple _ _ .nil, g3⟩
    simp only [execOp, hz, hz', Instr.storeAt, Instr.sureAddr, Sem.run_bind, Sem.run_pure, Result.andThen_ok, storeVar, run_SZ, hsz]
    simp [g1]

/-! ### 3. New memory -/
theorem rel_new {ι : Inj} {w : World} {b tot esz : Nat} {ι' : Inj} (h : ι' b = some ⟨w.heap.size, 0, tot, esz⟩) : VRel ι' (.pointer (some ⟨b, 0, none⟩)) (.pointer (some ⟨w.heap.size, 0, none⟩)) := VRel.ptr b 0 _ h
theorem new_obj {ι : Inj} {w : World} (hs : SRel C ι σ w) (elem : TypeId) (cs : Array Value) (vs : List Value) (esz : Nat) (hv : LRel ι vs cs.toList) :
    ∃ ι', Ext ι σ w ι' (σ.alloc ⟨vs, elem, esz, true⟩) (w.alloc (.cells cs elem)) ∧ SRel C ι' (σ.alloc ⟨vs, elem, esz, true⟩) (w.alloc (.cells cs elem)) ∧ ι' σ.next = some ⟨w.heap.size, 0, cs.size, esz⟩ := by
  have := hs.alloc (w.alloc (.cells cs elem)) cs ⟨vs, elem, esz, true⟩ cs.size (0, 0) (fun j _ hj => by simp at hj) (heap_alloc_self _ _) (fun k hk => Below.heap_alloc _ _ _ hk) (by simp) ⟨rfl, rfl, rfl⟩ (by
    have hl := hv.length
    show LRel ι vs (cs.toList.take vs.length)
    rw [List.take_of_length_le (by omega)]; exact hv) rfl
  exact ⟨_, this.1, this.2.1, this.2.2⟩
theorem OpOK.alloc {t : TypeId} {z : Value} [hz : ZV P t z] : OpOK P C τ σ ⟨d, .alloc t, ty, pos, aft, g⟩ (.pointer (some ⟨σ.next, 0, none⟩)) (σ.alloc ⟨scells z, t, 0, true⟩) := by
  intro n ι a w ht hs
  obtain ⟨i, _, _, hc⟩ := hz.out
  obtain ⟨ι', h1, h2, h3⟩ := new_obj (C := C) hs t z.cells (scells z) 0 (scells_rel (cst_rel hc ι))
  exact ⟨ι', _, .pointer (some ⟨w.heap.size, 0, none⟩), .inl (by simp [execOp, Instr.alloc, run_ZV, newVar, newRow]), h1, .ptr _ 0 _ h3, h2⟩
theorem OpOK.box {t : TypeId} {x : Operand} {v : Value} (hx : ev τ x = some v) : OpOK P C τ σ ⟨d, .box t x, ty, pos, aft, g⟩ (.pointer (some ⟨σ.next, 0, none⟩)) (σ.alloc ⟨scells v, t, 0, true⟩) := by
  intro n ι a w ht hs
  obtain ⟨ι', h1, h2, h3⟩ := new_obj (C := C) hs t (a.eval x).cells (scells v) 0 (scells_rel (ev_rel ht hx))
  exact ⟨ι', _, .pointer (some ⟨w.heap.size, 0, none⟩), .inl (by simp [execOp, Instr.box, newVar, newRow]), h1, .ptr _ 0 _ h3, h2⟩
end
end Go.AM
