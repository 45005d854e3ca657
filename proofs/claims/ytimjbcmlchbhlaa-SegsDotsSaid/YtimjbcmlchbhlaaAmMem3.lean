/-
  The abstract store logic: append, whichever way it goes.
-/
import Derived.Test.YtimjbcmlchbhlaaAmMem2
set_option linter.unusedVariables false
set_option linter.unusedSimpArgs false
namespace Go.AM
open Go Go.RowKit

/-! ### 1. Cells written into a block, one behind the other -/
theorem store_raw {P : Program} {k : Nat} {e : TypeId} {fr : Nat × Nat} : ∀ (vs : List Value) (o i : Nat) (w : World) (c : Array Value), w.heap[k]? = some (.cells c e fr) → (∀ j, j < c.size → ¬ (fr.1 ≤ j ∧ j < fr.2)) →
    (∀ v ∈ vs, v.oneCell' = true) → o + i + vs.length ≤ c.size → ∃ w' c', (storeCells ⟨k, o, none⟩ vs i).run P w = .ok () w' ∧ w'.heap[k]? = some (.cells c' e fr) ∧ c'.size = c.size ∧
      (∀ j, j < vs.length → c'[o + i + j]? = vs[j]?) ∧ (∀ j, j < o + i → c'[j]? = c[j]?) ∧ (∀ q, q ≠ k → w'.heap[q]? = w.heap[q]?) ∧ w'.heap.size = w.heap.size ∧ (w'.os = w.os ∧ w'.tape = w.tape ∧ w'.output = w.output)
  | [], o, i, w, c, hk, hf, hv, hle => ⟨w, c, by simp [storeCells], hk, rfl, fun j hj => by simp at hj, fun _ _ => rfl, fun _ _ => rfl, rfl, rfl, rfl, rfl⟩
  | v :: vs, o, i, w, c, hk, hf, hv, hle => by
    simp only [List.length_cons] at hle
    have hcell : w.cell? ⟨k, o + i, none⟩ = some (c[o + i]'(by omega)) := by
      simp only [World.cell?, hk]
      simp [show o + i < c.size by omega]
    have hfz : w.frozen? ⟨k, o + i, none⟩ = false := by
      simp only [World.frozen?, hk]
      have := hf (o + i) (by omega)
      simpa using this
    have hnew : (w.setCell ⟨k, o + i, none⟩ v).heap[k]? = some (.cells (c.setIfInBounds (o + i) v) e fr) := by
      simp [World.setCell, Array.getElem?_modify, hk]
    obtain ⟨w', c', g1, g2, g3, g4, g5, g6, g7, g8⟩ := store_raw (P := P) vs o (i + 1) _ _ hnew (fun j hj => hf j (by simpa using hj)) (fun x hx => hv x (List.mem_cons_of_mem _ hx)) (by simp; omega)
    refine ⟨w', c', ?_, g2, by simpa using g3, ?_, ?_, ?_, by rw [g7]; simp [World.setCell], ?_⟩
    · simp only [storeCells, Sem.run_bind]
      rw [run_store _ _ _ _ _ (hv v (List.mem_cons_self ..)), add_spot, hcell]
      simp [hfz, g1]
    · intro j hj
      cases j with
      | zero =>
        rw [Nat.add_zero, g5 (o + i) (by omega)]
        simp [show o + i < c.size by omega]
      | succ j =>
        have := g4 j (by simpa using hj)
        rw [show o + i + (j + 1) = o + (i + 1) + j by omega, this]
        simp
    · intro j hj
      rw [g5 j (by omega), Array.getElem?_setIfInBounds_ne (by omega)]
    · intro q hq
      rw [g6 q hq, Below.heap_setCell w _ _ q hq]
    · exact ⟨g8.1, g8.2.1, g8.2.2⟩

/-- An object is taken up at a place that no other one has. -/
theorem SRel.adopt {C : World} {ι : Inj} {σ : AStore} {w : World} (h : SRel C ι σ w) (l : Loc) (o : AObj) (hlt : l.blk < w.heap.size) (hlow : C.heap.size ≤ l.blk)
    (hno : ∀ b o l', σ.get b = some o → ι b = some l' → l'.blk ≠ l.blk) (ho : ORel ι w o l) :
    let ι' : Inj := fun b => if b = σ.next then some l else ι b
    Le ι ι' ∧ SRel C ι' (σ.alloc o) w ∧ ι' σ.next = some l := by
  intro ι'
  have hfresh : ι σ.next = none := by
    cases hx : ι σ.next with
    | none => rfl
    | some l => have := (h.bnd _ _ hx).1; omega
  have hle : Le ι ι' := by
    intro b x hb
    have : b ≠ σ.next := by intro e; subst e; rw [hfresh] at hb; simp at hb
    simp only [ι', if_neg this]; exact hb
  have hself : ι' σ.next = some l := by simp [ι']
  have hback : ∀ b x, ι' b = some x → (b = σ.next ∧ x = l) ∨ (b ≠ σ.next ∧ ι b = some x) := by
    intro b x hb
    by_cases e : b = σ.next
    · subst e; rw [hself] at hb; injection hb with hb; exact .inl ⟨rfl, hb.symm⟩
    · simp only [ι', if_neg e] at hb; exact .inr ⟨e, hb⟩
  refine ⟨hle, ⟨h.below, ?_, ?_, ?_, ?_⟩, hself⟩
  · intro b x l1 hb hox hl
    rcases hback b l1 hl with ⟨rfl, rfl⟩ | ⟨hne, hl'⟩
    · exact hlow
    · rw [get_alloc_ne _ _ _ hne] at hb; exact h.low b x l1 hb hox hl'
  · intro b x hb
    by_cases e : b = σ.next
    · subst e
      rw [get_alloc_self] at hb
      injection hb with hb
      subst hb
      exact ⟨l, hself, ho.keep hle rfl⟩
    · rw [get_alloc_ne _ _ _ e] at hb
      obtain ⟨l1, hl, hO⟩ := h.obj b x hb
      exact ⟨l1, hle b l1 hl, hO.keep hle rfl⟩
  · intro b x hb
    rcases hback b x hb with ⟨rfl, rfl⟩ | ⟨hne, hl'⟩
    · exact ⟨by rw [next_alloc]; omega, hlt⟩
    · have := h.bnd b x hl'
      exact ⟨by rw [next_alloc]; omega, this.2⟩
  · intro b x b2 x2 l1 l2 hb hb2 hox hne hl hl2
    rcases hback b l1 hl with ⟨rfl, rfl⟩ | ⟨hne1, hl1⟩ <;> rcases hback b2 l2 hl2 with ⟨rfl, rfl⟩ | ⟨hne2, hl2'⟩
    · exact absurd rfl hne
    · rw [get_alloc_ne _ _ _ hne2] at hb2; exact Ne.symm (hno b2 x2 l2 hb2 hl2')
    · rw [get_alloc_ne _ _ _ hne1] at hb; exact hno b x l1 hb hl1
    · rw [get_alloc_ne _ _ _ hne1] at hb
      rw [get_alloc_ne _ _ _ hne2] at hb2
      exact h.sep b x b2 x2 l1 l2 hb hb2 hox hne hl1 hl2'

/-! ### 2. What is appended -/
/-- The cells of a slice or a text, abstractly. -/
inductive Src (σ : AStore) (sz : Nat) : Value → Nat → List Value → Prop
  | slice (b o m c : Nat) (ob : AObj) (hb : σ.get b = some ob) (hle : o + m * sz ≤ ob.cells.length) : Src σ sz (.slice (some ⟨b, o, none⟩) m c) m ((ob.cells.drop o).take (m * sz))
  | nil : Src σ sz (.slice none 0 0) 0 []
  | empty (a : Addr) (c : Nat) : Src σ sz (.slice (some a) 0 c) 0 []
  | text (l : List UInt8) (h1 : sz = 1) : Src σ sz (.string (B l)) l.length (l.map fun x => .int .u8 x.toNat)
theorem Src.length {σ : AStore} {sz m : Nat} {v : Value} {xs : List Value} (h : Src σ sz v m xs) : xs.length = m * sz := by
  cases h with
  | slice b o m c ob hb hle => simp; omega
  | nil => simp
  | empty => simp
  | text l h1 => simp [h1]
theorem cells_rel {ι : Inj} {w : World} {ob : AObj} {l : Loc} (ho : ORel ι w ob l) (o q : Nat) (hle : o + q ≤ ob.cells.length) :
    ∃ xs' : List Value, xs'.length = q ∧ (∀ j v, xs'[j]? = some v → w.cell? ((⟨l.blk, l.off + o, none⟩ : Addr).add j) = some v) ∧ LRel ι ((ob.cells.drop o).take q) xs' := by
  have hex : ∀ j, j < q → ∃ v', w.cell? ((⟨l.blk, l.off + o, none⟩ : Addr).add j) = some v' ∧ ∀ x, ((ob.cells.drop o).take q)[j]? = some x → VRel ι x v' := by
    intro j hj
    have hlt : o + j < ob.cells.length := by omega
    obtain ⟨v', hc, hr⟩ := ho.cells (o + j) _ (List.getElem?_eq_getElem hlt)
    refine ⟨v', by rw [add_spot, Nat.add_assoc]; exact hc, ?_⟩
    intro x hx
    rw [List.getElem?_take, if_pos hj, List.getElem?_drop, List.getElem?_eq_getElem hlt] at hx
    injection hx with hx
    rw [← hx]; exact hr
  let f : Nat → Value := fun j => if h : j < q then Classical.choose (hex j h) else undef
  refine ⟨(List.range q).map f, by simp, ?_, LRel.of_get (by simp; omega) ?_⟩
  · intro j v hj
    rw [List.getElem?_map] at hj
    obtain ⟨x, hx, rfl⟩ := Option.map_eq_some_iff.1 hj
    have hjq : j < q := by have := (List.getElem?_eq_some_iff.1 hx).1; simpa using this
    have : x = j := by have := (List.getElem?_eq_some_iff.1 hx).2; simpa using this.symm
    subst this
    simp only [f, dif_pos hjq]
    exact (Classical.choose_spec (hex x hjq)).1
  · intro j x x' hx hx'
    have hj : j < q := by
      have h := (List.getElem?_eq_some_iff.1 hx).1
      simp at h; omega
    simp [hj] at hx'
    subst hx'
    simp only [f, dif_pos hj]
    exact (Classical.choose_spec (hex j hj)).2 x hx
theorem Src.run {P : Program} {C : World} {ι : Inj} {σ : AStore} {w : World} {sz m : Nat} {v v' : Value} {xs : List Value} (hs : SRel C ι σ w) (h : Src σ sz v m xs) (hv : VRel ι v v') :
    (Builtin.lenOf v').run P w = .ok m w ∧ ∃ xs', (Builtin.firstCells sz m v').run P w = .ok xs' w ∧ LRel ι xs xs'.toList := by
  cases h with
  | slice b o _ c ob hb hle =>
    obtain ⟨l, hl, ho⟩ := hs.obj b ob hb
    cases hv with
    | slice _ _ l' _ _ c' hl' hn hc ht =>
      rw [hl] at hl'; injection hl' with hl'; subst hl'
      obtain ⟨xs', h1, h2, h3⟩ := cells_rel ho o (m * sz) hle
      refine ⟨by simp [Builtin.lenOf], xs'.toArray, ?_, by simpa using h3⟩
      have := run_loadCells_list (P := P) w ⟨l.blk, l.off + o, none⟩ xs' h2
      rw [h1] at this
      simpa [Builtin.firstCells] using this
    | slice0 a a' _ hc => exact ⟨by simp [Builtin.lenOf], #[], by simp [Builtin.firstCells, loadCells, loadCellsFrom], by simpa using LRel.nil⟩
  | nil => cases hv; exact ⟨by simp [Builtin.lenOf], #[], by simp [Builtin.firstCells], .nil⟩
  | empty a c =>
    cases hv with
    | slice b o l _ _ c' hl hn hc ht => exact ⟨by simp [Builtin.lenOf], #[], by simp [Builtin.firstCells, loadCells, loadCellsFrom], .nil⟩
    | slice0 => exact ⟨by simp [Builtin.lenOf], #[], by simp [Builtin.firstCells, loadCells, loadCellsFrom], .nil⟩
  | text l h1 =>
    cases hv
    refine ⟨by simp [Builtin.lenOf, B_size], (l.map fun x => Value.int .u8 x.toNat).toArray, ?_, ?_⟩
    · have : (B l).extract 0 l.length = B l := by rw [B_extract]; simp
      simp [Builtin.firstCells, this]
    · exact LRel.flat (by simp [flat]) ι

/-- The type of what is appended: a slice or a text. -/
class AU (P : Program) (u : TypeId) : Prop where
  out : P.underlying u = some .string ∨ ∃ e', P.underlying u = some (.slice e')
/-- An element's size, bytes and zero. -/
class EL (P : Program) (e : TypeId) (sz : outParam Nat) (bytes : outParam Nat) : Prop where
  out : ∃ i zv, P.info? e = some i ∧ i.size = sz ∧ i.bytes = bytes ∧ i.zero = some zv ∧ 0 < sz

section
variable {P : Program} {C : World}
theorem run_append_in {t u ty e : TypeId} {sz bytes : Nat} [ht : UL P t (.slice e)] [hu : AU P u] [he : EL P e sz bytes] {w : World} {a : Option Addr} {sLen sCap m : Nat} {x : Value} {news : Array Value}
    (hlen : (Builtin.lenOf x).run P w = .ok m w) (hf : (Builtin.firstCells sz m x).run P w = .ok news w) (hroom : sLen + m ≤ sCap) :
    (Builtin.append_ #[t, u] ty #[.slice a sLen sCap, x]).run P w = match a with
      | some a => ((storeCells (a.add (sLen * sz)) news.toList).run P w).andThen fun _ w' => .ok (.slice (some a) (sLen + m) sCap) w'
      | none => .ok (.slice none (sLen + m) sCap) w := by
  obtain ⟨i, zv, h1, h2, h3, h4, h5⟩ := he.out
  rcases hu.out with h | ⟨e', h⟩ <;> cases a <;> simp [Builtin.append_, underlying, ht.eq, h, sizeOf, typeInfo, h1, h2, hlen, hroom, hf]
theorem run_append_out {t u ty e : TypeId} {sz bytes : Nat} [ht : UL P t (.slice e)] [hu : AU P u] [he : EL P e sz bytes] {w : World} {a : Option Addr} {sLen sCap m : Nat} {x : Value} {olds news : Array Value}
    (hlen : (Builtin.lenOf x).run P w = .ok m w) (hf : (Builtin.firstCells sz m x).run P w.drew = .ok news w.drew) (hfo : (Builtin.firstCells sz sLen (.slice a sLen sCap)).run P w.drew = .ok olds w.drew) (hg : sCap < sLen + m) (hb : (sLen + m) * bytes ≤ 140737488355328) (hb0 : sLen + m ≤ 9223372036854775807) :
    ∃ rest cap, sLen + m ≤ cap ∧ rest.size = (cap - (sLen + m)) * (match ((P.info? e).bind (·.zero)) with | some z => z.cells.size | none => 0) ∧ (Builtin.append_ #[t, u] ty #[.slice a sLen sCap, x]).run P w = .ok (.slice (some ⟨w.heap.size, 0, none⟩) (sLen + m) cap) (w.drew.alloc (.cells (olds ++ news ++ rest) e)) := by
  obtain ⟨i, zv, h1, h2, h3, h4, h5⟩ := he.out
  have hn : ¬ (sLen + m ≤ sCap) := by omega
  have h63' : ¬ (9223372036854775807 < ((sLen : Int) + (m : Int))) := by omega
  have h48 := growslice_fits hg hb
  have h48' : ¬ (281474976710656 < Builtin.nextslicecap (sLen + m) sCap * bytes) := by omega
  refine ⟨Builtin.zeroCells zv.cells (grownCap w (sLen + m) sCap e - (sLen + m)), grownCap w (sLen + m) sCap e, grownCap_ge .., ?_, ?_⟩
  · rw [size_zeroCells, h1]; simp [h4]
  · rcases hu.out with h | ⟨e', h⟩ <;> simp [Builtin.append_, underlying, ht.eq, h, sizeOf, typeInfo, zeroValue, h1, h2, h3, h4, hlen, hn, h63', h48', Question.forced, hf, hfo, newRow, grownCap]

theorem SRel.drew {ι : Inj} {σ : AStore} {w : World} (h : SRel C ι σ w) : SRel C ι σ w.drew :=
  ⟨h.below.drew, h.low, fun b o hb => by obtain ⟨l, hl, ho⟩ := h.obj b o hb; exact ⟨l, hl, ho.keep (.refl _) rfl⟩, h.bnd, h.sep⟩
theorem Ext.drew (ι : Inj) (σ : AStore) (w : World) : Ext ι σ w ι σ w.drew :=
  ⟨.refl _, Nat.le_refl _, Nat.le_refl _, fun _ _ _ => rfl, fun b o l h1 h2 h3 _ => ⟨b, o, l, h1, h2, h3, rfl⟩, rfl, rfl, rfl⟩

/-- Behind a new row: it is an object. -/
theorem new_row {ι : Inj} {σ : AStore} {w : World} (hs : SRel C ι σ w) (e : TypeId) (sz len cap : Nat) (vs : List Value) (cs : Array Value) (hv : LRel ι vs (cs.toList.take vs.length)) (hcap : len ≤ cap) (htot : cs.size = cap * sz) :
    ∃ ι', Ext ι σ w ι' (σ.alloc ⟨vs, e, sz, true⟩) (w.alloc (.cells cs e)) ∧ SRel C ι' (σ.alloc ⟨vs, e, sz, true⟩) (w.alloc (.cells cs e)) ∧ VRel ι' (.slice (some ⟨σ.next, 0, none⟩) len unk) (.slice (some ⟨w.heap.size, 0, none⟩) len cap) := by
  have := hs.alloc (w.alloc (.cells cs e)) cs ⟨vs, e, sz, true⟩ cs.size (0, 0) (fun j _ hj => by simp at hj) (heap_alloc_self _ _) (fun k hk => Below.heap_alloc _ _ _ hk) (by simp) ⟨rfl, rfl, rfl⟩ hv rfl
  exact ⟨_, this.1, this.2.1, .slice _ 0 ⟨w.heap.size, 0, cs.size, sz⟩ len unk cap this.2.2 hcap (.inl rfl) (.inr (by simp [htot]))⟩

theorem LRel.cell1 {ι : Inj} {l l' : List Value} (h : LRel ι l l') (hc : l.all AM.cell1 = true) : ∀ v ∈ l', v.oneCell' = true := by
  match l, l', h with
  | _, _, .nil => simp
  | _, _, .cons v v' r r' hv hr =>
    simp only [List.all_cons, Bool.and_eq_true] at hc
    intro x hx
    rcases List.mem_cons.1 hx with rfl | hx
    · exact hv.cell1 hc.1
    · exact hr.cell1 hc.2 x hx

class ZS (P : Program) (e : TypeId) (sz : outParam Nat) : Prop where
  out : ∃ i zv, P.info? e = some i ∧ i.zero = some zv ∧ zv.cells.size = sz

/-- append to a row of one's own, or to one whose end is known. -/
theorem append_own {t u ty e : TypeId} {sz bytes : Nat} [UL P t (.slice e)] [AU P u] [he : EL P e sz bytes] [hzs : ZS P e sz] {ι : Inj} {σ : AStore} {w : World} (hs : SRel C ι σ w) {b ln c m : Nat} {ob : AObj} {s' x x' : Value} {xs : List Value}
    (hb : σ.get b = some ob) (ho : ob.own = true) (hesz : ob.esz = sz) (hel : ob.elem = e) (hle : ln * sz ≤ ob.cells.length) (hsrc : Src σ sz x m xs) (hc1 : xs.all cell1 = true) (hbd : (ln + m) * bytes ≤ 140737488355328) (hbd0 : ln + m ≤ 9223372036854775807)
    (hS : VRel ι (.slice (some ⟨b, 0, none⟩) ln c) s') (hX : VRel ι x x') :
    ∃ ι' w' v', (Builtin.append_ #[t, u] ty #[s', x']).run P w = .ok v' w' ∧ Ext ι σ w ι' ((σ.del b).alloc ⟨ob.cells.take (ln * sz) ++ xs, e, sz, true⟩) w' ∧ VRel ι' (.slice (some ⟨σ.next, 0, none⟩) (ln + m) unk) v' ∧
      SRel C ι' ((σ.del b).alloc ⟨ob.cells.take (ln * sz) ++ xs, e, sz, true⟩) w' := by
  obtain ⟨l, hl, hO⟩ := hs.obj b ob hb
  obtain ⟨hoff, cs, fr, hw, htot, hlen, hfr⟩ := hO.own ho
  have hxl := hsrc.length
  obtain ⟨hx1, xs', hx2, hx3⟩ := hsrc.run (P := P) hs hX
  obtain ⟨_, xs2, hx2d, hx3d⟩ := hsrc.run (P := P) hs.drew hX
  obtain ⟨i, zv, hzi, hzz, hzc⟩ := hzs.out
  -- a new row
  have grow : ∀ (a' : Addr) (sCap : Nat) (olds : Array Value), (Builtin.firstCells sz ln (.slice (some a') ln sCap)).run P w.drew = .ok olds w.drew → LRel ι (ob.cells.take (ln * sz)) olds.toList → sCap < ln + m →
      ∃ ι' w' v', (Builtin.append_ #[t, u] ty #[.slice (some a') ln sCap, x']).run P w = .ok v' w' ∧ Ext ι σ w ι' ((σ.del b).alloc ⟨ob.cells.take (ln * sz) ++ xs, e, sz, true⟩) w' ∧ VRel ι' (.slice (some ⟨σ.next, 0, none⟩) (ln + m) unk) v' ∧
      SRel C ι' ((σ.del b).alloc ⟨ob.cells.take (ln * sz) ++ xs, e, sz, true⟩) w' := by
    intro a' sCap olds hfo hro hg
    obtain ⟨rest, cap, g1, g2, g3⟩ := run_append_out (P := P) (t := t) (u := u) (ty := ty) (e := e) (sz := sz) (bytes := bytes) (w := w) (a := some a') (sLen := ln) (sCap := sCap) (m := m) (x := x') hx1 hx2d hfo hg hbd hbd0
    have ho1 := hro.length
    have ho2 := hx3d.length
    simp at ho1 ho2
    have hsz2 : (olds ++ xs2 ++ rest).size = cap * sz := by
      simp only [Array.size_append]
      rw [g2, hzi]
      simp only [Option.bind_some, hzz, hzc]
      have e1 : olds.size = ln * sz := by omega
      have e2 : xs2.size = m * sz := by omega
      rw [e1, e2, ← Nat.add_mul, ← Nat.add_mul]
      congr 1; omega
    have hd := hs.del b
    obtain ⟨ι', k1, k2, k3⟩ := new_row (C := C) hd.drew e sz (ln + m) cap (ob.cells.take (ln * sz) ++ xs) (olds ++ xs2 ++ rest) (by
      have hL := hro.append hx3d
      have h3 := hL.length
      rw [h3]
      simp only [Array.toList_append]
      rw [List.take_left']
      · exact hL
      · simp) g1 hsz2
    exact ⟨ι', _, _, g3, ((Ext.del b).trans (Ext.drew ι (σ.del b) w)).trans k1, k3, k2⟩
  cases hS with
  | slice _ _ l' _ _ c' hl' hn hc ht =>
    rw [hl] at hl'; injection hl' with hl'; subst hl'
    obtain ⟨os, q1, q2, q3⟩ := cells_rel (hO) 0 (ln * sz) (by omega)
    rw [List.drop_zero] at q3
    by_cases hroom : ln + m ≤ c'
    · -- in place
      have hcap : c' * sz ≤ cs.size := by
        have hpos : 0 < sz := by obtain ⟨_, _, _, _, _, _, h5⟩ := he.out; exact h5
        rcases ht with ht | ht
        · rw [hO.esz, hesz] at ht; omega
        · rw [hO.esz, hesz, htot] at ht; omega
      have hfit : ln * sz + 0 + xs'.toList.length ≤ cs.size := by
        have h3 := hx3.length
        have : (ln + m) * sz ≤ c' * sz := Nat.mul_le_mul_right _ hroom
        rw [Nat.add_mul] at this
        omega
      obtain ⟨w', cs', r1, r2, r3, r4, r5, r6, r7, r8⟩ := store_raw (P := P) xs'.toList (ln * sz) 0 w cs hw hfr (hx3.cell1 hc1) hfit
      have hd := hs.del b
      have hno : ∀ b2 o2 l2, (σ.del b).get b2 = some o2 → ι b2 = some l2 → l2.blk ≠ l.blk := by
        intro b2 o2 l2 h2 hl2
        by_cases e2 : b2 = b
        · subst e2; simp [AStore.del] at h2
        · rw [get_del_ne _ _ _ e2] at h2
          exact Ne.symm (hs.sep b ob b2 o2 l l2 hb h2 ho (Ne.symm e2) hl hl2)
      have hd' : SRel C ι (σ.del b) w' := by
        refine ⟨hd.below.trans ⟨r8.1, r8.2.1, r8.2.2, by omega, fun k hk => r6 k ?_⟩, hd.low, ?_, fun b2 l2 h2 => by rw [r7]; exact hd.bnd b2 l2 h2, hd.sep⟩
        · have := hs.low b ob l hb ho hl; omega
        · intro b2 o2 h2
          obtain ⟨l2, hl2, hO2⟩ := hd.obj b2 o2 h2
          exact ⟨l2, hl2, hO2.keep (.refl _) (r6 _ (hno b2 o2 l2 h2 hl2))⟩
      have hnew : ORel ι w' ⟨ob.cells.take (ln * sz) ++ xs, e, sz, true⟩ l := by
        refine ⟨?_, by rw [hO.esz]; exact hesz, fun _ => ⟨hoff, cs', fr, by rw [r2, hel], by rw [htot, r3], ?_, fun j hj => hfr j (by omega)⟩⟩
        · intro j v hj
          have hcell : w'.cell? ⟨l.blk, l.off + j, none⟩ = cs'[j]? := by
            unfold World.cell?
            simp only [r2]
            simp [hoff]
          rw [hcell]
          by_cases hjl : j < ln * sz
          · rw [List.getElem?_append_left (by simp; omega), List.getElem?_take, if_pos hjl] at hj
            obtain ⟨v', e1, e2⟩ := hO.cells j v hj
            refine ⟨v', ?_, e2⟩
            rw [r5 j (by omega), ← e1]
            unfold World.cell?
            simp only [hw]
            simp [hoff]
          · have hlt : (ob.cells.take (ln * sz)).length = ln * sz := by simp; omega
            rw [List.getElem?_append_right (by omega), hlt] at hj
            obtain ⟨v', e1, e2⟩ := hx3.get _ v hj
            refine ⟨v', ?_, e2⟩
            have hjx : j - ln * sz < xs'.toList.length := (List.getElem?_eq_some_iff.1 e1).1
            have := r4 (j - ln * sz) hjx
            rw [show ln * sz + 0 + (j - ln * sz) = j by omega] at this
            rw [this]; exact e1
        · have h3 := hx3.length
          simp only [List.length_append, List.length_take]
          omega
      obtain ⟨k1, k2, k3⟩ := hd'.adopt l ⟨ob.cells.take (ln * sz) ++ xs, e, sz, true⟩ (by rw [r7]; exact (hs.bnd b l hl).2) (hs.low b ob l hb ho hl) hno hnew
      refine ⟨_, w', .slice (some ⟨l.blk, l.off + 0, none⟩) (ln + m) c', ?_, ?_, VRel.slice _ 0 l (ln + m) unk c' k3 hroom (.inl rfl) (by rcases ht with ht | ht; exact .inl ht; exact .inr ht), k2⟩
      · have := run_append_in (P := P) (t := t) (u := u) (ty := ty) (e := e) (sz := sz) (bytes := bytes) (w := w) (a := some ⟨l.blk, l.off + 0, none⟩) (sLen := ln) (sCap := c') hx1 hx2 hroom
        rw [this]
        simp only [add_spot, hoff, Nat.zero_add, r1, Result.andThen_ok]
      · refine ⟨k1, ?_, by rw [r7]; omega, ?_, ?_, r8⟩
        · rw [next_alloc, next_del]; omega
        · intro k hk hn2
          exact r6 k (fun e2 => hn2 b ob l hb ho hl e2.symm)
        · intro b2 o2 l2 h2 ho2 hl2 hlt2
          by_cases e2 : b2 = (σ.del b).next
          · subst e2
            have hl3 := hl2.symm.trans k3
            injection hl3 with hl3
            subst hl3
            exact ⟨b, ob, l2, hb, ho, hl, rfl⟩
          · rw [get_alloc_ne _ _ _ e2] at h2
            have hl3 : ι b2 = some l2 := by simpa [e2] using hl2
            by_cases e3 : b2 = b
            · subst e3; simp [AStore.del] at h2
            · rw [get_del_ne _ _ _ e3] at h2
              exact ⟨b2, o2, l2, h2, ho2, hl3, rfl⟩
    · refine grow _ c' os.toArray ?_ (by simpa using q3) (by omega)
      have := run_loadCells_list (P := P) w.drew ⟨l.blk, l.off + 0, none⟩ os (by simpa using q2)
      rw [q1] at this
      simpa [Builtin.firstCells] using this
  | slice0 a a' _ hc =>
    by_cases hm : m = 0
    · subst hm
      have hxs : xs = [] := by
        have : xs.length = 0 := by rw [hxl]; simp
        exact List.length_eq_zero_iff.1 this
      subst hxs
      have hx4 : xs'.toList = [] := by
        have := hx3.length
        simp at this
        simpa [eq_comm] using this
      have hd := hs.del b
      have hno : ∀ b2 o2 l2, (σ.del b).get b2 = some o2 → ι b2 = some l2 → l2.blk ≠ l.blk := by
        intro b2 o2 l2 h2 hl2
        by_cases e2 : b2 = b
        · subst e2; simp [AStore.del] at h2
        · rw [get_del_ne _ _ _ e2] at h2
          exact Ne.symm (hs.sep b ob b2 o2 l l2 hb h2 ho (Ne.symm e2) hl hl2)
      obtain ⟨k1, k2, k3⟩ := hd.adopt l ⟨ob.cells.take (0 * sz) ++ [], e, sz, true⟩ (hs.bnd b l hl).2 (hs.low b ob l hb ho hl) hno
        ⟨fun j v hj => by simp at hj, by rw [hO.esz]; exact hesz, fun _ => ⟨hoff, cs, fr, by rw [hw, hel], htot, by simp, hfr⟩⟩
      refine ⟨_, w, .slice (some a') 0 0, ?_, ?_, .slice0 _ _ _ (.inl rfl), k2⟩
      · have := run_append_in (P := P) (t := t) (u := u) (ty := ty) (e := e) (sz := sz) (bytes := bytes) (w := w) (a := some a') (sLen := 0) (sCap := 0) hx1 hx2 (by omega)
        rw [this, hx4]
        simp [storeCells]
      · refine ⟨k1, by rw [next_alloc, next_del]; omega, Nat.le_refl _, fun _ _ _ => rfl, ?_, rfl, rfl, rfl⟩
        intro b2 o2 l2 h2 ho2 hl2 hlt2
        by_cases e2 : b2 = (σ.del b).next
        · subst e2
          have hl3 := hl2.symm.trans k3
          injection hl3 with hl3
          subst hl3
          exact ⟨b, ob, l2, hb, ho, hl, rfl⟩
        · rw [get_alloc_ne _ _ _ e2] at h2
          have hl3 : ι b2 = some l2 := by simpa [e2] using hl2
          by_cases e3 : b2 = b
          · subst e3; simp [AStore.del] at h2
          · rw [get_del_ne _ _ _ e3] at h2
            exact ⟨b2, o2, l2, h2, ho2, hl3, rfl⟩
    · exact grow a' 0 #[] (by simp [Builtin.firstCells, loadCells, loadCellsFrom]) (by simpa using LRel.nil) (by omega)
end
end Go.AM
