/-
  The abstract store logic: append, make, copy, cuts of slices, texts and bytes, tests against nil: the operations.
-/
import Derived.Test.YtimjbcmlchbhlaaAmMem3
set_option linter.unusedVariables false
set_option linter.unusedSimpArgs false
namespace Go.AM
open Go Go.RowKit

section
variable {P : Program} {C : World} {n : Nat} {τ : Env} {σ : AStore} {ty : TypeId} {pos : String} {aft : Array Edge} {g : Option (Nat × Bool)} {d : Option Nat}

theorem run_append_op {x y : Operand} {t u : TypeId} {a : Act} (w : World) {v : Value} {w' : World} (h : (Builtin.append_ #[t, u] ty #[a.eval x, a.eval y]).run P w = .ok v w') :
    (execOp a.eval ⟨d, .call ⟨.builtin .append, #[x, y], #[t, u]⟩, ty, pos, aft, g⟩).run P w = .ok (.value v) w' := by
  have e := run_builtin (P := P) (d := d) (ty := ty) (pos := pos) (aft := aft) (g := g) (b := .append) (xs := [x, y]) (ts := #[t, u]) (a := a) w
  rw [e]
  simp [builtin, h]
theorem OpOK.append {x y : Operand} {t u e : TypeId} {sz bytes : Nat} [UL P t (.slice e)] [AU P u] [he : EL P e sz bytes] [hzs : ZS P e sz] {b ln c m : Nat} {ob : AObj} {v : Value} {xs : List Value}
    (hx : ev τ x = some (.slice (some ⟨b, 0, none⟩) ln c)) (hy : ev τ y = some v) (hb : σ.get b = some ob) (ho : ob.own = true) (hesz : ob.esz = sz) (hel : ob.elem = e) (hle : ln * sz ≤ ob.cells.length) (hsrc : Src σ sz v m xs) (hc1 : xs.all cell1 = true)
    (hbd : (ln + m) * bytes ≤ 140737488355328) (hbd0 : ln + m ≤ 9223372036854775807) :
    OpOK P C τ σ ⟨d, .call ⟨.builtin .append, #[x, y], #[t, u]⟩, ty, pos, aft, g⟩ (.slice (some ⟨σ.next, 0, none⟩) (ln + m) unk) ((σ.del b).alloc ⟨ob.cells.take (ln * sz) ++ xs, e, sz, true⟩) := by
  intro n ι a w ht hs
  obtain ⟨ι', w', v', h1, h2, h3, h4⟩ := append_own (P := P) (C := C) (t := t) (u := u) (ty := ty) (e := e) (sz := sz) (bytes := bytes) hs hb ho hesz hel hle hsrc hc1 hbd hbd0 (ev_rel ht hx) (ev_rel ht hy)
  exact ⟨ι', w', v', .inl (run_append_op w h1), h2, h3, h4⟩

/-- A new row out of a source. -/
theorem append_new {t u e : TypeId} {sz bytes : Nat} [UL P t (.slice e)] [AU P u] [he : EL P e sz bytes] [hzs : ZS P e sz] {ι : Inj} {w : World} (hs : SRel C ι σ w) {m : Nat} {a0 : Option Addr} {v x' : Value} {xs : List Value} (hsrc : Src σ sz v m xs) (hX : VRel ι v x') (h0 : 0 < m)
    (hbd : m * bytes ≤ 140737488355328) (hbd0 : m ≤ 9223372036854775807) :
    ∃ ι' w' v', (Builtin.append_ #[t, u] ty #[.slice a0 0 0, x']).run P w = .ok v' w' ∧ Ext ι σ w ι' (σ.alloc ⟨xs, e, sz, true⟩) w' ∧ VRel ι' (.slice (some ⟨σ.next, 0, none⟩) m unk) v' ∧ SRel C ι' (σ.alloc ⟨xs, e, sz, true⟩) w' := by
  obtain ⟨hx1, xs', hx2, hx3⟩ := hsrc.run (P := P) hs hX
  obtain ⟨_, xs2, hx2d, hx3d⟩ := hsrc.run (P := P) hs.drew hX
  obtain ⟨i, zv, hzi, hzz, hzc⟩ := hzs.out
  have hxl := hsrc.length
  have hfo : (Builtin.firstCells sz 0 (.slice a0 0 0)).run P w.drew = .ok #[] w.drew := by
    cases a0 <;> simp [Builtin.firstCells, loadCells, loadCellsFrom]
  obtain ⟨rest, cap, g1, g2, g3⟩ := run_append_out (P := P) (t := t) (u := u) (ty := ty) (e := e) (sz := sz) (bytes := bytes) (w := w) (a := a0) (sLen := 0) (sCap := 0) (m := m) (x := x') hx1 hx2d hfo (by omega) (by simpa using hbd) (by omega)
  rw [Nat.zero_add] at g1 g2 g3
  have ho2 := hx3d.length
  simp at ho2
  have hsz2 : (#[] ++ xs2 ++ rest).size = cap * sz := by
    simp only [Array.size_append]
    rw [g2, hzi]
    simp only [Option.bind_some, hzz, hzc]
    have e2 : xs2.size = m * sz := by omega
    rw [e2]
    simp only [List.size_toArray, List.length_nil, Nat.zero_add]
    rw [← Nat.add_mul]
    congr 1; omega
  obtain ⟨ι', k1, k2, k3⟩ := new_row (C := C) hs.drew e sz m cap xs (#[] ++ xs2 ++ rest) (by
    have h3 := hx3d.length
    rw [h3]
    simp only [Array.toList_append]
    rw [List.take_left']
    · simpa using hx3d
    · simp) g1 hsz2
  exact ⟨ι', _, _, g3, (Ext.drew ι σ w).trans k1, k3, k2⟩
theorem OpOK.append_nil {x y : Operand} {t u e : TypeId} {sz bytes : Nat} [UL P t (.slice e)] [AU P u] [he : EL P e sz bytes] [hzs : ZS P e sz] {m : Nat} {v : Value} {xs : List Value}
    (hx : ev τ x = some (.slice none 0 0)) (hy : ev τ y = some v) (hsrc : Src σ sz v m xs) (h0 : 0 < m) (hbd : m * bytes ≤ 140737488355328) (hbd0 : m ≤ 9223372036854775807) :
    OpOK P C τ σ ⟨d, .call ⟨.builtin .append, #[x, y], #[t, u]⟩, ty, pos, aft, g⟩ (.slice (some ⟨σ.next, 0, none⟩) m unk) (σ.alloc ⟨xs, e, sz, true⟩) := by
  intro n ι a w ht hs
  obtain ⟨ι', w', v', h1, h2, h3, h4⟩ := append_new (P := P) (C := C) (t := t) (u := u) (ty := ty) (e := e) (sz := sz) (bytes := bytes) (a0 := none) hs hsrc (ev_rel ht hy) h0 hbd hbd0
  exact ⟨ι', w', v', .inl (run_append_op w (by rw [ev_flat ht hx rfl]; exact h1)), h2, h3, h4⟩
theorem OpOK.append_nil0 {x y : Operand} {t u e : TypeId} {sz bytes : Nat} [UL P t (.slice e)] [AU P u] [he : EL P e sz bytes] {v : Value} {xs : List Value}
    (hx : ev τ x = some (.slice none 0 0)) (hy : ev τ y = some v) (hsrc : Src σ sz v 0 xs) :
    OpOK P C τ σ ⟨d, .call ⟨.builtin .append, #[x, y], #[t, u]⟩, ty, pos, aft, g⟩ (.slice none 0 0) σ := by
  intro n ι a w ht hs
  obtain ⟨hx1, xs', hx2, hx3⟩ := hsrc.run (P := P) hs (ev_rel ht hy)
  have := run_append_in (P := P) (t := t) (u := u) (ty := ty) (e := e) (sz := sz) (bytes := bytes) (w := w) (a := none) (sLen := 0) (sCap := 0) hx1 hx2 (by omega)
  exact ⟨ι, w, .slice none 0 0, .inl (run_append_op w (by rw [ev_flat ht hx rfl]; exact this)), .refl .., .nilslice, hs⟩
/-- append to what has no room. -/
theorem OpOK.append_cap0 {x y : Operand} {t u e : TypeId} {sz bytes : Nat} [UL P t (.slice e)] [AU P u] [he : EL P e sz bytes] [hzs : ZS P e sz] {m : Nat} {a0 : Addr} {v : Value} {xs : List Value}
    (hx : ev τ x = some (.slice (some a0) 0 0)) (hy : ev τ y = some v) (hsrc : Src σ sz v m xs) (h0 : 0 < m) (hbd : m * bytes ≤ 140737488355328) (hbd0 : m ≤ 9223372036854775807) :
    OpOK P C τ σ ⟨d, .call ⟨.builtin .append, #[x, y], #[t, u]⟩, ty, pos, aft, g⟩ (.slice (some ⟨σ.next, 0, none⟩) m unk) (σ.alloc ⟨xs, e, sz, true⟩) := by
  intro n ι a w ht hs
  have h := ev_rel ht hx
  generalize hz : a.eval x = z at h
  have key : ∃ a1, z = .slice (some a1) 0 0 := by
    cases h with
    | slice b o l _ _ c' hl hn hc ht =>
      rcases hc with hc | hc
      · simp [unk] at hc
      · subst hc; exact ⟨_, rfl⟩
    | slice0 a a' c hc => exact ⟨_, rfl⟩
  obtain ⟨a1, rfl⟩ := key
  obtain ⟨ι', w', v', h1, h2, h3, h4⟩ := append_new (P := P) (C := C) (t := t) (u := u) (ty := ty) (e := e) (sz := sz) (bytes := bytes) (a0 := some a1) hs hsrc (ev_rel ht hy) h0 hbd hbd0
  exact ⟨ι', w', v', .inl (run_append_op w (by rw [hz]; exact h1)), h2, h3, h4⟩
theorem OpOK.append_cap00 {x y : Operand} {t u e : TypeId} {sz bytes : Nat} [UL P t (.slice e)] [AU P u] [he : EL P e sz bytes] {a0 : Addr} {v : Value} {xs : List Value}
    (hx : ev τ x = some (.slice (some a0) 0 0)) (hy : ev τ y = some v) (hsrc : Src σ sz v 0 xs) :
    OpOK P C τ σ ⟨d, .call ⟨.builtin .append, #[x, y], #[t, u]⟩, ty, pos, aft, g⟩ (.slice (some a0) 0 0) σ := by
  intro n ι a w ht hs
  have h := ev_rel ht hx
  generalize hz : a.eval x = z at h
  obtain ⟨hx1, xs', hx2, hx3⟩ := hsrc.run (P := P) hs (ev_rel ht hy)
  have hx4 : xs'.toList = [] := by
    have h3 := hx3.length
    have h5 := hsrc.length
    rw [Nat.zero_mul] at h5
    exact List.length_eq_zero_iff.1 (by omega)
  have key : ∃ a1, z = .slice (some a1) 0 0 := by
    cases h with
    | slice b o l _ _ c' hl hn hc ht =>
      rcases hc with hc | hc
      · simp [unk] at hc
      · subst hc; exact ⟨_, rfl⟩
    | slice0 a a' c hc => exact ⟨_, rfl⟩
  obtain ⟨a1, rfl⟩ := key
  have := run_append_in (P := P) (t := t) (u := u) (ty := ty) (e := e) (sz := sz) (bytes := bytes) (w := w) (a := some a1) (sLen := 0) (sCap := 0) hx1 hx2 (by omega)
  rw [hx4] at this
  exact ⟨ι, w, .slice (some a1) 0 0, .inl (run_append_op w (by rw [hz]; simpa [storeCells] using this)), .refl .., .slice0 _ _ _ (.inr rfl), hs⟩

/-! ### make -/
theorem zrow_get {z : List Value} {len j : Nat} (hz : 0 < z.length) (h : j < len * z.length) : (zrow z len)[j]? = some (z[j % z.length]'(Nat.mod_lt _ hz)) := by
  simp only [zrow, List.getElem?_map, List.getElem?_range h, Option.map_some]
  rw [getElem!_pos z _ (Nat.mod_lt _ hz)]
theorem OpOK.makeSlice {t e : TypeId} {z : List Value} {sz bytes : Nat} [UL P t (.slice e)] [he : EL P e sz bytes] [hz : ZE P e sz z] {x y : Operand} {k k' : IntKind} {m c : Int} (hx : ev τ x = some (.int k m)) (hy : ev τ y = some (.int k' c))
    (h0 : 0 ≤ m ∧ m ≤ c) (hbd : c * bytes ≤ 281474976710656) (hbd0 : c ≤ 9223372036854775807) :
    OpOK P C τ σ ⟨d, .makeSlice t x y, ty, pos, aft, g⟩ (.slice (some ⟨σ.next, 0, none⟩) m.toNat c.toNat) (σ.alloc ⟨zrow z m.toNat, e, sz, true⟩) := by
  intro n ι a w ht hs
  obtain ⟨i, zv, h1, h2, h3, h4, h5, h6⟩ := hz.out
  obtain ⟨i', zv', g1, g2, g3, g4, g5⟩ := he.out
  rw [h1] at g1
  injection g1 with g1
  subst g1
  rw [h3] at g4
  injection g4 with g4
  subst g4
  have hwm : IntKind.i64.wrap m = m := wrap_in (by simp [IntKind.min, IntKind.max, IntKind.signed, IntKind.bits]; omega)
  have hwc : IntKind.i64.wrap c = c := wrap_in (by simp [IntKind.min, IntKind.max, IntKind.signed, IntKind.bits]; omega)
  have hzs : zv.cells.size = sz := by rw [← h6, ← h4]; simp
  have hcs : ∀ q : Nat, ((Array.range (q * sz)).map (zv.cells[· % zv.cells.size]!)).toList = zrow z q := by
    intro q
    simp only [zrow, Array.toList_map, Array.toList_range, h6, hzs]
    apply List.map_congr_left
    intro j hj
    rw [getElem!_pos z (j % sz) (by rw [h6]; exact Nat.mod_lt _ g5), getElem!_pos zv.cells (j % sz) (by rw [hzs]; exact Nat.mod_lt _ g5)]
    subst h4
    simp
  have hpre : (zrow z c.toNat).take (zrow z m.toNat).length = zrow z m.toNat := by
    apply List.ext_getElem?
    intro j
    have hl : (zrow z m.toNat).length = m.toNat * sz := by simp [zrow, h6]
    rw [List.getElem?_take, hl]
    have hmc : m.toNat * sz ≤ c.toNat * sz := Nat.mul_le_mul_right _ (by omega)
    by_cases hj : j < m.toNat * sz
    · rw [if_pos hj, zrow_get (by omega) (by rw [h6]; omega), zrow_get (by omega) (by rw [h6]; exact hj)]
    · rw [if_neg hj, List.getElem?_eq_none (by omega)]
  have hs2 := hs.alloc (w.alloc (.cells ((Array.range (c.toNat * sz)).map (zv.cells[· % zv.cells.size]!)) e)) _ ⟨zrow z m.toNat, e, sz, true⟩ _ (0, 0) (fun j _ hj => by simp at hj) (heap_alloc_self _ _) (fun k hk => Below.heap_alloc _ _ _ hk) (by simp) ⟨rfl, rfl, rfl⟩
    (by rw [hcs, hpre]; exact LRel.flat (zrow_flat h5 _) ι) rfl
  obtain ⟨k1, k2, k3⟩ := hs2
  refine ⟨_, _, .slice (some ⟨w.heap.size, 0, none⟩) m.toNat c.toNat, .inl ?_, k1, VRel.slice σ.next 0 ⟨w.heap.size, 0, ((Array.range (c.toNat * sz)).map (zv.cells[· % zv.cells.size]!)).size, sz⟩ m.toNat c.toNat c.toNat k3 (by omega) (.inr rfl) (.inr ?_), k2⟩
  rotate_left
  · show 0 + c.toNat * sz ≤ ((Array.range (c.toNat * sz)).map (zv.cells[· % zv.cells.size]!)).size
    simp
  have hno1 : ¬ (c < 0) := by omega
  have hno2 : ¬ (m < 0) := by omega
  have hno3 : ¬ (c < m) := by omega
  have hno4 : ¬ (281474976710656 < (bytes : Int) * c) := by rw [Int.mul_comm]; omega
  by_cases hc0 : c.toNat = 0
  · have e0 : (Array.range (c.toNat * sz)).map (zv.cells[· % zv.cells.size]!) = #[] := by rw [hc0]; simp
    rw [e0]
    simp [execOp, ev_flat ht hx rfl, ev_flat ht hy rfl, Instr.makeSlice, run_ul, asInt, asIntOf, typeInfo, h1, g3, hwm, hwc, hno1, hno2, hno3, hno4, sizeOf, h2, hc0, newRow, show Array.range 0 = #[] from rfl]
  · have hsz0 : sz ≠ 0 := by omega
    simp [execOp, ev_flat ht hx rfl, ev_flat ht hy rfl, Instr.makeSlice, run_ul, asInt, asIntOf, typeInfo, h1, g3, hwm, hwc, hno1, hno2, hno3, hno4, sizeOf, h2, hc0, hsz0, zeroValue, h3, newRow]
    exact fun h => absurd h (Nat.mul_ne_zero hc0 hsz0)

/-! ### copy -/
theorem OpOK.copy {x y : Operand} {t u e : TypeId} {sz bytes : Nat} [UL P t (.slice e)] [he : EL P e sz bytes] {b o ln c m : Nat} {ob : AObj} {v : Value} {xs : List Value}
    (hx : ev τ x = some (.slice (some ⟨b, o, none⟩) ln c)) (hy : ev τ y = some v) (hb : σ.get b = some ob) (ho : ob.own = true) (hle : o + ln * sz ≤ ob.cells.length) (hsrc : Src σ sz v m xs) (hc1 : xs.all cell1 = true) :
    OpOK P C τ σ ⟨d, .call ⟨.builtin .copy, #[x, y], #[t, u]⟩, ty, pos, aft, g⟩ (.int .i64 (Nat.min m ln)) (σ.set b { ob with cells := setMany ob.cells o (xs.take (Nat.min m ln * sz)) }) := by
  intro n ι a w ht hs
  obtain ⟨i, zv, h1, h2, h3, h4, h5⟩ := he.out
  have h := ev_rel ht hx
  have h' := ev_rel ht hy
  generalize hz : a.eval x = z at h
  generalize hz' : a.eval y = z' at h'
  obtain ⟨l, hl, hO⟩ := hs.obj b ob hb
  have hsub : Src σ sz v m xs → (Builtin.firstCells sz (Nat.min m ln) z').run P w = .ok #[] w ∨ True := fun _ => .inr trivial
  -- what is read
  have hread : (Builtin.lenOf z').run P w = .ok m w ∧ ∃ xs', (Builtin.firstCells sz (Nat.min m ln) z').run P w = .ok xs' w ∧ LRel ι (xs.take (Nat.min m ln * sz)) xs'.toList := by
    refine ⟨(hsrc.run (P := P) hs h').1, ?_⟩
    have hmin : Nat.min m ln ≤ m := Nat.min_le_left _ _
    cases hsrc with
    | slice b2 o2 _ c2 ob2 hb2 hle2 =>
      have hmul : Nat.min m ln * sz ≤ m * sz := Nat.mul_le_mul_right _ hmin
      have hsrc2 : Src σ sz (.slice (some ⟨b2, o2, none⟩) (Nat.min m ln) unk) (Nat.min m ln) ((ob2.cells.drop o2).take (Nat.min m ln * sz)) := .slice b2 o2 _ unk ob2 hb2 (by omega)
      have e : ((ob2.cells.drop o2).take (m * sz)).take (Nat.min m ln * sz) = (ob2.cells.drop o2).take (Nat.min m ln * sz) := by rw [List.take_take, Nat.min_eq_left hmul]
      rw [e]
      obtain ⟨l2, hl2, ho2⟩ := hs.obj b2 ob2 hb2
      cases h' with
      | slice _ _ l' _ _ c' hl' hn hc ht =>
        rw [hl2] at hl'; injection hl' with hl'; subst hl'
        obtain ⟨xs', q1, q2, q3⟩ := cells_rel ho2 o2 (Nat.min m ln * sz) (by omega)
        refine ⟨xs'.toArray, ?_, by simpa using q3⟩
        have := run_loadCells_list (P := P) w ⟨l2.blk, l2.off + o2, none⟩ xs' q2
        rw [q1] at this
        simpa [Builtin.firstCells] using this
      | slice0 a a' _ hc =>
        have : Nat.min 0 ln = 0 := Nat.zero_min _
        rw [this]
        exact ⟨#[], by simp [Builtin.firstCells, loadCells, loadCellsFrom], by simpa using LRel.nil⟩
    | nil => cases h'; exact ⟨#[], by simp [Builtin.firstCells], by simpa using LRel.nil⟩
    | empty a c =>
      have h0 : Nat.min 0 ln = 0 := Nat.zero_min _
      rw [h0]
      cases h' with
      | slice => exact ⟨#[], by simp [Builtin.firstCells, loadCells, loadCellsFrom], by simpa using LRel.nil⟩
      | slice0 => exact ⟨#[], by simp [Builtin.firstCells, loadCells, loadCellsFrom], by simpa using LRel.nil⟩
    | text l2 hsz =>
      cases h'
      refine ⟨((l2.take (Nat.min l2.length ln)).map fun x => Value.int .u8 x.toNat).toArray, ?_, ?_⟩
      · have : (B l2).extract 0 (Nat.min l2.length ln) = B (l2.take (Nat.min l2.length ln)) := by rw [B_extract]; simp
        simp [Builtin.firstCells, this]
      · rw [hsz, Nat.mul_one]
        simp only [← List.map_take]
        exact LRel.flat (by rw [List.all_eq_true]; intro q hq; obtain ⟨q', _, rfl⟩ := List.mem_map.1 hq; rfl) ι
  obtain ⟨hlen, xs', hf, hr⟩ := hread
  have hxl := hsrc.length
  have htl : (xs.take (Nat.min m ln * sz)).length = Nat.min m ln * sz := by
    rw [List.length_take, hxl]
    exact Nat.min_eq_left (Nat.mul_le_mul_right _ (Nat.min_le_left _ _))
  have hmul2 : Nat.min m ln * sz ≤ ln * sz := Nat.mul_le_mul_right _ (Nat.min_le_right _ _)
  have hc2 : (xs.take (Nat.min m ln * sz)).all cell1 = true := by
    rw [List.all_eq_true] at hc1 ⊢
    exact fun q hq => hc1 q (List.mem_of_mem_take hq)
  have hop : ∀ w' : World, (Builtin.copy_ #[t, u] ty #[z, z']).run P w = .ok (goInt (Nat.min m ln)) w' → (execOp a.eval ⟨d, .call ⟨.builtin .copy, #[x, y], #[t, u]⟩, ty, pos, aft, g⟩).run P w = .ok (.value (.int .i64 (Nat.min m ln))) w' := by
    intro w' hrun
    have e := run_builtin (P := P) (d := d) (ty := ty) (pos := pos) (aft := aft) (g := g) (b := .copy) (xs := [x, y]) (ts := #[t, u]) (a := a) w
    rw [e]
    simp [builtin, hz, hz', hrun, goInt]
  cases h with
  | slice _ _ l' _ _ c' hl' hn hc ht2 =>
    rw [hl] at hl'; injection hl' with hl'; subst hl'
    obtain ⟨w', k1, k2, k3⟩ := run_storeCells (P := P) (o := o) hl (xs.take (Nat.min m ln * sz)) xs'.toList 0 σ w ob hs hb ho hr hc2 (by rw [htl]; omega)
    refine ⟨ι, w', .int .i64 (Nat.min m ln), .inl (hop w' ?_), k2, .int _ _, k3⟩
    simp [Builtin.copy_, run_ul, hlen, sizeOf, typeInfo, h1, h2, hf, k1]
  | slice0 a0 a' _ hc =>
    have h0 : Nat.min m 0 = 0 := Nat.min_zero _
    have hx0 : xs'.toList = [] := by
      have := hr.length
      rw [h0] at this
      simp at this
      simpa [eq_comm] using this
    have e1 : setMany ob.cells o (xs.take (Nat.min m 0 * sz)) = ob.cells := by rw [h0]; simp [setMany]
    rw [e1, set_same hb]
    refine ⟨ι, w, .int .i64 (Nat.min m 0), .inl (hop w ?_), .refl .., .int _ _, hs⟩
    have hx00 : xs' = #[] := by simpa using hx0
    rw [h0, hx00] at hf
    simp [Builtin.copy_, run_ul, hlen, sizeOf, typeInfo, h1, h2, h0, hf, storeCells]
end
end Go.AM
