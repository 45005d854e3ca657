/-
  The abstract store logic: aggregates put together, rows of elements made, appended to, copied, cut, turned into texts.
-/
import Derived.Test.YtimjbcmlchbhlaaAmMem
set_option linter.unusedVariables false
set_option linter.unusedSimpArgs false
namespace Go.AM
open Go Go.RowKit

/-! ### 1. Parts -/
theorem LRel.set {ι : Inj} {l l' : List Value} (h : LRel ι l l') (i : Nat) {v v' : Value} (hv : VRel ι v v') : LRel ι (l.set i v) (l'.set i v') := by
  match l, l', i, h with
  | _, _, _, .nil => simpa using LRel.nil
  | _, _, 0, .cons a a' r r' h hr => exact .cons _ _ _ _ hv hr
  | _, _, i + 1, .cons a a' r r' h hr => exact .cons _ _ _ _ h (hr.set i hv)
theorem LRel.setMany {ι : Inj} : ∀ {vs vs' l l' : List Value} (i : Nat), LRel ι l l' → LRel ι vs vs' → LRel ι (AM.setMany l i vs) (AM.setMany l' i vs')
  | _, _, l, l', i, h, .nil => h
  | _, _, l, l', i, h, .cons v v' r r' hv hr => LRel.setMany (i + 1) (h.set i hv) hr
/-- The parts of a literal, laid into cells: abstractly. -/
def afill (place : Nat → Option (Nat × Nat)) (cells : List Value) : List (Nat × Value) → Option (List Value)
  | [] => some cells
  | (i, v) :: rest =>
    match place i with
    | none => none
    | some (off, size) => if (scells v).length = size ∧ off + (scells v).length ≤ cells.length then afill place (setMany cells off (scells v)) rest else none
theorem foldl_set : ∀ (vs : List Value) (k off : Nat) (cells : Array Value), ((vs.zipIdx k).foldl (fun (cs : Array Value) (p : Value × Nat) => cs.setIfInBounds (off + p.2) p.1) cells).toList = setMany cells.toList (off + k) vs
  | [], k, off, cells => rfl
  | v :: vs, k, off, cells => by
    simp only [List.zipIdx_cons, List.foldl_cons]
    rw [foldl_set vs (k + 1) off]
    simp [setMany, Nat.add_assoc]
theorem setMany_length : ∀ (vs l : List Value) (i : Nat), (setMany l i vs).length = l.length
  | [], l, i => rfl
  | v :: vs, l, i => by rw [setMany, setMany_length]; simp
inductive PRel (ι : Inj) : List (Nat × Value) → List (Nat × Value) → Prop
  | nil : PRel ι [] []
  | cons (i : Nat) (v v' : Value) (r r' : List (Nat × Value)) (h : VRel ι v v') (hr : PRel ι r r') : PRel ι ((i, v) :: r) ((i, v') :: r')
theorem fill_rel {ι : Inj} (place : Nat → Option (Nat × Nat)) : ∀ {ps ps' : List (Nat × Value)} {cells : List Value} {cells' : Array Value} {r : List Value}, PRel ι ps ps' → LRel ι cells cells'.toList → afill place cells ps = some r →
    ∃ r', Instr.fill place cells' ps' = some r' ∧ LRel ι r r'.toList
  | _, _, cells, cells', r, .nil, hc, h => by
    simp only [afill] at h
    injection h with h
    subst h
    exact ⟨cells', rfl, hc⟩
  | _, _, cells, cells', r, .cons i v v' ps ps' hv hr, hc, h => by
    simp only [afill] at h
    simp only [Instr.fill]
    cases hp : place i with
    | none => rw [hp] at h; simp at h
    | some os =>
      obtain ⟨off, size⟩ := os
      rw [hp] at h
      simp only at h ⊢
      split at h
      · rename_i hcond
        have hs := scells_rel hv
        have hl := hs.length
        have hl2 := hc.length
        simp at hl hl2
        rw [if_neg (by simp; omega)]
        have e := foldl_set v'.cells.toList 0 off cells'
        refine fill_rel place hr ?_ h
        have e2 : (v'.cells.zipIdx.foldl (fun (cs : Array Value) (p : Value × Nat) => cs.setIfInBounds (off + p.2) p.1) cells').toList = setMany cells'.toList off v'.cells.toList := by
          rw [← Array.foldl_toList, Array.toList_zipIdx]
          exact e
        have e3 := hc.setMany off hs
        rw [← e2] at e3
        exact e3
      · simp at h

/-- The operands of the parts. -/
def parts? (τ : Env) : List (Nat × Operand) → Option (List (Nat × Value))
  | [] => some []
  | (i, x) :: r => match ev τ x, parts? τ r with
    | some v, some l => some ((i, v) :: l)
    | _, _ => none
theorem parts_rel {n : Nat} {ι : Inj} {τ : Env} {a : Act} (ht : TRel ι n τ a) : ∀ {xs : List (Nat × Operand)} {vs : List (Nat × Value)}, parts? τ xs = some vs → PRel ι vs (xs.map fun p => (p.1, a.eval p.2))
  | [], vs, h => by simp only [parts?] at h; injection h with h; subst h; exact .nil
  | (i, x) :: r, vs, h => by
    simp only [parts?] at h
    split at h
    · rename_i v l hv hl
      injection h with h
      subst h
      exact .cons _ _ _ _ _ (ev_rel ht hv) (parts_rel ht hl)
    · simp at h

/-- How a struct is laid: its zero cells, its fields' places. -/
class BD (P : Program) (t : TypeId) (z : outParam (List Value)) (pl : outParam (List (Nat × Nat))) : Prop where
  zero : ∃ i zv, P.info? t = some i ∧ i.zero = some zv ∧ zv.cells.toList = z ∧ z.all flat = true
  out : ∃ fs : Array Field, P.underlying t = some (.struct fs) ∧ fs.toList.map (fun f => (f.offset, P.info? f.type |>.map (·.size))) = pl.map (fun p => (p.1, some p.2))

section
variable {P : Program} {C : World} {n : Nat} {τ : Env} {σ : AStore} {ty : TypeId} {pos : String} {aft : Array Edge} {g : Option (Nat × Bool)} {d : Option Nat}

theorem run_places : ∀ (fs : List Field) (pl : List (Nat × Nat)) (w : World), fs.map (fun f => (f.offset, P.info? f.type |>.map (·.size))) = pl.map (fun p => (p.1, some p.2)) →
    (fs.mapM (fun f => (do pure (f.offset, ← sizeOf f.type) : Sem (Nat × Nat)))).run P w = .ok pl w
  | [], pl, w, h => by
    simp at h
    have : pl = [] := by simpa [eq_comm] using h
    subst this
    simp
  | f :: fs, [], w, h => by simp at h
  | f :: fs, p :: pl, w, h => by
    simp only [List.map_cons, List.cons.injEq, Prod.mk.injEq] at h
    obtain ⟨⟨h1, h2⟩, h3⟩ := h
    obtain ⟨i, hi, hs⟩ := Option.map_eq_some_iff.1 h2
    have ih := run_places fs pl w h3
    rw [List.mapM_cons, Sem.run_bind]
    simp only [Sem.run_bind, sizeOf, typeInfo, run_program, hi, Result.andThen_ok, Sem.run_pure, hs, h1] at ih ⊢
    rw [ih]
    rfl
theorem PureOK.build {t : TypeId} {z : List Value} {pl : List (Nat × Nat)} [hb : BD P t z pl] {xs : List (Nat × Operand)} {ps : List (Nat × Value)} {r : List Value} (hx : parts? τ xs = some ps) (hf : afill (fun i => pl[i]?) z ps = some r) :
    PureOK P τ ⟨d, .build t xs.toArray, ty, pos, aft, g⟩ (.agg r.toArray) := by
  intro n ι a ht
  obtain ⟨i, zv, h1, h2, h3, h4⟩ := hb.zero
  obtain ⟨fs, h5, h6⟩ := hb.out
  obtain ⟨r', h7, h8⟩ := fill_rel (ι := ι) (fun i => pl[i]?) (cells' := zv.cells) (parts_rel ht hx) (by rw [h3]; exact LRel.flat h4 ι) hf
  refine ⟨.agg r', fun w => ?_, .agg _ _ (by simpa using h8)⟩
  have e1 := run_places (P := P) fs.toList pl w h6
  have e2 : (fs.mapM (fun f => (do pure (f.offset, ← sizeOf f.type) : Sem (Nat × Nat)))).run P w = .ok pl.toArray w := by
    rw [Array.mapM_eq_mapM_toList, Sem.run_map, e1]; rfl
  simp only [execOp, Sem.run_bind, Instr.build, zeroValue, typeInfo, run_program, h1, h2, Result.andThen_ok, Sem.run_pure, underlying, h5]
  rw [e2]
  simp only [Result.andThen_ok, List.map_toArray]
  have e3 : (fun x : Nat => pl.toArray[x]?) = fun i => pl[i]? := by funext x; simp
  rw [e3, h7]
  simp

/-- A row's elements as they are when nothing has been laid. -/
class ZE (P : Program) (e : TypeId) (sz : outParam Nat) (z : outParam (List Value)) : Prop where
  out : ∃ i zv, P.info? e = some i ∧ i.size = sz ∧ i.zero = some zv ∧ zv.cells.toList = z ∧ z.all flat = true ∧ z.length = sz
def zrow (z : List Value) (len : Nat) : List Value := (List.range (len * z.length)).map fun i => z[i % z.length]!
theorem zrow_flat {z : List Value} (h : z.all flat = true) (len : Nat) : (zrow z len).all flat = true := by
  rw [List.all_eq_true]
  intro v hv
  simp only [zrow, List.mem_map, List.mem_range] at hv
  obtain ⟨i, hi, rfl⟩ := hv
  have hz : 0 < z.length := by
    rcases Nat.eq_zero_or_pos z.length with h0 | h0
    · rw [h0] at hi; simp at hi
    · exact h0
  have hlt : i % z.length < z.length := Nat.mod_lt _ hz
  rw [getElem!_pos z _ hlt]
  exact List.all_eq_true.1 h _ (List.getElem_mem _)
theorem OpOK.buildSlice {t e : TypeId} {z : List Value} {sz len : Nat} [hu : UL P t (.slice e)] [hz : ZE P e sz z] {xs : List (Nat × Operand)} {ps : List (Nat × Value)} {r : List Value} (hx : parts? τ xs = some ps) (hlen : len * sz ≤ 16777216)
    (hf : afill (fun i => some (i * sz, sz)) (zrow z len) ps = some r) : OpOK P C τ σ ⟨d, .buildSlice t len xs.toArray, ty, pos, aft, g⟩ (.slice (some ⟨σ.next, 0, none⟩) len len) (σ.alloc ⟨r, e, sz, true⟩) := by
  intro n ι a w ht hs
  obtain ⟨i, zv, h1, h2, h3, h4, h5, h6⟩ := hz.out
  have hl : ∀ (ps : List (Nat × Value)) (c r : List Value), afill (fun i => some (i * sz, sz)) c ps = some r → r.length = c.length := by
    intro ps
    induction ps with
    | nil => intro c r h; simp only [afill] at h; injection h with h; rw [h]
    | cons p ps ih =>
      intro c r h
      simp only [afill] at h
      split at h
      · rw [ih _ _ h, setMany_length]
      · simp at h
  have hrl : r.length = len * sz := by rw [hl _ _ _ hf]; simp [zrow, h6]
  have hzl : (zrow z len) = ((Array.range (len * sz)).map (zv.cells[· % zv.cells.size]!)).toList := by
    have e1 : zv.cells.size = z.length := by rw [← h4]; simp
    simp only [zrow, Array.toList_map, Array.toList_range, h6, e1]
    apply List.map_congr_left
    intro j hj
    by_cases h0 : z.length = 0
    · simp only [List.mem_range] at hj; rw [← h6, h0] at hj; simp at hj
    · have hlt : j % z.length < z.length := Nat.mod_lt _ (by omega)
      have hlt2 : j % z.length < zv.cells.size := by omega
      rw [h6] at hlt hlt2
      rw [getElem!_pos z (j % sz) (by omega), getElem!_pos zv.cells (j % sz) hlt2]
      subst h4
      simp
  obtain ⟨r', h7, h8⟩ := fill_rel (ι := ι) (fun i => some (i * sz, sz)) (cells' := (Array.range (len * sz)).map (zv.cells[· % zv.cells.size]!)) (parts_rel ht hx) (by rw [← hzl]; exact LRel.flat (zrow_flat h5 len) ι) hf
  obtain ⟨ι', g1, g2, g3⟩ := new_obj (C := C) hs e r' r sz h8
  have hr' : r'.size = len * sz := by have := h8.length; simp at this; omega
  refine ⟨ι', _, .slice (some ⟨w.heap.size, 0, none⟩) len len, .inl ?_, g1, .slice _ 0 ⟨w.heap.size, 0, r'.size, sz⟩ len len len g3 (Nat.le_refl _) (.inr rfl) (.inr (by simp; omega)), g2⟩
  have hno : ¬ (len * sz > 2 ^ 24) := by omega
  by_cases h0 : len * sz = 0
  · have e0 : (Array.range 0).map ((#[] : Array Value)[· % (#[] : Array Value).size]!) = (Array.range (len * sz)).map (zv.cells[· % zv.cells.size]!) := by rw [h0]; simp
    have hno0 : ¬ ((0 : Nat) > 2 ^ 24) := by omega
    simp only [execOp, Sem.run_bind, Instr.buildSlice, run_ul, Result.andThen_ok, sizeOf, typeInfo, run_program, h1, Sem.run_pure, h2, h0, if_neg hno0, if_true, List.map_toArray]
    rw [e0, h7]
    simp [newRow]
  · simp only [execOp, Sem.run_bind, Instr.buildSlice, run_ul, Result.andThen_ok, sizeOf, typeInfo, run_program, h1, Sem.run_pure, h2, if_neg hno, if_neg h0, zeroValue, h3, List.map_toArray]
    rw [h7]
    simp [newRow]
end
end Go.AM
