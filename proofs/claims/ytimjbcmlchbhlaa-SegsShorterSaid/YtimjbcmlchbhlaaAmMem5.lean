/-
  The abstract store logic: texts and bytes, cuts of slices and arrays, tests against nil.
-/
import Derived.Test.YtimjbcmlchbhlaaAmMem4
set_option linter.unusedVariables false
set_option linter.unusedSimpArgs false
namespace Go.AM
open Go Go.RowKit

def bys (l : List UInt8) : List Value := l.map fun x => .int .u8 x.toNat
theorem bys_flat (l : List UInt8) : (bys l).all flat = true := by
  rw [List.all_eq_true]; intro q hq; obtain ⟨q', _, rfl⟩ := List.mem_map.1 hq; rfl
theorem bys_cell1 (l : List UInt8) : (bys l).all cell1 = true := by
  rw [List.all_eq_true]; intro q hq; obtain ⟨q', _, rfl⟩ := List.mem_map.1 hq; rfl
theorem bys_length (l : List UInt8) : (bys l).length = l.length := by simp [bys]
theorem bys_append (l m : List UInt8) : bys (l ++ m) = bys l ++ bys m := by simp [bys]
theorem bys_take (l : List UInt8) (i : Nat) : (bys l).take i = bys (l.take i) := by simp [bys]
theorem bys_drop (l : List UInt8) (i : Nat) : (bys l).drop i = bys (l.drop i) := by simp [bys]
theorem bys_inj {l m : List UInt8} (h : bys l = bys m) : l = m := by
  have hf : ∀ x y : UInt8, (Value.int .u8 (x.toNat : Int)) = .int .u8 (y.toNat : Int) → x = y := by
    intro x y e
    injection e with _ e
    exact UInt8.toNat_inj.1 (by omega)
  induction l generalizing m with
  | nil => cases m with
    | nil => rfl
    | cons b m => simp [bys] at h
  | cons a l ih => cases m with
    | nil => simp [bys] at h
    | cons b m =>
      simp only [bys, List.map_cons, List.cons.injEq] at h
      rw [hf a b h.1, ih (by simpa [bys] using h.2)]

section
variable {P : Program} {C : World} {n : Nat} {τ : Env} {σ : AStore} {ty : TypeId} {pos : String} {aft : Array Edge} {g : Option (Nat × Bool)} {d : Option Nat}

/-! ### 1. Texts and bytes -/
theorem OpOK.toBytes {x : Operand} {l : List UInt8} {s t e : TypeId} [UL P s .string] [UL P t (.slice e)] [he : UL P e (.int .u8)] (hx : ev τ x = some (.string (B l))) :
    OpOK P C τ σ ⟨d, .convert s t x, ty, pos, aft, g⟩ (.slice (some ⟨σ.next, 0, none⟩) l.length unk) (σ.alloc ⟨bys l, e, 1, true⟩) := by
  intro n ι a w ht hs
  let cap := (Question.appendCap l.length 0 e).cut (w.tape w.drawn (.appendCap l.length 0 e))
  have hcap : l.length ≤ cap := grownCap_ge w l.length 0 e
  let cs : Array Value := (B l).data.map (fun b => Value.int .u8 b.toNat) ++ Array.replicate (cap - l.length) (.int .u8 0)
  have hcs : cs.size = cap := by simp [cs]; omega
  let w1 := w.drew.alloc (.cells cs e)
  let w2 := w1.freeze { block := w.heap.size, off := cap } 1
  have hw2 : w2.heap[w.heap.size]? = some (.cells cs e (cap, cap + 1)) := by
    have : w1.heap[w.heap.size]? = some (.cells cs e) := heap_alloc_self w.drew _
    simp [w2, World.freeze, Array.getElem?_modify, this]
  have hs2 := hs.drew.alloc w2 cs ⟨bys l, e, 1, true⟩ cs.size (cap, cap + 1) (fun j hj hk => by omega) hw2 (fun k hk => by
      have h1 : w1.heap[k]? = w.drew.heap[k]? := Below.heap_alloc _ _ _ hk
      have h2 : w2.heap[k]? = w1.heap[k]? := by
        have hne : w.heap.size ≠ k := Nat.ne_of_gt hk
        simp [w2, World.freeze, Array.getElem?_modify, hne]
      rw [h2, h1]) (by simp [w2, w1, World.freeze]) ⟨rfl, rfl, rfl⟩ (by
      have : cs.toList.take (bys l).length = bys l := by
        simp [cs, bys]
      show LRel ι (bys l) (cs.toList.take (bys l).length)
      rw [this]; exact LRel.flat (bys_flat l) ι) rfl
  obtain ⟨k1, k2, k3⟩ := hs2
  refine ⟨_, w2, .slice (some ⟨w.heap.size, 0, none⟩) l.length cap, .inl ?_, (Ext.drew ι σ w).trans k1, VRel.slice σ.next 0 ⟨w.heap.size, 0, cs.size, 1⟩ l.length unk cap k3 hcap (.inl rfl) (.inr ?_), k2⟩
  · simp only [execOp, ev_flat ht hx rfl, convert, Sem.run_bind, run_ul, Result.andThen_ok, Conv.stringToBytes, run_choose, B_size]
    have hf : (Question.appendCap l.length 0 e).forced = false := rfl
    rw [hf]
    simp only [Bool.false_eq_true, if_false, Result.andThen_ok, newRow, Sem.run_bind, run_newObj, Sem.run_pure, markStringish, run_shape]
    have hsh : (World.alloc (w.drew) (.cells cs e)).shape? w.heap.size = some (e, cap) := by
      unfold World.shape?
      rw [show (World.alloc (w.drew) (.cells cs e)).heap[w.heap.size]? = some (.cells cs e) from heap_alloc_self w.drew _]
      simp [hcs]
    have e1 : ({ heap := w.heap.push (Obj.cells (Array.map (fun b => Value.int IntKind.u8 ↑b.toNat) (B l).data ++ Array.replicate ((Question.appendCap l.length 0 e).cut (w.tape w.drawn (Question.appendCap l.length 0 e)) - l.length) (Value.int IntKind.u8 0)) e), tape := w.tape, drawn := w.drawn + 1, os := w.os, output := w.output } : World) = World.alloc (w.drew) (.cells cs e) := rfl
    first
      | rw [e1, hsh]; simp [freeze, w2, w1]; rfl
      | (simp only [World.drew_eq, World.alloc_eq] at *; rw [show (World.alloc (w.drew) (.cells cs e)).shape? w.heap.size = some (e, cap) from hsh]; rfl)
  · simp [hcs]
theorem OpOK.ofBytes {x : Operand} {b o ln c : Nat} {ob : AObj} {l : List UInt8} {s t e : TypeId} [hs : UL P s (.slice e)] [he : UL P e (.int .u8)] [ht : UL P t .string] (hx : ev τ x = some (.slice (some ⟨b, o, none⟩) ln c)) (hb : σ.get b = some ob)
    (hl : (ob.cells.drop o).take ln = bys l) (hle : o + ln ≤ ob.cells.length) : OpOK P C τ σ ⟨d, .convert s t x, ty, pos, aft, g⟩ (.string (B l)) σ := by
  intro n ι a w hτ hS
  have h := ev_rel hτ hx
  generalize hz : a.eval x = z at h
  obtain ⟨lc, hlc, hO⟩ := hS.obj b ob hb
  have hlen : l.length = ln := by have := congrArg List.length hl; simp [bys] at this; omega
  have hB : strOfNums (l.map fun x => (x.toNat : Int)) = B l := by
    have : (l.map (fun x => (x.toNat : Int))).map (fun n => UInt8.ofNat n.toNat) = l := by
      rw [List.map_map]
      conv => rhs; rw [← List.map_id l]
      apply List.map_congr_left
      intro q _
      simp
    unfold strOfNums
    first
      | rw [this]
      | (simp only [this])
      | simp [this, B]
  cases h with
  | slice _ _ l' _ _ c' hl' hn hc htt =>
    rw [hlc] at hl'; injection hl' with hl'; subst hl'
    have := run_convert_bytes_arg (P := P) w s e hs.eq he.eq lc.blk (lc.off + o) ln c' (l.map fun x => (x.toNat : Int)) (by simp [hlen]) (fun i hi => by
      obtain ⟨v', h1, h2⟩ := hO.cells (o + i) _ (List.getElem?_eq_getElem (by omega : o + i < ob.cells.length))
      have h3 : (bys l)[i]? = some (ob.cells[o + i]'(by omega)) := by
        rw [← hl, List.getElem?_take, if_pos hi, List.getElem?_drop, List.getElem?_eq_getElem (by omega : o + i < ob.cells.length)]
      have hil : i < l.length := by omega
      simp only [bys, List.getElem?_map, List.getElem?_eq_getElem hil, Option.map_some] at h3
      injection h3 with h3
      rw [← h3] at h2
      have h4 := h2.of_flat rfl
      rw [Nat.add_assoc, h1, h4]
      simp [List.getD_eq_getElem?_getD, List.getElem?_map, List.getElem?_eq_getElem hil]) t ht.eq
    rw [hB] at this
    exact ⟨ι, w, .string (B l), .inl (by simp only [execOp, hz, Sem.run_bind, this, Result.andThen_ok, Sem.run_pure]), .refl .., .string _, hS⟩
  | slice0 a0 a' _ hc =>
    have hl0 : l = [] := List.length_eq_zero_iff.1 hlen
    subst hl0
    refine ⟨ι, w, .string (B []), .inl ?_, .refl .., .string _, hS⟩
    have := run_convert_bytes_arg (P := P) w s e hs.eq he.eq a'.block a'.off 0 0 [] rfl (fun i hi => by omega) t ht.eq
    have h0 : (loadCells a' 0).run P w = .ok #[] w := by simp [loadCells, loadCellsFrom]
    simp [execOp, hz, convert, run_ul, Conv.bytesToString, h0]
    rfl
theorem PureOK.ofBytes_nil {x : Operand} {s t e : TypeId} [hs : UL P s (.slice e)] [he : UL P e (.int .u8)] [ht : UL P t .string] (hx : ev τ x = some (.slice none 0 0)) : PureOK P τ ⟨d, .convert s t x, ty, pos, aft, g⟩ (.string (B [])) :=
  fun n ι a hτ => ⟨.string (B []), fun w => by
    have := run_convert_bytes_nil (P := P) w s e hs.eq he.eq 0 0 t ht.eq
    have e : (ByteArray.empty) = B [] := rfl
    rw [e] at this
    simp only [execOp, ev_flat hτ hx rfl, Sem.run_bind, this, Result.andThen_ok, Sem.run_pure], .string _⟩

/-! ### 2. Cuts of slices -/
theorem OpOK.cut_gen {x : Operand} {lo hi : Option Operand} {b o ln c i j : Nat} {ob : AObj} {t e : TypeId} {sz : Nat} [hu : UL P t (.slice e)] [hz : ES P t e sz] (hx : ev τ x = some (.slice (some ⟨b, o, none⟩) ln c)) (hb : σ.get b = some ob) (hesz : ob.esz = 0 ∨ ob.esz = sz)
    (hij : i ≤ j ∧ j ≤ ln) (hlo : match lo with | some p => ∃ k m, ev τ p = some (.int k m) ∧ m = (i : Int) | none => i = 0) (hhi : match hi with | some q => ∃ k m, ev τ q = some (.int k m) ∧ m = (j : Int) | none => j = ln) :
    OpOK P C τ σ ⟨d, .slice t x lo hi none, ty, pos, aft, g⟩ (.slice (some ⟨b, o + i * sz, none⟩) (j - i) (if c = unk then unk else c - i)) σ := by
  intro n ι a w ht hs
  have h := ev_rel ht hx
  generalize hz2 : a.eval x = z at h
  obtain ⟨l, hl, hO⟩ := hs.obj b ob hb
  have hsz := run_sizeOf (P := P) (t := t) (e := e) (sz := sz)
  -- the bounds
  have hbnd : ∀ cap : Nat, ln ≤ cap → (Instr.sliceBounds true ln cap (lo.map a.eval) (hi.map a.eval) none).run P w = .ok (i, j, cap) w := by
    intro cap hcap
    have hiM : ∀ (m : Int), m = (i : Int) → m.toNat = i := fun m e => by omega
    have hjM : ∀ (m : Int), m = (j : Int) → m.toNat = j := fun m e => by omega
    cases lo with
    | none =>
      cases hi with
      | none => simp only at hlo hhi; subst hlo; subst hhi; simp [Instr.sliceBounds]
      | some q =>
        simp only at hlo hhi
        subst hlo
        obtain ⟨k, m, hm, rfl⟩ := hhi
        simp only [Instr.sliceBounds, Option.map_none, Option.map_some, ev_flat ht hm rfl, Sem.run_bind, Sem.run_pure, Result.andThen_ok]
        rw [run_sliceBound ⟨by omega, by omega⟩]
        simp
    | some p =>
      simp only at hlo
      obtain ⟨k, m, hm, rfl⟩ := hlo
      cases hi with
      | none =>
        simp only at hhi
        subst hhi
        simp only [Instr.sliceBounds, Option.map_none, Option.map_some, ev_flat ht hm rfl, Sem.run_bind, Sem.run_pure, Result.andThen_ok]
        rw [run_sliceBound ⟨by omega, by omega⟩]
        simp
      | some q =>
        simp only at hhi
        obtain ⟨k2, m2, hm2, rfl⟩ := hhi
        simp only [Instr.sliceBounds, Option.map_none, Option.map_some, ev_flat ht hm rfl, ev_flat ht hm2 rfl, Sem.run_bind, Sem.run_pure, Result.andThen_ok]
        rw [run_sliceBound ⟨by omega, by omega⟩]
        simp only [Result.andThen_ok]
        rw [run_sliceBound ⟨by omega, by omega⟩]
        simp
  have hrun : ∀ (ad : Addr) (cap : Nat), ln ≤ cap → z = .slice (some ad) ln cap → (execOp a.eval ⟨d, .slice t x lo hi none, ty, pos, aft, g⟩).run P w = .ok (.value (.slice (some (if cap = i then ad else ad.add (i * sz))) (j - i) (cap - i))) w := by
    intro ad cap hcap hzz
    simp only [execOp, hz2, hzz, Instr.sliceAt, Sem.run_bind, run_ul, Result.andThen_ok, Instr.slice, Option.map_none, hbnd cap hcap, hsz, Sem.run_pure]
    by_cases hm : cap = i <;> simp [hm]
  cases h with
  | slice _ _ l' _ _ c' hl' hn hc htt =>
    rw [hl] at hl'; injection hl' with hl'; subst hl'
    have hr := hrun ⟨l.blk, l.off + o, none⟩ c' hn rfl
    by_cases hm : c' = i
    · rw [if_pos hm] at hr
      have h1 : j - i = 0 := by omega
      have h2 : c' - i = 0 := by omega
      rw [h1, h2] at hr
      rw [h1]
      refine ⟨ι, w, _, .inl hr, .refl .., .slice0 _ _ _ ?_, hs⟩
      rcases hc with hc | hc
      · left; rw [if_pos hc]
      · by_cases hu2 : c = unk
        · left; rw [if_pos hu2]
        · right; rw [if_neg hu2]; omega
    · rw [if_neg hm, add_spot] at hr
      refine ⟨ι, w, _, .inl hr, .refl .., ?_, hs⟩
      rw [Nat.add_assoc]
      refine .slice b (o + i * sz) l (j - i) _ (c' - i) hl (by omega) ?_ ?_
      · rcases hc with hc | hc
        · left; rw [if_pos hc]
        · by_cases hu2 : c = unk
          · left; rw [if_pos hu2]
          · right; rw [if_neg hu2]; omega
      · rcases htt with htt | htt
        · exact .inl htt
        · rcases hesz with he | he
          · left; rw [hO.esz, he]
          · right
            rw [hO.esz, he] at htt ⊢
            have hic : i ≤ c' := by omega
            have : i * sz + (c' - i) * sz = c' * sz := by rw [← Nat.add_mul]; congr 1; omega
            omega
  | slice0 a0 a' _ hc =>
    have hr := hrun a' 0 (Nat.le_refl _) rfl
    have hi0 : i = 0 := by omega
    have hj0 : j = 0 := by omega
    subst hi0; subst hj0
    rw [if_pos rfl] at hr
    refine ⟨ι, w, _, .inl hr, .refl .., .slice0 _ _ _ ?_, hs⟩
    rcases hc with hc | hc
    · left; rw [if_pos hc]
    · by_cases hu2 : c = unk
      · left; rw [if_pos hu2]
      · right; rw [if_neg hu2]; omega
theorem OpOK.cut_b {x q : Operand} {b o ln c : Nat} {ob : AObj} {t e : TypeId} {sz : Nat} {k : IntKind} {m : Int} [hu : UL P t (.slice e)] [hz : ES P t e sz] (hx : ev τ x = some (.slice (some ⟨b, o, none⟩) ln c)) (hq : ev τ q = some (.int k m)) (hb : σ.get b = some ob) (hesz : ob.esz = 0 ∨ ob.esz = sz)
    (h : 0 ≤ m ∧ m ≤ ln) : OpOK P C τ σ ⟨d, .slice t x none (some q) none, ty, pos, aft, g⟩ (.slice (some ⟨b, o, none⟩) m.toNat c) σ := by
  have := OpOK.cut_gen (P := P) (C := C) (t := t) (e := e) (sz := sz) (d := d) (ty := ty) (pos := pos) (aft := aft) (g := g) (lo := none) (hi := some q) (i := 0) (j := m.toNat) hx hb hesz (by omega) rfl ⟨k, m, hq, by omega⟩
  have e1 : (if c = unk then unk else c - 0) = c := by split <;> simp_all
  rw [e1] at this
  simpa using this
theorem OpOK.cut_a {x p : Operand} {b o ln c : Nat} {ob : AObj} {t e : TypeId} {sz : Nat} {k : IntKind} {m : Int} [hu : UL P t (.slice e)] [hz : ES P t e sz] (hx : ev τ x = some (.slice (some ⟨b, o, none⟩) ln c)) (hp : ev τ p = some (.int k m)) (hb : σ.get b = some ob) (hesz : ob.esz = 0 ∨ ob.esz = sz)
    (h : 0 ≤ m ∧ m ≤ ln) : OpOK P C τ σ ⟨d, .slice t x (some p) none none, ty, pos, aft, g⟩ (.slice (some ⟨b, o + m.toNat * sz, none⟩) (ln - m.toNat) (if c = unk then unk else c - m.toNat)) σ :=
  OpOK.cut_gen (lo := some p) (hi := none) (i := m.toNat) (j := ln) hx hb hesz (by omega) ⟨k, m, hp, by omega⟩ rfl
theorem OpOK.cut_ab {x p q : Operand} {b o ln c : Nat} {ob : AObj} {t e : TypeId} {sz : Nat} {k k' : IntKind} {m m' : Int} [hu : UL P t (.slice e)] [hz : ES P t e sz] (hx : ev τ x = some (.slice (some ⟨b, o, none⟩) ln c)) (hp : ev τ p = some (.int k m)) (hq : ev τ q = some (.int k' m')) (hb : σ.get b = some ob) (hesz : ob.esz = 0 ∨ ob.esz = sz)
    (h : 0 ≤ m ∧ m ≤ m' ∧ m' ≤ ln) : OpOK P C τ σ ⟨d, .slice t x (some p) (some q) none, ty, pos, aft, g⟩ (.slice (some ⟨b, o + m.toNat * sz, none⟩) (m'.toNat - m.toNat) (if c = unk then unk else c - m.toNat)) σ :=
  OpOK.cut_gen (lo := some p) (hi := some q) (i := m.toNat) (j := m'.toNat) hx hb hesz (by omega) ⟨k, m, hp, by omega⟩ ⟨k', m', hq, by omega⟩
/-- s[:0:0]. -/
theorem PureOK.cut00 {x p q : Operand} {ad : Addr} {ln c : Nat} {k k' : IntKind} {t e : TypeId} {sz : Nat} [hu : UL P t (.slice e)] [hz : ES P t e sz] (hx : ev τ x = some (.slice (some ad) ln c)) (hp : ev τ p = some (.int k 0)) (hq : ev τ q = some (.int k' 0)) :
    PureOK P τ ⟨d, .slice t x none (some p) (some q), ty, pos, aft, g⟩ (.slice (some ad) 0 0) := by
  intro n ι a ht
  have h := ev_rel ht hx
  generalize hz2 : a.eval x = z at h
  have hsz := run_sizeOf (P := P) (t := t) (e := e) (sz := sz)
  have key : ∃ a1 cap, z = .slice (some a1) ln cap := by cases h <;> exact ⟨_, _, rfl⟩
  obtain ⟨a1, cap, rfl⟩ := key
  refine ⟨.slice (some a1) 0 0, fun w => ?_, .slice0 _ _ _ (.inr rfl)⟩
  have hb1 : (Instr.sliceBounds true ln cap none (some (.int k 0)) (some (.int k' 0))).run P w = .ok (0, 0, 0) w := by
    simp only [Instr.sliceBounds, Sem.run_bind]
    rw [run_sliceBound ⟨by omega, by omega⟩]
    simp only [Result.andThen_ok, Sem.run_bind]
    rw [run_sliceBound ⟨by omega, by omega⟩]
    simp
  simp [execOp, hz2, Instr.sliceAt, run_ul, Instr.slice, ev_flat ht hp rfl, ev_flat ht hq rfl, hb1, hsz]
theorem PureOK.cutnil {x q : Operand} {k : IntKind} {t e : TypeId} {sz : Nat} [hu : UL P t (.slice e)] [hz : ES P t e sz] (hx : ev τ x = some (.slice none 0 0)) (hq : ev τ q = some (.int k 0)) : PureOK P τ ⟨d, .slice t x none (some q) none, ty, pos, aft, g⟩ (.slice none 0 0) :=
  fun n ι a ht => ⟨.slice none 0 0, fun w => by
    have hsz := run_sizeOf (P := P) (t := t) (e := e) (sz := sz)
    have hb1 : (Instr.sliceBounds true 0 0 none (some (.int k 0)) none).run P w = .ok (0, 0, 0) w := by
      simp only [Instr.sliceBounds, Sem.run_bind, Sem.run_pure, Result.andThen_ok]
      rw [run_sliceBound ⟨by omega, by omega⟩]
      simp
    simp [execOp, ev_flat ht hx rfl, ev_flat ht hq rfl, Instr.sliceAt, run_ul, Instr.slice, hb1, hsz], .nilslice⟩

/-! ### 3. Tests against nil -/
theorem eqGuard_slice {op : BinOp} {t : TypeId} {x y : Operand} {o o' : Option Addr} {a b c d' : Nat} (w : World) : (eqGuard op t x y (.slice o a b) (.slice o' c d')).run P w = .ok () w := by
  cases op <;> simp [eqGuard]
theorem eqGuard_ptr {op : BinOp} {t : TypeId} {x y : Operand} {o o' : Option Addr} (w : World) : (eqGuard op t x y (.pointer o) (.pointer o')).run P w = .ok () w := by
  cases op <;> simp [eqGuard]
theorem run_equal_slnil {t e : TypeId} [hu : UL P t (.slice e)] (o : Option Addr) (a b : Nat) (w : World) : (Op.equal t (.slice o a b) (.slice none 0 0)).run P w = .ok o.isNone w := by
  show (Op.equalIn (9999 + 1) t (.slice o a b) (.slice none 0 0)).run P w = _
  rw [Op.equalIn, Sem.run_bind, run_ul]
  cases o <;> rfl
theorem run_equal_ptrnil {t e : TypeId} [hu : UL P t (.pointer e)] (o : Option Addr) (w : World) : (Op.equal t (.pointer o) (.pointer none)).run P w = .ok o.isNone w := by
  show (Op.equalIn (9999 + 1) t (.pointer o) (.pointer none)).run P w = _
  rw [Op.equalIn, Sem.run_bind, run_ul]
  cases o <;> rfl
theorem slice_none {ι : Inj} {o : Option Addr} {a b : Nat} {v : Value} (h : VRel ι (.slice o a b) v) : ∃ o' a' b', v = .slice o' a' b' ∧ o'.isNone = o.isNone := by
  cases h <;> exact ⟨_, _, _, rfl, rfl⟩
theorem ptr_none {ι : Inj} {o : Option Addr} {v : Value} (h : VRel ι (.pointer o) v) : ∃ o', v = .pointer o' ∧ o'.isNone = o.isNone := by
  cases h <;> exact ⟨_, rfl, rfl⟩
theorem PureOK.slnil {x y : Operand} {o : Option Addr} {a b : Nat} {t t' e : TypeId} [hu : UL P t (.slice e)] (hx : ev τ x = some (.slice o a b)) (hy : ev τ y = some (.slice none 0 0)) : PureOK P τ ⟨d, .binOp .eql t x y t', ty, pos, aft, g⟩ (.bool o.isNone) := by
  intro n ι act ht
  obtain ⟨o', a', b', hz, ho⟩ := slice_none (ev_rel ht hx)
  refine ⟨.bool o.isNone, fun w => ?_, .bool _⟩
  simp only [execOp, hz, ev_flat ht hy rfl, Sem.run_bind, eqGuard_slice, Result.andThen_ok, binOp, run_equal_slnil, Sem.run_pure, ho]
theorem PureOK.slnil_ne {x y : Operand} {o : Option Addr} {a b : Nat} {t t' e : TypeId} [hu : UL P t (.slice e)] (hx : ev τ x = some (.slice o a b)) (hy : ev τ y = some (.slice none 0 0)) : PureOK P τ ⟨d, .binOp .neq t x y t', ty, pos, aft, g⟩ (.bool (!o.isNone)) := by
  intro n ι act ht
  obtain ⟨o', a', b', hz, ho⟩ := slice_none (ev_rel ht hx)
  refine ⟨.bool (!o.isNone), fun w => ?_, .bool _⟩
  simp only [execOp, hz, ev_flat ht hy rfl, Sem.run_bind, eqGuard_slice, Result.andThen_ok, binOp, run_equal_slnil, Sem.run_pure, ho]
theorem PureOK.ptrnil {x y : Operand} {o : Option Addr} {t t' e : TypeId} [hu : UL P t (.pointer e)] (hx : ev τ x = some (.pointer o)) (hy : ev τ y = some (.pointer none)) : PureOK P τ ⟨d, .binOp .eql t x y t', ty, pos, aft, g⟩ (.bool o.isNone) := by
  intro n ι act ht
  obtain ⟨o', hz, ho⟩ := ptr_none (ev_rel ht hx)
  refine ⟨.bool o.isNone, fun w => ?_, .bool _⟩
  simp only [execOp, hz, ev_flat ht hy rfl, Sem.run_bind, eqGuard_ptr, Result.andThen_ok, binOp, run_equal_ptrnil, Sem.run_pure, ho]
theorem PureOK.ptrnil_ne {x y : Operand} {o : Option Addr} {t t' e : TypeId} [hu : UL P t (.pointer e)] (hx : ev τ x = some (.pointer o)) (hy : ev τ y = some (.pointer none)) : PureOK P τ ⟨d, .binOp .neq t x y t', ty, pos, aft, g⟩ (.bool (!o.isNone)) := by
  intro n ι act ht
  obtain ⟨o', hz, ho⟩ := ptr_none (ev_rel ht hx)
  refine ⟨.bool (!o.isNone), fun w => ?_, .bool _⟩
  simp only [execOp, hz, ev_flat ht hy rfl, Sem.run_bind, eqGuard_ptr, Result.andThen_ok, binOp, run_equal_ptrnil, Sem.run_pure, ho]
end
end Go.AM
