/-
  The abstract store logic: slices as lists: what a slice reads as, rows of one's own, texts.
-/
import Derived.Test.YtimjbcmlchbhlaaAmDraw
set_option linter.unusedVariables false
set_option linter.unusedSimpArgs false
namespace Go.AM
open Go Go.RowKit

theorem vbool {a b : Bool} (h : a = true ↔ b = true) : Value.bool a = .bool b := by cases a <;> cases b <;> simp_all
theorem vint {k : IntKind} {a b : Int} (h : a = b) : Value.int k a = .int k b := by rw [h]
theorem vstr {a b : List UInt8} (h : a = b) : Value.string (B a) = .string (B b) := by rw [h]

/-- A slice whose m elements of sz cells each read as xs. -/
inductive Row (σ : AStore) (sz : Nat) : Value → List Value → Prop
  | nil : Row σ sz (.slice none 0 0) []
  | empty (a : Addr) (c : Nat) : Row σ sz (.slice (some a) 0 c) []
  | mk (b o m c : Nat) (ob : AObj) (xs : List Value) (hb : σ.get b = some ob) (hesz : ob.esz = 0 ∨ ob.esz = sz) (hle : o + m * sz ≤ ob.cells.length) (hx : (ob.cells.drop o).take (m * sz) = xs) : Row σ sz (.slice (some ⟨b, o, none⟩) m c) xs
theorem Row.src {σ : AStore} {sz : Nat} {v : Value} {xs : List Value} (h : Row σ sz v xs) (hs : 0 < sz) : ∃ m, Src σ sz v m xs ∧ m * sz = xs.length := by
  cases h with
  | nil => exact ⟨0, .nil, by simp⟩
  | empty a c => exact ⟨0, .empty a c, by simp⟩
  | mk b o m c ob xs hb hesz hle hx => subst hx; exact ⟨m, .slice b o m c ob hb hle, by simp; omega⟩
theorem Row.same {σ σ' : AStore} {sz : Nat} {v : Value} {xs : List Value} (h : Row σ sz v xs) (hs : Same σ σ' []) : Row σ' sz v xs := by
  cases h with
  | nil => exact .nil
  | empty a c => exact .empty a c
  | mk b o m c ob xs hb hesz hle hx => exact .mk b o m c ob xs (by rw [hs.get b (σ.wf b ob hb) (by simp)]; exact hb) hesz hle hx
theorem Row.take {σ : AStore} {sz : Nat} {b o m c : Nat} {xs : List Value} (h : Row σ sz (.slice (some ⟨b, o, none⟩) m c) xs) (j : Nat) (hj : j ≤ m) : Row σ sz (.slice (some ⟨b, o, none⟩) j c) (xs.take (j * sz)) := by
  cases h with
  | empty => have : j = 0 := by omega
             subst this; simpa using Row.empty _ _
  | mk _ _ _ _ ob _ hb hesz hle hx =>
    have h1 : j * sz ≤ m * sz := Nat.mul_le_mul_right _ hj
    refine .mk b o j c ob _ hb hesz (by omega) ?_
    rw [← hx, List.take_take, Nat.min_eq_left h1]
theorem Row.drop {σ : AStore} {sz : Nat} {b o m c : Nat} {xs : List Value} (h : Row σ sz (.slice (some ⟨b, o, none⟩) m c) xs) (j : Nat) (hj : j ≤ m) (c' : Nat) : Row σ sz (.slice (some ⟨b, o + j * sz, none⟩) (m - j) c') (xs.drop (j * sz)) := by
  cases h with
  | empty => have : j = 0 := by omega
             subst this; simpa using Row.empty _ _
  | mk _ _ _ _ ob _ hb hesz hle hx =>
    have h1 : (m - j) * sz + j * sz = m * sz := by rw [← Nat.add_mul]; congr 1; omega
    refine .mk b _ _ _ ob _ hb hesz (by omega) ?_
    rw [← hx, List.drop_take, List.drop_drop]
    congr 1
    omega
theorem Src.same {σ σ' : AStore} {sz m : Nat} {v : Value} {xs : List Value} (h : Src σ sz v m xs) (hs : Same σ σ' []) : Src σ' sz v m xs := by
  cases h with
  | slice b o _ c ob hb hle => exact .slice b o m c ob (by rw [hs.get b (σ.wf b ob hb) (by simp)]; exact hb) hle
  | nil => exact .nil
  | empty a c => exact .empty a c
  | text l h1 => exact .text l h1
/-- A slice's block, if it has one that counts. -/
def blkOf : Value → Option Nat
  | .slice (some a) (_ + 1) _ => some a.block
  | _ => none
theorem Row.same' {σ σ' : AStore} {sz : Nat} {v : Value} {xs : List Value} {ex : List Nat} (h : Row σ sz v xs) (hs : Same σ σ' ex) (hn : ∀ b, blkOf v = some b → b ∉ ex) : Row σ' sz v xs := by
  cases h with
  | nil => exact .nil
  | empty a c => exact .empty a c
  | mk b o m c ob xs hb hesz hle hx =>
    cases m with
    | zero =>
      have : xs = [] := by rw [← hx]; simp
      subst this
      exact .empty _ _
    | succ m => exact .mk b o (m + 1) c ob xs (by rw [hs.get b (σ.wf b ob hb) (hn b rfl)]; exact hb) hesz hle hx

/-- A row of one's own that has been made behind a store (or nothing). -/
inductive Own (base : Nat) (σ : AStore) (e sz : Nat) : Value → List Value → Prop
  | nil : Own base σ e sz (.slice none 0 0) []
  | empty (a : Addr) (hbase : base ≤ a.block) : Own base σ e sz (.slice (some a) 0 0) []
  | mk (b m c : Nat) (ob : AObj) (xs : List Value) (hb : σ.get b = some ob) (hbase : base ≤ b) (ho : ob.own = true) (hesz : ob.esz = sz) (hel : ob.elem = e) (hle : m * sz ≤ ob.cells.length) (hx : ob.cells.take (m * sz) = xs) : Own base σ e sz (.slice (some ⟨b, 0, none⟩) m c) xs
theorem Own.row {base : Nat} {σ : AStore} {e sz : Nat} {v : Value} {xs : List Value} (h : Own base σ e sz v xs) : Row σ sz v xs := by
  cases h with
  | nil => exact .nil
  | empty a hbase => exact .empty a 0
  | mk b m c ob xs hb hbase ho hesz hel hle hx => exact .mk b 0 m c ob xs hb (.inr hesz) (by omega) (by simpa using hx)
theorem Own.mono {base base' : Nat} {σ : AStore} {e sz : Nat} {v : Value} {xs : List Value} (h : Own base σ e sz v xs) (hb : base' ≤ base) : Own base' σ e sz v xs := by
  cases h with
  | nil => exact .nil
  | empty a hbase => exact .empty a (by omega)
  | mk b m c ob xs hb' hbase ho hesz hel hle hx => exact .mk b m c ob xs hb' (by omega) ho hesz hel hle hx
theorem Own.same {base : Nat} {σ σ' : AStore} {e sz : Nat} {v : Value} {xs : List Value} (h : Own base σ e sz v xs) (hs : Same σ σ' []) : Own base σ' e sz v xs := by
  cases h with
  | nil => exact .nil
  | empty a hbase => exact .empty a hbase
  | mk b m c ob xs hb hbase ho hesz hel hle hx => exact .mk b m c ob xs (by rw [hs.get b (σ.wf b ob hb) (by simp)]; exact hb) hbase ho hesz hel hle hx

/-- The block that a slice lies in. -/
def vb : Value → List Nat
  | .slice (some a) _ _ => [a.block]
  | _ => []
theorem Own.base {base : Nat} {σ : AStore} {e sz : Nat} {v : Value} {xs : List Value} (h : Own base σ e sz v xs) : ∀ b, b ∈ vb v → base ≤ b := by
  intro b hb
  cases h with
  | nil => simp [vb] at hb
  | empty a hbase => simp [vb] at hb; omega
  | mk b m c ob xs hb' hbase ho hesz hel hle hx => simp [vb] at hb; omega
theorem Own.new {base : Nat} {σ0 σ σ' : AStore} {e sz : Nat} {v : Value} {xs : List Value} (h : Own base σ e sz v xs) (hb : σ0.next ≤ base) (h0 : Same σ0 σ []) (h1 : Same σ σ' (vb v)) : Same σ0 σ' [] :=
  h0.new h1 fun x hx => .inr (Nat.le_trans hb (h.base x hx))
theorem Own.len {base : Nat} {σ : AStore} {e sz : Nat} {o : Option Addr} {m c : Nat} {xs : List Value} (h : Own base σ e sz (.slice o m c) xs) : m * sz = xs.length := by
  cases h with
  | nil => simp
  | empty => simp
  | mk b m c ob xs hb hbase ho hesz hel hle hx => rw [← hx]; simp; omega

section
variable {P : Program} {C : World} {n : Nat} {Q : Exit → Env → AStore → Prop} {τ : Env} {σ : AStore} {ops rest : List Oper} {ty : TypeId} {pos : String} {aft : Array Edge} {d : Option Nat}
theorem OpOK.appendO {x y : Operand} {t u e : TypeId} {sz bytes : Nat} [UL P t (.slice e)] [AU P u] [he : EL P e sz bytes] [hzs : ZS P e sz] {base m : Nat} {v w : Value} {xs ys : List Value}
    (hx : ev τ x = some v) (hy : ev τ y = some w) (hO : Own base σ e sz v xs) (hbase : base ≤ σ.next) (hsrc : Src σ sz w m ys) (hc1 : ys.all cell1 = true) (hbd : (xs.length + m) * bytes ≤ 140737488355328) (hbd0 : xs.length + m ≤ 9223372036854775807) (g : Option (Nat × Bool)) :
    ∃ v' σ', OpOK P C τ σ ⟨d, .call ⟨.builtin .append, #[x, y], #[t, u]⟩, ty, pos, aft, g⟩ v' σ' ∧ Own base σ' e sz v' (xs ++ ys) ∧ Same σ σ' (vb v) := by
  obtain ⟨_, _, _, _, _, _, hsz⟩ := he.out
  have hyl := hsrc.length
  have hnew : ∀ (hm : 0 < m), xs = [] → Own base (σ.alloc ⟨ys, e, sz, true⟩) e sz (.slice (some ⟨σ.next, 0, none⟩) m unk) (xs ++ ys) := by
    intro hm hxs
    subst hxs
    exact .mk σ.next m unk _ _ (get_alloc_self _ _) hbase rfl rfl rfl (by show m * sz ≤ ys.length; omega) (by show ys.take (m * sz) = [] ++ ys; rw [← hyl]; simp)
  cases hO with
  | nil =>
    by_cases hm : m = 0
    · subst hm
      have : ys = [] := List.length_eq_zero_iff.1 (by omega)
      subst this
      exact ⟨_, σ, OpOK.append_nil0 hx hy hsrc, .nil, .refl _ _⟩
    · refine ⟨_, _, OpOK.append_nil hx hy hsrc (by omega) (by simpa using hbd) (by simpa using hbd0), hnew (by omega) rfl, .alloc _ _ _⟩
  | empty a hb =>
    by_cases hm : m = 0
    · subst hm
      have : ys = [] := List.length_eq_zero_iff.1 (by omega)
      subst this
      exact ⟨_, σ, OpOK.append_cap00 hx hy hsrc, .empty a hb, .refl _ _⟩
    · refine ⟨_, _, OpOK.append_cap0 hx hy hsrc (by omega) (by simpa using hbd) (by simpa using hbd0), hnew (by omega) rfl, .alloc _ _ _⟩
  | mk b ln c ob xs hb hbb ho hesz hel hle hxs =>
    have hlen : ln * sz = xs.length := by rw [← hxs]; simp; omega
    have hln : ln ≤ xs.length := by rw [← hlen]; exact Nat.le_mul_of_pos_right _ hsz
    have hk : (ln + m) * bytes ≤ 140737488355328 := Nat.le_trans (Nat.mul_le_mul_right _ (by omega)) hbd
    refine ⟨_, _, OpOK.append hx hy hb ho hesz hel hle hsrc hc1 hk (by omega), ?_, ?_⟩
    · rw [hxs]
      refine .mk σ.next (ln + m) unk ⟨xs ++ ys, e, sz, true⟩ _ ?_ hbase rfl rfl rfl (by simp; rw [Nat.add_mul]; omega) (by rw [List.take_of_length_le]; simp; rw [Nat.add_mul]; omega)
      exact get_alloc_self (σ.del b) _
    · exact (Same.del σ b [b] (by simp)).trans (.alloc _ _ _)
theorem A.appendO {x y : Operand} {t u e : TypeId} {sz bytes : Nat} [UL P t (.slice e)] [AU P u] [he : EL P e sz bytes] [hzs : ZS P e sz] {base m : Nat} {v w : Value} {xs ys : List Value}
    (hx : ev τ x = some v) (hy : ev τ y = some w) (hO : Own base σ e sz v xs) (hbase : base ≤ σ.next) (hsrc : Src σ sz w m ys) (hc1 : ys.all cell1 = true) (hbd : (xs.length + m) * bytes ≤ 140737488355328) (hbd0 : xs.length + m ≤ 9223372036854775807)
    (hd : dlt d n = true) (k : ∀ v' σ', Own base σ' e sz v' (xs ++ ys) → Same σ σ' (vb v) → AOps P C n ops rest Q (put τ d v') σ') :
    AOps P C n ops (⟨d, .call ⟨.builtin .append, #[x, y], #[t, u]⟩, ty, pos, aft, none⟩ :: rest) Q τ σ := by
  obtain ⟨v', σ', h1, h2, h3⟩ := OpOK.appendO (P := P) (C := C) (d := d) (t := t) (u := u) (ty := ty) (pos := pos) (aft := aft) hx hy hO hbase hsrc hc1 hbd hbd0 none
  exact AOps.step rfl h1 hd (k v' σ' h2 h3)
end

/-! ### Slices of texts -/
def strs (ls : List (List UInt8)) : List Value := ls.map fun l => .string (B l)
theorem strs_length (ls : List (List UInt8)) : (strs ls).length = ls.length := by simp [strs]
theorem strs_cell1 (ls : List (List UInt8)) : (strs ls).all cell1 = true := by
  rw [List.all_eq_true]; intro q hq; obtain ⟨q', _, rfl⟩ := List.mem_map.1 hq; rfl
theorem strs_flat (ls : List (List UInt8)) : (strs ls).all flat = true := by
  rw [List.all_eq_true]; intro q hq; obtain ⟨q', _, rfl⟩ := List.mem_map.1 hq; rfl
theorem strs_append (l m : List (List UInt8)) : strs (l ++ m) = strs l ++ strs m := by simp [strs]
theorem strs_take (l : List (List UInt8)) (i : Nat) : (strs l).take i = strs (l.take i) := by simp [strs]
theorem strs_drop (l : List (List UInt8)) (i : Nat) : (strs l).drop i = strs (l.drop i) := by simp [strs]
theorem row_len {σ : AStore} {o : Option Addr} {m c : Nat} {xs : List Value} (h : Row σ 1 (.slice o m c) xs) : m = xs.length := by
  cases h with
  | nil => rfl
  | empty => rfl
  | mk b o m c ob xs hb hesz hle hx => rw [← hx]; simp; omega
theorem cells_at {ob : AObj} {o m : Nat} {xs : List Value} (hle : o + m * 1 ≤ ob.cells.length) (hx : (ob.cells.drop o).take (m * 1) = xs) {i : Nat} {x : Value} (hi : xs[i]? = some x) : ob.cells[o + i]? = some x := by
  have hlt : i < m := by
    have := (List.getElem?_eq_some_iff.1 hi).1
    rw [← hx] at this
    simp at this
    omega
  rw [← hx, List.getElem?_take, if_pos (by omega), List.getElem?_drop] at hi
  exact hi
theorem str_at {ob : AObj} {o m : Nat} {ls : List (List UInt8)} (hle : o + m * 1 ≤ ob.cells.length) (hx : (ob.cells.drop o).take (m * 1) = strs ls) (i : Int) (h0 : 0 ≤ i) (h1 : i < ls.length) : ldm none ob (o + i.toNat * 1) = some (.string (B (ls.getD i.toNat []))) := by
  have hi : i.toNat < ls.length := by omega
  rw [Nat.mul_one]
  refine cells_at hle hx ?_
  simp [strs, List.getElem?_eq_getElem hi, List.getD_eq_getElem?_getD]
/-! ### Slices of bytes -/
theorem byte_at {ob : AObj} {o m : Nat} {l : List UInt8} (hle : o + m * 1 ≤ ob.cells.length) (hx : (ob.cells.drop o).take (m * 1) = bys l) (i : Int) (h0 : 0 ≤ i) (h1 : i < l.length) : ldm none ob (o + i.toNat * 1) = some (.int .u8 (gb l i)) := by
  have hi : i.toNat < l.length := by omega
  rw [Nat.mul_one]
  refine cells_at hle hx ?_
  unfold gb
  simp [bys, List.getElem?_eq_getElem hi, List.getD_eq_getElem?_getD]
end Go.AM
