/-
  The abstract store logic: rules that read slices as rows, without cases.
-/
import Derived.Test.YtimjbcmlchbhlaaAmRow
set_option linter.unusedVariables false
set_option linter.unusedSimpArgs false
namespace Go.AM
open Go Go.RowKit
/-- A slice's block and place. -/
def rb : Value → Nat
  | .slice (some a) _ _ => a.block
  | _ => 0
def ro : Value → Nat
  | .slice (some a) _ _ => a.off
  | _ => 0
theorem Row.form {σ : AStore} {sz m : Nat} {v : Value} {xs : List Value} (h : Row σ sz v xs) (hs : 0 < sz) (hm : xs.length = m * sz) : ∃ o c, v = .slice o m c := by
  have key : ∀ k, xs.length = k * sz → k = m := fun k hk => Nat.eq_of_mul_eq_mul_right hs (by omega)
  cases h with
  | nil => have := key 0 (by simp); subst this; exact ⟨_, _, rfl⟩
  | empty a c => have := key 0 (by simp); subst this; exact ⟨_, _, rfl⟩
  | mk b o k c ob xs hb hesz hle hx => have := key k (by rw [← hx]; simp; omega); subst this; exact ⟨_, _, rfl⟩
theorem Row.place {σ : AStore} {sz m : Nat} {v : Value} {xs : List Value} (h : Row σ sz v xs) (hs : 0 < sz) (hm : xs.length = m * sz) (h0 : 0 < m) :
    ∃ c ob, v = .slice (some ⟨rb v, ro v, none⟩) m c ∧ σ.get (rb v) = some ob ∧ (ob.esz = 0 ∨ ob.esz = sz) ∧ ro v + m * sz ≤ ob.cells.length ∧ (ob.cells.drop (ro v)).take (m * sz) = xs := by
  have hpos : 0 < m * sz := Nat.mul_pos h0 hs
  cases h with
  | nil => simp at hm; omega
  | empty a c => simp at hm; omega
  | mk b o k c ob xs hb hesz hle hx =>
    have : k = m := Nat.eq_of_mul_eq_mul_right hs (by rw [← hm, ← hx]; simp; omega)
    subst this
    exact ⟨c, ob, rfl, hb, hesz, hle, hx⟩

section
variable {P : Program} {C : World} {n : Nat} {Q : Exit → Env → AStore → Prop} {τ : Env} {σ : AStore} {ops rest : List Oper} {ty : TypeId} {pos : String} {aft : Array Edge} {d : Option Nat} {g : Option (Nat × Bool)}
theorem PureOK.lenR {x : Operand} {v : Value} {xs : List Value} {t e : TypeId} {sz m : Nat} [hu : UL P t (.slice e)] (hx : ev τ x = some v) (hr : Row σ sz v xs) (hs : 0 < sz) (hm : xs.length = m * sz) :
    PureOK P τ ⟨d, .call ⟨.builtin .len, #[x], #[t]⟩, ty, pos, aft, g⟩ (.int .i64 m) := by
  obtain ⟨o, c, rfl⟩ := hr.form hs hm
  exact PureOK.len_slice hx
theorem PureOK.indexR {x y : Operand} {v : Value} {xs : List Value} {k : IntKind} {i : Int} {t e : TypeId} {sz m : Nat} [hs : ES P t e sz] (hx : ev τ x = some v) (hy : ev τ y = some (.int k i)) (hr : Row σ sz v xs) (hz : 0 < sz) (hm : xs.length = m * sz) (h0 : 0 ≤ i) (h1 : i < m) :
    PureOK P τ ⟨d, .indexAddr t x y, ty, pos, aft, g⟩ (.pointer (some ⟨rb v, ro v + i.toNat * sz, none⟩)) := by
  obtain ⟨c, ob, hv, _⟩ := hr.place hz hm (by omega)
  have hx' : ev τ x = some (.slice (some ⟨rb v, ro v, none⟩) m c) := by rw [hx]; exact congrArg some hv
  exact PureOK.indexAddr hx' hy h0 h1
/-- What stands at a place of a row, as a load reads it. -/
theorem Row.ldm {sz m : Nat} {v : Value} {xs : List Value} (hr : Row σ sz v xs) (hz : 0 < sz) (hm : xs.length = m * sz) {j : Nat} {u : Value} (hj : xs[j]? = some u) : ∃ ob, σ.get (rb v) = some ob ∧ AM.ldm none ob (ro v + j) = some u := by
  have hlt := (List.getElem?_eq_some_iff.1 hj).1
  obtain ⟨c, ob, hv, hb, _, hle, hx⟩ := hr.place hz hm (by rcases Nat.eq_zero_or_pos m with rfl | h; (rw [hm] at hlt; simp at hlt); exact h)
  refine ⟨ob, hb, ?_⟩
  rw [← hx, List.getElem?_take, if_pos (by omega), List.getElem?_drop] at hj
  exact hj
theorem Row.ldmS {m : Nat} {v : Value} {ls : List (List UInt8)} (hr : Row σ 1 v (strs ls)) {i : Int} (h0 : 0 ≤ i) (h1 : i < ls.length) : ∃ ob, σ.get (rb v) = some ob ∧ AM.ldm none ob (ro v + i.toNat * 1) = some (.string (B (ls.getD i.toNat []))) := by
  rw [Nat.mul_one]
  have hi : i.toNat < ls.length := by omega
  exact hr.ldm (m := ls.length) (by omega) (by simp [strs]) (by simp [strs, List.getElem?_eq_getElem hi, List.getD_eq_getElem?_getD])
theorem Row.ldmB {m : Nat} {v : Value} {l : List UInt8} (hr : Row σ 1 v (bys l)) {i : Int} (h0 : 0 ≤ i) (h1 : i < l.length) : ∃ ob, σ.get (rb v) = some ob ∧ AM.ldm none ob (ro v + i.toNat * 1) = some (.int .u8 (gb l i)) := by
  rw [Nat.mul_one]
  have hi : i.toNat < l.length := by omega
  refine hr.ldm (m := l.length) (by omega) (by simp [bys]) ?_
  unfold gb
  simp [bys, List.getElem?_eq_getElem hi, List.getD_eq_getElem?_getD]
/-! The rules of regions in their order. -/
theorem A.lenS {x : Operand} {v : Value} {ls : List (List UInt8)} {t e : TypeId} [hu : UL P t (.slice e)] (hx : ev τ x = some v) (hr : Row σ 1 v (strs ls)) (hd : dlt d n = true)
    (k : AOps P C n ops rest Q (put τ d (.int .i64 ls.length)) σ) : AOps P C n ops (⟨d, .call ⟨.builtin .len, #[x], #[t]⟩, ty, pos, aft, none⟩ :: rest) Q τ σ := AOps.pure rfl (PureOK.lenR hx hr (by omega) (by simp [strs])) hd k
theorem A.lenB {x : Operand} {v : Value} {l : List UInt8} {t e : TypeId} [hu : UL P t (.slice e)] (hx : ev τ x = some v) (hr : Row σ 1 v (bys l)) (hd : dlt d n = true)
    (k : AOps P C n ops rest Q (put τ d (.int .i64 l.length)) σ) : AOps P C n ops (⟨d, .call ⟨.builtin .len, #[x], #[t]⟩, ty, pos, aft, none⟩ :: rest) Q τ σ := AOps.pure rfl (PureOK.lenR hx hr (by omega) (by simp [bys])) hd k
theorem A.idxS {x y : Operand} {v : Value} {ls : List (List UInt8)} {k : IntKind} {i : Int} {t e : TypeId} [hs : ES P t e 1] (hx : ev τ x = some v) (hy : ev τ y = some (.int k i)) (hr : Row σ 1 v (strs ls)) (h0 : 0 ≤ i) (h1 : i < ls.length) (hd : dlt d n = true)
    (k : AOps P C n ops rest Q (put τ d (.pointer (some ⟨rb v, ro v + i.toNat * 1, none⟩))) σ) : AOps P C n ops (⟨d, .indexAddr t x y, ty, pos, aft, none⟩ :: rest) Q τ σ := AOps.pure rfl (PureOK.indexR (m := ls.length) hx hy hr (by omega) (by simp [strs]) h0 h1) hd k
theorem A.idxB {x y : Operand} {v : Value} {l : List UInt8} {k : IntKind} {i : Int} {t e : TypeId} [hs : ES P t e 1] (hx : ev τ x = some v) (hy : ev τ y = some (.int k i)) (hr : Row σ 1 v (bys l)) (h0 : 0 ≤ i) (h1 : i < l.length) (hd : dlt d n = true)
    (k : AOps P C n ops rest Q (put τ d (.pointer (some ⟨rb v, ro v + i.toNat * 1, none⟩))) σ) : AOps P C n ops (⟨d, .indexAddr t x y, ty, pos, aft, none⟩ :: rest) Q τ σ := AOps.pure rfl (PureOK.indexR (m := l.length) hx hy hr (by omega) (by simp [bys]) h0 h1) hd k
theorem A.loadS {x : Operand} {v : Value} {ls : List (List UInt8)} {i : Int} {t : TypeId} [LD P t none] (hx : ev τ x = some (.pointer (some ⟨rb v, ro v + i.toNat * 1, none⟩))) (hr : Row σ 1 v (strs ls)) (h0 : 0 ≤ i) (h1 : i < ls.length) (hd : dlt d n = true)
    (k : AOps P C n ops rest Q (put τ d (.string (B (ls.getD i.toNat [])))) σ) : AOps P C n ops (⟨d, .load t x, ty, pos, aft, none⟩ :: rest) Q τ σ := by
  obtain ⟨ob, hb, hv⟩ := hr.ldmS (m := ls.length) h0 h1
  exact A.load hx hb hv hd k
theorem A.loadB {x : Operand} {v : Value} {l : List UInt8} {i : Int} {t : TypeId} [LD P t none] (hx : ev τ x = some (.pointer (some ⟨rb v, ro v + i.toNat * 1, none⟩))) (hr : Row σ 1 v (bys l)) (h0 : 0 ≤ i) (h1 : i < l.length) (hd : dlt d n = true)
    (k : AOps P C n ops rest Q (put τ d (.int .u8 (gb l i))) σ) : AOps P C n ops (⟨d, .load t x, ty, pos, aft, none⟩ :: rest) Q τ σ := by
  obtain ⟨ob, hb, hv⟩ := hr.ldmB (m := l.length) h0 h1
  exact A.load hx hb hv hd k
theorem PureOK.beq_same {x y : Operand} {p : Bool} {t t' : TypeId} [UL P t .bool] (hx : ev τ x = some (.bool p)) (hy : ev τ y = some (.bool p)) : PureOK P τ ⟨d, .binOp .eql t x y t', ty, pos, aft, g⟩ (.bool true) := by
  have h := PureOK.beq (P := P) (d := d) (ty := ty) (pos := pos) (aft := aft) (g := g) (t := t) (t' := t') hx hy
  rwa [beq_self_eq_true] at h
theorem A.beq_same {x y : Operand} {p : Bool} {t t' : TypeId} [UL P t .bool] (hx : ev τ x = some (.bool p)) (hy : ev τ y = some (.bool p)) (hd : dlt d n = true)
    (k : AOps P C n ops rest Q (put τ d (.bool true)) σ) : AOps P C n ops (⟨d, .binOp .eql t x y t', ty, pos, aft, none⟩ :: rest) Q τ σ := AOps.pure rfl (PureOK.beq_same hx hy) hd k
/-! The rules of regions that draw. -/
theorem D.loadS [NP Q] {listed : List Bool} (i : Nat) {t : TypeId} {x : Operand} {v : Value} {ls : List (List UInt8)} {j : Int} (hi : ops[i]? = some ⟨d, .load t x, ty, pos, aft, none⟩) (hld : LD P t none) (hx : ev τ x = some (.pointer (some ⟨rb v, ro v + j.toNat * 1, none⟩)))
    (hr : Row σ 1 v (strs ls)) (h0 : 0 ≤ j) (h1 : j < ls.length) (hd : dlt d n = true) (ht : takeB ops.toArray listed.toArray true i = true) (k : AAny P C n ops (listed.set i true) Q (put τ d (.string (B (ls.getD j.toNat [])))) σ) : AAny P C n ops listed Q τ σ := by
  obtain ⟨ob, hb, hv⟩ := hr.ldmS (m := ls.length) h0 h1
  exact AAny.load i hi hx hb hv hd ht k
theorem D.loadB [NP Q] {listed : List Bool} (i : Nat) {t : TypeId} {x : Operand} {v : Value} {l : List UInt8} {j : Int} (hi : ops[i]? = some ⟨d, .load t x, ty, pos, aft, none⟩) (hld : LD P t none) (hx : ev τ x = some (.pointer (some ⟨rb v, ro v + j.toNat * 1, none⟩)))
    (hr : Row σ 1 v (bys l)) (h0 : 0 ≤ j) (h1 : j < l.length) (hd : dlt d n = true) (ht : takeB ops.toArray listed.toArray true i = true) (k : AAny P C n ops (listed.set i true) Q (put τ d (.int .u8 (gb l j))) σ) : AAny P C n ops listed Q τ σ := by
  obtain ⟨ob, hb, hv⟩ := hr.ldmB (m := l.length) h0 h1
  exact AAny.load i hi hx hb hv hd ht k
theorem D.nloadS [NP Q] {listed : List Bool} {i : Nat} {t : TypeId} {x : Operand} {v : Value} {ls : List (List UInt8)} {j : Int} (hi : ops[i]? = some ⟨d, .load t x, ty, pos, aft, none⟩) (hld : LD P t none) (hx : ev τ x = some (.pointer (some ⟨rb v, ro v + j.toNat * 1, none⟩)))
    (hr : Row σ 1 v (strs ls)) (h0 : 0 ≤ j) (h1 : j < ls.length) (hd : dlt d n = true) (k : AAny P C n ops (listed.set i true) Q (put τ d (.string (B (ls.getD j.toNat [])))) σ) : ANext P C n ops listed Q τ σ i := by
  obtain ⟨ob, hb, hv⟩ := hr.ldmS (m := ls.length) h0 h1
  exact ANext.op hi rfl (OpOK.load hx hb hv) hd k
theorem D.nloadB [NP Q] {listed : List Bool} {i : Nat} {t : TypeId} {x : Operand} {v : Value} {l : List UInt8} {j : Int} (hi : ops[i]? = some ⟨d, .load t x, ty, pos, aft, none⟩) (hld : LD P t none) (hx : ev τ x = some (.pointer (some ⟨rb v, ro v + j.toNat * 1, none⟩)))
    (hr : Row σ 1 v (bys l)) (h0 : 0 ≤ j) (h1 : j < l.length) (hd : dlt d n = true) (k : AAny P C n ops (listed.set i true) Q (put τ d (.int .u8 (gb l j))) σ) : ANext P C n ops listed Q τ σ i := by
  obtain ⟨ob, hb, hv⟩ := hr.ldmB (m := l.length) h0 h1
  exact ANext.op hi rfl (OpOK.load hx hb hv) hd k
theorem D.nload [NP Q] {listed : List Bool} {i : Nat} {t : TypeId} {x : Operand} {m : Option Nat} {b o : Nat} {ob : AObj} {v : Value} (hi : ops[i]? = some ⟨d, .load t x, ty, pos, aft, none⟩) (hld : LD P t m) (hx : ev τ x = some (.pointer (some ⟨b, o, none⟩)))
    (hb : σ.get b = some ob) (hv : ldm m ob o = some v) (hd : dlt d n = true) (k : AAny P C n ops (listed.set i true) Q (put τ d v) σ) : ANext P C n ops listed Q τ σ i := ANext.op hi rfl (OpOK.load hx hb hv) hd k
theorem D.ncall [NP Q] {listed : List Bool} {i : Nat} {f : FuncId} {xs : List Operand} {ts : Array TypeId} {vs : List Value} {R : Value → AStore → Prop} (hi : ops[i]? = some ⟨d, .call ⟨.value (.func f), xs.toArray, ts⟩, ty, pos, aft, none⟩) (hb : HasBody P f)
    (ha : args? τ xs = some vs) (hcall : ACalls P C f vs σ R) (hd : dlt d n = true) (k : ∀ v σ', R v σ' → AAny P C n ops (listed.set i true) Q (put τ d v) σ') : ANext P C n ops listed Q τ σ i := ANext.call R hi ha hcall hd k
theorem AAny.three [NP Q] {listed : List Bool} (i j k : Nat) (hr : Region.ready .any ops.toArray listed.toArray = [i, j, k]) (h : ANext P C n ops listed Q τ σ i) (h' : ANext P C n ops listed Q τ σ j) (h2 : ANext P C n ops listed Q τ σ k) : AAny P C n ops listed Q τ σ :=
  AAny.next hr (by simp) (fun q hq => by simp at hq; rcases hq with rfl | rfl | rfl <;> assumption)
theorem D.load [NP Q] {listed : List Bool} (i : Nat) {t : TypeId} {x : Operand} {m : Option Nat} {b o : Nat} {ob : AObj} {v : Value} (hi : ops[i]? = some ⟨d, .load t x, ty, pos, aft, none⟩) (hld : LD P t m) (hx : ev τ x = some (.pointer (some ⟨b, o, none⟩)))
    (hb : σ.get b = some ob) (hv : ldm m ob o = some v) (hd : dlt d n = true) (ht : takeB ops.toArray listed.toArray true i = true) (k : AAny P C n ops (listed.set i true) Q (put τ d v) σ) : AAny P C n ops listed Q τ σ := AAny.load i hi hx hb hv hd ht k
end
end Go.AM
