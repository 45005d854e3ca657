/-
  The abstract store logic: operations that yield a value whatever the world: what each yields.
-/
import Derived.Test.YtimjbcmlchbhlaaAmCore
set_option linter.unusedVariables false
set_option linter.unusedSimpArgs false
namespace Go.AM
open Go Go.RowKit

/-- A string by its bytes. -/
abbrev B (l : List UInt8) : ByteArray := ByteArray.mk l.toArray
theorem B_size (l : List UInt8) : (B l).size = l.length := by simp [B, ByteArray.size]
theorem toList_loop (a : ByteArray) : ∀ (m i : Nat) (r : List UInt8), a.size - i = m → ByteArray.toList.loop a i r = r.reverse ++ a.data.toList.drop i
  | 0, i, r, h => by
    unfold ByteArray.toList.loop
    rw [if_neg (by omega)]
    have : a.data.toList.length ≤ i := by simp; exact (Nat.sub_eq_zero_iff_le.1 h)
    rw [List.drop_of_length_le this]; simp
  | m + 1, i, r, h => by
    unfold ByteArray.toList.loop
    have hlt : i < a.size := by omega
    rw [if_pos hlt, toList_loop a m (i + 1) _ (by omega)]
    have h2 : i < a.data.toList.length := by simpa using hlt
    rw [List.drop_eq_getElem_cons h2]
    have : a.get! i = a.data.toList[i] := by
      show a.data[i]! = _
      rw [getElem!_pos a.data i hlt]; simp
    simp [this]
theorem B_toList (l : List UInt8) : (B l).toList = l := by
  unfold ByteArray.toList
  rw [toList_loop (B l) _ 0 [] rfl]
  simp
theorem B_of (s : ByteArray) : ∃ l, s = B l := ⟨s.data.toList, by cases s; simp [B]⟩
theorem B_append (l m : List UInt8) : B l ++ B m = B (l ++ m) := by
  apply ByteArray.ext
  simp [ByteArray.data_append]
theorem B_extract (l : List UInt8) (i j : Nat) : (B l).extract i j = B ((l.take j).drop i) := by
  apply ByteArray.ext
  simp [ByteArray.data_extract, List.extract_eq_take_drop, List.drop_take]
theorem B_get? (l : List UInt8) (i : Nat) (h : i < l.length) : (B l)[i]? = some (l[i]) := by
  have : i < (B l).size := by rw [B_size]; exact h
  rw [getElem?_pos (B l) i this]
  rfl
theorem B_inj {l m : List UInt8} (h : B l = B m) : l = m := by
  have := congrArg ByteArray.toList h
  rwa [B_toList, B_toList] at this

theorem beq_dec {α : Type} [BEq α] [LawfulBEq α] [DecidableEq α] (x y : α) : (x == y) = decide (x = y) := by
  by_cases h : x = y
  · subst h; simp
  · rw [decide_eq_false h]; exact beq_eq_false_iff_ne.2 h
/-- A test's answer: what unification does not look into. -/
@[irreducible] def dec (p : Prop) [Decidable p] : Bool := decide p
theorem dec_def (p : Prop) [Decidable p] : dec p = decide p := by unfold dec; rfl
theorem dec_true {p : Prop} [Decidable p] : dec p = true ↔ p := by rw [dec_def]; exact decide_eq_true_iff
theorem dec_false {p : Prop} [Decidable p] : dec p = false ↔ ¬ p := by rw [dec_def]; exact decide_eq_false_iff_not
/-- The byte at a place, as a number. -/
@[irreducible] def gb (l : List UInt8) (n : Int) : Int := ((l.getD n.toNat 0).toNat : Int)
theorem gb_range (l : List UInt8) (n : Int) : 0 ≤ gb l n ∧ gb l n ≤ 255 := by
  unfold gb
  have := (l.getD n.toNat 0).toNat_lt
  omega

class UL (P : Program) (t : TypeId) (d : outParam TypeDesc) : Prop where
  eq : P.underlying t = some d
theorem run_ul {P : Program} {t : TypeId} {d : TypeDesc} [h : UL P t d] (w : World) : (underlying t).run P w = .ok d w := by
  simp [underlying, h.eq]
/-- The cells of an element: of a slice's type, or of an array's. -/
class ES (P : Program) (t : TypeId) (e : outParam TypeId) (sz : outParam Nat) : Prop where
  eq : P.underlying t = some (.slice e)
  sz : ∀ i, P.info? e = some i → i.size = sz
  ex : (P.info? e).isSome = true
/-- Where a field begins; it has cells. -/
class FO (P : Program) (t : TypeId) (f : Nat) (off : outParam Nat) : Prop where
  out : ∃ fs fd i, P.underlying t = some (.struct fs) ∧ fs[f]? = some fd ∧ fd.offset = off ∧ P.info? fd.type = some i ∧ i.size ≠ 0

section
variable {P : Program} {C : World} {n : Nat} {τ : Env} {σ : AStore} {ty : TypeId} {pos : String} {aft : Array Edge} {g : Option (Nat × Bool)} {d : Option Nat}

theorem PureOK.move {x : Operand} {v : Value} (h : ev τ x = some v) : PureOK P τ ⟨d, .move x, ty, pos, aft, g⟩ v :=
  fun n ι a ht => ⟨a.eval x, fun w => by simp [execOp], ev_rel ht h⟩
theorem PureOK.assign {x : Operand} {v : Value} (h : ev τ x = some v) : PureOK P τ ⟨d, .assign x, ty, pos, aft, g⟩ v :=
  fun n ι a ht => ⟨a.eval x, fun w => by simp [execOp], ev_rel ht h⟩
theorem ev_flat {ι : Inj} {a : Act} (ht : TRel ι n τ a) {x : Operand} {v : Value} (h : ev τ x = some v) (hf : flat v = true) : a.eval x = v := (ev_rel ht h).of_flat hf
theorem PureOK.pick_t {c x y : Operand} {v : Value} (hc : ev τ c = some (.bool true)) (h : ev τ x = some v) : PureOK P τ ⟨d, .pick c x y, ty, pos, aft, g⟩ v :=
  fun n ι a ht => ⟨a.eval x, fun w => by simp [execOp, ev_flat ht hc rfl, asBool], ev_rel ht h⟩
theorem PureOK.pick_f {c x y : Operand} {v : Value} (hc : ev τ c = some (.bool false)) (h : ev τ y = some v) : PureOK P τ ⟨d, .pick c x y, ty, pos, aft, g⟩ v :=
  fun n ι a ht => ⟨a.eval y, fun w => by simp [execOp, ev_flat ht hc rfl, asBool], ev_rel ht h⟩
theorem PureOK.pick {c x y : Operand} {b p q : Bool} (hc : ev τ c = some (.bool b)) (hx : ev τ x = some (.bool p)) (hy : ev τ y = some (.bool q)) : PureOK P τ ⟨d, .pick c x y, ty, pos, aft, g⟩ (.bool (if b then p else q)) :=
  fun n ι a ht => ⟨.bool (if b then p else q), fun w => by cases b <;> simp [execOp, ev_flat ht hc rfl, ev_flat ht hx rfl, ev_flat ht hy rfl, asBool], .bool _⟩

/-- Whole numbers. -/
theorem binInt {k : IntKind} {op : BinOp} {x y : Operand} {m l : Int} {t t' : TypeId} {v : Value} (hx : ev τ x = some (.int k m)) (hy : ev τ y = some (.int k l))
    (hs : op ≠ .shl ∧ op ≠ .shr) (hv : ∀ w, (binOp op t (.int k m) (.int k l)).run P w = .ok v w) (hf : flat v = true) : PureOK P τ ⟨d, .binOp op t x y t', ty, pos, aft, g⟩ v :=
  fun n ι a ht => ⟨v, fun w => by
    simp only [execOp, ev_flat ht hx rfl, ev_flat ht hy rfl, Sem.run_bind]
    have : (eqGuard op t x y (.int k m) (.int k l)).run P w = .ok () w := by
      unfold eqGuard; split <;> simp
    rw [this]
    simp [hv w], flat_rel hf ι⟩
theorem PureOK.add {k : IntKind} {x y : Operand} {m l : Int} {t t' : TypeId} (hx : ev τ x = some (.int k m)) (hy : ev τ y = some (.int k l)) : PureOK P τ ⟨d, .binOp .add t x y t', ty, pos, aft, g⟩ (.int k (k.wrap (m + l))) :=
  binInt hx hy (by simp) (fun w => by simp [binOp, Op.intArith]) rfl
theorem PureOK.sub {k : IntKind} {x y : Operand} {m l : Int} {t t' : TypeId} (hx : ev τ x = some (.int k m)) (hy : ev τ y = some (.int k l)) : PureOK P τ ⟨d, .binOp .sub t x y t', ty, pos, aft, g⟩ (.int k (k.wrap (m - l))) :=
  binInt hx hy (by simp) (fun w => by simp [binOp, Op.intArith]) rfl
theorem PureOK.mul {k : IntKind} {x y : Operand} {m l : Int} {t t' : TypeId} (hx : ev τ x = some (.int k m)) (hy : ev τ y = some (.int k l)) : PureOK P τ ⟨d, .binOp .mul t x y t', ty, pos, aft, g⟩ (.int k (k.wrap (m * l))) :=
  binInt hx hy (by simp) (fun w => by simp [binOp, Op.intArith]) rfl
theorem wrap_in {k : IntKind} {x : Int} (h : k.min ≤ x ∧ x ≤ k.max) : k.wrap x = x := by
  obtain ⟨h1, h2⟩ := h
  cases k <;> simp [IntKind.min, IntKind.max, IntKind.signed, IntKind.bits] at h1 h2 <;> simp only [IntKind.wrap, IntKind.signed, IntKind.bits] <;> simp <;> omega
theorem PureOK.add64 {x y : Operand} {m l : Int} {t t' : TypeId} (hx : ev τ x = some (.int .i64 m)) (hy : ev τ y = some (.int .i64 l)) (h : -9223372036854775808 ≤ m + l ∧ m + l ≤ 9223372036854775807) :
    PureOK P τ ⟨d, .binOp .add t x y t', ty, pos, aft, g⟩ (.int .i64 (m + l)) := by
  have := PureOK.add (P := P) (d := d) (t := t) (t' := t') (ty := ty) (pos := pos) (aft := aft) (g := g) hx hy
  rwa [wrap_in (k := .i64) (by simpa [IntKind.min, IntKind.max, IntKind.signed, IntKind.bits] using h)] at this
theorem PureOK.sub64 {x y : Operand} {m l : Int} {t t' : TypeId} (hx : ev τ x = some (.int .i64 m)) (hy : ev τ y = some (.int .i64 l)) (h : -9223372036854775808 ≤ m - l ∧ m - l ≤ 9223372036854775807) :
    PureOK P τ ⟨d, .binOp .sub t x y t', ty, pos, aft, g⟩ (.int .i64 (m - l)) := by
  have := PureOK.sub (P := P) (d := d) (t := t) (t' := t') (ty := ty) (pos := pos) (aft := aft) (g := g) hx hy
  rwa [wrap_in (k := .i64) (by simpa [IntKind.min, IntKind.max, IntKind.signed, IntKind.bits] using h)] at this
theorem PureOK.mul64 {x y : Operand} {m l : Int} {t t' : TypeId} (hx : ev τ x = some (.int .i64 m)) (hy : ev τ y = some (.int .i64 l)) (h : -9223372036854775808 ≤ m * l ∧ m * l ≤ 9223372036854775807) :
    PureOK P τ ⟨d, .binOp .mul t x y t', ty, pos, aft, g⟩ (.int .i64 (m * l)) := by
  have := PureOK.mul (P := P) (d := d) (t := t) (t' := t') (ty := ty) (pos := pos) (aft := aft) (g := g) hx hy
  rwa [wrap_in (k := .i64) (by simpa [IntKind.min, IntKind.max, IntKind.signed, IntKind.bits] using h)] at this
theorem PureOK.add8 {x y : Operand} {m l : Int} {t t' : TypeId} (hx : ev τ x = some (.int .u8 m)) (hy : ev τ y = some (.int .u8 l)) (h : 0 ≤ m + l ∧ m + l ≤ 255) :
    PureOK P τ ⟨d, .binOp .add t x y t', ty, pos, aft, g⟩ (.int .u8 (m + l)) := by
  have := PureOK.add (P := P) (d := d) (t := t) (t' := t') (ty := ty) (pos := pos) (aft := aft) (g := g) hx hy
  rwa [wrap_in (k := .u8) (by simpa [IntKind.min, IntKind.max, IntKind.signed, IntKind.bits] using h)] at this
theorem PureOK.sub8 {x y : Operand} {m l : Int} {t t' : TypeId} (hx : ev τ x = some (.int .u8 m)) (hy : ev τ y = some (.int .u8 l)) (h : 0 ≤ m - l ∧ m - l ≤ 255) :
    PureOK P τ ⟨d, .binOp .sub t x y t', ty, pos, aft, g⟩ (.int .u8 (m - l)) := by
  have := PureOK.sub (P := P) (d := d) (t := t) (t' := t') (ty := ty) (pos := pos) (aft := aft) (g := g) hx hy
  rwa [wrap_in (k := .u8) (by simpa [IntKind.min, IntKind.max, IntKind.signed, IntKind.bits] using h)] at this
theorem PureOK.lss {k : IntKind} {x y : Operand} {m l : Int} {t t' : TypeId} (hx : ev τ x = some (.int k m)) (hy : ev τ y = some (.int k l)) : PureOK P τ ⟨d, .binOp .lss t x y t', ty, pos, aft, g⟩ (.bool (dec (m < l))) :=
  binInt hx hy (by simp) (fun w => by simp [binOp, Op.intCmp, dec_def]) rfl
theorem PureOK.leq {k : IntKind} {x y : Operand} {m l : Int} {t t' : TypeId} (hx : ev τ x = some (.int k m)) (hy : ev τ y = some (.int k l)) : PureOK P τ ⟨d, .binOp .leq t x y t', ty, pos, aft, g⟩ (.bool (dec (m ≤ l))) :=
  binInt hx hy (by simp) (fun w => by simp [binOp, Op.intCmp, dec_def]) rfl
theorem PureOK.gtr {k : IntKind} {x y : Operand} {m l : Int} {t t' : TypeId} (hx : ev τ x = some (.int k m)) (hy : ev τ y = some (.int k l)) : PureOK P τ ⟨d, .binOp .gtr t x y t', ty, pos, aft, g⟩ (.bool (dec (l < m))) :=
  binInt hx hy (by simp) (fun w => by simp [binOp, Op.intCmp, dec_def]) rfl
theorem PureOK.geq {k : IntKind} {x y : Operand} {m l : Int} {t t' : TypeId} (hx : ev τ x = some (.int k m)) (hy : ev τ y = some (.int k l)) : PureOK P τ ⟨d, .binOp .geq t x y t', ty, pos, aft, g⟩ (.bool (dec (l ≤ m))) :=
  binInt hx hy (by simp) (fun w => by simp [binOp, Op.intCmp, dec_def]) rfl
theorem PureOK.eql {k : IntKind} {x y : Operand} {m l : Int} {t t' : TypeId} (hx : ev τ x = some (.int k m)) (hy : ev τ y = some (.int k l)) : PureOK P τ ⟨d, .binOp .eql t x y t', ty, pos, aft, g⟩ (.bool (dec (m = l))) :=
  binInt hx hy (by simp) (fun w => by simp [binOp, Op.intCmp, beq_dec, dec_def]) rfl
theorem PureOK.neq {k : IntKind} {x y : Operand} {m l : Int} {t t' : TypeId} (hx : ev τ x = some (.int k m)) (hy : ev τ y = some (.int k l)) : PureOK P τ ⟨d, .binOp .neq t x y t', ty, pos, aft, g⟩ (.bool (!dec (m = l))) :=
  binInt hx hy (by simp) (fun w => by simp [binOp, Op.intCmp, bne, beq_dec, dec_def]) rfl
/-- The bits of two numbers, by an operator. -/
@[irreducible] def ib (op : BinOp) (k : IntKind) (x y : Int) : Int :=
  match op with
  | .and => k.wrap (BitVec.ofInt k.bits x &&& BitVec.ofInt k.bits y).toNat
  | .or => k.wrap (BitVec.ofInt k.bits x ||| BitVec.ofInt k.bits y).toNat
  | .xor => k.wrap (BitVec.ofInt k.bits x ^^^ BitVec.ofInt k.bits y).toNat
  | _ => k.wrap (BitVec.ofInt k.bits x &&& ~~~ BitVec.ofInt k.bits y).toNat
theorem PureOK.and {k : IntKind} {x y : Operand} {m l : Int} {t t' : TypeId} (hx : ev τ x = some (.int k m)) (hy : ev τ y = some (.int k l)) : PureOK P τ ⟨d, .binOp .and t x y t', ty, pos, aft, g⟩ (.int k (ib .and k m l)) :=
  binInt hx hy (by simp) (fun w => by simp [binOp, Op.intBits, ib]) rfl
theorem PureOK.or {k : IntKind} {x y : Operand} {m l : Int} {t t' : TypeId} (hx : ev τ x = some (.int k m)) (hy : ev τ y = some (.int k l)) : PureOK P τ ⟨d, .binOp .or t x y t', ty, pos, aft, g⟩ (.int k (ib .or k m l)) :=
  binInt hx hy (by simp) (fun w => by simp [binOp, Op.intBits, ib]) rfl
theorem PureOK.quo {k : IntKind} {x y : Operand} {m l : Int} {t t' : TypeId} (hx : ev τ x = some (.int k m)) (hy : ev τ y = some (.int k l)) (h : l ≠ 0) : PureOK P τ ⟨d, .binOp .quo t x y t', ty, pos, aft, g⟩ (.int k (k.wrap (m.tdiv l))) :=
  binInt hx hy (by simp) (fun w => by simp [binOp, Op.intDiv, h]) rfl
theorem PureOK.rem {k : IntKind} {x y : Operand} {m l : Int} {t t' : TypeId} (hx : ev τ x = some (.int k m)) (hy : ev τ y = some (.int k l)) (h : l ≠ 0) : PureOK P τ ⟨d, .binOp .rem t x y t', ty, pos, aft, g⟩ (.int k (m.tmod l)) :=
  binInt hx hy (by simp) (fun w => by simp [binOp, Op.intDiv, h]) rfl
def isNI : Value → Bool
  | .nilIface => true
  | _ => false
theorem binAny {op : BinOp} {x y : Operand} {u v r : Value} {t t' : TypeId} (hx : ev τ x = some u) (hy : ev τ y = some v) (hu : flat u = true) (hv : flat v = true) (hi : isNI u = false ∨ isNI v = false)
    (hr : ∀ w, (binOp op t u v).run P w = .ok r w) (hf : flat r = true) : PureOK P τ ⟨d, .binOp op t x y t', ty, pos, aft, g⟩ r :=
  fun n ι a ht => ⟨r, fun w => by
    simp only [execOp, ev_flat ht hx hu, ev_flat ht hy hv, Sem.run_bind]
    have : (eqGuard op t x y u v).run P w = .ok () w := by
      cases op <;> first
        | (simp [eqGuard]; done)
        | (cases u <;> first
          | (simp [flat] at hu; done)
          | (cases v <;> first
            | (simp [flat] at hv; done)
            | (simp [eqGuard]; done)
            | (simp [isNI] at hi; done)))
    rw [this]
    simp [hr w], flat_rel hf ι⟩
theorem PureOK.shl {k k' : IntKind} {x y : Operand} {m l : Int} {t t' : TypeId} (hx : ev τ x = some (.int k m)) (hy : ev τ y = some (.int k' l)) (h : 0 ≤ l) : PureOK P τ ⟨d, .binOp .shl t x y t', ty, pos, aft, g⟩ (.int k (k.wrap (m * 2 ^ min l.toNat k.bits))) :=
  binAny hx hy rfl rfl (.inl rfl) (fun w => by simp [binOp, Op.shift]; omega) rfl
theorem PureOK.shr {k k' : IntKind} {x y : Operand} {m l : Int} {t t' : TypeId} (hx : ev τ x = some (.int k m)) (hy : ev τ y = some (.int k' l)) (h : 0 ≤ l) : PureOK P τ ⟨d, .binOp .shr t x y t', ty, pos, aft, g⟩ (.int k (m.fdiv (2 ^ min l.toNat k.bits))) :=
  binAny hx hy rfl rfl (.inl rfl) (fun w => by simp [binOp, Op.shift]; omega) rfl
theorem PureOK.seq {x y : Operand} {l m : List UInt8} {t t' : TypeId} (hx : ev τ x = some (.string (B l))) (hy : ev τ y = some (.string (B m))) : PureOK P τ ⟨d, .binOp .eql t x y t', ty, pos, aft, g⟩ (.bool (dec (l = m))) :=
  binAny hx hy rfl rfl (.inl rfl) (fun w => by simp [binOp, Op.stringOp, B_toList, beq_dec, dec_def]) rfl
theorem PureOK.sne {x y : Operand} {l m : List UInt8} {t t' : TypeId} (hx : ev τ x = some (.string (B l))) (hy : ev τ y = some (.string (B m))) : PureOK P τ ⟨d, .binOp .neq t x y t', ty, pos, aft, g⟩ (.bool (!dec (l = m))) :=
  binAny hx hy rfl rfl (.inl rfl) (fun w => by simp [binOp, Op.stringOp, B_toList, beq_dec, dec_def]) rfl
theorem PureOK.sadd {x y : Operand} {l m : List UInt8} {t t' : TypeId} (hx : ev τ x = some (.string (B l))) (hy : ev τ y = some (.string (B m))) (h : l.length + m.length ≤ 9223372036854775807) : PureOK P τ ⟨d, .binOp .add t x y t', ty, pos, aft, g⟩ (.string (B (l ++ m))) :=
  binAny hx hy rfl rfl (.inl rfl) (fun w => by
    have h1 : ¬ ((((B l).size + (B m).size : Nat) : Int) > IntKind.i64.max) := by
      rw [B_size, B_size]; simp [IntKind.max, IntKind.signed, IntKind.bits]; omega
    simp only [binOp, Op.stringOp, if_neg h1, B_append, Sem.run_pure]) rfl
theorem run_equal_bool {t : TypeId} [UL P t .bool] (p q : Bool) (w : World) : (Op.equal t (.bool p) (.bool q)).run P w = .ok (p == q) w := by
  show (Op.equalIn (9999 + 1) t (.bool p) (.bool q)).run P w = _
  rw [Op.equalIn, Sem.run_bind, run_ul]
  rfl
theorem PureOK.beq {x y : Operand} {p q : Bool} {t t' : TypeId} [UL P t .bool] (hx : ev τ x = some (.bool p)) (hy : ev τ y = some (.bool q)) : PureOK P τ ⟨d, .binOp .eql t x y t', ty, pos, aft, g⟩ (.bool (p == q)) :=
  binAny hx hy rfl rfl (.inl rfl) (fun w => by simp only [binOp, Sem.run_bind, run_equal_bool, Result.andThen_ok, Sem.run_pure]) rfl
theorem PureOK.bne {x y : Operand} {p q : Bool} {t t' : TypeId} [UL P t .bool] (hx : ev τ x = some (.bool p)) (hy : ev τ y = some (.bool q)) : PureOK P τ ⟨d, .binOp .neq t x y t', ty, pos, aft, g⟩ (.bool (!(p == q))) :=
  binAny hx hy rfl rfl (.inl rfl) (fun w => by simp only [binOp, Sem.run_bind, run_equal_bool, Result.andThen_ok, Sem.run_pure]) rfl
theorem PureOK.not {x : Operand} {b : Bool} {t : TypeId} (hx : ev τ x = some (.bool b)) : PureOK P τ ⟨d, .unOp .not t x, ty, pos, aft, g⟩ (.bool (!b)) :=
  fun n ι a ht => ⟨.bool (!b), fun w => by simp [execOp, ev_flat ht hx rfl, Op.unary], .bool _⟩
theorem PureOK.neg {x : Operand} {k : IntKind} {m : Int} {t : TypeId} (hx : ev τ x = some (.int k m)) : PureOK P τ ⟨d, .unOp .neg t x, ty, pos, aft, g⟩ (.int k (k.wrap (0 - m))) :=
  fun n ι a ht => ⟨.int k (k.wrap (0 - m)), fun w => by simp [execOp, ev_flat ht hx rfl, Op.unary, Op.intArith], .int _ _⟩

/-! Strings -/
theorem PureOK.index {x y : Operand} {l : List UInt8} {k : IntKind} {m : Int} {t : TypeId} [UL P t .string] (hx : ev τ x = some (.string (B l))) (hy : ev τ y = some (.int k m)) (h0 : 0 ≤ m) (h1 : m < l.length) :
    PureOK P τ ⟨d, .index t x y, ty, pos, aft, g⟩ (.int .u8 (gb l m)) :=
  fun n ι a ht => ⟨.int .u8 (gb l m), fun w => by
    have hlt : m.toNat < l.length := by omega
    have e : (B l)[m.toNat]? = some l[m.toNat] := B_get? l _ hlt
    have e2 : ((l[m.toNat]).toNat : Int) = gb l m := by
      unfold gb; rw [List.getD_eq_getElem?_getD, List.getElem?_eq_getElem hlt]; rfl
    simp only [execOp, ev_flat ht hx rfl, ev_flat ht hy rfl, Instr.index, asIntOf, Sem.run_bind, Sem.run_pure, Result.andThen_ok, run_ul, if_pos h0, e, e2], .int _ _⟩
theorem run_sliceBound {k : IntKind} {m : Int} {y : Nat} {code : BoundsCode} {w : World} (h : 0 ≤ m ∧ m ≤ y) : (Instr.sliceBound (.int k m) y code).run P w = .ok m.toNat w := by
  simp [Instr.sliceBound, asIntOf, h]
theorem run_slice_str {t : TypeId} [UL P t .string] (l : List UInt8) (lo hi : Option Value) (i j : Nat) (w : World) (h : (Instr.sliceBounds false l.length l.length lo hi none).run P w = .ok (i, j, l.length) w) :
    (Instr.sliceAt t (.string (B l)) lo hi none).run P w = .ok (.string (B ((l.take j).drop i))) w := by
  simp only [Instr.sliceAt, Sem.run_bind, run_ul, Result.andThen_ok, Instr.slice, Option.isSome_none, Bool.false_eq_true, if_false, Sem.run_pure]
  rw [B_size, h]
  simp [B_extract]
theorem PureOK.sl_ab {x p q : Operand} {l : List UInt8} {k k' : IntKind} {i j : Int} {t : TypeId} [UL P t .string] (hx : ev τ x = some (.string (B l))) (hp : ev τ p = some (.int k i)) (hq : ev τ q = some (.int k' j)) (h : 0 ≤ i ∧ i ≤ j ∧ j ≤ l.length) :
    PureOK P τ ⟨d, .slice t x (some p) (some q) none, ty, pos, aft, g⟩ (.string (B ((l.take j.toNat).drop i.toNat))) :=
  fun n ι a ht => ⟨_, fun w => by
    have e := run_slice_str (P := P) (t := t) l (some (.int k i)) (some (.int k' j)) i.toNat j.toNat w (by
      simp only [Instr.sliceBounds, Sem.run_bind, Sem.run_pure, Result.andThen_ok]
      rw [run_sliceBound ⟨by omega, by omega⟩]
      simp only [Result.andThen_ok]
      rw [run_sliceBound ⟨by omega, by omega⟩]
      simp)
    simp only [execOp, ev_flat ht hx rfl, Option.map_some, Option.map_none, ev_flat ht hp rfl, ev_flat ht hq rfl, Sem.run_bind, e, Result.andThen_ok, Sem.run_pure], .string _⟩
theorem PureOK.sl_a {x p : Operand} {l : List UInt8} {k : IntKind} {i : Int} {t : TypeId} [UL P t .string] (hx : ev τ x = some (.string (B l))) (hp : ev τ p = some (.int k i)) (h : 0 ≤ i ∧ i ≤ l.length) :
    PureOK P τ ⟨d, .slice t x (some p) none none, ty, pos, aft, g⟩ (.string (B (l.drop i.toNat))) :=
  fun n ι a ht => ⟨_, fun w => by
    have e := run_slice_str (P := P) (t := t) l (some (.int k i)) none i.toNat l.length w (by
      simp only [Instr.sliceBounds, Sem.run_bind, Sem.run_pure, Result.andThen_ok]
      rw [run_sliceBound ⟨by omega, by omega⟩]
      simp)
    rw [List.take_length] at e
    simp only [execOp, ev_flat ht hx rfl, Option.map_some, Option.map_none, ev_flat ht hp rfl, Sem.run_bind, e, Result.andThen_ok, Sem.run_pure], .string _⟩
theorem PureOK.sl_b {x q : Operand} {l : List UInt8} {k : IntKind} {j : Int} {t : TypeId} [UL P t .string] (hx : ev τ x = some (.string (B l))) (hq : ev τ q = some (.int k j)) (h : 0 ≤ j ∧ j ≤ l.length) :
    PureOK P τ ⟨d, .slice t x none (some q) none, ty, pos, aft, g⟩ (.string (B (l.take j.toNat))) :=
  fun n ι a ht => ⟨_, fun w => by
    have e := run_slice_str (P := P) (t := t) l none (some (.int k j)) 0 j.toNat w (by
      simp only [Instr.sliceBounds, Sem.run_bind, Sem.run_pure, Result.andThen_ok]
      rw [run_sliceBound ⟨by omega, by omega⟩]
      simp)
    rw [List.drop_zero] at e
    simp only [execOp, ev_flat ht hx rfl, Option.map_some, Option.map_none, ev_flat ht hq rfl, Sem.run_bind, e, Result.andThen_ok, Sem.run_pure], .string _⟩

/-! Conversions of numbers -/
theorem PureOK.conv {x : Operand} {k k' : IntKind} {m : Int} {s t : TypeId} [UL P s (.int k)] [UL P t (.int k')] (hx : ev τ x = some (.int k m)) : PureOK P τ ⟨d, .convert s t x, ty, pos, aft, g⟩ (.int k' (k'.wrap m)) :=
  fun n ι a ht => ⟨.int k' (k'.wrap m), fun w => by simp [execOp, ev_flat ht hx rfl, convert, run_ul, Conv.intToInt], .int _ _⟩
theorem PureOK.conv_in {x : Operand} {k k' : IntKind} {m : Int} {s t : TypeId} [UL P s (.int k)] [UL P t (.int k')] (hx : ev τ x = some (.int k m)) (h : k'.min ≤ m ∧ m ≤ k'.max) : PureOK P τ ⟨d, .convert s t x, ty, pos, aft, g⟩ (.int k' m) := by
  have := PureOK.conv (P := P) (d := d) (s := s) (t := t) (k' := k') (ty := ty) (pos := pos) (aft := aft) (g := g) hx
  rwa [wrap_in h] at this
theorem PureOK.conv_str {x : Operand} {l : ByteArray} {s t : TypeId} [UL P s .string] [UL P t .string] (hx : ev τ x = some (.string l)) : PureOK P τ ⟨d, .convert s t x, ty, pos, aft, g⟩ (.string l) :=
  fun n ι a ht => ⟨.string l, fun w => by simp [execOp, ev_flat ht hx rfl, convert, run_ul], .string _⟩

/-! len, min, max -/
theorem run_builtin {b : Builtin} {xs : List Operand} {ts : Array TypeId} {a : Act} (w : World) : (execOp a.eval ⟨d, .call ⟨.builtin b, xs.toArray, ts⟩, ty, pos, aft, g⟩).run P w =
    (builtin b ts ty (xs.toArray.map fun | .const _ => true | _ => false) (xs.map a.eval).toArray).run P w := by
  simp [execOp, resolve, invoke]
  rfl
theorem PureOK.len_str {x : Operand} {l : List UInt8} {t : TypeId} [UL P t .string] (hx : ev τ x = some (.string (B l))) : PureOK P τ ⟨d, .call ⟨.builtin .len, #[x], #[t]⟩, ty, pos, aft, g⟩ (.int .i64 l.length) :=
  fun n ι a ht => ⟨.int .i64 l.length, fun w => by
    have e := run_builtin (P := P) (d := d) (ty := ty) (pos := pos) (aft := aft) (g := g) (b := .len) (xs := [x]) (ts := #[t]) (a := a) w
    rw [e]
    simp [builtin, Builtin.len_, ev_flat ht hx rfl, run_ul, goInt, B_size], .int _ _⟩
theorem PureOK.len_slice {x : Operand} {o : Option Addr} {m c : Nat} {t e : TypeId} [UL P t (.slice e)] (hx : ev τ x = some (.slice o m c)) : PureOK P τ ⟨d, .call ⟨.builtin .len, #[x], #[t]⟩, ty, pos, aft, g⟩ (.int .i64 m) :=
  fun n ι a ht => ⟨.int .i64 m, fun w => by
    have e := run_builtin (P := P) (d := d) (ty := ty) (pos := pos) (aft := aft) (g := g) (b := .len) (xs := [x]) (ts := #[t]) (a := a) w
    rw [e]
    have h := ev_rel ht hx
    generalize hz : a.eval x = z at h
    cases h <;> simp [builtin, Builtin.len_, hz, run_ul, goInt], .int _ _⟩
theorem PureOK.min {x y : Operand} {k : IntKind} {m l : Int} {ts : Array TypeId} (hx : ev τ x = some (.int k m)) (hy : ev τ y = some (.int k l)) : PureOK P τ ⟨d, .call ⟨.builtin .min, #[x, y], ts⟩, ty, pos, aft, g⟩ (.int k (if l < m then l else m)) :=
  fun n ι a ht => ⟨.int k (if l < m then l else m), fun w => by
    have e := run_builtin (P := P) (d := d) (ty := ty) (pos := pos) (aft := aft) (g := g) (b := .min) (xs := [x, y]) (ts := ts) (a := a) w
    rw [e]
    simp [builtin, Builtin.min_, Builtin.min2, ev_flat ht hx rfl, ev_flat ht hy rfl], .int _ _⟩
theorem PureOK.max {x y : Operand} {k : IntKind} {m l : Int} {ts : Array TypeId} (hx : ev τ x = some (.int k m)) (hy : ev τ y = some (.int k l)) : PureOK P τ ⟨d, .call ⟨.builtin .max, #[x, y], ts⟩, ty, pos, aft, g⟩ (.int k (if m < l then l else m)) :=
  fun n ι a ht => ⟨.int k (if m < l then l else m), fun w => by
    have e := run_builtin (P := P) (d := d) (ty := ty) (pos := pos) (aft := aft) (g := g) (b := .max) (xs := [x, y]) (ts := ts) (a := a) w
    rw [e]
    simp [builtin, Builtin.max_, Builtin.max2, ev_flat ht hx rfl, ev_flat ht hy rfl], .int _ _⟩

/-! Tuples, aggregates, addresses -/
theorem PureOK.extract {x : Operand} {vs : Array Value} {i : Nat} {v : Value} (hx : ev τ x = some (.tuple vs)) (hv : vs.toList[i]? = some v) : PureOK P τ ⟨d, .extract x i, ty, pos, aft, g⟩ v := by
  intro n ι a ht
  have h := ev_rel ht hx
  generalize hz : a.eval x = z at h
  cases h with
  | tuple _ vs' h =>
    obtain ⟨v', h1, h2⟩ := h.get i v hv
    have h3 : vs'[i]? = some v' := by simpa using h1
    exact ⟨v', fun w => by simp [execOp, hz, Instr.extract, h3], h2⟩
theorem PureOK.nilCheck {x : Operand} {b : Addr} (hx : ev τ x = some (.pointer (some b))) : PureOK P τ ⟨d, .nilCheck x, ty, pos, aft, g⟩ (.pointer (some b)) := by
  intro n ι a ht
  have h := ev_rel ht hx
  generalize hz : a.eval x = z at h
  cases h with
  | ptr b o l hl => exact ⟨_, fun w => by simp [execOp, hz], .ptr b o l hl⟩
theorem PureOK.fieldAddr {x : Operand} {b o : Nat} {t : TypeId} {f off : Nat} [hf : FO P t f off] (hx : ev τ x = some (.pointer (some ⟨b, o, none⟩))) : PureOK P τ ⟨d, .fieldAddr t x f, ty, pos, aft, g⟩ (.pointer (some ⟨b, o + off, none⟩)) := by
  intro n ι a ht
  have h := ev_rel ht hx
  generalize hz : a.eval x = z at h
  obtain ⟨fs, fd, i, h1, h2, h3, h4, h5⟩ := hf.out
  cases h with
  | ptr _ _ l hl =>
    refine ⟨.pointer (some ⟨l.blk, l.off + (o + off), none⟩), fun w => ?_, .ptr b (o + off) l hl⟩
    have := add_spot l.blk (l.off + o) off
    simp [execOp, hz, Instr.fieldAt, underlying, h1, h2, Instr.sureAddr, fieldPlace, sizeOf, typeInfo, h4, h5, h3, this, Nat.add_assoc]
theorem run_sizeOf {t e : TypeId} {sz : Nat} [h : ES P t e sz] (w : World) : (sizeOf e).run P w = .ok sz w := by
  have h1 := h.ex
  cases hi : P.info? e with
  | none => rw [hi] at h1; simp at h1
  | some i => simp [sizeOf, typeInfo, hi, h.sz i hi]
theorem PureOK.indexAddr {x y : Operand} {b o ln c : Nat} {k : IntKind} {m : Int} {t e : TypeId} {sz : Nat} [hs : ES P t e sz] (hx : ev τ x = some (.slice (some ⟨b, o, none⟩) ln c)) (hy : ev τ y = some (.int k m)) (h0 : 0 ≤ m) (h1 : m < ln) :
    PureOK P τ ⟨d, .indexAddr t x y, ty, pos, aft, g⟩ (.pointer (some ⟨b, o + m.toNat * sz, none⟩)) := by
  intro n ι a ht
  have h := ev_rel ht hx
  generalize hz : a.eval x = z at h
  have hsz := run_sizeOf (P := P) (t := t) (e := e) (sz := sz)
  cases h with
  | slice _ _ l _ _ c' hl hn hc htt =>
    refine ⟨.pointer (some ⟨l.blk, l.off + (o + m.toNat * sz), none⟩), fun w => ?_, .ptr b _ l hl⟩
    have := add_spot l.blk (l.off + o) (m.toNat * sz)
    simp [execOp, hz, ev_flat ht hy rfl, Instr.indexAt, asIntOf, underlying, hs.eq, h0, h1, hsz, this, Nat.add_assoc]
  | slice0 a a' c hc => exact absurd h1 (by omega)

class AT (P : Program) (t : TypeId) (len : outParam Nat) (e : outParam TypeId) (sz : outParam Nat) : Prop where
  eq : P.underlying t = some (.array len e)
  sz : ∃ i, P.info? e = some i ∧ i.size = sz
/-- The address of an element of an array in memory. -/
theorem PureOK.indexArr {x y : Operand} {b o ln : Nat} {k : IntKind} {m : Int} {t e : TypeId} {sz : Nat} [hs : AT P t ln e sz] (hx : ev τ x = some (.pointer (some ⟨b, o, none⟩))) (hy : ev τ y = some (.int k m)) (h0 : 0 ≤ m) (h1 : m < ln) :
    PureOK P τ ⟨d, .indexAddr t x y, ty, pos, aft, g⟩ (.pointer (some ⟨b, o + m.toNat * sz, none⟩)) := by
  intro n ι a ht
  have h := ev_rel ht hx
  generalize hz : a.eval x = z at h
  obtain ⟨i, hi, hsz⟩ := hs.sz
  cases h with
  | ptr _ _ l hl =>
    refine ⟨.pointer (some ⟨l.blk, l.off + (o + m.toNat * sz), none⟩), fun w => ?_, .ptr b _ l hl⟩
    have := add_spot l.blk (l.off + o) (m.toNat * sz)
    simp [execOp, hz, ev_flat ht hy rfl, Instr.indexAt, asIntOf, underlying, hs.eq, Instr.sureAddr, h0, h1, sizeOf, typeInfo, hi, hsz, this, Nat.add_assoc]

/-- A field of an aggregate. -/
class FL (P : Program) (t : TypeId) (f : Nat) (off : outParam Nat) (m : outParam (Option Nat)) : Prop where
  out : ∃ fs fd, P.underlying t = some (.struct fs) ∧ fs[f]? = some fd ∧ fd.offset = off ∧ LD P fd.type m
def prt (m : Option Nat) (cs : List Value) (i : Nat) : Option Value :=
  match m with
  | none => cs[i]?
  | some n => some (.agg ((cs.drop i).take n).toArray)
theorem PureOK.field {x : Operand} {cs : List Value} {t : TypeId} {f off : Nat} {m : Option Nat} {v : Value} [hf : FL P t f off m] (hx : ev τ x = some (.agg cs.toArray)) (hv : prt m cs off = some v) : PureOK P τ ⟨d, .field t x f, ty, pos, aft, g⟩ v := by
  intro n ι a ht
  have h := ev_rel ht hx
  generalize hz : a.eval x = z at h
  obtain ⟨fs, fd, h1, h2, h3, ⟨h4, h5⟩⟩ := hf.out
  cases h with
  | agg _ cs' h =>
    cases m with
    | none =>
      obtain ⟨v', g1, g2⟩ := h.get off v (by simpa [prt] using hv)
      have g3 : cs'[off]? = some v' := by simpa using g1
      exact ⟨v', fun w => by simp [execOp, hz, Instr.field, underlying, h1, h2, asAgg, part, h4, h3, g3], g2⟩
    | some q =>
      simp only [prt] at hv
      injection hv with hv
      subst hv
      refine ⟨.agg (cs'.extract off (off + q)), fun w => by simp [execOp, hz, Instr.field, underlying, h1, h2, asAgg, part, h4, h3, h5 q rfl], .agg _ _ ?_⟩
      have := (h.drop off).take q
      simpa [Array.toList_extract, List.extract_eq_take_drop] using this
end


/-! ### The rules -/
section
variable {P : Program} {C : World} {n : Nat} {Q : Exit → Env → AStore → Prop} {τ : Env} {σ : AStore} {ops rest : List Oper} {ty : TypeId} {pos : String} {aft : Array Edge} {d : Option Nat}
theorem A.move {x : Operand} {v : Value} (h : ev τ x = some v) (hd : dlt d n = true)
    (k : AOps P C n ops rest Q (put τ d v) σ) : AOps P C n ops (⟨d, .move x, ty, pos, aft, none⟩ :: rest) Q τ σ := AOps.pure rfl (PureOK.move h) hd k
theorem A.assign {x : Operand} {v : Value} (h : ev τ x = some v) (hd : dlt d n = true)
    (k : AOps P C n ops rest Q (put τ d v) σ) : AOps P C n ops (⟨d, .assign x, ty, pos, aft, none⟩ :: rest) Q τ σ := AOps.pure rfl (PureOK.assign h) hd k
theorem A.pick_t {c x y : Operand} {v : Value} (hc : ev τ c = some (.bool true)) (h : ev τ x = some v) (hd : dlt d n = true)
    (k : AOps P C n ops rest Q (put τ d v) σ) : AOps P C n ops (⟨d, .pick c x y, ty, pos, aft, none⟩ :: rest) Q τ σ := AOps.pure rfl (PureOK.pick_t hc h) hd k
theorem A.pick_f {c x y : Operand} {v : Value} (hc : ev τ c = some (.bool false)) (h : ev τ y = some v) (hd : dlt d n = true)
    (k : AOps P C n ops rest Q (put τ d v) σ) : AOps P C n ops (⟨d, .pick c x y, ty, pos, aft, none⟩ :: rest) Q τ σ := AOps.pure rfl (PureOK.pick_f hc h) hd k
theorem A.pick {c x y : Operand} {b p q : Bool} (hc : ev τ c = some (.bool b)) (hx : ev τ x = some (.bool p)) (hy : ev τ y = some (.bool q)) (hd : dlt d n = true)
    (k : AOps P C n ops rest Q (put τ d (.bool (if b then p else q))) σ) : AOps P C n ops (⟨d, .pick c x y, ty, pos, aft, none⟩ :: rest) Q τ σ := AOps.pure rfl (PureOK.pick hc hx hy) hd k
theorem A.add {k : IntKind} {x y : Operand} {m l : Int} {t t' : TypeId} (hx : ev τ x = some (.int k m)) (hy : ev τ y = some (.int k l)) (hd : dlt d n = true)
    (k : AOps P C n ops rest Q (put τ d (.int k (k.wrap (m + l)))) σ) : AOps P C n ops (⟨d, .binOp .add t x y t', ty, pos, aft, none⟩ :: rest) Q τ σ := AOps.pure rfl (PureOK.add hx hy) hd k
theorem A.sub {k : IntKind} {x y : Operand} {m l : Int} {t t' : TypeId} (hx : ev τ x = some (.int k m)) (hy : ev τ y = some (.int k l)) (hd : dlt d n = true)
    (k : AOps P C n ops rest Q (put τ d (.int k (k.wrap (m - l)))) σ) : AOps P C n ops (⟨d, .binOp .sub t x y t', ty, pos, aft, none⟩ :: rest) Q τ σ := AOps.pure rfl (PureOK.sub hx hy) hd k
theorem A.mul {k : IntKind} {x y : Operand} {m l : Int} {t t' : TypeId} (hx : ev τ x = some (.int k m)) (hy : ev τ y = some (.int k l)) (hd : dlt d n = true)
    (k : AOps P C n ops rest Q (put τ d (.int k (k.wrap (m * l)))) σ) : AOps P C n ops (⟨d, .binOp .mul t x y t', ty, pos, aft, none⟩ :: rest) Q τ σ := AOps.pure rfl (PureOK.mul hx hy) hd k
theorem A.add64 {x y : Operand} {m l : Int} {t t' : TypeId} (hx : ev τ x = some (.int .i64 m)) (hy : ev τ y = some (.int .i64 l)) (h : -9223372036854775808 ≤ m + l ∧ m + l ≤ 9223372036854775807) (hd : dlt d n = true)
    (k : AOps P C n ops rest Q (put τ d (.int .i64 (m + l))) σ) : AOps P C n ops (⟨d, .binOp .add t x y t', ty, pos, aft, none⟩ :: rest) Q τ σ := AOps.pure rfl (PureOK.add64 hx hy h) hd k
theorem A.sub64 {x y : Operand} {m l : Int} {t t' : TypeId} (hx : ev τ x = some (.int .i64 m)) (hy : ev τ y = some (.int .i64 l)) (h : -9223372036854775808 ≤ m - l ∧ m - l ≤ 9223372036854775807) (hd : dlt d n = true)
    (k : AOps P C n ops rest Q (put τ d (.int .i64 (m - l))) σ) : AOps P C n ops (⟨d, .binOp .sub t x y t', ty, pos, aft, none⟩ :: rest) Q τ σ := AOps.pure rfl (PureOK.sub64 hx hy h) hd k
theorem A.mul64 {x y : Operand} {m l : Int} {t t' : TypeId} (hx : ev τ x = some (.int .i64 m)) (hy : ev τ y = some (.int .i64 l)) (h : -9223372036854775808 ≤ m * l ∧ m * l ≤ 9223372036854775807) (hd : dlt d n = true)
    (k : AOps P C n ops rest Q (put τ d (.int .i64 (m * l))) σ) : AOps P C n ops (⟨d, .binOp .mul t x y t', ty, pos, aft, none⟩ :: rest) Q τ σ := AOps.pure rfl (PureOK.mul64 hx hy h) hd k
theorem A.add8 {x y : Operand} {m l : Int} {t t' : TypeId} (hx : ev τ x = some (.int .u8 m)) (hy : ev τ y = some (.int .u8 l)) (h : 0 ≤ m + l ∧ m + l ≤ 255) (hd : dlt d n = true)
    (k : AOps P C n ops rest Q (put τ d (.int .u8 (m + l))) σ) : AOps P C n ops (⟨d, .binOp .add t x y t', ty, pos, aft, none⟩ :: rest) Q τ σ := AOps.pure rfl (PureOK.add8 hx hy h) hd k
theorem A.sub8 {x y : Operand} {m l : Int} {t t' : TypeId} (hx : ev τ x = some (.int .u8 m)) (hy : ev τ y = some (.int .u8 l)) (h : 0 ≤ m - l ∧ m - l ≤ 255) (hd : dlt d n = true)
    (k : AOps P C n ops rest Q (put τ d (.int .u8 (m - l))) σ) : AOps P C n ops (⟨d, .binOp .sub t x y t', ty, pos, aft, none⟩ :: rest) Q τ σ := AOps.pure rfl (PureOK.sub8 hx hy h) hd k
theorem A.lss {k : IntKind} {x y : Operand} {m l : Int} {t t' : TypeId} (hx : ev τ x = some (.int k m)) (hy : ev τ y = some (.int k l)) (hd : dlt d n = true)
    (k : AOps P C n ops rest Q (put τ d (.bool (dec (m < l)))) σ) : AOps P C n ops (⟨d, .binOp .lss t x y t', ty, pos, aft, none⟩ :: rest) Q τ σ := AOps.pure rfl (PureOK.lss hx hy) hd k
theorem A.leq {k : IntKind} {x y : Operand} {m l : Int} {t t' : TypeId} (hx : ev τ x = some (.int k m)) (hy : ev τ y = some (.int k l)) (hd : dlt d n = true)
    (k : AOps P C n ops rest Q (put τ d (.bool (dec (m ≤ l)))) σ) : AOps P C n ops (⟨d, .binOp .leq t x y t', ty, pos, aft, none⟩ :: rest) Q τ σ := AOps.pure rfl (PureOK.leq hx hy) hd k
theorem A.gtr {k : IntKind} {x y : Operand} {m l : Int} {t t' : TypeId} (hx : ev τ x = some (.int k m)) (hy : ev τ y = some (.int k l)) (hd : dlt d n = true)
    (k : AOps P C n ops rest Q (put τ d (.bool (dec (l < m)))) σ) : AOps P C n ops (⟨d, .binOp .gtr t x y t', ty, pos, aft, none⟩ :: rest) Q τ σ := AOps.pure rfl (PureOK.gtr hx hy) hd k
theorem A.geq {k : IntKind} {x y : Operand} {m l : Int} {t t' : TypeId} (hx : ev τ x = some (.int k m)) (hy : ev τ y = some (.int k l)) (hd : dlt d n = true)
    (k : AOps P C n ops rest Q (put τ d (.bool (dec (l ≤ m)))) σ) : AOps P C n ops (⟨d, .binOp .geq t x y t', ty, pos, aft, none⟩ :: rest) Q τ σ := AOps.pure rfl (PureOK.geq hx hy) hd k
theorem A.eql {k : IntKind} {x y : Operand} {m l : Int} {t t' : TypeId} (hx : ev τ x = some (.int k m)) (hy : ev τ y = some (.int k l)) (hd : dlt d n = true)
    (k : AOps P C n ops rest Q (put τ d (.bool (dec (m = l)))) σ) : AOps P C n ops (⟨d, .binOp .eql t x y t', ty, pos, aft, none⟩ :: rest) Q τ σ := AOps.pure rfl (PureOK.eql hx hy) hd k
theorem A.neq {k : IntKind} {x y : Operand} {m l : Int} {t t' : TypeId} (hx : ev τ x = some (.int k m)) (hy : ev τ y = some (.int k l)) (hd : dlt d n = true)
    (k : AOps P C n ops rest Q (put τ d (.bool (!dec (m = l)))) σ) : AOps P C n ops (⟨d, .binOp .neq t x y t', ty, pos, aft, none⟩ :: rest) Q τ σ := AOps.pure rfl (PureOK.neq hx hy) hd k
theorem A.and {k : IntKind} {x y : Operand} {m l : Int} {t t' : TypeId} (hx : ev τ x = some (.int k m)) (hy : ev τ y = some (.int k l)) (hd : dlt d n = true)
    (k : AOps P C n ops rest Q (put τ d (.int k (ib .and k m l))) σ) : AOps P C n ops (⟨d, .binOp .and t x y t', ty, pos, aft, none⟩ :: rest) Q τ σ := AOps.pure rfl (PureOK.and hx hy) hd k
theorem A.or {k : IntKind} {x y : Operand} {m l : Int} {t t' : TypeId} (hx : ev τ x = some (.int k m)) (hy : ev τ y = some (.int k l)) (hd : dlt d n = true)
    (k : AOps P C n ops rest Q (put τ d (.int k (ib .or k m l))) σ) : AOps P C n ops (⟨d, .binOp .or t x y t', ty, pos, aft, none⟩ :: rest) Q τ σ := AOps.pure rfl (PureOK.or hx hy) hd k
theorem A.quo {k : IntKind} {x y : Operand} {m l : Int} {t t' : TypeId} (hx : ev τ x = some (.int k m)) (hy : ev τ y = some (.int k l)) (h : l ≠ 0) (hd : dlt d n = true)
    (k : AOps P C n ops rest Q (put τ d (.int k (k.wrap (m.tdiv l)))) σ) : AOps P C n ops (⟨d, .binOp .quo t x y t', ty, pos, aft, none⟩ :: rest) Q τ σ := AOps.pure rfl (PureOK.quo hx hy h) hd k
theorem A.rem {k : IntKind} {x y : Operand} {m l : Int} {t t' : TypeId} (hx : ev τ x = some (.int k m)) (hy : ev τ y = some (.int k l)) (h : l ≠ 0) (hd : dlt d n = true)
    (k : AOps P C n ops rest Q (put τ d (.int k (m.tmod l))) σ) : AOps P C n ops (⟨d, .binOp .rem t x y t', ty, pos, aft, none⟩ :: rest) Q τ σ := AOps.pure rfl (PureOK.rem hx hy h) hd k
theorem A.shl {k k' : IntKind} {x y : Operand} {m l : Int} {t t' : TypeId} (hx : ev τ x = some (.int k m)) (hy : ev τ y = some (.int k' l)) (h : 0 ≤ l) (hd : dlt d n = true)
    (k : AOps P C n ops rest Q (put τ d (.int k (k.wrap (m * 2 ^ min l.toNat k.bits)))) σ) : AOps P C n ops (⟨d, .binOp .shl t x y t', ty, pos, aft, none⟩ :: rest) Q τ σ := AOps.pure rfl (PureOK.shl hx hy h) hd k
theorem A.shr {k k' : IntKind} {x y : Operand} {m l : Int} {t t' : TypeId} (hx : ev τ x = some (.int k m)) (hy : ev τ y = some (.int k' l)) (h : 0 ≤ l) (hd : dlt d n = true)
    (k : AOps P C n ops rest Q (put τ d (.int k (m.fdiv (2 ^ min l.toNat k.bits)))) σ) : AOps P C n ops (⟨d, .binOp .shr t x y t', ty, pos, aft, none⟩ :: rest) Q τ σ := AOps.pure rfl (PureOK.shr hx hy h) hd k
theorem A.seq {x y : Operand} {l m : List UInt8} {t t' : TypeId} (hx : ev τ x = some (.string (B l))) (hy : ev τ y = some (.string (B m))) (hd : dlt d n = true)
    (k : AOps P C n ops rest Q (put τ d (.bool (dec (l = m)))) σ) : AOps P C n ops (⟨d, .binOp .eql t x y t', ty, pos, aft, none⟩ :: rest) Q τ σ := AOps.pure rfl (PureOK.seq hx hy) hd k
theorem A.sne {x y : Operand} {l m : List UInt8} {t t' : TypeId} (hx : ev τ x = some (.string (B l))) (hy : ev τ y = some (.string (B m))) (hd : dlt d n = true)
    (k : AOps P C n ops rest Q (put τ d (.bool (!dec (l = m)))) σ) : AOps P C n ops (⟨d, .binOp .neq t x y t', ty, pos, aft, none⟩ :: rest) Q τ σ := AOps.pure rfl (PureOK.sne hx hy) hd k
theorem A.sadd {x y : Operand} {l m : List UInt8} {t t' : TypeId} (hx : ev τ x = some (.string (B l))) (hy : ev τ y = some (.string (B m))) (h : l.length + m.length ≤ 9223372036854775807) (hd : dlt d n = true)
    (k : AOps P C n ops rest Q (put τ d (.string (B (l ++ m)))) σ) : AOps P C n ops (⟨d, .binOp .add t x y t', ty, pos, aft, none⟩ :: rest) Q τ σ := AOps.pure rfl (PureOK.sadd hx hy h) hd k
theorem A.beq {x y : Operand} {p q : Bool} {t t' : TypeId} [UL P t .bool] (hx : ev τ x = some (.bool p)) (hy : ev τ y = some (.bool q)) (hd : dlt d n = true)
    (k : AOps P C n ops rest Q (put τ d (.bool (p == q))) σ) : AOps P C n ops (⟨d, .binOp .eql t x y t', ty, pos, aft, none⟩ :: rest) Q τ σ := AOps.pure rfl (PureOK.beq hx hy) hd k
theorem A.bne {x y : Operand} {p q : Bool} {t t' : TypeId} [UL P t .bool] (hx : ev τ x = some (.bool p)) (hy : ev τ y = some (.bool q)) (hd : dlt d n = true)
    (k : AOps P C n ops rest Q (put τ d (.bool (!(p == q)))) σ) : AOps P C n ops (⟨d, .binOp .neq t x y t', ty, pos, aft, none⟩ :: rest) Q τ σ := AOps.pure rfl (PureOK.bne hx hy) hd k
theorem A.not {x : Operand} {b : Bool} {t : TypeId} (hx : ev τ x = some (.bool b)) (hd : dlt d n = true)
    (k : AOps P C n ops rest Q (put τ d (.bool (!b))) σ) : AOps P C n ops (⟨d, .unOp .not t x, ty, pos, aft, none⟩ :: rest) Q τ σ := AOps.pure rfl (PureOK.not hx) hd k
theorem A.neg {x : Operand} {k : IntKind} {m : Int} {t : TypeId} (hx : ev τ x = some (.int k m)) (hd : dlt d n = true)
    (k : AOps P C n ops rest Q (put τ d (.int k (k.wrap (0 - m)))) σ) : AOps P C n ops (⟨d, .unOp .neg t x, ty, pos, aft, none⟩ :: rest) Q τ σ := AOps.pure rfl (PureOK.neg hx) hd k
theorem A.index {x y : Operand} {l : List UInt8} {k : IntKind} {m : Int} {t : TypeId} [UL P t .string] (hx : ev τ x = some (.string (B l))) (hy : ev τ y = some (.int k m)) (h0 : 0 ≤ m) (h1 : m < l.length) (hd : dlt d n = true)
    (k : AOps P C n ops rest Q (put τ d (.int .u8 (gb l m))) σ) : AOps P C n ops (⟨d, .index t x y, ty, pos, aft, none⟩ :: rest) Q τ σ := AOps.pure rfl (PureOK.index hx hy h0 h1) hd k
theorem A.sl_ab {x p q : Operand} {l : List UInt8} {k k' : IntKind} {i j : Int} {t : TypeId} [UL P t .string] (hx : ev τ x = some (.string (B l))) (hp : ev τ p = some (.int k i)) (hq : ev τ q = some (.int k' j)) (h : 0 ≤ i ∧ i ≤ j ∧ j ≤ l.length) (hd : dlt d n = true)
    (k : AOps P C n ops rest Q (put τ d (.string (B ((l.take j.toNat).drop i.toNat)))) σ) : AOps P C n ops (⟨d, .slice t x (some p) (some q) none, ty, pos, aft, none⟩ :: rest) Q τ σ := AOps.pure rfl (PureOK.sl_ab hx hp hq h) hd k
theorem A.sl_a {x p : Operand} {l : List UInt8} {k : IntKind} {i : Int} {t : TypeId} [UL P t .string] (hx : ev τ x = some (.string (B l))) (hp : ev τ p = some (.int k i)) (h : 0 ≤ i ∧ i ≤ l.length) (hd : dlt d n = true)
    (k : AOps P C n ops rest Q (put τ d (.string (B (l.drop i.toNat)))) σ) : AOps P C n ops (⟨d, .slice t x (some p) none none, ty, pos, aft, none⟩ :: rest) Q τ σ := AOps.pure rfl (PureOK.sl_a hx hp h) hd k
theorem A.sl_b {x q : Operand} {l : List UInt8} {k : IntKind} {j : Int} {t : TypeId} [UL P t .string] (hx : ev τ x = some (.string (B l))) (hq : ev τ q = some (.int k j)) (h : 0 ≤ j ∧ j ≤ l.length) (hd : dlt d n = true)
    (k : AOps P C n ops rest Q (put τ d (.string (B (l.take j.toNat)))) σ) : AOps P C n ops (⟨d, .slice t x none (some q) none, ty, pos, aft, none⟩ :: rest) Q τ σ := AOps.pure rfl (PureOK.sl_b hx hq h) hd k
theorem A.conv {x : Operand} {k k' : IntKind} {m : Int} {s t : TypeId} [UL P s (.int k)] [UL P t (.int k')] (hx : ev τ x = some (.int k m)) (hd : dlt d n = true)
    (k : AOps P C n ops rest Q (put τ d (.int k' (k'.wrap m))) σ) : AOps P C n ops (⟨d, .convert s t x, ty, pos, aft, none⟩ :: rest) Q τ σ := AOps.pure rfl (PureOK.conv hx) hd k
theorem A.conv_in {x : Operand} {k k' : IntKind} {m : Int} {s t : TypeId} [UL P s (.int k)] [UL P t (.int k')] (hx : ev τ x = some (.int k m)) (h : k'.min ≤ m ∧ m ≤ k'.max) (hd : dlt d n = true)
    (k : AOps P C n ops rest Q (put τ d (.int k' m)) σ) : AOps P C n ops (⟨d, .convert s t x, ty, pos, aft, none⟩ :: rest) Q τ σ := AOps.pure rfl (PureOK.conv_in hx h) hd k
theorem A.conv_str {x : Operand} {l : ByteArray} {s t : TypeId} [UL P s .string] [UL P t .string] (hx : ev τ x = some (.string l)) (hd : dlt d n = true)
    (k : AOps P C n ops rest Q (put τ d (.string l)) σ) : AOps P C n ops (⟨d, .convert s t x, ty, pos, aft, none⟩ :: rest) Q τ σ := AOps.pure rfl (PureOK.conv_str hx) hd k
theorem A.len_str {x : Operand} {l : List UInt8} {t : TypeId} [UL P t .string] (hx : ev τ x = some (.string (B l))) (hd : dlt d n = true)
    (k : AOps P C n ops rest Q (put τ d (.int .i64 l.length)) σ) : AOps P C n ops (⟨d, .call ⟨.builtin .len, #[x], #[t]⟩, ty, pos, aft, none⟩ :: rest) Q τ σ := AOps.pure rfl (PureOK.len_str hx) hd k
theorem A.len_slice {x : Operand} {o : Option Addr} {m c : Nat} {t e : TypeId} [UL P t (.slice e)] (hx : ev τ x = some (.slice o m c)) (hd : dlt d n = true)
    (k : AOps P C n ops rest Q (put τ d (.int .i64 m)) σ) : AOps P C n ops (⟨d, .call ⟨.builtin .len, #[x], #[t]⟩, ty, pos, aft, none⟩ :: rest) Q τ σ := AOps.pure rfl (PureOK.len_slice hx) hd k
theorem A.min {x y : Operand} {k : IntKind} {m l : Int} {ts : Array TypeId} (hx : ev τ x = some (.int k m)) (hy : ev τ y = some (.int k l)) (hd : dlt d n = true)
    (k : AOps P C n ops rest Q (put τ d (.int k (if l < m then l else m))) σ) : AOps P C n ops (⟨d, .call ⟨.builtin .min, #[x, y], ts⟩, ty, pos, aft, none⟩ :: rest) Q τ σ := AOps.pure rfl (PureOK.min hx hy) hd k
theorem A.max {x y : Operand} {k : IntKind} {m l : Int} {ts : Array TypeId} (hx : ev τ x = some (.int k m)) (hy : ev τ y = some (.int k l)) (hd : dlt d n = true)
    (k : AOps P C n ops rest Q (put τ d (.int k (if m < l then l else m))) σ) : AOps P C n ops (⟨d, .call ⟨.builtin .max, #[x, y], ts⟩, ty, pos, aft, none⟩ :: rest) Q τ σ := AOps.pure rfl (PureOK.max hx hy) hd k
theorem A.extract {x : Operand} {vs : Array Value} {i : Nat} {v : Value} (hx : ev τ x = some (.tuple vs)) (hv : vs.toList[i]? = some v) (hd : dlt d n = true)
    (k : AOps P C n ops rest Q (put τ d v) σ) : AOps P C n ops (⟨d, .extract x i, ty, pos, aft, none⟩ :: rest) Q τ σ := AOps.pure rfl (PureOK.extract hx hv) hd k
theorem A.nilCheck {x : Operand} {b : Addr} (hx : ev τ x = some (.pointer (some b))) (hd : dlt d n = true)
    (k : AOps P C n ops rest Q (put τ d (.pointer (some b))) σ) : AOps P C n ops (⟨d, .nilCheck x, ty, pos, aft, none⟩ :: rest) Q τ σ := AOps.pure rfl (PureOK.nilCheck hx) hd k
theorem A.fieldAddr {x : Operand} {b o : Nat} {t : TypeId} {f off : Nat} [hf : FO P t f off] (hx : ev τ x = some (.pointer (some ⟨b, o, none⟩))) (hd : dlt d n = true)
    (k : AOps P C n ops rest Q (put τ d (.pointer (some ⟨b, o + off, none⟩))) σ) : AOps P C n ops (⟨d, .fieldAddr t x f, ty, pos, aft, none⟩ :: rest) Q τ σ := AOps.pure rfl (PureOK.fieldAddr hx) hd k
theorem A.indexAddr {x y : Operand} {b o ln c : Nat} {k : IntKind} {m : Int} {t e : TypeId} {sz : Nat} [hs : ES P t e sz] (hx : ev τ x = some (.slice (some ⟨b, o, none⟩) ln c)) (hy : ev τ y = some (.int k m)) (h0 : 0 ≤ m) (h1 : m < ln) (hd : dlt d n = true)
    (k : AOps P C n ops rest Q (put τ d (.pointer (some ⟨b, o + m.toNat * sz, none⟩))) σ) : AOps P C n ops (⟨d, .indexAddr t x y, ty, pos, aft, none⟩ :: rest) Q τ σ := AOps.pure rfl (PureOK.indexAddr hx hy h0 h1) hd k
theorem A.indexArr {x y : Operand} {b o ln : Nat} {k : IntKind} {m : Int} {t e : TypeId} {sz : Nat} [hs : AT P t ln e sz] (hx : ev τ x = some (.pointer (some ⟨b, o, none⟩))) (hy : ev τ y = some (.int k m)) (h0 : 0 ≤ m) (h1 : m < ln) (hd : dlt d n = true)
    (k : AOps P C n ops rest Q (put τ d (.pointer (some ⟨b, o + m.toNat * sz, none⟩))) σ) : AOps P C n ops (⟨d, .indexAddr t x y, ty, pos, aft, none⟩ :: rest) Q τ σ := AOps.pure rfl (PureOK.indexArr hx hy h0 h1) hd k
theorem A.field {x : Operand} {cs : List Value} {t : TypeId} {f off : Nat} {m : Option Nat} {v : Value} [hf : FL P t f off m] (hx : ev τ x = some (.agg cs.toArray)) (hv : prt m cs off = some v) (hd : dlt d n = true)
    (k : AOps P C n ops rest Q (put τ d v) σ) : AOps P C n ops (⟨d, .field t x f, ty, pos, aft, none⟩ :: rest) Q τ σ := AOps.pure rfl (PureOK.field hx hv) hd k
end
end Go.AM
