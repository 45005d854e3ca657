/-
  The abstract store logic: facts on a program's types, each out of one closed equation.
-/
import Derived.Test.YtimjbcmlchbhlaaAmRules
import Derived.KernelRfl
set_option linter.unusedVariables false
namespace Go.AM
open Go Go.RowKit
section
variable {P : Program} {t e : TypeId}
theorem HasBody.of {f : FuncId} {fn : Func} (h : P.funcs[f]? = some fn) (h1 : fn.body.isNone = false) (h2 : (fn.name == "runtime.NumGoroutine") = false) : HasBody P f := ⟨fn, h, h1, h2⟩
theorem SZ.of {n : Nat} (h : (P.info? t).map (·.size) = some n) : SZ P t n := by
  obtain ⟨i, h1, h2⟩ := Option.map_eq_some_iff.1 h
  exact ⟨i, h1, h2⟩
def zvB (P : Program) (t : TypeId) : Option Value := (P.info? t).bind (·.zero)
theorem zvB_spec {z : Value} (h : zvB P t = some z) : ∃ i, P.info? t = some i ∧ i.zero = some z := by
  unfold zvB at h
  cases hi : P.info? t with
  | none => rw [hi] at h; simp at h
  | some i => rw [hi] at h; exact ⟨i, rfl, h⟩
theorem ZV.of {z : Value} (h : zvB P t = some z) (hc : cst z = true) : ZV P t z := by
  obtain ⟨i, h1, h2⟩ := zvB_spec h
  exact ⟨i, h1, h2, hc⟩
theorem ZE.of {z : Value} {sz : Nat} {zs : List Value} (h : zvB P t = some z) (h1 : (P.info? t).map (·.size) = some sz) (hz : scells z = zs) (hc : zs.all flat = true) (hl : zs.length = sz) : ZE P t sz zs := by
  obtain ⟨i, g1, g2⟩ := zvB_spec h
  rw [g1] at h1
  have h1 : i.size = sz := by simpa using h1
  refine ⟨i, z, g1, h1, g2, ?_, hc, hl⟩
  rw [← hz]
  cases z <;> rfl
theorem EL.of {z : Value} {sz bytes : Nat} (h : zvB P t = some z) (h1 : (P.info? t).map (·.size) = some sz) (h2 : (P.info? t).map (·.bytes) = some bytes) (h0 : Nat.blt 0 sz = true) : EL P t sz bytes := by
  obtain ⟨i, g1, g2⟩ := zvB_spec h
  rw [g1] at h1 h2
  exact ⟨i, z, g1, by simpa using h1, by simpa using h2, g2, Nat.le_of_ble_eq_true h0⟩
theorem ZS.of {z : Value} {sz : Nat} (h : zvB P t = some z) (h1 : z.cells.size = sz) : ZS P t sz := by
  obtain ⟨i, g1, g2⟩ := zvB_spec h
  exact ⟨i, z, g1, g2, h1⟩
theorem ES.of {sz : Nat} (h : P.underlying t = some (.slice e)) (h1 : (P.info? e).map (·.size) = some sz) : ES P t e sz := by
  obtain ⟨i, g1, g2⟩ := Option.map_eq_some_iff.1 h1
  exact ⟨h, fun j hj => by rw [g1] at hj; injection hj with hj; rw [← hj]; exact g2, by rw [g1]; rfl⟩
theorem AT.of {len sz : Nat} (h : P.underlying t = some (.array len e)) (h1 : (P.info? e).map (·.size) = some sz) : AT P t len e sz := by
  obtain ⟨i, g1, g2⟩ := Option.map_eq_some_iff.1 h1
  exact ⟨h, i, g1, g2⟩
theorem AU.str (h : P.underlying t = some .string) : AU P t := ⟨.inl h⟩
theorem AU.sl (h : P.underlying t = some (.slice e)) : AU P t := ⟨.inr ⟨e, h⟩⟩
def foB (P : Program) (t : TypeId) (f : Nat) : Option Nat :=
  match P.underlying t with
  | some (.struct fs) => match fs[f]? with
    | some fd => match P.info? fd.type with
      | some i => match Nat.beq i.size 0 with
        | true => none
        | false => some fd.offset
      | none => none
    | none => none
  | _ => none
theorem FO.of {f off : Nat} (h : foB P t f = some off) : FO P t f off := by
  unfold foB at h
  split at h
  · rename_i fs hu
    split at h
    · rename_i fd hf
      split at h
      · rename_i i hi
        split at h
        · simp at h
        · rename_i hs
          injection h with h
          exact ⟨fs, fd, i, hu, hf, h, hi, fun e0 => by rw [e0] at hs; simp at hs⟩
      · simp at h
    · simp at h
  · simp at h
def ldB (P : Program) (t : TypeId) : Option (Option Nat) :=
  match P.underlying t with
  | some (.struct _) => (P.info? t).map fun i => some i.size
  | some (.array _ _) => (P.info? t).map fun i => some i.size
  | some _ => some none
  | none => none
theorem LD.of {m : Option Nat} (h : ldB P t = some m) : LD P t m := by
  unfold ldB at h
  split at h
  · rename_i fs hu
    obtain ⟨i, h1, rfl⟩ := Option.map_eq_some_iff.1 h
    exact ⟨fun w => by simp [isAgg, underlying, hu], fun q hq w => by injection hq with hq; simp [sizeOf, typeInfo, h1, hq]⟩
  · rename_i a b hu
    obtain ⟨i, h1, rfl⟩ := Option.map_eq_some_iff.1 h
    exact ⟨fun w => by simp [isAgg, underlying, hu], fun q hq w => by injection hq with hq; simp [sizeOf, typeInfo, h1, hq]⟩
  · rename_i d h1 h2 hu
    injection h with h
    subst h
    refine ⟨fun w => ?_, fun q hq => by simp at hq⟩
    simp only [isAgg, underlying, Sem.run_bind, run_program, Result.andThen_ok, hu, Sem.run_pure]
    rfl
  · simp at h
def flB (P : Program) (t : TypeId) (f : Nat) : Option (Nat × Option Nat) :=
  match P.underlying t with
  | some (.struct fs) => match fs[f]? with
    | some fd => (ldB P fd.type).map fun m => (fd.offset, m)
    | none => none
  | _ => none
theorem FL.of {f off : Nat} {m : Option Nat} (h : flB P t f = some (off, m)) : FL P t f off m := by
  unfold flB at h
  split at h
  · rename_i fs hu
    split at h
    · rename_i fd hf
      obtain ⟨m', h1, h2⟩ := Option.map_eq_some_iff.1 h
      injection h2 with h2 h3
      subst h3
      exact ⟨fs, fd, hu, hf, h2, LD.of h1⟩
    · simp at h
  · simp at h
def plB (P : Program) (t : TypeId) : Option (List (Nat × Option Nat)) :=
  match P.underlying t with
  | some (.struct fs) => some (fs.toList.map fun f => (f.offset, (P.info? f.type).map (·.size)))
  | _ => none
theorem BD.of {z : Value} {zs : List Value} {pl : List (Nat × Nat)} (h : zvB P t = some z) (hz : scells z = zs) (hc : zs.all flat = true) (h2 : plB P t = some (pl.map fun p => (p.1, some p.2))) : BD P t zs pl := by
  obtain ⟨i, g1, g2⟩ := zvB_spec h
  refine ⟨⟨i, z, g1, g2, by rw [← hz]; cases z <;> rfl, hc⟩, ?_⟩
  unfold plB at h2
  split at h2
  · rename_i fs hu
    injection h2 with h2
    exact ⟨fs, hu, h2⟩
  · simp at h2
end
end Go.AM
