/-
  The row of a law, out of its contract.
-/
import Derived.Test.YtimjbcmlchbhlaaRows
import Derived.Test.YtimjbcmlchbhlaaAmT6
import Derived.Test.YtimjbcmlchbhlaaAmOpen
import Derived.WalkKit
import Derived.ProofKit
import Derived.OpenShut
import Derived.ShutString
import Derived.ChangeOld
import Derived.Below
import Derived.SizedLaws
namespace Go.Proofs.Ytimjbcmlchbhlaa.segsShorter
open Go.ChangeShapes Go.WideShapes Go.ChangeAt Go.RowKit
open Go.ChangeMaps (open_string shut_string)
open Go.AM (Rd Rd.start law_walk LRel VRel bl B_bl B)
set_option linter.unusedVariables false
set_option linter.unusedSimpArgs false
theorem own : ownKnob Try.prog.godebug = none := by kernel_rfl
theorem laidOut : laidOutB Try.prog = true := by kernel_rfl
set_option maxRecDepth 100000 in
theorem lifted (os : Os) (started : os.Started) (H : Type) (enc : TypeId × Value → H) :
    ReturnsInHanded {} Try.checked os 4 .any (Rows.segsShorterSpec.pre6 enc Try.prog Try.f4 Rows.segsShorterRow.domain false) (Rows.segsShorterSpec.post enc Try.prog Try.f4 false true false false) := by
  refine returnsInHanded_of_change_sized (C := Try.checked) own started (by kernel_rfl) Try.func4
    (ChangeSpec.witness6 (enc := enc) (C := Try.checked) false ⟨#[], #[.string ByteArray.empty, .slice none 0 0], []⟩ 8 (by kernel_rfl) (by kernel_rfl) (by kernel_rfl) (by kernel_rfl)) ?_
  intro W base args ds gs before hval0 hW hcnd hsz0 _
  have hsz : (DataW.weightsEach Try.prog (Try.f4.params.toList ++ Rows.segsShorterSpec.plain.varTypes Try.prog) (ds ++ gs)).all (· ≤ reachBytes) = true := hsz0
  have hval : ∀ (j : Nat) t v, Try.f4.params[j]? = some t → args[j]? = some v → Value.okWide Try.prog W .any base t v := hval0
  have hW2 := hW
  obtain ⟨p, q, hA0, hV, rfl, hfz, hnd⟩ := hW
  have hA : DataW.TrodAll enc Try.prog W 0 (fun _ => true) true Try.f4.params.toList args.toList ds p := hA0
  rw [Try.params4] at hA hval hsz
  obtain ⟨v0, vs0, d0, ds0, p0, q0, hargs, rfl, rfl, h0, r0⟩ := trodAll_cons hA
  obtain ⟨v1, vs1, d1, ds1, p1, q1, rfl, rfl, rfl, h1, r1⟩ := trodAll_cons r0
  obtain ⟨rfl, rfl, rfl⟩ := trodAll_nil r1
  obtain rfl : args = #[v0, v1] := by cases args; simp_all
  obtain ⟨rfl, rfl⟩ := trodVars_none hV
  obtain ⟨ι0, σ0, hR0⟩ : ∃ ι σ, Rd W ι σ := ⟨_, _, Rd.start W⟩
  obtain ⟨a0, rfl, rfl, rfl, y0⟩ := open_string Try.underlying9 (hval 0 9 v0 rfl rfl) h0
  have w0 : a0.size ≤ 140737488351232 := by
    have z := sized_string hsz (j := 0) (t := 9) rfl rfl
    rw [Array.length_toList] at z
    exact z
  obtain ⟨a1, len1, cap1, rfl⟩ := okWide_slice Try.underlying24 (hval 1 24 v1 rfl rfl)
  have k1 := h1
  have lt1 : ∀ x ∈ p1, x.block < W.heap.size := by obtain ⟨m, hm⟩ := k1; exact DataW.trod_lt m _ _ _ hm
  obtain ⟨ι1, σ1, u1, l1, hle1, hR1, hS1, hv1, hr1⟩ : ∃ ι' σ' u ls, Go.AM.Le ι0 ι' ∧ Rd W ι' σ' ∧ Go.AM.Same σ0 σ' [] ∧ VRel ι' u (.slice a1 len1 cap1) ∧ Go.AM.Row σ' 1 u (Go.AM.strs ls) := by
    obtain ⟨fuel, hf⟩ := h1
    rcases Go.ChangeShapes.open_strings Try.underlying24 Try.underlying9 (by kernel_rfl) hf with ⟨hcs, _⟩ | ⟨x, l, c, ss, hcs, _, hl, hm, hz, _, hcell, hwz⟩
    · simp [Value.cells] at hcs
      obtain ⟨rfl, rfl, rfl⟩ := hcs
      exact ⟨_, _, _, [], Go.AM.Le.refl _, hR0, Go.AM.Same.refl _ _, .nilslice, .nil⟩
    · simp [Value.cells] at hcs
      obtain ⟨rfl, rfl, rfl⟩ := hcs
      obtain ⟨a, b, c, h1, h2, h3, h4, h5⟩ := hR0.strings 9 x _ _ ss hl (by simpa using hz) hcell
      exact ⟨a, b, c, _, h1, h2, h3, h4, h5⟩
  have e0 : (Value.string (B (bl a0))) = .string a0 := by rw [B_bl]
  have hc := Go.AM.SegsShorter_ok (C := W) (bl a0) u1 l1 σ1 hr1
  refine (law_walk hR1 (args' := [.string a0, .slice a1 len1 cap1]) (.cons _ _ _ _ (e0 ▸ .string _) (.cons _ _ _ _ hv1 .nil)) hc).mono fun e W2 ⟨he, bel⟩ => ?_
  subst he
  exact ⟨_, rfl, _, _, _, [], _, [], hW2, trodAll_mk1 (shut_bool Try.underlying4 _), (trodAll_cons_mk (shut_string Try.underlying9 y0) (trodAll_cons_mk (Below.trod laidOut (by kernel_rfl) (of_decide_eq_true (by kernel_rfl)) k1 bel lt1) trodAll_mk0)), rfl, bel.frame _, fun h => by cases h⟩
theorem over : Rows.segsShorterRow.holds Try.pinned (OpenSpec.ofChange Rows.segsShorterSpec) :=
  OpenClaim.holds_of_wide 4 Try.f4 rfl rfl rfl rfl rfl rfl rfl ⟨rfl, rfl, rfl, rfl, rfl⟩ rfl rfl rfl rfl rfl (by kernel_rfl) Try.func4 (by kernel_rfl)
    (of_decide_eq_true (by kernel_rfl)) (by unfold Func.isWrapper; first | (rw [if_pos (by decide +kernel)]; kernel_rfl) | (rw [if_neg (by decide +kernel)]; exact ⟨rfl, rfl⟩))
    (fun os started H enc _ => lifted os started H enc)
theorem proved : Rows.SegsShorterSaid := over
end Go.Proofs.Ytimjbcmlchbhlaa.segsShorter
namespace Go.Proofs.Ytimjbcmlchbhlaa
/-- The row, under a short name, for the claim. -/
theorem segsShorter_holds : Rows.SegsShorterSaid := segsShorter.proved
end Go.Proofs.Ytimjbcmlchbhlaa
