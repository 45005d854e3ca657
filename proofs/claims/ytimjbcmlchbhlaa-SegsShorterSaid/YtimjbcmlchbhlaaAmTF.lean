/-
  Facts on the program's types and functions, printed by a program out of the translation: each is a closed equation.
-/
import Derived.Test.YtimjbcmlchbhlaaAmFacts
import Derived.Test.YtimjbcmlchbhlaaProg
namespace Go.AM
open Go Go.RowKit Go.Proofs
instance ul3 : UL Try.prog 3 (.int .i64) := ⟨Try.underlying3⟩
instance ul4 : UL Try.prog 4 .bool := ⟨Try.underlying4⟩
instance ul5 : UL Try.prog 5 (.int .u8) := ⟨Try.underlying5⟩
instance ul9 : UL Try.prog 9 .string := ⟨Try.underlying9⟩
instance ul24 : UL Try.prog 24 (.slice 9) := ⟨Try.underlying24⟩
instance ul31 : UL Try.prog 31 (.slice 5) := ⟨Try.underlying31⟩
instance ul36 : UL Try.prog 36 (.int .u64) := ⟨Try.underlying36⟩
instance ld9 : LD Try.prog 9 none := .of (by kernel_rfl)
instance es24 : ES Try.prog 24 9 1 := .of Try.underlying24 (by kernel_rfl)
instance es31 : ES Try.prog 31 5 1 := .of Try.underlying31 (by kernel_rfl)
instance el5 : EL Try.prog 5 1 1 := .of (z := (.int .u8 0)) (by kernel_rfl) (by kernel_rfl) (by kernel_rfl) rfl
instance zs5 : ZS Try.prog 5 1 := .of (z := (.int .u8 0)) (by kernel_rfl) rfl
instance ze5 : ZE Try.prog 5 1 [.int .u8 0] := .of (z := (.int .u8 0)) (by kernel_rfl) (by kernel_rfl) rfl rfl rfl
instance el9 : EL Try.prog 9 1 16 := .of (z := (.string (B []))) (by kernel_rfl) (by kernel_rfl) (by kernel_rfl) rfl
instance zs9 : ZS Try.prog 9 1 := .of (z := (.string (B []))) (by kernel_rfl) rfl
instance ze9 : ZE Try.prog 9 1 [.string (B [])] := .of (z := (.string (B []))) (by kernel_rfl) (by kernel_rfl) rfl rfl rfl
instance au9 : AU Try.prog 9 := .str Try.underlying9
instance au24 : AU Try.prog 24 := .sl Try.underlying24
instance hb7 : HasBody Try.prog 7 := .of Try.func7 (by kernel_rfl) (by kernel_rfl)
instance hb8 : HasBody Try.prog 8 := .of Try.func8 (by kernel_rfl) (by kernel_rfl)
instance hb9 : HasBody Try.prog 9 := .of Try.func9 (by kernel_rfl) (by kernel_rfl)
instance hb10 : HasBody Try.prog 10 := .of Try.func10 (by kernel_rfl) (by kernel_rfl)
instance hb11 : HasBody Try.prog 11 := .of Try.func11 (by kernel_rfl) (by kernel_rfl)
instance hb12 : HasBody Try.prog 12 := .of Try.func12 (by kernel_rfl) (by kernel_rfl)
instance hb13 : HasBody Try.prog 13 := .of Try.func13 (by kernel_rfl) (by kernel_rfl)
instance hb14 : HasBody Try.prog 14 := .of Try.func14 (by kernel_rfl) (by kernel_rfl)
instance hb15 : HasBody Try.prog 15 := .of Try.func15 (by kernel_rfl) (by kernel_rfl)
instance hb16 : HasBody Try.prog 16 := .of Try.func16 (by kernel_rfl) (by kernel_rfl)
instance hb17 : HasBody Try.prog 17 := .of Try.func17 (by kernel_rfl) (by kernel_rfl)
instance hb18 : HasBody Try.prog 18 := .of Try.func18 (by kernel_rfl) (by kernel_rfl)
instance hb19 : HasBody Try.prog 19 := .of Try.func19 (by kernel_rfl) (by kernel_rfl)
instance hb20 : HasBody Try.prog 20 := .of Try.func20 (by kernel_rfl) (by kernel_rfl)
instance hb21 : HasBody Try.prog 21 := .of Try.func21 (by kernel_rfl) (by kernel_rfl)
instance hb22 : HasBody Try.prog 22 := .of Try.func22 (by kernel_rfl) (by kernel_rfl)
instance hb23 : HasBody Try.prog 23 := .of Try.func23 (by kernel_rfl) (by kernel_rfl)
instance hb24 : HasBody Try.prog 24 := .of Try.func24 (by kernel_rfl) (by kernel_rfl)
instance hb25 : HasBody Try.prog 25 := .of Try.func25 (by kernel_rfl) (by kernel_rfl)
instance hb26 : HasBody Try.prog 26 := .of Try.func26 (by kernel_rfl) (by kernel_rfl)
instance hb27 : HasBody Try.prog 27 := .of Try.func27 (by kernel_rfl) (by kernel_rfl)
end Go.AM
