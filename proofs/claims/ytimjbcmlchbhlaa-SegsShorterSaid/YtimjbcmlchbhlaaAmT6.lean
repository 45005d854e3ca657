/-
  segs
-/
import Derived.Test.YtimjbcmlchbhlaaAmT4
set_option linter.unusedSimpArgs false
set_option linter.unusedVariables false
set_option maxRecDepth 10000
namespace Go.AM
open Go Go.RowKit Go.Proofs
variable {C : World}
theorem gb0 (a : UInt8) (l : List UInt8) : gb (a :: l) 0 = a.toNat := by unfold gb; rfl
theorem gb1 (a b : UInt8) (l : List UInt8) : gb (a :: b :: l) 1 = b.toNat := by unfold gb; rfl
theorem gb2 (a b c : UInt8) (l : List UInt8) : gb (a :: b :: c :: l) 2 = c.toNat := by unfold gb; rfl
theorem drive2 (a b : UInt8) : DriveM [a, b] = (isL a.toNat && dec ((b.toNat : Int) = 58 ∨ (b.toNat : Int) = 124)) := by
  rw [Bool.eq_iff_iff, DriveM, dec_true, Bool.and_eq_true, dec_true, gb0, gb1]; simp
theorem drive3 (a b c : UInt8) : DriveM [a, b, c] = false := by rw [DriveM, dec_false]; simp
theorem fixed2 (a b : UInt8) : FixedM [a, b] = (isL a.toNat && dec ((b.toNat : Int) = 58)) := by
  rw [Bool.eq_iff_iff, FixedM, dec_true, drive2, Bool.and_eq_true, Bool.and_eq_true, dec_true, dec_true, gb1]; grind
theorem begins2 (a b : UInt8) : BeginsM [a, b] = DriveM [a, b] := by
  rw [Bool.eq_iff_iff, BeginsM, dec_true]; simp
theorem begins3 (a b c : UInt8) : BeginsM [a, b, c] = (DriveM [a, b] && dec ((c.toNat : Int) = 47 ∨ (c.toNat : Int) = 92 ∨ (c.toNat : Int) = 63 ∨ (c.toNat : Int) = 35)) := by
  rw [Bool.eq_iff_iff, BeginsM, dec_true, Bool.and_eq_true, dec_true, gb2]; simp
theorem begins1 (l : List UInt8) (h : l.length < 2) : BeginsM l = false := by rw [BeginsM, dec_false]; omega
set_option maxHeartbeats 4000000 in
/-- gossamerlaw11.SegsDrives. -/
theorem SegsDrives_ok (a b c : UInt8) (σ : AStore) : ACalls Try.prog C 6 [.int .u8 (a.toNat : Int), .int .u8 (b.toNat : Int), .int .u8 (c.toNat : Int)] σ (fun r σ' => r = .bool true ∧ Same σ σ' []) := by
  refine ACalls.enter Try.func6 Try.ntmps6 rfl rfl rfl rfl ?_
  refine AWp.seq (AWp.region (A.assign rfl rfl (AOps.nil' ?_)))

  refine AWp.seq_cut (fun τ1 σ1 => Same σ σ1 [] ∧ Sub [(7, .bool (isL a.toNat)), (0, .int .u8 (a.toNat : Int)), (1, .int .u8 (b.toNat : Int)), (2, .int .u8 (c.toNat : Int))] τ1) ?_ ?_
  · repeat' (first
      | refine AWp.seq (AWp.region ?_)
      | refine AWp.region ?_
      | refine AOps.nil' ?_
      | refine AOps.nil ?_
      | (apply A.move; exact rfl; exact rfl)
      | (apply A.assign; exact rfl; exact rfl)
      | (apply A.pick_t; exact rfl; exact rfl; exact rfl)
      | (apply A.pick_f; exact rfl; exact rfl; exact rfl)
      | (apply A.leq; exact rfl; exact rfl; exact rfl)
      | (apply A.geq; exact rfl; exact rfl; exact rfl)
      | (apply A.eql; exact rfl; exact rfl; exact rfl)
      | (apply A.beq; exact rfl; exact rfl; exact rfl)
      | (apply A.not; exact rfl; exact rfl)
      | (apply A.sl_ab; exact rfl; exact rfl; exact rfl; omega; exact rfl)
      | (apply A.sl_a; exact rfl; exact rfl; omega; exact rfl)
      | (apply A.sl_b; exact rfl; exact rfl; omega; exact rfl)
      | (apply A.conv_in; exact rfl; (simp [IntKind.min, IntKind.max, IntKind.signed, IntKind.bits]; omega); exact rfl)
      | (apply A.conv; exact rfl; exact rfl)
      | (apply A.conv_str; exact rfl; exact rfl)
      | (apply AOps.on; exact rfl)
      | (apply AOps.off; exact rfl; exact rfl)
      | (apply AOps.off_undef; exact rfl; exact rfl; exact rfl)
      | (apply AOps.guard; exact rfl; exact rfl; rotate_left; exact rfl; rotate_left; all_goals intro h; all_goals try simp only [dec_true, dec_false, Bool.not_true, Bool.not_false, Bool.not_eq_true', Bool.not_eq_false', Int.not_lt, Int.not_le] at h)
      | refine AWp.ret ?_
      | refine AWp.skip ?_
      | refine AWp.seq ?_)
    all_goals (refine ⟨.refl _ _, Sub.cons (congrArg some (vbool ?_)) (Sub.cons rfl (Sub.cons rfl (Sub.cons rfl (Sub.nil))))⟩; simp only [isL, dec_true, Bool.false_eq_true, false_iff, true_iff]; omega)
  rintro τ1 σ1 ⟨hS1, hs1⟩
  refine AWp.sub ?_ hs1
  clear hs1
  refine AWp.seq_cut (fun τ2 σ2 => Same σ σ2 [] ∧ Sub [(8, .string (B [a, b])), (7, .bool (isL a.toNat)), (0, .int .u8 (a.toNat : Int)), (1, .int .u8 (b.toNat : Int)), (2, .int .u8 (c.toNat : Int))] τ2) ?_ ?_
  · repeat' (first
      | refine AWp.seq (AWp.region ?_)
      | refine AWp.region ?_
      | refine AOps.nil' ?_
      | refine AOps.nil ?_
      | (apply A.buildSlice; exact rfl; decide; exact rfl; exact rfl)
      | (apply A.ofBytes (l := [a, b]); exact rfl; exact get_alloc_self _ _; exact rfl; exact Nat.le_refl _; exact rfl)
      | (apply A.move; exact rfl; exact rfl)
      | (apply A.assign; exact rfl; exact rfl)
      | (apply A.pick_t; exact rfl; exact rfl; exact rfl)
      | (apply A.pick_f; exact rfl; exact rfl; exact rfl)
      | (apply A.leq; exact rfl; exact rfl; exact rfl)
      | (apply A.geq; exact rfl; exact rfl; exact rfl)
      | (apply A.eql; exact rfl; exact rfl; exact rfl)
      | (apply A.beq; exact rfl; exact rfl; exact rfl)
      | (apply A.not; exact rfl; exact rfl)
      | (apply A.sl_ab; exact rfl; exact rfl; exact rfl; omega; exact rfl)
      | (apply A.sl_a; exact rfl; exact rfl; omega; exact rfl)
      | (apply A.sl_b; exact rfl; exact rfl; omega; exact rfl)
      | (apply A.conv_in; exact rfl; (simp [IntKind.min, IntKind.max, IntKind.signed, IntKind.bits]; omega); exact rfl)
      | (apply A.conv; exact rfl; exact rfl)
      | (apply A.conv_str; exact rfl; exact rfl)
      | (apply AOps.on; exact rfl)
      | (apply AOps.off; exact rfl; exact rfl)
      | (apply AOps.off_undef; exact rfl; exact rfl; exact rfl)
      | (apply AOps.guard; exact rfl; exact rfl; rotate_left; exact rfl; rotate_left; all_goals intro h; all_goals try simp only [dec_true, dec_false, Bool.not_true, Bool.not_false, Bool.not_eq_true', Bool.not_eq_false', Int.not_lt, Int.not_le] at h)
      | refine AWp.ret ?_
      | refine AWp.skip ?_
      | refine AWp.seq ?_)
    exact ⟨hS1.trans (.alloc _ _ _), Sub.cons rfl (Sub.cons rfl (Sub.cons rfl (Sub.cons rfl (Sub.cons rfl (Sub.nil)))))⟩
  rintro τ2 σ2 ⟨hS2, hs2⟩
  refine AWp.sub ?_ hs2
  clear hs2
  refine AWp.seq_cut (fun τ3 σ3 => Same σ σ3 [] ∧ Sub [(9, .string (B [a, b, c])), (8, .string (B [a, b])), (7, .bool (isL a.toNat)), (0, .int .u8 (a.toNat : Int)), (1, .int .u8 (b.toNat : Int)), (2, .int .u8 (c.toNat : Int))] τ3) ?_ ?_
  · repeat' (first
      | refine AWp.seq (AWp.region ?_)
      | refine AWp.region ?_
      | refine AOps.nil' ?_
      | refine AOps.nil ?_
      | (apply A.buildSlice; exact rfl; decide; exact rfl; exact rfl)
      | (apply A.ofBytes (l := [a, b, c]); exact rfl; exact get_alloc_self _ _; exact rfl; exact Nat.le_refl _; exact rfl)
      | (apply A.move; exact rfl; exact rfl)
      | (apply A.assign; exact rfl; exact rfl)
      | (apply A.pick_t; exact rfl; exact rfl; exact rfl)
      | (apply A.pick_f; exact rfl; exact rfl; exact rfl)
      | (apply A.leq; exact rfl; exact rfl; exact rfl)
      | (apply A.geq; exact rfl; exact rfl; exact rfl)
      | (apply A.eql; exact rfl; exact rfl; exact rfl)
      | (apply A.beq; exact rfl; exact rfl; exact rfl)
      | (apply A.not; exact rfl; exact rfl)
      | (apply A.sl_ab; exact rfl; exact rfl; exact rfl; omega; exact rfl)
      | (apply A.sl_a; exact rfl; exact rfl; omega; exact rfl)
      | (apply A.sl_b; exact rfl; exact rfl; omega; exact rfl)
      | (apply A.conv_in; exact rfl; (simp [IntKind.min, IntKind.max, IntKind.signed, IntKind.bits]; omega); exact rfl)
      | (apply A.conv; exact rfl; exact rfl)
      | (apply A.conv_str; exact rfl; exact rfl)
      | (apply AOps.on; exact rfl)
      | (apply AOps.off; exact rfl; exact rfl)
      | (apply AOps.off_undef; exact rfl; exact rfl; exact rfl)
      | (apply AOps.guard; exact rfl; exact rfl; rotate_left; exact rfl; rotate_left; all_goals intro h; all_goals try simp only [dec_true, dec_false, Bool.not_true, Bool.not_false, Bool.not_eq_true', Bool.not_eq_false', Int.not_lt, Int.not_le] at h)
      | refine AWp.ret ?_
      | refine AWp.skip ?_
      | refine AWp.seq ?_)
    exact ⟨hS2.trans (.alloc _ _ _), Sub.cons rfl (Sub.cons rfl (Sub.cons rfl (Sub.cons rfl (Sub.cons rfl (Sub.cons rfl (Sub.nil))))))⟩
  rintro τ3 σ3 ⟨hS3, hs3⟩
  refine AWp.sub ?_ hs3
  clear hs3
  refine AWp.seq_cut (fun τ4 σ4 => Same σ σ4 [] ∧ Sub [(10, .bool (DriveM [a, b])), (9, .string (B [a, b, c])), (8, .string (B [a, b])), (7, .bool (isL a.toNat)), (0, .int .u8 (a.toNat : Int)), (1, .int .u8 (b.toNat : Int)), (2, .int .u8 (c.toNat : Int))] τ4) ?_ ?_
  · repeat' (first
      | refine AWp.seq (AWp.region ?_)
      | refine AWp.region ?_
      | refine AOps.nil' ?_
      | refine AOps.nil ?_
      | (apply A.move; exact rfl; exact rfl)
      | (apply A.assign; exact rfl; exact rfl)
      | (apply A.pick_t; exact rfl; exact rfl; exact rfl)
      | (apply A.pick_f; exact rfl; exact rfl; exact rfl)
      | (apply A.leq; exact rfl; exact rfl; exact rfl)
      | (apply A.geq; exact rfl; exact rfl; exact rfl)
      | (apply A.eql; exact rfl; exact rfl; exact rfl)
      | (apply A.beq; exact rfl; exact rfl; exact rfl)
      | (apply A.not; exact rfl; exact rfl)
      | (apply A.sl_ab; exact rfl; exact rfl; exact rfl; omega; exact rfl)
      | (apply A.sl_a; exact rfl; exact rfl; omega; exact rfl)
      | (apply A.sl_b; exact rfl; exact rfl; omega; exact rfl)
      | (apply A.conv_in; exact rfl; (simp [IntKind.min, IntKind.max, IntKind.signed, IntKind.bits]; omega); exact rfl)
      | (apply A.conv; exact rfl; exact rfl)
      | (apply A.conv_str; exact rfl; exact rfl)
      | (apply AOps.on; exact rfl)
      | (apply AOps.off; exact rfl; exact rfl)
      | (apply AOps.off_undef; exact rfl; exact rfl; exact rfl)
      | (apply AOps.guard; exact rfl; exact rfl; rotate_left; exact rfl; rotate_left; all_goals intro h; all_goals try simp only [dec_true, dec_false, Bool.not_true, Bool.not_false, Bool.not_eq_true', Bool.not_eq_false', Int.not_lt, Int.not_le] at h)
      | refine AWp.ret ?_
      | refine AWp.skip ?_
      | refine AWp.seq ?_)
    all_goals (refine ⟨hS3, Sub.cons (congrArg some (vbool ?_)) (Sub.cons rfl (Sub.cons rfl (Sub.cons rfl (Sub.cons rfl (Sub.cons rfl (Sub.cons rfl (Sub.nil)))))))⟩; rw [drive2]; simp_all [isL, dec_true, dec_false] <;> omega)
  rintro τ4 σ4 ⟨hS4, hs4⟩
  refine AWp.sub ?_ hs4
  clear hs4
  refine AWp.seq_cut (fun τ5 σ5 => Same σ σ5 [] ∧ Sub [(11, .bool (dec ((c.toNat : Int) = 47 ∨ (c.toNat : Int) = 92 ∨ (c.toNat : Int) = 63 ∨ (c.toNat : Int) = 35))), (10, .bool (DriveM [a, b])), (9, .string (B [a, b, c])), (8, .string (B [a, b])), (7, .bool (isL a.toNat)), (0, .int .u8 (a.toNat : Int)), (1, .int .u8 (b.toNat : Int)), (2, .int .u8 (c.toNat : Int))] τ5) ?_ ?_
  · repeat' (first
      | refine AWp.seq (AWp.region ?_)
      | refine AWp.region ?_
      | refine AOps.nil' ?_
      | refine AOps.nil ?_
      | (apply A.move; exact rfl; exact rfl)
      | (apply A.assign; exact rfl; exact rfl)
      | (apply A.pick_t; exact rfl; exact rfl; exact rfl)
      | (apply A.pick_f; exact rfl; exact rfl; exact rfl)
      | (apply A.leq; exact rfl; exact rfl; exact rfl)
      | (apply A.geq; exact rfl; exact rfl; exact rfl)
      | (apply A.eql; exact rfl; exact rfl; exact rfl)
      | (apply A.beq; exact rfl; exact rfl; exact rfl)
      | (apply A.not; exact rfl; exact rfl)
      | (apply A.sl_ab; exact rfl; exact rfl; exact rfl; omega; exact rfl)
      | (apply A.sl_a; exact rfl; exact rfl; omega; exact rfl)
      | (apply A.sl_b; exact rfl; exact rfl; omega; exact rfl)
      | (apply A.conv_in; exact rfl; (simp [IntKind.min, IntKind.max, IntKind.signed, IntKind.bits]; omega); exact rfl)
      | (apply A.conv; exact rfl; exact rfl)
      | (apply A.conv_str; exact rfl; exact rfl)
      | (apply AOps.on; exact rfl)
      | (apply AOps.off; exact rfl; exact rfl)
      | (apply AOps.off_undef; exact rfl; exact rfl; exact rfl)
      | (apply AOps.guard; exact rfl; exact rfl; rotate_left; exact rfl; rotate_left; all_goals intro h; all_goals try simp only [dec_true, dec_false, Bool.not_true, Bool.not_false, Bool.not_eq_true', Bool.not_eq_false', Int.not_lt, Int.not_le] at h)
      | refine AWp.ret ?_
      | refine AWp.skip ?_
      | refine AWp.seq ?_)
    all_goals (refine ⟨hS4, Sub.cons (congrArg some (vbool ?_)) (Sub.cons rfl (Sub.cons rfl (Sub.cons rfl (Sub.cons rfl (Sub.cons rfl (Sub.cons rfl (Sub.cons rfl (Sub.nil))))))))⟩; simp only [isL, dec_true, Bool.false_eq_true, false_iff, true_iff]; omega)
  rintro τ5 σ5 ⟨hS5, hs5⟩
  refine AWp.sub ?_ hs5
  clear hs5
  have f1 : FixedM [a, b] = (DriveM [a, b] && dec ((b.toNat : Int) = 58)) := by rw [fixed2, drive2, Bool.eq_iff_iff]; simp only [Bool.and_eq_true, dec_true]; grind
  have f2 := begins2 a b
  have f3 := drive3 a b c
  have f4 := begins3 a b c
  have f5 : BeginsM (List.take (Int.toNat 1) [a, b]) = false := begins1 _ (by simp)
  repeat' (first
    | refine AWp.seq (AWp.region ?_)
    | refine AWp.region ?_
    | refine AOps.nil' ?_
    | refine AOps.nil ?_
    | (apply AOps.call; exact rfl; apply awake_ok; exact rfl; rintro r σ1 ⟨rfl, hS⟩)
    | (apply A.sl_b; exact rfl; exact rfl; (simp only [List.length_cons, List.length_nil]; omega); exact rfl)
    | (apply AOps.call; exact rfl; apply segs_Drive_ok; (first | decide | (simp only [List.length_take, List.length_cons, List.length_nil]; omega)); exact rfl; rintro _ _ ⟨rfl, rfl⟩)
    | (apply AOps.call; exact rfl; apply segs_Fixed_ok; (first | decide | (simp only [List.length_take, List.length_cons, List.length_nil]; omega)); exact rfl; rintro _ _ ⟨rfl, rfl⟩)
    | (apply AOps.call; exact rfl; apply segs_Begins_ok; (first | decide | (simp only [List.length_take, List.length_cons, List.length_nil]; omega)); exact rfl; rintro _ _ ⟨rfl, rfl⟩)
    | (apply A.move; exact rfl; exact rfl)
    | (apply A.assign; exact rfl; exact rfl)
    | (apply A.pick_t; exact rfl; exact rfl; exact rfl)
    | (apply A.pick_f; exact rfl; exact rfl; exact rfl)
    | (apply A.leq; exact rfl; exact rfl; exact rfl)
    | (apply A.geq; exact rfl; exact rfl; exact rfl)
    | (apply A.eql; exact rfl; exact rfl; exact rfl)
    | (apply A.beq; exact rfl; exact rfl; exact rfl)
    | (apply A.not; exact rfl; exact rfl)
    | (apply A.sl_ab; exact rfl; exact rfl; exact rfl; omega; exact rfl)
    | (apply A.sl_a; exact rfl; exact rfl; omega; exact rfl)
    | (apply A.sl_b; exact rfl; exact rfl; omega; exact rfl)
    | (apply A.conv_in; exact rfl; (simp [IntKind.min, IntKind.max, IntKind.signed, IntKind.bits]; omega); exact rfl)
    | (apply A.conv; exact rfl; exact rfl)
    | (apply A.conv_str; exact rfl; exact rfl)
    | (apply AOps.on; exact rfl)
    | (apply AOps.off; exact rfl; exact rfl)
    | (apply AOps.off_undef; exact rfl; exact rfl; exact rfl)
    | (apply AOps.guard; exact rfl; exact rfl; rotate_left; exact rfl; rotate_left; all_goals intro h; all_goals try simp only [dec_true, dec_false, Bool.not_true, Bool.not_false, Bool.not_eq_true', Bool.not_eq_false', Int.not_lt, Int.not_le] at h)
    | refine AWp.ret ?_
    | refine AWp.skip ?_
    | refine AWp.seq ?_)
  all_goals (refine ⟨_, .tmp rfl .nil, vbool ?_, ?_⟩)
  all_goals first | exact hS5.trans ‹Same σ5 _ []› | exact hS5 | exact ⟨fun _ => rfl, fun _ => rfl⟩ | (exfalso; simp_all; done) | grind

def dM (i : Nat) : List UInt8 := ([[46], [37, 50, 101], [37, 50, 69]] : List (List UInt8)).getD i []
theorem dM_len {i : Nat} : (dM i).length ≤ 3 := by
  unfold dM
  match i with
  | 0 | 1 | 2 => decide
  | n + 3 => simp
theorem dM_facts : ∀ i j k : Fin 3, DotM (dM i) = true ∧ DotsM (dM i) = false ∧ DotsM (dM i ++ dM j) = true ∧ DotM (dM i ++ dM j) = false ∧ DotsM (dM i ++ dM j ++ dM k) = false ∧ DotM (dM i ++ [97]) = false ∧ DotsM ([97] ++ dM i) = false := by
  decide +kernel
theorem dM_facts' {i j k : Int} (hi : 0 ≤ i ∧ i < 3) (hj : 0 ≤ j ∧ j < 3) (hk : 0 ≤ k ∧ k < 3) : DotM (dM i.toNat) = true ∧ DotsM (dM i.toNat) = false ∧ DotsM (dM i.toNat ++ dM j.toNat) = true ∧ DotM (dM i.toNat ++ dM j.toNat) = false ∧ DotsM (dM i.toNat ++ dM j.toNat ++ dM k.toNat) = false ∧ DotM (dM i.toNat ++ [97]) = false ∧ DotsM ([97] ++ dM i.toNat) = false :=
  dM_facts ⟨i.toNat, by omega⟩ ⟨j.toNat, by omega⟩ ⟨k.toNat, by omega⟩
set_option maxHeartbeats 4000000 in
/-- gossamerlaw11.SegsDots. -/
theorem SegsDots_ok (a b c : Int) (σ : AStore) : ACalls Try.prog C 5 [.int .i64 a, .int .i64 b, .int .i64 c] σ (fun r σ' => r = .bool true ∧ Same σ σ' []) := by
  refine ACalls.enter Try.func5 Try.ntmps5 rfl rfl rfl rfl ?_
  refine AWp.seq (AWp.region (A.assign rfl rfl (AOps.nil' ?_)))
  refine AWp.seq_cut (fun τ1 σ1 => Same σ σ1 [] ∧ ∃ v ls, ls = [[46], [37, 50, 101], [37, 50, 69]] ∧ Row σ1 1 v (strs ls) ∧ Sub [(7, v), (0, .int .i64 a), (1, .int .i64 b), (2, .int .i64 c)] τ1) ?_ ?_
  · repeat' (first
      | refine AWp.seq (AWp.region ?_)
      | refine AWp.region ?_
      | refine AOps.nil' ?_
      | refine AOps.nil ?_
      | (apply A.buildSlice; exact rfl; decide; exact rfl; exact rfl)
      | (apply A.move; exact rfl; exact rfl)
      | (apply A.assign; exact rfl; exact rfl)
      | (apply A.pick_t; exact rfl; exact rfl; exact rfl)
      | (apply A.pick_f; exact rfl; exact rfl; exact rfl)
      | (apply A.sadd; exact rfl; exact rfl; (simp only [List.length_append, List.length_cons, List.length_nil]; omega); exact rfl)
      | (apply A.not; exact rfl; exact rfl)
      | (apply AOps.on; exact rfl)
      | (apply AOps.off; exact rfl; exact rfl)
      | (apply AOps.off_undef; exact rfl; exact rfl; exact rfl)
      | (apply AOps.guard; exact rfl; exact rfl; rotate_left; exact rfl; rotate_left; all_goals intro h; all_goals try simp only [dec_true, dec_false, Bool.not_true, Bool.not_false, Bool.not_eq_true', Bool.not_eq_false', Int.not_lt, Int.not_le] at h)
      | refine AWp.ret ?_
      | refine AWp.skip ?_
      | refine AWp.seq ?_)
    exact ⟨.alloc _ _ _, _, _, rfl, .mk _ 0 _ _ _ _ (get_alloc_self _ _) (.inr rfl) (Nat.le_refl _) rfl, Sub.cons rfl (Sub.cons rfl (Sub.cons rfl (Sub.cons rfl (Sub.nil))))⟩
  rintro τ1 σ1 ⟨hS1, v, ls, hls, hrow, hs1⟩
  have hlen : ls.length = 3 := by rw [hls]; rfl
  refine AWp.sub ?_ hs1
  clear hs1
  refine AWp.seq_cut (fun τ2 σ2 => σ1 = σ2 ∧ ∃ i1 i2 i3 : Int, (0 ≤ i1 ∧ i1 < 3) ∧ (0 ≤ i2 ∧ i2 < 3) ∧ (0 ≤ i3 ∧ i3 < 3) ∧ Sub [(8, .string (B (dM i1.toNat))), (9, .string (B (dM i2.toNat))), (10, .string (B (dM i3.toNat)))] τ2) ?_ ?_
  · repeat' (first
      | refine AWp.seq (AWp.region ?_)
      | refine AWp.region ?_
      | refine AOps.nil' ?_
      | refine AOps.nil ?_
      | ((first | refine AWp.seq (AWp.draw (id := 2) Try_mixed ?_) | refine AWp.draw (id := 2) Try_mixed ?_); (first | (apply AAny.pure 0; exact rfl; exact rfl; (apply PureOK.move; exact rfl); exact rfl; kernel_rfl)); (first | (apply AAny.pure 1; exact rfl; exact rfl; (apply PureOK.move; exact rfl); exact rfl; kernel_rfl)); (first | (apply AAny.pure 5; exact rfl; exact rfl; (apply PureOK.move; exact rfl); exact rfl; kernel_rfl)); (first | (apply AAny.pure 6; exact rfl; exact rfl; (apply PureOK.move; exact rfl); exact rfl; kernel_rfl)); (first | (apply AAny.pure 10; exact rfl; exact rfl; (apply PureOK.move; exact rfl); exact rfl; kernel_rfl)); (first | (apply AAny.pure 11; exact rfl; exact rfl; (apply PureOK.move; exact rfl); exact rfl; kernel_rfl)); (apply AAny.one 2; kernel_rfl; all_goals first | ((first | (apply D.ncall (i := 2); exact rfl; infer_instance; exact rfl; apply Low_ok; decide; exact rfl; rintro _ _ ⟨j, rfl, hj0, hj1, rfl⟩)); (first | (apply AAny.pure 3; exact rfl; exact rfl; (apply PureOK.indexR; exact rfl; exact rfl; assumption; omega; (first | exact (strs_length _).trans (Nat.mul_one _).symm | exact (bys_length _).trans (Nat.mul_one _).symm); omega; omega); exact rfl; kernel_rfl) | (apply AAny.pure 3; exact rfl; exact rfl; (apply PureOK.indexAddr; exact rfl; exact rfl; omega; omega); exact rfl; kernel_rfl) | (apply AAny.pure 3; exact rfl; exact rfl; (apply PureOK.indexArr; exact rfl; exact rfl; omega; omega); exact rfl; kernel_rfl)); (apply AAny.two 4 7; kernel_rfl; all_goals first | ((first | (apply D.nloadS (i := 4); exact rfl; infer_instance; exact rfl; assumption; omega; omega; exact rfl) | (apply D.nloadB (i := 4); exact rfl; infer_instance; exact rfl; assumption; omega; omega; exact rfl) | (apply D.nload (i := 4); exact rfl; infer_instance; exact rfl; assumption; assumption; exact rfl)); (apply AAny.one 7; kernel_rfl; all_goals first | ((first | (apply D.ncall (i := 7); exact rfl; infer_instance; exact rfl; apply Low_ok; decide; exact rfl; rintro _ _ ⟨j, rfl, hj0, hj1, rfl⟩)); (first | (apply AAny.pure 8; exact rfl; exact rfl; (apply PureOK.indexR; exact rfl; exact rfl; assumption; omega; (first | exact (strs_length _).trans (Nat.mul_one _).symm | exact (bys_length _).trans (Nat.mul_one _).symm); omega; omega); exact rfl; kernel_rfl) | (apply AAny.pure 8; exact rfl; exact rfl; (apply PureOK.indexAddr; exact rfl; exact rfl; omega; omega); exact rfl; kernel_rfl) | (apply AAny.pure 8; exact rfl; exact rfl; (apply PureOK.indexArr; exact rfl; exact rfl; omega; omega); exact rfl; kernel_rfl)); (apply AAny.two 9 12; kernel_rfl; all_goals first | ((first | (apply D.nloadS (i := 9); exact rfl; infer_instance; exact rfl; assumption; omega; omega; exact rfl) | (apply D.nloadB (i := 9); exact rfl; infer_instance; exact rfl; assumption; omega; omega; exact rfl) | (apply D.nload (i := 9); exact rfl; infer_instance; exact rfl; assumption; assumption; exact rfl)); (apply AAny.one 12; kernel_rfl; all_goals first | ((first | (apply D.ncall (i := 12); exact rfl; infer_instance; exact rfl; apply Low_ok; decide; exact rfl; rintro _ _ ⟨j, rfl, hj0, hj1, rfl⟩)); (first | (apply AAny.pure 13; exact rfl; exact rfl; (apply PureOK.indexR; exact rfl; exact rfl; assumption; omega; (first | exact (strs_length _).trans (Nat.mul_one _).symm | exact (bys_length _).trans (Nat.mul_one _).symm); omega; omega); exact rfl; kernel_rfl) | (apply AAny.pure 13; exact rfl; exact rfl; (apply PureOK.indexAddr; exact rfl; exact rfl; omega; omega); exact rfl; kernel_rfl) | (apply AAny.pure 13; exact rfl; exact rfl; (apply PureOK.indexArr; exact rfl; exact rfl; omega; omega); exact rfl; kernel_rfl)); (first | (apply AAny.pure 15; exact rfl; exact rfl; (apply PureOK.assign; exact rfl); exact rfl; kernel_rfl)); (first | (apply AAny.pure 16; exact rfl; exact rfl; (apply PureOK.assign; exact rfl); exact rfl; kernel_rfl)); (first | (apply D.loadS 14; exact rfl; infer_instance; exact rfl; assumption; omega; omega; exact rfl; kernel_rfl) | (apply D.loadB 14; exact rfl; infer_instance; exact rfl; assumption; omega; omega; exact rfl; kernel_rfl) | (apply D.load 14; exact rfl; infer_instance; exact rfl; assumption; assumption; exact rfl; kernel_rfl)); (first | (apply AAny.pure 17; exact rfl; exact rfl; (apply PureOK.assign; exact rfl); exact rfl; kernel_rfl)); apply AAny.done; kernel_rfl))) | ((first | (apply D.ncall (i := 12); exact rfl; infer_instance; exact rfl; apply Low_ok; decide; exact rfl; rintro _ _ ⟨j, rfl, hj0, hj1, rfl⟩)); (first | (apply AAny.pure 13; exact rfl; exact rfl; (apply PureOK.indexR; exact rfl; exact rfl; assumption; omega; (first | exact (strs_length _).trans (Nat.mul_one _).symm | exact (bys_length _).trans (Nat.mul_one _).symm); omega; omega); exact rfl; kernel_rfl) | (apply AAny.pure 13; exact rfl; exact rfl; (apply PureOK.indexAddr; exact rfl; exact rfl; omega; omega); exact rfl; kernel_rfl) | (apply AAny.pure 13; exact rfl; exact rfl; (apply PureOK.indexArr; exact rfl; exact rfl; omega; omega); exact rfl; kernel_rfl)); (first | (apply AAny.pure 15; exact rfl; exact rfl; (apply PureOK.assign; exact rfl); exact rfl; kernel_rfl)); (first | (apply D.loadS 9; exact rfl; infer_instance; exact rfl; assumption; omega; omega; exact rfl; kernel_rfl) | (apply D.loadB 9; exact rfl; infer_instance; exact rfl; assumption; omega; omega; exact rfl; kernel_rfl) | (apply D.load 9; exact rfl; infer_instance; exact rfl; assumption; assumption; exact rfl; kernel_rfl)); (first | (apply AAny.pure 16; exact rfl; exact rfl; (apply PureOK.assign; exact rfl); exact rfl; kernel_rfl)); (first | (apply D.loadS 14; exact rfl; infer_instance; exact rfl; assumption; omega; omega; exact rfl; kernel_rfl) | (apply D.loadB 14; exact rfl; infer_instance; exact rfl; assumption; omega; omega; exact rfl; kernel_rfl) | (apply D.load 14; exact rfl; infer_instance; exact rfl; assumption; assumption; exact rfl; kernel_rfl)); (first | (apply AAny.pure 17; exact rfl; exact rfl; (apply PureOK.assign; exact rfl); exact rfl; kernel_rfl)); apply AAny.done; kernel_rfl))))) | ((first | (apply D.ncall (i := 7); exact rfl; infer_instance; exact rfl; apply Low_ok; decide; exact rfl; rintro _ _ ⟨j, rfl, hj0, hj1, rfl⟩)); (first | (apply AAny.pure 8; exact rfl; exact rfl; (apply PureOK.indexR; exact rfl; exact rfl; assumption; omega; (first | exact (strs_length _).trans (Nat.mul_one _).symm | exact (bys_length _).trans (Nat.mul_one _).symm); omega; omega); exact rfl; kernel_rfl) | (apply AAny.pure 8; exact rfl; exact rfl; (apply PureOK.indexAddr; exact rfl; exact rfl; omega; omega); exact rfl; kernel_rfl) | (apply AAny.pure 8; exact rfl; exact rfl; (apply PureOK.indexArr; exact rfl; exact rfl; omega; omega); exact rfl; kernel_rfl)); (apply AAny.three 4 9 12; kernel_rfl; all_goals first | ((first | (apply D.nloadS (i := 4); exact rfl; infer_instance; exact rfl; assumption; omega; omega; exact rfl) | (apply D.nloadB (i := 4); exact rfl; infer_instance; exact rfl; assumption; omega; omega; exact rfl) | (apply D.nload (i := 4); exact rfl; infer_instance; exact rfl; assumption; assumption; exact rfl)); (apply AAny.two 9 12; kernel_rfl; all_goals first | ((first | (apply D.nloadS (i := 9); exact rfl; infer_instance; exact rfl; assumption; omega; omega; exact rfl) | (apply D.nloadB (i := 9); exact rfl; infer_instance; exact rfl; assumption; omega; omega; exact rfl) | (apply D.nload (i := 9); exact rfl; infer_instance; exact rfl; assumption; assumption; exact rfl)); (apply AAny.one 12; kernel_rfl; all_goals first | ((first | (apply D.ncall (i := 12); exact rfl; infer_instance; exact rfl; apply Low_ok; decide; exact rfl; rintro _ _ ⟨j, rfl, hj0, hj1, rfl⟩)); (first | (apply AAny.pure 13; exact rfl; exact rfl; (apply PureOK.indexR; exact rfl; exact rfl; assumption; omega; (first | exact (strs_length _).trans (Nat.mul_one _).symm | exact (bys_length _).trans (Nat.mul_one _).symm); omega; omega); exact rfl; kernel_rfl) | (apply AAny.pure 13; exact rfl; exact rfl; (apply PureOK.indexAddr; exact rfl; exact rfl; omega; omega); exact rfl; kernel_rfl) | (apply AAny.pure 13; exact rfl; exact rfl; (apply PureOK.indexArr; exact rfl; exact rfl; omega; omega); exact rfl; kernel_rfl)); (first | (apply AAny.pure 15; exact rfl; exact rfl; (apply PureOK.assign; exact rfl); exact rfl; kernel_rfl)); (first | (apply AAny.pure 16; exact rfl; exact rfl; (apply PureOK.assign; exact rfl); exact rfl; kernel_rfl)); (first | (apply D.loadS 14; exact rfl; infer_instance; exact rfl; assumption; omega; omega; exact rfl; kernel_rfl) | (apply D.loadB 14; exact rfl; infer_instance; exact rfl; assumption; omega; omega; exact rfl; kernel_rfl) | (apply D.load 14; exact rfl; infer_instance; exact rfl; assumption; assumption; exact rfl; kernel_rfl)); (first | (apply AAny.pure 17; exact rfl; exact rfl; (apply PureOK.assign; exact rfl); exact rfl; kernel_rfl)); apply AAny.done; kernel_rfl))) | ((first | (apply D.ncall (i := 12); exact rfl; infer_instance; exact rfl; apply Low_ok; decide; exact rfl; rintro _ _ ⟨j, rfl, hj0, hj1, rfl⟩)); (first | (apply AAny.pure 13; exact rfl; exact rfl; (apply PureOK.indexR; exact rfl; exact rfl; assumption; omega; (first | exact (strs_length _).trans (Nat.mul_one _).symm | exact (bys_length _).trans (Nat.mul_one _).symm); omega; omega); exact rfl; kernel_rfl) | (apply AAny.pure 13; exact rfl; exact rfl; (apply PureOK.indexAddr; exact rfl; exact rfl; omega; omega); exact rfl; kernel_rfl) | (apply AAny.pure 13; exact rfl; exact rfl; (apply PureOK.indexArr; exact rfl; exact rfl; omega; omega); exact rfl; kernel_rfl)); (first | (apply AAny.pure 15; exact rfl; exact rfl; (apply PureOK.assign; exact rfl); exact rfl; kernel_rfl)); (first | (apply D.loadS 9; exact rfl; infer_instance; exact rfl; assumption; omega; omega; exact rfl; kernel_rfl) | (apply D.loadB 9; exact rfl; infer_instance; exact rfl; assumption; omega; omega; exact rfl; kernel_rfl) | (apply D.load 9; exact rfl; infer_instance; exact rfl; assumption; assumption; exact rfl; kernel_rfl)); (first | (apply AAny.pure 16; exact rfl; exact rfl; (apply PureOK.assign; exact rfl); exact rfl; kernel_rfl)); (first | (apply D.loadS 14; exact rfl; infer_instance; exact rfl; assumption; omega; omega; exact rfl; kernel_rfl) | (apply D.loadB 14; exact rfl; infer_instance; exact rfl; assumption; omega; omega; exact rfl; kernel_rfl) | (apply D.load 14; exact rfl; infer_instance; exact rfl; assumption; assumption; exact rfl; kernel_rfl)); (first | (apply AAny.pure 17; exact rfl; exact rfl; (apply PureOK.assign; exact rfl); exact rfl; kernel_rfl)); apply AAny.done; kernel_rfl))) | ((first | (apply D.nloadS (i := 9); exact rfl; infer_instance; exact rfl; assumption; omega; omega; exact rfl) | (apply D.nloadB (i := 9); exact rfl; infer_instance; exact rfl; assumption; omega; omega; exact rfl) | (apply D.nload (i := 9); exact rfl; infer_instance; exact rfl; assumption; assumption; exact rfl)); (apply AAny.two 4 12; kernel_rfl; all_goals first | ((first | (apply D.nloadS (i := 4); exact rfl; infer_instance; exact rfl; assumption; omega; omega; exact rfl) | (apply D.nloadB (i := 4); exact rfl; infer_instance; exact rfl; assumption; omega; omega; exact rfl) | (apply D.nload (i := 4); exact rfl; infer_instance; exact rfl; assumption; assumption; exact rfl)); (apply AAny.one 12; kernel_rfl; all_goals first | ((first | (apply D.ncall (i := 12); exact rfl; infer_instance; exact rfl; apply Low_ok; decide; exact rfl; rintro _ _ ⟨j, rfl, hj0, hj1, rfl⟩)); (first | (apply AAny.pure 13; exact rfl; exact rfl; (apply PureOK.indexR; exact rfl; exact rfl; assumption; omega; (first | exact (strs_length _).trans (Nat.mul_one _).symm | exact (bys_length _).trans (Nat.mul_one _).symm); omega; omega); exact rfl; kernel_rfl) | (apply AAny.pure 13; exact rfl; exact rfl; (apply PureOK.indexAddr; exact rfl; exact rfl; omega; omega); exact rfl; kernel_rfl) | (apply AAny.pure 13; exact rfl; exact rfl; (apply PureOK.indexArr; exact rfl; exact rfl; omega; omega); exact rfl; kernel_rfl)); (first | (apply AAny.pure 15; exact rfl; exact rfl; (apply PureOK.assign; exact rfl); exact rfl; kernel_rfl)); (first | (apply AAny.pure 16; exact rfl; exact rfl; (apply PureOK.assign; exact rfl); exact rfl; kernel_rfl)); (first | (apply D.loadS 14; exact rfl; infer_instance; exact rfl; assumption; omega; omega; exact rfl; kernel_rfl) | (apply D.loadB 14; exact rfl; infer_instance; exact rfl; assumption; omega; omega; exact rfl; kernel_rfl) | (apply D.load 14; exact rfl; infer_instance; exact rfl; assumption; assumption; exact rfl; kernel_rfl)); (first | (apply AAny.pure 17; exact rfl; exact rfl; (apply PureOK.assign; exact rfl); exact rfl; kernel_rfl)); apply AAny.done; kernel_rfl))) | ((first | (apply D.ncall (i := 12); exact rfl; infer_instance; exact rfl; apply Low_ok; decide; exact rfl; rintro _ _ ⟨j, rfl, hj0, hj1, rfl⟩)); (first | (apply AAny.pure 13; exact rfl; exact rfl; (apply PureOK.indexR; exact rfl; exact rfl; assumption; omega; (first | exact (strs_length _).trans (Nat.mul_one _).symm | exact (bys_length _).trans (Nat.mul_one _).symm); omega; omega); exact rfl; kernel_rfl) | (apply AAny.pure 13; exact rfl; exact rfl; (apply PureOK.indexAddr; exact rfl; exact rfl; omega; omega); exact rfl; kernel_rfl) | (apply AAny.pure 13; exact rfl; exact rfl; (apply PureOK.indexArr; exact rfl; exact rfl; omega; omega); exact rfl; kernel_rfl)); (first | (apply D.loadS 4; exact rfl; infer_instance; exact rfl; assumption; omega; omega; exact rfl; kernel_rfl) | (apply D.loadB 4; exact rfl; infer_instance; exact rfl; assumption; omega; omega; exact rfl; kernel_rfl) | (apply D.load 4; exact rfl; infer_instance; exact rfl; assumption; assumption; exact rfl; kernel_rfl)); (first | (apply AAny.pure 15; exact rfl; exact rfl; (apply PureOK.assign; exact rfl); exact rfl; kernel_rfl)); (first | (apply AAny.pure 16; exact rfl; exact rfl; (apply PureOK.assign; exact rfl); exact rfl; kernel_rfl)); (first | (apply D.loadS 14; exact rfl; infer_instance; exact rfl; assumption; omega; omega; exact rfl; kernel_rfl) | (apply D.loadB 14; exact rfl; infer_instance; exact rfl; assumption; omega; omega; exact rfl; kernel_rfl) | (apply D.load 14; exact rfl; infer_instance; exact rfl; assumption; assumption; exact rfl; kernel_rfl)); (first | (apply AAny.pure 17; exact rfl; exact rfl; (apply PureOK.assign; exact rfl); exact rfl; kernel_rfl)); apply AAny.done; kernel_rfl))) | ((first | (apply D.ncall (i := 12); exact rfl; infer_instance; exact rfl; apply Low_ok; decide; exact rfl; rintro _ _ ⟨j, rfl, hj0, hj1, rfl⟩)); (first | (apply AAny.pure 13; exact rfl; exact rfl; (apply PureOK.indexR; exact rfl; exact rfl; assumption; omega; (first | exact (strs_length _).trans (Nat.mul_one _).symm | exact (bys_length _).trans (Nat.mul_one _).symm); omega; omega); exact rfl; kernel_rfl) | (apply AAny.pure 13; exact rfl; exact rfl; (apply PureOK.indexAddr; exact rfl; exact rfl; omega; omega); exact rfl; kernel_rfl) | (apply AAny.pure 13; exact rfl; exact rfl; (apply PureOK.indexArr; exact rfl; exact rfl; omega; omega); exact rfl; kernel_rfl)); (first | (apply D.loadS 4; exact rfl; infer_instance; exact rfl; assumption; omega; omega; exact rfl; kernel_rfl) | (apply D.loadB 4; exact rfl; infer_instance; exact rfl; assumption; omega; omega; exact rfl; kernel_rfl) | (apply D.load 4; exact rfl; infer_instance; exact rfl; assumption; assumption; exact rfl; kernel_rfl)); (first | (apply AAny.pure 15; exact rfl; exact rfl; (apply PureOK.assign; exact rfl); exact rfl; kernel_rfl)); (first | (apply D.loadS 9; exact rfl; infer_instance; exact rfl; assumption; omega; omega; exact rfl; kernel_rfl) | (apply D.loadB 9; exact rfl; infer_instance; exact rfl; assumption; omega; omega; exact rfl; kernel_rfl) | (apply D.load 9; exact rfl; infer_instance; exact rfl; assumption; assumption; exact rfl; kernel_rfl)); (first | (apply AAny.pure 16; exact rfl; exact rfl; (apply PureOK.assign; exact rfl); exact rfl; kernel_rfl)); (first | (apply D.loadS 14; exact rfl; infer_instance; exact rfl; assumption; omega; omega; exact rfl; kernel_rfl) | (apply D.loadB 14; exact rfl; infer_instance; exact rfl; assumption; omega; omega; exact rfl; kernel_rfl) | (apply D.load 14; exact rfl; infer_instance; exact rfl; assumption; assumption; exact rfl; kernel_rfl)); (first | (apply AAny.pure 17; exact rfl; exact rfl; (apply PureOK.assign; exact rfl); exact rfl; kernel_rfl)); apply AAny.done; kernel_rfl)))))))
      | (apply A.move; exact rfl; exact rfl)
      | (apply A.assign; exact rfl; exact rfl)
      | (apply A.pick_t; exact rfl; exact rfl; exact rfl)
      | (apply A.pick_f; exact rfl; exact rfl; exact rfl)
      | (apply A.sadd; exact rfl; exact rfl; (simp only [List.length_append, List.length_cons, List.length_nil]; omega); exact rfl)
      | (apply A.not; exact rfl; exact rfl)
      | (apply AOps.on; exact rfl)
      | (apply AOps.off; exact rfl; exact rfl)
      | (apply AOps.off_undef; exact rfl; exact rfl; exact rfl)
      | (apply AOps.guard; exact rfl; exact rfl; rotate_left; exact rfl; rotate_left; all_goals intro h; all_goals try simp only [dec_true, dec_false, Bool.not_true, Bool.not_false, Bool.not_eq_true', Bool.not_eq_false', Int.not_lt, Int.not_le] at h)
      | refine AWp.ret ?_
      | refine AWp.skip ?_
      | refine AWp.seq ?_)
    all_goals subst hls
    all_goals exact ⟨rfl, _, _, _, ⟨‹_›, ‹_›⟩, ⟨‹_›, ‹_›⟩, ⟨‹_›, ‹_›⟩, Sub.cons rfl (Sub.cons rfl (Sub.cons rfl (Sub.nil)))⟩
  rintro τ2 _ ⟨rfl, i1, i2, i3, h1, h2, h3, hs2⟩
  refine AWp.sub ?_ hs2
  clear hs2
  obtain ⟨f1, f2, f3, f4, f5, f6, f7⟩ := dM_facts' h1 h2 h3
  have f8 : DotM [] = false := by kernel_rfl
  have f9 : DotsM [] = false := by kernel_rfl
  repeat' (first
      | refine AWp.seq (AWp.region ?_)
      | refine AWp.region ?_
      | refine AOps.nil' ?_
      | refine AOps.nil ?_
      | (apply AOps.call; exact rfl; apply awake_ok; exact rfl; rintro r σ1 ⟨rfl, hS⟩)
      | (apply A.sadd; exact rfl; exact rfl; ((try simp only [List.length_append, List.length_cons, List.length_nil]); have := dM_len (i := i1.toNat); have := dM_len (i := i2.toNat); have := dM_len (i := i3.toNat); omega); exact rfl)
      | (apply AOps.call; exact rfl; apply segs_Dot_ok; ((try simp only [List.length_append, List.length_cons, List.length_nil]); have := dM_len (i := i1.toNat); have := dM_len (i := i2.toNat); have := dM_len (i := i3.toNat); omega); exact rfl; rintro _ _ ⟨rfl, rfl⟩; (first | rw [f1] | rw [f4] | rw [f6] | rw [f8]))
      | (apply AOps.call; exact rfl; apply segs_Dots_ok; ((try simp only [List.length_append, List.length_cons, List.length_nil]); have := dM_len (i := i1.toNat); have := dM_len (i := i2.toNat); have := dM_len (i := i3.toNat); omega); exact rfl; rintro _ _ ⟨rfl, rfl⟩; (first | rw [f2] | rw [f3] | rw [f5] | rw [f7] | rw [f9]))
      | (apply A.move; exact rfl; exact rfl)
      | (apply A.assign; exact rfl; exact rfl)
      | (apply A.pick_t; exact rfl; exact rfl; exact rfl)
      | (apply A.pick_f; exact rfl; exact rfl; exact rfl)
      | (apply A.sadd; exact rfl; exact rfl; (simp only [List.length_append, List.length_cons, List.length_nil]; omega); exact rfl)
      | (apply A.not; exact rfl; exact rfl)
      | (apply AOps.on; exact rfl)
      | (apply AOps.off; exact rfl; exact rfl)
      | (apply AOps.off_undef; exact rfl; exact rfl; exact rfl)
      | (apply AOps.guard; exact rfl; exact rfl; rotate_left; exact rfl; rotate_left; all_goals intro h; all_goals try simp only [dec_true, dec_false, Bool.not_true, Bool.not_false, Bool.not_eq_true', Bool.not_eq_false', Int.not_lt, Int.not_le] at h)
      | refine AWp.ret ?_
      | refine AWp.skip ?_
      | refine AWp.seq ?_)
  all_goals exact ⟨_, .tmp rfl .nil, rfl, hS1.trans hS⟩

theorem shorterM_length (sch : List UInt8) (ls : List (List UInt8)) : (shorterM sch ls).length ≤ ls.length := by
  unfold shorterM
  split
  · simp
  · split
    · simp
    · simp
/-- gossamerlaw11.SegsShorter. -/
theorem SegsShorter_ok (sch : List UInt8) (v : Value) (ls : List (List UInt8)) (σ : AStore) (hrow : Row σ 1 v (strs ls)) : ACalls Try.prog C 4 [.string (B sch), v] σ (fun r σ' => r = .bool true ∧ Same σ σ' []) := by
  have hp : longM 200 ls = false → ∀ l ∈ ls, l.length ≤ 1000000000000 := fun h l hl => by
    have := longM_mem h l hl
    omega
  refine ACalls.enter Try.func4 Try.ntmps4 rfl rfl rfl rfl ?_
  repeat' (first
    | refine AWp.seq (AWp.region ?_)
    | refine AWp.region ?_
    | refine AOps.nil' ?_
    | refine AOps.nil ?_
    | (apply AOps.call; exact rfl; apply awake_ok; exact rfl; rintro _ s5 ⟨rfl, hS5⟩)
    | (apply AOps.call; exact rfl; apply Long_ok (hv := hrow); omega; omega; exact rfl; rintro _ _ ⟨rfl, rfl⟩)
    | (apply AOps.call; exact rfl; apply segs_Shorter_ok (hrow := hrow); omega; exact hp ‹_›; exact rfl; rintro r1 s1 ⟨hO1, hS1⟩; have hrow1 := hrow.same hS1)
    | (apply AOps.call; exact rfl; apply ref11_Shorter_ok (hrow := hrow1); omega; exact hp ‹_›; exact rfl; rintro r2 s2 ⟨hO2, hS2⟩; have hrow2 := hrow1.same hS2)
    | (apply AOps.call; exact rfl; apply Texts_ok (hv := hO1.row.same hS2) (hw := hO2.row); (exact Nat.le_trans (shorterM_length _ _) (by omega)); exact rfl; rintro _ _ ⟨rfl, rfl⟩; rw [dec_true.2 rfl])
    | (apply AOps.call; exact rfl; apply segs_Shorter_ok (hrow := hrow2); omega; exact hp ‹_›; exact rfl; rintro r3 s3 ⟨hO3, hS3⟩; have hrow3 := hrow2.same hS3)
    | (apply AOps.call; exact rfl; apply ref11_Shorter_ok (hrow := hrow3); omega; exact hp ‹_›; exact rfl; rintro r4 s4 ⟨hO4, hS4⟩; have hrow4 := hrow3.same hS4)
    | (apply AOps.call; exact rfl; apply Texts_ok (hv := hO3.row.same hS4) (hw := hO4.row); (exact Nat.le_trans (shorterM_length _ _) (by omega)); exact rfl; rintro _ _ ⟨rfl, rfl⟩; rw [dec_true.2 rfl])
    | (apply A.lenS; exact rfl; assumption; exact rfl)
    | (apply A.lenB; exact rfl; assumption; exact rfl)
    | (apply A.move; exact rfl; exact rfl)
    | (apply A.assign; exact rfl; exact rfl)
    | (apply A.pick_t; exact rfl; exact rfl; exact rfl)
    | (apply A.pick_f; exact rfl; exact rfl; exact rfl)
    | (apply A.gtr; exact rfl; exact rfl; exact rfl)
    | (apply A.len_str; exact rfl; exact rfl)
    | (apply A.len_slice; exact rfl; exact rfl)
    | (apply AOps.on; exact rfl)
    | (apply AOps.off; exact rfl; exact rfl)
    | (apply AOps.off_undef; exact rfl; exact rfl; exact rfl)
    | (apply AOps.guard; exact rfl; exact rfl; rotate_left; exact rfl; rotate_left; all_goals intro h; all_goals try simp only [dec_true, dec_false, Bool.not_true, Bool.not_false, Bool.not_eq_true', Bool.not_eq_false', Int.not_lt, Int.not_le] at h)
    | (apply AWp.cond_t; exact rfl)
    | (apply AWp.cond_f; exact rfl)
    | (apply AWp.cond; exact rfl; all_goals intro h; all_goals try simp only [dec_true, dec_false, Bool.not_eq_true', Bool.not_eq_false', Int.not_lt, Int.not_le] at h)
    | refine AWp.ret ?_
    | refine AWp.skip ?_
    | refine AWp.seq ?_)
  all_goals first
    | exact ⟨_, .tmp rfl .nil, rfl, (((hS1.trans hS2).trans hS3).trans hS4).trans hS5⟩
    | exact ⟨_, .tmp rfl .nil, rfl, hS5⟩

end Go.AM
