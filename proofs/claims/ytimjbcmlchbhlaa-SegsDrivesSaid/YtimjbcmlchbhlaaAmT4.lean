/-
  segs
-/
import Derived.Test.YtimjbcmlchbhlaaAmT3
import Derived.Test.YtimjbcmlchbhlaaAmRow2
set_option linter.unusedSimpArgs false
set_option linter.unusedVariables false
set_option maxRecDepth 10000
namespace Go.AM
open Go Go.RowKit Go.Proofs
variable {C : World}
theorem Try_mixed : Try.prog.follows .mixedOrders = true := by kernel_rfl
theorem take_step {α : Type} {l m : List α} {i : Int} (z : α) (h0 : 0 ≤ i) (h1 : i < l.length) (h2 : i < m.length) (ht : l.take i.toNat = m.take i.toNat) (he : l.getD i.toNat z = m.getD i.toNat z) : l.take (i + 1).toNat = m.take (i + 1).toNat := by
  have e : (i + 1).toNat = i.toNat + 1 := by omega
  rw [e, List.take_add_one, List.take_add_one, ht]
  rw [List.getD_eq_getElem?_getD, List.getD_eq_getElem?_getD] at he
  have g1 : i.toNat < l.length := by omega
  have g2 : i.toNat < m.length := by omega
  rw [List.getElem?_eq_getElem g1, List.getElem?_eq_getElem g2] at he ⊢
  simp at he
  simp [he]
theorem take_ne {α : Type} {l m : List α} {i : Nat} (z : α) (h : ¬ l.getD i z = m.getD i z) : ¬ l = m := fun e => h (by rw [e])
/-- Have texts more than so many bytes together? -/
def longM : Int → List (List UInt8) → Bool
  | _, [] => false
  | n, s :: r => if n ≤ s.length then true else longM (n - s.length - 1) r
theorem longM_mem : ∀ {n : Int} {ls : List (List UInt8)}, longM n ls = false → ∀ l, l ∈ ls → l.length ≤ n
  | _, [], _, l, hl => by simp at hl
  | n, s :: r, h, l, hl => by
    unfold longM at h
    split at h
    · simp at h
    · rcases List.mem_cons.1 hl with rfl | hl
      · omega
      · have := longM_mem h l hl
        omega
theorem drop_cons {α : Type} {l : List α} {i : Int} (z : α) (h0 : 0 ≤ i) (h1 : i < l.length) : l.drop i.toNat = l.getD i.toNat z :: l.drop (i + 1).toNat := by
  have e : (i + 1).toNat = i.toNat + 1 := by omega
  have g : i.toNat < l.length := by omega
  rw [e, List.drop_eq_getElem_cons g, List.getD_eq_getElem?_getD, List.getElem?_eq_getElem g]
  rfl
theorem u64_nonneg {a : Int} : 0 ≤ IntKind.u64.wrap a := by simp [IntKind.wrap, IntKind.signed, IntKind.bits]; omega
theorem low_range {a n : Int} (h : 0 < n) : 0 ≤ IntKind.u64.wrap a % n ∧ IntKind.u64.wrap a % n < n := ⟨Int.emod_nonneg _ (by omega), Int.emod_lt_of_pos _ h⟩
/-- gossamerlaw0.Low. -/
theorem Low_ok (a n : Int) (hn : 0 < n ∧ n ≤ 1000000000) (σ : AStore)  : ACalls Try.prog C 22 [.int .i64 a, .int .i64 n] σ (fun r σ' => ∃ i, r = .int .i64 i ∧ 0 ≤ i ∧ i < n ∧ σ = σ') := by
  have e : IntKind.u64.wrap n = n := wrap_in (by simp [IntKind.min, IntKind.max, IntKind.signed, IntKind.bits]; omega)
  have g := low_range (a := a) hn.1
  refine ACalls.enter Try.func22 Try.ntmps22 rfl rfl rfl rfl ?_
  repeat' (first
    | refine AWp.seq (AWp.region ?_)
    | refine AWp.region ?_
    | refine AOps.nil' ?_
    | refine AOps.nil ?_
    | (apply A.lenS; exact rfl; assumption; exact rfl)
    | (apply A.lenB; exact rfl; assumption; exact rfl)
    | (apply A.idxS; exact rfl; exact rfl; assumption; omega; omega; exact rfl)
    | (apply A.idxB; exact rfl; exact rfl; assumption; omega; omega; exact rfl)
    | (apply A.loadS; exact rfl; assumption; omega; omega; exact rfl)
    | (apply A.loadB; exact rfl; assumption; omega; omega; exact rfl)
    | (apply A.move; exact rfl; exact rfl)
    | (apply A.assign; exact rfl; exact rfl)
    | (apply A.pick_t; exact rfl; exact rfl; exact rfl)
    | (apply A.pick_f; exact rfl; exact rfl; exact rfl)
    | (apply A.lss; exact rfl; exact rfl; exact rfl)
    | (apply A.leq; exact rfl; exact rfl; exact rfl)
    | (apply A.gtr; exact rfl; exact rfl; exact rfl)
    | (apply A.geq; exact rfl; exact rfl; exact rfl)
    | (apply A.eql; exact rfl; exact rfl; exact rfl)
    | (apply A.neq; exact rfl; exact rfl; exact rfl)
    | (apply A.add64; exact rfl; exact rfl; omega; exact rfl)
    | (apply A.sub64; exact rfl; exact rfl; omega; exact rfl)
    | (apply A.mul64; exact rfl; exact rfl; omega; exact rfl)
    | (apply A.add8; exact rfl; exact rfl; omega; exact rfl)
    | (apply A.sub8; exact rfl; exact rfl; omega; exact rfl)
    | (apply A.add; exact rfl; exact rfl; exact rfl)
    | (apply A.sub; exact rfl; exact rfl; exact rfl)
    | (apply A.mul; exact rfl; exact rfl; exact rfl)
    | (apply A.and; exact rfl; exact rfl; exact rfl)
    | (apply A.or; exact rfl; exact rfl; exact rfl)
    | (apply A.shl; exact rfl; exact rfl; omega; exact rfl)
    | (apply A.shr; exact rfl; exact rfl; omega; exact rfl)
    | (apply A.quo; exact rfl; exact rfl; omega; exact rfl)
    | (apply A.rem; exact rfl; exact rfl; omega; exact rfl)
    | (apply A.seq; exact rfl; exact rfl; exact rfl)
    | (apply A.sne; exact rfl; exact rfl; exact rfl)
    | (apply A.sadd; exact rfl; exact rfl; (simp only [List.length_append, List.length_cons, List.length_nil]; omega); exact rfl)
    | (apply A.beq; exact rfl; exact rfl; exact rfl)
    | (apply A.bne; exact rfl; exact rfl; exact rfl)
    | (apply A.not; exact rfl; exact rfl)
    | (apply A.neg; exact rfl; exact rfl)
    | (apply A.index; exact rfl; exact rfl; omega; omega; exact rfl)
    | (apply A.sl_ab; exact rfl; exact rfl; exact rfl; omega; exact rfl)
    | (apply A.sl_a; exact rfl; exact rfl; omega; exact rfl)
    | (apply A.sl_b; exact rfl; exact rfl; omega; exact rfl)
    | (apply A.conv_in; exact rfl; (simp [IntKind.min, IntKind.max, IntKind.signed, IntKind.bits]; omega); exact rfl)
    | (apply A.conv; exact rfl; exact rfl)
    | (apply A.conv_str; exact rfl; exact rfl)
    | (apply A.len_str; exact rfl; exact rfl)
    | (apply A.len_slice; exact rfl; exact rfl)
    | (apply A.min; exact rfl; exact rfl; exact rfl)
    | (apply A.max; exact rfl; exact rfl; exact rfl)
    | (apply A.extract; exact rfl; exact rfl; exact rfl)
    | (apply A.nilCheck; exact rfl; exact rfl)
    | (apply A.fieldAddr; exact rfl; exact rfl)
    | (apply A.indexAddr; exact rfl; exact rfl; omega; omega; exact rfl)
    | (apply A.indexArr; exact rfl; exact rfl; omega; omega; exact rfl)
    | (apply A.field; exact rfl; exact rfl; exact rfl)
    | (apply AOps.on; exact rfl)
    | (apply AOps.off; exact rfl; exact rfl)
    | (apply AOps.off_undef; exact rfl; exact rfl; exact rfl)
    | (apply AOps.guard; exact rfl; exact rfl; rotate_left; exact rfl; rotate_left; all_goals intro h; all_goals try simp only [dec_true, dec_false, Bool.not_true, Bool.not_false, Bool.not_eq_true', Bool.not_eq_false', Int.not_lt, Int.not_le] at h)
    | (apply AWp.cond_t; exact rfl)
    | (apply AWp.cond_f; exact rfl)
    | (apply AWp.cond; exact rfl; all_goals intro h; all_goals try simp only [dec_true, dec_false, Bool.not_eq_true', Bool.not_eq_false', Int.not_lt, Int.not_le] at h)
    | refine AWp.ret ?_
    | refine AWp.skip ?_
    | refine AWp.seq (AWp.block ?_)
    | refine AWp.block ?_
    | refine AWp.exit ?_
    | refine AWp.seq ?_)
  all_goals (have e2 : (IntKind.u64.wrap a).tmod n = IntKind.u64.wrap a % n := Int.tmod_eq_emod_of_nonneg u64_nonneg)
  all_goals (refine ⟨_, .tmp rfl .nil, IntKind.u64.wrap a % n, ?_, g.1, g.2, rfl⟩; show Value.int _ (IntKind.i64.wrap _) = _; rw [e2]; exact vint (wrap_in (by simp [IntKind.min, IntKind.max, IntKind.signed, IntKind.bits]; omega)))

/-- gossamerlaw0.Texts. -/
theorem Texts_ok (v w : Value) (l m : List (List UInt8)) (hl : l.length ≤ 1000000000000) (σ : AStore) (hv : Row σ 1 v (strs l)) (hw : Row σ 1 w (strs m)) : ACalls Try.prog C 19 [v, w] σ (fun r σ' => r = .bool (dec (l = m)) ∧ σ = σ') := by
  refine ACalls.enter Try.func19 Try.ntmps19 rfl rfl rfl rfl ?_
  repeat' (first
    | refine AWp.seq (AWp.region ?_)
    | refine AWp.region ?_
    | refine AOps.nil' ?_
    | refine AOps.nil ?_
    | ((first | refine AWp.seq (AWp.draw (id := 6) Try_mixed ?_) | refine AWp.draw (id := 6) Try_mixed ?_); (first | (apply AAny.pure 0; exact rfl; exact rfl; (apply PureOK.move; exact rfl); exact rfl; kernel_rfl)); (first | (apply AAny.pure 1; exact rfl; exact rfl; (apply PureOK.move; exact rfl); exact rfl; kernel_rfl)); (first | (apply AAny.pure 2; exact rfl; exact rfl; (apply PureOK.indexR; exact rfl; exact rfl; assumption; omega; (first | exact (strs_length _).trans (Nat.mul_one _).symm | exact (bys_length _).trans (Nat.mul_one _).symm); omega; omega); exact rfl; kernel_rfl) | (apply AAny.pure 2; exact rfl; exact rfl; (apply PureOK.indexAddr; exact rfl; exact rfl; omega; omega); exact rfl; kernel_rfl) | (apply AAny.pure 2; exact rfl; exact rfl; (apply PureOK.indexArr; exact rfl; exact rfl; omega; omega); exact rfl; kernel_rfl)); (first | (apply AAny.pure 4; exact rfl; exact rfl; (apply PureOK.move; exact rfl); exact rfl; kernel_rfl)); (first | (apply AAny.pure 5; exact rfl; exact rfl; (apply PureOK.move; exact rfl); exact rfl; kernel_rfl)); (first | (apply AAny.pure 6; exact rfl; exact rfl; (apply PureOK.indexR; exact rfl; exact rfl; assumption; omega; (first | exact (strs_length _).trans (Nat.mul_one _).symm | exact (bys_length _).trans (Nat.mul_one _).symm); omega; omega); exact rfl; kernel_rfl) | (apply AAny.pure 6; exact rfl; exact rfl; (apply PureOK.indexAddr; exact rfl; exact rfl; omega; omega); exact rfl; kernel_rfl) | (apply AAny.pure 6; exact rfl; exact rfl; (apply PureOK.indexArr; exact rfl; exact rfl; omega; omega); exact rfl; kernel_rfl)); (first | (apply D.loadS 3; exact rfl; infer_instance; exact rfl; assumption; omega; omega; exact rfl; kernel_rfl) | (apply D.loadB 3; exact rfl; infer_instance; exact rfl; assumption; omega; omega; exact rfl; kernel_rfl) | (apply D.load 3; exact rfl; infer_instance; exact rfl; assumption; assumption; exact rfl; kernel_rfl)); (first | (apply D.loadS 7; exact rfl; infer_instance; exact rfl; assumption; omega; omega; exact rfl; kernel_rfl) | (apply D.loadB 7; exact rfl; infer_instance; exact rfl; assumption; omega; omega; exact rfl; kernel_rfl) | (apply D.load 7; exact rfl; infer_instance; exact rfl; assumption; assumption; exact rfl; kernel_rfl)); (first | (apply AAny.pure 8; exact rfl; exact rfl; (apply PureOK.sne; exact rfl; exact rfl); exact rfl; kernel_rfl)); apply AAny.done; kernel_rfl)
    | (apply A.lenS; exact rfl; assumption; exact rfl)
    | (apply A.lenB; exact rfl; assumption; exact rfl)
    | (apply A.move; exact rfl; exact rfl)
    | (apply A.assign; exact rfl; exact rfl)
    | (apply A.lss; exact rfl; exact rfl; exact rfl)
    | (apply A.neq; exact rfl; exact rfl; exact rfl)
    | (apply A.add64; exact rfl; exact rfl; omega; exact rfl)
    | (apply A.add; exact rfl; exact rfl; exact rfl)
    | (apply A.len_str; exact rfl; exact rfl)
    | (apply A.len_slice; exact rfl; exact rfl)
    | (apply AWp.cond_t; exact rfl)
    | (apply AWp.cond_f; exact rfl)
    | (apply AWp.cond; exact rfl; all_goals intro h; all_goals try simp only [dec_true, dec_false, Bool.not_eq_true', Bool.not_eq_false', Int.not_lt, Int.not_le] at h)
    | refine AWp.ret ?_
    | refine AWp.skip ?_
    | refine AWp.seq (AWp.block ?_)
    | refine AWp.block ?_
    | refine AWp.exit ?_
    | refine AWp.seq ?_)
  · refine ⟨_, .tmp rfl .nil, vbool ?_, rfl⟩
    simp only [dec_true, Bool.false_eq_true, false_iff]
    intro e
    subst e
    contradiction
  · refine AWp.loop (fun k τ' σ' => ∃ i : Int, 0 ≤ i ∧ i ≤ l.length ∧ k = (l.length - i).toNat ∧ σ = σ' ∧ l.take i.toNat = m.take i.toNat ∧ Sub [(5, .int .i64 i), (1, w), (0, v)] τ') (l.length : Int).toNat ?_ ?_
    · exact ⟨0, by omega, by omega, by omega, rfl, rfl, Sub.cons rfl (Sub.cons rfl (Sub.cons rfl Sub.nil))⟩
    rintro k τ' _ ⟨i, hi0, hi1, hk, rfl, ht, hs⟩ K hK
    refine AWp.sub ?_ hs
    repeat' (first
      | refine AWp.seq (AWp.region ?_)
      | refine AWp.region ?_
      | refine AOps.nil' ?_
      | refine AOps.nil ?_
      | ((first | refine AWp.seq (AWp.draw (id := 6) Try_mixed ?_) | refine AWp.draw (id := 6) Try_mixed ?_); (first | (apply AAny.pure 0; exact rfl; exact rfl; (apply PureOK.move; exact rfl); exact rfl; kernel_rfl)); (first | (apply AAny.pure 1; exact rfl; exact rfl; (apply PureOK.move; exact rfl); exact rfl; kernel_rfl)); (first | (apply AAny.pure 2; exact rfl; exact rfl; (apply PureOK.indexR; exact rfl; exact rfl; assumption; omega; (first | exact (strs_length _).trans (Nat.mul_one _).symm | exact (bys_length _).trans (Nat.mul_one _).symm); omega; omega); exact rfl; kernel_rfl) | (apply AAny.pure 2; exact rfl; exact rfl; (apply PureOK.indexAddr; exact rfl; exact rfl; omega; omega); exact rfl; kernel_rfl) | (apply AAny.pure 2; exact rfl; exact rfl; (apply PureOK.indexArr; exact rfl; exact rfl; omega; omega); exact rfl; kernel_rfl)); (first | (apply AAny.pure 4; exact rfl; exact rfl; (apply PureOK.move; exact rfl); exact rfl; kernel_rfl)); (first | (apply AAny.pure 5; exact rfl; exact rfl; (apply PureOK.move; exact rfl); exact rfl; kernel_rfl)); (first | (apply AAny.pure 6; exact rfl; exact rfl; (apply PureOK.indexR; exact rfl; exact rfl; assumption; omega; (first | exact (strs_length _).trans (Nat.mul_one _).symm | exact (bys_length _).trans (Nat.mul_one _).symm); omega; omega); exact rfl; kernel_rfl) | (apply AAny.pure 6; exact rfl; exact rfl; (apply PureOK.indexAddr; exact rfl; exact rfl; omega; omega); exact rfl; kernel_rfl) | (apply AAny.pure 6; exact rfl; exact rfl; (apply PureOK.indexArr; exact rfl; exact rfl; omega; omega); exact rfl; kernel_rfl)); (first | (apply D.loadS 3; exact rfl; infer_instance; exact rfl; assumption; omega; omega; exact rfl; kernel_rfl) | (apply D.loadB 3; exact rfl; infer_instance; exact rfl; assumption; omega; omega; exact rfl; kernel_rfl) | (apply D.load 3; exact rfl; infer_instance; exact rfl; assumption; assumption; exact rfl; kernel_rfl)); (first | (apply D.loadS 7; exact rfl; infer_instance; exact rfl; assumption; omega; omega; exact rfl; kernel_rfl) | (apply D.loadB 7; exact rfl; infer_instance; exact rfl; assumption; omega; omega; exact rfl; kernel_rfl) | (apply D.load 7; exact rfl; infer_instance; exact rfl; assumption; assumption; exact rfl; kernel_rfl)); (first | (apply AAny.pure 8; exact rfl; exact rfl; (apply PureOK.sne; exact rfl; exact rfl); exact rfl; kernel_rfl)); apply AAny.done; kernel_rfl)
      | (apply A.lenS; exact rfl; assumption; exact rfl)
      | (apply A.lenB; exact rfl; assumption; exact rfl)
      | (apply A.move; exact rfl; exact rfl)
      | (apply A.assign; exact rfl; exact rfl)
      | (apply A.lss; exact rfl; exact rfl; exact rfl)
      | (apply A.neq; exact rfl; exact rfl; exact rfl)
      | (apply A.add64; exact rfl; exact rfl; omega; exact rfl)
      | (apply A.add; exact rfl; exact rfl; exact rfl)
      | (apply A.len_str; exact rfl; exact rfl)
      | (apply A.len_slice; exact rfl; exact rfl)
      | (apply AWp.cond_t; exact rfl)
      | (apply AWp.cond_f; exact rfl)
      | (apply AWp.cond; exact rfl; all_goals intro h; all_goals try simp only [dec_true, dec_false, Bool.not_eq_true', Bool.not_eq_false', Int.not_lt, Int.not_le] at h)
      | refine AWp.ret ?_
      | refine AWp.skip ?_
      | refine AWp.seq (AWp.block ?_)
      | refine AWp.block ?_
      | refine AWp.exit ?_
      | refine AWp.seq ?_)
    all_goals first
      | (apply hK (l.length - (i + 1)).toNat; omega; refine ⟨i + 1, by omega, by omega, rfl, rfl, take_step [] hi0 (by omega) (by omega) ht (by assumption), ?_⟩; exact Sub.cons rfl (Sub.cons rfl (Sub.cons rfl Sub.nil)))
      | (refine ⟨_, .tmp rfl .nil, vbool ?_, rfl⟩; simp only [dec_true, Bool.false_eq_true, false_iff]; exact take_ne [] (by assumption))
      | (refine ⟨_, .tmp rfl .nil, vbool ?_, rfl⟩; simp only [dec_true, true_iff]; rw [List.take_of_length_le (by omega), List.take_of_length_le (by omega)] at ht; exact ht)

/-- gossamerlaw0.Long. -/
theorem Long_ok (n : Int) (v : Value) (ls : List (List UInt8)) (hl : ls.length ≤ 1000000000000) (hn : 0 ≤ n ∧ n ≤ 1000000000000) (σ : AStore) (hv : Row σ 1 v (strs ls)) : ACalls Try.prog C 18 [.int .i64 n, v] σ (fun r σ' => r = .bool (longM n ls) ∧ σ = σ') := by
  refine ACalls.enter Try.func18 Try.ntmps18 rfl rfl rfl rfl ?_
  repeat' (first
    | refine AWp.seq (AWp.region ?_)
    | refine AWp.region ?_
    | refine AOps.nil' ?_
    | refine AOps.nil ?_
    | (apply A.lenS; exact rfl; assumption; exact rfl)
    | (apply A.lenB; exact rfl; assumption; exact rfl)
    | (apply A.idxS; exact rfl; exact rfl; assumption; omega; omega; exact rfl)
    | (apply A.idxB; exact rfl; exact rfl; assumption; omega; omega; exact rfl)
    | (apply A.loadS; exact rfl; assumption; omega; omega; exact rfl)
    | (apply A.loadB; exact rfl; assumption; omega; omega; exact rfl)
    | (apply A.move; exact rfl; exact rfl)
    | (apply A.assign; exact rfl; exact rfl)
    | (apply A.lss; exact rfl; exact rfl; exact rfl)
    | (apply A.geq; exact rfl; exact rfl; exact rfl)
    | (apply A.add64; exact rfl; exact rfl; omega; exact rfl)
    | (apply A.sub64; exact rfl; exact rfl; omega; exact rfl)
    | (apply A.add; exact rfl; exact rfl; exact rfl)
    | (apply A.sub; exact rfl; exact rfl; exact rfl)
    | (apply A.len_str; exact rfl; exact rfl)
    | (apply A.len_slice; exact rfl; exact rfl)
    | (apply A.indexAddr; exact rfl; exact rfl; omega; omega; exact rfl)
    | (apply A.indexArr; exact rfl; exact rfl; omega; omega; exact rfl)
    | (apply AWp.cond_t; exact rfl)
    | (apply AWp.cond_f; exact rfl)
    | (apply AWp.cond; exact rfl; all_goals intro h; all_goals try simp only [dec_true, dec_false, Bool.not_eq_true', Bool.not_eq_false', Int.not_lt, Int.not_le] at h)
    | refine AWp.ret ?_
    | refine AWp.skip ?_
    | refine AWp.seq (AWp.block ?_)
    | refine AWp.block ?_
    | refine AWp.exit ?_
    | refine AWp.seq ?_)
  refine AWp.loop (fun k τ' σ' => ∃ i n' : Int, 0 ≤ i ∧ i ≤ ls.length ∧ 0 ≤ n' ∧ n' ≤ 1000000000000 ∧ k = (ls.length - i).toNat ∧ σ = σ' ∧ longM n ls = longM n' (ls.drop i.toNat) ∧ Sub [(5, .int .i64 i), (1, v), (0, .int .i64 n')] τ') (ls.length : Int).toNat ?_ ?_
  · exact ⟨0, n, by omega, by omega, hn.1, hn.2, by omega, rfl, rfl, Sub.cons rfl (Sub.cons rfl (Sub.cons rfl Sub.nil))⟩
  rintro k τ' _ ⟨i, n', hi0, hi1, hn0, hn1, hk, rfl, ht, hs⟩ K hK
  refine AWp.sub ?_ hs
  repeat' (first
      | refine AWp.seq (AWp.region ?_)
      | refine AWp.region ?_
      | refine AOps.nil' ?_
      | refine AOps.nil ?_
      | (apply A.lenS; exact rfl; assumption; exact rfl)
      | (apply A.lenB; exact rfl; assumption; exact rfl)
      | (apply A.idxS; exact rfl; exact rfl; assumption; omega; omega; exact rfl)
      | (apply A.idxB; exact rfl; exact rfl; assumption; omega; omega; exact rfl)
      | (apply A.loadS; exact rfl; assumption; omega; omega; exact rfl)
      | (apply A.loadB; exact rfl; assumption; omega; omega; exact rfl)
      | (apply A.move; exact rfl; exact rfl)
      | (apply A.assign; exact rfl; exact rfl)
      | (apply A.lss; exact rfl; exact rfl; exact rfl)
      | (apply A.geq; exact rfl; exact rfl; exact rfl)
      | (apply A.add64; exact rfl; exact rfl; omega; exact rfl)
      | (apply A.sub64; exact rfl; exact rfl; omega; exact rfl)
      | (apply A.add; exact rfl; exact rfl; exact rfl)
      | (apply A.sub; exact rfl; exact rfl; exact rfl)
      | (apply A.len_str; exact rfl; exact rfl)
      | (apply A.len_slice; exact rfl; exact rfl)
      | (apply A.indexAddr; exact rfl; exact rfl; omega; omega; exact rfl)
      | (apply A.indexArr; exact rfl; exact rfl; omega; omega; exact rfl)
      | (apply AWp.cond_t; exact rfl)
      | (apply AWp.cond_f; exact rfl)
      | (apply AWp.cond; exact rfl; all_goals intro h; all_goals try simp only [dec_true, dec_false, Bool.not_eq_true', Bool.not_eq_false', Int.not_lt, Int.not_le] at h)
      | refine AWp.ret ?_
      | refine AWp.skip ?_
      | refine AWp.seq (AWp.block ?_)
      | refine AWp.block ?_
      | refine AWp.exit ?_
      | refine AWp.seq ?_)
  all_goals first
    | (rw [drop_cons [] hi0 (by omega), longM] at ht
       first
         | (apply hK (ls.length - (i + 1)).toNat; omega; rw [if_neg (by omega)] at ht; refine ⟨i + 1, _, by omega, by omega, ?_, ?_, rfl, rfl, ht, ?_⟩; rotate_left; rotate_left; exact Sub.cons rfl (Sub.cons rfl (Sub.cons rfl Sub.nil)); all_goals omega)
         | (rw [if_pos (by omega)] at ht; refine ⟨_, .tmp rfl .nil, vbool ?_, rfl⟩; rw [ht]))
    | (rw [List.drop_of_length_le (by omega)] at ht; refine ⟨_, .tmp rfl .nil, vbool ?_, rfl⟩; rw [ht]; rfl)

/-- gossamerlaw11.awake. -/
theorem awake_ok (σ : AStore) : ACalls Try.prog C 7 [] σ (fun r σ' => r = .bool true ∧ Same σ σ' []) := by
  have m1 : DotsM [46, 37, 50, 69] = true := by kernel_rfl
  have m2 : DotsM [46] = false := by kernel_rfl
  have m3 : DotM [37, 50, 101] = true := by kernel_rfl
  have m4 : DriveM [99, 124] = true := by kernel_rfl
  have m5 : FixedM [99, 124] = false := by kernel_rfl
  have m6 : BeginsM [99, 124, 47, 120] = true := by kernel_rfl
  have m7 : shorterM [102, 105, 108, 101] [[67, 58], [120]] = [[67, 58]] := by kernel_rfl
  refine ACalls.enter Try.func7 Try.ntmps7 rfl rfl rfl rfl ?_
  repeat' (first
    | refine AWp.seq (AWp.region ?_)
    | refine AWp.region ?_
    | refine AOps.nil' ?_
    | refine AOps.nil ?_
    | (apply A.buildSlice; exact rfl; decide; exact rfl; exact rfl)
    | (apply AOps.call; exact rfl; apply segs_Shorter_ok (ls := [[67, 58], [120]]); decide; decide; (refine .mk _ 0 _ _ _ _ (get_alloc_self _ _) (.inr rfl) ?_ rfl; decide); exact rfl; rintro r σ1 ⟨hO, hS⟩; rw [m7] at hO; have hr := hO.row)
    | (apply AOps.call; exact rfl; apply segs_Dots_ok; decide; exact rfl; rintro _ _ ⟨rfl, rfl⟩; rw [m1])
    | (apply AOps.call; exact rfl; apply segs_Dots_ok; decide; exact rfl; rintro _ _ ⟨rfl, rfl⟩; rw [m2])
    | (apply AOps.call; exact rfl; apply segs_Dot_ok; decide; exact rfl; rintro _ _ ⟨rfl, rfl⟩; rw [m3])
    | (apply AOps.call; exact rfl; apply segs_Drive_ok; decide; exact rfl; rintro _ _ ⟨rfl, rfl⟩; rw [m4])
    | (apply AOps.call; exact rfl; apply segs_Fixed_ok; decide; exact rfl; rintro _ _ ⟨rfl, rfl⟩; rw [m5])
    | (apply AOps.call; exact rfl; apply segs_Begins_ok; decide; exact rfl; rintro _ _ ⟨rfl, rfl⟩; rw [m6])
    | (apply A.lenS; exact rfl; assumption; exact rfl)
    | (apply A.lenB; exact rfl; assumption; exact rfl)
    | (apply A.idxS; exact rfl; exact rfl; assumption; omega; omega; exact rfl)
    | (apply A.idxB; exact rfl; exact rfl; assumption; omega; omega; exact rfl)
    | (apply A.loadS; exact rfl; assumption; omega; omega; exact rfl)
    | (apply A.loadB; exact rfl; assumption; omega; omega; exact rfl)
    | (apply A.move; exact rfl; exact rfl)
    | (apply A.assign; exact rfl; exact rfl)
    | (apply A.pick_t; exact rfl; exact rfl; exact rfl)
    | (apply A.pick_f; exact rfl; exact rfl; exact rfl)
    | (apply A.eql; exact rfl; exact rfl; exact rfl)
    | (apply A.seq; exact rfl; exact rfl; exact rfl)
    | (apply A.not; exact rfl; exact rfl)
    | (apply A.len_str; exact rfl; exact rfl)
    | (apply A.len_slice; exact rfl; exact rfl)
    | (apply A.indexAddr; exact rfl; exact rfl; omega; omega; exact rfl)
    | (apply A.indexArr; exact rfl; exact rfl; omega; omega; exact rfl)
    | (apply AOps.on; exact rfl)
    | (apply AOps.off; exact rfl; exact rfl)
    | (apply AOps.off_undef; exact rfl; exact rfl; exact rfl)
    | (apply AOps.guard; exact rfl; exact rfl; rotate_left; exact rfl; rotate_left; all_goals intro h; all_goals try simp only [dec_true, dec_false, Bool.not_true, Bool.not_false, Bool.not_eq_true', Bool.not_eq_false', Int.not_lt, Int.not_le] at h)
    | refine AWp.ret ?_
    | refine AWp.skip ?_
    | refine AWp.seq ?_)
  · exact ⟨_, .tmp rfl .nil, vbool ⟨fun _ => rfl, fun _ => dec_true.2 rfl⟩, (Same.alloc σ _ []).trans hS⟩
  · exact absurd rfl h

/-- gossamerlaw11.SegsTells. -/
theorem SegsTells_ok (l : List UInt8) (σ : AStore) : ACalls Try.prog C 3 [.string (B l)] σ (fun r σ' => r = .bool true ∧ Same σ σ' []) := by
  refine ACalls.enter Try.func3 Try.ntmps3 rfl rfl rfl rfl ?_
  repeat' (first
    | refine AWp.seq (AWp.region ?_)
    | refine AWp.region ?_
    | refine AOps.nil' ?_
    | refine AOps.nil ?_
    | (apply AOps.call; exact rfl; apply awake_ok; exact rfl; rintro r σ1 ⟨rfl, hS⟩)
    | (apply AOps.call; exact rfl; apply segs_Dot_ok; omega; exact rfl; rintro _ _ ⟨rfl, rfl⟩)
    | (apply AOps.call; exact rfl; apply ref11_Dot_ok; omega; exact rfl; rintro _ _ ⟨rfl, rfl⟩)
    | (apply AOps.call; exact rfl; apply segs_Dots_ok; omega; exact rfl; rintro _ _ ⟨rfl, rfl⟩)
    | (apply AOps.call; exact rfl; apply ref11_Dots_ok; omega; exact rfl; rintro _ _ ⟨rfl, rfl⟩)
    | (apply AOps.call; exact rfl; apply segs_Drive_ok; omega; exact rfl; rintro _ _ ⟨rfl, rfl⟩)
    | (apply AOps.call; exact rfl; apply ref11_Drive_ok; omega; exact rfl; rintro _ _ ⟨rfl, rfl⟩)
    | (apply AOps.call; exact rfl; apply segs_Fixed_ok; omega; exact rfl; rintro _ _ ⟨rfl, rfl⟩)
    | (apply AOps.call; exact rfl; apply ref11_Fixed_ok; omega; exact rfl; rintro _ _ ⟨rfl, rfl⟩)
    | (apply AOps.call; exact rfl; apply segs_Begins_ok; omega; exact rfl; rintro _ _ ⟨rfl, rfl⟩)
    | (apply AOps.call; exact rfl; apply ref11_Begins_ok; omega; exact rfl; rintro _ _ ⟨rfl, rfl⟩)
    | (apply A.beq_same; exact rfl; exact rfl; exact rfl)
    | (apply A.lenS; exact rfl; assumption; exact rfl)
    | (apply A.lenB; exact rfl; assumption; exact rfl)
    | (apply A.move; exact rfl; exact rfl)
    | (apply A.assign; exact rfl; exact rfl)
    | (apply A.pick_t; exact rfl; exact rfl; exact rfl)
    | (apply A.pick_f; exact rfl; exact rfl; exact rfl)
    | (apply A.gtr; exact rfl; exact rfl; exact rfl)
    | (apply A.beq; exact rfl; exact rfl; exact rfl)
    | (apply A.len_str; exact rfl; exact rfl)
    | (apply A.len_slice; exact rfl; exact rfl)
    | (apply AOps.on; exact rfl)
    | (apply AOps.off; exact rfl; exact rfl)
    | (apply AOps.off_undef; exact rfl; exact rfl; exact rfl)
    | (apply AOps.guard; exact rfl; exact rfl; rotate_left; exact rfl; rotate_left; all_goals intro h; all_goals try simp only [dec_true, dec_false, Bool.not_true, Bool.not_false, Bool.not_eq_true', Bool.not_eq_false', Int.not_lt, Int.not_le] at h)
    | (apply AWp.cond_t; exact rfl)
    | (apply AWp.cond_f; exact rfl)
    | (apply AWp.cond; exact rfl; all_goals intro h; all_goals try simp only [dec_true, dec_false, Bool.not_eq_true', Bool.not_eq_false', Int.not_lt, Int.not_le] at h)
    | refine AWp.ret ?_
    | refine AWp.skip ?_
    | refine AWp.seq ?_)
  all_goals first | exact ⟨_, .tmp rfl .nil, rfl, hS⟩

end Go.AM
