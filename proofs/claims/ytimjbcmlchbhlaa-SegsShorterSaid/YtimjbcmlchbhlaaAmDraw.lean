/-
  The abstract store logic: regions whose operations may come up in more than one order.
-/
import Derived.Test.YtimjbcmlchbhlaaAmFacts
import Derived.Orders
set_option linter.unusedVariables false
set_option linter.unusedSimpArgs false
namespace Go.AM
open Go Go.RowKit

/-! ### 1. What reads alone -/
inductive Calm {α : Type} : Sem α → Prop
  | pure (a : α) : Calm (.pure a)
  | load (m : Mode) (a : Addr) (k : Value → Sem α) (h : ∀ v, Calm (k v)) : Calm (.load m a k)
  | shape (r : Nat) (k : Option (TypeId × Nat) → Sem α) (h : ∀ v, Calm (k v)) : Calm (.shape r k)
  | frozen (a : Addr) (k : Bool → Sem α) (h : ∀ v, Calm (k v)) : Calm (.frozen a k)
  | getObj (r : Nat) (k : Obj → Sem α) (h : ∀ v, Calm (k v)) : Calm (.getObj r k)
  | program (k : Program → Sem α) (h : ∀ v, Calm (k v)) : Calm (.program k)
  | halt (h : Halt) : Calm (.halt h)
theorem Calm.run {α : Type} {P : Program} {x : Sem α} (h : Calm x) (w : World) : (∃ a, x.run P w = .ok a w) ∨ ∃ e w', x.run P w = .halt e w' := by
  induction h with
  | pure a => exact .inl ⟨a, rfl⟩
  | load m a k _ ih =>
    simp only [Sem.run]
    split
    · exact ih _
    · split
      · exact ih _
      · exact .inr ⟨_, _, rfl⟩
  | shape r k _ ih => exact ih _
  | frozen a k _ ih => exact ih _
  | getObj r k _ ih =>
    simp only [Sem.run]
    split
    · exact .inr ⟨_, _, rfl⟩
    · exact ih _
    · exact .inr ⟨_, _, rfl⟩
  | program k _ ih => exact ih _
  | halt h => exact .inr ⟨_, _, rfl⟩
theorem Calm.bind {α β : Type} {x : Sem α} {f : α → Sem β} (h : Calm x) (hf : ∀ a, Calm (f a)) : Calm (x >>= f) := by
  show Calm (x.bind f)
  induction h with
  | pure a => exact hf a
  | load m a k _ ih => exact .load m a _ ih
  | shape r k _ ih => exact .shape r _ ih
  | frozen a k _ ih => exact .frozen a _ ih
  | getObj r k _ ih => exact .getObj r _ ih
  | program k _ ih => exact .program _ ih
  | halt h => exact .halt h
theorem calm_stuck {α : Type} (s : String) : Calm (stuck s : Sem α) := .halt _
theorem calm_uns {α : Type} (s : Unsupported) : Calm (unsupported s : Sem α) := .halt _
theorem calm_pure {α : Type} (a : α) : Calm (Pure.pure a : Sem α) := .pure a
theorem calm_typeInfo (t : TypeId) : Calm (typeInfo t) := by
  unfold typeInfo
  refine Calm.bind (.program _ fun p => .pure p) fun p => ?_
  split
  · exact .pure _
  · exact .halt _
theorem calm_sizeOf (t : TypeId) : Calm (sizeOf t) := Calm.bind (calm_typeInfo t) fun i => .pure _
theorem calm_underlying (t : TypeId) : Calm (underlying t) := by
  unfold underlying
  refine Calm.bind (.program _ fun p => .pure p) fun p => ?_
  split
  · exact .pure _
  · exact .halt _
theorem calm_isAgg (t : TypeId) : Calm (isAgg t) := by
  unfold isAgg
  refine Calm.bind (calm_underlying t) fun d => ?_
  split <;> exact .pure _
theorem calm_load (a : Addr) : Calm (load a) := .load _ a _ fun v => .pure v
theorem calm_loadCellsFrom (a : Addr) : ∀ (n i : Nat) (acc : Array Value), Calm (loadCellsFrom a i n acc)
  | 0, i, acc => .pure _
  | n + 1, i, acc => by
    unfold loadCellsFrom
    exact Calm.bind (calm_load _) fun v => calm_loadCellsFrom a n (i + 1) _
theorem calm_loadVar (t : TypeId) (a : Addr) : Calm (loadVar t a) := by
  unfold loadVar
  refine Calm.bind (calm_isAgg t) fun b => ?_
  split
  · exact Calm.bind (calm_sizeOf t) fun n => Calm.bind (calm_loadCellsFrom a n 0 #[]) fun c => .pure _
  · exact calm_load a
theorem calm_sure (v : Value) : Calm (Instr.sureAddr v) := by
  unfold Instr.sureAddr
  split
  · exact .pure _
  · exact .halt _
theorem calm_shape (r : Nat) : Calm (shape r) := .shape r _ fun v => .pure v
theorem calm_getObj (r : Nat) : Calm (getObj r) := .getObj r _ fun v => .pure v
theorem calm_viewAt (r : Nat) : Calm (viewAt r) := by
  unfold viewAt
  refine Calm.bind (calm_shape r) fun s => ?_
  split
  · exact .pure _
  · refine Calm.bind (calm_getObj r) fun o => ?_
    split <;> exact .pure _
theorem calm_noView (a : Addr) : Calm (noView a) := by
  unfold noView
  refine Calm.bind (calm_viewAt _) fun o => ?_
  split
  · exact .halt _
  · exact .pure _
theorem calm_byteOf (a : Addr) : Calm (byteOf a) := by
  unfold byteOf
  split
  · exact .pure _
  · refine Calm.bind (.program _ fun p => .pure p) fun p => ?_
    refine Calm.bind (calm_noView a) fun _ => ?_
    refine Calm.bind (calm_shape _) fun s => ?_
    split
    · dsimp only
      split
      · exact .pure _
      · split
        · exact .pure _
        · exact .halt _
    · exact .halt _
theorem calm_partAt (a : Addr) (c b : Nat) : Calm (partAt a c b) := by
  unfold partAt
  exact Calm.bind (calm_byteOf _) fun x => Calm.bind (calm_byteOf _) fun y => .pure _
theorem calm_fieldAt (s : TypeId) (a : Value) (f : Nat) : Calm (Instr.fieldAt s a f) := by
  unfold Instr.fieldAt
  refine Calm.bind (calm_underlying s) fun d => ?_
  split
  · split
    · refine Calm.bind (calm_sure a) fun x => Calm.bind ?_ fun y => .pure _
      unfold fieldPlace
      refine Calm.bind (calm_sizeOf _) fun n => ?_
      split
      · exact calm_partAt _ _ _
      · exact .pure _
    · exact .halt _
  · exact .halt _

/-- Operations that leave the world as it is, whatever their operands. -/
def stillB : Op → Bool
  | .move _ | .assign _ | .load .. | .fieldAddr .. | .extract .. => true
  | _ => false
theorem still_run {P : Program} (ρ : Operand → Value) (o : Oper) (h : stillB o.op = true) (w : World) : (∃ u, (execOp ρ o).run P w = .ok (.value u) w) ∨ ∃ e w', (execOp ρ o).run P w = .halt e w' := by
  have vform : ∀ s : Sem Value, Calm s → (∃ u, (do Pure.pure (Next.value (← s)) : Sem Next).run P w = .ok (.value u) w) ∨ ∃ e w', (do Pure.pure (Next.value (← s)) : Sem Next).run P w = .halt e w' := by
    intro s hs
    rcases hs.run (P := P) w with ⟨a, ha⟩ | ⟨e, w', he⟩
    · exact .inl ⟨a, by simp [ha]⟩
    · exact .inr ⟨e, w', by simp [he, Result.andThen]⟩
  obtain ⟨d, op, ty, pos, aft, g⟩ := o
  cases op <;> simp [stillB] at h
  case move x => exact .inl ⟨ρ x, by simp [execOp]⟩
  case assign x => exact .inl ⟨ρ x, by simp [execOp]⟩
  case load t a =>
    exact vform (Instr.loadAt t (ρ a)) (Calm.bind (calm_sure _) fun x => calm_loadVar t x)
  case fieldAddr s x f => exact vform (Instr.fieldAt s (ρ x) f) (calm_fieldAt _ _ _)
  case extract x i =>
    refine vform (Instr.extract (ρ x) i) ?_
    unfold Instr.extract
    split
    · split
      · exact .pure _
      · exact .halt _
    · exact .halt _

/-! ### 2. An operation taken first -/
section
variable {P : Program} {ops : Array Oper}
/-- Yields v at this world. -/
def YieldsW (P : Program) (ops : Array Oper) (o : Oper) (v : Value) (a : Act) (w : World) : Prop :=
  (Region.wanted o (yielded ops a.tmps) = true ∧ (execOp a.eval o).run P w = .ok (.value v) w) ∨ (Region.wanted o (yielded ops a.tmps) = false ∧ v = undef)
theorem YieldsW.wpOp {Q : Exit → Act → World → Prop} {i : Nat} {o : Oper} {v : Value} {a : Act} {w : World} (hi : ops[i]? = some o) (hy : YieldsW P ops o v a w) {K : Act → World → Prop} (h : K (a.put o.dst v) w) : wpOp P ops Q i K a w := by
  unfold Go.wpOp
  simp only [hi]
  rcases hy with ⟨hw, hv⟩ | ⟨hw, rfl⟩
  · simp only [hw, if_true, Oper.wp, hv, Oper.upon]; exact .inl h
  · simp only [hw, Bool.false_eq_true, if_false]; exact h
theorem YieldsW.of_same {o : Oper} {v : Value} {a a' : Act} {w : World} (hy : YieldsW P ops o v a w) (he : execOp a'.eval o = execOp a.eval o) (hw : Region.wanted o (yielded ops a'.tmps) = Region.wanted o (yielded ops a.tmps)) : YieldsW P ops o v a' w := by
  unfold YieldsW at *
  rw [he, hw]
  exact hy
theorem wpOp_putW {Q : Exit → Act → World → Prop} {j : Nat} {oi oj : Oper} {v : Value} (hj : ops[j]? = some oj) (hap : oi.apart ops oj = true) (hst : stillB oj.op = true)
    (hsi : ∀ cs b, oi.op ≠ .select cs b) (hsj : ∀ cs b, oj.op ≠ .select cs b) (hQ : ∀ c a w, Q (.panic c) (a.put oi.dst v) w → Q (.panic c) a w) {K : Act → World → Prop} {a : Act} {w : World}
    (hy : YieldsW P ops oi v a w) (h : wpOp P ops Q j K (a.put oi.dst v) w) : wpOp P ops Q j (fun a' w' => YieldsW P ops oi v a' w' ∧ K (a'.put oi.dst v) w') a w := by
  obtain ⟨h1, h2, h3⟩ := Oper.apart_spec hap
  have keep : ∀ (a : Act), YieldsW P ops oi v a w → ∀ u, YieldsW P ops oi v (a.put oj.dst u) w := fun a hy u => hy.of_same (execOp_put oi hsi a oj.dst u h3) (wanted_put oi a oj.dst u h3)
  unfold wpOp at *
  simp only [hj] at *
  rw [wanted_put oj a oi.dst v h1] at h
  split
  · rename_i hw
    simp only [hw, if_true] at h
    rcases h with h | ⟨hasks, hlets⟩
    case inr => exact .inr ⟨by unfold Oper.asks at *; rw [execOp_put oj hsj a oi.dst v h1] at hasks; exact hasks, hlets⟩
    refine .inl ?_
    unfold Oper.wp at *
    rw [execOp_put oj hsj a oi.dst v h1] at h
    rcases still_run (P := P) a.eval oj hst w with ⟨u, hu⟩ | ⟨e, w', he⟩
    · rw [hu] at h ⊢
      simp only [Oper.upon] at h ⊢
      exact ⟨keep a hy u, by rw [← Act.put_comm a v u h2]; exact h⟩
    · rw [he] at h ⊢
      cases e <;> simp only [Oper.upon] at h ⊢
      case panic u => exact hQ _ _ _ h
  · rename_i hw
    simp only [hw] at h
    exact ⟨keep a hy _, by rw [← Act.put_comm a v undef h2]; exact h⟩

/-- Does operation j hang on operation i, by whatever chain? -/
def depB (ops : Array Oper) (i : Nat) : Nat → Nat → Bool
  | 0, _ => false
  | n + 1, j => match ops[j]? with
    | some o => o.after.any fun e => Region.binds .any e && (e.on == i || depB ops i n e.on)
    | none => false
def Closed (ops : Array Oper) (listed : Array Bool) : Prop := ∀ k ok, ops[k]? = some ok → listed.getD k false = true → ∀ e ∈ ok.after, Region.binds .any e = true → listed.getD e.on false = true
theorem depB_listed {listed : Array Bool} (hc : Closed ops listed) {i : Nat} : ∀ (n j : Nat) (oj : Oper), ops[j]? = some oj → (∀ e ∈ oj.after, Region.binds .any e = true → listed.getD e.on false = true) → depB ops i n j = true → listed.getD i false = true
  | 0, j, oj, hj, ha, h => by simp [depB] at h
  | n + 1, j, oj, hj, ha, h => by
    simp only [depB, hj] at h
    obtain ⟨e, he, hb⟩ := Array.any_eq_true'.1 h
    simp only [Bool.and_eq_true, Bool.or_eq_true, beq_iff_eq] at hb
    obtain ⟨hb1, hb2⟩ := hb
    have hl := ha e he hb1
    rcases hb2 with rfl | hb2
    · exact hl
    · cases n with
      | zero => simp [depB] at hb2
      | succ n =>
        have hb3 := hb2
        simp only [depB] at hb3
        split at hb3
        · rename_i o ho
          exact depB_listed hc (n + 1) e.on o ho (hc e.on o ho hl) hb2
        · simp at hb3
theorem Closed.list {listed : Array Bool} (hc : Closed ops listed) {j : Nat} (hj : j ∈ Region.ready .any ops listed) : Closed ops (listed.setIfInBounds j true) := by
  intro k ok hk hl e he hb
  obtain ⟨hjun, oj, hoj, hall⟩ := mem_ready.1 hj
  by_cases hkj : j = k
  · subst hkj
    rw [hoj] at hk
    injection hk with hk
    subst hk
    exact getD_set_true (hall e he hb)
  · rw [getD_set_ne false hkj] at hl
    exact getD_set_true (hc k ok hk hl e he hb)

/-- What may be taken first: all others that don't hang on it leave the world alone, and lie apart. -/
def takeB (ops : Array Oper) (listed : Array Bool) (still : Bool) (i : Nat) : Bool :=
  (Region.ready .any ops listed).contains i && Region.noSelect ops && match ops[i]? with
  | none => false
  | some oi => (List.range ops.size).all fun j => j == i || listed.getD j true || match ops[j]? with
      | some oj => depB ops i ops.size j || (oi.apart ops oj && (!still || stillB oj.op))
      | none => true
theorem wpAny_firstW {Q : Exit → Act → World → Prop} {i : Nat} {oi : Oper} {v : Value} (hi : ops[i]? = some oi) (hsel : ∀ (j : Nat) (o : Oper) cs b, ops[j]? = some o → o.op ≠ .select cs b) (hQ : ∀ c a w, Q (.panic c) (a.put oi.dst v) w → Q (.panic c) a w) :
    ∀ (fuel : Nat) (listed : Array Bool) (a : Act) (w : World), Closed ops listed →
      (∀ j oj, ops[j]? = some oj → j ≠ i → listed.getD j true = false → depB ops i ops.size j = true ∨ (oi.apart ops oj = true ∧ stillB oj.op = true)) →
      i ∈ Region.ready .any ops listed → YieldsW P ops oi v a w →
      wpAny P .any ops Q fuel (listed.setIfInBounds i true) (a.put oi.dst v) w → wpAny P .any ops Q (fuel + 1) listed a w := by
  intro fuel
  induction fuel with
  | zero =>
    intro listed a w hc _ hr hy H
    refine ⟨fun h => (by rw [h] at hr; cases hr), fun j hj => ?_⟩
    by_cases hji : j = i
    · subst hji; exact hy.wpOp hi H
    · have := ready_mono hj hji
      rw [H.1] at this
      cases this
  | succ fuel ih =>
    intro listed a w hc hfree hr hy H
    refine ⟨fun h => (by rw [h] at hr; cases hr), fun j hj => ?_⟩
    by_cases hji : j = i
    · subst hji; exact hy.wpOp hi H
    · have h1 := H.2 j (ready_mono hj hji)
      obtain ⟨hjun, oj, hoj, hall⟩ := mem_ready.1 hj
      have hiun : listed.getD i false ≠ true := by
        intro he
        have h0 := (mem_ready.1 hr).1
        rcases Nat.lt_or_ge i listed.size with h' | h'
        · simp [h'] at h0 he; rw [h0] at he; cases he
        · simp [Array.getElem?_eq_none h'] at he
      have hnd : depB ops i ops.size j ≠ true := fun h => hiun (depB_listed hc ops.size j oj hoj hall h)
      rcases hfree j oj hoj hji hjun with hd | ⟨hap, hst⟩
      · exact absurd hd hnd
      · have h2 := wpOp_putW hoj hap hst (fun cs b => hsel i oi cs b hi) (fun cs b => hsel j oj cs b hoj) hQ hy h1
        have hfree' : ∀ k ok, ops[k]? = some ok → k ≠ i → (listed.setIfInBounds j true).getD k true = false → depB ops i ops.size k = true ∨ (oi.apart ops ok = true ∧ stillB ok.op = true) := fun k ok hk hki hun => by
          refine hfree k ok hk hki ?_
          by_cases hjk : j = k
          · subst hjk; exact hjun
          · rw [getD_set_ne true hjk] at hun; exact hun
        refine wpOp_mono (fun a' w' h3 => ih (listed.setIfInBounds j true) a' w' (hc.list hj) hfree' (ready_mono hr (Ne.symm hji)) h3.1 ?_) h2
        rw [Array.setIfInBounds_comm _ _ hji]
        exact h3.2
theorem wpAny_firstP {Q : Exit → Act → World → Prop} {i : Nat} {oi : Oper} {v : Value} (hi : ops[i]? = some oi) (hsel : ∀ (j : Nat) (o : Oper) cs b, ops[j]? = some o → o.op ≠ .select cs b) (hQ : ∀ c a w, Q (.panic c) (a.put oi.dst v) w → Q (.panic c) a w) :
    ∀ (fuel : Nat) (listed : Array Bool) (a : Act) (w : World), Closed ops listed →
      (∀ j oj, ops[j]? = some oj → j ≠ i → listed.getD j true = false → depB ops i ops.size j = true ∨ oi.apart ops oj = true) →
      i ∈ Region.ready .any ops listed → Yields P ops oi v a →
      wpAny P .any ops Q fuel (listed.setIfInBounds i true) (a.put oi.dst v) w → wpAny P .any ops Q (fuel + 1) listed a w := by
  intro fuel
  induction fuel with
  | zero =>
    intro listed a w hc _ hr hy H
    refine ⟨fun h => (by rw [h] at hr; cases hr), fun j hj => ?_⟩
    by_cases hji : j = i
    · subst hji; exact hy.wpOp hi H
    · have := ready_mono hj hji
      rw [H.1] at this
      cases this
  | succ fuel ih =>
    intro listed a w hc hfree hr hy H
    refine ⟨fun h => (by rw [h] at hr; cases hr), fun j hj => ?_⟩
    by_cases hji : j = i
    · subst hji; exact hy.wpOp hi H
    · have h1 := H.2 j (ready_mono hj hji)
      obtain ⟨hjun, oj, hoj, hall⟩ := mem_ready.1 hj
      have hiun : listed.getD i false ≠ true := by
        intro he
        have h0 := (mem_ready.1 hr).1
        rcases Nat.lt_or_ge i listed.size with h' | h'
        · simp [h'] at h0 he; rw [h0] at he; cases he
        · simp [Array.getElem?_eq_none h'] at he
      have hnd : depB ops i ops.size j ≠ true := fun h => hiun (depB_listed hc ops.size j oj hoj hall h)
      rcases hfree j oj hoj hji hjun with hd | hap
      · exact absurd hd hnd
      · have h2 := wpOp_put hoj hap (fun cs b => hsel i oi cs b hi) (fun cs b => hsel j oj cs b hoj) hQ hy h1
        have hfree' : ∀ k ok, ops[k]? = some ok → k ≠ i → (listed.setIfInBounds j true).getD k true = false → depB ops i ops.size k = true ∨ oi.apart ops ok = true := fun k ok hk hki hun => by
          refine hfree k ok hk hki ?_
          by_cases hjk : j = k
          · subst hjk; exact hjun
          · rw [getD_set_ne true hjk] at hun; exact hun
        refine wpOp_mono (fun a' w' h3 => ih (listed.setIfInBounds j true) a' w' (hc.list hj) hfree' (ready_mono hr (Ne.symm hji)) h3.1 ?_) h2
        rw [Array.setIfInBounds_comm _ _ hji]
        exact h3.2
theorem takeB_spec {listed : Array Bool} {still : Bool} {i : Nat} {oi : Oper} (hi : ops[i]? = some oi) (h : takeB ops listed still i = true) :
    i ∈ Region.ready .any ops listed ∧ (∀ (j : Nat) (o : Oper) cs b, ops[j]? = some o → o.op ≠ .select cs b) ∧
    ∀ j oj, ops[j]? = some oj → j ≠ i → listed.getD j true = false → depB ops i ops.size j = true ∨ (oi.apart ops oj = true ∧ (still = true → stillB oj.op = true)) := by
  simp only [takeB, hi, Bool.and_eq_true, List.all_eq_true, List.mem_range] at h
  obtain ⟨⟨h1, h2⟩, h3⟩ := h
  refine ⟨by simpa using h1, Region.noSelect_spec h2, fun j oj hj hne hun => ?_⟩
  have h4 := h3 j (Array.getElem?_eq_some_iff.1 hj).1
  simp only [hj, Bool.or_eq_true, beq_iff_eq, hne, false_or, hun, Bool.false_eq_true, Bool.and_eq_true, Bool.not_eq_true'] at h4
  rcases h4 with h4 | ⟨h4, h5⟩
  · exact .inl h4
  · exact .inr ⟨h4, fun hs => h5.resolve_left (by simp [hs])⟩
end

/-! ### 3. The rules -/
class NP (Q : Exit → Env → AStore → Prop) : Prop where
  out : ∀ c τ σ, ¬ Q (.panic c) τ σ
instance {P : Program} {rs : List ResultVar} {R : Value → AStore → Prop} : NP (BodyQ P rs R) := ⟨fun _ _ _ h => h⟩
instance {K : Env → AStore → Prop} {Q : Exit → Env → AStore → Prop} [h : NP Q] : NP (Then K Q) := ⟨fun c τ σ hq => h.out c τ σ hq⟩
instance {id : Nat} {Q : Exit → Env → AStore → Prop} [h : NP Q] : NP (InBlock id Q) := ⟨fun c τ σ hq => h.out c τ σ hq⟩
instance {J : Nat → Env → AStore → Prop} {Q : Exit → Env → AStore → Prop} [h : NP Q] : NP (Jump J Q) := ⟨fun c τ σ hq => h.out c τ σ hq⟩

/-- The rest of a region that draws: what has been carried out is listed. -/
def AAny (P : Program) (C : World) (n : Nat) (ops : List Oper) (listed : List Bool) (Q : Exit → Env → AStore → Prop) (τ : Env) (σ : AStore) : Prop :=
  ∀ fuel ι a w, fuel = (listed.filter (fun b => !b)).length → Closed ops.toArray listed.toArray → TRel ι n τ a → SRel C ι σ w → wpAny P .any ops.toArray (Lift C n ι σ w Q) fuel listed.toArray a w

section
variable {P : Program} {C : World} {n : Nat} {Q : Exit → Env → AStore → Prop} {τ : Env} {σ : AStore} {ops : List Oper} {listed : List Bool}
theorem Lift.np [h : NP Q] {ι : Inj} {w : World} {c : List PanicEntry} {a : Act} {w' : World} : ¬ Lift C n ι σ w Q (.panic c) a w' := fun ⟨_, τ', σ', _, _, _, hq⟩ => h.out c τ' σ' hq
theorem wpAny_mono {Q Q' : Exit → Act → World → Prop} {ops : Array Oper} (hq : ∀ e a w, Q e a w → Q' e a w) : ∀ (fuel : Nat) (listed : Array Bool) (a : Act) (w : World), wpAny P .any ops Q fuel listed a w → wpAny P .any ops Q' fuel listed a w
  | 0, listed, a, w, h => ⟨h.1, hq _ _ _ h.2⟩
  | fuel + 1, listed, a, w, h => by
    refine ⟨fun hr => hq _ _ _ (h.1 hr), fun i hi => ?_⟩
    have := h.2 i hi
    unfold wpOp at this ⊢
    split
    · rename_i ho; rw [ho] at this; exact wpAny_mono hq fuel _ _ _ this
    · rename_i o ho
      rw [ho] at this
      simp only at this
      split
      · rename_i hw
        rw [if_pos hw] at this
        rcases this with h2 | ⟨h2, a0, w0, h0⟩
        · exact .inl (Oper.wp_mono' (fun a w => wpAny_mono hq fuel _ a w) hq h2)
        · exact .inr ⟨h2, a0, w0, hq _ _ _ h0⟩
      · rename_i hw
        rw [if_neg hw] at this
        exact wpAny_mono hq fuel _ _ _ this
theorem cf_false (l : List Oper) : l.length = ((l.map fun _ => false).filter (fun b => !b)).length := by
  induction l with
  | nil => rfl
  | cons a l ih => simpa using ih
theorem AWp.draw {id : Nat} {l : List Oper} (hm : P.follows .mixedOrders = true) (h : AAny P C n l (l.map fun _ => false) Q τ σ) : AWp P C n (.region id l.toArray true) Q τ σ := by
  unfold AWp
  intro ι a w ht hs
  refine wp_region_any hm ?_
  have e1 : Array.replicate l.toArray.size false = (l.map fun _ => false).toArray := by
    apply Array.ext'
    simp [List.map_const']
  rw [e1]
  refine wpAny_mono (fun _ _ _ hl => Lift.trans (Ext.drew ι σ w) hl) _ _ _ _ (h l.toArray.size ι a w.drew (by simpa using cf_false l) ?_ ht hs.drew)
  intro k ok hk hl
  simp [List.getD_eq_getElem?_getD] at hl
  cases hq : l[k]? <;> simp [hq] at hl
theorem set_count (l : List Bool) (i : Nat) (h : l[i]? = some false) : ((l.set i true).filter (fun b => !b)).length + 1 = (l.filter (fun b => !b)).length := by
  induction l generalizing i with
  | nil => simp at h
  | cons b l ih =>
    cases i with
    | zero => simp at h; subst h; simp
    | succ i =>
      simp only [List.getElem?_cons_succ] at h
      have := ih i h
      cases b
      · simpa using this
      · simpa using this
theorem ready_false {listed : List Bool} {i : Nat} (h : i ∈ Region.ready .any ops.toArray listed.toArray) : listed[i]? = some false := by
  have h0 := (mem_ready.1 h).1
  simp only [Array.getD_eq_getD_getElem?, List.getElem?_toArray] at h0
  cases hl : listed[i]? with
  | none => rw [hl] at h0; simp at h0
  | some b => rw [hl] at h0; simp at h0; rw [h0]
/-- A pure operation, taken first. -/
theorem AAny.pure [NP Q] (i : Nat) {o : Oper} {v : Value} (hi : ops[i]? = some o) (hg : o.guard = none) (h : PureOK P τ o v) (hd : dlt o.dst n = true) (ht : takeB ops.toArray listed.toArray false i = true)
    (k : AAny P C n ops (listed.set i true) Q (put τ o.dst v) σ) : AAny P C n ops listed Q τ σ := by
  intro fuel ι a w hf hc hT hS
  have hi' : ops.toArray[i]? = some o := by simpa using hi
  obtain ⟨h1, h2, h3⟩ := takeB_spec hi' ht
  obtain ⟨v', g1, g2⟩ := h n ι a hT
  have hcnt := set_count listed i (ready_false h1)
  obtain ⟨fuel, rfl⟩ : ∃ q, fuel = q + 1 := ⟨fuel - 1, by omega⟩
  have k0 := k fuel ι (a.put o.dst v') w (by omega) (by have := hc.list h1; simpa using this) (hT.put o.dst v v' g2 (dlt_spec hd)) hS
  exact wpAny_firstP (P := P) (Q := Lift C n ι σ w Q) hi' h2 (fun c a w hq => absurd hq Lift.np) fuel listed.toArray a w hc (fun j oj hj hne hun => (h3 j oj hj hne hun).imp id And.left) h1 (.inl ⟨by simp [Region.wanted, hg], g1⟩) (by simpa using k0)
/-- The same, under a guard that says yes. -/
theorem AAny.pure_on [NP Q] (i : Nat) {d : Option Nat} {op : Op} {ty : TypeId} {pos : String} {aft : Array Edge} {j : Nat} {b : Bool} {v : Value} (hi : ops[i]? = some ⟨d, op, ty, pos, aft, some (j, b)⟩) (hg : gl ops τ j = some b) (h : PureOK P τ ⟨d, op, ty, pos, aft, some (j, b)⟩ v) (hd : dlt d n = true) (ht : takeB ops.toArray listed.toArray false i = true)
    (k : AAny P C n ops (listed.set i true) Q (put τ d v) σ) : AAny P C n ops listed Q τ σ := by
  intro fuel ι a w hf hc hT hS
  have hi' : ops.toArray[i]? = some ⟨d, op, ty, pos, aft, some (j, b)⟩ := by simpa using hi
  obtain ⟨h1, h2, h3⟩ := takeB_spec hi' ht
  obtain ⟨v', g1, g2⟩ := h n ι a hT
  have hcnt := set_count listed i (ready_false h1)
  have hy := gl_yielded hT hg
  obtain ⟨fuel, rfl⟩ : ∃ q, fuel = q + 1 := ⟨fuel - 1, by omega⟩
  have k0 := k fuel ι (a.put d v') w (by omega) (by have := hc.list h1; simpa using this) (hT.put d v v' g2 (dlt_spec hd)) hS
  exact wpAny_firstP (P := P) (Q := Lift C n ι σ w Q) hi' h2 (fun c a w hq => absurd hq Lift.np) fuel listed.toArray a w hc (fun j oj hj hne hun => (h3 j oj hj hne hun).imp id And.left) h1 (.inl ⟨by simp [Region.wanted, hy], g1⟩) (by simpa using k0)
/-- An operation that is passed over. -/
theorem AAny.off [NP Q] (i : Nat) {d : Option Nat} {op : Op} {ty : TypeId} {pos : String} {aft : Array Edge} {j : Nat} {b : Bool} (hi : ops[i]? = some ⟨d, op, ty, pos, aft, some (j, b)⟩) (hg : gl ops τ j = some (!b)) (hd : dlt d n = true) (ht : takeB ops.toArray listed.toArray false i = true)
    (k : AAny P C n ops (listed.set i true) Q (put τ d undef) σ) : AAny P C n ops listed Q τ σ := by
  intro fuel ι a w hf hc hT hS
  have hi' : ops.toArray[i]? = some ⟨d, op, ty, pos, aft, some (j, b)⟩ := by simpa using hi
  obtain ⟨h1, h2, h3⟩ := takeB_spec hi' ht
  have hcnt := set_count listed i (ready_false h1)
  have hy := gl_yielded hT hg
  obtain ⟨fuel, rfl⟩ : ∃ q, fuel = q + 1 := ⟨fuel - 1, by omega⟩
  have k0 := k fuel ι (a.put d undef) w (by omega) (by have := hc.list h1; simpa using this) (hT.put d undef undef (.tuple _ _ .nil) (dlt_spec hd)) hS
  exact wpAny_firstP (P := P) (Q := Lift C n ι σ w Q) hi' h2 (fun c a w hq => absurd hq Lift.np) fuel listed.toArray a w hc (fun j oj hj hne hun => (h3 j oj hj hne hun).imp id And.left) h1 (.inr ⟨by cases b <;> simp [Region.wanted, hy], rfl⟩) (by simpa using k0)
/-- The same, where the guard's own operation was passed over. -/
theorem AAny.off_undef [NP Q] (i : Nat) {d : Option Nat} {op : Op} {ty : TypeId} {pos : String} {aft : Array Edge} {j t : Nat} {b : Bool} (hi : ops[i]? = some ⟨d, op, ty, pos, aft, some (j, b)⟩) (hj : (ops[j]?).bind (·.dst) = some t) (hg : lk τ t = some undef) (hd : dlt d n = true) (ht : takeB ops.toArray listed.toArray false i = true)
    (k : AAny P C n ops (listed.set i true) Q (put τ d undef) σ) : AAny P C n ops listed Q τ σ := by
  intro fuel ι a w hf hc hT hS
  have hi' : ops.toArray[i]? = some ⟨d, op, ty, pos, aft, some (j, b)⟩ := by simpa using hi
  obtain ⟨h1, h2, h3⟩ := takeB_spec hi' ht
  have hcnt := set_count listed i (ready_false h1)
  have hy := undef_yielded (b := b) hT hj hg
  obtain ⟨fuel, rfl⟩ : ∃ q, fuel = q + 1 := ⟨fuel - 1, by omega⟩
  have k0 := k fuel ι (a.put d undef) w (by omega) (by have := hc.list h1; simpa using this) (hT.put d undef undef (.tuple _ _ .nil) (dlt_spec hd)) hS
  exact wpAny_firstP (P := P) (Q := Lift C n ι σ w Q) hi' h2 (fun c a w hq => absurd hq Lift.np) fuel listed.toArray a w hc (fun j oj hj hne hun => (h3 j oj hj hne hun).imp id And.left) h1 (.inr ⟨by simp [Region.wanted, hy], rfl⟩) (by simpa using k0)
/-- A boolean in a temporary, by cases. -/
theorem AAny.split [NP Q] (t : Nat) {b : Bool} (h : lk τ t = some (.bool b)) (h1 : b = true → AAny P C n ops listed Q ((t, .bool true) :: τ) σ) (h2 : b = false → AAny P C n ops listed Q ((t, .bool false) :: τ) σ) : AAny P C n ops listed Q τ σ := by
  have hs : ∀ b' : Bool, b = b' → Sub ((t, .bool b') :: τ) τ := by
    intro b' e u x hx
    rw [lk_cons] at hx
    by_cases hu : u = t
    · rw [if_pos hu] at hx; subst hu; rw [h, e]; exact hx
    · rw [if_neg hu] at hx; exact hx
  intro fuel ι a w hf hc hT hS
  cases b with
  | true => exact h1 rfl fuel ι a w hf hc (hT.sub (hs _ rfl)) hS
  | false => exact h2 rfl fuel ι a w hf hc (hT.sub (hs _ rfl)) hS
/-- A load, taken first: what else may come up reads alone. -/
theorem AAny.load [NP Q] (i : Nat) {d : Option Nat} {t : TypeId} {x : Operand} {ty : TypeId} {pos : String} {aft : Array Edge} {m : Option Nat} [LD P t m] {b o : Nat} {ob : AObj} {v : Value} (hi : ops[i]? = some ⟨d, .load t x, ty, pos, aft, none⟩) (hx : ev τ x = some (.pointer (some ⟨b, o, none⟩)))
    (hb : σ.get b = some ob) (hv : ldm m ob o = some v) (hd : dlt d n = true) (ht : takeB ops.toArray listed.toArray true i = true) (k : AAny P C n ops (listed.set i true) Q (put τ d v) σ) : AAny P C n ops listed Q τ σ := by
  intro fuel ι a w hf hc hT hS
  have hi' : ops.toArray[i]? = some ⟨d, .load t x, ty, pos, aft, none⟩ := by simpa using hi
  obtain ⟨h1, h2, h3⟩ := takeB_spec hi' ht
  obtain ⟨l, hl, hO⟩ := hS.obj b ob hb
  obtain ⟨v', g1, g2⟩ := run_loadVar (P := P) (b := b) (o := o) (t := t) hO hv
  have hx2 : a.eval x = .pointer (some ⟨l.blk, l.off + o, none⟩) := by
    have h := ev_rel hT hx
    generalize a.eval x = z at h
    cases h with
    | ptr _ _ l' hl' => rw [hl] at hl'; injection hl' with hl'; subst hl'; rfl
  have hcnt := set_count listed i (ready_false h1)
  obtain ⟨fuel, rfl⟩ : ∃ q, fuel = q + 1 := ⟨fuel - 1, by omega⟩
  have k0 := k fuel ι (a.put d v') w (by omega) (by have := hc.list h1; simpa using this) (hT.put d v v' g2 (dlt_spec hd)) hS
  exact wpAny_firstW (P := P) (Q := Lift C n ι σ w Q) (v := v') hi' h2 (fun c a w hq => absurd hq Lift.np) fuel listed.toArray a w hc (fun j oj hj hne hun => (h3 j oj hj hne hun).imp id (fun h => ⟨h.1, h.2 rfl⟩)) h1
    (.inl ⟨by simp [Region.wanted], by simp only [execOp, hx2, Sem.run_bind, Instr.loadAt, Instr.sureAddr, Sem.run_pure, Result.andThen_ok, g1]⟩) (by simpa using k0)
/-- Whatever comes up next. -/
def ANext (P : Program) (C : World) (n : Nat) (ops : List Oper) (listed : List Bool) (Q : Exit → Env → AStore → Prop) (τ : Env) (σ : AStore) (i : Nat) : Prop :=
  ∀ fuel ι a w, fuel = ((listed.set i true).filter (fun b => !b)).length → Closed ops.toArray (listed.set i true).toArray → TRel ι n τ a → SRel C ι σ w → wpOp P ops.toArray (Lift C n ι σ w Q) i (wpAny P .any ops.toArray (Lift C n ι σ w Q) fuel (listed.set i true).toArray) a w
theorem AAny.next [NP Q] {rs : List Nat} (hr : Region.ready .any ops.toArray listed.toArray = rs) (hne : rs ≠ []) (h : ∀ i ∈ rs, ANext P C n ops listed Q τ σ i) : AAny P C n ops listed Q τ σ := by
  intro fuel ι a w hf hc hT hS
  obtain ⟨i0, hi0⟩ := List.exists_mem_of_ne_nil rs hne
  have hcnt := set_count listed i0 (ready_false (by rw [hr]; exact hi0))
  obtain ⟨fuel, rfl⟩ : ∃ q, fuel = q + 1 := ⟨fuel - 1, by omega⟩
  refine wpAny_all hr hne fun i hi => ?_
  have hcnt2 := set_count listed i (ready_false (by rw [hr]; exact hi))
  have := h i hi fuel ι a w (by omega) (by have := hc.list (by rw [hr]; exact hi); simpa using this) hT hS
  simpa using this
theorem AAny.one [NP Q] (i : Nat) (hr : Region.ready .any ops.toArray listed.toArray = [i]) (h : ANext P C n ops listed Q τ σ i) : AAny P C n ops listed Q τ σ :=
  AAny.next hr (by simp) (fun j hj => by simp at hj; subst hj; exact h)
theorem AAny.two [NP Q] (i j : Nat) (hr : Region.ready .any ops.toArray listed.toArray = [i, j]) (h : ANext P C n ops listed Q τ σ i) (h' : ANext P C n ops listed Q τ σ j) : AAny P C n ops listed Q τ σ :=
  AAny.next hr (by simp) (fun k hk => by simp at hk; rcases hk with rfl | rfl <;> assumption)
theorem AAny.done {Q : Exit → Env → AStore → Prop} (hr : Region.ready .any ops.toArray listed.toArray = []) (h : Q .normal τ σ) : AAny P C n ops listed Q τ σ :=
  fun fuel ι a w hf hc hT hS => wpAny_done hr ⟨ι, τ, σ, .refl .., hT, hS, h⟩ fuel
theorem AAny.sub {τ' : Env} (h : AAny P C n ops listed Q τ' σ) (hs : Sub τ' τ) : AAny P C n ops listed Q τ σ := fun fuel ι a w hf hc hT hS => h fuel ι a w hf hc (hT.sub hs) hS
theorem ANext.op {i : Nat} {o : Oper} {v : Value} {σ' : AStore} (hi : ops[i]? = some o) (hg : o.guard = none) (h : OpOK P C τ σ o v σ') (hd : dlt o.dst n = true) (k : AAny P C n ops (listed.set i true) Q (put τ o.dst v) σ') : ANext P C n ops listed Q τ σ i := by
  intro fuel ι a w hf hc hT hS
  have hi' : ops.toArray[i]? = some o := by simpa using hi
  obtain ⟨ι', w', v', h1, h2, h3, h4⟩ := h n ι a w hT hS
  have k' := wpAny_mono (fun _ _ _ hl => Lift.trans h2 hl) _ _ _ _ (k fuel ι' (a.put o.dst v') w' hf hc ((hT.mono h2.inj).put o.dst v v' h3 (dlt_spec hd)) h4)
  unfold wpOp
  simp only [hi']
  rw [if_pos (by simp [Region.wanted, hg])]
  refine .inl ?_
  unfold Oper.wp
  rcases h1 with h1 | ⟨h1, hu⟩
  · rw [h1, Oper.upon_value]; exact k'
  · subst hu; rw [h1, Oper.upon_skip]; exact k'
theorem ANext.call {i : Nat} {d : Option Nat} {f : FuncId} {xs : List Operand} {ts : Array TypeId} {ty : TypeId} {pos : String} {aft : Array Edge} [hb : HasBody P f] {vs : List Value} (R : Value → AStore → Prop) (hi : ops[i]? = some ⟨d, .call ⟨.value (.func f), xs.toArray, ts⟩, ty, pos, aft, none⟩)
    (ha : args? τ xs = some vs) (hcall : ACalls P C f vs σ R) (hd : dlt d n = true) (k : ∀ v σ', R v σ' → AAny P C n ops (listed.set i true) Q (put τ d v) σ') : ANext P C n ops listed Q τ σ i := by
  intro fuel ι a w hf hc hT hS
  have hi' : ops.toArray[i]? = some ⟨d, .call ⟨.value (.func f), xs.toArray, ts⟩, ty, pos, aft, none⟩ := by simpa using hi
  obtain ⟨fn, hfn, hbody, hname⟩ := hb.out
  unfold wpOp
  simp only [hi']
  rw [if_pos (by simp [Region.wanted])]
  refine .inl ?_
  unfold Oper.wp
  have hrun : (execOp a.eval ⟨d, .call ⟨.value (.func f), xs.toArray, ts⟩, ty, pos, aft, none⟩).run P w = .ok (.enter f (xs.map a.eval).toArray) w := by
    have h1 : ¬ fn.name = "runtime.NumGoroutine" := by simpa using hname
    have h2 : ¬ fn.body = none := by intro e; rw [e] at hbody; simp at hbody
    simp [execOp, resolve, Deferred.ofValue, invoke, callFunc, hfn, h1, h2, Act.eval]
  rw [hrun, Oper.upon_enter]
  unfold ACalls at hcall
  refine (hcall ι (xs.map a.eval) w (args_rel hT ha) hS).mono ?_
  rintro e w' ⟨v', rfl, ι', v, σ', h1, h2, h3, h4⟩
  exact wpAny_mono (fun _ _ _ hl => Lift.trans h1 hl) _ _ _ _ (k v σ' h4 fuel ι' (a.put d v') w' hf hc ((hT.mono h1.inj).put d v v' h2 (dlt_spec hd)) h3)
/-- One guarded operation whose guard says yes. -/
theorem ANext.on {i : Nat} {d : Option Nat} {op : Op} {ty : TypeId} {pos : String} {aft : Array Edge} {j : Nat} {b : Bool} {v : Value} {σ' : AStore} (hi : ops[i]? = some ⟨d, op, ty, pos, aft, some (j, b)⟩) (hg : gl ops τ j = some b) (h : OpOK P C τ σ ⟨d, op, ty, pos, aft, some (j, b)⟩ v σ') (hd : dlt d n = true)
    (k : AAny P C n ops (listed.set i true) Q (put τ d v) σ') : ANext P C n ops listed Q τ σ i := by
  intro fuel ι a w hf hc hT hS
  have hi' : ops.toArray[i]? = some ⟨d, op, ty, pos, aft, some (j, b)⟩ := by simpa using hi
  have hy := gl_yielded hT hg
  obtain ⟨ι', w', v', h1, h2, h3, h4⟩ := h n ι a w hT hS
  have k' := wpAny_mono (fun _ _ _ hl => Lift.trans h2 hl) _ _ _ _ (k fuel ι' (a.put d v') w' hf hc ((hT.mono h2.inj).put d v v' h3 (dlt_spec hd)) h4)
  unfold wpOp
  simp only [hi']
  rw [if_pos (by simp [Region.wanted, hy])]
  refine .inl ?_
  unfold Oper.wp
  rcases h1 with h1 | ⟨h1, hu⟩
  · rw [h1, Oper.upon_value]; exact k'
  · subst hu; rw [h1, Oper.upon_skip]; exact k'
end
attribute [irreducible] AAny ANext
end Go.AM
