/-
  The abstract store logic: values with abstract block numbers, an abstract store, how a world bears them, and the judgements on code and calls with their rules. Nothing of any program stands here.
-/
import Derived.WalkKit
import Derived.WalkLawsBesides
import Derived.Deep.LoopGhost
set_option linter.unusedVariables false
namespace Go.AM
open Go Go.RowKit

/-! ### 1. Values -/
structure Loc where
  blk : Nat
  off : Nat
  total : Nat
  esz : Nat

abbrev Inj := Nat → Option Loc
def unk : Nat := 18446744073709551616

mutual
inductive VRel (ι : Inj) : Value → Value → Prop
  | bool (b : Bool) : VRel ι (.bool b) (.bool b)
  | int (k : IntKind) (n : Int) : VRel ι (.int k n) (.int k n)
  | float (k : FloatKind) (n : Nat) : VRel ι (.float k n) (.float k n)
  | complex (k : FloatKind) (n m : Nat) : VRel ι (.complex k n m) (.complex k n m)
  | string (s : ByteArray) : VRel ι (.string s) (.string s)
  | nilptr : VRel ι (.pointer none) (.pointer none)
  | ptr (b o : Nat) (l : Loc) (h : ι b = some l) : VRel ι (.pointer (some ⟨b, o, none⟩)) (.pointer (some ⟨l.blk, l.off + o, none⟩))
  | nilslice : VRel ι (.slice none 0 0) (.slice none 0 0)
  | slice (b o : Nat) (l : Loc) (n c c' : Nat) (h : ι b = some l) (hn : n ≤ c') (hc : c = unk ∨ c = c') (ht : l.esz = 0 ∨ o + c' * l.esz ≤ l.total) :
      VRel ι (.slice (some ⟨b, o, none⟩) n c) (.slice (some ⟨l.blk, l.off + o, none⟩) n c')
  | slice0 (a a' : Addr) (c : Nat) (hc : c = unk ∨ c = 0) : VRel ι (.slice (some a) 0 c) (.slice (some a') 0 0)
  | nilmap : VRel ι (.map none) (.map none)
  | nilFunc : VRel ι .nilFunc .nilFunc
  | nilIface : VRel ι .nilIface .nilIface
  | func (fn : Fn) (a b a' b' : Array Value) (h : LRel ι a.toList a'.toList) (h' : LRel ι b.toList b'.toList) : VRel ι (.func fn a b) (.func fn a' b')
  | iface (t : TypeId) (v v' : Value) (h : VRel ι v v') : VRel ι (.iface t v) (.iface t v')
  | agg (a a' : Array Value) (h : LRel ι a.toList a'.toList) : VRel ι (.agg a) (.agg a')
  | tuple (a a' : Array Value) (h : LRel ι a.toList a'.toList) : VRel ι (.tuple a) (.tuple a')
inductive LRel (ι : Inj) : List Value → List Value → Prop
  | nil : LRel ι [] []
  | cons (v v' : Value) (l l' : List Value) (h : VRel ι v v') (hl : LRel ι l l') : LRel ι (v :: l) (v' :: l')
end

def Le (ι ι' : Inj) : Prop := ∀ b l, ι b = some l → ι' b = some l
theorem Le.refl (ι : Inj) : Le ι ι := fun _ _ h => h
theorem Le.trans {a b c : Inj} (h : Le a b) (h' : Le b c) : Le a c := fun x l e => h' x l (h x l e)

theorem VRel.mono {ι ι' : Inj} (hi : Le ι ι') {v v' : Value} (h : VRel ι v v') : VRel ι' v v' :=
  VRel.rec (ι := ι) (motive_1 := fun v v' _ => VRel ι' v v') (motive_2 := fun l l' _ => LRel ι' l l')
    (fun b => .bool b) (fun k n => .int k n) (fun k n => .float k n) (fun k n m => .complex k n m) (fun s => .string s) .nilptr
    (fun b o l h => .ptr b o l (hi b l h)) .nilslice (fun b o l n c c' h hn hc ht => .slice b o l n c c' (hi b l h) hn hc ht) (fun a a' c hc => .slice0 a a' c hc)
    .nilmap .nilFunc .nilIface (fun fn a b a' b' _ _ h h' => .func fn a b a' b' h h') (fun t v v' _ h => .iface t v v' h)
    (fun a a' _ h => .agg a a' h) (fun a a' _ h => .tuple a a' h) .nil (fun v v' l l' _ _ h hl => .cons v v' l l' h hl) h
theorem LRel.mono {ι ι' : Inj} (hi : Le ι ι') {v v' : List Value} (h : LRel ι v v') : LRel ι' v v' := by
  match v, v', h with
  | _, _, .nil => exact .nil
  | _, _, .cons v v' l l' h hl => exact .cons _ _ _ _ (h.mono hi) (LRel.mono hi hl)
theorem LRel.length {ι : Inj} {v v' : List Value} (h : LRel ι v v') : v.length = v'.length := by
  match v, v', h with
  | _, _, .nil => rfl
  | _, _, .cons v v' l l' h hl => simp [hl.length]
theorem LRel.get {ι : Inj} {v v' : List Value} (h : LRel ι v v') (j : Nat) (x : Value) (hx : v[j]? = some x) : ∃ x', v'[j]? = some x' ∧ VRel ι x x' := by
  match v, v', h with
  | _, _, .nil => simp at hx
  | _, _, .cons v v' l l' h hl =>
    cases j with
    | zero => simp at hx; subst hx; exact ⟨v', by simp, h⟩
    | succ j => simp at hx; obtain ⟨x', h1, h2⟩ := hl.get j x hx; exact ⟨x', by simpa using h1, h2⟩
theorem LRel.of_get {ι : Inj} : ∀ {v v' : List Value}, v.length = v'.length → (∀ (j : Nat) (x x' : Value), v[j]? = some x → v'[j]? = some x' → VRel ι x x') → LRel ι v v'
  | [], [], _, _ => .nil
  | [], _ :: _, h, _ => by simp at h
  | _ :: _, [], h, _ => by simp at h
  | a :: l, b :: m, hl, h => .cons _ _ _ _ (h 0 a b (by simp) (by simp)) (LRel.of_get (by simpa using hl) (fun j x x' h1 h2 => h (j + 1) x x' (by simpa using h1) (by simpa using h2)))
theorem LRel.append {ι : Inj} {a a' b b' : List Value} (h : LRel ι a a') (h' : LRel ι b b') : LRel ι (a ++ b) (a' ++ b') := by
  match a, a', h with
  | _, _, .nil => simpa using h'
  | _, _, .cons v v' l l' h hl => exact .cons _ _ _ _ h (LRel.append hl h')
theorem LRel.take {ι : Inj} {a a' : List Value} (h : LRel ι a a') (n : Nat) : LRel ι (a.take n) (a'.take n) := by
  match a, a', n, h with
  | _, _, _, .nil => simpa using LRel.nil
  | _, _, 0, _ => simpa using LRel.nil
  | _, _, n + 1, .cons v v' l l' h hl => exact .cons _ _ _ _ h (hl.take n)
theorem LRel.drop {ι : Inj} {a a' : List Value} (h : LRel ι a a') (n : Nat) : LRel ι (a.drop n) (a'.drop n) := by
  match a, a', n, h with
  | _, _, _, .nil => simpa using LRel.nil
  | _, _, 0, h => simpa using h
  | _, _, n + 1, .cons v v' l l' h hl => simpa using hl.drop n

/-- A value of one cell: what may be stored. -/
def cell1 : Value → Bool
  | .agg _ | .tuple _ => false
  | _ => true
theorem VRel.cell1 {ι : Inj} {v v' : Value} (h : VRel ι v v') (hv : cell1 v = true) : v'.oneCell' = true := by
  cases h <;> first | rfl | (simp [AM.cell1] at hv)
theorem VRel.cell1' {ι : Inj} {v v' : Value} (h : VRel ι v v') (hv : AM.cell1 v = true) : AM.cell1 v' = true := by
  cases h <;> first | rfl | (simp [AM.cell1] at hv)
/-- A value that bears no address. -/
def flat : Value → Bool
  | .bool _ | .int .. | .float .. | .complex .. | .string _ | .pointer none | .slice none 0 0 | .map none | .nilFunc | .nilIface => true
  | _ => false
theorem flat_rel {v : Value} (h : flat v = true) (ι : Inj) : VRel ι v v := by
  unfold flat at h
  split at h <;> first | constructor | simp at h
theorem VRel.of_flat {ι : Inj} {v v' : Value} (h : VRel ι v v') (hv : flat v = true) : v' = v := by
  cases h <;> first | rfl | (simp [flat] at hv)
theorem LRel.of_flat {ι : Inj} {v v' : List Value} (h : LRel ι v v') (hv : v.all flat = true) : v' = v := by
  match v, v', h with
  | _, _, .nil => rfl
  | _, _, .cons v v' l l' h hl => simp at hv; rw [h.of_flat hv.1, hl.of_flat (by simpa using hv.2)]
theorem LRel.flat {v : List Value} (hv : v.all flat = true) (ι : Inj) : LRel ι v v := by
  induction v with
  | nil => exact .nil
  | cons a l ih => simp at hv; exact .cons _ _ _ _ (flat_rel hv.1 ι) (ih (by simpa using hv.2))
/-- A constant of the code. -/
def cst : Value → Bool
  | .agg xs => xs.toList.all flat
  | .func _ a b => a.toList.isEmpty && b.toList.isEmpty
  | .tuple xs => xs.toList.isEmpty
  | v => flat v
theorem cst_rel {v : Value} (h : cst v = true) (ι : Inj) : VRel ι v v := by
  unfold cst at h
  split at h
  · exact .agg _ _ (LRel.flat h ι)
  · rename_i f a b
    simp at h
    have ha : a.toList = [] := by simp [h.1]
    have hb : b.toList = [] := by simp [h.2]
    exact .func _ _ _ _ _ (by rw [ha]; exact .nil) (by rw [hb]; exact .nil)
  · rename_i a
    simp at h
    have ha : a.toList = [] := by simp [h]
    exact .tuple _ _ (by rw [ha]; exact .nil)
  · exact flat_rel h ι

/-! ### 2. The abstract store -/
structure AObj where
  cells : List Value
  elem : TypeId
  esz : Nat
  own : Bool

structure AStore where
  next : Nat
  get : Nat → Option AObj
  wf : ∀ b o, get b = some o → b < next

structure ORel (ι : Inj) (w : World) (o : AObj) (l : Loc) : Prop where
  cells : ∀ j v, o.cells[j]? = some v → ∃ v', w.cell? ⟨l.blk, l.off + j, none⟩ = some v' ∧ VRel ι v v'
  esz : l.esz = o.esz
  own : o.own = true → l.off = 0 ∧ ∃ c fr, w.heap[l.blk]? = some (.cells c o.elem fr) ∧ l.total = c.size ∧ o.cells.length ≤ c.size ∧ ∀ j, j < c.size → ¬ (fr.1 ≤ j ∧ j < fr.2)

structure SRel (C : World) (ι : Inj) (σ : AStore) (w : World) : Prop where
  below : Below C.heap.size C w
  low : ∀ b o l, σ.get b = some o → o.own = true → ι b = some l → C.heap.size ≤ l.blk
  obj : ∀ b o, σ.get b = some o → ∃ l, ι b = some l ∧ ORel ι w o l
  bnd : ∀ b l, ι b = some l → b < σ.next ∧ l.blk < w.heap.size
  sep : ∀ b o b' o' l l', σ.get b = some o → σ.get b' = some o' → o.own = true → b ≠ b' → ι b = some l → ι b' = some l' → l.blk ≠ l'.blk

/-- What a piece of a run does: the injection grows, blocks that are not owned stay as they are. -/
structure Ext (ι : Inj) (σ : AStore) (w : World) (ι' : Inj) (σ' : AStore) (w' : World) : Prop where
  inj : Le ι ι'
  next : σ.next ≤ σ'.next
  size : w.heap.size ≤ w'.heap.size
  frame : ∀ k, k < w.heap.size → (∀ b o l, σ.get b = some o → o.own = true → ι b = some l → l.blk ≠ k) → w'.heap[k]? = w.heap[k]?
  own : ∀ b o l, σ'.get b = some o → o.own = true → ι' b = some l → l.blk < w.heap.size → ∃ b0 o0 l0, σ.get b0 = some o0 ∧ o0.own = true ∧ ι b0 = some l0 ∧ l0.blk = l.blk
  env : w'.os = w.os ∧ w'.tape = w.tape ∧ w'.output = w.output
theorem Ext.refl (ι : Inj) (σ : AStore) (w : World) : Ext ι σ w ι σ w :=
  ⟨.refl _, Nat.le_refl _, Nat.le_refl _, fun _ _ _ => rfl, fun b o l h1 h2 h3 _ => ⟨b, o, l, h1, h2, h3, rfl⟩, rfl, rfl, rfl⟩
theorem Ext.trans {ι : Inj} {σ : AStore} {w : World} {ι1 : Inj} {σ1 : AStore} {w1 : World} {ι2 : Inj} {σ2 : AStore} {w2 : World}
    (h : Ext ι σ w ι1 σ1 w1) (k : Ext ι1 σ1 w1 ι2 σ2 w2) : Ext ι σ w ι2 σ2 w2 where
  inj := h.inj.trans k.inj
  next := Nat.le_trans h.next k.next
  size := Nat.le_trans h.size k.size
  frame := fun b hb hn => by
    rw [k.frame b (Nat.lt_of_lt_of_le hb h.size) ?_, h.frame b hb hn]
    intro b1 o1 l1 h1 h2 h3 h4
    obtain ⟨b0, o0, l0, g1, g2, g3, g4⟩ := h.own b1 o1 l1 h1 h2 h3 (by omega)
    exact hn b0 o0 l0 g1 g2 g3 (by omega)
  own := fun b o l h1 h2 h3 h4 => by
    obtain ⟨b1, o1, l1, g1, g2, g3, g4⟩ := k.own b o l h1 h2 h3 (Nat.lt_of_lt_of_le h4 h.size)
    obtain ⟨b0, o0, l0, e1, e2, e3, e4⟩ := h.own b1 o1 l1 g1 g2 g3 (by omega)
    exact ⟨b0, o0, l0, e1, e2, e3, by omega⟩
  env := ⟨k.env.1.trans h.env.1, k.env.2.1.trans h.env.2.1, k.env.2.2.trans h.env.2.2⟩

/-! ### 3. Temporaries: what is known of them -/
abbrev Env := List (Nat × Value)
def lk : Env → Nat → Option Value
  | [], _ => none
  | (d, v) :: r, t => match Nat.beq t d with | true => some v | false => lk r t
def ev (τ : Env) : Operand → Option Value
  | .tmp t => lk τ t
  | .const v => match cst v with | true => some v | false => none
  | .global _ => none
  | .func f => some (.func (.func f) #[] #[])
def put (τ : Env) : Option Nat → Value → Env
  | some d, v => (d, v) :: τ
  | none, _ => τ

structure TRel (ι : Inj) (n : Nat) (τ : Env) (a : Act) : Prop where
  size : a.tmps.size = n
  val : ∀ t v, lk τ t = some v → t < n ∧ VRel ι v (a.tmps.getD t undef)
  defers : a.defers = []

theorem TRel.mono {ι ι' : Inj} {n : Nat} {τ : Env} {a : Act} (hi : Le ι ι') (h : TRel ι n τ a) : TRel ι' n τ a :=
  ⟨h.size, fun t v e => ⟨(h.val t v e).1, (h.val t v e).2.mono hi⟩, h.defers⟩
theorem lk_cons (d t : Nat) (v : Value) (r : Env) : lk ((d, v) :: r) t = if t = d then some v else lk r t := by
  simp only [lk]
  by_cases h : t = d
  · subst h; rw [if_pos rfl]; simp
  · rw [if_neg h]
    have : Nat.beq t d = false := by
      cases hb : Nat.beq t d with
      | false => rfl
      | true => exact absurd (Nat.eq_of_beq_eq_true hb) h
    rw [this]

theorem TRel.put {ι : Inj} {n : Nat} {τ : Env} {a : Act} (h : TRel ι n τ a) (d : Option Nat) (v v' : Value) (hv : VRel ι v v') (hd : ∀ t, d = some t → t < n) :
    TRel ι n (AM.put τ d v) (a.put d v') := by
  cases d with
  | none => exact h
  | some d =>
    have hd := hd d rfl
    refine ⟨by simp [Act.put, h.size], ?_, h.defers⟩
    intro t x hx
    simp only [AM.put, lk_cons] at hx
    by_cases ht : t = d
    · rw [if_pos ht] at hx
      injection hx with hx
      subst hx; subst ht
      refine ⟨hd, ?_⟩
      have : t < a.tmps.size := by rw [h.size]; exact hd
      simpa [Act.put, Array.getD_eq_getD_getElem?, this] using hv
    · rw [if_neg ht] at hx
      refine ⟨(h.val t x hx).1, ?_⟩
      have := (h.val t x hx).2
      have e : (a.put (some d) v').tmps.getD t undef = a.tmps.getD t undef := by
        simp [Act.put, Array.getD_eq_getD_getElem?, Ne.symm ht]
      rw [e]; exact this


/-! ### 4. Judgements -/
theorem Oper.wp_mono' {P : Program} {Q Q' : Exit → Act → World → Prop} {o : Oper} {a : Act} {w : World} {K K' : Act → World → Prop} (h : ∀ a w, K a w → K' a w) (hq : ∀ e a w, Q e a w → Q' e a w)
    (hh : o.wp P a w K Q) : o.wp P a w K' Q' := by
  unfold Oper.wp at *
  generalize (execOp a.eval o).run P w = r at *
  cases r with
  | ok n w' =>
    cases n <;> simp only [Oper.upon] at hh ⊢ <;>
      first
        | exact h _ _ hh
        | exact Calls.mono hh (fun e w'' he => by
            cases e with
            | returned v => exact h _ _ he
            | panicked ch => exact hq _ _ _ he
            | outgrown => obtain ⟨a0, w0, h0⟩ := he; exact ⟨a0, w0, hq _ _ _ h0⟩)
        | exact Rows.mono hh (fun _ _ he => h _ _ he)
  | halt x w' =>
    cases x <;> simp only [Oper.upon] at hh ⊢ <;> first | exact hh | exact hq _ _ _ hh
theorem wpList_mono {P : Program} {ops : Array Oper} {Q Q' : Exit → Act → World → Prop} (hq : ∀ e a w, Q e a w → Q' e a w) :
    ∀ (l : List Oper) (a : Act) (w : World), wpList P ops Q l a w → wpList P ops Q' l a w
  | [], a, w, h => hq _ _ _ h
  | o :: rest, a, w, h => by
    unfold wpList at h ⊢
    split
    · rename_i hw
      rw [if_pos hw] at h
      rcases h with h | ⟨h, a0, w0, h0⟩
      · exact .inl (Oper.wp_mono' (fun a w => wpList_mono hq rest a w) hq h)
      · exact .inr ⟨h, a0, w0, hq _ _ _ h0⟩
    · rename_i hw
      rw [if_neg hw] at h
      exact wpList_mono hq rest _ _ h
section
variable (P : Program) (C : World) (n : Nat)

def Lift (ι : Inj) (σ : AStore) (w : World) (Q : Exit → Env → AStore → Prop) : Exit → Act → World → Prop :=
  fun e a' w' => ∃ ι' τ' σ', Ext ι σ w ι' σ' w' ∧ TRel ι' n τ' a' ∧ SRel C ι' σ' w' ∧ Q e τ' σ'
/-- Code, from temporaries and a store. -/
def AWp (c : Code) (Q : Exit → Env → AStore → Prop) (τ : Env) (σ : AStore) : Prop :=
  ∀ ι a w, TRel ι n τ a → SRel C ι σ w → c.wp P (Lift C n ι σ w Q) a w
/-- The rest of a region. -/
def AOps (ops : List Oper) (l : List Oper) (Q : Exit → Env → AStore → Prop) (τ : Env) (σ : AStore) : Prop :=
  ∀ ι a w, TRel ι n τ a → SRel C ι σ w → wpList P ops.toArray (Lift C n ι σ w Q) l a w
/-- A call. -/
def ACalls (f : FuncId) (args : List Value) (σ : AStore) (R : Value → AStore → Prop) : Prop :=
  ∀ ι args' w, LRel ι args args' → SRel C ι σ w → Calls P f args'.toArray w fun e w' => ∃ v', e = .returned v' ∧ ∃ ι' v σ', Ext ι σ w ι' σ' w' ∧ VRel ι' v v' ∧ SRel C ι' σ' w' ∧ R v σ'
end

section
variable {P : Program} {C : World} {n : Nat} {Q Q' : Exit → Env → AStore → Prop} {τ : Env} {σ : AStore}

theorem Lift.mono {ι : Inj} {w : World} (h : ∀ e τ σ, Q e τ σ → Q' e τ σ) {e : Exit} {a : Act} {w' : World} (hl : Lift C n ι σ w Q e a w') : Lift C n ι σ w Q' e a w' := by
  obtain ⟨ι', τ', σ', h1, h2, h3, h4⟩ := hl
  exact ⟨ι', τ', σ', h1, h2, h3, h _ _ _ h4⟩
theorem Lift.trans {ι ι1 : Inj} {w w1 : World} {σ1 : AStore} (hx : Ext ι σ w ι1 σ1 w1) {e : Exit} {a : Act} {w' : World} (hl : Lift C n ι1 σ1 w1 Q e a w') : Lift C n ι σ w Q e a w' := by
  obtain ⟨ι', τ', σ', h1, h2, h3, h4⟩ := hl
  exact ⟨ι', τ', σ', hx.trans h1, h2, h3, h4⟩
theorem AWp.mono {c : Code} (hc : AWp P C n c Q τ σ) (h : ∀ e τ σ, Q e τ σ → Q' e τ σ) : AWp P C n c Q' τ σ :=
  fun ι a w ht hs => wp_mono (hc ι a w ht hs) fun _ _ _ hl => hl.mono h
theorem ACalls.mono {f : FuncId} {args : List Value} {R R' : Value → AStore → Prop} (hc : ACalls P C f args σ R) (h : ∀ v σ', R v σ' → R' v σ') : ACalls P C f args σ R' :=
  fun ι args' w ha hs => (hc ι args' w ha hs).mono fun _ _ ⟨v', he, ι', v, σ', h1, h2, h3, h4⟩ => ⟨v', he, ι', v, σ', h1, h2, h3, h _ _ h4⟩

def Sub (τ' τ : Env) : Prop := ∀ t v, lk τ' t = some v → lk τ t = some v
theorem TRel.sub {ι : Inj} {τ' : Env} {a : Act} (h : TRel ι n τ a) (hs : Sub τ' τ) : TRel ι n τ' a := ⟨h.size, fun t v e => h.val t v (hs t v e), h.defers⟩
/-- Less is known. -/
theorem AWp.sub {c : Code} {τ' : Env} (hc : AWp P C n c Q τ' σ) (hs : Sub τ' τ) : AWp P C n c Q τ σ := fun ι a w ht hr => hc ι a w (ht.sub hs) hr
theorem AOps.sub {ops : List Oper} {l : List Oper} {τ' : Env} (hc : AOps P C n ops l Q τ' σ) (hs : Sub τ' τ) : AOps P C n ops l Q τ σ := fun ι a w ht hr => hc ι a w (ht.sub hs) hr
theorem Sub.nil {τ : Env} : Sub [] τ := fun _ _ e => by simp [lk] at e
theorem Sub.cons {τ' τ : Env} {t : Nat} {v : Value} (h : lk τ t = some v) (hs : Sub τ' τ) : Sub ((t, v) :: τ') τ := by
  intro u x e
  rw [lk_cons] at e
  by_cases hu : u = t
  · rw [if_pos hu] at e; subst hu; rw [h]; exact e
  · rw [if_neg hu] at e; exact hs u x e

theorem AWp.skip (h : Q .normal τ σ) : AWp P C n .skip Q τ σ := fun ι a w ht hs => wp_skip ⟨ι, τ, σ, .refl .., ht, hs, h⟩
theorem AWp.label {l : Nat} (h : Q .normal τ σ) : AWp P C n (.label l) Q τ σ := fun ι a w ht hs => wp_label ⟨ι, τ, σ, .refl .., ht, hs, h⟩
theorem AWp.exit {id : Nat} (h : Q (.exit id) τ σ) : AWp P C n (.exit id) Q τ σ := fun ι a w ht hs => wp_exit ⟨ι, τ, σ, .refl .., ht, hs, h⟩
theorem AWp.goto {l : Nat} (h : Q (.goto l) τ σ) : AWp P C n (.goto l) Q τ σ := fun ι a w ht hs => wp_goto ⟨ι, τ, σ, .refl .., ht, hs, h⟩
theorem AWp.ret (h : Q .ret τ σ) : AWp P C n .ret Q τ σ := fun ι a w ht hs => wp_ret ⟨ι, τ, σ, .refl .., ht, hs, h⟩

/-- What comes behind a piece. -/
def Then (K : Env → AStore → Prop) (Q : Exit → Env → AStore → Prop) : Exit → Env → AStore → Prop
  | .normal, τ, σ => K τ σ
  | e, τ, σ => Q e τ σ
theorem AWp.seq {x y : Code} (h : AWp P C n x (Then (AWp P C n y Q) Q) τ σ) : AWp P C n (.seq x y) Q τ σ := by
  intro ι a w ht hs
  refine wp_seq (wp_mono (h ι a w ht hs) ?_)
  intro e a1 w1 ⟨ι1, τ1, σ1, h1, h2, h3, h4⟩
  cases e with
  | normal => exact wp_mono (h4 ι1 a1 w1 h2 h3) fun _ _ _ hl => hl.trans h1
  | exit id => exact ⟨ι1, τ1, σ1, h1, h2, h3, h4⟩
  | goto l => exact ⟨ι1, τ1, σ1, h1, h2, h3, h4⟩
  | ret => exact ⟨ι1, τ1, σ1, h1, h2, h3, h4⟩
  | panic ch => exact ⟨ι1, τ1, σ1, h1, h2, h3, h4⟩
  | outgrown => exact ⟨ι1, τ1, σ1, h1, h2, h3, h4⟩
/-- What comes behind stands behind a letter. -/
theorem AWp.seq_k {x y : Code} (h : ∀ K : Env → AStore → Prop, (∀ τ σ, AWp P C n y Q τ σ → K τ σ) → AWp P C n x (Then K Q) τ σ) : AWp P C n (.seq x y) Q τ σ := .seq (h _ fun _ _ h => h)
/-- A cut: what is known behind the first piece. -/
theorem AWp.seq_cut {x y : Code} (J : Env → AStore → Prop) (h1 : AWp P C n x (Then J Q) τ σ) (h2 : ∀ τ σ, J τ σ → AWp P C n y Q τ σ) : AWp P C n (.seq x y) Q τ σ :=
  .seq (h1.mono fun e τ σ q => by cases e <;> first | exact h2 _ _ q | exact q)

theorem AWp.cond {c : Operand} {x y : Code} {b : Bool} (hc : ev τ c = some (.bool b)) (ht : b = true → AWp P C n x Q τ σ) (hf : b = false → AWp P C n y Q τ σ) : AWp P C n (.cond c x y) Q τ σ := by
  intro ι a w hτ hs
  have hb : a.eval c = .bool b := by
    cases c with
    | tmp t => exact (hτ.val t _ hc).2.of_flat rfl
    | const v =>
      simp only [ev] at hc
      split at hc
      · injection hc with hc
      · simp at hc
    | global g => simp [ev] at hc
    | func f => simp [ev] at hc
  cases b with
  | true => exact wp_cond_true hb (ht rfl ι a w hτ hs)
  | false => exact wp_cond_false hb (hf rfl ι a w hτ hs)
theorem AWp.cond_t {c : Operand} {x y : Code} (hc : ev τ c = some (.bool true)) (ht : AWp P C n x Q τ σ) : AWp P C n (.cond c x y) Q τ σ := .cond hc (fun _ => ht) (fun h => by simp at h)
theorem AWp.cond_f {c : Operand} {x y : Code} (hc : ev τ c = some (.bool false)) (hf : AWp P C n y Q τ σ) : AWp P C n (.cond c x y) Q τ σ := .cond hc (fun h => by simp at h) (fun _ => hf)

def InBlock (id : Nat) (Q : Exit → Env → AStore → Prop) : Exit → Env → AStore → Prop
  | .exit id', τ, σ => if id' = id then Q .normal τ σ else Q (.exit id') τ σ
  | e, τ, σ => Q e τ σ
theorem AWp.block {id : Nat} {c : Code} (h : AWp P C n c (InBlock id Q) τ σ) : AWp P C n (.block id c) Q τ σ := by
  intro ι a w ht hs
  refine wp_block (wp_mono (h ι a w ht hs) ?_)
  intro e a1 w1 ⟨ι1, τ1, σ1, h1, h2, h3, h4⟩
  cases e with
  | exit id' =>
    simp only [InBlock] at h4
    simp only [Exit.inBlock]
    split
    · rename_i he; rw [if_pos he] at h4; exact ⟨ι1, τ1, σ1, h1, h2, h3, h4⟩
    · rename_i he; rw [if_neg he] at h4; exact ⟨ι1, τ1, σ1, h1, h2, h3, h4⟩
  | normal => exact ⟨ι1, τ1, σ1, h1, h2, h3, h4⟩
  | goto l => exact ⟨ι1, τ1, σ1, h1, h2, h3, h4⟩
  | ret => exact ⟨ι1, τ1, σ1, h1, h2, h3, h4⟩
  | panic ch => exact ⟨ι1, τ1, σ1, h1, h2, h3, h4⟩
  | outgrown => exact ⟨ι1, τ1, σ1, h1, h2, h3, h4⟩

/-- A loop: an invariant that bears a number, which each round lowers. -/
theorem AWp.loop {c : Code} (I : Nat → Env → AStore → Prop) (n0 : Nat) (h0 : I n0 τ σ)
    (round : ∀ k τ σ, I k τ σ → ∀ K : Env → AStore → Prop, (∀ k' τ' σ', k' < k → I k' τ' σ' → K τ' σ') → AWp P C n c (Then K Q) τ σ) : AWp P C n (.loop c) Q τ σ := by
  intro ι a w ht hs
  refine wp_loop_ghost (fun k a' w' => ∃ ι' τ' σ', Ext ι σ w ι' σ' w' ∧ TRel ι' n τ' a' ∧ SRel C ι' σ' w' ∧ I k τ' σ') n0 ⟨ι, τ, σ, .refl .., ht, hs, h0⟩ ?_
  intro k a1 w1 ⟨ι1, τ1, σ1, h1, h2, h3, h4⟩
  refine wp_mono (round k τ1 σ1 h4 (fun τ' σ' => ∃ k', k' < k ∧ I k' τ' σ') (fun k' τ' σ' hk hi => ⟨k', hk, hi⟩) ι1 a1 w1 h2 h3) ?_
  intro e a2 w2 ⟨ι2, τ2, σ2, g1, g2, g3, g4⟩
  cases e with
  | normal => obtain ⟨k', hk, hi⟩ := g4; exact ⟨k', hk, ι2, τ2, σ2, h1.trans g1, g2, g3, hi⟩
  | exit id => exact ⟨ι2, τ2, σ2, h1.trans g1, g2, g3, g4⟩
  | goto l => exact ⟨ι2, τ2, σ2, h1.trans g1, g2, g3, g4⟩
  | ret => exact ⟨ι2, τ2, σ2, h1.trans g1, g2, g3, g4⟩
  | panic ch => exact ⟨ι2, τ2, σ2, h1.trans g1, g2, g3, g4⟩
  | outgrown => exact ⟨ι2, τ2, σ2, h1.trans g1, g2, g3, g4⟩

/-- As Q; by a goto: J. -/
def Jump (J : Nat → Env → AStore → Prop) (Q : Exit → Env → AStore → Prop) : Exit → Env → AStore → Prop
  | .goto l, τ, σ => J l τ σ
  | e, τ, σ => Q e τ σ
/-- A scope in which the run jumps to labels: what holds at each, with a number that each pass lowers. -/
theorem AWp.scope {c : Code} (J : Nat → Nat → Env → AStore → Prop) (first : AWp P C n c (Jump (fun l τ σ => ∃ k, J l k τ σ) Q) τ σ)
    (pass : ∀ l k τ σ, J l k τ σ → ∃ rest, findLabel c l = some rest ∧ AWp P C n rest (Jump (fun l' τ' σ' => ∃ k', k' < k ∧ J l' k' τ' σ') Q) τ σ) : AWp P C n (.scope c) Q τ σ := by
  intro ι a w ht hs b ks cs
  have key : ∀ (k l : Nat) ι1 τ1 σ1 a1 w1, Ext ι σ w ι1 σ1 w1 → TRel ι1 n τ1 a1 → SRel C ι1 σ1 w1 → J l k τ1 σ1 → ∀ rest, findLabel c l = some rest →
      ∃ e a' w', Lift C n ι σ w Q e a' w' ∧ Arrives P (lone (b.at a1 (.code rest :: .inScope c :: ks)) cs w1) b ks cs e a' w' := by
    intro k
    induction k using Nat.strongRecOn with
    | _ k ih =>
      intro l ι1 τ1 σ1 a1 w1 hx ht1 hs1 hJ rest hf
      obtain ⟨rest', hf', hp⟩ := pass l k τ1 σ1 hJ
      rw [hf] at hf'
      injection hf' with hf'
      subst hf'
      obtain ⟨e, a2, w2, ⟨ι2, τ2, σ2, g1, g2, g3, g4⟩, harr⟩ := hp ι1 a1 w1 ht1 hs1 b (.inScope c :: ks) cs
      cases e with
      | normal => exact ⟨.normal, a2, w2, ⟨ι2, τ2, σ2, hx.trans g1, g2, g3, g4⟩, Steps.trans harr (.one step_inScope)⟩
      | exit id => exact ⟨.exit id, a2, w2, ⟨ι2, τ2, σ2, hx.trans g1, g2, g3, g4⟩, fun k' hk => harr k' (by simp [exitTo, hk])⟩
      | goto l' =>
        obtain ⟨k', hlt, hJ'⟩ := g4
        obtain ⟨rest2, hf2, _⟩ := pass l' k' τ2 σ2 hJ'
        obtain ⟨e3, a3, w3, hq3, harr3⟩ := ih k' hlt l' ι2 τ2 σ2 a2 w2 (hx.trans g1) g2 g3 hJ' rest2 hf2
        exact ⟨e3, a3, w3, hq3, .of_steps (harr _ (by simp [gotoIn, hf2])) harr3⟩
      | ret => exact ⟨_, a2, w2, ⟨ι2, τ2, σ2, hx.trans g1, g2, g3, g4⟩, harr⟩
      | panic ch => exact ⟨_, a2, w2, ⟨ι2, τ2, σ2, hx.trans g1, g2, g3, g4⟩, harr⟩
      | outgrown => exact ⟨_, a2, w2, ⟨ι2, τ2, σ2, hx.trans g1, g2, g3, g4⟩, harr⟩
  obtain ⟨e, a2, w2, ⟨ι2, τ2, σ2, g1, g2, g3, g4⟩, harr⟩ := first ι a w ht hs b (.inScope c :: ks) cs
  cases e with
  | normal => exact ⟨.normal, a2, w2, ⟨ι2, τ2, σ2, g1, g2, g3, g4⟩, .head step_scope (Steps.trans harr (.one step_inScope))⟩
  | exit id => exact ⟨.exit id, a2, w2, ⟨ι2, τ2, σ2, g1, g2, g3, g4⟩, fun k' hk => .head step_scope (harr k' (by simp [exitTo, hk]))⟩
  | goto l' =>
    obtain ⟨k', hJ'⟩ := g4
    obtain ⟨rest2, hf2, _⟩ := pass l' k' τ2 σ2 hJ'
    obtain ⟨e3, a3, w3, hq3, harr3⟩ := key k' l' ι2 τ2 σ2 a2 w2 g1 g2 g3 hJ' rest2 hf2
    exact ⟨e3, a3, w3, hq3, .of_steps (.head step_scope (harr _ (by simp [gotoIn, hf2]))) harr3⟩
  | ret => exact ⟨_, a2, w2, ⟨ι2, τ2, σ2, g1, g2, g3, g4⟩, .of_steps (.one step_scope) harr⟩
  | panic ch => exact ⟨_, a2, w2, ⟨ι2, τ2, σ2, g1, g2, g3, g4⟩, .of_steps (.one step_scope) harr⟩
  | outgrown => exact ⟨_, a2, w2, ⟨ι2, τ2, σ2, g1, g2, g3, g4⟩, .of_steps (.one step_scope) harr⟩

theorem AWp.region {id : Nat} {l : List Oper} (h : AOps P C n l l Q τ σ) : AWp P C n (.region id l.toArray false) Q τ σ :=
  fun ι a w ht hs => wp_region_lit (h ι a w ht hs)
theorem AOps.nil' {ops : List Oper} {K : Env → AStore → Prop} (h : K τ σ) : AOps P C n ops [] (Then K Q) τ σ := fun ι a w ht hs => wpList_nil ⟨ι, τ, σ, .refl .., ht, hs, h⟩
theorem AOps.nil {ops : List Oper} (h : Q .normal τ σ) : AOps P C n ops [] Q τ σ := fun ι a w ht hs => wpList_nil ⟨ι, τ, σ, .refl .., ht, hs, h⟩

/-! ### 5. One operation -/
theorem ev_rel {ι : Inj} {a : Act} (ht : TRel ι n τ a) {x : Operand} {v : Value} (h : ev τ x = some v) : VRel ι v (a.eval x) := by
  cases x with
  | tmp t => exact (ht.val t v h).2
  | const u =>
    simp only [ev] at h
    split at h
    · rename_i hc; injection h with h; subst h; exact cst_rel hc ι
    · simp at h
  | global g => simp [ev] at h
  | func f => simp only [ev] at h; injection h with h; subst h; exact .func _ _ _ _ _ .nil .nil

def dlt (d : Option Nat) (n : Nat) : Bool := match d with
  | none => true
  | some t => Nat.blt t n
theorem dlt_spec {d : Option Nat} {n : Nat} (h : dlt d n = true) : ∀ t, d = some t → t < n := by
  intro t e; subst e; exact Nat.le_of_ble_eq_true h

/-- An operation yields a value, whatever the world. -/
def PureOK (P : Program) (τ : Env) (o : Oper) (v : Value) : Prop :=
  ∀ n ι a, TRel ι n τ a → ∃ v', (∀ w, (execOp a.eval o).run P w = .ok (.value v') w) ∧ VRel ι v v'
/-- An operation yields a value and a store. -/
def OpOK (P : Program) (C : World) (τ : Env) (σ : AStore) (o : Oper) (v : Value) (σ' : AStore) : Prop :=
  ∀ n ι a w, TRel ι n τ a → SRel C ι σ w → ∃ ι' w' v', ((execOp a.eval o).run P w = .ok (.value v') w' ∨ ((execOp a.eval o).run P w = .ok .skip w' ∧ v' = undef)) ∧ Ext ι σ w ι' σ' w' ∧ VRel ι' v v' ∧ SRel C ι' σ' w'
theorem OpOK.of_pure {o : Oper} {v : Value} (h : PureOK P τ o v) : OpOK P C τ σ o v σ := by
  intro n ι a w ht hs
  obtain ⟨v', h1, h2⟩ := h n ι a ht
  exact ⟨ι, w, v', .inl (h1 w), .refl .., h2, hs⟩

theorem AOps.step {ops rest : List Oper} {o : Oper} {v : Value} {σ' : AStore} (hg : o.guard = none) (h : OpOK P C τ σ o v σ') (hd : dlt o.dst n = true) (k : AOps P C n ops rest Q (put τ o.dst v) σ') :
    AOps P C n ops (o :: rest) Q τ σ := by
  intro ι a w ht hs
  obtain ⟨ι', w', v', h1, h2, h3, h4⟩ := h n ι a w ht hs
  have k' := k ι' (a.put o.dst v') w' ((ht.mono h2.inj).put o.dst v v' h3 (dlt_spec hd)) h4
  have k2 := wpList_mono (fun _ _ _ hl => Lift.trans h2 hl) _ _ _ k'
  refine wpList_plain hg fun K hK => ?_
  unfold Oper.wp
  rcases h1 with h1 | ⟨h1, hu⟩
  · rw [h1, Oper.upon_value]; exact hK _ _ k2
  · subst hu; rw [h1, Oper.upon_skip]; exact hK _ _ k2
theorem AOps.pure {ops rest : List Oper} {o : Oper} {v : Value} (hg : o.guard = none) (h : PureOK P τ o v) (hd : dlt o.dst n = true) (k : AOps P C n ops rest Q (put τ o.dst v) σ) :
    AOps P C n ops (o :: rest) Q τ σ := .step hg (.of_pure h) hd k

/-- The boolean that an earlier operation of the region has left. -/
def gl (ops : List Oper) (τ : Env) (j : Nat) : Option Bool :=
  match ops[j]? with
  | some o => match o.dst with
    | some t => match lk τ t with
      | some (.bool b) => some b
      | _ => none
    | none => none
  | none => none
theorem gl_yielded {ops : List Oper} {ι : Inj} {a : Act} (ht : TRel ι n τ a) {j : Nat} {b : Bool} (h : gl ops τ j = some b) : yielded ops.toArray a.tmps j = some b := by
  unfold gl at h
  split at h
  · rename_i o ho
    split at h
    · rename_i t hd
      split at h
      · rename_i b' hl
        injection h with h
        subst h
        obtain ⟨h1, h2⟩ := ht.val t _ hl
        have h3 := h2.of_flat rfl
        have hlt : t < a.tmps.size := by rw [ht.size]; exact h1
        have h4 : a.tmps[t]? = some (.bool b') := by
          rw [Array.getElem?_eq_getElem hlt]
          rw [Array.getD_eq_getD_getElem?, Array.getElem?_eq_getElem hlt] at h3
          exact congrArg some h3
        unfold yielded
        have : (ops.toArray)[j]? = some o := by simpa using ho
        rw [this]
        simp only [Option.bind_some, hd, h4]
      · simp at h
    · simp at h
  · simp at h
theorem AOps.on {ops rest : List Oper} {d : Option Nat} {op : Op} {ty : TypeId} {pos : String} {aft : Array Edge} {j : Nat} {b : Bool} (h : gl ops τ j = some b)
    (k : AOps P C n ops (⟨d, op, ty, pos, aft, none⟩ :: rest) Q τ σ) : AOps P C n ops (⟨d, op, ty, pos, aft, some (j, b)⟩ :: rest) Q τ σ := by
  intro ι a w ht hs
  have k1 := k ι a w ht hs
  have hy := gl_yielded ht h
  unfold wpList at k1 ⊢
  rw [if_pos (by simp [Region.wanted])] at k1
  rw [if_pos (by simp [Region.wanted, hy])]
  exact k1
theorem AOps.off {ops rest : List Oper} {d : Option Nat} {op : Op} {ty : TypeId} {pos : String} {aft : Array Edge} {j : Nat} {b : Bool} (h : gl ops τ j = some (!b)) (hd : dlt d n = true)
    (k : AOps P C n ops rest Q (put τ d undef) σ) : AOps P C n ops (⟨d, op, ty, pos, aft, some (j, b)⟩ :: rest) Q τ σ := by
  intro ι a w ht hs
  have k1 := k ι (a.put d undef) w (ht.put d undef undef (.tuple _ _ .nil) (dlt_spec hd)) hs
  have hy := gl_yielded ht h
  unfold wpList
  rw [if_neg (by cases b <;> simp [Region.wanted, hy])]
  exact k1
theorem undef_yielded {ops : List Oper} {ι : Inj} {a : Act} (ht : TRel ι n τ a) {j t : Nat} {b : Bool} (hj : (ops[j]?).bind (·.dst) = some t) (h : lk τ t = some undef) : yielded ops.toArray a.tmps j = none := by
  obtain ⟨h1, h2⟩ := ht.val t _ h
  have hu : a.tmps.getD t undef = undef := by
    generalize a.tmps.getD t undef = z at h2
    unfold undef at h2 ⊢
    cases h2 with
    | tuple _ z' h =>
      have hl := h.length
      have : z' = #[] := by
        apply Array.ext'
        simpa [List.length_eq_zero_iff, eq_comm] using hl
      rw [this]
  unfold yielded
  have : (ops.toArray)[j]? = ops[j]? := by simp
  rw [this, hj]
  have hlt : t < a.tmps.size := by rw [ht.size]; exact h1
  rw [Array.getD_eq_getD_getElem?, Array.getElem?_eq_getElem hlt] at hu
  simp only [Option.bind_some, Array.getElem?_eq_getElem hlt]
  simp only [Option.getD_some] at hu
  rw [hu]
  rfl
/-- An operation whose guard hangs on one that was passed over. -/
theorem AOps.off_undef {ops rest : List Oper} {d : Option Nat} {op : Op} {ty : TypeId} {pos : String} {aft : Array Edge} {j t : Nat} {b : Bool} (hj : (ops[j]?).bind (·.dst) = some t) (h : lk τ t = some undef) (hd : dlt d n = true)
    (k : AOps P C n ops rest Q (put τ d undef) σ) : AOps P C n ops (⟨d, op, ty, pos, aft, some (j, b)⟩ :: rest) Q τ σ := by
  intro ι a w ht hs
  have k1 := k ι (a.put d undef) w (ht.put d undef undef (.tuple _ _ .nil) (dlt_spec hd)) hs
  have hy := undef_yielded (b := b) ht hj h
  unfold wpList
  rw [if_neg (by simp [Region.wanted, hy])]
  exact k1
/-- A boolean in a temporary, by cases. -/
theorem AOps.split {ops l : List Oper} (t : Nat) {b : Bool} (h : lk τ t = some (.bool b)) (h1 : b = true → AOps P C n ops l Q ((t, .bool true) :: τ) σ) (h2 : b = false → AOps P C n ops l Q ((t, .bool false) :: τ) σ) : AOps P C n ops l Q τ σ := by
  have hs : ∀ b' : Bool, b = b' → Sub ((t, .bool b') :: τ) τ := by
    intro b' e u x hx
    rw [lk_cons] at hx
    by_cases hu : u = t
    · rw [if_pos hu] at hx; subst hu; rw [h, e]; exact hx
    · rw [if_neg hu] at hx; exact hx
  cases b with
  | true => exact (h1 rfl).sub (hs _ rfl)
  | false => exact (h2 rfl).sub (hs _ rfl)
/-- The guard of the operation at hand, by cases. -/
theorem AOps.guard {ops rest : List Oper} {d : Option Nat} {op : Op} {ty : TypeId} {pos : String} {aft : Array Edge} {j : Nat} {want b : Bool} {t : Nat} (hj : (ops[j]?).bind (·.dst) = some t) (h : lk τ t = some (.bool b))
    (h1 : b = want → AOps P C n ops (⟨d, op, ty, pos, aft, none⟩ :: rest) Q ((t, .bool want) :: τ) σ) (hd : dlt d n = true)
    (h2 : b = (!want) → AOps P C n ops rest Q (put ((t, .bool (!want)) :: τ) d undef) σ) : AOps P C n ops (⟨d, op, ty, pos, aft, some (j, want)⟩ :: rest) Q τ σ := by
  have g : ∀ b', gl ops ((t, .bool b') :: τ) j = some b' := by
    intro b'
    unfold gl
    cases ho : ops[j]? with
    | none => rw [ho] at hj; simp at hj
    | some o =>
      rw [ho] at hj
      simp only [Option.bind_some] at hj
      simp only [hj, lk_cons, if_true]
  refine AOps.split t h (fun hb => ?_) (fun hb => ?_)
  · cases want with
    | true => exact AOps.on (g true) (h1 hb)
    | false => exact AOps.off (b := false) (g true) hd (h2 hb)
  · cases want with
    | true => exact AOps.off (b := true) (g false) hd (h2 hb)
    | false => exact AOps.on (g false) (h1 hb)

/-- A call of a Go function with a body. -/
def args? (τ : Env) : List Operand → Option (List Value)
  | [] => some []
  | x :: r => match ev τ x, args? τ r with
    | some v, some l => some (v :: l)
    | _, _ => none
theorem args_rel {ι : Inj} {a : Act} (ht : TRel ι n τ a) : ∀ {xs : List Operand} {vs : List Value}, args? τ xs = some vs → LRel ι vs (xs.map a.eval)
  | [], vs, h => by simp only [args?] at h; injection h with h; subst h; exact .nil
  | x :: r, vs, h => by
    simp only [args?] at h
    split at h
    · rename_i v l hv hl
      injection h with h
      subst h
      exact .cons _ _ _ _ (ev_rel ht hv) (args_rel ht hl)
    · simp at h
class HasBody (P : Program) (f : FuncId) : Prop where
  out : ∃ fn, P.funcs[f]? = some fn ∧ fn.body.isNone = false ∧ (fn.name == "runtime.NumGoroutine") = false
theorem AOps.call {ops rest : List Oper} {d : Option Nat} {f : FuncId} {xs : List Operand} {ts : Array TypeId} {ty : TypeId} {pos : String} {aft : Array Edge} [hb : HasBody P f] {vs : List Value} (R : Value → AStore → Prop)
    (ha : args? τ xs = some vs) (hc : ACalls P C f vs σ R) (hd : dlt d n = true) (k : ∀ v σ', R v σ' → AOps P C n ops rest Q (put τ d v) σ') :
    AOps P C n ops (⟨d, .call ⟨.value (.func f), xs.toArray, ts⟩, ty, pos, aft, none⟩ :: rest) Q τ σ := by
  intro ι a w ht hs
  obtain ⟨fn, hf, hbody, hname⟩ := hb.out
  refine wpList_plain rfl fun K hK => ?_
  unfold Oper.wp
  have hrun : (execOp a.eval ⟨d, .call ⟨.value (.func f), xs.toArray, ts⟩, ty, pos, aft, none⟩).run P w = .ok (.enter f (xs.map a.eval).toArray) w := by
    have h1 : ¬ fn.name = "runtime.NumGoroutine" := by simpa using hname
    have h2 : ¬ fn.body = none := by intro e; rw [e] at hbody; simp at hbody
    simp [execOp, resolve, Deferred.ofValue, invoke, callFunc, hf, h1, h2, Act.eval]
  rw [hrun, Oper.upon_enter]
  refine (hc ι (xs.map a.eval) w (args_rel ht ha) hs).mono ?_
  rintro e w' ⟨v', rfl, ι', v, σ', h1, h2, h3, h4⟩
  exact hK _ _ (wpList_mono (fun _ _ _ hl => Lift.trans h1 hl) _ _ _ (k v σ' h4 ι' (a.put d v') w' ((ht.mono h1.inj).put d v v' h2 (dlt_spec hd)) h3))

/-! ### 6. A function's body -/
def ini : Nat → List Value → Env
  | _, [] => []
  | i, v :: r => (i, v) :: ini (i + 1) r
theorem lk_ini : ∀ (vs : List Value) (i t : Nat) (v : Value), lk (ini i vs) t = some v → i ≤ t ∧ vs[t - i]? = some v
  | [], i, t, v, h => by simp [ini, lk] at h
  | x :: r, i, t, v, h => by
    simp only [ini, lk_cons] at h
    by_cases ht : t = i
    · rw [if_pos ht] at h; subst ht; exact ⟨Nat.le_refl _, by simpa using h⟩
    · rw [if_neg ht] at h
      obtain ⟨h1, h2⟩ := lk_ini r (i + 1) t v h
      refine ⟨by omega, ?_⟩
      have : t - i = (t - (i + 1)) + 1 := by omega
      rw [this]; simpa using h2
/-- How a variable of a type is read: one cell, or so many as an aggregate. -/
class LD (P : Program) (t : TypeId) (m : outParam (Option Nat)) : Prop where
  out : (∀ w, (isAgg t).run P w = .ok m.isSome w) ∧ (∀ n, m = some n → ∀ w, (sizeOf t).run P w = .ok n w)
def ldm (m : Option Nat) (o : AObj) (i : Nat) : Option Value :=
  match m with
  | none => o.cells[i]?
  | some n => if i + n ≤ o.cells.length then some (.agg ((o.cells.drop i).take n).toArray) else none
theorem add_spot (b o i : Nat) : (⟨b, o, none⟩ : Addr).add i = ⟨b, o + i, none⟩ := by
  unfold Addr.add
  split
  · rename_i h; subst h; rfl
  · rfl
theorem run_loadVar {ι : Inj} {w : World} {b o i : Nat} {l : Loc} {ob : AObj} {t : TypeId} {m : Option Nat} [hm : LD P t m] {v : Value} (ho : ORel ι w ob l) (hv : ldm m ob i = some v) :
    ∃ v', (loadVar t ⟨l.blk, l.off + i, none⟩).run P w = .ok v' w ∧ VRel ι v v' := by
  obtain ⟨h1, h2⟩ := hm.out
  cases m with
  | none =>
    obtain ⟨v', hc, hr⟩ := ho.cells i v hv
    refine ⟨v', ?_, hr⟩
    simp [loadVar, h1, hc]
  | some n =>
    simp only [ldm] at hv
    split at hv
    · rename_i hle
      injection hv with hv
      subst hv
      have hex : ∀ j, j < n → ∃ v', w.cell? ((⟨l.blk, l.off + i, none⟩ : Addr).add j) = some v' ∧ ∀ x, ((ob.cells.drop i).take n)[j]? = some x → VRel ι x v' := by
        intro j hj
        have hlt : i + j < ob.cells.length := by omega
        obtain ⟨v', hc, hr⟩ := ho.cells (i + j) _ (List.getElem?_eq_getElem hlt)
        refine ⟨v', by rw [add_spot, Nat.add_assoc]; exact hc, ?_⟩
        intro x hx
        rw [List.getElem?_take, if_pos hj, List.getElem?_drop, List.getElem?_eq_getElem hlt] at hx
        injection hx with hx
        rw [← hx]; exact hr
      let f : Nat → Value := fun j => if h : j < n then Classical.choose (hex j h) else undef
      have hf : ∀ j, j < n → w.cell? ((⟨l.blk, l.off + i, none⟩ : Addr).add j) = some (f j) := by
        intro j hj
        simp only [f, dif_pos hj]
        exact (Classical.choose_spec (hex j hj)).1
      refine ⟨.agg ((List.range n).map f).toArray, ?_, ?_⟩
      · have h3 := run_loadCells (P := P) w _ n f hf
        simp [loadVar, h1, h2 n rfl, h3]
      · refine .agg _ _ (LRel.of_get (by simp; omega) ?_)
        intro j x x' hx hx'
        have hj : j < n := by
          have h := (List.getElem?_eq_some_iff.1 hx).1
          simp at h; omega
        simp [hj] at hx'
        subst hx'
        simp only [f, dif_pos hj]
        exact (Classical.choose_spec (hex j hj)).2 x (by simpa using hx)
    · simp at hv

/-- What a function's end hands back. -/
inductive ARes (P : Program) (τ : Env) (σ : AStore) : List ResultVar → List Value → Prop
  | nil : ARes P τ σ [] []
  | tmp {t : Nat} {r : List ResultVar} {v : Value} {vs : List Value} (h : lk τ t = some v) (hr : ARes P τ σ r vs) : ARes P τ σ (.tmp t :: r) (v :: vs)
  | cell {x : Nat} {t : TypeId} {m : Option Nat} [LD P t m] {r : List ResultVar} {b o : Nat} {ob : AObj} {v : Value} {vs : List Value} (h : lk τ x = some (.pointer (some ⟨b, o, none⟩))) (hb : σ.get b = some ob)
      (hv : ldm m ob o = some v) (hr : ARes P τ σ r vs) : ARes P τ σ (.cell x t :: r) (v :: vs)
def rval : List Value → Value
  | [v] => v
  | l => .tuple l.toArray

def resv (a : Act) : ResultVar → Sem Value
  | .tmp t => Pure.pure (a.tmps.getD t undef)
  | .cell x t => do loadVar t (← asAddr (a.tmps.getD x undef))
theorem run_results {fn : Func} {ι : Inj} {a : Act} (ht : TRel ι n τ a) {vs : List Value} {w : World} (hs : SRel C ι σ w) (h : ARes P τ σ fn.results.toList vs) :
    ∃ v', (results fn a.tmps).run P w = .ok v' w ∧ VRel ι (rval vs) v' := by
  have key : ∀ (rs : List ResultVar) (vs : List Value), ARes P τ σ rs vs → ∃ vs', (rs.mapM (resv a)).run P w = .ok vs' w ∧ LRel ι vs vs' := by
    intro rs vs h
    induction h with
    | nil => exact ⟨[], by simp, .nil⟩
    | @tmp t r v vs h hr ih =>
      obtain ⟨vs', h1, h2⟩ := ih
      refine ⟨a.tmps.getD t undef :: vs', ?_, .cons _ _ _ _ (ht.val t v h).2 h2⟩
      rw [List.mapM_cons, Sem.run_bind]
      simp only [resv, Sem.run_pure, Result.andThen_ok, Sem.run_bind]
      rw [h1]; rfl
    | @cell x t m _ r b o ob v vs h hb hv hr ih =>
      obtain ⟨vs', h1, h2⟩ := ih
      obtain ⟨l, hl, ho⟩ := hs.obj b ob hb
      obtain ⟨v', h3, h4⟩ := run_loadVar (P := P) (b := b) (o := o) (t := t) ho hv
      have hx := (ht.val x _ h).2
      generalize hz : a.tmps.getD x undef = z at hx
      cases hx with
      | ptr _ _ l' hl' =>
        rw [hl] at hl'
        injection hl' with hl'
        subst hl'
        refine ⟨v' :: vs', ?_, .cons _ _ _ _ h4 h2⟩
        rw [List.mapM_cons, Sem.run_bind]
        simp only [resv, hz, asAddr, Sem.run_bind, Sem.run_pure, Result.andThen_ok, h3]
        rw [h1]; rfl
  obtain ⟨vs', h1, h2⟩ := key _ _ h
  have hr : (results fn a.tmps).run P w = .ok (if h : vs'.toArray.size = 1 then vs'.toArray[0] else .tuple vs'.toArray) w := by
    have e : results fn a.tmps = (do let vs ← fn.results.mapM (resv a); Pure.pure (if h : vs.size = 1 then vs[0] else .tuple vs)) := rfl
    rw [e, Sem.run_bind, Array.mapM_eq_mapM_toList, Sem.run_map, h1]
    rfl
  refine ⟨_, hr, ?_⟩
  have hl := h2.length
  match vs, vs', h2, hl with
  | [], [], h2, _ => exact .tuple _ _ .nil
  | [v], [v'], .cons _ _ _ _ h _, _ => simpa [rval] using h
  | v :: u :: l, v' :: u' :: l', h2, _ => simpa [rval] using VRel.tuple _ _ h2

def BodyQ (P : Program) (rs : List ResultVar) (R : Value → AStore → Prop) : Exit → Env → AStore → Prop
  | .normal, τ, σ | .ret, τ, σ => ∃ vs, ARes P τ σ rs vs ∧ R (rval vs) σ
  | _, _, _ => False
theorem ACalls.enter {f : FuncId} {fn : Func} {c : Code} {args : List Value} {R : Value → AStore → Prop} {N : Nat} {rs : List ResultVar} {τ : Env} (hf : P.funcs[f]? = some fn) (hN : fn.ntmps = N) (hb : fn.body = some c) (hr : fn.results.toList = rs) (hn : Nat.ble args.length N = true) (hi : ini 0 args = τ)
    (h : AWp P C N c (BodyQ P rs R) τ σ) : ACalls P C f args σ R := by
  subst hN; subst hr; subst hi
  have hn := Nat.le_of_ble_eq_true hn
  intro ι args' w ha hs
  refine calls_of_wp hf hb ?_
  have hl := ha.length
  have ht : TRel ι fn.ntmps (ini 0 args) { tmps := args'.toArray ++ Array.replicate (fn.ntmps - args'.toArray.size) undef, defers := [] } := by
    refine ⟨by simp; omega, ?_, rfl⟩
    intro t v hv
    obtain ⟨_, h2⟩ := lk_ini _ _ _ _ hv
    simp only [Nat.sub_zero] at h2
    obtain ⟨v', h3, h4⟩ := ha.get t v h2
    have hlt : t < args'.length := (List.getElem?_eq_some_iff.1 h3).1
    refine ⟨by omega, ?_⟩
    have : (args'.toArray ++ Array.replicate (fn.ntmps - args'.toArray.size) undef).getD t undef = v' := by
      rw [Array.getD_eq_getD_getElem?, Array.getElem?_append]
      have := (List.getElem?_eq_some_iff.1 h3).2
      simpa [hlt] using this
    show VRel ι v ((args'.toArray ++ Array.replicate (fn.ntmps - args'.toArray.size) undef).getD t undef)
    rw [this]; exact h4
  refine wp_mono (h ι _ w ht hs) ?_
  rintro e a1 w1 ⟨ι1, τ1, σ1, h1, h2, h3, h4⟩
  cases e with
  | normal =>
    obtain ⟨vs, g1, g2⟩ := h4
    obtain ⟨v', g3, g4⟩ := run_results (P := P) (fn := fn) h2 h3 g1
    exact ⟨h2.defers, v', g3, v', rfl, ι1, _, σ1, h1, g4, h3, g2⟩
  | ret =>
    obtain ⟨vs, g1, g2⟩ := h4
    obtain ⟨v', g3, g4⟩ := run_results (P := P) (fn := fn) h2 h3 g1
    exact ⟨h2.defers, v', g3, v', rfl, ι1, _, σ1, h1, g4, h3, g2⟩
  | exit id => exact h4.elim
  | goto l => exact h4.elim
  | panic ch => exact h4.elim
  | outgrown => exact h4.elim
end

attribute [irreducible] AOps AWp ACalls

end Go.AM
