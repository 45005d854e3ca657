/-
  The abstract store logic: the operations' laws as rules for the rest of a region.
-/
import Derived.Test.YtimjbcmlchbhlaaAmMem5
set_option linter.unusedVariables false
namespace Go.AM
open Go Go.RowKit
section
variable {P : Program} {C : World} {n : Nat} {Q : Exit → Env → AStore → Prop} {τ : Env} {σ : AStore} {ops rest : List Oper} {ty : TypeId} {pos : String} {aft : Array Edge} {d : Option Nat}
theorem A.load {x : Operand} {t : TypeId} {m : Option Nat} [LD P t m] {b o : Nat} {ob : AObj} {v : Value} (hx : ev τ x = some (.pointer (some ⟨b, o, none⟩))) (hb : σ.get b = some ob) (hv : ldm m ob o = some v) (hd : dlt d n = true)
    (k : AOps P C n ops rest Q (put τ d v) σ) : AOps P C n ops (⟨d, .load t x, ty, pos, aft, none⟩ :: rest) Q τ σ := AOps.step rfl (OpOK.load hx hb hv) hd k
theorem A.store {x y : Operand} {t : TypeId} {sz : Nat} [SZ P t sz] {b o : Nat} {ob : AObj} {v : Value} (hx : ev τ x = some (.pointer (some ⟨b, o, none⟩))) (hy : ev τ y = some v) (hb : σ.get b = some ob) (ho : ob.own = true)
    (hc : (scells v).all cell1 = true) (hn : (scells v).length = sz) (hle : o + sz ≤ ob.cells.length) (hd : dlt d n = true)
    (k : AOps P C n ops rest Q (put τ d undef) (σ.set b { ob with cells := setMany ob.cells o (scells v) })) : AOps P C n ops (⟨d, .store t x y, ty, pos, aft, none⟩ :: rest) Q τ σ := AOps.step rfl (OpOK.store hx hy hb ho hc hn hle) hd k
theorem A.alloc {t : TypeId} {z : Value} [hz : ZV P t z] (hd : dlt d n = true)
    (k : AOps P C n ops rest Q (put τ d (.pointer (some ⟨σ.next, 0, none⟩))) (σ.alloc ⟨scells z, t, 0, true⟩)) : AOps P C n ops (⟨d, .alloc t, ty, pos, aft, none⟩ :: rest) Q τ σ := AOps.step rfl (OpOK.alloc ) hd k
theorem A.box {t : TypeId} {x : Operand} {v : Value} (hx : ev τ x = some v) (hd : dlt d n = true)
    (k : AOps P C n ops rest Q (put τ d (.pointer (some ⟨σ.next, 0, none⟩))) (σ.alloc ⟨scells v, t, 0, true⟩)) : AOps P C n ops (⟨d, .box t x, ty, pos, aft, none⟩ :: rest) Q τ σ := AOps.step rfl (OpOK.box hx) hd k
theorem A.build {t : TypeId} {z : List Value} {pl : List (Nat × Nat)} [hb : BD P t z pl] {xs : List (Nat × Operand)} {ps : List (Nat × Value)} {r : List Value} (hx : parts? τ xs = some ps) (hf : afill (fun i => pl[i]?) z ps = some r) (hd : dlt d n = true)
    (k : AOps P C n ops rest Q (put τ d (.agg r.toArray)) σ) : AOps P C n ops (⟨d, .build t xs.toArray, ty, pos, aft, none⟩ :: rest) Q τ σ := AOps.pure rfl (PureOK.build hx hf) hd k
theorem A.buildSlice {t e : TypeId} {z : List Value} {sz len : Nat} [hu : UL P t (.slice e)] [hz : ZE P e sz z] {xs : List (Nat × Operand)} {ps : List (Nat × Value)} {r : List Value} (hx : parts? τ xs = some ps) (hlen : len * sz ≤ 16777216)
    (hf : afill (fun i => some (i * sz, sz)) (zrow z len) ps = some r) (hd : dlt d n = true)
    (k : AOps P C n ops rest Q (put τ d (.slice (some ⟨σ.next, 0, none⟩) len len)) (σ.alloc ⟨r, e, sz, true⟩)) : AOps P C n ops (⟨d, .buildSlice t len xs.toArray, ty, pos, aft, none⟩ :: rest) Q τ σ := AOps.step rfl (OpOK.buildSlice hx hlen hf) hd k
theorem A.append {x y : Operand} {t u e : TypeId} {sz bytes : Nat} [UL P t (.slice e)] [AU P u] [he : EL P e sz bytes] [hzs : ZS P e sz] {b ln c m : Nat} {ob : AObj} {v : Value} {xs : List Value}
    (hx : ev τ x = some (.slice (some ⟨b, 0, none⟩) ln c)) (hy : ev τ y = some v) (hb : σ.get b = some ob) (ho : ob.own = true) (hesz : ob.esz = sz) (hel : ob.elem = e) (hle : ln * sz ≤ ob.cells.length) (hsrc : Src σ sz v m xs) (hc1 : xs.all cell1 = true)
    (hbd : (ln + m) * bytes ≤ 140737488355328) (hbd0 : ln + m ≤ 9223372036854775807) (hd : dlt d n = true)
    (k : AOps P C n ops rest Q (put τ d (.slice (some ⟨σ.next, 0, none⟩) (ln + m) unk)) ((σ.del b).alloc ⟨ob.cells.take (ln * sz) ++ xs, e, sz, true⟩)) : AOps P C n ops (⟨d, .call ⟨.builtin .append, #[x, y], #[t, u]⟩, ty, pos, aft, none⟩ :: rest) Q τ σ := AOps.step rfl (OpOK.append hx hy hb ho hesz hel hle hsrc hc1 hbd hbd0) hd k
theorem A.append_nil {x y : Operand} {t u e : TypeId} {sz bytes : Nat} [UL P t (.slice e)] [AU P u] [he : EL P e sz bytes] [hzs : ZS P e sz] {m : Nat} {v : Value} {xs : List Value}
    (hx : ev τ x = some (.slice none 0 0)) (hy : ev τ y = some v) (hsrc : Src σ sz v m xs) (h0 : 0 < m) (hbd : m * bytes ≤ 140737488355328) (hbd0 : m ≤ 9223372036854775807) (hd : dlt d n = true)
    (k : AOps P C n ops rest Q (put τ d (.slice (some ⟨σ.next, 0, none⟩) m unk)) (σ.alloc ⟨xs, e, sz, true⟩)) : AOps P C n ops (⟨d, .call ⟨.builtin .append, #[x, y], #[t, u]⟩, ty, pos, aft, none⟩ :: rest) Q τ σ := AOps.step rfl (OpOK.append_nil hx hy hsrc h0 hbd hbd0) hd k
theorem A.append_nil0 {x y : Operand} {t u e : TypeId} {sz bytes : Nat} [UL P t (.slice e)] [AU P u] [he : EL P e sz bytes] {v : Value} {xs : List Value}
    (hx : ev τ x = some (.slice none 0 0)) (hy : ev τ y = some v) (hsrc : Src σ sz v 0 xs) (hd : dlt d n = true)
    (k : AOps P C n ops rest Q (put τ d (.slice none 0 0)) σ) : AOps P C n ops (⟨d, .call ⟨.builtin .append, #[x, y], #[t, u]⟩, ty, pos, aft, none⟩ :: rest) Q τ σ := AOps.step rfl (OpOK.append_nil0 hx hy hsrc) hd k
theorem A.append_cap0 {x y : Operand} {t u e : TypeId} {sz bytes : Nat} [UL P t (.slice e)] [AU P u] [he : EL P e sz bytes] [hzs : ZS P e sz] {m : Nat} {a0 : Addr} {v : Value} {xs : List Value}
    (hx : ev τ x = some (.slice (some a0) 0 0)) (hy : ev τ y = some v) (hsrc : Src σ sz v m xs) (h0 : 0 < m) (hbd : m * bytes ≤ 140737488355328) (hbd0 : m ≤ 9223372036854775807) (hd : dlt d n = true)
    (k : AOps P C n ops rest Q (put τ d (.slice (some ⟨σ.next, 0, none⟩) m unk)) (σ.alloc ⟨xs, e, sz, true⟩)) : AOps P C n ops (⟨d, .call ⟨.builtin .append, #[x, y], #[t, u]⟩, ty, pos, aft, none⟩ :: rest) Q τ σ := AOps.step rfl (OpOK.append_cap0 hx hy hsrc h0 hbd hbd0) hd k
theorem A.append_cap00 {x y : Operand} {t u e : TypeId} {sz bytes : Nat} [UL P t (.slice e)] [AU P u] [he : EL P e sz bytes] {a0 : Addr} {v : Value} {xs : List Value}
    (hx : ev τ x = some (.slice (some a0) 0 0)) (hy : ev τ y = some v) (hsrc : Src σ sz v 0 xs) (hd : dlt d n = true)
    (k : AOps P C n ops rest Q (put τ d (.slice (some a0) 0 0)) σ) : AOps P C n ops (⟨d, .call ⟨.builtin .append, #[x, y], #[t, u]⟩, ty, pos, aft, none⟩ :: rest) Q τ σ := AOps.step rfl (OpOK.append_cap00 hx hy hsrc) hd k
theorem A.makeSlice {t e : TypeId} {z : List Value} {sz bytes : Nat} [UL P t (.slice e)] [he : EL P e sz bytes] [hz : ZE P e sz z] {x y : Operand} {k k' : IntKind} {m c : Int} (hx : ev τ x = some (.int k m)) (hy : ev τ y = some (.int k' c))
    (h0 : 0 ≤ m ∧ m ≤ c) (hbd : c * bytes ≤ 281474976710656) (hbd0 : c ≤ 9223372036854775807) (hd : dlt d n = true)
    (k : AOps P C n ops rest Q (put τ d (.slice (some ⟨σ.next, 0, none⟩) m.toNat c.toNat)) (σ.alloc ⟨zrow z m.toNat, e, sz, true⟩)) : AOps P C n ops (⟨d, .makeSlice t x y, ty, pos, aft, none⟩ :: rest) Q τ σ := AOps.step rfl (OpOK.makeSlice hx hy h0 hbd hbd0) hd k
theorem A.copy {x y : Operand} {t u e : TypeId} {sz bytes : Nat} [UL P t (.slice e)] [he : EL P e sz bytes] {b o ln c m : Nat} {ob : AObj} {v : Value} {xs : List Value}
    (hx : ev τ x = some (.slice (some ⟨b, o, none⟩) ln c)) (hy : ev τ y = some v) (hb : σ.get b = some ob) (ho : ob.own = true) (hle : o + ln * sz ≤ ob.cells.length) (hsrc : Src σ sz v m xs) (hc1 : xs.all cell1 = true) (hd : dlt d n = true)
    (k : AOps P C n ops rest Q (put τ d (.int .i64 (Nat.min m ln))) (σ.set b { ob with cells := setMany ob.cells o (xs.take (Nat.min m ln * sz)) })) : AOps P C n ops (⟨d, .call ⟨.builtin .copy, #[x, y], #[t, u]⟩, ty, pos, aft, none⟩ :: rest) Q τ σ := AOps.step rfl (OpOK.copy hx hy hb ho hle hsrc hc1) hd k
theorem A.toBytes {x : Operand} {l : List UInt8} {s t e : TypeId} [UL P s .string] [UL P t (.slice e)] [he : UL P e (.int .u8)] (hx : ev τ x = some (.string (B l))) (hd : dlt d n = true)
    (k : AOps P C n ops rest Q (put τ d (.slice (some ⟨σ.next, 0, none⟩) l.length unk)) (σ.alloc ⟨bys l, e, 1, true⟩)) : AOps P C n ops (⟨d, .convert s t x, ty, pos, aft, none⟩ :: rest) Q τ σ := AOps.step rfl (OpOK.toBytes hx) hd k
theorem A.ofBytes {x : Operand} {b o ln c : Nat} {ob : AObj} {l : List UInt8} {s t e : TypeId} [hs : UL P s (.slice e)] [he : UL P e (.int .u8)] [ht : UL P t .string] (hx : ev τ x = some (.slice (some ⟨b, o, none⟩) ln c)) (hb : σ.get b = some ob)
    (hl : (ob.cells.drop o).take ln = bys l) (hle : o + ln ≤ ob.cells.length) (hd : dlt d n = true)
    (k : AOps P C n ops rest Q (put τ d (.string (B l))) σ) : AOps P C n ops (⟨d, .convert s t x, ty, pos, aft, none⟩ :: rest) Q τ σ := AOps.step rfl (OpOK.ofBytes hx hb hl hle) hd k
theorem A.ofBytes_nil {x : Operand} {s t e : TypeId} [hs : UL P s (.slice e)] [he : UL P e (.int .u8)] [ht : UL P t .string] (hx : ev τ x = some (.slice none 0 0)) (hd : dlt d n = true)
    (k : AOps P C n ops rest Q (put τ d (.string (B []))) σ) : AOps P C n ops (⟨d, .convert s t x, ty, pos, aft, none⟩ :: rest) Q τ σ := AOps.pure rfl (PureOK.ofBytes_nil hx) hd k
theorem A.cut_b {x q : Operand} {b o ln c : Nat} {ob : AObj} {t e : TypeId} {sz : Nat} {k : IntKind} {m : Int} [hu : UL P t (.slice e)] [hz : ES P t e sz] (hx : ev τ x = some (.slice (some ⟨b, o, none⟩) ln c)) (hq : ev τ q = some (.int k m)) (hb : σ.get b = some ob) (hesz : ob.esz = 0 ∨ ob.esz = sz)
    (h : 0 ≤ m ∧ m ≤ ln) (hd : dlt d n = true)
    (k : AOps P C n ops rest Q (put τ d (.slice (some ⟨b, o, none⟩) m.toNat c)) σ) : AOps P C n ops (⟨d, .slice t x none (some q) none, ty, pos, aft, none⟩ :: rest) Q τ σ := AOps.step rfl (OpOK.cut_b hx hq hb hesz h) hd k
theorem A.cut_a {x p : Operand} {b o ln c : Nat} {ob : AObj} {t e : TypeId} {sz : Nat} {k : IntKind} {m : Int} [hu : UL P t (.slice e)] [hz : ES P t e sz] (hx : ev τ x = some (.slice (some ⟨b, o, none⟩) ln c)) (hp : ev τ p = some (.int k m)) (hb : σ.get b = some ob) (hesz : ob.esz = 0 ∨ ob.esz = sz)
    (h : 0 ≤ m ∧ m ≤ ln) (hd : dlt d n = true)
    (k : AOps P C n ops rest Q (put τ d (.slice (some ⟨b, o + m.toNat * sz, none⟩) (ln - m.toNat) (if c = unk then unk else c - m.toNat))) σ) : AOps P C n ops (⟨d, .slice t x (some p) none none, ty, pos, aft, none⟩ :: rest) Q τ σ := AOps.step rfl (OpOK.cut_a hx hp hb hesz h) hd k
theorem A.cut_ab {x p q : Operand} {b o ln c : Nat} {ob : AObj} {t e : TypeId} {sz : Nat} {k k' : IntKind} {m m' : Int} [hu : UL P t (.slice e)] [hz : ES P t e sz] (hx : ev τ x = some (.slice (some ⟨b, o, none⟩) ln c)) (hp : ev τ p = some (.int k m)) (hq : ev τ q = some (.int k' m')) (hb : σ.get b = some ob) (hesz : ob.esz = 0 ∨ ob.esz = sz)
    (h : 0 ≤ m ∧ m ≤ m' ∧ m' ≤ ln) (hd : dlt d n = true)
    (k : AOps P C n ops rest Q (put τ d (.slice (some ⟨b, o + m.toNat * sz, none⟩) (m'.toNat - m.toNat) (if c = unk then unk else c - m.toNat))) σ) : AOps P C n ops (⟨d, .slice t x (some p) (some q) none, ty, pos, aft, none⟩ :: rest) Q τ σ := AOps.step rfl (OpOK.cut_ab hx hp hq hb hesz h) hd k
theorem A.cut00 {x p q : Operand} {ad : Addr} {ln c : Nat} {k k' : IntKind} {t e : TypeId} {sz : Nat} [hu : UL P t (.slice e)] [hz : ES P t e sz] (hx : ev τ x = some (.slice (some ad) ln c)) (hp : ev τ p = some (.int k 0)) (hq : ev τ q = some (.int k' 0)) (hd : dlt d n = true)
    (k : AOps P C n ops rest Q (put τ d (.slice (some ad) 0 0)) σ) : AOps P C n ops (⟨d, .slice t x none (some p) (some q), ty, pos, aft, none⟩ :: rest) Q τ σ := AOps.pure rfl (PureOK.cut00 hx hp hq) hd k
theorem A.cutnil {x q : Operand} {k : IntKind} {t e : TypeId} {sz : Nat} [hu : UL P t (.slice e)] [hz : ES P t e sz] (hx : ev τ x = some (.slice none 0 0)) (hq : ev τ q = some (.int k 0)) (hd : dlt d n = true)
    (k : AOps P C n ops rest Q (put τ d (.slice none 0 0)) σ) : AOps P C n ops (⟨d, .slice t x none (some q) none, ty, pos, aft, none⟩ :: rest) Q τ σ := AOps.pure rfl (PureOK.cutnil hx hq) hd k
theorem A.slnil {x y : Operand} {o : Option Addr} {a b : Nat} {t t' e : TypeId} [hu : UL P t (.slice e)] (hx : ev τ x = some (.slice o a b)) (hy : ev τ y = some (.slice none 0 0)) (hd : dlt d n = true)
    (k : AOps P C n ops rest Q (put τ d (.bool o.isNone)) σ) : AOps P C n ops (⟨d, .binOp .eql t x y t', ty, pos, aft, none⟩ :: rest) Q τ σ := AOps.pure rfl (PureOK.slnil hx hy) hd k
theorem A.slnil_ne {x y : Operand} {o : Option Addr} {a b : Nat} {t t' e : TypeId} [hu : UL P t (.slice e)] (hx : ev τ x = some (.slice o a b)) (hy : ev τ y = some (.slice none 0 0)) (hd : dlt d n = true)
    (k : AOps P C n ops rest Q (put τ d (.bool (!o.isNone))) σ) : AOps P C n ops (⟨d, .binOp .neq t x y t', ty, pos, aft, none⟩ :: rest) Q τ σ := AOps.pure rfl (PureOK.slnil_ne hx hy) hd k
theorem A.ptrnil {x y : Operand} {o : Option Addr} {t t' e : TypeId} [hu : UL P t (.pointer e)] (hx : ev τ x = some (.pointer o)) (hy : ev τ y = some (.pointer none)) (hd : dlt d n = true)
    (k : AOps P C n ops rest Q (put τ d (.bool o.isNone)) σ) : AOps P C n ops (⟨d, .binOp .eql t x y t', ty, pos, aft, none⟩ :: rest) Q τ σ := AOps.pure rfl (PureOK.ptrnil hx hy) hd k
theorem A.ptrnil_ne {x y : Operand} {o : Option Addr} {t t' e : TypeId} [hu : UL P t (.pointer e)] (hx : ev τ x = some (.pointer o)) (hy : ev τ y = some (.pointer none)) (hd : dlt d n = true)
    (k : AOps P C n ops rest Q (put τ d (.bool (!o.isNone))) σ) : AOps P C n ops (⟨d, .binOp .neq t x y t', ty, pos, aft, none⟩ :: rest) Q τ σ := AOps.pure rfl (PureOK.ptrnil_ne hx hy) hd k
end
end Go.AM
