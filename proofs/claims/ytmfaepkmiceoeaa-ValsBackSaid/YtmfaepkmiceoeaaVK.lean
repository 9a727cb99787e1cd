/- A small machine over an abstract heap: an operation without a slot in a drawn region, behind which others are read again. -/
import Derived.Test.YtmfaepkmiceoeaaVJ
namespace Go.Vm
set_option linter.unusedVariables false
section
variable {P : Program} {T : Table} {ts ts' : List Value} {ds : List Deferred} {h h' : Heap} {rd : Option Nat} {op : AOp} {v : Value} {d : Nat} {chk : List (Option Nat × AOp × Option (Nat × Bool))} {pan : Bool} {rest : List AOper} {Q : QP} {F : Value → List Value}
end
end Go.Vm

/- A small machine over an abstract heap: the machine's steps as far as they go. -/
namespace Go.Vm
structure Then (q : Prop) : Prop where
  ok : q
theorem stp {p q : Prop} (hq : q) (h : Then q → p := by (intro hq; (repeat (first | refine O.how (XOp.addI (by omega)) ?_ | refine O.how (XOp.subI (by omega)) ?_ | refine O.how (XOp.convI (by omega)) ?_ | refine O.how (XOp.convU64 (by omega)) ?_ | refine O.how (XOp.convU8 (by omega)) ?_ | refine O.one ?_ | refine O.nil ?_ | refine C.next ?_ | refine RunC.seq ?_ | refine RunC.region ?_ | refine RunC.block ?_ | refine RunC.skip ?_ | refine RunC.exit ?_ | refine RunC.ret ?_ | refine RunC.regionD ?_ | refine D.how (XOp.addI (by omega)) rfl ?_ | refine D.how (XOp.subI (by omega)) rfl ?_ | refine D.how (XOp.convI (by omega)) rfl ?_ | refine D.one rfl ?_ | refine D.nil ?_ | refine O.one0 ?_ | refine D.one0 rfl ?_ | refine D.one0s ?_ | refine C.nextB ?_ | refine C.exit2 ?_ | refine C.exitB ?_ | refine C.retB ?_ | refine C.ret2 ?_ | refine loopQ.exit ?_ | refine loopQ.ret ?_ | refine C.exitN (by decide) ?_ | refine O.howT (XOp.mkIndexSl (by omega)) ?_ | refine O.howT (XOp.mkIndexArr (by omega)) ?_ | refine O.howT (XOp.addI (by omega)) ?_ | refine O.howT (XOp.subI (by omega)) ?_ | refine O.oneT ?_ | refine O.skT ?_ | refine O.skF ?_ | refine O.skU ?_ | refine D.howT (XOp.addI (by omega)) rfl ?_ | refine D.howT (XOp.subI (by omega)) rfl ?_ | refine D.oneT rfl ?_ | refine D.skT rfl ?_ | refine D.skF rfl ?_ | refine D.skU rfl ?_ | refine C.ifT ?_ | refine C.ifF ?_ | refine B.ret ?_ | refine B.deferred ?_ | refine B.deferredP ?_ | refine O.defer0 ?_ | refine B.end ?_ | refine O.panic ?_ | refine C.pan2 ?_ | refine C.panB ?_ | refine loopQ.panic ?_ | refine B.panic ?_ | refine O.how (XOp.mkIndexArr (by omega)) ?_ | refine O.how (XOp.mkIndexSl (by omega)) ?_ | refine D.how (XOp.mkIndexArr (by omega)) rfl ?_ | refine D.how (XOp.mkIndexSl (by omega)) rfl ?_)); exact hq.ok)) : p := h ⟨hq⟩
theorem stpP {p q : Prop} (hq : q) (h : Then q → p := by (intro hq; (repeat (first | refine O.how (XOp.addI (by omega)) ?_ | refine O.how (XOp.subI (by omega)) ?_ | refine O.how (XOp.convI (by omega)) ?_ | refine O.how (XOp.convU64 (by omega)) ?_ | refine O.how (XOp.convU8 (by omega)) ?_ | refine O.one ?_ | refine O.nil ?_ | refine C.next ?_ | refine RunC.seq ?_ | refine RunC.region ?_ | refine RunC.block ?_ | refine RunC.skip ?_ | refine RunC.exit ?_ | refine RunC.ret ?_ | refine RunC.regionD ?_ | refine D.how (XOp.addI (by omega)) rfl ?_ | refine D.how (XOp.subI (by omega)) rfl ?_ | refine D.how (XOp.convI (by omega)) rfl ?_ | refine D.one rfl ?_ | refine D.nil ?_ | refine O.one0 ?_ | refine D.one0 rfl ?_ | refine D.one0s ?_ | refine C.nextB ?_ | refine C.exit2 ?_ | refine C.exitB ?_ | refine C.retB ?_ | refine C.ret2 ?_ | refine loopQ.exit ?_ | refine loopQ.ret ?_ | refine C.exitN (by decide) ?_ | refine O.howT (XOp.mkIndexSl (by omega)) ?_ | refine O.howT (XOp.mkIndexArr (by omega)) ?_ | refine O.howT (XOp.addI (by omega)) ?_ | refine O.howT (XOp.subI (by omega)) ?_ | refine O.oneT ?_ | refine O.skT ?_ | refine O.skF ?_ | refine O.skU ?_ | refine D.howT (XOp.addI (by omega)) rfl ?_ | refine D.howT (XOp.subI (by omega)) rfl ?_ | refine D.oneT rfl ?_ | refine D.skT rfl ?_ | refine D.skF rfl ?_ | refine D.skU rfl ?_ | refine C.ifT ?_ | refine C.ifF ?_ | refine B.ret ?_ | refine B.end ?_ | refine O.how (XOp.mkIndexArr (by omega)) ?_ | refine O.how (XOp.mkIndexSl (by omega)) ?_ | refine D.how (XOp.mkIndexArr (by omega)) rfl ?_ | refine D.how (XOp.mkIndexSl (by omega)) rfl ?_)); exact hq.ok)) : p := h ⟨hq⟩
theorem stpDP {p q : Prop} (hq : q) (h : Then q → p := by (intro hq; (repeat (first | refine O.how (XOp.addI (by omega)) ?_ | refine O.how (XOp.subI (by omega)) ?_ | refine O.how (XOp.convI (by omega)) ?_ | refine O.how (XOp.convU64 (by omega)) ?_ | refine O.how (XOp.convU8 (by omega)) ?_ | refine O.one ?_ | refine O.nil ?_ | refine C.next ?_ | refine RunC.seq ?_ | refine RunC.region ?_ | refine RunC.block ?_ | refine RunC.skip ?_ | refine RunC.exit ?_ | refine RunC.ret ?_ | refine O.one0 ?_ | refine C.nextB ?_ | refine C.exit2 ?_ | refine C.exitB ?_ | refine C.retB ?_ | refine C.ret2 ?_ | refine loopQ.exit ?_ | refine loopQ.ret ?_ | refine C.exitN (by decide) ?_ | refine O.howT (XOp.mkIndexSl (by omega)) ?_ | refine O.howT (XOp.mkIndexArr (by omega)) ?_ | refine O.howT (XOp.addI (by omega)) ?_ | refine O.howT (XOp.subI (by omega)) ?_ | refine O.oneT ?_ | refine O.skT ?_ | refine O.skF ?_ | refine O.skU ?_ | refine C.ifT ?_ | refine C.ifF ?_ | refine B.ret ?_ | refine B.end ?_ | refine O.how (XOp.mkIndexArr (by omega)) ?_ | refine O.how (XOp.mkIndexSl (by omega)) ?_)); exact hq.ok)) : p := h ⟨hq⟩
theorem dstp {p q : Prop} (hq : q) (h : Then q → p := by (intro hq; (repeat (first | refine S.one ?_ | refine S.nil ?_ | refine S.next ?_ | refine RunT.seq ?_ | refine RunT.region ?_ | refine RunT.skip ?_ | refine RunT.ret ?_ | refine S.one0 ?_ | refine S.rec rfl ?_ | refine S.ifT ?_ | refine S.ifF ?_ | refine S.panic ?_ | refine thenT.ret ?_ | refine thenT.panic ?_ | refine S.end ?_ | refine S.ret ?_)); exact hq.ok)) : p := h ⟨hq⟩
end Go.Vm

/- A small machine over an abstract heap: words of 32 bits. -/
set_option linter.unusedSimpArgs false
set_option linter.unusedVariables false
namespace Go.Vm
open Go.IntWalk
def wcells (l : List UInt32) : List Value := l.map fun w => .int .u32 (w.toNat : Nat)
theorem wcells_len (l : List UInt32) : (wcells l).length = l.length := by simp [wcells]
theorem wcells_get : ∀ {l : List UInt32} {i : Nat}, i < l.length → lget (wcells l) i = .int .u32 ((l.getD i 0).toNat : Nat)
  | [], i, h => by simp at h
  | w :: l, 0, _ => rfl
  | w :: l, i + 1, h => by
    show lget (wcells l) i = _
    rw [wcells_get (by simpa using h)]
    simp
theorem wcells_set : ∀ {l : List UInt32} {i : Nat} {w : UInt32}, i < l.length → over (wcells l) i [.int .u32 (w.toNat : Nat)] = wcells (l.set i w)
  | [], i, w, h => by simp at h
  | v :: l, 0, w, _ => by
    show _ :: over (wcells l) 0 [] = _
    rw [over_nil]; rfl
  | v :: l, i + 1, w, h => by
    show _ :: over (wcells l) i _ = _
    rw [wcells_set (by simpa using h)]; rfl
class WIx (l : List UInt32) (i : Nat) : Prop where
  lt : i < l.length
instance {l : List UInt32} {i j : Nat} {w : UInt32} [h : WIx l i] : WIx (l.set j w) i := ⟨by simpa using h.lt⟩
instance (priority := 2000) {l : List UInt32} {i : Nat} [h : WIx l i] : CGet (wcells l) i (.int .u32 ((l.getD i 0).toNat : Nat)) := ⟨wcells_get h.lt, by rw [wcells_len]; exact h.lt⟩
instance (priority := 2000) {l : List UInt32} {i : Nat} {w : UInt32} [h : WIx l i] : Over (wcells l) i [.int .u32 (w.toNat : Nat)] (wcells (l.set i w)) := ⟨by rw [wcells_len]; have := h.lt; simp; omega, wcells_set h.lt⟩
theorem u32_nat (n : Nat) : IntKind.u32.wrap (n : Int) = ((n % 4294967296 : Nat) : Int) := by rw [IntKind.wrap_u32]; omega
theorem u32_lt (a : UInt32) : a.toNat < 4294967296 := a.toNat_lt
theorem u32_bv (a : UInt32) : BitVec.ofInt 32 (a.toNat : Int) = a.toBitVec := by
  rw [BitVec.ofInt_natCast]
  apply BitVec.eq_of_toNat_eq
  rw [BitVec.toNat_ofNat, Nat.mod_eq_of_lt (by have := u32_lt a; simpa using this)]
  rfl
theorem u32_add (a b : UInt32) : IntKind.u32.wrap ((a.toNat : Int) + (b.toNat : Int)) = ((a + b).toNat : Nat) := by
  rw [show ((a.toNat : Int) + (b.toNat : Int)) = ((a.toNat + b.toNat : Nat) : Int) from by omega, u32_nat, UInt32.toNat_add]
theorem u32_xor (a b : UInt32) : IntKind.u32.wrap ((BitVec.ofInt IntKind.u32.bits (a.toNat : Int) ^^^ BitVec.ofInt IntKind.u32.bits (b.toNat : Int)).toNat : Nat) = ((a ^^^ b).toNat : Nat) := by
  rw [show IntKind.u32.bits = 32 from rfl, u32_bv, u32_bv, u32_nat]
  congr 1
  exact Nat.mod_eq_of_lt (u32_lt (a ^^^ b))
theorem u32_or (a b : UInt32) : IntKind.u32.wrap ((BitVec.ofInt IntKind.u32.bits (a.toNat : Int) ||| BitVec.ofInt IntKind.u32.bits (b.toNat : Int)).toNat : Nat) = ((a ||| b).toNat : Nat) := by
  rw [show IntKind.u32.bits = 32 from rfl, u32_bv, u32_bv, u32_nat]
  congr 1
  exact Nat.mod_eq_of_lt (u32_lt (a ||| b))
section
variable {P : Program} {ts : List Value} {h : Heap} {x y : Operand} {t t' ty : TypeId} {O : Oper} {a b : UInt32}
instance (priority := 2000) XOp.addW [e1 : Ev ts x (.int .u32 (a.toNat : Nat))] [e2 : Ev ts y (.int .u32 (b.toNat : Nat))] : XOp P ts h (.bin .add O x y) (.int .u32 ((a + b).toNat : Nat)) h := ⟨rfl, by
  have := (XOp.add (P := P) (ts := ts) (h := h) (O := O) (K := .u32) (x := x) (y := y) (p := (a.toNat : Int)) (q := (b.toNat : Int))).eq
  rw [this, u32_add]⟩
instance (priority := 2000) XOp.xorW [e1 : Ev ts x (.int .u32 (a.toNat : Nat))] [e2 : Ev ts y (.int .u32 (b.toNat : Nat))] : XOp P ts h (.bin .xor (so (.binOp .xor t x y t') ty) x y) (.int .u32 ((a ^^^ b).toNat : Nat)) h := ⟨rfl, by
  have := (XOp.xorI (P := P) (ts := ts) (h := h) (K := .u32) (x := x) (y := y) (t := t) (t' := t') (ty := ty) (p := (a.toNat : Int)) (q := (b.toNat : Int))).eq
  rw [this, u32_xor]⟩
instance (priority := 2000) XOp.orW [e1 : Ev ts x (.int .u32 (a.toNat : Nat))] [e2 : Ev ts y (.int .u32 (b.toNat : Nat))] : XOp P ts h (.bin .or (so (.binOp .or t x y t') ty) x y) (.int .u32 ((a ||| b).toNat : Nat)) h := ⟨rfl, by
  have := (XOp.orI (P := P) (ts := ts) (h := h) (K := .u32) (x := x) (y := y) (t := t) (t' := t') (ty := ty) (p := (a.toNat : Int)) (q := (b.toNat : Int))).eq
  rw [this, u32_or]⟩
instance (priority := 2000) XOp.convB {O : Oper} {c : UInt8} [e1 : Ev ts x (.int .u8 (c.toNat : Nat))] : XOp P ts h (.conv .u32 O x) (.int .u32 ((c.toUInt32).toNat : Nat)) h := ⟨rfl, by
  have := (XOp.conv (P := P) (ts := ts) (h := h) (O := O) (K := .u32) (x := x) (p := (c.toNat : Int))).eq
  rw [this, u32_nat]
  congr 2
  rw [UInt8.toNat_toUInt32, Nat.mod_eq_of_lt (by have := c.toNat_lt; omega)]⟩
instance (priority := 1900) XOp.convNW {O : Oper} {J : IntKind} {n : Nat} [e1 : Ev ts x (.int J (n : Nat))] : XOp P ts h (.conv .u32 O x) (.int .u32 ((UInt32.ofNat n).toNat : Nat)) h := ⟨rfl, by
  have := (XOp.conv (P := P) (ts := ts) (h := h) (O := O) (K := .u32) (x := x) (p := (n : Int))).eq
  rw [this, u32_nat, UInt32.toNat_ofNat']⟩
instance (priority := 2000) XOp.notW [e1 : Ev ts x (.int .u32 (a.toNat : Nat))] : XOp P ts h (.raw (so (.unOp .xor t x) ty)) (.int .u32 (((4294967295 : UInt32) ^^^ a).toNat : Nat)) h := ⟨rfl, by
  have := u32_xor 4294967295 a
  rw [← this]
  exact raw_ok (by simp [so, Op.operands, e1.eq, ground]) (by simp only [execOp, so, e1.eq]; rfl) rfl⟩
theorem XOp.mkSl {size n c q o i j : Nat} {sp : Option Nat} {cs : List Value} {es : Nat} {lo hi : Option Operand} [e1 : Ev ts x (.slice (some ⟨q, o, sp⟩) n c)] (hj : bnd (eval ts) c n hi = some j) (hi' : bnd (eval ts) j 0 lo = some i) (hij : i < j) (hjn : j ≤ n) (hn : n ≤ c) (hz : size ≠ 0) (hg : h.get q = .cells cs es) (hs : sp ≠ none → es = size) :
    XOp P ts h (.sliceSl size x lo hi none) (.slice (some ⟨q, o + i * size, sp⟩) (j - i) (c - i)) h := ⟨rfl, by
  simp only [xop, e1.eq, sliceOf]
  rw [show bnd (eval ts) c c none = some c from rfl]
  simp only [hj, hi']
  rw [if_neg (by omega)]
  cases sp with
  | none =>
    simp only
    rw [if_neg (by omega)]
  | some k =>
    simp only
    by_cases h0 : i = 0
    · subst h0
      simp
    · rw [if_neg h0, if_neg (by omega), hg]
      simp only
      rw [if_pos (hs (by simp))]⟩
end
end Go.Vm

/- A small machine over an abstract heap: loops over functions. -/
set_option linter.unusedSimpArgs false
set_option linter.unusedVariables false
namespace Go.Vm
section
variable {P : Program} {T : Table} {ts : List Value} {ds : List Deferred} {h h' : Heap} {rd : Option Nat} {Q : QP} {rs : List (Nat × Option (Option Nat))} {R : RP} {X : XP} {v : Value} {r r2 : Nat} {a a2 : Array Value}
end
end Go.Vm

/- A small machine over an abstract heap: what is shown over a table holds over a larger one. -/
set_option linter.unusedSimpArgs false
set_option linter.unusedVariables false
namespace Go.Vm
def LeT (T T' : Table) : Prop := ∀ f af, T f = some af → T' f = some af
section
variable {P : Program} {T T' : Table}
end
def holed (P : Program) (ks : List FuncId) : Table := fun f => if ks.contains f then none else tableOf P f
end Go.Vm
