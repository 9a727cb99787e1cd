/- A small machine over an abstract heap: an operation without a slot in a drawn region, behind which others are read again. -/
import Derived.Test.YtninaabbojcdpaaGreatVJ
namespace Go.Vm
set_option linter.unusedVariables false
section
variable {P : Program} {T : Table} {ts ts' : List Value} {ds : List Deferred} {h h' : Heap} {rd : Option Nat} {op : AOp} {v : Value} {d : Nat} {chk : List (Option Nat × AOp × Option (Nat × Bool))} {pan : Bool} {rest : List AOper} {Q : QP} {F : Value → List Value}
theorem D.one0S [k : XOp P ts h op v h'] [c : StabL P ts h' chk] (hr : RunD P T rest ⟨ts, ds, h', rd⟩ Q) : RunD P T (⟨none, op, none, chk, pan⟩ :: rest) ⟨ts, ds, h, rd⟩ Q := D.one0 c.ok hr
end
end Go.Vm

/- A small machine over an abstract heap: the machine's steps as far as they go. -/
namespace Go.Vm
structure Then (q : Prop) : Prop where
  ok : q
theorem stp {p q : Prop} (hq : q) (h : Then q → p := by (intro hq; (repeat (first | refine O.how (XOp.addI (by omega)) ?_ | refine O.how (XOp.subI (by omega)) ?_ | refine O.how (XOp.convI (by omega)) ?_ | refine O.how (XOp.convU64 (by omega)) ?_ | refine O.how (XOp.convU8 (by omega)) ?_ | refine O.one ?_ | refine O.nil ?_ | refine C.next ?_ | refine RunC.seq ?_ | refine RunC.region ?_ | refine RunC.block ?_ | refine RunC.skip ?_ | refine RunC.exit ?_ | refine RunC.ret ?_ | refine RunC.regionD ?_ | refine D.how (XOp.addI (by omega)) rfl ?_ | refine D.how (XOp.subI (by omega)) rfl ?_ | refine D.how (XOp.convI (by omega)) rfl ?_ | refine D.one rfl ?_ | refine D.nil ?_ | refine O.one0 ?_ | refine D.one0 rfl ?_ | refine D.one0s ?_ | refine C.nextB ?_ | refine C.exit2 ?_ | refine C.exitB ?_ | refine C.retB ?_ | refine C.ret2 ?_ | refine loopQ.exit ?_ | refine loopQ.ret ?_ | refine C.exitN (by decide) ?_ | refine O.howT (XOp.mkIndexSl (by omega)) ?_ | refine O.howT (XOp.mkIndexArr (by omega)) ?_ | refine O.howT (XOp.addI (by omega)) ?_ | refine O.howT (XOp.subI (by omega)) ?_ | refine O.oneT ?_ | refine O.skT ?_ | refine O.skF ?_ | refine O.skU ?_ | refine D.howT (XOp.addI (by omega)) rfl ?_ | refine D.howT (XOp.subI (by omega)) rfl ?_ | refine D.oneT rfl ?_ | refine D.skT rfl ?_ | refine D.skF rfl ?_ | refine D.skU rfl ?_ | refine C.ifT ?_ | refine C.ifF ?_ | refine B.ret ?_ | refine B.deferred ?_ | refine B.deferredP ?_ | refine O.defer0 ?_ | refine B.end ?_ | refine O.panic ?_ | refine C.pan2 ?_ | refine C.panB ?_ | refine loopQ.panic ?_ | refine B.panic ?_ | refine O.how (XOp.mkIndexArr (by omega)) ?_ | refine O.how (XOp.mkIndexSl (by omega)) ?_ | refine D.how (XOp.mkIndexArr (by omega)) rfl ?_ | refine D.how (XOp.mkIndexSl (by omega)) rfl ?_)); exact hq.ok)) : p := h ⟨hq⟩
theorem stpP {p q : Prop} (hq : q) (h : Then q → p := by (intro hq; (repeat (first | refine O.how (XOp.addI (by omega)) ?_ | refine O.how (XOp.subI (by omega)) ?_ | refine O.how (XOp.convI (by omega)) ?_ | refine O.how (XOp.convU64 (by omega)) ?_ | refine O.how (XOp.convU8 (by omega)) ?_ | refine O.one ?_ | refine O.nil ?_ | refine C.next ?_ | refine RunC.seq ?_ | refine RunC.region ?_ | refine RunC.block ?_ | refine RunC.skip ?_ | refine RunC.exit ?_ | refine RunC.ret ?_ | refine RunC.regionD ?_ | refine D.how (XOp.addI (by omega)) rfl ?_ | refine D.how (XOp.subI (by omega)) rfl ?_ | refine D.how (XOp.convI (by omega)) rfl ?_ | refine D.one rfl ?_ | refine D.nil ?_ | refine O.one0 ?_ | refine D.one0 rfl ?_ | refine D.one0s ?_ | refine C.nextB ?_ | refine C.exit2 ?_ | refine C.exitB ?_ | refine C.retB ?_ | refine C.ret2 ?_ | refine loopQ.exit ?_ | refine loopQ.ret ?_ | refine C.exitN (by decide) ?_ | refine O.howT (XOp.mkIndexSl (by omega)) ?_ | refine O.howT (XOp.mkIndexArr (by omega)) ?_ | refine O.howT (XOp.addI (by omega)) ?_ | refine O.howT (XOp.subI (by omega)) ?_ | refine O.oneT ?_ | refine O.skT ?_ | refine O.skF ?_ | refine O.skU ?_ | refine D.howT (XOp.addI (by omega)) rfl ?_ | refine D.howT (XOp.subI (by omega)) rfl ?_ | refine D.oneT rfl ?_ | refine D.skT rfl ?_ | refine D.skF rfl ?_ | refine D.skU rfl ?_ | refine C.ifT ?_ | refine C.ifF ?_ | refine B.ret ?_ | refine B.end ?_ | refine O.how (XOp.mkIndexArr (by omega)) ?_ | refine O.how (XOp.mkIndexSl (by omega)) ?_ | refine D.how (XOp.mkIndexArr (by omega)) rfl ?_ | refine D.how (XOp.mkIndexSl (by omega)) rfl ?_)); exact hq.ok)) : p := h ⟨hq⟩
theorem stpDP {p q : Prop} (hq : q) (h : Then q → p := by (intro hq; (repeat (first | refine O.how (XOp.addI (by omega)) ?_ | refine O.how (XOp.subI (by omega)) ?_ | refine O.how (XOp.convI (by omega)) ?_ | refine O.how (XOp.convU64 (by omega)) ?_ | refine O.how (XOp.convU8 (by omega)) ?_ | refine O.one ?_ | refine O.nil ?_ | refine C.next ?_ | refine RunC.seq ?_ | refine RunC.region ?_ | refine RunC.block ?_ | refine RunC.skip ?_ | refine RunC.exit ?_ | refine RunC.ret ?_ | refine O.one0 ?_ | refine C.nextB ?_ | refine C.exit2 ?_ | refine C.exitB ?_ | refine C.retB ?_ | refine C.ret2 ?_ | refine loopQ.exit ?_ | refine loopQ.ret ?_ | refine C.exitN (by decide) ?_ | refine O.howT (XOp.mkIndexSl (by omega)) ?_ | refine O.howT (XOp.mkIndexArr (by omega)) ?_ | refine O.howT (XOp.addI (by omega)) ?_ | refine O.howT (XOp.subI (by omega)) ?_ | refine O.oneT ?_ | refine O.skT ?_ | refine O.skF ?_ | refine O.skU ?_ | refine C.ifT ?_ | refine C.ifF ?_ | refine B.ret ?_ | refine B.end ?_ | refine O.how (XOp.mkIndexArr (by omega)) ?_ | refine O.how (XOp.mkIndexSl (by omega)) ?_)); exact hq.ok)) : p := h ⟨hq⟩
theorem dstp {p q : Prop} (hq : q) (h : Then q → p := by (intro hq; (repeat (first | refine S.one ?_ | refine S.nil ?_ | refine S.next ?_ | refine RunT.seq ?_ | refine RunT.region ?_ | refine RunT.skip ?_ | refine RunT.ret ?_ | refine S.one0 ?_ | refine S.rec rfl ?_ | refine S.ifT ?_ | refine S.ifF ?_ | refine S.panic ?_ | refine thenT.ret ?_ | refine thenT.panic ?_ | refine S.end ?_ | refine S.ret ?_)); exact hq.ok)) : p := h ⟨hq⟩
end Go.Vm

/- A small machine over an abstract heap: words of 32 bits. -/
set_option linter.unusedSimpArgs false
set_option linter.unusedVariables false
namespace Go.Vm
open Go.IntWalk
def wcells (l : List UInt32) : List Value := l.map fun w => .int .u32 (w.toNat : Nat)
theorem wcells_len (l : List UInt32) : (wcells l).length = l.length := by simp [wcells]
theorem wcells_get : ∀ {l : List UInt32} {i : Nat}, i < l.length → lget (wcells l) i = .int .u32 ((l.getD i 0).toNat : Nat)
  | [], i, h => by simp at h
  | w :: l, 0, _ => rfl
  | w :: l, i + 1, h => by
    show lget (wcells l) i = _
    rw [wcells_get (by simpa using h)]
    simp
theorem wcells_set : ∀ {l : List UInt32} {i : Nat} {w : UInt32}, i < l.length → over (wcells l) i [.int .u32 (w.toNat : Nat)] = wcells (l.set i w)
  | [], i, w, h => by simp at h
  | v :: l, 0, w, _ => by
    show _ :: over (wcells l) 0 [] = _
    rw [over_nil]; rfl
  | v :: l, i + 1, w, h => by
    show _ :: over (wcells l) i _ = _
    rw [wcells_set (by simpa using h)]; rfl
class WIx (l : List UInt32) (i : Nat) : Prop where
  lt : i < l.length
instance {l : List UInt32} {i j : Nat} {w : UInt32} [h : WIx l i] : WIx (l.set j w) i := ⟨by simpa using h.lt⟩
instance (priority := 2000) {l : List UInt32} {i : Nat} [h : WIx l i] : CGet (wcells l) i (.int .u32 ((l.getD i 0).toNat : Nat)) := ⟨wcells_get h.lt, by rw [wcells_len]; exact h.lt⟩
instance (priority := 2000) {l : List UInt32} {i : Nat} {w : UInt32} [h : WIx l i] : Over (wcells l) i [.int .u32 (w.toNat : Nat)] (wcells (l.set i w)) := ⟨by rw [wcells_len]; have := h.lt; simp; omega, wcells_set h.lt⟩
theorem u32_nat (n : Nat) : IntKind.u32.wrap (n : Int) = ((n % 4294967296 : Nat) : Int) := by rw [IntKind.wrap_u32]; omega
theorem u32_lt (a : UInt32) : a.toNat < 4294967296 := a.toNat_lt
theorem u32_bv (a : UInt32) : BitVec.ofInt 32 (a.toNat : Int) = a.toBitVec := by
  rw [BitVec.ofInt_natCast]
  apply BitVec.eq_of_toNat_eq
  rw [BitVec.toNat_ofNat, Nat.mod_eq_of_lt (by have := u32_lt a; simpa using this)]
  rfl
theorem u32_add (a b : UInt32) : IntKind.u32.wrap ((a.toNat : Int) + (b.toNat : Int)) = ((a + b).toNat : Nat) := by
  rw [show ((a.toNat : Int) + (b.toNat : Int)) = ((a.toNat + b.toNat : Nat) : Int) from by omega, u32_nat, UInt32.toNat_add]
theorem u32_xor (a b : UInt32) : IntKind.u32.wrap ((BitVec.ofInt IntKind.u32.bits (a.toNat : Int) ^^^ BitVec.ofInt IntKind.u32.bits (b.toNat : Int)).toNat : Nat) = ((a ^^^ b).toNat : Nat) := by
  rw [show IntKind.u32.bits = 32 from rfl, u32_bv, u32_bv, u32_nat]
  congr 1
  exact Nat.mod_eq_of_lt (u32_lt (a ^^^ b))
theorem u32_or (a b : UInt32) : IntKind.u32.wrap ((BitVec.ofInt IntKind.u32.bits (a.toNat : Int) ||| BitVec.ofInt IntKind.u32.bits (b.toNat : Int)).toNat : Nat) = ((a ||| b).toNat : Nat) := by
  rw [show IntKind.u32.bits = 32 from rfl, u32_bv, u32_bv, u32_nat]
  congr 1
  exact Nat.mod_eq_of_lt (u32_lt (a ||| b))
section
variable {P : Program} {ts : List Value} {h : Heap} {x y : Operand} {t t' ty : TypeId} {O : Oper} {a b : UInt32}
instance (priority := 2000) XOp.addW [e1 : Ev ts x (.int .u32 (a.toNat : Nat))] [e2 : Ev ts y (.int .u32 (b.toNat : Nat))] : XOp P ts h (.bin .add O x y) (.int .u32 ((a + b).toNat : Nat)) h := ⟨rfl, by
  have := (XOp.add (P := P) (ts := ts) (h := h) (O := O) (K := .u32) (x := x) (y := y) (p := (a.toNat : Int)) (q := (b.toNat : Int))).eq
  rw [this, u32_add]⟩
instance (priority := 2000) XOp.xorW [e1 : Ev ts x (.int .u32 (a.toNat : Nat))] [e2 : Ev ts y (.int .u32 (b.toNat : Nat))] : XOp P ts h (.bin .xor (so (.binOp .xor t x y t') ty) x y) (.int .u32 ((a ^^^ b).toNat : Nat)) h := ⟨rfl, by
  have := (XOp.xorI (P := P) (ts := ts) (h := h) (K := .u32) (x := x) (y := y) (t := t) (t' := t') (ty := ty) (p := (a.toNat : Int)) (q := (b.toNat : Int))).eq
  rw [this, u32_xor]⟩
instance (priority := 2000) XOp.orW [e1 : Ev ts x (.int .u32 (a.toNat : Nat))] [e2 : Ev ts y (.int .u32 (b.toNat : Nat))] : XOp P ts h (.bin .or (so (.binOp .or t x y t') ty) x y) (.int .u32 ((a ||| b).toNat : Nat)) h := ⟨rfl, by
  have := (XOp.orI (P := P) (ts := ts) (h := h) (K := .u32) (x := x) (y := y) (t := t) (t' := t') (ty := ty) (p := (a.toNat : Int)) (q := (b.toNat : Int))).eq
  rw [this, u32_or]⟩
theorem mul_in {x : Int} (hb : -9223372036854775808 ≤ x ∧ x ≤ 9223372036854775807) : IntKind.i64.wrap x = x := i64_in x hb
instance (priority := 2000) XOp.convB {O : Oper} {c : UInt8} [e1 : Ev ts x (.int .u8 (c.toNat : Nat))] : XOp P ts h (.conv .u32 O x) (.int .u32 ((c.toUInt32).toNat : Nat)) h := ⟨rfl, by
  have := (XOp.conv (P := P) (ts := ts) (h := h) (O := O) (K := .u32) (x := x) (p := (c.toNat : Int))).eq
  rw [this, u32_nat]
  congr 2
  rw [UInt8.toNat_toUInt32, Nat.mod_eq_of_lt (by have := c.toNat_lt; omega)]⟩
instance (priority := 1900) XOp.convNW {O : Oper} {J : IntKind} {n : Nat} [e1 : Ev ts x (.int J (n : Nat))] : XOp P ts h (.conv .u32 O x) (.int .u32 ((UInt32.ofNat n).toNat : Nat)) h := ⟨rfl, by
  have := (XOp.conv (P := P) (ts := ts) (h := h) (O := O) (K := .u32) (x := x) (p := (n : Int))).eq
  rw [this, u32_nat, UInt32.toNat_ofNat']⟩
instance (priority := 2000) XOp.notW [e1 : Ev ts x (.int .u32 (a.toNat : Nat))] : XOp P ts h (.raw (so (.unOp .xor t x) ty)) (.int .u32 (((4294967295 : UInt32) ^^^ a).toNat : Nat)) h := ⟨rfl, by
  have := u32_xor 4294967295 a
  rw [← this]
  exact raw_ok (by simp [so, Op.operands, e1.eq, ground]) (by simp only [execOp, so, e1.eq]; rfl) rfl⟩
end
end Go.Vm

/- A small machine over an abstract heap: loops over functions. -/
set_option linter.unusedSimpArgs false
set_option linter.unusedVariables false
namespace Go.Vm
section
variable {P : Program} {T : Table} {ts : List Value} {ds : List Deferred} {h h' : Heap} {rd : Option Nat} {Q : QP} {rs : List (Nat × Option (Option Nat))} {R : RP} {X : XP} {v : Value} {r r2 : Nat} {a a2 : Array Value}
theorem L.coll [k : HGet h r (.defs false)] (hd : RunL P T rs ts ds .returning (h.set r (.defs true)) R X) : RunL P T rs ts ({ target := .collected r, args := a } :: ds) .returning h R X :=
  RunL.collected (by intro e; cases e) k.eq hd
theorem B.retC [k0 : HGet h r (.defs false)] [k : ResO (h.set r (.defs true)) ts rs v] (hr : R v (h.set r (.defs true))) : bodyQ P T rs R X .ret ⟨ts, [{ target := .collected r, args := a }], h, rd⟩ :=
  bodyQ.onRet (L.coll (L.nil (k := k) hr))
end
end Go.Vm

/- A small machine over an abstract heap: what is shown over a table holds over a larger one. -/
set_option linter.unusedSimpArgs false
set_option linter.unusedVariables false
namespace Go.Vm
def LeT (T T' : Table) : Prop := ∀ f af, T f = some af → T' f = some af
section
variable {P : Program} {T T' : Table}
end
def holed (P : Program) (ks : List FuncId) : Table := fun f => if ks.contains f then none else tableOf P f
end Go.Vm

/- A small machine over an abstract heap: rounds of loops over functions. -/
set_option linter.unusedSimpArgs false
set_option linter.unusedVariables false
namespace Go.Vm
section
variable {P : Program} {T : Table} {ts : List Value} {ds : List Deferred} {h h' : Heap} {rd : Option Nat} {Q : QP} {R : RP} {X : XP} {l : Nat} {ps : List Nat} {as b : Code} {as' b' : ACode}
def rndQ (l : Nat) (ts : List Value) (ps : List Nat) (as b : Code) (R : RP) : QP
  | .normal, s => s.h.get l = .loop .busy none ts ps as b ∧ R (.bool true) (s.h.set l (.loop .ready none ts ps as b))
  | .ret, s => s.h.get l = .loop .busy none ts ps as b ∧ R (.bool false) (s.h.set l (.loop .done (some .ret) ts ps as b))
  | .exit id, s => s.h.get l = .loop .busy none ts ps as b ∧ R (.bool false) (s.h.set l (.loop .done (some (.exit id)) ts ps as b))
  | _, _ => False
def asgQ (P : Program) (T : Table) (l : Nat) (ts : List Value) (ps : List Nat) (as b : Code) (b' : ACode) (R : RP) : QP
  | .normal, s => s.h.get l = .loop .ready none ts ps as b ∧ RunC P T b' { s with h := s.h.set l (.loop .busy none ts ps as b) } (rndQ l ts ps as b R)
  | _, _ => False
theorem Runs.round {ts1 : List Value} {args : List Value} (hg : h.get l = .loop .ready none ts ps as b) (hp : putAll ts ps args = ts1)
    (hn : args.length = ps.length) (n1 : noDefer as = true) (n2 : noDefer b = true) (ha : comp P as = some as') (hb : comp P b = some b')
    (hr : RunC P T as' ⟨ts1, [], h, some l⟩ (asgQ P T l ts ps as b b' R)) : Runs P T (.yield l) args h R X := by
  subst hp
  refine Runs.yield hg ⟨hn, n1, n2⟩ ha hb (RunC.mono hr fun e s hq => ?_)
  cases e with
  | normal =>
    refine ⟨rfl, none, ts, ps, as, b, hq.1, RunC.mono hq.2 fun e s hq => ?_⟩
    cases e with
    | normal =>
      obtain ⟨h1, h2⟩ := hq
      simp only [roundOut, endR, h1]
      exact h2
    | ret =>
      obtain ⟨h1, h2⟩ := hq
      simp only [roundOut, endR, h1]
      exact h2
    | exit id =>
      obtain ⟨h1, h2⟩ := hq
      simp only [roundOut, endR, h1]
      exact h2
    | _ => exact hq.elim
  | _ => exact hq.elim
theorem A.go [k : HGet h l (.loop .ready none ts ps as b)] {ts1 : List Value} {ds1 : List Deferred} (hr : RunC P T b' ⟨ts1, ds1, h.set l (.loop .busy none ts ps as b), rd⟩ (rndQ l ts ps as b R)) : asgQ P T l ts ps as b b' R .normal ⟨ts1, ds1, h, rd⟩ := ⟨k.eq, hr⟩
theorem A.on [k : HGet h l (.loop .busy none ts ps as b)] {ts1 : List Value} {ds1 : List Deferred} (hr : R (.bool true) (h.set l (.loop .ready none ts ps as b))) : rndQ l ts ps as b R .normal ⟨ts1, ds1, h, rd⟩ := ⟨k.eq, hr⟩
theorem A.ret [k : HGet h l (.loop .busy none ts ps as b)] {ts1 : List Value} {ds1 : List Deferred} (hr : R (.bool false) (h.set l (.loop .done (some .ret) ts ps as b))) : rndQ l ts ps as b R .ret ⟨ts1, ds1, h, rd⟩ := ⟨k.eq, hr⟩
theorem A.exit [k : HGet h l (.loop .busy none ts ps as b)] {ts1 : List Value} {ds1 : List Deferred} {id : Nat} (hr : R (.bool false) (h.set l (.loop .done (some (.exit id)) ts ps as b))) : rndQ l ts ps as b R (.exit id) ⟨ts1, ds1, h, rd⟩ := ⟨k.eq, hr⟩
theorem range_ret {f : Operand} {fid : FuncId} {first captured : List Value} {J K : Heap → Prop} [e : Ev ts f (.func (.func fid) ⟨first⟩ ⟨captured⟩)]
    (hr : Runs P T (.fn fid) (first ++ [.func (.yield (h.n + 1)) #[] #[]] ++ captured) ((h.push (.defs false)).push (.loop .ready none ts ps as b))
      (fun _ h' => (h'.get (h.n + 1) = .loop .ready none ts ps as b ∧ J h') ∨ (h'.get (h.n + 1) = .loop .done (some .ret) ts ps as b ∧ K h')) (fun _ _ => False))
    (hq : ∀ h', J h' → Q .normal ⟨ts, { target := .collected h.n, args := #[] } :: ds, (h'.set (h.n + 1) (.loop .exhausted none ts ps as b)).set (h.n + 1) .dead, none⟩)
    (hq2 : ∀ h', K h' → Q .ret ⟨ts, { target := .collected h.n, args := #[] } :: ds, (h'.set (h.n + 1) (.loop .exhausted (some .ret) ts ps as b)).set (h.n + 1) .dead, none⟩) : RunC P T (.rangeFunc f ps as b) ⟨ts, ds, h, none⟩ Q :=
  RunC.rangeFunc (s := ⟨ts, ds, h, none⟩) rfl e.eq (Runs.mono hr (fun v h' hh => by
    intro o ho
    rcases hh with hh | hh
    · have hg : h'.get (h.push (.defs false)).n = .loop .ready none ts ps as b := hh.1
      simp only [lapOut, lapH, hg] at ho
      rw [if_neg (by decide)] at ho
      simp only [List.mem_singleton] at ho
      subst ho
      exact hq _ hh.2
    · have hg : h'.get (h.push (.defs false)).n = .loop .done (some .ret) ts ps as b := hh.1
      simp only [lapOut, lapH, hg] at ho
      rw [if_neg (by decide)] at ho
      simp only [List.mem_singleton] at ho
      subst ho
      exact hq2 _ hh.2) fun _ _ hx => hx.elim)
end
attribute [irreducible] rndQ asgQ
end Go.Vm

/- A small machine over an abstract heap: slices that are sliced again. -/
set_option linter.unusedSimpArgs false
set_option linter.unusedVariables false
namespace Go.Vm
def Sd (h : Heap) (size : Nat) (v : Value) (c : List Value) (n : Nat) : Prop :=
  ∃ a cap, v = .slice a n cap ∧ n ≤ cap ∧ c.length = n * size ∧ (n ≠ 0 → ∃ b o sp, a = some ⟨b, o, sp⟩ ∧ b < h.n ∧ cellsAt h b o (n * size) = some c ∧ (sp ≠ none → ∃ cc, h.get b = .cells cc size))
section
variable {h h' : Heap} {size n : Nat} {v : Value} {c : List Value}
theorem Sd.rd (hv : Sd h size v c n) : Rd h size v c n := by
  obtain ⟨a, cap, rfl, hle, hl, hc⟩ := hv
  refine ⟨a, cap, rfl, hl, fun hn => ?_⟩
  obtain ⟨b, o, sp, e, hb, hcc, _⟩ := hc hn
  exact ⟨b, o, sp, e, hb, hcc⟩
theorem Sd.nil {a : Option Addr} {cap : Nat} : Sd h size (.slice a 0 cap) [] 0 := ⟨a, cap, rfl, Nat.zero_le _, by simp, fun h => absurd rfl h⟩
theorem Sd.keep {S : Nat → Prop} (hv : Sd h size v c n) (hf : Fr S h h') (hs : ∀ b, blockOf v b → ¬ S b) : Sd h' size v c n := by
  obtain ⟨a, cap, rfl, hle, hl, hc⟩ := hv
  refine ⟨a, cap, rfl, hle, hl, fun hn => ?_⟩
  obtain ⟨b, o, sp, rfl, hb, hcc, he⟩ := hc hn
  have hb2 : ¬ S b := hs b ⟨rfl, hn⟩
  refine ⟨b, o, sp, rfl, hf.lt hb, by rw [cellsAt_keep hf hb hb2]; exact hcc, fun h1 => ?_⟩
  rw [hf.get b hb hb2]
  exact he h1
theorem Sd.cut {e : Operand → Value} {lo hi : Option Operand} (i j : Nat) (hv : Sd h size v c n) (h1 : ∀ m, n ≤ m → bnd e m n hi = some j) (h2 : bnd e j 0 lo = some i) (hij : i ≤ j) (hj : j ≤ n) :
    ∃ v', sliceOf e size v lo hi none h = .ok v' h ∧ (∀ b, blockOf v' b → blockOf v b) ∧ Sd h size v' ((c.drop (i * size)).take ((j - i) * size)) (j - i) := by
  obtain ⟨a, cap, rfl, hle, hl, hc⟩ := hv
  have hmul : i * size + (j - i) * size = j * size := by rw [← Nat.add_mul]; congr 1; omega
  have hmul2 : j * size ≤ n * size := Nat.mul_le_mul_right _ hj
  have hlen : ((c.drop (i * size)).take ((j - i) * size)).length = (j - i) * size := by
    rw [List.length_take, List.length_drop]; omega
  have hz : j - i = 0 → ∀ a' cap', Sd h size (.slice a' (j - i) cap') ((c.drop (i * size)).take ((j - i) * size)) (j - i) := fun h0 a' cap' => by
    rw [h0, Nat.zero_mul, List.take_zero]
    exact Sd.nil
  have hb0 : bnd e cap cap none = some cap := rfl
  by_cases hn : n = 0
  · have hj0 : j - i = 0 := by omega
    cases a with
    | none => exact ⟨.slice none (j - i) (cap - i), by simp only [sliceOf, hb0, h1 cap hle, h2]; rw [if_neg (by omega)], fun b hb => hb.elim, hz hj0 _ _⟩
    | some a =>
      have h3 : ¬ (cap < j) := by omega
      obtain ⟨ab, ao, asp⟩ := a
      cases asp with
      | none => exact ⟨.slice (some (if cap = i then ⟨ab, ao, none⟩ else ⟨ab, ao + i * size, none⟩)) (j - i) (cap - i), by simp only [sliceOf, hb0, h1 cap hle, h2]; rw [if_neg h3], fun b hb => absurd hj0 hb.2, hz hj0 _ _⟩
      | some k =>
        have hi0 : i = 0 := by omega
        refine ⟨.slice (some ⟨ab, ao, some k⟩) j cap, by simp only [sliceOf, hb0, h1 cap hle, h2]; rw [if_neg h3]; simp only [hi0, if_true], fun b hb => ?_, ?_⟩
        · exact absurd (by omega) hb.2
        · have : j = j - i := by omega
          have h9 := hz hj0 (some ⟨ab, ao, some k⟩) cap
          rw [← this] at h9 ⊢
          exact h9
  · obtain ⟨b, o, sp, rfl, hb, hcc, he⟩ := hc hn
    have h3 : ¬ (cap < j) := by omega
    have hsub : cellsAt h b (o + i * size) ((j - i) * size) = some ((c.drop (i * size)).take ((j - i) * size)) := cellsAt_sub hcc (by omega)
    cases sp with
    | none =>
      refine ⟨.slice (some (if cap = i then ⟨b, o, none⟩ else ⟨b, o + i * size, none⟩)) (j - i) (cap - i), by simp only [sliceOf, hb0, h1 cap hle, h2]; rw [if_neg h3], fun b' hb' => ⟨by
        have := hb'.1
        split at this <;> exact this, hn⟩, ?_⟩
      refine ⟨_, _, rfl, by omega, hlen, fun hji => ?_⟩
      rw [if_neg (by omega)]
      exact ⟨b, _, none, rfl, hb, hsub, fun h => absurd rfl h⟩
    | some k =>
      obtain ⟨cc, hg⟩ := he (by simp)
      by_cases hi0 : i = 0
      · refine ⟨.slice (some ⟨b, o, some k⟩) j cap, by simp only [sliceOf, hb0, h1 cap hle, h2]; rw [if_neg h3]; simp only [hi0, if_true], fun b' hb' => ⟨hb'.1, hn⟩, ?_⟩
        subst hi0
        rw [Nat.sub_zero] at hlen hsub ⊢
        rw [Nat.zero_mul, Nat.add_zero] at hsub
        exact ⟨_, _, rfl, by omega, hlen, fun _ => ⟨b, o, some k, rfl, hb, by rw [Nat.zero_mul]; exact hsub, fun _ => ⟨cc, hg⟩⟩⟩
      · by_cases hic : cap = i
        · have hj0 : j - i = 0 := by omega
          refine ⟨.slice (some ⟨0, 0, some k⟩) 0 0, by simp only [sliceOf, hb0, h1 cap hle, h2]; rw [if_neg h3]; simp only [hi0, if_false, hic, if_true], fun b' hb' => absurd rfl hb'.2, ?_⟩
          have h9 := hz hj0 (some ⟨0, 0, some k⟩) 0
          rw [hj0] at h9 ⊢
          exact h9
        · refine ⟨.slice (some ⟨b, o + i * size, some k⟩) (j - i) (cap - i), by simp only [sliceOf, hb0, h1 cap hle, h2]; rw [if_neg h3]; simp only [hi0, if_false, if_neg hic, hg, if_true], fun b' hb' => ⟨hb'.1, hn⟩, ?_⟩
          exact ⟨_, _, rfl, by omega, hlen, fun _ => ⟨b, _, some k, rfl, hb, hsub, fun _ => ⟨cc, hg⟩⟩⟩
end
section
variable {P : Program} {T : Table} {ts : List Value} {ds : List Deferred} {h : Heap} {rd : Option Nat} {v : Value} {d size n : Nat} {c : List Value} {x : Operand} {lo hi : Option Operand} {chk : List (Option Nat × AOp × Option (Nat × Bool))} {pan : Bool} {rest : List AOper} {Q : QP} {F : Value → List Value}
theorem O.cut (i j : Nat) (hv : Sd h size v c n) [e1 : Ev ts x v] [s : LSetF ts d F] (h1 : ∀ m, n ≤ m → bnd (eval ts) m n hi = some j) (h2 : bnd (eval ts) j 0 lo = some i) (hij : i ≤ j) (hj : j ≤ n)
    (hk : ∀ v', (∀ b, blockOf v' b → blockOf v b) → Sd h size v' ((c.drop (i * size)).take ((j - i) * size)) (j - i) → RunO P T rest ⟨F v', ds, h, rd⟩ Q) : RunO P T (⟨some d, .sliceSl size x lo hi none, none, chk, pan⟩ :: rest) ⟨ts, ds, h, rd⟩ Q := by
  obtain ⟨v', hx, hbl, hr⟩ := hv.cut i j h1 h2 hij hj
  exact RunO.cons rfl (fun _ _ e => by cases e) (RunX.ok (h' := h) (v := v') (fun call => by rw [xo_plain rfl]; simp only [xop, e1.eq, hx]) (by
    show RunO P T rest ⟨lset ts d v', ds, h, rd⟩ Q
    rw [s.eq]; exact hk v' hbl hr))
theorem D.cut (i j : Nat) (hv : Sd h size v c n) [e1 : Ev ts x v] [s : LSetF ts d F] (h1 : ∀ m, n ≤ m → bnd (eval ts) m n hi = some j) (h2 : bnd (eval ts) j 0 lo = some i) (hij : i ≤ j) (hj : j ≤ n)
    (hk : ∀ v', (∀ b, blockOf v' b → blockOf v b) → Sd h size v' ((c.drop (i * size)).take ((j - i) * size)) (j - i) → RunD P T rest ⟨F v', ds, h, rd⟩ Q) : RunD P T (⟨some d, .sliceSl size x lo hi none, none, [], pan⟩ :: rest) ⟨ts, ds, h, rd⟩ Q := by
  obtain ⟨v', hx, hbl, hr⟩ := hv.cut i j h1 h2 hij hj
  exact RunD.cons rfl (RunX.ok (h' := h) (v := v') (fun call => by rw [xo_plain rfl]; simp only [xop, e1.eq, hx]) (by
    show _ ∧ RunD P T rest ⟨lset ts d v', ds, h, rd⟩ Q
    rw [s.eq]; exact ⟨rfl, hk v' hbl hr⟩))
theorem O.yield {l : Nat} {f : Operand} {args : List Operand} {vs : List Value} [e : Ev ts f (.func (.yield l) ⟨[]⟩ ⟨[]⟩)] [k : EvL ts args vs] [s : LSetF ts d F] {R : RP}
    (hr : Runs P T (.yield l) vs h R (fun _ _ => False)) (hk : ∀ v h', R v h' → RunO P T rest ⟨F v, ds, h', rd⟩ Q) :
    RunO P T (⟨some d, .callV f args, none, chk, pan⟩ :: rest) ⟨ts, ds, h, rd⟩ Q :=
  RunO.cons rfl (fun _ _ e => by cases e) (RunX.call (t := .yield l) (vs := vs) (by simp only [e.eq, k.eq, target]) (Runs.mono hr (fun v h' hv => by
    show RunO P T rest ⟨lset ts d v, ds, h', rd⟩ Q
    rw [s.eq]; exact hk v h' hv) fun _ _ hx => hx.elim))
theorem put_one {ts ts1 : List Value} {k : Nat} {v : Value} [s : LSet ts k v ts1] : putAll ts [k] [v] = ts1 := s.eq
end
end Go.Vm

/- A small machine over an abstract heap: strings, which is less. -/
set_option linter.unusedSimpArgs false
set_option linter.unusedVariables false
namespace Go.Vm
section
variable {P : Program} {ts : List Value} {h : Heap} {x y : Operand} {t t' ty : TypeId}
instance XOp.lssS {s s' : ByteArray} [e1 : Ev ts x (.string s)] [e2 : Ev ts y (.string s')] : XOp P ts h (.bin .lss (so (.binOp .lss t x y t') ty) x y) (.bool (Op.bytesLess s.toList s'.toList)) h :=
  ⟨rfl, (bin_raw (by intro k a b hu; cases hu) e1.eq e2.eq).trans (raw_bin e1.eq e2.eq rfl rfl rfl rfl)⟩
end
section
variable {P : Program} {T : Table} {ts : List Value} {ds : List Deferred} {h : Heap} {rd : Option Nat} {v : Value} {d size n : Nat} {c : List Value} {x : Operand} {lo hi : Option Operand} {chk : List (Option Nat × AOp × Option (Nat × Bool))} {pan : Bool} {rest : List AOper} {Q : QP} {F : Value → List Value}
end
end Go.Vm

/- A small machine over an abstract heap: methods of interface values. -/
set_option linter.unusedSimpArgs false
set_option linter.unusedVariables false
namespace Go.Vm
section
variable {P : Program} {T : Table} {ts : List Value} {ds : List Deferred} {h : Heap} {rd : Option Nat} {d : Nat} {chk : List (Option Nat × AOp × Option (Nat × Bool))} {pan : Bool} {rest : List AOper} {Q : QP} {F : Value → List Value}
theorem O.invoke {r : Operand} {name : String} {args : List Operand} {t : TypeId} {v recv : Value} {f : FuncId} {vs : List Value} [e : Ev ts r (.iface t v)] [k : EvL ts args vs] [s : LSetF ts d F] {R : RP}
    (hm : methodOf P h t v name = some (f, recv)) (hr : Runs P T (.fn f) (recv :: vs) h R (fun _ _ => False)) (hk : ∀ v h', R v h' → RunO P T rest ⟨F v, ds, h', rd⟩ Q) :
    RunO P T (⟨some d, .invoke r name args, none, chk, pan⟩ :: rest) ⟨ts, ds, h, rd⟩ Q :=
  have hr2 : Runs P T (.fn f) (recv :: args.map (eval ts)) h R (fun _ _ => False) := by rw [k.eq]; exact hr
  RunO.cons rfl (fun _ _ e => by cases e) (RunX.invoke (t := t) (v := v) (recv := recv) (f := f) e.eq hm (Runs.mono hr2 (fun v h' hv => by
    show RunO P T rest ⟨lset ts d v, ds, h', rd⟩ Q
    rw [s.eq]; exact hk v h' hv) fun _ _ hx => hx.elim))
theorem XOp.assertNo {x : Operand} {t u : TypeId} {v z : Value} (hne : u ≠ t) [e : Ev ts x (.iface u v)] : XOp P ts h (.assertTo t z true x) (.tuple ⟨[z, .bool false]⟩) h := ⟨rfl, by
  simp only [xop, e.eq, if_neg hne, if_true]⟩
end
end Go.Vm
