/- A small machine over an abstract heap: an operation without a slot in a drawn region, behind which others are read again. -/
import Derived.Test.YtagmnpeilgnbdaaGreatVJ
import Derived.Test.YtagmnpeilgnbdaaGreatVH
namespace Go.Vm
set_option linter.unusedVariables false
section
variable {P : Program} {T : Table} {ts ts' : List Value} {ds : List Deferred} {h h' : Heap} {rd : Option Nat} {op : AOp} {v : Value} {d : Nat} {chk : List (Option Nat × AOp × Option (Nat × Bool))} {pan : Bool} {rest : List AOper} {Q : QP} {F : Value → List Value}
end
end Go.Vm

/- A small machine over an abstract heap: the machine's steps as far as they go. -/
namespace Go.Vm
structure Then (q : Prop) : Prop where
  ok : q
theorem stp {p q : Prop} (hq : q) (h : Then q → p := by (intro hq; (repeat (first | refine O.how (XOp.addI (by omega)) ?_ | refine O.how (XOp.subI (by omega)) ?_ | refine O.how (XOp.convI (by omega)) ?_ | refine O.how (XOp.convU64 (by omega)) ?_ | refine O.how (XOp.convU8 (by omega)) ?_ | refine O.one ?_ | refine O.nil ?_ | refine C.next ?_ | refine RunC.seq ?_ | refine RunC.region ?_ | refine RunC.block ?_ | refine RunC.skip ?_ | refine RunC.exit ?_ | refine RunC.ret ?_ | refine RunC.regionD ?_ | refine D.how (XOp.addI (by omega)) rfl ?_ | refine D.how (XOp.subI (by omega)) rfl ?_ | refine D.how (XOp.convI (by omega)) rfl ?_ | refine D.one rfl ?_ | refine D.nil ?_ | refine O.one0 ?_ | refine D.one0 rfl ?_ | refine D.one0s ?_ | refine C.nextB ?_ | refine C.exit2 ?_ | refine C.exitB ?_ | refine C.retB ?_ | refine C.ret2 ?_ | refine loopQ.exit ?_ | refine loopQ.ret ?_ | refine C.exitN (by decide) ?_ | refine O.howT (XOp.mkIndexSl (by omega)) ?_ | refine O.howT (XOp.mkIndexArr (by omega)) ?_ | refine O.howT (XOp.addI (by omega)) ?_ | refine O.howT (XOp.subI (by omega)) ?_ | refine O.oneT ?_ | refine O.skT ?_ | refine O.skF ?_ | refine O.skU ?_ | refine D.howT (XOp.addI (by omega)) rfl ?_ | refine D.howT (XOp.subI (by omega)) rfl ?_ | refine D.oneT rfl ?_ | refine D.skT rfl ?_ | refine D.skF rfl ?_ | refine D.skU rfl ?_ | refine C.ifT ?_ | refine C.ifF ?_ | refine B.ret ?_ | refine B.deferred ?_ | refine B.deferredP ?_ | refine O.defer0 ?_ | refine B.end ?_ | refine O.panic ?_ | refine C.pan2 ?_ | refine C.panB ?_ | refine loopQ.panic ?_ | refine B.panic ?_ | refine O.how (XOp.mkIndexArr (by omega)) ?_ | refine O.how (XOp.mkIndexSl (by omega)) ?_ | refine D.how (XOp.mkIndexArr (by omega)) rfl ?_ | refine D.how (XOp.mkIndexSl (by omega)) rfl ?_)); exact hq.ok)) : p := h ⟨hq⟩
theorem stpP {p q : Prop} (hq : q) (h : Then q → p := by (intro hq; (repeat (first | refine O.how (XOp.addI (by omega)) ?_ | refine O.how (XOp.subI (by omega)) ?_ | refine O.how (XOp.convI (by omega)) ?_ | refine O.how (XOp.convU64 (by omega)) ?_ | refine O.how (XOp.convU8 (by omega)) ?_ | refine O.one ?_ | refine O.nil ?_ | refine C.next ?_ | refine RunC.seq ?_ | refine RunC.region ?_ | refine RunC.block ?_ | refine RunC.skip ?_ | refine RunC.exit ?_ | refine RunC.ret ?_ | refine RunC.regionD ?_ | refine D.how (XOp.addI (by omega)) rfl ?_ | refine D.how (XOp.subI (by omega)) rfl ?_ | refine D.how (XOp.convI (by omega)) rfl ?_ | refine D.one rfl ?_ | refine D.nil ?_ | refine O.one0 ?_ | refine D.one0 rfl ?_ | refine D.one0s ?_ | refine C.nextB ?_ | refine C.exit2 ?_ | refine C.exitB ?_ | refine C.retB ?_ | refine C.ret2 ?_ | refine loopQ.exit ?_ | refine loopQ.ret ?_ | refine C.exitN (by decide) ?_ | refine O.howT (XOp.mkIndexSl (by omega)) ?_ | refine O.howT (XOp.mkIndexArr (by omega)) ?_ | refine O.howT (XOp.addI (by omega)) ?_ | refine O.howT (XOp.subI (by omega)) ?_ | refine O.oneT ?_ | refine O.skT ?_ | refine O.skF ?_ | refine O.skU ?_ | refine D.howT (XOp.addI (by omega)) rfl ?_ | refine D.howT (XOp.subI (by omega)) rfl ?_ | refine D.oneT rfl ?_ | refine D.skT rfl ?_ | refine D.skF rfl ?_ | refine D.skU rfl ?_ | refine C.ifT ?_ | refine C.ifF ?_ | refine B.ret ?_ | refine B.end ?_ | refine O.how (XOp.mkIndexArr (by omega)) ?_ | refine O.how (XOp.mkIndexSl (by omega)) ?_ | refine D.how (XOp.mkIndexArr (by omega)) rfl ?_ | refine D.how (XOp.mkIndexSl (by omega)) rfl ?_)); exact hq.ok)) : p := h ⟨hq⟩
theorem stpDP {p q : Prop} (hq : q) (h : Then q → p := by (intro hq; (repeat (first | refine O.how (XOp.addI (by omega)) ?_ | refine O.how (XOp.subI (by omega)) ?_ | refine O.how (XOp.convI (by omega)) ?_ | refine O.how (XOp.convU64 (by omega)) ?_ | refine O.how (XOp.convU8 (by omega)) ?_ | refine O.one ?_ | refine O.nil ?_ | refine C.next ?_ | refine RunC.seq ?_ | refine RunC.region ?_ | refine RunC.block ?_ | refine RunC.skip ?_ | refine RunC.exit ?_ | refine RunC.ret ?_ | refine O.one0 ?_ | refine C.nextB ?_ | refine C.exit2 ?_ | refine C.exitB ?_ | refine C.retB ?_ | refine C.ret2 ?_ | refine loopQ.exit ?_ | refine loopQ.ret ?_ | refine C.exitN (by decide) ?_ | refine O.howT (XOp.mkIndexSl (by omega)) ?_ | refine O.howT (XOp.mkIndexArr (by omega)) ?_ | refine O.howT (XOp.addI (by omega)) ?_ | refine O.howT (XOp.subI (by omega)) ?_ | refine O.oneT ?_ | refine O.skT ?_ | refine O.skF ?_ | refine O.skU ?_ | refine C.ifT ?_ | refine C.ifF ?_ | refine B.ret ?_ | refine B.end ?_ | refine O.how (XOp.mkIndexArr (by omega)) ?_ | refine O.how (XOp.mkIndexSl (by omega)) ?_)); exact hq.ok)) : p := h ⟨hq⟩
theorem dstp {p q : Prop} (hq : q) (h : Then q → p := by (intro hq; (repeat (first | refine S.one ?_ | refine S.nil ?_ | refine S.next ?_ | refine RunT.seq ?_ | refine RunT.region ?_ | refine RunT.skip ?_ | refine RunT.ret ?_ | refine S.one0 ?_ | refine S.rec rfl ?_ | refine S.ifT ?_ | refine S.ifF ?_ | refine S.panic ?_ | refine thenT.ret ?_ | refine thenT.panic ?_ | refine S.end ?_ | refine S.ret ?_)); exact hq.ok)) : p := h ⟨hq⟩
end Go.Vm

/- A small machine over an abstract heap: words of 32 bits. -/
set_option linter.unusedSimpArgs false
set_option linter.unusedVariables false
namespace Go.Vm
open Go.IntWalk
def wcells (l : List UInt32) : List Value := l.map fun w => .int .u32 (w.toNat : Nat)
theorem wcells_len (l : List UInt32) : (wcells l).length = l.length := by simp [wcells]
theorem wcells_get : ∀ {l : List UInt32} {i : Nat}, i < l.length → lget (wcells l) i = .int .u32 ((l.getD i 0).toNat : Nat)
  | [], i, h => by simp at h
  | w :: l, 0, _ => rfl
  | w :: l, i + 1, h => by
    show lget (wcells l) i = _
    rw [wcells_get (by simpa using h)]
    simp
theorem wcells_set : ∀ {l : List UInt32} {i : Nat} {w : UInt32}, i < l.length → over (wcells l) i [.int .u32 (w.toNat : Nat)] = wcells (l.set i w)
  | [], i, w, h => by simp at h
  | v :: l, 0, w, _ => by
    show _ :: over (wcells l) 0 [] = _
    rw [over_nil]; rfl
  | v :: l, i + 1, w, h => by
    show _ :: over (wcells l) i _ = _
    rw [wcells_set (by simpa using h)]; rfl
class WIx (l : List UInt32) (i : Nat) : Prop where
  lt : i < l.length
instance {l : List UInt32} {i j : Nat} {w : UInt32} [h : WIx l i] : WIx (l.set j w) i := ⟨by simpa using h.lt⟩
instance (priority := 2000) {l : List UInt32} {i : Nat} [h : WIx l i] : CGet (wcells l) i (.int .u32 ((l.getD i 0).toNat : Nat)) := ⟨wcells_get h.lt, by rw [wcells_len]; exact h.lt⟩
instance (priority := 2000) {l : List UInt32} {i : Nat} {w : UInt32} [h : WIx l i] : Over (wcells l) i [.int .u32 (w.toNat : Nat)] (wcells (l.set i w)) := ⟨by rw [wcells_len]; have := h.lt; simp; omega, wcells_set h.lt⟩
theorem u32_nat (n : Nat) : IntKind.u32.wrap (n : Int) = ((n % 4294967296 : Nat) : Int) := by rw [IntKind.wrap_u32]; omega
theorem u32_lt (a : UInt32) : a.toNat < 4294967296 := a.toNat_lt
theorem u32_bv (a : UInt32) : BitVec.ofInt 32 (a.toNat : Int) = a.toBitVec := by
  rw [BitVec.ofInt_natCast]
  apply BitVec.eq_of_toNat_eq
  rw [BitVec.toNat_ofNat, Nat.mod_eq_of_lt (by have := u32_lt a; simpa using this)]
  rfl
theorem u32_add (a b : UInt32) : IntKind.u32.wrap ((a.toNat : Int) + (b.toNat : Int)) = ((a + b).toNat : Nat) := by
  rw [show ((a.toNat : Int) + (b.toNat : Int)) = ((a.toNat + b.toNat : Nat) : Int) from by omega, u32_nat, UInt32.toNat_add]
theorem u32_xor (a b : UInt32) : IntKind.u32.wrap ((BitVec.ofInt IntKind.u32.bits (a.toNat : Int) ^^^ BitVec.ofInt IntKind.u32.bits (b.toNat : Int)).toNat : Nat) = ((a ^^^ b).toNat : Nat) := by
  rw [show IntKind.u32.bits = 32 from rfl, u32_bv, u32_bv, u32_nat]
  congr 1
  exact Nat.mod_eq_of_lt (u32_lt (a ^^^ b))
theorem u32_or (a b : UInt32) : IntKind.u32.wrap ((BitVec.ofInt IntKind.u32.bits (a.toNat : Int) ||| BitVec.ofInt IntKind.u32.bits (b.toNat : Int)).toNat : Nat) = ((a ||| b).toNat : Nat) := by
  rw [show IntKind.u32.bits = 32 from rfl, u32_bv, u32_bv, u32_nat]
  congr 1
  exact Nat.mod_eq_of_lt (u32_lt (a ||| b))
section
variable {P : Program} {ts : List Value} {h : Heap} {x y : Operand} {t t' ty : TypeId} {O : Oper} {a b : UInt32}
instance (priority := 2000) XOp.addW [e1 : Ev ts x (.int .u32 (a.toNat : Nat))] [e2 : Ev ts y (.int .u32 (b.toNat : Nat))] : XOp P ts h (.bin .add O x y) (.int .u32 ((a + b).toNat : Nat)) h := ⟨rfl, by
  have := (XOp.add (P := P) (ts := ts) (h := h) (O := O) (K := .u32) (x := x) (y := y) (p := (a.toNat : Int)) (q := (b.toNat : Int))).eq
  rw [this, u32_add]⟩
instance (priority := 2000) XOp.xorW [e1 : Ev ts x (.int .u32 (a.toNat : Nat))] [e2 : Ev ts y (.int .u32 (b.toNat : Nat))] : XOp P ts h (.bin .xor (so (.binOp .xor t x y t') ty) x y) (.int .u32 ((a ^^^ b).toNat : Nat)) h := ⟨rfl, by
  have := (XOp.xorI (P := P) (ts := ts) (h := h) (K := .u32) (x := x) (y := y) (t := t) (t' := t') (ty := ty) (p := (a.toNat : Int)) (q := (b.toNat : Int))).eq
  rw [this, u32_xor]⟩
instance (priority := 2000) XOp.orW [e1 : Ev ts x (.int .u32 (a.toNat : Nat))] [e2 : Ev ts y (.int .u32 (b.toNat : Nat))] : XOp P ts h (.bin .or (so (.binOp .or t x y t') ty) x y) (.int .u32 ((a ||| b).toNat : Nat)) h := ⟨rfl, by
  have := (XOp.orI (P := P) (ts := ts) (h := h) (K := .u32) (x := x) (y := y) (t := t) (t' := t') (ty := ty) (p := (a.toNat : Int)) (q := (b.toNat : Int))).eq
  rw [this, u32_or]⟩
theorem mul_in {x : Int} (hb : -9223372036854775808 ≤ x ∧ x ≤ 9223372036854775807) : IntKind.i64.wrap x = x := i64_in x hb
instance (priority := 2000) XOp.convB {O : Oper} {c : UInt8} [e1 : Ev ts x (.int .u8 (c.toNat : Nat))] : XOp P ts h (.conv .u32 O x) (.int .u32 ((c.toUInt32).toNat : Nat)) h := ⟨rfl, by
  have := (XOp.conv (P := P) (ts := ts) (h := h) (O := O) (K := .u32) (x := x) (p := (c.toNat : Int))).eq
  rw [this, u32_nat]
  congr 2
  rw [UInt8.toNat_toUInt32, Nat.mod_eq_of_lt (by have := c.toNat_lt; omega)]⟩
instance (priority := 1900) XOp.convNW {O : Oper} {J : IntKind} {n : Nat} [e1 : Ev ts x (.int J (n : Nat))] : XOp P ts h (.conv .u32 O x) (.int .u32 ((UInt32.ofNat n).toNat : Nat)) h := ⟨rfl, by
  have := (XOp.conv (P := P) (ts := ts) (h := h) (O := O) (K := .u32) (x := x) (p := (n : Int))).eq
  rw [this, u32_nat, UInt32.toNat_ofNat']⟩
instance (priority := 2000) XOp.notW [e1 : Ev ts x (.int .u32 (a.toNat : Nat))] : XOp P ts h (.raw (so (.unOp .xor t x) ty)) (.int .u32 (((4294967295 : UInt32) ^^^ a).toNat : Nat)) h := ⟨rfl, by
  have := u32_xor 4294967295 a
  rw [← this]
  exact raw_ok (by simp [so, Op.operands, e1.eq, ground]) (by simp only [execOp, so, e1.eq]; rfl) rfl⟩
end
end Go.Vm

/- A small machine over an abstract heap: loops over functions. -/
set_option linter.unusedSimpArgs false
set_option linter.unusedVariables false
namespace Go.Vm
section
variable {P : Program} {T : Table} {ts : List Value} {ds : List Deferred} {h h' : Heap} {rd : Option Nat} {Q : QP} {rs : List (Nat × Option (Option Nat))} {R : RP} {X : XP} {v : Value} {r r2 : Nat} {a a2 : Array Value}
theorem L.coll [k : HGet h r (.defs false)] (hd : RunL P T rs ts ds .returning (h.set r (.defs true)) R X) : RunL P T rs ts ({ target := .collected r, args := a } :: ds) .returning h R X :=
  RunL.collected (by intro e; cases e) k.eq hd
theorem B.retC [k0 : HGet h r (.defs false)] [k : ResO (h.set r (.defs true)) ts rs v] (hr : R v (h.set r (.defs true))) : bodyQ P T rs R X .ret ⟨ts, [{ target := .collected r, args := a }], h, rd⟩ :=
  bodyQ.onRet (L.coll (L.nil (k := k) hr))
end
end Go.Vm

/- A small machine over an abstract heap: what is shown over a table holds over a larger one. -/
set_option linter.unusedSimpArgs false
set_option linter.unusedVariables false
namespace Go.Vm
def LeT (T T' : Table) : Prop := ∀ f af, T f = some af → T' f = some af
section
variable {P : Program} {T T' : Table}
end
def holed (P : Program) (ks : List FuncId) : Table := fun f => if ks.contains f then none else tableOf P f
end Go.Vm

/- A small machine over an abstract heap: rounds of loops over functions. -/
set_option linter.unusedSimpArgs false
set_option linter.unusedVariables false
namespace Go.Vm
section
variable {P : Program} {T : Table} {ts : List Value} {ds : List Deferred} {h h' : Heap} {rd : Option Nat} {Q : QP} {R : RP} {X : XP} {l : Nat} {ps : List Nat} {as b : Code} {as' b' : ACode}
def rndQ (l : Nat) (ts : List Value) (ps : List Nat) (as b : Code) (R : RP) : QP
  | .normal, s => s.h.get l = .loop .busy none ts ps as b ∧ R (.bool true) (s.h.set l (.loop .ready none ts ps as b))
  | .ret, s => s.h.get l = .loop .busy none ts ps as b ∧ R (.bool false) (s.h.set l (.loop .done (some .ret) ts ps as b))
  | .exit id, s => s.h.get l = .loop .busy none ts ps as b ∧ R (.bool false) (s.h.set l (.loop .done (some (.exit id)) ts ps as b))
  | _, _ => False
def asgQ (P : Program) (T : Table) (l : Nat) (ts : List Value) (ps : List Nat) (as b : Code) (b' : ACode) (R : RP) : QP
  | .normal, s => s.h.get l = .loop .ready none ts ps as b ∧ RunC P T b' { s with h := s.h.set l (.loop .busy none ts ps as b) } (rndQ l ts ps as b R)
  | _, _ => False
theorem Runs.round {ts1 : List Value} {args : List Value} (hg : h.get l = .loop .ready none ts ps as b) (hp : putAll ts ps args = ts1)
    (hn : args.length = ps.length) (n1 : noDefer as = true) (n2 : noDefer b = true) (ha : comp P as = some as') (hb : comp P b = some b')
    (hr : RunC P T as' ⟨ts1, [], h, some l⟩ (asgQ P T l ts ps as b b' R)) : Runs P T (.yield l) args h R X := by
  subst hp
  refine Runs.yield hg ⟨hn, n1, n2⟩ ha hb (RunC.mono hr fun e s hq => ?_)
  cases e with
  | normal =>
    refine ⟨rfl, none, ts, ps, as, b, hq.1, RunC.mono hq.2 fun e s hq => ?_⟩
    cases e with
    | normal =>
      obtain ⟨h1, h2⟩ := hq
      simp only [roundOut, endR, h1]
      exact h2
    | ret =>
      obtain ⟨h1, h2⟩ := hq
      simp only [roundOut, endR, h1]
      exact h2
    | exit id =>
      obtain ⟨h1, h2⟩ := hq
      simp only [roundOut, endR, h1]
      exact h2
    | _ => exact hq.elim
  | _ => exact hq.elim
theorem A.go [k : HGet h l (.loop .ready none ts ps as b)] {ts1 : List Value} {ds1 : List Deferred} (hr : RunC P T b' ⟨ts1, ds1, h.set l (.loop .busy none ts ps as b), rd⟩ (rndQ l ts ps as b R)) : asgQ P T l ts ps as b b' R .normal ⟨ts1, ds1, h, rd⟩ := ⟨k.eq, hr⟩
theorem A.on [k : HGet h l (.loop .busy none ts ps as b)] {ts1 : List Value} {ds1 : List Deferred} (hr : R (.bool true) (h.set l (.loop .ready none ts ps as b))) : rndQ l ts ps as b R .normal ⟨ts1, ds1, h, rd⟩ := ⟨k.eq, hr⟩
theorem A.ret [k : HGet h l (.loop .busy none ts ps as b)] {ts1 : List Value} {ds1 : List Deferred} (hr : R (.bool false) (h.set l (.loop .done (some .ret) ts ps as b))) : rndQ l ts ps as b R .ret ⟨ts1, ds1, h, rd⟩ := ⟨k.eq, hr⟩
theorem A.exit [k : HGet h l (.loop .busy none ts ps as b)] {ts1 : List Value} {ds1 : List Deferred} {id : Nat} (hr : R (.bool false) (h.set l (.loop .done (some (.exit id)) ts ps as b))) : rndQ l ts ps as b R (.exit id) ⟨ts1, ds1, h, rd⟩ := ⟨k.eq, hr⟩
theorem range_on {f : Operand} {fid : FuncId} {first captured : List Value} {J : Heap → Prop} [e : Ev ts f (.func (.func fid) ⟨first⟩ ⟨captured⟩)]
    (hr : Runs P T (.fn fid) (first ++ [.func (.yield (h.n + 1)) #[] #[]] ++ captured) ((h.push (.defs false)).push (.loop .ready none ts ps as b))
      (fun _ h' => h'.get (h.n + 1) = .loop .ready none ts ps as b ∧ J h') (fun _ _ => False))
    (hq : ∀ h', J h' → Q .normal ⟨ts, { target := .collected h.n, args := #[] } :: ds, (h'.set (h.n + 1) (.loop .exhausted none ts ps as b)).set (h.n + 1) .dead, none⟩) : RunC P T (.rangeFunc f ps as b) ⟨ts, ds, h, none⟩ Q :=
  RunC.rangeFunc (s := ⟨ts, ds, h, none⟩) rfl e.eq (Runs.mono hr (fun v h' hh => by
    intro o ho
    have hg : h'.get (h.push (.defs false)).n = .loop .ready none ts ps as b := hh.1
    simp only [lapOut, lapH, hg] at ho
    rw [if_neg (by decide)] at ho
    simp only [List.mem_singleton] at ho
    subst ho
    exact hq _ hh.2) fun _ _ hx => hx.elim)
end
attribute [irreducible] rndQ asgQ
end Go.Vm

/- A small machine over an abstract heap: slices that are sliced again. -/
set_option linter.unusedSimpArgs false
set_option linter.unusedVariables false
namespace Go.Vm
def Sd (h : Heap) (size : Nat) (v : Value) (c : List Value) (n : Nat) : Prop :=
  ∃ a cap, v = .slice a n cap ∧ n ≤ cap ∧ c.length = n * size ∧ (n ≠ 0 → ∃ b o sp, a = some ⟨b, o, sp⟩ ∧ b < h.n ∧ cellsAt h b o (n * size) = some c ∧ (sp ≠ none → ∃ cc, h.get b = .cells cc size))
section
variable {h h' : Heap} {size n : Nat} {v : Value} {c : List Value}
theorem Sd.rd (hv : Sd h size v c n) : Rd h size v c n := by
  obtain ⟨a, cap, rfl, hle, hl, hc⟩ := hv
  refine ⟨a, cap, rfl, hl, fun hn => ?_⟩
  obtain ⟨b, o, sp, e, hb, hcc, _⟩ := hc hn
  exact ⟨b, o, sp, e, hb, hcc⟩
theorem Sd.nil {a : Option Addr} {cap : Nat} : Sd h size (.slice a 0 cap) [] 0 := ⟨a, cap, rfl, Nat.zero_le _, by simp, fun h => absurd rfl h⟩
theorem Sd.keep {S : Nat → Prop} (hv : Sd h size v c n) (hf : Fr S h h') (hs : ∀ b, blockOf v b → ¬ S b) : Sd h' size v c n := by
  obtain ⟨a, cap, rfl, hle, hl, hc⟩ := hv
  refine ⟨a, cap, rfl, hle, hl, fun hn => ?_⟩
  obtain ⟨b, o, sp, rfl, hb, hcc, he⟩ := hc hn
  have hb2 : ¬ S b := hs b ⟨rfl, hn⟩
  refine ⟨b, o, sp, rfl, hf.lt hb, by rw [cellsAt_keep hf hb hb2]; exact hcc, fun h1 => ?_⟩
  rw [hf.get b hb hb2]
  exact he h1
theorem Sd.cut {e : Operand → Value} {lo hi : Option Operand} (i j : Nat) (hv : Sd h size v c n) (h1 : ∀ m, n ≤ m → bnd e m n hi = some j) (h2 : bnd e j 0 lo = some i) (hij : i ≤ j) (hj : j ≤ n) :
    ∃ v', sliceOf e size v lo hi none h = .ok v' h ∧ (∀ b, blockOf v' b → blockOf v b) ∧ Sd h size v' ((c.drop (i * size)).take ((j - i) * size)) (j - i) := by
  obtain ⟨a, cap, rfl, hle, hl, hc⟩ := hv
  have hmul : i * size + (j - i) * size = j * size := by rw [← Nat.add_mul]; congr 1; omega
  have hmul2 : j * size ≤ n * size := Nat.mul_le_mul_right _ hj
  have hlen : ((c.drop (i * size)).take ((j - i) * size)).length = (j - i) * size := by
    rw [List.length_take, List.length_drop]; omega
  have hz : j - i = 0 → ∀ a' cap', Sd h size (.slice a' (j - i) cap') ((c.drop (i * size)).take ((j - i) * size)) (j - i) := fun h0 a' cap' => by
    rw [h0, Nat.zero_mul, List.take_zero]
    exact Sd.nil
  have hb0 : bnd e cap cap none = some cap := rfl
  by_cases hn : n = 0
  · have hj0 : j - i = 0 := by omega
    cases a with
    | none => exact ⟨.slice none (j - i) (cap - i), by simp only [sliceOf, hb0, h1 cap hle, h2]; rw [if_neg (by omega)], fun b hb => hb.elim, hz hj0 _ _⟩
    | some a =>
      have h3 : ¬ (cap < j) := by omega
      obtain ⟨ab, ao, asp⟩ := a
      cases asp with
      | none => exact ⟨.slice (some (if cap = i then ⟨ab, ao, none⟩ else ⟨ab, ao + i * size, none⟩)) (j - i) (cap - i), by simp only [sliceOf, hb0, h1 cap hle, h2]; rw [if_neg h3], fun b hb => absurd hj0 hb.2, hz hj0 _ _⟩
      | some k =>
        have hi0 : i = 0 := by omega
        refine ⟨.slice (some ⟨ab, ao, some k⟩) j cap, by simp only [sliceOf, hb0, h1 cap hle, h2]; rw [if_neg h3]; simp only [hi0, if_true], fun b hb => ?_, ?_⟩
        · exact absurd (by omega) hb.2
        · have : j = j - i := by omega
          have h9 := hz hj0 (some ⟨ab, ao, some k⟩) cap
          rw [← this] at h9 ⊢
          exact h9
  · obtain ⟨b, o, sp, rfl, hb, hcc, he⟩ := hc hn
    have h3 : ¬ (cap < j) := by omega
    have hsub : cellsAt h b (o + i * size) ((j - i) * size) = some ((c.drop (i * size)).take ((j - i) * size)) := cellsAt_sub hcc (by omega)
    cases sp with
    | none =>
      refine ⟨.slice (some (if cap = i then ⟨b, o, none⟩ else ⟨b, o + i * size, none⟩)) (j - i) (cap - i), by simp only [sliceOf, hb0, h1 cap hle, h2]; rw [if_neg h3], fun b' hb' => ⟨by
        have := hb'.1
        split at this <;> exact this, hn⟩, ?_⟩
      refine ⟨_, _, rfl, by omega, hlen, fun hji => ?_⟩
      rw [if_neg (by omega)]
      exact ⟨b, _, none, rfl, hb, hsub, fun h => absurd rfl h⟩
    | some k =>
      obtain ⟨cc, hg⟩ := he (by simp)
      by_cases hi0 : i = 0
      · refine ⟨.slice (some ⟨b, o, some k⟩) j cap, by simp only [sliceOf, hb0, h1 cap hle, h2]; rw [if_neg h3]; simp only [hi0, if_true], fun b' hb' => ⟨hb'.1, hn⟩, ?_⟩
        subst hi0
        rw [Nat.sub_zero] at hlen hsub ⊢
        rw [Nat.zero_mul, Nat.add_zero] at hsub
        exact ⟨_, _, rfl, by omega, hlen, fun _ => ⟨b, o, some k, rfl, hb, by rw [Nat.zero_mul]; exact hsub, fun _ => ⟨cc, hg⟩⟩⟩
      · by_cases hic : cap = i
        · have hj0 : j - i = 0 := by omega
          refine ⟨.slice (some ⟨0, 0, some k⟩) 0 0, by simp only [sliceOf, hb0, h1 cap hle, h2]; rw [if_neg h3]; simp only [hi0, if_false, hic, if_true], fun b' hb' => absurd rfl hb'.2, ?_⟩
          have h9 := hz hj0 (some ⟨0, 0, some k⟩) 0
          rw [hj0] at h9 ⊢
          exact h9
        · refine ⟨.slice (some ⟨b, o + i * size, some k⟩) (j - i) (cap - i), by simp only [sliceOf, hb0, h1 cap hle, h2]; rw [if_neg h3]; simp only [hi0, if_false, if_neg hic, hg, if_true], fun b' hb' => ⟨hb'.1, hn⟩, ?_⟩
          exact ⟨_, _, rfl, by omega, hlen, fun _ => ⟨b, _, some k, rfl, hb, hsub, fun _ => ⟨cc, hg⟩⟩⟩
end
section
variable {P : Program} {T : Table} {ts : List Value} {ds : List Deferred} {h : Heap} {rd : Option Nat} {v : Value} {d size n : Nat} {c : List Value} {x : Operand} {lo hi : Option Operand} {chk : List (Option Nat × AOp × Option (Nat × Bool))} {pan : Bool} {rest : List AOper} {Q : QP} {F : Value → List Value}
theorem O.cut (i j : Nat) (hv : Sd h size v c n) [e1 : Ev ts x v] [s : LSetF ts d F] (h1 : ∀ m, n ≤ m → bnd (eval ts) m n hi = some j) (h2 : bnd (eval ts) j 0 lo = some i) (hij : i ≤ j) (hj : j ≤ n)
    (hk : ∀ v', (∀ b, blockOf v' b → blockOf v b) → Sd h size v' ((c.drop (i * size)).take ((j - i) * size)) (j - i) → RunO P T rest ⟨F v', ds, h, rd⟩ Q) : RunO P T (⟨some d, .sliceSl size x lo hi none, none, chk, pan⟩ :: rest) ⟨ts, ds, h, rd⟩ Q := by
  obtain ⟨v', hx, hbl, hr⟩ := hv.cut i j h1 h2 hij hj
  exact RunO.cons rfl (fun _ _ e => by cases e) (RunX.ok (h' := h) (v := v') (fun call => by rw [xo_plain rfl]; simp only [xop, e1.eq, hx]) (by
    show RunO P T rest ⟨lset ts d v', ds, h, rd⟩ Q
    rw [s.eq]; exact hk v' hbl hr))
theorem D.cut (i j : Nat) (hv : Sd h size v c n) [e1 : Ev ts x v] [s : LSetF ts d F] (h1 : ∀ m, n ≤ m → bnd (eval ts) m n hi = some j) (h2 : bnd (eval ts) j 0 lo = some i) (hij : i ≤ j) (hj : j ≤ n)
    (hk : ∀ v', (∀ b, blockOf v' b → blockOf v b) → Sd h size v' ((c.drop (i * size)).take ((j - i) * size)) (j - i) → RunD P T rest ⟨F v', ds, h, rd⟩ Q) : RunD P T (⟨some d, .sliceSl size x lo hi none, none, [], pan⟩ :: rest) ⟨ts, ds, h, rd⟩ Q := by
  obtain ⟨v', hx, hbl, hr⟩ := hv.cut i j h1 h2 hij hj
  exact RunD.cons rfl (RunX.ok (h' := h) (v := v') (fun call => by rw [xo_plain rfl]; simp only [xop, e1.eq, hx]) (by
    show _ ∧ RunD P T rest ⟨lset ts d v', ds, h, rd⟩ Q
    rw [s.eq]; exact ⟨rfl, hk v' hbl hr⟩))
theorem O.yield {l : Nat} {f : Operand} {args : List Operand} {vs : List Value} [e : Ev ts f (.func (.yield l) ⟨[]⟩ ⟨[]⟩)] [k : EvL ts args vs] [s : LSetF ts d F] {R : RP}
    (hr : Runs P T (.yield l) vs h R (fun _ _ => False)) (hk : ∀ v h', R v h' → RunO P T rest ⟨F v, ds, h', rd⟩ Q) :
    RunO P T (⟨some d, .callV f args, none, chk, pan⟩ :: rest) ⟨ts, ds, h, rd⟩ Q :=
  RunO.cons rfl (fun _ _ e => by cases e) (RunX.call (t := .yield l) (vs := vs) (by simp only [e.eq, k.eq, target]) (Runs.mono hr (fun v h' hv => by
    show RunO P T rest ⟨lset ts d v, ds, h', rd⟩ Q
    rw [s.eq]; exact hk v h' hv) fun _ _ hx => hx.elim))
theorem put_one {ts ts1 : List Value} {k : Nat} {v : Value} [s : LSet ts k v ts1] : putAll ts [k] [v] = ts1 := s.eq
end
end Go.Vm

/- A small machine over an abstract heap: strings, which is less. -/
set_option linter.unusedSimpArgs false
set_option linter.unusedVariables false
namespace Go.Vm
section
variable {P : Program} {ts : List Value} {h : Heap} {x y : Operand} {t t' ty : TypeId}
instance XOp.lssS {s s' : ByteArray} [e1 : Ev ts x (.string s)] [e2 : Ev ts y (.string s')] : XOp P ts h (.bin .lss (so (.binOp .lss t x y t') ty) x y) (.bool (Op.bytesLess s.toList s'.toList)) h :=
  ⟨rfl, (bin_raw (by intro k a b hu; cases hu) e1.eq e2.eq).trans (raw_bin e1.eq e2.eq rfl rfl rfl rfl)⟩
end
section
variable {P : Program} {T : Table} {ts : List Value} {ds : List Deferred} {h : Heap} {rd : Option Nat} {v : Value} {d size n : Nat} {c : List Value} {x : Operand} {lo hi : Option Operand} {chk : List (Option Nat × AOp × Option (Nat × Bool))} {pan : Bool} {rest : List AOper} {Q : QP} {F : Value → List Value}
end
end Go.Vm

/- A small machine over an abstract heap: methods of interface values. -/
set_option linter.unusedSimpArgs false
set_option linter.unusedVariables false
namespace Go.Vm
section
variable {P : Program} {T : Table} {ts : List Value} {ds : List Deferred} {h : Heap} {rd : Option Nat} {d : Nat} {chk : List (Option Nat × AOp × Option (Nat × Bool))} {pan : Bool} {rest : List AOper} {Q : QP} {F : Value → List Value}
theorem O.invoke {r : Operand} {name : String} {args : List Operand} {t : TypeId} {v recv : Value} {f : FuncId} {vs : List Value} [e : Ev ts r (.iface t v)] [k : EvL ts args vs] [s : LSetF ts d F] {R : RP}
    (hm : methodOf P h t v name = some (f, recv)) (hr : Runs P T (.fn f) (recv :: vs) h R (fun _ _ => False)) (hk : ∀ v h', R v h' → RunO P T rest ⟨F v, ds, h', rd⟩ Q) :
    RunO P T (⟨some d, .invoke r name args, none, chk, pan⟩ :: rest) ⟨ts, ds, h, rd⟩ Q :=
  have hr2 : Runs P T (.fn f) (recv :: args.map (eval ts)) h R (fun _ _ => False) := by rw [k.eq]; exact hr
  RunO.cons rfl (fun _ _ e => by cases e) (RunX.invoke (t := t) (v := v) (recv := recv) (f := f) e.eq hm (Runs.mono hr2 (fun v h' hv => by
    show RunO P T rest ⟨lset ts d v, ds, h', rd⟩ Q
    rw [s.eq]; exact hk v h' hv) fun _ _ hx => hx.elim))
end
end Go.Vm

/- Loops whose slots are told by a mask: 0 stays, 1 is written anew in each round, 2 turns. -/
set_option linter.unusedVariables false
namespace Go.Vm
open Go
def fillM : List Nat → List Value → List Value → List Value → List Value
  | 0 :: m, vs, us, t :: ts => t :: fillM m vs us.tail ts
  | 1 :: m, vs, us, _ :: ts => us.headD undef :: fillM m vs us.tail ts
  | (_ + 2) :: m, v :: vs, us, _ :: ts => v :: fillM m vs us.tail ts
  | _, _, _, ts => ts
def allM : List Nat → List Value → List Value → (List Value → Prop) → Prop
  | 0 :: m, vs, t :: ts, P => allM m vs ts fun l => P (t :: l)
  | 1 :: m, vs, _ :: ts, P => ∀ x, allM m vs ts fun l => P (x :: l)
  | (_ + 2) :: m, v :: vs, _ :: ts, P => allM m vs ts fun l => P (v :: l)
  | _, _, ts, P => P ts
theorem allM_fill : ∀ {m : List Nat} {vs ts : List Value} {P : List Value → Prop} (h : allM m vs ts P) (us : List Value), P (fillM m vs us ts)
  | 0 :: m, vs, t :: ts, P, h, us => allM_fill (m := m) (P := fun l => P (t :: l)) h us.tail
  | 1 :: m, vs, _ :: ts, P, h, us => allM_fill (m := m) (P := fun l => P (us.headD undef :: l)) (h _) us.tail
  | (_ + 2) :: m, v :: vs, _ :: ts, P, h, us => allM_fill (m := m) (P := fun l => P (v :: l)) h us.tail
  | [], _, _, _, h, _ => h
  | 0 :: _, _, [], _, h, _ => h
  | 1 :: _, _, [], _, h, _ => h
  | (_ + 2) :: _, [], _, _, h, _ => h
  | (_ + 2) :: _, _ :: _, [], _, h, _ => h
def JM (k : List Nat) (ts : List Value) (ds : List Deferred) (rd : Option Nat) (I : Nat → List Value → Heap → Prop) (m : Nat) (s : St) : Prop := ∃ vs h, s = ⟨fillM k vs s.ts ts, ds, h, rd⟩ ∧ I m vs h
section
variable {P : Program} {T : Table} {b : ACode} {ts us : List Value} {ds : List Deferred} {h : Heap} {rd : Option Nat} {Q : QP} {m : Nat} {k : List Nat}
theorem loopM {I : Nat → List Value → Heap → Prop} (hb : ∀ m vs h, I m vs h → ∀ us, RunC P T b ⟨fillM k vs us ts, ds, h, rd⟩ (loopQ (JM k ts ds rd I) m Q)) (m : Nat) {s : St} (hj : JM k ts ds rd I m s) : RunC P T (.loop b) s Q :=
  RunC.loopJ (JM k ts ds rd I) (fun m s hj => by
    obtain ⟨vs, h, e, hi⟩ := hj
    rw [e]
    exact hb m vs h hi s.ts) m s hj
def un0 (I : Nat → Heap → Prop) (m : Nat) (vs : List Value) (h : Heap) : Prop := vs = [] ∧ I m h
theorem loop0 (k : List Nat) (I : Nat → Heap → Prop) (hb : ∀ (m : Nat) (h : Heap), allM k [] ts fun l => I m h → RunC P T b ⟨l, ds, h, rd⟩ (loopQ (JM k ts ds rd (un0 I)) m Q)) (m : Nat) {h : Heap} (hi : I m h) (ha : fillM k [] ts ts = ts := by rfl) : RunC P T (.loop b) ⟨ts, ds, h, rd⟩ Q :=
  loopM (I := un0 I) (fun m vs h hi us => by
    obtain ⟨rfl, hi⟩ := hi
    exact allM_fill (hb m h) us hi) m ⟨[], h, by rw [ha], ⟨rfl, hi⟩⟩
theorem loop0a {I : Nat → Heap → Prop} (m' : Nat) (hm : m' < m) (hi : I m' h) (ha : fillM k [] us ts = us := by rfl) : loopQ (JM k ts ds rd (un0 I)) m Q .normal ⟨us, ds, h, rd⟩ :=
  loopQ.again m' hm ⟨[], h, by rw [ha], ⟨rfl, hi⟩⟩
def un1 (I : Nat → Value → Heap → Prop) (m : Nat) (vs : List Value) (h : Heap) : Prop := ∃ v0 : Value, vs = [v0] ∧ I m v0 h
theorem loop1 (k : List Nat) (i0 : Nat) {v0 : Value} [LGet ts i0 v0] (I : Nat → Value → Heap → Prop) (hb : ∀ (m : Nat) (v0 : Value) (h : Heap), allM k [v0] ts fun l => I m v0 h → RunC P T b ⟨l, ds, h, rd⟩ (loopQ (JM k ts ds rd (un1 I)) m Q)) (m : Nat) {h : Heap} (hi : I m v0 h) (ha : fillM k [v0] ts ts = ts := by rfl) : RunC P T (.loop b) ⟨ts, ds, h, rd⟩ Q :=
  loopM (I := un1 I) (fun m vs h hi us => by
    obtain ⟨v0, rfl, hi⟩ := hi
    exact allM_fill (hb m v0 h) us hi) m ⟨[v0], h, by rw [ha], ⟨_, rfl, hi⟩⟩
theorem loop1a (i0 : Nat) {v0 : Value} [LGet us i0 v0] {I : Nat → Value → Heap → Prop} (m' : Nat) (hm : m' < m) (hi : I m' v0 h) (ha : fillM k [v0] us ts = us := by rfl) : loopQ (JM k ts ds rd (un1 I)) m Q .normal ⟨us, ds, h, rd⟩ :=
  loopQ.again m' hm ⟨[v0], h, by rw [ha], ⟨_, rfl, hi⟩⟩
def un2 (I : Nat → Value → Value → Heap → Prop) (m : Nat) (vs : List Value) (h : Heap) : Prop := ∃ v0 v1 : Value, vs = [v0, v1] ∧ I m v0 v1 h
theorem loop2 (k : List Nat) (i0 i1 : Nat) {v0 v1 : Value} [LGet ts i0 v0] [LGet ts i1 v1] (I : Nat → Value → Value → Heap → Prop) (hb : ∀ (m : Nat) (v0 v1 : Value) (h : Heap), allM k [v0, v1] ts fun l => I m v0 v1 h → RunC P T b ⟨l, ds, h, rd⟩ (loopQ (JM k ts ds rd (un2 I)) m Q)) (m : Nat) {h : Heap} (hi : I m v0 v1 h) (ha : fillM k [v0, v1] ts ts = ts := by rfl) : RunC P T (.loop b) ⟨ts, ds, h, rd⟩ Q :=
  loopM (I := un2 I) (fun m vs h hi us => by
    obtain ⟨v0, v1, rfl, hi⟩ := hi
    exact allM_fill (hb m v0 v1 h) us hi) m ⟨[v0, v1], h, by rw [ha], ⟨_, _, rfl, hi⟩⟩
theorem loop2a (i0 i1 : Nat) {v0 v1 : Value} [LGet us i0 v0] [LGet us i1 v1] {I : Nat → Value → Value → Heap → Prop} (m' : Nat) (hm : m' < m) (hi : I m' v0 v1 h) (ha : fillM k [v0, v1] us ts = us := by rfl) : loopQ (JM k ts ds rd (un2 I)) m Q .normal ⟨us, ds, h, rd⟩ :=
  loopQ.again m' hm ⟨[v0, v1], h, by rw [ha], ⟨_, _, rfl, hi⟩⟩
def un3 (I : Nat → Value → Value → Value → Heap → Prop) (m : Nat) (vs : List Value) (h : Heap) : Prop := ∃ v0 v1 v2 : Value, vs = [v0, v1, v2] ∧ I m v0 v1 v2 h
theorem loop3 (k : List Nat) (i0 i1 i2 : Nat) {v0 v1 v2 : Value} [LGet ts i0 v0] [LGet ts i1 v1] [LGet ts i2 v2] (I : Nat → Value → Value → Value → Heap → Prop) (hb : ∀ (m : Nat) (v0 v1 v2 : Value) (h : Heap), allM k [v0, v1, v2] ts fun l => I m v0 v1 v2 h → RunC P T b ⟨l, ds, h, rd⟩ (loopQ (JM k ts ds rd (un3 I)) m Q)) (m : Nat) {h : Heap} (hi : I m v0 v1 v2 h) (ha : fillM k [v0, v1, v2] ts ts = ts := by rfl) : RunC P T (.loop b) ⟨ts, ds, h, rd⟩ Q :=
  loopM (I := un3 I) (fun m vs h hi us => by
    obtain ⟨v0, v1, v2, rfl, hi⟩ := hi
    exact allM_fill (hb m v0 v1 v2 h) us hi) m ⟨[v0, v1, v2], h, by rw [ha], ⟨_, _, _, rfl, hi⟩⟩
theorem loop3a (i0 i1 i2 : Nat) {v0 v1 v2 : Value} [LGet us i0 v0] [LGet us i1 v1] [LGet us i2 v2] {I : Nat → Value → Value → Value → Heap → Prop} (m' : Nat) (hm : m' < m) (hi : I m' v0 v1 v2 h) (ha : fillM k [v0, v1, v2] us ts = us := by rfl) : loopQ (JM k ts ds rd (un3 I)) m Q .normal ⟨us, ds, h, rd⟩ :=
  loopQ.again m' hm ⟨[v0, v1, v2], h, by rw [ha], ⟨_, _, _, rfl, hi⟩⟩
def un4 (I : Nat → Value → Value → Value → Value → Heap → Prop) (m : Nat) (vs : List Value) (h : Heap) : Prop := ∃ v0 v1 v2 v3 : Value, vs = [v0, v1, v2, v3] ∧ I m v0 v1 v2 v3 h
def un5 (I : Nat → Value → Value → Value → Value → Value → Heap → Prop) (m : Nat) (vs : List Value) (h : Heap) : Prop := ∃ v0 v1 v2 v3 v4 : Value, vs = [v0, v1, v2, v3, v4] ∧ I m v0 v1 v2 v3 v4 h
theorem loop5 (k : List Nat) (i0 i1 i2 i3 i4 : Nat) {v0 v1 v2 v3 v4 : Value} [LGet ts i0 v0] [LGet ts i1 v1] [LGet ts i2 v2] [LGet ts i3 v3] [LGet ts i4 v4] (I : Nat → Value → Value → Value → Value → Value → Heap → Prop) (hb : ∀ (m : Nat) (v0 v1 v2 v3 v4 : Value) (h : Heap), allM k [v0, v1, v2, v3, v4] ts fun l => I m v0 v1 v2 v3 v4 h → RunC P T b ⟨l, ds, h, rd⟩ (loopQ (JM k ts ds rd (un5 I)) m Q)) (m : Nat) {h : Heap} (hi : I m v0 v1 v2 v3 v4 h) (ha : fillM k [v0, v1, v2, v3, v4] ts ts = ts := by rfl) : RunC P T (.loop b) ⟨ts, ds, h, rd⟩ Q :=
  loopM (I := un5 I) (fun m vs h hi us => by
    obtain ⟨v0, v1, v2, v3, v4, rfl, hi⟩ := hi
    exact allM_fill (hb m v0 v1 v2 v3 v4 h) us hi) m ⟨[v0, v1, v2, v3, v4], h, by rw [ha], ⟨_, _, _, _, _, rfl, hi⟩⟩
theorem loop5a (i0 i1 i2 i3 i4 : Nat) {v0 v1 v2 v3 v4 : Value} [LGet us i0 v0] [LGet us i1 v1] [LGet us i2 v2] [LGet us i3 v3] [LGet us i4 v4] {I : Nat → Value → Value → Value → Value → Value → Heap → Prop} (m' : Nat) (hm : m' < m) (hi : I m' v0 v1 v2 v3 v4 h) (ha : fillM k [v0, v1, v2, v3, v4] us ts = us := by rfl) : loopQ (JM k ts ds rd (un5 I)) m Q .normal ⟨us, ds, h, rd⟩ :=
  loopQ.again m' hm ⟨[v0, v1, v2, v3, v4], h, by rw [ha], ⟨_, _, _, _, _, rfl, hi⟩⟩
end
end Go.Vm

/- A small machine over an abstract heap: maps whose keys are whole numbers. -/
set_option linter.unusedSimpArgs false
set_option linter.unusedVariables false
namespace Go.Vm
open Go
structure Ent where
  k : Int
  v : Value
  t : Nat
def Ent.me (e : Ent) : MapEntry := { key := .int .i64 e.k, val := e.v, born := e.t }
def ents (l : List Ent) : List MapEntry := l.map Ent.me
structure EntsOK (l : List Ent) (c : Nat) : Prop where
  k : (l.map (·.k)).Nodup
  t : (l.map (·.t)).Nodup
  lt : ∀ e ∈ l, e.t < c
theorem EntsOK.nil {c : Nat} : EntsOK [] c := ⟨List.nodup_nil, List.nodup_nil, by simp⟩
theorem EntsOK.filter {l : List Ent} {c : Nat} (h : EntsOK l c) (p : Ent → Bool) : EntsOK (l.filter p) c :=
  ⟨h.k.sublist ((List.filter_sublist).map _), h.t.sublist ((List.filter_sublist).map _), fun e he => h.lt e ((List.mem_filter.1 he).1)⟩
theorem EntsOK.add {l : List Ent} {c : Nat} {k : Int} {v : Value} (h : EntsOK l c) (hn : ∀ e ∈ l, e.k ≠ k) : EntsOK (l ++ [⟨k, v, c⟩]) (c + 1) := by
  refine ⟨?_, ?_, fun e he => ?_⟩
  · rw [List.map_append, List.nodup_append]
    refine ⟨h.k, by simp, fun a ha b hb => ?_⟩
    obtain ⟨e, he, rfl⟩ := List.mem_map.1 ha
    simp only [List.map_cons, List.map_nil, List.mem_singleton] at hb
    subst hb
    exact hn e he
  · rw [List.map_append, List.nodup_append]
    refine ⟨h.t, by simp, fun a ha b hb => ?_⟩
    obtain ⟨e, he, rfl⟩ := List.mem_map.1 ha
    simp only [List.map_cons, List.map_nil, List.mem_singleton] at hb
    subst hb
    have := h.lt e he
    omega
  · rcases List.mem_append.1 he with he | he
    · have := h.lt e he; omega
    · simp only [List.mem_singleton] at he
      subst he
      show c < c + 1
      omega
section
variable {P : Program} {ts : List Value} {h : Heap} {m x y : Operand} {zero w : Value} {ok : Bool} {r c : Nat} {l : List Ent} {k : Int}
end
def leftE (l : List Ent) (seen : List Nat) : List Ent := l.filter fun e => !seen.contains e.t
theorem next_ints {h : Heap} {r m c : Nat} {l : List Ent} {seen : List Nat} (gi : h.get r = .mapIter (some m) c seen c) (gm : h.get m = .map (ents l) c) (hl : ∀ e ∈ l, e.t < c) :
    nextAt h (.pointer (some ⟨r, 0, none⟩)) = some (if leftE l seen = [] then [(.tuple ⟨[.bool false]⟩, h)] else (leftE l seen).map fun e => (.tuple ⟨[.bool true, .int .i64 e.k, e.v]⟩, h.set r (.mapIter (some m) c (seen ++ [e.t]) c))) := by
  have hm : ∀ x ∈ ents l, x.born < c := fun x hx => by
    obtain ⟨e, he, rfl⟩ := List.mem_map.1 hx
    exact hl e he
  have hleft : (ents l).filter (fun en => !seen.contains en.born) = ents (leftE l seen) := by
    unfold ents leftE
    rw [List.filter_map]
    rfl
  have hold : (ents (leftE l seen)).filter (fun en => decide (en.born < c)) = ents (leftE l seen) := List.filter_eq_self.2 fun x hx => by
    obtain ⟨e, he, rfl⟩ := List.mem_map.1 hx
    exact decide_eq_true (hl e (List.mem_filter.1 he).1)
  have hnew : (ents (leftE l seen)).filter (fun en => decide (en.born ≥ c)) = [] := List.filter_eq_nil_iff.2 fun x hx => by
    obtain ⟨e, he, rfl⟩ := List.mem_map.1 hx
    have := hl e (List.mem_filter.1 he).1
    simp only [decide_eq_true_eq]
    show ¬ e.t ≥ c
    omega
  have hbad : (!seen.isEmpty && !(ents l).isEmpty && (ents l).all fun en => decide (en.born ≥ c)) = false := by
    cases hq : ents l with
    | nil => simp
    | cons x q =>
      have := hm x (by rw [hq]; simp)
      have : decide (x.born ≥ c) = false := decide_eq_false (by omega)
      simp [this]
  simp only [nextAt, gi, gm, hbad, hleft, hold, hnew]
  cases hq : leftE l seen with
  | nil => rfl
  | cons e q => simp [ents, Ent.me]
section
variable {P : Program} {T : Table} {ts tsF : List Value} {ds : List Deferred} {h : Heap} {rd : Option Nat} {d r m c : Nat} {chk : List (Option Nat × AOp × Option (Nat × Bool))} {pan : Bool} {rest : List AOper} {Q : QP} {F : Value → List Value} {l : List Ent} {seen : List Nat} {it : Operand}
theorem O.nextMap (hl : EntsOK l c) [e : Ev ts it (.pointer (some ⟨r, 0, none⟩))] [gi : HGet h r (.mapIter (some m) c seen c)] [gm : HGet h m (.map (ents l) c)] [s : LSetF ts d F]
    (hend : leftE l seen = [] → RunO P T rest ⟨F (.tuple ⟨[.bool false]⟩), ds, h, rd⟩ Q)
    (hnext : ∀ e ∈ leftE l seen, RunO P T rest ⟨F (.tuple ⟨[.bool true, .int .i64 e.k, e.v]⟩), ds, h.set r (.mapIter (some m) c (seen ++ [e.t]) c), rd⟩ Q) :
    RunO P T (⟨some d, .nextMap it, none, chk, pan⟩ :: rest) ⟨ts, ds, h, rd⟩ Q :=
  RunO.cons rfl (fun _ _ e => by cases e) (RunX.next (by show nextAt h (eval ts it) = _; rw [e.eq]; exact next_ints gi.eq gm.eq hl.lt) fun p hp => by
    show RunO P T rest ⟨lset ts d p.1, ds, p.2, rd⟩ Q
    rw [s.eq]
    split at hp
    · rename_i h0
      simp only [List.mem_singleton] at hp
      subst hp
      exact hend h0
    · obtain ⟨e, he, rfl⟩ := List.mem_map.1 hp
      exact hnext e he)
theorem find_born {l : List Ent} {e : Ent} (he : e ∈ l) (hn : (l.map (·.t)).Nodup) : (ents l).find? (fun en => en.born == e.t) = some e.me := by
  induction l with
  | nil => simp at he
  | cons a l ih =>
    simp only [List.map_cons, List.nodup_cons] at hn
    show (a.me :: ents l).find? _ = _
    by_cases ht : a.t = e.t
    · have : a = e := by
        rcases List.mem_cons.1 he with h | h
        · exact h.symm
        · exact absurd (List.mem_map.2 ⟨e, h, ht.symm⟩) hn.1
      subst this
      rw [List.find?_cons_of_pos (by simp [Ent.me])]
    · have hel : e ∈ l := by
        rcases List.mem_cons.1 he with h | h
        · exact absurd (by rw [h]) ht
        · exact h
      rw [List.find?_cons_of_neg (by simpa [Ent.me] using ht)]
      exact ih hel hn.2
theorem XOp.entryMap (hl : EntsOK l c) {x : Ent} (hx : x ∈ l) [e : Ev ts it (.pointer (some ⟨r, 0, none⟩))] [gi : HGet h r (.mapIter (some m) c (seen ++ [x.t]) c)] [gm : HGet h m (.map (ents l) c)] : XOp P ts h (.entryMap it) (.tuple ⟨[.int .i64 x.k, x.v]⟩) h := ⟨rfl, by
  simp only [xop, e.eq, gi.eq, List.getLast?_append, List.getLast?_singleton, Option.some_or, gm.eq, if_true, find_born hx hl.t]
  rfl⟩
end
structure TellE (l : List Ent) (done : List Ent) : Prop where
  t : (done.map (·.t)).Nodup
  mem : ∀ e ∈ done, e ∈ l
theorem TellE.nil {l : List Ent} : TellE l [] := ⟨List.nodup_nil, by simp⟩
theorem TellE.next {l done : List Ent} {e : Ent} (h : TellE l done) (he : e ∈ leftE l (done.map (·.t))) : TellE l (done ++ [e]) := by
  obtain ⟨h1, h2⟩ := List.mem_filter.1 he
  refine ⟨?_, fun x hx => ?_⟩
  · rw [List.map_append, List.nodup_append]
    refine ⟨h.t, by simp, fun a ha b hb => ?_⟩
    simp only [List.map_cons, List.map_nil, List.mem_singleton] at hb
    subst hb
    rintro rfl
    simp only [Bool.not_eq_true', List.contains_eq_mem, decide_eq_false_iff_not] at h2
    exact h2 ha
  · rcases List.mem_append.1 hx with hx | hx
    · exact h.mem x hx
    · simp only [List.mem_singleton] at hx
      subst hx
      exact h1
theorem nodup_of_map {α β : Type} (f : α → β) {l : List α} (h : (l.map f).Nodup) : l.Nodup := by
  induction l with
  | nil => exact List.nodup_nil
  | cons a l ih =>
    simp only [List.map_cons, List.nodup_cons] at h
    exact List.nodup_cons.2 ⟨fun q => h.1 (List.mem_map.2 ⟨a, q, rfl⟩), ih h.2⟩
theorem perm_of_same {α : Type} : ∀ {l m : List α}, l.Nodup → m.Nodup → (∀ a, a ∈ l ↔ a ∈ m) → l.Perm m
  | [], m, _, _, h => by
    cases m with
    | nil => exact .refl _
    | cons a m => exact absurd ((h a).2 (by simp)) (by simp)
  | a :: l, m, hl, hm, h => by
    obtain ⟨p, q, rfl⟩ := List.append_of_mem ((h a).1 (by simp))
    have hl' := List.nodup_cons.1 hl
    have hm' : (a :: (p ++ q)).Nodup := (List.perm_middle.nodup_iff).1 hm
    have hm2 := List.nodup_cons.1 hm'
    refine ((perm_of_same hl'.2 hm2.2 fun b => ?_).cons a).trans List.perm_middle.symm
    have hb := h b
    simp only [List.mem_cons, List.mem_append] at hb ⊢
    constructor
    · intro q
      have := hb.1 (.inr q)
      rcases this with h1 | h1 | h1
      · exact .inl h1
      · subst h1; exact absurd q hl'.1
      · exact .inr h1
    · intro q
      have := hb.2 (q.elim .inl fun q => .inr (.inr q))
      rcases this with h1 | h1
      · subst h1
        exact absurd (List.mem_append.2 q) hm2.1
      · exact h1
theorem TellE.all {l done : List Ent} (ht : (l.map (·.t)).Nodup) (h : TellE l done) (hn : leftE l (done.map (·.t)) = []) : done.Perm l := by
  refine perm_of_same (nodup_of_map _ h.t) (nodup_of_map _ ht) fun e => ⟨h.mem e, fun he => ?_⟩
  have := List.filter_eq_nil_iff.1 hn e he
  simp only [Bool.not_eq_true', List.contains_eq_mem, decide_eq_false_iff_not, Classical.not_not] at this
  obtain ⟨x, hx, hxe⟩ := List.mem_map.1 this
  have hxl := h.mem x hx
  have : x = e := by
    clear hn this h
    induction l with
    | nil => simp at he
    | cons a l ih =>
      simp only [List.map_cons, List.nodup_cons] at ht
      rcases List.mem_cons.1 he with h1 | h1 <;> rcases List.mem_cons.1 hxl with h2 | h2
      · rw [h1, h2]
      · subst h1; exact absurd (List.mem_map.2 ⟨x, h2, hxe⟩) ht.1
      · subst h2; exact absurd (List.mem_map.2 ⟨e, h1, hxe.symm⟩) ht.1
      · exact ih ht.2 h1 h2
  rwa [this] at hx
def MRuns (P : Program) (T : Table) (t : TypeId) (v : Value) (name : String) (args : List Value) (h : Heap) (R : RP) : Prop :=
  ∃ f recv, methodOf P h t v name = some (f, recv) ∧ Runs P T (.fn f) (recv :: args) h R (fun _ _ => False)
section
variable {P : Program} {T : Table} {ts : List Value} {ds : List Deferred} {h : Heap} {rd : Option Nat} {d : Nat} {chk : List (Option Nat × AOp × Option (Nat × Bool))} {pan : Bool} {rest : List AOper} {Q : QP} {F : Value → List Value}
theorem MRuns.mono {t : TypeId} {v : Value} {name : String} {args : List Value} {R R' : RP} (hm : MRuns P T t v name args h R) (hk : ∀ v h', R v h' → R' v h') : MRuns P T t v name args h R' :=
  let ⟨f, r, h1, h2⟩ := hm
  ⟨f, r, h1, h2.mono hk fun _ _ h => h⟩
end
def methF (P : Program) (t : TypeId) (name : String) : Option (FuncId × Bool) :=
  (P.info? t).bind fun i => (i.methods.find? (·.name == name)).bind fun m => if m.path.isEmpty then m.func else none
section
variable {P : Program} {T : Table} {ts : List Value} {ds : List Deferred} {h : Heap} {rd : Option Nat} {d : Nat} {chk : List (Option Nat × AOp × Option (Nat × Bool))} {pan : Bool} {rest : List AOper} {Q : QP} {F : Value → List Value}
end
end Go.Vm
