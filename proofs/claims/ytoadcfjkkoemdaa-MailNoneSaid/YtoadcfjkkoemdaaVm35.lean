/- A small machine over an abstract heap: numbers, frames, calls, slices that grow. -/
import Derived.Test.YtoadcfjkkoemdaaVm34
import Derived.IntWalk
set_option linter.unusedSimpArgs false
set_option linter.unusedVariables false
namespace Go.Vm
open Go.IntWalk

/-! ### Numbers -/

theorem inr_i64 {n : Int} (h : -9223372036854775808 ≤ n ∧ n ≤ 9223372036854775807) : InR .i64 n := ⟨i64_in n h⟩
theorem inr_u64 {n : Int} (h : 0 ≤ n ∧ n ≤ 18446744073709551615) : InR .u64 n := ⟨u64_in n h⟩
theorem inr_u32 {n : Int} (h : 0 ≤ n ∧ n ≤ 4294967295) : InR .u32 n := ⟨u32_in n h⟩
theorem inr_i32 {n : Int} (h : -2147483648 ≤ n ∧ n ≤ 2147483647) : InR .i32 n := ⟨i32_in n h⟩
theorem inr_u8 {n : Int} (h : 0 ≤ n ∧ n ≤ 255) : InR .u8 n := ⟨u8_in n h⟩
theorem wrap_u8 (n : Int) : IntKind.u8.wrap n = n % 256 := IntKind.wrap_u8 n
theorem wrap_u32 (n : Int) : IntKind.u32.wrap n = n % 4294967296 := IntKind.wrap_u32 n
theorem wrap_u64 (n : Int) : IntKind.u64.wrap n = n % 18446744073709551616 := by
  unfold IntKind.wrap
  simp [IntKind.bits, IntKind.signed]

section
variable {P : Program} {ts : List Value} {h h' : Heap} {x y a b c i : Operand} {u v w : Value} {l l' out : List Value} {o n k size len r off m : Nat} {sp : Option Nat} {K J : IntKind} {p q : Int} {O : Oper} {A B : Bool}

theorem XOp.addI (hb : -9223372036854775808 ≤ p + q ∧ p + q ≤ 9223372036854775807) [e1 : Ev ts x (.int .i64 p)] [e2 : Ev ts y (.int .i64 q)] : XOp P ts h (.bin .add O x y) (.int .i64 (p + q)) h := by
  haveI := inr_i64 hb; exact XOp.addIn
theorem XOp.subI (hb : -9223372036854775808 ≤ p - q ∧ p - q ≤ 9223372036854775807) [e1 : Ev ts x (.int .i64 p)] [e2 : Ev ts y (.int .i64 q)] : XOp P ts h (.bin .sub O x y) (.int .i64 (p - q)) h := by
  haveI := inr_i64 hb; exact XOp.subIn
theorem XOp.mulI (hb : -9223372036854775808 ≤ p * q ∧ p * q ≤ 9223372036854775807) [e1 : Ev ts x (.int .i64 p)] [e2 : Ev ts y (.int .i64 q)] : XOp P ts h (.bin .mul O x y) (.int .i64 (p * q)) h := by
  haveI := inr_i64 hb; exact XOp.mulIn
theorem XOp.convI (hb : -9223372036854775808 ≤ p ∧ p ≤ 9223372036854775807) [e1 : Ev ts x (.int J p)] : XOp P ts h (.conv .i64 O x) (.int .i64 p) h := by
  haveI := inr_i64 hb; exact XOp.convIn
theorem XOp.convU8 (hb : 0 ≤ p ∧ p ≤ 255) [e1 : Ev ts x (.int J p)] : XOp P ts h (.conv .u8 O x) (.int .u8 p) h := by
  haveI := inr_u8 hb; exact XOp.convIn
theorem XOp.convU64 (hb : 0 ≤ p ∧ p ≤ 18446744073709551615) [e1 : Ev ts x (.int J p)] : XOp P ts h (.conv .u64 O x) (.int .u64 p) h := by
  haveI := inr_u64 hb; exact XOp.convIn
theorem XOp.convU32 (hb : 0 ≤ p ∧ p ≤ 4294967295) [e1 : Ev ts x (.int J p)] : XOp P ts h (.conv .u32 O x) (.int .u32 p) h := by
  haveI := inr_u32 hb; exact XOp.convIn

/-! ### Operations that the model is asked -/

theorem raw_ok {e : Operand → Value} (hg : O.op.operands.toList.all (fun x => ground (e x)) = true) (hp : pr P (execOp e O) = some (.ok (.value v))) (hv : ground v = true) : rawOp P e O h = .ok v h := by
  unfold rawOp
  rw [if_pos hg, hp]
  simp only [hv, if_true]

instance XOp.notB {t ty : TypeId} [e : Ev ts x (.bool A)] : XOp P ts h (.raw (so (.unOp .not t x) ty)) (.bool (!A)) h := ⟨rfl, raw_ok (by simp [so, Op.operands, e.eq, ground]) (by simp only [execOp, so, e.eq]; rfl) rfl⟩
instance XOp.negI {t ty : TypeId} [e : Ev ts x (.int K p)] : XOp P ts h (.raw (so (.unOp .neg t x) ty)) (.int K (K.wrap (0 - p))) h := ⟨rfl, raw_ok (by simp [so, Op.operands, e.eq, ground]) (by simp only [execOp, so, e.eq]; rfl) rfl⟩

theorem bin_raw {op : BinOp} (hn : ∀ k a b, u = .int k a → v = .int k b → binInt op k a b = none) (e1 : eval ts x = u) (e2 : eval ts y = v) : xop P (eval ts) h (.bin op O x y) = rawOp P (eval ts) O h := by
  simp only [xop, binOpV, e1, e2]
  cases u <;> cases v <;> try rfl
  rename_i k a k' b
  simp only
  split
  · rename_i hk
    subst hk
    rw [hn k a b rfl rfl]
  · rfl

section
variable {t t' ty : TypeId}
theorem raw_bin {op : BinOp} (e1 : eval ts x = u) (e2 : eval ts y = v) (h1 : ground u = true) (h2 : ground v = true) (hp : pr P (do eqGuard op t x y u v; binOp op t u v) = some (.ok w)) (hw : ground w = true) :
    rawOp P (eval ts) (so (.binOp op t x y t') ty) h = .ok w h := by
  refine raw_ok (by simp [so, Op.operands, e1, e2, h1, h2]) ?_ hw
  simp only [execOp, so, e1, e2]
  have hb : ∀ (s : Sem Value) (k : Value → Sem Next), pr P s = some (.ok w) → pr P (s >>= k) = pr P (k w) := by
    intro s
    induction s with
    | pure a => intro k hs; simp [pr] at hs; subst hs; rfl
    | program f ih => intro k hs; exact ih P k hs
    | halt x => intro k hs; cases x <;> simp [pr] at hs
    | _ => intro k hs; simp [pr] at hs
  exact hb _ _ hp

instance XOp.eqlS {s s' : ByteArray} [e1 : Ev ts x (.string s)] [e2 : Ev ts y (.string s')] : XOp P ts h (.bin .eql (so (.binOp .eql t x y t') ty) x y) (.bool (s.toList == s'.toList)) h :=
  ⟨rfl, (bin_raw (by intro k a b hu; cases hu) e1.eq e2.eq).trans (raw_bin e1.eq e2.eq rfl rfl rfl rfl)⟩
instance XOp.neqS {s s' : ByteArray} [e1 : Ev ts x (.string s)] [e2 : Ev ts y (.string s')] : XOp P ts h (.bin .neq (so (.binOp .neq t x y t') ty) x y) (.bool (!(s.toList == s'.toList))) h :=
  ⟨rfl, (bin_raw (by intro k a b hu; cases hu) e1.eq e2.eq).trans (raw_bin e1.eq e2.eq rfl rfl rfl rfl)⟩
end

/-! two nil interfaces -/
theorem pr_bind {α β : Type} {P : Program} {s : Sem α} {k : α → Sem β} {a : α} (h : pr P s = some (.ok a)) : pr P (s >>= k) = pr P (k a) := by
  induction s with
  | pure b => simp [pr] at h; subst h; rfl
  | program f ih => exact ih P h
  | halt x => cases x <;> simp [pr] at h
  | _ => simp [pr] at h
theorem pr_under {P : Program} {t : TypeId} {d : TypeDesc} (h : P.underlying t = some d) : pr P (underlying t) = some (.ok d) := by
  unfold underlying
  rw [pr_bind (a := P) rfl]
  rw [h]
  rfl
def isIface (P : Program) (t : TypeId) : Bool := match P.underlying t with
  | some (.interface _) => true
  | _ => false
class IsIface (P : Program) (t : TypeId) : Prop where
  eq : isIface P t = true
theorem pr_eq_nil {P : Program} {t : TypeId} (h : IsIface P t) : pr P (Op.equal t .nilIface .nilIface) = some (.ok true) := by
  have := h.eq
  unfold isIface at this
  split at this
  · rename_i ms hm
    unfold Op.equal
    show pr P (Op.equalIn (9999 + 1) t .nilIface .nilIface) = _
    rw [Op.equalIn]
    rw [pr_bind (pr_under hm)]
    rfl
  · cases this
theorem pr_guard_nil {P : Program} {op : BinOp} {t : TypeId} {x : Operand} : pr P (eqGuard op t x (.const .nilIface) .nilIface .nilIface) = some (.ok ()) := by
  unfold eqGuard
  cases op <;> first | rfl | (cases x <;> rfl)
instance XOp.eqNilIf {t t' ty : TypeId} [e : Ev ts x .nilIface] [i : IsIface P t] : XOp P ts h (.eq .iface false (so (.binOp .eql t x (.const .nilIface) t') ty) x (.const .nilIface)) (.bool true) h := ⟨rfl, by
  have e2 : eval ts (.const .nilIface) = .nilIface := rfl
  simp only [xop, eqOpV, e.eq, e2]
  exact raw_bin e.eq e2 rfl rfl (by rw [pr_bind pr_guard_nil]; show pr P (Op.equal t .nilIface .nilIface >>= fun b => (pure (Value.bool b) : Sem Value)) = _; rw [pr_bind (pr_eq_nil i)]; rfl) rfl⟩
instance XOp.neNilIf {t t' ty : TypeId} [e : Ev ts x .nilIface] [i : IsIface P t] : XOp P ts h (.eq .iface true (so (.binOp .neq t x (.const .nilIface) t') ty) x (.const .nilIface)) (.bool false) h := ⟨rfl, by
  have e2 : eval ts (.const .nilIface) = .nilIface := rfl
  simp only [xop, eqOpV, e.eq, e2]
  exact raw_bin e.eq e2 rfl rfl (by rw [pr_bind pr_guard_nil]; show pr P (Op.equal t .nilIface .nilIface >>= fun b => (pure (Value.bool !b) : Sem Value)) = _; rw [pr_bind (pr_eq_nil i)]; rfl) rfl⟩

/-! ### Calls -/
end

/-- a slot is written, whatever with -/
class LSetF (l : List Value) (i : Nat) (f : outParam (Value → List Value)) : Prop where
  eq : ∀ v, lset l i v = f v
section
variable {a0 a1 a2 a3 a4 a5 a6 a7 : Value} {l : List Value} {f : Value → List Value} {i : Nat}
instance LSetF.i0 : LSetF (a0 :: l) 0 (fun v => v :: l) := ⟨fun _ => rfl⟩
instance LSetF.i1 : LSetF (a0 :: a1 :: l) 1 (fun v => a0 :: v :: l) := ⟨fun _ => rfl⟩
instance LSetF.i2 : LSetF (a0 :: a1 :: a2 :: l) 2 (fun v => a0 :: a1 :: v :: l) := ⟨fun _ => rfl⟩
instance LSetF.i3 : LSetF (a0 :: a1 :: a2 :: a3 :: l) 3 (fun v => a0 :: a1 :: a2 :: v :: l) := ⟨fun _ => rfl⟩
instance LSetF.i4 : LSetF (a0 :: a1 :: a2 :: a3 :: a4 :: l) 4 (fun v => a0 :: a1 :: a2 :: a3 :: v :: l) := ⟨fun _ => rfl⟩
instance LSetF.i5 : LSetF (a0 :: a1 :: a2 :: a3 :: a4 :: a5 :: l) 5 (fun v => a0 :: a1 :: a2 :: a3 :: a4 :: v :: l) := ⟨fun _ => rfl⟩
instance LSetF.i6 : LSetF (a0 :: a1 :: a2 :: a3 :: a4 :: a5 :: a6 :: l) 6 (fun v => a0 :: a1 :: a2 :: a3 :: a4 :: a5 :: v :: l) := ⟨fun _ => rfl⟩
instance LSetF.i7 : LSetF (a0 :: a1 :: a2 :: a3 :: a4 :: a5 :: a6 :: a7 :: l) 7 (fun v => a0 :: a1 :: a2 :: a3 :: a4 :: a5 :: a6 :: v :: l) := ⟨fun _ => rfl⟩
instance LSetF.j8 [h : LSetF l i f] : LSetF (a0 :: a1 :: a2 :: a3 :: a4 :: a5 :: a6 :: a7 :: l) (i + 8) (fun v => a0 :: a1 :: a2 :: a3 :: a4 :: a5 :: a6 :: a7 :: f v) := ⟨fun v => by show _ :: _ :: _ :: _ :: _ :: _ :: _ :: _ :: lset l i v = _; rw [h.eq]⟩
end

/-- lists behind each other -/
class App2 (a b : List Value) (c : outParam (List Value)) : Prop where
  eq : a ++ b = c
instance {b : List Value} : App2 [] b b := ⟨rfl⟩
instance {v : Value} {a b c : List Value} [h : App2 a b c] : App2 (v :: a) b (v :: c) := ⟨by rw [List.cons_append, h.eq]⟩
instance (priority := low) {a b : List Value} : App2 a b (a ++ b) := ⟨rfl⟩

section
variable {P : Program} {T : Table} {ts ts' : List Value} {ds : List Deferred} {h h' : Heap} {rd : Option Nat} {op : AOp} {v : Value} {d : Nat} {chk : List (Option Nat × AOp × Option (Nat × Bool))} {pan : Bool} {rest : List AOper} {Q : QP} {F : Value → List Value}

/-- a call that comes back -/
theorem O.call' {f : Operand} {args : List Operand} {fid : FuncId} {first captured vs mid all : List Value} [e : Ev ts f (.func (.func fid) ⟨first⟩ ⟨captured⟩)] [k : EvL ts args vs] [a1 : App2 first vs mid] [a2 : App2 mid captured all] [s : LSetF ts d F] {R : RP}
    (hr : Runs P T (.fn fid) all h R (fun _ _ => False)) (hk : ∀ v h', R v h' → RunO P T rest ⟨F v, ds, h', rd⟩ Q) :
    RunO P T (⟨some d, .callV f args, none, chk, pan⟩ :: rest) ⟨ts, ds, h, rd⟩ Q :=
  O.call (R := R) (X := fun _ _ => False) (by rw [a1.eq, a2.eq]; exact hr) (fun v h' hv => by rw [s.eq]; exact hk v h' hv) (fun _ _ hx => hx.elim)
/-- .. or panics -/
theorem O.callX {f : Operand} {args : List Operand} {fid : FuncId} {first captured vs mid all : List Value} [e : Ev ts f (.func (.func fid) ⟨first⟩ ⟨captured⟩)] [k : EvL ts args vs] [a1 : App2 first vs mid] [a2 : App2 mid captured all] [s : LSetF ts d F] {R : RP} {X : XP}
    (hr : Runs P T (.fn fid) all h R X) (hk : ∀ v h', R v h' → RunO P T rest ⟨F v, ds, h', rd⟩ Q) (hx : ∀ c h', X c h' → Q (.panic c) ⟨ts, ds, h', rd⟩) :
    RunO P T (⟨some d, .callV f args, none, chk, pan⟩ :: rest) ⟨ts, ds, h, rd⟩ Q :=
  O.call (R := R) (X := X) (by rw [a1.eq, a2.eq]; exact hr) (fun v h' hv => by rw [s.eq]; exact hk v h' hv) hx
theorem O.call0' {f : Operand} {args : List Operand} {fid : FuncId} {first captured vs mid all : List Value} [e : Ev ts f (.func (.func fid) ⟨first⟩ ⟨captured⟩)] [k : EvL ts args vs] [a1 : App2 first vs mid] [a2 : App2 mid captured all] {R : RP}
    (hr : Runs P T (.fn fid) all h R (fun _ _ => False)) (hk : ∀ v h', R v h' → RunO P T rest ⟨ts, ds, h', rd⟩ Q) :
    RunO P T (⟨none, .callV f args, none, chk, pan⟩ :: rest) ⟨ts, ds, h, rd⟩ Q :=
  O.call0 (R := R) (X := fun _ _ => False) (by rw [a1.eq, a2.eq]; exact hr) hk (fun _ _ hx => hx.elim)
theorem D.callX {f : Operand} {args : List Operand} {fid : FuncId} {first captured vs mid all : List Value} [e : Ev ts f (.func (.func fid) ⟨first⟩ ⟨captured⟩)] [k : EvL ts args vs] [a1 : App2 first vs mid] [a2 : App2 mid captured all] [s : LSetF ts d F] {R : RP} {X : XP}
    (hr : Runs P T (.fn fid) all h R X) (hc : ∀ v h', R v h' → chk.all (stable P (F v) h') = true) (hk : ∀ v h', R v h' → RunD P T rest ⟨F v, ds, h', rd⟩ Q) (hx : ∀ c h', X c h' → pan = true ∧ Q (.panic c) ⟨ts, ds, h', rd⟩) :
    RunD P T (⟨some d, .callV f args, none, chk, pan⟩ :: rest) ⟨ts, ds, h, rd⟩ Q :=
  RunD.cons rfl (RunX.call (t := .fn fid) (vs := all) (by simp only [e.eq, k.eq, target]; rw [← a2.eq, ← a1.eq]) (Runs.mono hr (fun v h' hv => by
    show chk.all (stable P (lset ts d v) h') = true ∧ RunD P T rest ⟨lset ts d v, ds, h', rd⟩ Q
    rw [s.eq]; exact ⟨hc v h' hv, hk v h' hv⟩) hx))

/-- a panic of the text's own -/
theorem O.panic {x : Operand} {t : TypeId} {dst : Option Nat} [e : Ev ts x (.iface t v)] (hq : Q (.panic [{ v := .iface t v, recovered := false }]) ⟨ts, ds, h, rd⟩) : RunO P T (⟨dst, .panic x, none, chk, pan⟩ :: rest) ⟨ts, ds, h, rd⟩ Q :=
  RunO.cons rfl (fun _ _ e => by cases e) (RunX.pan (fun call => by rw [xo_plain rfl]; simp only [xop, e.eq]) hq)

/-- a guard that is a test: it is known from now on -/
theorem O.dec {t : Nat} {w : Bool} {dst : Option Nat} {p : Prop} [Decidable p] {tT tF : List Value} [g : LGet ts t (.bool (decide p))] [s1 : LSet ts t (.bool true) tT] [s2 : LSet ts t (.bool false) tF]
    (hT : p → RunO P T (⟨dst, op, some (t, w), chk, pan⟩ :: rest) ⟨tT, ds, h, rd⟩ Q) (hF : ¬ p → RunO P T (⟨dst, op, some (t, w), chk, pan⟩ :: rest) ⟨tF, ds, h, rd⟩ Q) :
    RunO P T (⟨dst, op, some (t, w), chk, pan⟩ :: rest) ⟨ts, ds, h, rd⟩ Q := by
  have same : ∀ (l : List Value) (i : Nat), lset l i (lget l i) = l := by
    intro l
    induction l with
    | nil => intro i; rfl
    | cons a l ih => intro i; cases i with
      | zero => rfl
      | succ i => simp only [lset, lget, ih]
  have hs := same ts t
  rw [g.eq] at hs
  by_cases hp : p
  · rw [decide_eq_true hp, s1.eq] at hs
    rw [← hs]; exact hT hp
  · rw [decide_eq_false hp, s2.eq] at hs
    rw [← hs]; exact hF hp
theorem O.decN {t : Nat} {w : Bool} {dst : Option Nat} {p : Prop} [Decidable p] {tT tF : List Value} [g : LGet ts t (.bool (!decide p))] [s1 : LSet ts t (.bool true) tT] [s2 : LSet ts t (.bool false) tF]
    (hT : ¬ p → RunO P T (⟨dst, op, some (t, w), chk, pan⟩ :: rest) ⟨tT, ds, h, rd⟩ Q) (hF : p → RunO P T (⟨dst, op, some (t, w), chk, pan⟩ :: rest) ⟨tF, ds, h, rd⟩ Q) :
    RunO P T (⟨dst, op, some (t, w), chk, pan⟩ :: rest) ⟨ts, ds, h, rd⟩ Q := by
  haveI : LGet ts t (.bool (decide (¬ p))) := ⟨by rw [g.eq]; simp, g.lt⟩
  exact O.dec (p := ¬ p) hT fun h => hF (Classical.not_not.1 h)
/-- a flag that is nobody's test -/
theorem O.decB {t : Nat} {w A : Bool} {dst : Option Nat} {tT tF : List Value} [g : LGet ts t (.bool A)] [s1 : LSet ts t (.bool true) tT] [s2 : LSet ts t (.bool false) tF]
    (hT : A = true → RunO P T (⟨dst, op, some (t, w), chk, pan⟩ :: rest) ⟨tT, ds, h, rd⟩ Q) (hF : A = false → RunO P T (⟨dst, op, some (t, w), chk, pan⟩ :: rest) ⟨tF, ds, h, rd⟩ Q) :
    RunO P T (⟨dst, op, some (t, w), chk, pan⟩ :: rest) ⟨ts, ds, h, rd⟩ Q := by
  haveI : LGet ts t (.bool (decide (A = true))) := ⟨by rw [g.eq]; simp, g.lt⟩
  exact O.dec (p := A = true) hT fun h => hF (by simpa using h)

/-- a guard that is a test: it is known from now on -/
theorem D.dec {t : Nat} {w : Bool} {dst : Option Nat} {p : Prop} [Decidable p] {tT tF : List Value} [g : LGet ts t (.bool (decide p))] [s1 : LSet ts t (.bool true) tT] [s2 : LSet ts t (.bool false) tF]
    (hT : p → RunD P T (⟨dst, op, some (t, w), chk, pan⟩ :: rest) ⟨tT, ds, h, rd⟩ Q) (hF : ¬ p → RunD P T (⟨dst, op, some (t, w), chk, pan⟩ :: rest) ⟨tF, ds, h, rd⟩ Q) :
    RunD P T (⟨dst, op, some (t, w), chk, pan⟩ :: rest) ⟨ts, ds, h, rd⟩ Q := by
  have same : ∀ (l : List Value) (i : Nat), lset l i (lget l i) = l := by
    intro l
    induction l with
    | nil => intro i; rfl
    | cons a l ih => intro i; cases i with
      | zero => rfl
      | succ i => simp only [lset, lget, ih]
  have hs := same ts t
  rw [g.eq] at hs
  by_cases hp : p
  · rw [decide_eq_true hp, s1.eq] at hs
    rw [← hs]; exact hT hp
  · rw [decide_eq_false hp, s2.eq] at hs
    rw [← hs]; exact hF hp
theorem D.decN {t : Nat} {w : Bool} {dst : Option Nat} {p : Prop} [Decidable p] {tT tF : List Value} [g : LGet ts t (.bool (!decide p))] [s1 : LSet ts t (.bool true) tT] [s2 : LSet ts t (.bool false) tF]
    (hT : ¬ p → RunD P T (⟨dst, op, some (t, w), chk, pan⟩ :: rest) ⟨tT, ds, h, rd⟩ Q) (hF : p → RunD P T (⟨dst, op, some (t, w), chk, pan⟩ :: rest) ⟨tF, ds, h, rd⟩ Q) :
    RunD P T (⟨dst, op, some (t, w), chk, pan⟩ :: rest) ⟨ts, ds, h, rd⟩ Q := by
  haveI : LGet ts t (.bool (decide (¬ p))) := ⟨by rw [g.eq]; simp, g.lt⟩
  exact D.dec (p := ¬ p) hT fun h => hF (Classical.not_not.1 h)
/-- a flag that is nobody's test -/
theorem D.decB {t : Nat} {w A : Bool} {dst : Option Nat} {tT tF : List Value} [g : LGet ts t (.bool A)] [s1 : LSet ts t (.bool true) tT] [s2 : LSet ts t (.bool false) tF]
    (hT : A = true → RunD P T (⟨dst, op, some (t, w), chk, pan⟩ :: rest) ⟨tT, ds, h, rd⟩ Q) (hF : A = false → RunD P T (⟨dst, op, some (t, w), chk, pan⟩ :: rest) ⟨tF, ds, h, rd⟩ Q) :
    RunD P T (⟨dst, op, some (t, w), chk, pan⟩ :: rest) ⟨ts, ds, h, rd⟩ Q := by
  haveI : LGet ts t (.bool (decide (A = true))) := ⟨by rw [g.eq]; simp, g.lt⟩
  exact D.dec (p := A = true) hT fun h => hF (by simpa using h)

theorem D.skT {t : Nat} [g : LGet ts t (.bool false)] [s : LSet ts d undef ts'] (hc : chk.all (stable P ts' h) = true := by rfl) (hr : RunD P T rest ⟨ts', ds, h, rd⟩ Q) : RunD P T (⟨some d, op, some (t, true), chk, pan⟩ :: rest) ⟨ts, ds, h, rd⟩ Q :=
  RunD.skip (by simp only [wantedT, g.eq]; rfl) (by show chk.all (stable P (lset ts d undef) h) = true; rw [s.eq]; exact hc) (by show RunD P T rest ⟨lset ts d undef, ds, h, rd⟩ Q; rw [s.eq]; exact hr)
theorem D.skF {t : Nat} [g : LGet ts t (.bool true)] [s : LSet ts d undef ts'] (hc : chk.all (stable P ts' h) = true := by rfl) (hr : RunD P T rest ⟨ts', ds, h, rd⟩ Q) : RunD P T (⟨some d, op, some (t, false), chk, pan⟩ :: rest) ⟨ts, ds, h, rd⟩ Q :=
  RunD.skip (by simp only [wantedT, g.eq]; rfl) (by show chk.all (stable P (lset ts d undef) h) = true; rw [s.eq]; exact hc) (by show RunD P T rest ⟨lset ts d undef, ds, h, rd⟩ Q; rw [s.eq]; exact hr)

theorem Runs.noPanic {t : Tgt} {args : List Value} {R : RP} {X : XP} (hr : Runs P T t args h R (fun _ _ => False)) : Runs P T t args h R X := hr.imp fun _ _ h => h

/-! ### Frames -/

end

/-- nothing of what stood turned, but the blocks of S -/
structure Fr (S : Nat → Prop) (h h' : Heap) : Prop where
  n : h.n ≤ h'.n
  get : ∀ i, i < h.n → ¬ S i → h'.get i = h.get i

section
variable {S S' : Nat → Prop} {h h' h'' : Heap} {b : Nat} {o : AObj}
theorem Fr.refl : Fr S h h := ⟨Nat.le_refl _, fun _ _ _ => rfl⟩
theorem Fr.trans (a : Fr S h h') (c : Fr S' h' h'') (hs : ∀ i, i < h.n → S' i → S i) : Fr S h h'' :=
  ⟨Nat.le_trans a.n c.n, fun i hi hn => by rw [c.get i (Nat.lt_of_lt_of_le hi a.n) (fun h => hn (hs i hi h)), a.get i hi hn]⟩
theorem Fr.trans' (a : Fr S h h') (c : Fr S h' h'') : Fr S h h'' := a.trans c fun _ _ h => h
theorem Fr.push (a : Fr S h h') : Fr S h (h'.push o) := ⟨Nat.le_trans a.n (by simp), fun i hi hn => by
  rw [Heap.get_push, if_neg (by have := a.n; omega)]; exact a.get i hi hn⟩
theorem Fr.set (a : Fr S h h') (hb : b < h.n → S b) : Fr S h (h'.set b o) := ⟨by simpa using a.n, fun i hi hn => by
  rw [Heap.get_set]
  by_cases e : i = b
  · subst e; exact absurd (hb hi) hn
  · rw [if_neg e]; exact a.get i hi hn⟩
theorem Fr.mono (a : Fr S h h') (hs : ∀ i, i < h.n → S i → S' i) : Fr S' h h' := ⟨a.n, fun i hi hn => a.get i hi fun h => hn (hs i hi h)⟩
theorem Fr.keep (a : Fr S h h') (k : HGet h b o) (hb : b < h.n) (hn : ¬ S b) : HGet h' b o := ⟨by rw [a.get b hb hn, k.eq]⟩
theorem Fr.lt (a : Fr S h h') (hb : b < h.n) : b < h'.n := Nat.lt_of_lt_of_le hb a.n
end

end Go.Vm
