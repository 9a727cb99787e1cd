/- A small machine over an abstract heap: an operation without a slot in a drawn region, behind which others are read again. -/
import Derived.Test.YtlckmpioipiihaaGreatVJ
import Derived.Test.YtlckmpioipiihaaGreatVH
namespace Go.Vm
set_option linter.unusedVariables false
section
variable {P : Program} {T : Table} {ts ts' : List Value} {ds : List Deferred} {h h' : Heap} {rd : Option Nat} {op : AOp} {v : Value} {d : Nat} {chk : List (Option Nat × AOp × Option (Nat × Bool))} {pan : Bool} {rest : List AOper} {Q : QP} {F : Value → List Value}
end
end Go.Vm

/- A small machine over an abstract heap: the machine's steps as far as they go. -/
namespace Go.Vm
structure Then (q : Prop) : Prop where
  ok : q
theorem stp {p q : Prop} (hq : q) (h : Then q → p := by (intro hq; (repeat (first | refine O.how (XOp.addI (by omega)) ?_ | refine O.how (XOp.subI (by omega)) ?_ | refine O.how (XOp.convI (by omega)) ?_ | refine O.how (XOp.convU64 (by omega)) ?_ | refine O.how (XOp.convU8 (by omega)) ?_ | refine O.one ?_ | refine O.nil ?_ | refine C.next ?_ | refine RunC.seq ?_ | refine RunC.region ?_ | refine RunC.block ?_ | refine RunC.skip ?_ | refine RunC.exit ?_ | refine RunC.ret ?_ | refine RunC.regionD ?_ | refine D.how (XOp.addI (by omega)) rfl ?_ | refine D.how (XOp.subI (by omega)) rfl ?_ | refine D.how (XOp.convI (by omega)) rfl ?_ | refine D.one rfl ?_ | refine D.nil ?_ | refine O.one0 ?_ | refine D.one0 rfl ?_ | refine D.one0s ?_ | refine C.nextB ?_ | refine C.exit2 ?_ | refine C.exitB ?_ | refine C.retB ?_ | refine C.ret2 ?_ | refine loopQ.exit ?_ | refine loopQ.ret ?_ | refine C.exitN (by decide) ?_ | refine O.howT (XOp.mkIndexSl (by omega)) ?_ | refine O.howT (XOp.mkIndexArr (by omega)) ?_ | refine O.howT (XOp.addI (by omega)) ?_ | refine O.howT (XOp.subI (by omega)) ?_ | refine O.oneT ?_ | refine O.skT ?_ | refine O.skF ?_ | refine O.skU ?_ | refine D.howT (XOp.addI (by omega)) rfl ?_ | refine D.howT (XOp.subI (by omega)) rfl ?_ | refine D.oneT rfl ?_ | refine D.skT rfl ?_ | refine D.skF rfl ?_ | refine D.skU rfl ?_ | refine C.ifT ?_ | refine C.ifF ?_ | refine B.ret ?_ | refine B.deferred ?_ | refine B.deferredP ?_ | refine O.defer0 ?_ | refine B.end ?_ | refine O.panic ?_ | refine C.pan2 ?_ | refine C.panB ?_ | refine loopQ.panic ?_ | refine B.panic ?_ | refine O.how (XOp.mkIndexArr (by omega)) ?_ | refine O.how (XOp.mkIndexSl (by omega)) ?_ | refine D.how (XOp.mkIndexArr (by omega)) rfl ?_ | refine D.how (XOp.mkIndexSl (by omega)) rfl ?_)); exact hq.ok)) : p := h ⟨hq⟩
theorem stpP {p q : Prop} (hq : q) (h : Then q → p := by (intro hq; (repeat (first | refine O.how (XOp.addI (by omega)) ?_ | refine O.how (XOp.subI (by omega)) ?_ | refine O.how (XOp.convI (by omega)) ?_ | refine O.how (XOp.convU64 (by omega)) ?_ | refine O.how (XOp.convU8 (by omega)) ?_ | refine O.one ?_ | refine O.nil ?_ | refine C.next ?_ | refine RunC.seq ?_ | refine RunC.region ?_ | refine RunC.block ?_ | refine RunC.skip ?_ | refine RunC.exit ?_ | refine RunC.ret ?_ | refine RunC.regionD ?_ | refine D.how (XOp.addI (by omega)) rfl ?_ | refine D.how (XOp.subI (by omega)) rfl ?_ | refine D.how (XOp.convI (by omega)) rfl ?_ | refine D.one rfl ?_ | refine D.nil ?_ | refine O.one0 ?_ | refine D.one0 rfl ?_ | refine D.one0s ?_ | refine C.nextB ?_ | refine C.exit2 ?_ | refine C.exitB ?_ | refine C.retB ?_ | refine C.ret2 ?_ | refine loopQ.exit ?_ | refine loopQ.ret ?_ | refine C.exitN (by decide) ?_ | refine O.howT (XOp.mkIndexSl (by omega)) ?_ | refine O.howT (XOp.mkIndexArr (by omega)) ?_ | refine O.howT (XOp.addI (by omega)) ?_ | refine O.howT (XOp.subI (by omega)) ?_ | refine O.oneT ?_ | refine O.skT ?_ | refine O.skF ?_ | refine O.skU ?_ | refine D.howT (XOp.addI (by omega)) rfl ?_ | refine D.howT (XOp.subI (by omega)) rfl ?_ | refine D.oneT rfl ?_ | refine D.skT rfl ?_ | refine D.skF rfl ?_ | refine D.skU rfl ?_ | refine C.ifT ?_ | refine C.ifF ?_ | refine B.ret ?_ | refine B.end ?_ | refine O.how (XOp.mkIndexArr (by omega)) ?_ | refine O.how (XOp.mkIndexSl (by omega)) ?_ | refine D.how (XOp.mkIndexArr (by omega)) rfl ?_ | refine D.how (XOp.mkIndexSl (by omega)) rfl ?_)); exact hq.ok)) : p := h ⟨hq⟩
theorem stpDP {p q : Prop} (hq : q) (h : Then q → p := by (intro hq; (repeat (first | refine O.how (XOp.addI (by omega)) ?_ | refine O.how (XOp.subI (by omega)) ?_ | refine O.how (XOp.convI (by omega)) ?_ | refine O.how (XOp.convU64 (by omega)) ?_ | refine O.how (XOp.convU8 (by omega)) ?_ | refine O.one ?_ | refine O.nil ?_ | refine C.next ?_ | refine RunC.seq ?_ | refine RunC.region ?_ | refine RunC.block ?_ | refine RunC.skip ?_ | refine RunC.exit ?_ | refine RunC.ret ?_ | refine O.one0 ?_ | refine C.nextB ?_ | refine C.exit2 ?_ | refine C.exitB ?_ | refine C.retB ?_ | refine C.ret2 ?_ | refine loopQ.exit ?_ | refine loopQ.ret ?_ | refine C.exitN (by decide) ?_ | refine O.howT (XOp.mkIndexSl (by omega)) ?_ | refine O.howT (XOp.mkIndexArr (by omega)) ?_ | refine O.howT (XOp.addI (by omega)) ?_ | refine O.howT (XOp.subI (by omega)) ?_ | refine O.oneT ?_ | refine O.skT ?_ | refine O.skF ?_ | refine O.skU ?_ | refine C.ifT ?_ | refine C.ifF ?_ | refine B.ret ?_ | refine B.end ?_ | refine O.how (XOp.mkIndexArr (by omega)) ?_ | refine O.how (XOp.mkIndexSl (by omega)) ?_)); exact hq.ok)) : p := h ⟨hq⟩
end Go.Vm

/- A small machine over an abstract heap: words of 32 bits. -/
set_option linter.unusedSimpArgs false
set_option linter.unusedVariables false
namespace Go.Vm
open Go.IntWalk
def wcells (l : List UInt32) : List Value := l.map fun w => .int .u32 (w.toNat : Nat)
theorem wcells_len (l : List UInt32) : (wcells l).length = l.length := by simp [wcells]
theorem wcells_append (l m : List UInt32) : wcells (l ++ m) = wcells l ++ wcells m := by simp [wcells]
theorem wcells_one (l : List UInt32) : (wcells l).all Value.oneCell' = true := by simp [wcells, Value.oneCell']
theorem wcells_get : ∀ {l : List UInt32} {i : Nat}, i < l.length → lget (wcells l) i = .int .u32 ((l.getD i 0).toNat : Nat)
  | [], i, h => by simp at h
  | w :: l, 0, _ => rfl
  | w :: l, i + 1, h => by
    show lget (wcells l) i = _
    rw [wcells_get (by simpa using h)]
    simp
theorem wcells_set : ∀ {l : List UInt32} {i : Nat} {w : UInt32}, i < l.length → over (wcells l) i [.int .u32 (w.toNat : Nat)] = wcells (l.set i w)
  | [], i, w, h => by simp at h
  | v :: l, 0, w, _ => by
    show _ :: over (wcells l) 0 [] = _
    rw [over_nil]; rfl
  | v :: l, i + 1, w, h => by
    show _ :: over (wcells l) i _ = _
    rw [wcells_set (by simpa using h)]; rfl
class WIx (l : List UInt32) (i : Nat) : Prop where
  lt : i < l.length
instance {l : List UInt32} {i j : Nat} {w : UInt32} [h : WIx l i] : WIx (l.set j w) i := ⟨by simpa using h.lt⟩
instance (priority := 2000) {l : List UInt32} {i : Nat} [h : WIx l i] : CGet (wcells l) i (.int .u32 ((l.getD i 0).toNat : Nat)) := ⟨wcells_get h.lt, by rw [wcells_len]; exact h.lt⟩
instance (priority := 2000) {l : List UInt32} {i : Nat} {w : UInt32} [h : WIx l i] : Over (wcells l) i [.int .u32 (w.toNat : Nat)] (wcells (l.set i w)) := ⟨by rw [wcells_len]; have := h.lt; simp; omega, wcells_set h.lt⟩
theorem u32_nat (n : Nat) : IntKind.u32.wrap (n : Int) = ((n % 4294967296 : Nat) : Int) := by rw [IntKind.wrap_u32]; omega
theorem u32_lt (a : UInt32) : a.toNat < 4294967296 := a.toNat_lt
theorem u32_bv (a : UInt32) : BitVec.ofInt 32 (a.toNat : Int) = a.toBitVec := by
  rw [BitVec.ofInt_natCast]
  apply BitVec.eq_of_toNat_eq
  rw [BitVec.toNat_ofNat, Nat.mod_eq_of_lt (by have := u32_lt a; simpa using this)]
  rfl
theorem u32_add (a b : UInt32) : IntKind.u32.wrap ((a.toNat : Int) + (b.toNat : Int)) = ((a + b).toNat : Nat) := by
  rw [show ((a.toNat : Int) + (b.toNat : Int)) = ((a.toNat + b.toNat : Nat) : Int) from by omega, u32_nat, UInt32.toNat_add]
theorem u32_xor (a b : UInt32) : IntKind.u32.wrap ((BitVec.ofInt IntKind.u32.bits (a.toNat : Int) ^^^ BitVec.ofInt IntKind.u32.bits (b.toNat : Int)).toNat : Nat) = ((a ^^^ b).toNat : Nat) := by
  rw [show IntKind.u32.bits = 32 from rfl, u32_bv, u32_bv, u32_nat]
  congr 1
  exact Nat.mod_eq_of_lt (u32_lt (a ^^^ b))
theorem u32_or (a b : UInt32) : IntKind.u32.wrap ((BitVec.ofInt IntKind.u32.bits (a.toNat : Int) ||| BitVec.ofInt IntKind.u32.bits (b.toNat : Int)).toNat : Nat) = ((a ||| b).toNat : Nat) := by
  rw [show IntKind.u32.bits = 32 from rfl, u32_bv, u32_bv, u32_nat]
  congr 1
  exact Nat.mod_eq_of_lt (u32_lt (a ||| b))
theorem u32_shl (a : UInt32) (n : Nat) (hn : n < 32) : IntKind.u32.wrap ((a.toNat : Int) * 2 ^ n) = ((a <<< UInt32.ofNat n).toNat : Nat) := by
  rw [show ((a.toNat : Int) * 2 ^ n) = ((a.toNat * 2 ^ n : Nat) : Int) from by rw [Int.natCast_mul, Int.natCast_pow]; rfl, u32_nat]
  congr 1
  rw [UInt32.toNat_shiftLeft, Nat.shiftLeft_eq, UInt32.toNat_ofNat', Nat.mod_eq_of_lt (show n < 2 ^ 32 by omega), Nat.mod_eq_of_lt hn]
theorem u32_shr (a : UInt32) (n : Nat) (hn : n < 32) : (a.toNat : Int).fdiv (2 ^ n) = ((a >>> UInt32.ofNat n).toNat : Nat) := by
  rw [show ((2 : Int) ^ n) = ((2 ^ n : Nat) : Int) from by rw [Int.natCast_pow]; rfl, Int.fdiv_eq_ediv_of_nonneg _ (Int.natCast_nonneg _), UInt32.toNat_shiftRight, Nat.shiftRight_eq_div_pow, UInt32.toNat_ofNat', Nat.mod_eq_of_lt (show n < 2 ^ 32 by omega), Nat.mod_eq_of_lt hn]
  omega
section
variable {P : Program} {ts : List Value} {h : Heap} {x y : Operand} {t t' ty : TypeId} {O : Oper} {a b : UInt32}
instance (priority := 2000) XOp.addW [e1 : Ev ts x (.int .u32 (a.toNat : Nat))] [e2 : Ev ts y (.int .u32 (b.toNat : Nat))] : XOp P ts h (.bin .add O x y) (.int .u32 ((a + b).toNat : Nat)) h := ⟨rfl, by
  have := (XOp.add (P := P) (ts := ts) (h := h) (O := O) (K := .u32) (x := x) (y := y) (p := (a.toNat : Int)) (q := (b.toNat : Int))).eq
  rw [this, u32_add]⟩
instance (priority := 2000) XOp.xorW [e1 : Ev ts x (.int .u32 (a.toNat : Nat))] [e2 : Ev ts y (.int .u32 (b.toNat : Nat))] : XOp P ts h (.bin .xor (so (.binOp .xor t x y t') ty) x y) (.int .u32 ((a ^^^ b).toNat : Nat)) h := ⟨rfl, by
  have := (XOp.xorI (P := P) (ts := ts) (h := h) (K := .u32) (x := x) (y := y) (t := t) (t' := t') (ty := ty) (p := (a.toNat : Int)) (q := (b.toNat : Int))).eq
  rw [this, u32_xor]⟩
instance (priority := 2000) XOp.orW [e1 : Ev ts x (.int .u32 (a.toNat : Nat))] [e2 : Ev ts y (.int .u32 (b.toNat : Nat))] : XOp P ts h (.bin .or (so (.binOp .or t x y t') ty) x y) (.int .u32 ((a ||| b).toNat : Nat)) h := ⟨rfl, by
  have := (XOp.orI (P := P) (ts := ts) (h := h) (K := .u32) (x := x) (y := y) (t := t) (t' := t') (ty := ty) (p := (a.toNat : Int)) (q := (b.toNat : Int))).eq
  rw [this, u32_or]⟩
theorem XOp.shlW {J : IntKind} {q : Int} (n : Nat) (hq : q = n) (hn : n < 32) [e1 : Ev ts x (.int .u32 (a.toNat : Nat))] [e2 : Ev ts y (.int J q)] : XOp P ts h (.bin .shl (so (.binOp .shl t x y t') ty) x y) (.int .u32 ((a <<< UInt32.ofNat n).toNat : Nat)) h := ⟨rfl, by
  have := (XOp.shl (P := P) (ts := ts) (h := h) (K := .u32) (x := x) (y := y) (t := t) (t' := t') (ty := ty) (p := (a.toNat : Int)) (q := q) (by omega)).eq
  rw [this, show min q.toNat IntKind.u32.bits = n from by rw [hq, show IntKind.u32.bits = 32 from rfl]; omega, u32_shl a n hn]⟩
theorem XOp.shrW {J : IntKind} {q : Int} (n : Nat) (hq : q = n) (hn : n < 32) [e1 : Ev ts x (.int .u32 (a.toNat : Nat))] [e2 : Ev ts y (.int J q)] : XOp P ts h (.bin .shr (so (.binOp .shr t x y t') ty) x y) (.int .u32 ((a >>> UInt32.ofNat n).toNat : Nat)) h := ⟨rfl, by
  have := (XOp.shr (P := P) (ts := ts) (h := h) (K := .u32) (x := x) (y := y) (t := t) (t' := t') (ty := ty) (p := (a.toNat : Int)) (q := q) (by omega)).eq
  rw [this, show min q.toNat IntKind.u32.bits = n from by rw [hq, show IntKind.u32.bits = 32 from rfl]; omega, u32_shr a n hn]⟩
theorem mul_in {x : Int} (hb : -9223372036854775808 ≤ x ∧ x ≤ 9223372036854775807) : IntKind.i64.wrap x = x := i64_in x hb
instance (priority := 2000) XOp.convB {O : Oper} {c : UInt8} [e1 : Ev ts x (.int .u8 (c.toNat : Nat))] : XOp P ts h (.conv .u32 O x) (.int .u32 ((c.toUInt32).toNat : Nat)) h := ⟨rfl, by
  have := (XOp.conv (P := P) (ts := ts) (h := h) (O := O) (K := .u32) (x := x) (p := (c.toNat : Int))).eq
  rw [this, u32_nat]
  congr 2
  rw [UInt8.toNat_toUInt32, Nat.mod_eq_of_lt (by have := c.toNat_lt; omega)]⟩
instance (priority := 1900) XOp.convNW {O : Oper} {J : IntKind} {n : Nat} [e1 : Ev ts x (.int J (n : Nat))] : XOp P ts h (.conv .u32 O x) (.int .u32 ((UInt32.ofNat n).toNat : Nat)) h := ⟨rfl, by
  have := (XOp.conv (P := P) (ts := ts) (h := h) (O := O) (K := .u32) (x := x) (p := (n : Int))).eq
  rw [this, u32_nat, UInt32.toNat_ofNat']⟩
instance (priority := 2000) XOp.notW [e1 : Ev ts x (.int .u32 (a.toNat : Nat))] : XOp P ts h (.raw (so (.unOp .xor t x) ty)) (.int .u32 (((4294967295 : UInt32) ^^^ a).toNat : Nat)) h := ⟨rfl, by
  have := u32_xor 4294967295 a
  rw [← this]
  exact raw_ok (by simp [so, Op.operands, e1.eq, ground]) (by simp only [execOp, so, e1.eq]; rfl) rfl⟩
theorem XOp.mkCopy {size n m c c' : Nat} {r o : Nat} {sp : Option Nat} {b : Addr} {xs : List Value} {h' : Heap} [e1 : Ev ts x (.slice (some ⟨r, o, sp⟩) n c)] [e2 : Ev ts y (.slice (some b) m c')] (hc : cellsAt h b.block b.off (min m n * size) = some xs) (hp : putAt h r o xs = some h') :
    XOp P ts h (.copy size x y) (.int .i64 (min m n : Nat)) h' := ⟨rfl, by
  simp only [xop, copyOf, e1.eq, e2.eq, hc, hp]⟩
theorem XOp.mkSl {size n c q o i j : Nat} {sp : Option Nat} {cs : List Value} {es : Nat} {lo hi : Option Operand} [e1 : Ev ts x (.slice (some ⟨q, o, sp⟩) n c)] (hj : bnd (eval ts) c n hi = some j) (hi' : bnd (eval ts) j 0 lo = some i) (hij : i < j) (hjn : j ≤ n) (hn : n ≤ c) (hz : size ≠ 0) (hg : h.get q = .cells cs es) (hs : sp ≠ none → es = size) :
    XOp P ts h (.sliceSl size x lo hi none) (.slice (some ⟨q, o + i * size, sp⟩) (j - i) (c - i)) h := ⟨rfl, by
  simp only [xop, e1.eq, sliceOf]
  rw [show bnd (eval ts) c c none = some c from rfl]
  simp only [hj, hi']
  rw [if_neg (by omega)]
  cases sp with
  | none =>
    simp only
    rw [if_neg (by omega)]
  | some k =>
    simp only
    by_cases h0 : i = 0
    · subst h0
      simp
    · rw [if_neg h0, if_neg (by omega), hg]
      simp only
      rw [if_pos (hs (by simp))]⟩
theorem XOp.mkSliceArrHi {hi : Operand} {n size j r o : Nat} {sp : Option Nat} {K : IntKind} {p : Int} (hp : p = j) (hj : j ≤ n) (hn : n ≠ 0) [e : Ev ts x (.pointer (some ⟨r, o, sp⟩))] [f : Ev ts hi (.int K p)] : XOp P ts h (.sliceArr n size x none (some hi)) (.slice (some ⟨r, o, none⟩) j n) h := ⟨rfl, by
  simp only [xop, e.eq, sliceOf, bnd, f.eq]
  rw [idx_in (by omega), hp]
  simp only [Int.toNat_natCast]
  rw [if_neg (by omega), if_neg hn]
  simp⟩
theorem put_w {q o es : Nat} {ws ys : List UInt32} (hg : h.get q = .cells (wcells ws) es) (hl : o + ys.length ≤ ws.length) : putAt h q o (wcells ys) = some (h.set q (.cells (wcells (ws.take o ++ (ys ++ ws.drop (o + ys.length)))) es)) := by
  simp only [putAt, hg]
  rw [if_pos ⟨by rw [wcells_len, wcells_len]; omega, wcells_one ys⟩]
  congr 3
  have h1 : wcells ws = wcells (ws.take o) ++ wcells (ws.drop o) := by rw [← wcells_append, List.take_append_drop]
  have h2 : (wcells (ws.take o)).length = o := by rw [wcells_len, List.length_take]; omega
  rw [h1]
  have h3 := over_app (wcells (ws.take o)) (wcells (ws.drop o)) (wcells ys) 0
  rw [h2, Nat.add_zero] at h3
  rw [h3, over_front _ _ (by rw [wcells_len, wcells_len, List.length_drop]; omega), wcells_len, wcells_append, wcells_append, ← List.drop_drop]
  congr 2
  simp [wcells]
theorem mid_cell {p es k : Nat} {pre post : List Value} {hs : List UInt32} (hg : h.get p = .cells (pre ++ (wcells hs ++ post)) es) (hk : k < hs.length) : Cell h p (pre.length + k) (.int .u32 ((hs.getD k 0).toNat : Nat)) := ⟨by
  rw [cellsAt_of (c := pre ++ (wcells hs ++ post)) (by rw [hg]; rfl) (by simp [wcells_len]; omega), take_one _ _ (by simp [wcells_len]; omega), lget_app]
  have : ∀ (l m : List Value) (k : Nat), k < l.length → lget (l ++ m) k = lget l k := by
    intro l
    induction l with
    | nil => intro m k hk; simp at hk
    | cons a l ih =>
      intro m k hk
      cases k with
      | zero => rfl
      | succ k => exact ih m k (by simpa using hk)
  rw [this _ _ _ (by rw [wcells_len]; exact hk), wcells_get hk]⟩
theorem mid_put {p es k : Nat} {pre post : List Value} {hs : List UInt32} {w : UInt32} (hg : h.get p = .cells (pre ++ (wcells hs ++ post)) es) (hk : k < hs.length) : Put h p (pre.length + k) [.int .u32 (w.toNat : Nat)] (h.set p (.cells (pre ++ (wcells (hs.set k w) ++ post)) es)) := ⟨by
  simp only [putAt, hg]
  rw [if_pos ⟨by simp [wcells_len]; omega, rfl⟩, over_app]
  congr 4
  have : ∀ (l m : List Value) (k : Nat) (v : Value), k < l.length → over (l ++ m) k [v] = over l k [v] ++ m := by
    intro l
    induction l with
    | nil => intro m k v hk; simp at hk
    | cons a l ih =>
      intro m k v hk
      cases k with
      | zero =>
        show v :: over (l ++ m) 0 [] = (v :: over l 0 []) ++ m
        rw [over_nil, over_nil]; rfl
      | succ k =>
        show a :: over (l ++ m) k [v] = (a :: over l k [v]) ++ m
        rw [ih m k v (by simpa using hk)]; rfl
  rw [this _ _ _ _ (by rw [wcells_len]; exact hk), wcells_set hk]⟩
theorem bnd_at {e : Operand → Value} {lim d k : Nat} {K : IntKind} {x : Operand} {p : Int} (h1 : e x = .int K p) (hp : p = k) (hk : k ≤ lim) : bnd e lim d (some x) = some k := by
  simp only [bnd, h1]
  rw [idx_in (by omega), hp]; rfl
end
end Go.Vm

/- A small machine over an abstract heap: loops over functions. -/
set_option linter.unusedSimpArgs false
set_option linter.unusedVariables false
namespace Go.Vm
section
variable {P : Program} {T : Table} {ts : List Value} {ds : List Deferred} {h h' : Heap} {rd : Option Nat} {Q : QP} {rs : List (Nat × Option (Option Nat))} {R : RP} {X : XP} {v : Value} {r r2 : Nat} {a a2 : Array Value}
theorem L.coll [k : HGet h r (.defs false)] (hd : RunL P T rs ts ds .returning (h.set r (.defs true)) R X) : RunL P T rs ts ({ target := .collected r, args := a } :: ds) .returning h R X :=
  RunL.collected (by intro e; cases e) k.eq hd
theorem B.retC [k0 : HGet h r (.defs false)] [k : ResO (h.set r (.defs true)) ts rs v] (hr : R v (h.set r (.defs true))) : bodyQ P T rs R X .ret ⟨ts, [{ target := .collected r, args := a }], h, rd⟩ :=
  bodyQ.onRet (L.coll (L.nil (k := k) hr))
end
end Go.Vm

/- A small machine over an abstract heap: what is shown over a table holds over a larger one. -/
set_option linter.unusedSimpArgs false
set_option linter.unusedVariables false
namespace Go.Vm
def LeT (T T' : Table) : Prop := ∀ f af, T f = some af → T' f = some af
section
variable {P : Program} {T T' : Table}
theorem xdefer_tab (hT : LeT T T') {c : Caller} {f : FuncId} {args : List Value} {u : FrameMode} {h : Heap} (hg : GoodD (xdefer P T c f args u h)) : xdefer P T' c f args u h = xdefer P T c f args u h := by
  cases h1 : T f with
  | none => simp only [xdefer, h1] at hg; exact absurd rfl (hg .bad (by simp))
  | some af => rw [xdefer_eq h1, xdefer_eq (hT f af h1)]
theorem leave_tab (hT : LeT T T') {c : Caller} {rs : List (Nat × Option (Option Nat))} {ts : List Value} : ∀ (ds : List Deferred) (u : FrameMode) (h : Heap), GoodC (leave P T c rs ts ds u h) → leave P T' c rs ts ds u h = leave P T c rs ts ds u h
  | [], u, h, _ => by cases u <;> simp only [leave]
  | d :: ds, u, h, hg => by
    cases u with
    | run => simp only [leave]
    | returning =>
      cases d with
      | mk t args =>
        cases t with
        | fn fn captured =>
          cases fn with
          | func f =>
            simp only [leave] at hg ⊢
            rw [xdefer_tab hT fun a ha hb => by
              subst hb
              exact good_flatC hg ha .bad (by simp) rfl]
            refine flatMap_eq fun a ha => ?_
            have h2 := good_flatC hg ha
            cases a with
            | ret u' h' => exact leave_tab hT ds _ _ h2
            | pan ch u' h' => exact leave_tab hT ds _ _ h2
            | bad => rfl
          | _ => simp only [leave]
        | collected r =>
          simp only [leave] at hg ⊢
          split
          · rename_i hget
            rw [hget] at hg
            exact leave_tab hT ds _ _ hg
          · rfl
        | _ => simp only [leave]
    | panicking ch =>
      cases d with
      | mk t args =>
        cases t with
        | fn fn captured =>
          cases fn with
          | func f =>
            simp only [leave] at hg ⊢
            rw [xdefer_tab hT fun a ha hb => by
              subst hb
              exact good_flatC hg ha .bad (by simp) rfl]
            refine flatMap_eq fun a ha => ?_
            have h2 := good_flatC hg ha
            cases a with
            | ret u' h' => exact leave_tab hT ds _ _ h2
            | pan ch u' h' => exact leave_tab hT ds _ _ h2
            | bad => rfl
          | _ => simp only [leave]
        | collected r =>
          simp only [leave] at hg ⊢
          split
          · rename_i hget
            rw [hget] at hg
            exact leave_tab hT ds _ _ hg
          · rfl
        | _ => simp only [leave]
theorem xfun_tab (hT : LeT T T') {c : Caller} {L : Nat} {af : AFunc} {args : List Value} {h : Heap} (hg : GoodC (xfun P T c L af args h)) : xfun P T' c L af args h = xfun P T c L af args h := by
  rw [xfun_eq] at hg ⊢
  rw [xfun_eq]
  refine flatMap_eq fun o ho => ?_
  have h2 := good_flatC hg ho
  cases o with
  | mk e s => cases e <;> first | rfl | exact leave_tab hT _ _ _ h2
  | bad => rfl
theorem xcall_tab (hT : LeT T T') {L : Nat} : ∀ n, LeC (xcall P T L n) (xcall P T' L n)
  | 0 => fun t args h hg => absurd rfl (hg .bad (by simp [xcall]))
  | n + 1 => fun t args h hg => by
    have ih := xcall_tab hT (L := L) n
    cases t with
    | fn f =>
      simp only [xcall] at hg ⊢
      cases h1 : T f with
      | none => rw [h1] at hg; exact absurd rfl (hg .bad (by simp))
      | some af =>
        rw [h1] at hg
        rw [hT f af h1]
        simp only at hg ⊢
        split
        · rfl
        · rename_i hp
          rw [hp] at hg
          have e1 := xfun_mono ih (Nat.le_refl L) hg
          rw [← e1]
          exact xfun_tab hT (by rw [e1]; exact hg)
    | yield l => exact xround_mono ih (Nat.le_refl L) hg
theorem Runs.tab (hT : LeT T T') {t : Tgt} {args : List Value} {h : Heap} {R : RP} {X : XP} (hr : Runs P T t args h R X) : Runs P T' t args h R X := by
  unfold Runs at *
  obtain ⟨n, L, hr⟩ := hr
  exact ⟨n, L, fun o ho => hr o (by rw [xcall_tab hT n t args h (okC.good hr)] at ho; exact ho)⟩
end
def holed (P : Program) (ks : List FuncId) : Table := fun f => if ks.contains f then none else tableOf P f
theorem holed_t {P : Program} {ks : List FuncId} {f : FuncId} {af : AFunc} (h1 : ks.contains f = false) (h2 : tableOf P f = some af) : holed P ks f = some af := by
  unfold holed; rw [if_neg (by rw [h1]; simp)]; exact h2
theorem holed_ok {P : Program} {ks : List FuncId} : TableOK P (holed P ks) := by
  intro f af h
  unfold holed at h
  split at h
  · cases h
  · exact tableOf_ok f af h
theorem holed_le {P : Program} {ps ks : List FuncId} : LeT (holed P (ps ++ ks)) (withKept (withTrue P ps) ks) := by
  intro f af h
  unfold holed at h
  split at h
  · cases h
  · rename_i hc
    have h1 : ps.contains f = false ∧ ks.contains f = false := by
      have : (ps ++ ks).contains f = false := by simpa using hc
      simpa using this
    exact withKept_t h1.2 (withTrue_t h1.1 h)
end Go.Vm

/- A small machine over an abstract heap: rounds of loops over functions. -/
set_option linter.unusedSimpArgs false
set_option linter.unusedVariables false
namespace Go.Vm
section
variable {P : Program} {T : Table} {ts : List Value} {ds : List Deferred} {h h' : Heap} {rd : Option Nat} {Q : QP} {R : RP} {X : XP} {l : Nat} {ps : List Nat} {as b : Code} {as' b' : ACode}
def rndQ (l : Nat) (ts : List Value) (ps : List Nat) (as b : Code) (R : RP) : QP
  | .normal, s => s.h.get l = .loop .busy none ts ps as b ∧ R (.bool true) (s.h.set l (.loop .ready none ts ps as b))
  | .ret, s => s.h.get l = .loop .busy none ts ps as b ∧ R (.bool false) (s.h.set l (.loop .done (some .ret) ts ps as b))
  | .exit id, s => s.h.get l = .loop .busy none ts ps as b ∧ R (.bool false) (s.h.set l (.loop .done (some (.exit id)) ts ps as b))
  | _, _ => False
def asgQ (P : Program) (T : Table) (l : Nat) (ts : List Value) (ps : List Nat) (as b : Code) (b' : ACode) (R : RP) : QP
  | .normal, s => s.h.get l = .loop .ready none ts ps as b ∧ RunC P T b' { s with h := s.h.set l (.loop .busy none ts ps as b) } (rndQ l ts ps as b R)
  | _, _ => False
theorem Runs.round {ts1 : List Value} {args : List Value} (hg : h.get l = .loop .ready none ts ps as b) (hp : putAll ts ps args = ts1)
    (hn : args.length = ps.length) (n1 : noDefer as = true) (n2 : noDefer b = true) (ha : comp P as = some as') (hb : comp P b = some b')
    (hr : RunC P T as' ⟨ts1, [], h, some l⟩ (asgQ P T l ts ps as b b' R)) : Runs P T (.yield l) args h R X := by
  subst hp
  refine Runs.yield hg ⟨hn, n1, n2⟩ ha hb (RunC.mono hr fun e s hq => ?_)
  cases e with
  | normal =>
    refine ⟨rfl, none, ts, ps, as, b, hq.1, RunC.mono hq.2 fun e s hq => ?_⟩
    cases e with
    | normal =>
      obtain ⟨h1, h2⟩ := hq
      simp only [roundOut, endR, h1]
      exact h2
    | ret =>
      obtain ⟨h1, h2⟩ := hq
      simp only [roundOut, endR, h1]
      exact h2
    | exit id =>
      obtain ⟨h1, h2⟩ := hq
      simp only [roundOut, endR, h1]
      exact h2
    | _ => exact hq.elim
  | _ => exact hq.elim
theorem A.go [k : HGet h l (.loop .ready none ts ps as b)] {ts1 : List Value} {ds1 : List Deferred} (hr : RunC P T b' ⟨ts1, ds1, h.set l (.loop .busy none ts ps as b), rd⟩ (rndQ l ts ps as b R)) : asgQ P T l ts ps as b b' R .normal ⟨ts1, ds1, h, rd⟩ := ⟨k.eq, hr⟩
theorem A.on [k : HGet h l (.loop .busy none ts ps as b)] {ts1 : List Value} {ds1 : List Deferred} (hr : R (.bool true) (h.set l (.loop .ready none ts ps as b))) : rndQ l ts ps as b R .normal ⟨ts1, ds1, h, rd⟩ := ⟨k.eq, hr⟩
theorem A.ret [k : HGet h l (.loop .busy none ts ps as b)] {ts1 : List Value} {ds1 : List Deferred} (hr : R (.bool false) (h.set l (.loop .done (some .ret) ts ps as b))) : rndQ l ts ps as b R .ret ⟨ts1, ds1, h, rd⟩ := ⟨k.eq, hr⟩
theorem A.exit [k : HGet h l (.loop .busy none ts ps as b)] {ts1 : List Value} {ds1 : List Deferred} {id : Nat} (hr : R (.bool false) (h.set l (.loop .done (some (.exit id)) ts ps as b))) : rndQ l ts ps as b R (.exit id) ⟨ts1, ds1, h, rd⟩ := ⟨k.eq, hr⟩
theorem range_on {f : Operand} {fid : FuncId} {first captured : List Value} {J : Heap → Prop} [e : Ev ts f (.func (.func fid) ⟨first⟩ ⟨captured⟩)]
    (hr : Runs P T (.fn fid) (first ++ [.func (.yield (h.n + 1)) #[] #[]] ++ captured) ((h.push (.defs false)).push (.loop .ready none ts ps as b))
      (fun _ h' => h'.get (h.n + 1) = .loop .ready none ts ps as b ∧ J h') (fun _ _ => False))
    (hq : ∀ h', J h' → Q .normal ⟨ts, { target := .collected h.n, args := #[] } :: ds, (h'.set (h.n + 1) (.loop .exhausted none ts ps as b)).set (h.n + 1) .dead, none⟩) : RunC P T (.rangeFunc f ps as b) ⟨ts, ds, h, none⟩ Q :=
  RunC.rangeFunc (s := ⟨ts, ds, h, none⟩) rfl e.eq (Runs.mono hr (fun v h' hh => by
    intro o ho
    have hg : h'.get (h.push (.defs false)).n = .loop .ready none ts ps as b := hh.1
    simp only [lapOut, lapH, hg] at ho
    rw [if_neg (by decide)] at ho
    simp only [List.mem_singleton] at ho
    subst ho
    exact hq _ hh.2) fun _ _ hx => hx.elim)
theorem range_ret {f : Operand} {fid : FuncId} {first captured : List Value} {J K : Heap → Prop} [e : Ev ts f (.func (.func fid) ⟨first⟩ ⟨captured⟩)]
    (hr : Runs P T (.fn fid) (first ++ [.func (.yield (h.n + 1)) #[] #[]] ++ captured) ((h.push (.defs false)).push (.loop .ready none ts ps as b))
      (fun _ h' => (h'.get (h.n + 1) = .loop .ready none ts ps as b ∧ J h') ∨ (h'.get (h.n + 1) = .loop .done (some .ret) ts ps as b ∧ K h')) (fun _ _ => False))
    (hq : ∀ h', J h' → Q .normal ⟨ts, { target := .collected h.n, args := #[] } :: ds, (h'.set (h.n + 1) (.loop .exhausted none ts ps as b)).set (h.n + 1) .dead, none⟩)
    (hq2 : ∀ h', K h' → Q .ret ⟨ts, { target := .collected h.n, args := #[] } :: ds, (h'.set (h.n + 1) (.loop .exhausted (some .ret) ts ps as b)).set (h.n + 1) .dead, none⟩) : RunC P T (.rangeFunc f ps as b) ⟨ts, ds, h, none⟩ Q :=
  RunC.rangeFunc (s := ⟨ts, ds, h, none⟩) rfl e.eq (Runs.mono hr (fun v h' hh => by
    intro o ho
    rcases hh with hh | hh
    · have hg : h'.get (h.push (.defs false)).n = .loop .ready none ts ps as b := hh.1
      simp only [lapOut, lapH, hg] at ho
      rw [if_neg (by decide)] at ho
      simp only [List.mem_singleton] at ho
      subst ho
      exact hq _ hh.2
    · have hg : h'.get (h.push (.defs false)).n = .loop .done (some .ret) ts ps as b := hh.1
      simp only [lapOut, lapH, hg] at ho
      rw [if_neg (by decide)] at ho
      simp only [List.mem_singleton] at ho
      subst ho
      exact hq2 _ hh.2) fun _ _ hx => hx.elim)
end
attribute [irreducible] rndQ asgQ
end Go.Vm

/- A small machine over an abstract heap: slices that are sliced again. -/
set_option linter.unusedSimpArgs false
set_option linter.unusedVariables false
namespace Go.Vm
def Sd (h : Heap) (size : Nat) (v : Value) (c : List Value) (n : Nat) : Prop :=
  ∃ a cap, v = .slice a n cap ∧ n ≤ cap ∧ c.length = n * size ∧ (n ≠ 0 → ∃ b o sp, a = some ⟨b, o, sp⟩ ∧ b < h.n ∧ cellsAt h b o (n * size) = some c ∧ (sp ≠ none → ∃ cc, h.get b = .cells cc size))
section
variable {h h' : Heap} {size n : Nat} {v : Value} {c : List Value}
theorem Sd.rd (hv : Sd h size v c n) : Rd h size v c n := by
  obtain ⟨a, cap, rfl, hle, hl, hc⟩ := hv
  refine ⟨a, cap, rfl, hl, fun hn => ?_⟩
  obtain ⟨b, o, sp, e, hb, hcc, _⟩ := hc hn
  exact ⟨b, o, sp, e, hb, hcc⟩
theorem Sd.nil {a : Option Addr} {cap : Nat} : Sd h size (.slice a 0 cap) [] 0 := ⟨a, cap, rfl, Nat.zero_le _, by simp, fun h => absurd rfl h⟩
theorem Sd.keep {S : Nat → Prop} (hv : Sd h size v c n) (hf : Fr S h h') (hs : ∀ b, blockOf v b → ¬ S b) : Sd h' size v c n := by
  obtain ⟨a, cap, rfl, hle, hl, hc⟩ := hv
  refine ⟨a, cap, rfl, hle, hl, fun hn => ?_⟩
  obtain ⟨b, o, sp, rfl, hb, hcc, he⟩ := hc hn
  have hb2 : ¬ S b := hs b ⟨rfl, hn⟩
  refine ⟨b, o, sp, rfl, hf.lt hb, by rw [cellsAt_keep hf hb hb2]; exact hcc, fun h1 => ?_⟩
  rw [hf.get b hb hb2]
  exact he h1
theorem Sd.cut {e : Operand → Value} {lo hi : Option Operand} (i j : Nat) (hv : Sd h size v c n) (h1 : ∀ m, n ≤ m → bnd e m n hi = some j) (h2 : bnd e j 0 lo = some i) (hij : i ≤ j) (hj : j ≤ n) :
    ∃ v', sliceOf e size v lo hi none h = .ok v' h ∧ (∀ b, blockOf v' b → blockOf v b) ∧ Sd h size v' ((c.drop (i * size)).take ((j - i) * size)) (j - i) := by
  obtain ⟨a, cap, rfl, hle, hl, hc⟩ := hv
  have hmul : i * size + (j - i) * size = j * size := by rw [← Nat.add_mul]; congr 1; omega
  have hmul2 : j * size ≤ n * size := Nat.mul_le_mul_right _ hj
  have hlen : ((c.drop (i * size)).take ((j - i) * size)).length = (j - i) * size := by
    rw [List.length_take, List.length_drop]; omega
  have hz : j - i = 0 → ∀ a' cap', Sd h size (.slice a' (j - i) cap') ((c.drop (i * size)).take ((j - i) * size)) (j - i) := fun h0 a' cap' => by
    rw [h0, Nat.zero_mul, List.take_zero]
    exact Sd.nil
  have hb0 : bnd e cap cap none = some cap := rfl
  by_cases hn : n = 0
  · have hj0 : j - i = 0 := by omega
    cases a with
    | none => exact ⟨.slice none (j - i) (cap - i), by simp only [sliceOf, hb0, h1 cap hle, h2]; rw [if_neg (by omega)], fun b hb => hb.elim, hz hj0 _ _⟩
    | some a =>
      have h3 : ¬ (cap < j) := by omega
      obtain ⟨ab, ao, asp⟩ := a
      cases asp with
      | none => exact ⟨.slice (some (if cap = i then ⟨ab, ao, none⟩ else ⟨ab, ao + i * size, none⟩)) (j - i) (cap - i), by simp only [sliceOf, hb0, h1 cap hle, h2]; rw [if_neg h3], fun b hb => absurd hj0 hb.2, hz hj0 _ _⟩
      | some k =>
        have hi0 : i = 0 := by omega
        refine ⟨.slice (some ⟨ab, ao, some k⟩) j cap, by simp only [sliceOf, hb0, h1 cap hle, h2]; rw [if_neg h3]; simp only [hi0, if_true], fun b hb => ?_, ?_⟩
        · exact absurd (by omega) hb.2
        · have : j = j - i := by omega
          have h9 := hz hj0 (some ⟨ab, ao, some k⟩) cap
          rw [← this] at h9 ⊢
          exact h9
  · obtain ⟨b, o, sp, rfl, hb, hcc, he⟩ := hc hn
    have h3 : ¬ (cap < j) := by omega
    have hsub : cellsAt h b (o + i * size) ((j - i) * size) = some ((c.drop (i * size)).take ((j - i) * size)) := cellsAt_sub hcc (by omega)
    cases sp with
    | none =>
      refine ⟨.slice (some (if cap = i then ⟨b, o, none⟩ else ⟨b, o + i * size, none⟩)) (j - i) (cap - i), by simp only [sliceOf, hb0, h1 cap hle, h2]; rw [if_neg h3], fun b' hb' => ⟨by
        have := hb'.1
        split at this <;> exact this, hn⟩, ?_⟩
      refine ⟨_, _, rfl, by omega, hlen, fun hji => ?_⟩
      rw [if_neg (by omega)]
      exact ⟨b, _, none, rfl, hb, hsub, fun h => absurd rfl h⟩
    | some k =>
      obtain ⟨cc, hg⟩ := he (by simp)
      by_cases hi0 : i = 0
      · refine ⟨.slice (some ⟨b, o, some k⟩) j cap, by simp only [sliceOf, hb0, h1 cap hle, h2]; rw [if_neg h3]; simp only [hi0, if_true], fun b' hb' => ⟨hb'.1, hn⟩, ?_⟩
        subst hi0
        rw [Nat.sub_zero] at hlen hsub ⊢
        rw [Nat.zero_mul, Nat.add_zero] at hsub
        exact ⟨_, _, rfl, by omega, hlen, fun _ => ⟨b, o, some k, rfl, hb, by rw [Nat.zero_mul]; exact hsub, fun _ => ⟨cc, hg⟩⟩⟩
      · by_cases hic : cap = i
        · have hj0 : j - i = 0 := by omega
          refine ⟨.slice (some ⟨0, 0, some k⟩) 0 0, by simp only [sliceOf, hb0, h1 cap hle, h2]; rw [if_neg h3]; simp only [hi0, if_false, hic, if_true], fun b' hb' => absurd rfl hb'.2, ?_⟩
          have h9 := hz hj0 (some ⟨0, 0, some k⟩) 0
          rw [hj0] at h9 ⊢
          exact h9
        · refine ⟨.slice (some ⟨b, o + i * size, some k⟩) (j - i) (cap - i), by simp only [sliceOf, hb0, h1 cap hle, h2]; rw [if_neg h3]; simp only [hi0, if_false, if_neg hic, hg, if_true], fun b' hb' => ⟨hb'.1, hn⟩, ?_⟩
          exact ⟨_, _, rfl, by omega, hlen, fun _ => ⟨b, _, some k, rfl, hb, hsub, fun _ => ⟨cc, hg⟩⟩⟩
end
section
variable {P : Program} {T : Table} {ts : List Value} {ds : List Deferred} {h : Heap} {rd : Option Nat} {v : Value} {d size n : Nat} {c : List Value} {x : Operand} {lo hi : Option Operand} {chk : List (Option Nat × AOp × Option (Nat × Bool))} {pan : Bool} {rest : List AOper} {Q : QP} {F : Value → List Value}
theorem O.cut (i j : Nat) (hv : Sd h size v c n) [e1 : Ev ts x v] [s : LSetF ts d F] (h1 : ∀ m, n ≤ m → bnd (eval ts) m n hi = some j) (h2 : bnd (eval ts) j 0 lo = some i) (hij : i ≤ j) (hj : j ≤ n)
    (hk : ∀ v', (∀ b, blockOf v' b → blockOf v b) → Sd h size v' ((c.drop (i * size)).take ((j - i) * size)) (j - i) → RunO P T rest ⟨F v', ds, h, rd⟩ Q) : RunO P T (⟨some d, .sliceSl size x lo hi none, none, chk, pan⟩ :: rest) ⟨ts, ds, h, rd⟩ Q := by
  obtain ⟨v', hx, hbl, hr⟩ := hv.cut i j h1 h2 hij hj
  exact RunO.cons rfl (fun _ _ e => by cases e) (RunX.ok (h' := h) (v := v') (fun call => by rw [xo_plain rfl]; simp only [xop, e1.eq, hx]) (by
    show RunO P T rest ⟨lset ts d v', ds, h, rd⟩ Q
    rw [s.eq]; exact hk v' hbl hr))
theorem D.cut (i j : Nat) (hv : Sd h size v c n) [e1 : Ev ts x v] [s : LSetF ts d F] (h1 : ∀ m, n ≤ m → bnd (eval ts) m n hi = some j) (h2 : bnd (eval ts) j 0 lo = some i) (hij : i ≤ j) (hj : j ≤ n)
    (hk : ∀ v', (∀ b, blockOf v' b → blockOf v b) → Sd h size v' ((c.drop (i * size)).take ((j - i) * size)) (j - i) → RunD P T rest ⟨F v', ds, h, rd⟩ Q) : RunD P T (⟨some d, .sliceSl size x lo hi none, none, [], pan⟩ :: rest) ⟨ts, ds, h, rd⟩ Q := by
  obtain ⟨v', hx, hbl, hr⟩ := hv.cut i j h1 h2 hij hj
  exact RunD.cons rfl (RunX.ok (h' := h) (v := v') (fun call => by rw [xo_plain rfl]; simp only [xop, e1.eq, hx]) (by
    show _ ∧ RunD P T rest ⟨lset ts d v', ds, h, rd⟩ Q
    rw [s.eq]; exact ⟨rfl, hk v' hbl hr⟩))
theorem O.yield {l : Nat} {f : Operand} {args : List Operand} {vs : List Value} [e : Ev ts f (.func (.yield l) ⟨[]⟩ ⟨[]⟩)] [k : EvL ts args vs] [s : LSetF ts d F] {R : RP}
    (hr : Runs P T (.yield l) vs h R (fun _ _ => False)) (hk : ∀ v h', R v h' → RunO P T rest ⟨F v, ds, h', rd⟩ Q) :
    RunO P T (⟨some d, .callV f args, none, chk, pan⟩ :: rest) ⟨ts, ds, h, rd⟩ Q :=
  RunO.cons rfl (fun _ _ e => by cases e) (RunX.call (t := .yield l) (vs := vs) (by simp only [e.eq, k.eq, target]) (Runs.mono hr (fun v h' hv => by
    show RunO P T rest ⟨lset ts d v, ds, h', rd⟩ Q
    rw [s.eq]; exact hk v h' hv) fun _ _ hx => hx.elim))
end
end Go.Vm

/- A small machine over an abstract heap: strings, which is less. -/
set_option linter.unusedSimpArgs false
set_option linter.unusedVariables false
namespace Go.Vm
section
variable {P : Program} {ts : List Value} {h : Heap} {x y : Operand} {t t' ty : TypeId}
instance XOp.lssS {s s' : ByteArray} [e1 : Ev ts x (.string s)] [e2 : Ev ts y (.string s')] : XOp P ts h (.bin .lss (so (.binOp .lss t x y t') ty) x y) (.bool (Op.bytesLess s.toList s'.toList)) h :=
  ⟨rfl, (bin_raw (by intro k a b hu; cases hu) e1.eq e2.eq).trans (raw_bin e1.eq e2.eq rfl rfl rfl rfl)⟩
end
section
variable {P : Program} {T : Table} {ts : List Value} {ds : List Deferred} {h : Heap} {rd : Option Nat} {v : Value} {d size n : Nat} {c : List Value} {x : Operand} {lo hi : Option Operand} {chk : List (Option Nat × AOp × Option (Nat × Bool))} {pan : Bool} {rest : List AOper} {Q : QP} {F : Value → List Value}
end
end Go.Vm

/- A small machine over an abstract heap: methods of interface values. -/
set_option linter.unusedSimpArgs false
set_option linter.unusedVariables false
namespace Go.Vm
section
variable {P : Program} {T : Table} {ts : List Value} {ds : List Deferred} {h : Heap} {rd : Option Nat} {d : Nat} {chk : List (Option Nat × AOp × Option (Nat × Bool))} {pan : Bool} {rest : List AOper} {Q : QP} {F : Value → List Value}
theorem O.invoke {r : Operand} {name : String} {args : List Operand} {t : TypeId} {v recv : Value} {f : FuncId} {vs : List Value} [e : Ev ts r (.iface t v)] [k : EvL ts args vs] [s : LSetF ts d F] {R : RP}
    (hm : methodOf P h t v name = some (f, recv)) (hr : Runs P T (.fn f) (recv :: vs) h R (fun _ _ => False)) (hk : ∀ v h', R v h' → RunO P T rest ⟨F v, ds, h', rd⟩ Q) :
    RunO P T (⟨some d, .invoke r name args, none, chk, pan⟩ :: rest) ⟨ts, ds, h, rd⟩ Q :=
  have hr2 : Runs P T (.fn f) (recv :: args.map (eval ts)) h R (fun _ _ => False) := by rw [k.eq]; exact hr
  RunO.cons rfl (fun _ _ e => by cases e) (RunX.invoke (t := t) (v := v) (recv := recv) (f := f) e.eq hm (Runs.mono hr2 (fun v h' hv => by
    show RunO P T rest ⟨lset ts d v, ds, h', rd⟩ Q
    rw [s.eq]; exact hk v h' hv) fun _ _ hx => hx.elim))
end
end Go.Vm

/- Loops whose slots are told by a mask: 0 stays, 1 is written anew in each round, 2 turns. -/
set_option linter.unusedVariables false
namespace Go.Vm
open Go
def fillM : List Nat → List Value → List Value → List Value → List Value
  | 0 :: m, vs, us, t :: ts => t :: fillM m vs us.tail ts
  | 1 :: m, vs, us, _ :: ts => us.headD undef :: fillM m vs us.tail ts
  | (_ + 2) :: m, v :: vs, us, _ :: ts => v :: fillM m vs us.tail ts
  | _, _, _, ts => ts
def allM : List Nat → List Value → List Value → (List Value → Prop) → Prop
  | 0 :: m, vs, t :: ts, P => allM m vs ts fun l => P (t :: l)
  | 1 :: m, vs, _ :: ts, P => ∀ x, allM m vs ts fun l => P (x :: l)
  | (_ + 2) :: m, v :: vs, _ :: ts, P => allM m vs ts fun l => P (v :: l)
  | _, _, ts, P => P ts
theorem allM_fill : ∀ {m : List Nat} {vs ts : List Value} {P : List Value → Prop} (h : allM m vs ts P) (us : List Value), P (fillM m vs us ts)
  | 0 :: m, vs, t :: ts, P, h, us => allM_fill (m := m) (P := fun l => P (t :: l)) h us.tail
  | 1 :: m, vs, _ :: ts, P, h, us => allM_fill (m := m) (P := fun l => P (us.headD undef :: l)) (h _) us.tail
  | (_ + 2) :: m, v :: vs, _ :: ts, P, h, us => allM_fill (m := m) (P := fun l => P (v :: l)) h us.tail
  | [], _, _, _, h, _ => h
  | 0 :: _, _, [], _, h, _ => h
  | 1 :: _, _, [], _, h, _ => h
  | (_ + 2) :: _, [], _, _, h, _ => h
  | (_ + 2) :: _, _ :: _, [], _, h, _ => h
def JM (k : List Nat) (ts : List Value) (ds : List Deferred) (rd : Option Nat) (I : Nat → List Value → Heap → Prop) (m : Nat) (s : St) : Prop := ∃ vs h, s = ⟨fillM k vs s.ts ts, ds, h, rd⟩ ∧ I m vs h
section
variable {P : Program} {T : Table} {b : ACode} {ts us : List Value} {ds : List Deferred} {h : Heap} {rd : Option Nat} {Q : QP} {m : Nat} {k : List Nat}
theorem loopM {I : Nat → List Value → Heap → Prop} (hb : ∀ m vs h, I m vs h → ∀ us, RunC P T b ⟨fillM k vs us ts, ds, h, rd⟩ (loopQ (JM k ts ds rd I) m Q)) (m : Nat) {s : St} (hj : JM k ts ds rd I m s) : RunC P T (.loop b) s Q :=
  RunC.loopJ (JM k ts ds rd I) (fun m s hj => by
    obtain ⟨vs, h, e, hi⟩ := hj
    rw [e]
    exact hb m vs h hi s.ts) m s hj
def un0 (I : Nat → Heap → Prop) (m : Nat) (vs : List Value) (h : Heap) : Prop := vs = [] ∧ I m h
theorem loop0 (k : List Nat) (I : Nat → Heap → Prop) (hb : ∀ (m : Nat) (h : Heap), allM k [] ts fun l => I m h → RunC P T b ⟨l, ds, h, rd⟩ (loopQ (JM k ts ds rd (un0 I)) m Q)) (m : Nat) {h : Heap} (hi : I m h) (ha : fillM k [] ts ts = ts := by rfl) : RunC P T (.loop b) ⟨ts, ds, h, rd⟩ Q :=
  loopM (I := un0 I) (fun m vs h hi us => by
    obtain ⟨rfl, hi⟩ := hi
    exact allM_fill (hb m h) us hi) m ⟨[], h, by rw [ha], ⟨rfl, hi⟩⟩
theorem loop0a {I : Nat → Heap → Prop} (m' : Nat) (hm : m' < m) (hi : I m' h) (ha : fillM k [] us ts = us := by rfl) : loopQ (JM k ts ds rd (un0 I)) m Q .normal ⟨us, ds, h, rd⟩ :=
  loopQ.again m' hm ⟨[], h, by rw [ha], ⟨rfl, hi⟩⟩
def un1 (I : Nat → Value → Heap → Prop) (m : Nat) (vs : List Value) (h : Heap) : Prop := ∃ v0 : Value, vs = [v0] ∧ I m v0 h
theorem loop1 (k : List Nat) (i0 : Nat) {v0 : Value} [LGet ts i0 v0] (I : Nat → Value → Heap → Prop) (hb : ∀ (m : Nat) (v0 : Value) (h : Heap), allM k [v0] ts fun l => I m v0 h → RunC P T b ⟨l, ds, h, rd⟩ (loopQ (JM k ts ds rd (un1 I)) m Q)) (m : Nat) {h : Heap} (hi : I m v0 h) (ha : fillM k [v0] ts ts = ts := by rfl) : RunC P T (.loop b) ⟨ts, ds, h, rd⟩ Q :=
  loopM (I := un1 I) (fun m vs h hi us => by
    obtain ⟨v0, rfl, hi⟩ := hi
    exact allM_fill (hb m v0 h) us hi) m ⟨[v0], h, by rw [ha], ⟨_, rfl, hi⟩⟩
theorem loop1a (i0 : Nat) {v0 : Value} [LGet us i0 v0] {I : Nat → Value → Heap → Prop} (m' : Nat) (hm : m' < m) (hi : I m' v0 h) (ha : fillM k [v0] us ts = us := by rfl) : loopQ (JM k ts ds rd (un1 I)) m Q .normal ⟨us, ds, h, rd⟩ :=
  loopQ.again m' hm ⟨[v0], h, by rw [ha], ⟨_, rfl, hi⟩⟩
def un2 (I : Nat → Value → Value → Heap → Prop) (m : Nat) (vs : List Value) (h : Heap) : Prop := ∃ v0 v1 : Value, vs = [v0, v1] ∧ I m v0 v1 h
theorem loop2 (k : List Nat) (i0 i1 : Nat) {v0 v1 : Value} [LGet ts i0 v0] [LGet ts i1 v1] (I : Nat → Value → Value → Heap → Prop) (hb : ∀ (m : Nat) (v0 v1 : Value) (h : Heap), allM k [v0, v1] ts fun l => I m v0 v1 h → RunC P T b ⟨l, ds, h, rd⟩ (loopQ (JM k ts ds rd (un2 I)) m Q)) (m : Nat) {h : Heap} (hi : I m v0 v1 h) (ha : fillM k [v0, v1] ts ts = ts := by rfl) : RunC P T (.loop b) ⟨ts, ds, h, rd⟩ Q :=
  loopM (I := un2 I) (fun m vs h hi us => by
    obtain ⟨v0, v1, rfl, hi⟩ := hi
    exact allM_fill (hb m v0 v1 h) us hi) m ⟨[v0, v1], h, by rw [ha], ⟨_, _, rfl, hi⟩⟩
theorem loop2a (i0 i1 : Nat) {v0 v1 : Value} [LGet us i0 v0] [LGet us i1 v1] {I : Nat → Value → Value → Heap → Prop} (m' : Nat) (hm : m' < m) (hi : I m' v0 v1 h) (ha : fillM k [v0, v1] us ts = us := by rfl) : loopQ (JM k ts ds rd (un2 I)) m Q .normal ⟨us, ds, h, rd⟩ :=
  loopQ.again m' hm ⟨[v0, v1], h, by rw [ha], ⟨_, _, rfl, hi⟩⟩
def un3 (I : Nat → Value → Value → Value → Heap → Prop) (m : Nat) (vs : List Value) (h : Heap) : Prop := ∃ v0 v1 v2 : Value, vs = [v0, v1, v2] ∧ I m v0 v1 v2 h
def un4 (I : Nat → Value → Value → Value → Value → Heap → Prop) (m : Nat) (vs : List Value) (h : Heap) : Prop := ∃ v0 v1 v2 v3 : Value, vs = [v0, v1, v2, v3] ∧ I m v0 v1 v2 v3 h
def un5 (I : Nat → Value → Value → Value → Value → Value → Heap → Prop) (m : Nat) (vs : List Value) (h : Heap) : Prop := ∃ v0 v1 v2 v3 v4 : Value, vs = [v0, v1, v2, v3, v4] ∧ I m v0 v1 v2 v3 v4 h
end
end Go.Vm
