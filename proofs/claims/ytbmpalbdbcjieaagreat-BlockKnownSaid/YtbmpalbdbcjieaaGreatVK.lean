/- A small machine over an abstract heap: an operation without a slot in a drawn region, behind which others are read again. -/
import Derived.Test.YtbmpalbdbcjieaaGreatVJ
import Derived.Test.YtbmpalbdbcjieaaGreatVH
namespace Go.Vm
set_option linter.unusedVariables false
section
variable {P : Program} {T : Table} {ts ts' : List Value} {ds : List Deferred} {h h' : Heap} {rd : Option Nat} {op : AOp} {v : Value} {d : Nat} {chk : List (Option Nat × AOp × Option (Nat × Bool))} {pan : Bool} {rest : List AOper} {Q : QP} {F : Value → List Value}
end
end Go.Vm

/- A small machine over an abstract heap: the machine's steps as far as they go. -/
namespace Go.Vm
structure Then (q : Prop) : Prop where
  ok : q
theorem stp {p q : Prop} (hq : q) (h : Then q → p := by (intro hq; (repeat (first | refine O.how (XOp.addI (by omega)) ?_ | refine O.how (XOp.subI (by omega)) ?_ | refine O.how (XOp.convI (by omega)) ?_ | refine O.how (XOp.convU64 (by omega)) ?_ | refine O.how (XOp.convU8 (by omega)) ?_ | refine O.one ?_ | refine O.nil ?_ | refine C.next ?_ | refine RunC.seq ?_ | refine RunC.region ?_ | refine RunC.block ?_ | refine RunC.skip ?_ | refine RunC.exit ?_ | refine RunC.ret ?_ | refine RunC.regionD ?_ | refine D.how (XOp.addI (by omega)) rfl ?_ | refine D.how (XOp.subI (by omega)) rfl ?_ | refine D.how (XOp.convI (by omega)) rfl ?_ | refine D.one rfl ?_ | refine D.nil ?_ | refine O.one0 ?_ | refine D.one0 rfl ?_ | refine D.one0s ?_ | refine C.nextB ?_ | refine C.exit2 ?_ | refine C.exitB ?_ | refine C.retB ?_ | refine C.ret2 ?_ | refine loopQ.exit ?_ | refine loopQ.ret ?_ | refine C.exitN (by decide) ?_ | refine O.howT (XOp.mkIndexSl (by omega)) ?_ | refine O.howT (XOp.mkIndexArr (by omega)) ?_ | refine O.howT (XOp.addI (by omega)) ?_ | refine O.howT (XOp.subI (by omega)) ?_ | refine O.oneT ?_ | refine O.skT ?_ | refine O.skF ?_ | refine O.skU ?_ | refine D.howT (XOp.addI (by omega)) rfl ?_ | refine D.howT (XOp.subI (by omega)) rfl ?_ | refine D.oneT rfl ?_ | refine D.skT rfl ?_ | refine D.skF rfl ?_ | refine D.skU rfl ?_ | refine C.ifT ?_ | refine C.ifF ?_ | refine B.ret ?_ | refine B.deferred ?_ | refine B.deferredP ?_ | refine O.defer0 ?_ | refine B.end ?_ | refine O.panic ?_ | refine C.pan2 ?_ | refine C.panB ?_ | refine loopQ.panic ?_ | refine B.panic ?_ | refine O.how (XOp.mkIndexArr (by omega)) ?_ | refine O.how (XOp.mkIndexSl (by omega)) ?_ | refine D.how (XOp.mkIndexArr (by omega)) rfl ?_ | refine D.how (XOp.mkIndexSl (by omega)) rfl ?_)); exact hq.ok)) : p := h ⟨hq⟩
end Go.Vm

/- A small machine over an abstract heap: words of 32 bits. -/
set_option linter.unusedSimpArgs false
set_option linter.unusedVariables false
namespace Go.Vm
open Go.IntWalk
def wcells (l : List UInt32) : List Value := l.map fun w => .int .u32 (w.toNat : Nat)
theorem wcells_len (l : List UInt32) : (wcells l).length = l.length := by simp [wcells]
theorem wcells_append (l m : List UInt32) : wcells (l ++ m) = wcells l ++ wcells m := by simp [wcells]
theorem wcells_one (l : List UInt32) : (wcells l).all Value.oneCell' = true := by simp [wcells, Value.oneCell']
theorem wcells_get : ∀ {l : List UInt32} {i : Nat}, i < l.length → lget (wcells l) i = .int .u32 ((l.getD i 0).toNat : Nat)
  | [], i, h => by simp at h
  | w :: l, 0, _ => rfl
  | w :: l, i + 1, h => by
    show lget (wcells l) i = _
    rw [wcells_get (by simpa using h)]
    simp
theorem wcells_set : ∀ {l : List UInt32} {i : Nat} {w : UInt32}, i < l.length → over (wcells l) i [.int .u32 (w.toNat : Nat)] = wcells (l.set i w)
  | [], i, w, h => by simp at h
  | v :: l, 0, w, _ => by
    show _ :: over (wcells l) 0 [] = _
    rw [over_nil]; rfl
  | v :: l, i + 1, w, h => by
    show _ :: over (wcells l) i _ = _
    rw [wcells_set (by simpa using h)]; rfl
class WIx (l : List UInt32) (i : Nat) : Prop where
  lt : i < l.length
instance {l : List UInt32} {i j : Nat} {w : UInt32} [h : WIx l i] : WIx (l.set j w) i := ⟨by simpa using h.lt⟩
instance (priority := 2000) {l : List UInt32} {i : Nat} [h : WIx l i] : CGet (wcells l) i (.int .u32 ((l.getD i 0).toNat : Nat)) := ⟨wcells_get h.lt, by rw [wcells_len]; exact h.lt⟩
instance (priority := 2000) {l : List UInt32} {i : Nat} {w : UInt32} [h : WIx l i] : Over (wcells l) i [.int .u32 (w.toNat : Nat)] (wcells (l.set i w)) := ⟨by rw [wcells_len]; have := h.lt; simp; omega, wcells_set h.lt⟩
theorem u32_nat (n : Nat) : IntKind.u32.wrap (n : Int) = ((n % 4294967296 : Nat) : Int) := by rw [IntKind.wrap_u32]; omega
theorem u32_lt (a : UInt32) : a.toNat < 4294967296 := a.toNat_lt
theorem u32_bv (a : UInt32) : BitVec.ofInt 32 (a.toNat : Int) = a.toBitVec := by
  rw [BitVec.ofInt_natCast]
  apply BitVec.eq_of_toNat_eq
  rw [BitVec.toNat_ofNat, Nat.mod_eq_of_lt (by have := u32_lt a; simpa using this)]
  rfl
theorem u32_add (a b : UInt32) : IntKind.u32.wrap ((a.toNat : Int) + (b.toNat : Int)) = ((a + b).toNat : Nat) := by
  rw [show ((a.toNat : Int) + (b.toNat : Int)) = ((a.toNat + b.toNat : Nat) : Int) from by omega, u32_nat, UInt32.toNat_add]
theorem u32_xor (a b : UInt32) : IntKind.u32.wrap ((BitVec.ofInt IntKind.u32.bits (a.toNat : Int) ^^^ BitVec.ofInt IntKind.u32.bits (b.toNat : Int)).toNat : Nat) = ((a ^^^ b).toNat : Nat) := by
  rw [show IntKind.u32.bits = 32 from rfl, u32_bv, u32_bv, u32_nat]
  congr 1
  exact Nat.mod_eq_of_lt (u32_lt (a ^^^ b))
theorem u32_or (a b : UInt32) : IntKind.u32.wrap ((BitVec.ofInt IntKind.u32.bits (a.toNat : Int) ||| BitVec.ofInt IntKind.u32.bits (b.toNat : Int)).toNat : Nat) = ((a ||| b).toNat : Nat) := by
  rw [show IntKind.u32.bits = 32 from rfl, u32_bv, u32_bv, u32_nat]
  congr 1
  exact Nat.mod_eq_of_lt (u32_lt (a ||| b))
theorem u32_shl (a : UInt32) (n : Nat) (hn : n < 32) : IntKind.u32.wrap ((a.toNat : Int) * 2 ^ n) = ((a <<< UInt32.ofNat n).toNat : Nat) := by
  rw [show ((a.toNat : Int) * 2 ^ n) = ((a.toNat * 2 ^ n : Nat) : Int) from by rw [Int.natCast_mul, Int.natCast_pow]; rfl, u32_nat]
  congr 1
  rw [UInt32.toNat_shiftLeft, Nat.shiftLeft_eq, UInt32.toNat_ofNat', Nat.mod_eq_of_lt (show n < 2 ^ 32 by omega), Nat.mod_eq_of_lt hn]
theorem u32_shr (a : UInt32) (n : Nat) (hn : n < 32) : (a.toNat : Int).fdiv (2 ^ n) = ((a >>> UInt32.ofNat n).toNat : Nat) := by
  rw [show ((2 : Int) ^ n) = ((2 ^ n : Nat) : Int) from by rw [Int.natCast_pow]; rfl, Int.fdiv_eq_ediv_of_nonneg _ (Int.natCast_nonneg _), UInt32.toNat_shiftRight, Nat.shiftRight_eq_div_pow, UInt32.toNat_ofNat', Nat.mod_eq_of_lt (show n < 2 ^ 32 by omega), Nat.mod_eq_of_lt hn]
  omega
section
variable {P : Program} {ts : List Value} {h : Heap} {x y : Operand} {t t' ty : TypeId} {O : Oper} {a b : UInt32}
instance (priority := 2000) XOp.addW [e1 : Ev ts x (.int .u32 (a.toNat : Nat))] [e2 : Ev ts y (.int .u32 (b.toNat : Nat))] : XOp P ts h (.bin .add O x y) (.int .u32 ((a + b).toNat : Nat)) h := ⟨rfl, by
  have := (XOp.add (P := P) (ts := ts) (h := h) (O := O) (K := .u32) (x := x) (y := y) (p := (a.toNat : Int)) (q := (b.toNat : Int))).eq
  rw [this, u32_add]⟩
instance (priority := 2000) XOp.xorW [e1 : Ev ts x (.int .u32 (a.toNat : Nat))] [e2 : Ev ts y (.int .u32 (b.toNat : Nat))] : XOp P ts h (.bin .xor (so (.binOp .xor t x y t') ty) x y) (.int .u32 ((a ^^^ b).toNat : Nat)) h := ⟨rfl, by
  have := (XOp.xorI (P := P) (ts := ts) (h := h) (K := .u32) (x := x) (y := y) (t := t) (t' := t') (ty := ty) (p := (a.toNat : Int)) (q := (b.toNat : Int))).eq
  rw [this, u32_xor]⟩
instance (priority := 2000) XOp.orW [e1 : Ev ts x (.int .u32 (a.toNat : Nat))] [e2 : Ev ts y (.int .u32 (b.toNat : Nat))] : XOp P ts h (.bin .or (so (.binOp .or t x y t') ty) x y) (.int .u32 ((a ||| b).toNat : Nat)) h := ⟨rfl, by
  have := (XOp.orI (P := P) (ts := ts) (h := h) (K := .u32) (x := x) (y := y) (t := t) (t' := t') (ty := ty) (p := (a.toNat : Int)) (q := (b.toNat : Int))).eq
  rw [this, u32_or]⟩
theorem XOp.shlW {J : IntKind} {q : Int} (n : Nat) (hq : q = n) (hn : n < 32) [e1 : Ev ts x (.int .u32 (a.toNat : Nat))] [e2 : Ev ts y (.int J q)] : XOp P ts h (.bin .shl (so (.binOp .shl t x y t') ty) x y) (.int .u32 ((a <<< UInt32.ofNat n).toNat : Nat)) h := ⟨rfl, by
  have := (XOp.shl (P := P) (ts := ts) (h := h) (K := .u32) (x := x) (y := y) (t := t) (t' := t') (ty := ty) (p := (a.toNat : Int)) (q := q) (by omega)).eq
  rw [this, show min q.toNat IntKind.u32.bits = n from by rw [hq, show IntKind.u32.bits = 32 from rfl]; omega, u32_shl a n hn]⟩
theorem XOp.shrW {J : IntKind} {q : Int} (n : Nat) (hq : q = n) (hn : n < 32) [e1 : Ev ts x (.int .u32 (a.toNat : Nat))] [e2 : Ev ts y (.int J q)] : XOp P ts h (.bin .shr (so (.binOp .shr t x y t') ty) x y) (.int .u32 ((a >>> UInt32.ofNat n).toNat : Nat)) h := ⟨rfl, by
  have := (XOp.shr (P := P) (ts := ts) (h := h) (K := .u32) (x := x) (y := y) (t := t) (t' := t') (ty := ty) (p := (a.toNat : Int)) (q := q) (by omega)).eq
  rw [this, show min q.toNat IntKind.u32.bits = n from by rw [hq, show IntKind.u32.bits = 32 from rfl]; omega, u32_shr a n hn]⟩
theorem mul_in {x : Int} (hb : -9223372036854775808 ≤ x ∧ x ≤ 9223372036854775807) : IntKind.i64.wrap x = x := i64_in x hb
instance (priority := 2000) XOp.convB {O : Oper} {c : UInt8} [e1 : Ev ts x (.int .u8 (c.toNat : Nat))] : XOp P ts h (.conv .u32 O x) (.int .u32 ((c.toUInt32).toNat : Nat)) h := ⟨rfl, by
  have := (XOp.conv (P := P) (ts := ts) (h := h) (O := O) (K := .u32) (x := x) (p := (c.toNat : Int))).eq
  rw [this, u32_nat]
  congr 2
  rw [UInt8.toNat_toUInt32, Nat.mod_eq_of_lt (by have := c.toNat_lt; omega)]⟩
instance (priority := 1900) XOp.convNW {O : Oper} {J : IntKind} {n : Nat} [e1 : Ev ts x (.int J (n : Nat))] : XOp P ts h (.conv .u32 O x) (.int .u32 ((UInt32.ofNat n).toNat : Nat)) h := ⟨rfl, by
  have := (XOp.conv (P := P) (ts := ts) (h := h) (O := O) (K := .u32) (x := x) (p := (n : Int))).eq
  rw [this, u32_nat, UInt32.toNat_ofNat']⟩
instance (priority := 2000) XOp.notW [e1 : Ev ts x (.int .u32 (a.toNat : Nat))] : XOp P ts h (.raw (so (.unOp .xor t x) ty)) (.int .u32 (((4294967295 : UInt32) ^^^ a).toNat : Nat)) h := ⟨rfl, by
  have := u32_xor 4294967295 a
  rw [← this]
  exact raw_ok (by simp [so, Op.operands, e1.eq, ground]) (by simp only [execOp, so, e1.eq]; rfl) rfl⟩
theorem XOp.mkCopy {size n m c c' : Nat} {r o : Nat} {sp : Option Nat} {b : Addr} {xs : List Value} {h' : Heap} [e1 : Ev ts x (.slice (some ⟨r, o, sp⟩) n c)] [e2 : Ev ts y (.slice (some b) m c')] (hc : cellsAt h b.block b.off (min m n * size) = some xs) (hp : putAt h r o xs = some h') :
    XOp P ts h (.copy size x y) (.int .i64 (min m n : Nat)) h' := ⟨rfl, by
  simp only [xop, copyOf, e1.eq, e2.eq, hc, hp]⟩
theorem XOp.mkSl {size n c q o i j : Nat} {sp : Option Nat} {cs : List Value} {es : Nat} {lo hi : Option Operand} [e1 : Ev ts x (.slice (some ⟨q, o, sp⟩) n c)] (hj : bnd (eval ts) c n hi = some j) (hi' : bnd (eval ts) j 0 lo = some i) (hij : i < j) (hjn : j ≤ n) (hn : n ≤ c) (hz : size ≠ 0) (hg : h.get q = .cells cs es) (hs : sp ≠ none → es = size) :
    XOp P ts h (.sliceSl size x lo hi none) (.slice (some ⟨q, o + i * size, sp⟩) (j - i) (c - i)) h := ⟨rfl, by
  simp only [xop, e1.eq, sliceOf]
  rw [show bnd (eval ts) c c none = some c from rfl]
  simp only [hj, hi']
  rw [if_neg (by omega)]
  cases sp with
  | none =>
    simp only
    rw [if_neg (by omega)]
  | some k =>
    simp only
    by_cases h0 : i = 0
    · subst h0
      simp
    · rw [if_neg h0, if_neg (by omega), hg]
      simp only
      rw [if_pos (hs (by simp))]⟩
theorem XOp.mkSliceArrHi {hi : Operand} {n size j r o : Nat} {sp : Option Nat} {K : IntKind} {p : Int} (hp : p = j) (hj : j ≤ n) (hn : n ≠ 0) [e : Ev ts x (.pointer (some ⟨r, o, sp⟩))] [f : Ev ts hi (.int K p)] : XOp P ts h (.sliceArr n size x none (some hi)) (.slice (some ⟨r, o, none⟩) j n) h := ⟨rfl, by
  simp only [xop, e.eq, sliceOf, bnd, f.eq]
  rw [idx_in (by omega), hp]
  simp only [Int.toNat_natCast]
  rw [if_neg (by omega), if_neg hn]
  simp⟩
theorem put_w {q o es : Nat} {ws ys : List UInt32} (hg : h.get q = .cells (wcells ws) es) (hl : o + ys.length ≤ ws.length) : putAt h q o (wcells ys) = some (h.set q (.cells (wcells (ws.take o ++ (ys ++ ws.drop (o + ys.length)))) es)) := by
  simp only [putAt, hg]
  rw [if_pos ⟨by rw [wcells_len, wcells_len]; omega, wcells_one ys⟩]
  congr 3
  have h1 : wcells ws = wcells (ws.take o) ++ wcells (ws.drop o) := by rw [← wcells_append, List.take_append_drop]
  have h2 : (wcells (ws.take o)).length = o := by rw [wcells_len, List.length_take]; omega
  rw [h1]
  have h3 := over_app (wcells (ws.take o)) (wcells (ws.drop o)) (wcells ys) 0
  rw [h2, Nat.add_zero] at h3
  rw [h3, over_front _ _ (by rw [wcells_len, wcells_len, List.length_drop]; omega), wcells_len, wcells_append, wcells_append, ← List.drop_drop]
  congr 2
  simp [wcells]
theorem mid_cell {p es k : Nat} {pre post : List Value} {hs : List UInt32} (hg : h.get p = .cells (pre ++ (wcells hs ++ post)) es) (hk : k < hs.length) : Cell h p (pre.length + k) (.int .u32 ((hs.getD k 0).toNat : Nat)) := ⟨by
  rw [cellsAt_of (c := pre ++ (wcells hs ++ post)) (by rw [hg]; rfl) (by simp [wcells_len]; omega), take_one _ _ (by simp [wcells_len]; omega), lget_app]
  have : ∀ (l m : List Value) (k : Nat), k < l.length → lget (l ++ m) k = lget l k := by
    intro l
    induction l with
    | nil => intro m k hk; simp at hk
    | cons a l ih =>
      intro m k hk
      cases k with
      | zero => rfl
      | succ k => exact ih m k (by simpa using hk)
  rw [this _ _ _ (by rw [wcells_len]; exact hk), wcells_get hk]⟩
theorem mid_put {p es k : Nat} {pre post : List Value} {hs : List UInt32} {w : UInt32} (hg : h.get p = .cells (pre ++ (wcells hs ++ post)) es) (hk : k < hs.length) : Put h p (pre.length + k) [.int .u32 (w.toNat : Nat)] (h.set p (.cells (pre ++ (wcells (hs.set k w) ++ post)) es)) := ⟨by
  simp only [putAt, hg]
  rw [if_pos ⟨by simp [wcells_len]; omega, rfl⟩, over_app]
  congr 4
  have : ∀ (l m : List Value) (k : Nat) (v : Value), k < l.length → over (l ++ m) k [v] = over l k [v] ++ m := by
    intro l
    induction l with
    | nil => intro m k v hk; simp at hk
    | cons a l ih =>
      intro m k v hk
      cases k with
      | zero =>
        show v :: over (l ++ m) 0 [] = (v :: over l 0 []) ++ m
        rw [over_nil, over_nil]; rfl
      | succ k =>
        show a :: over (l ++ m) k [v] = (a :: over l k [v]) ++ m
        rw [ih m k v (by simpa using hk)]; rfl
  rw [this _ _ _ _ (by rw [wcells_len]; exact hk), wcells_set hk]⟩
theorem bnd_at {e : Operand → Value} {lim d k : Nat} {K : IntKind} {x : Operand} {p : Int} (h1 : e x = .int K p) (hp : p = k) (hk : k ≤ lim) : bnd e lim d (some x) = some k := by
  simp only [bnd, h1]
  rw [idx_in (by omega), hp]; rfl
end
end Go.Vm

/- A small machine over an abstract heap: loops over functions. -/
set_option linter.unusedSimpArgs false
set_option linter.unusedVariables false
namespace Go.Vm
section
variable {P : Program} {T : Table} {ts : List Value} {ds : List Deferred} {h h' : Heap} {rd : Option Nat} {Q : QP} {rs : List (Nat × Option (Option Nat))} {R : RP} {X : XP} {v : Value} {r r2 : Nat} {a a2 : Array Value}
end
end Go.Vm

/- A small machine over an abstract heap: what is shown over a table holds over a larger one. -/
set_option linter.unusedSimpArgs false
set_option linter.unusedVariables false
namespace Go.Vm
def LeT (T T' : Table) : Prop := ∀ f af, T f = some af → T' f = some af
section
variable {P : Program} {T T' : Table}
theorem xdefer_tab (hT : LeT T T') {c : Caller} {f : FuncId} {args : List Value} {u : FrameMode} {h : Heap} (hg : GoodD (xdefer P T c f args u h)) : xdefer P T' c f args u h = xdefer P T c f args u h := by
  cases h1 : T f with
  | none => simp only [xdefer, h1] at hg; exact absurd rfl (hg .bad (by simp))
  | some af => rw [xdefer_eq h1, xdefer_eq (hT f af h1)]
theorem leave_tab (hT : LeT T T') {c : Caller} {rs : List (Nat × Option (Option Nat))} {ts : List Value} : ∀ (ds : List Deferred) (u : FrameMode) (h : Heap), GoodC (leave P T c rs ts ds u h) → leave P T' c rs ts ds u h = leave P T c rs ts ds u h
  | [], u, h, _ => by cases u <;> simp only [leave]
  | d :: ds, u, h, hg => by
    cases u with
    | run => simp only [leave]
    | returning =>
      cases d with
      | mk t args =>
        cases t with
        | fn fn captured =>
          cases fn with
          | func f =>
            simp only [leave] at hg ⊢
            rw [xdefer_tab hT fun a ha hb => by
              subst hb
              exact good_flatC hg ha .bad (by simp) rfl]
            refine flatMap_eq fun a ha => ?_
            have h2 := good_flatC hg ha
            cases a with
            | ret u' h' => exact leave_tab hT ds _ _ h2
            | pan ch u' h' => exact leave_tab hT ds _ _ h2
            | bad => rfl
          | _ => simp only [leave]
        | collected r =>
          simp only [leave] at hg ⊢
          split
          · rename_i hget
            rw [hget] at hg
            exact leave_tab hT ds _ _ hg
          · rfl
        | _ => simp only [leave]
    | panicking ch =>
      cases d with
      | mk t args =>
        cases t with
        | fn fn captured =>
          cases fn with
          | func f =>
            simp only [leave] at hg ⊢
            rw [xdefer_tab hT fun a ha hb => by
              subst hb
              exact good_flatC hg ha .bad (by simp) rfl]
            refine flatMap_eq fun a ha => ?_
            have h2 := good_flatC hg ha
            cases a with
            | ret u' h' => exact leave_tab hT ds _ _ h2
            | pan ch u' h' => exact leave_tab hT ds _ _ h2
            | bad => rfl
          | _ => simp only [leave]
        | collected r =>
          simp only [leave] at hg ⊢
          split
          · rename_i hget
            rw [hget] at hg
            exact leave_tab hT ds _ _ hg
          · rfl
        | _ => simp only [leave]
theorem xfun_tab (hT : LeT T T') {c : Caller} {L : Nat} {af : AFunc} {args : List Value} {h : Heap} (hg : GoodC (xfun P T c L af args h)) : xfun P T' c L af args h = xfun P T c L af args h := by
  rw [xfun_eq] at hg ⊢
  rw [xfun_eq]
  refine flatMap_eq fun o ho => ?_
  have h2 := good_flatC hg ho
  cases o with
  | mk e s => cases e <;> first | rfl | exact leave_tab hT _ _ _ h2
  | bad => rfl
theorem xcall_tab (hT : LeT T T') {L : Nat} : ∀ n, LeC (xcall P T L n) (xcall P T' L n)
  | 0 => fun t args h hg => absurd rfl (hg .bad (by simp [xcall]))
  | n + 1 => fun t args h hg => by
    have ih := xcall_tab hT (L := L) n
    cases t with
    | fn f =>
      simp only [xcall] at hg ⊢
      cases h1 : T f with
      | none => rw [h1] at hg; exact absurd rfl (hg .bad (by simp))
      | some af =>
        rw [h1] at hg
        rw [hT f af h1]
        simp only at hg ⊢
        split
        · rfl
        · rename_i hp
          rw [hp] at hg
          have e1 := xfun_mono ih (Nat.le_refl L) hg
          rw [← e1]
          exact xfun_tab hT (by rw [e1]; exact hg)
    | yield l => exact xround_mono ih (Nat.le_refl L) hg
theorem Runs.tab (hT : LeT T T') {t : Tgt} {args : List Value} {h : Heap} {R : RP} {X : XP} (hr : Runs P T t args h R X) : Runs P T' t args h R X := by
  unfold Runs at *
  obtain ⟨n, L, hr⟩ := hr
  exact ⟨n, L, fun o ho => hr o (by rw [xcall_tab hT n t args h (okC.good hr)] at ho; exact ho)⟩
end
def holed (P : Program) (ks : List FuncId) : Table := fun f => if ks.contains f then none else tableOf P f
theorem holed_t {P : Program} {ks : List FuncId} {f : FuncId} {af : AFunc} (h1 : ks.contains f = false) (h2 : tableOf P f = some af) : holed P ks f = some af := by
  unfold holed; rw [if_neg (by rw [h1]; simp)]; exact h2
theorem holed_ok {P : Program} {ks : List FuncId} : TableOK P (holed P ks) := by
  intro f af h
  unfold holed at h
  split at h
  · cases h
  · exact tableOf_ok f af h
end Go.Vm

/- A small machine over an abstract heap: rounds of loops over functions. -/
set_option linter.unusedSimpArgs false
set_option linter.unusedVariables false
namespace Go.Vm
section
variable {P : Program} {T : Table} {ts : List Value} {ds : List Deferred} {h h' : Heap} {rd : Option Nat} {Q : QP} {R : RP} {X : XP} {l : Nat} {ps : List Nat} {as b : Code} {as' b' : ACode}
def rndQ (l : Nat) (ts : List Value) (ps : List Nat) (as b : Code) (R : RP) : QP
  | .normal, s => s.h.get l = .loop .busy none ts ps as b ∧ R (.bool true) (s.h.set l (.loop .ready none ts ps as b))
  | .ret, s => s.h.get l = .loop .busy none ts ps as b ∧ R (.bool false) (s.h.set l (.loop .done (some .ret) ts ps as b))
  | .exit id, s => s.h.get l = .loop .busy none ts ps as b ∧ R (.bool false) (s.h.set l (.loop .done (some (.exit id)) ts ps as b))
  | _, _ => False
def asgQ (P : Program) (T : Table) (l : Nat) (ts : List Value) (ps : List Nat) (as b : Code) (b' : ACode) (R : RP) : QP
  | .normal, s => s.h.get l = .loop .ready none ts ps as b ∧ RunC P T b' { s with h := s.h.set l (.loop .busy none ts ps as b) } (rndQ l ts ps as b R)
  | _, _ => False
theorem Runs.round {ts1 : List Value} {args : List Value} (hg : h.get l = .loop .ready none ts ps as b) (hp : putAll ts ps args = ts1)
    (hn : args.length = ps.length) (n1 : noDefer as = true) (n2 : noDefer b = true) (ha : comp P as = some as') (hb : comp P b = some b')
    (hr : RunC P T as' ⟨ts1, [], h, some l⟩ (asgQ P T l ts ps as b b' R)) : Runs P T (.yield l) args h R X := by
  subst hp
  refine Runs.yield hg ⟨hn, n1, n2⟩ ha hb (RunC.mono hr fun e s hq => ?_)
  cases e with
  | normal =>
    refine ⟨rfl, none, ts, ps, as, b, hq.1, RunC.mono hq.2 fun e s hq => ?_⟩
    cases e with
    | normal =>
      obtain ⟨h1, h2⟩ := hq
      simp only [roundOut, endR, h1]
      exact h2
    | ret =>
      obtain ⟨h1, h2⟩ := hq
      simp only [roundOut, endR, h1]
      exact h2
    | exit id =>
      obtain ⟨h1, h2⟩ := hq
      simp only [roundOut, endR, h1]
      exact h2
    | _ => exact hq.elim
  | _ => exact hq.elim
theorem A.go [k : HGet h l (.loop .ready none ts ps as b)] {ts1 : List Value} {ds1 : List Deferred} (hr : RunC P T b' ⟨ts1, ds1, h.set l (.loop .busy none ts ps as b), rd⟩ (rndQ l ts ps as b R)) : asgQ P T l ts ps as b b' R .normal ⟨ts1, ds1, h, rd⟩ := ⟨k.eq, hr⟩
theorem A.on [k : HGet h l (.loop .busy none ts ps as b)] {ts1 : List Value} {ds1 : List Deferred} (hr : R (.bool true) (h.set l (.loop .ready none ts ps as b))) : rndQ l ts ps as b R .normal ⟨ts1, ds1, h, rd⟩ := ⟨k.eq, hr⟩
theorem A.ret [k : HGet h l (.loop .busy none ts ps as b)] {ts1 : List Value} {ds1 : List Deferred} (hr : R (.bool false) (h.set l (.loop .done (some .ret) ts ps as b))) : rndQ l ts ps as b R .ret ⟨ts1, ds1, h, rd⟩ := ⟨k.eq, hr⟩
theorem A.exit [k : HGet h l (.loop .busy none ts ps as b)] {ts1 : List Value} {ds1 : List Deferred} {id : Nat} (hr : R (.bool false) (h.set l (.loop .done (some (.exit id)) ts ps as b))) : rndQ l ts ps as b R (.exit id) ⟨ts1, ds1, h, rd⟩ := ⟨k.eq, hr⟩
end
attribute [irreducible] rndQ asgQ
end Go.Vm

/- A small machine over an abstract heap: slices that are sliced again. -/
set_option linter.unusedSimpArgs false
set_option linter.unusedVariables false
namespace Go.Vm
def Sd (h : Heap) (size : Nat) (v : Value) (c : List Value) (n : Nat) : Prop :=
  ∃ a cap, v = .slice a n cap ∧ n ≤ cap ∧ c.length = n * size ∧ (n ≠ 0 → ∃ b o sp, a = some ⟨b, o, sp⟩ ∧ b < h.n ∧ cellsAt h b o (n * size) = some c ∧ (sp ≠ none → ∃ cc, h.get b = .cells cc size))
section
variable {h h' : Heap} {size n : Nat} {v : Value} {c : List Value}
theorem Sd.rd (hv : Sd h size v c n) : Rd h size v c n := by
  obtain ⟨a, cap, rfl, hle, hl, hc⟩ := hv
  refine ⟨a, cap, rfl, hl, fun hn => ?_⟩
  obtain ⟨b, o, sp, e, hb, hcc, _⟩ := hc hn
  exact ⟨b, o, sp, e, hb, hcc⟩
theorem Sd.nil {a : Option Addr} {cap : Nat} : Sd h size (.slice a 0 cap) [] 0 := ⟨a, cap, rfl, Nat.zero_le _, by simp, fun h => absurd rfl h⟩
theorem Sd.keep {S : Nat → Prop} (hv : Sd h size v c n) (hf : Fr S h h') (hs : ∀ b, blockOf v b → ¬ S b) : Sd h' size v c n := by
  obtain ⟨a, cap, rfl, hle, hl, hc⟩ := hv
  refine ⟨a, cap, rfl, hle, hl, fun hn => ?_⟩
  obtain ⟨b, o, sp, rfl, hb, hcc, he⟩ := hc hn
  have hb2 : ¬ S b := hs b ⟨rfl, hn⟩
  refine ⟨b, o, sp, rfl, hf.lt hb, by rw [cellsAt_keep hf hb hb2]; exact hcc, fun h1 => ?_⟩
  rw [hf.get b hb hb2]
  exact he h1
theorem Sd.cut {e : Operand → Value} {lo hi : Option Operand} (i j : Nat) (hv : Sd h size v c n) (h1 : ∀ m, n ≤ m → bnd e m n hi = some j) (h2 : bnd e j 0 lo = some i) (hij : i ≤ j) (hj : j ≤ n) :
    ∃ v', sliceOf e size v lo hi none h = .ok v' h ∧ (∀ b, blockOf v' b → blockOf v b) ∧ Sd h size v' ((c.drop (i * size)).take ((j - i) * size)) (j - i) := by
  obtain ⟨a, cap, rfl, hle, hl, hc⟩ := hv
  have hmul : i * size + (j - i) * size = j * size := by rw [← Nat.add_mul]; congr 1; omega
  have hmul2 : j * size ≤ n * size := Nat.mul_le_mul_right _ hj
  have hlen : ((c.drop (i * size)).take ((j - i) * size)).length = (j - i) * size := by
    rw [List.length_take, List.length_drop]; omega
  have hz : j - i = 0 → ∀ a' cap', Sd h size (.slice a' (j - i) cap') ((c.drop (i * size)).take ((j - i) * size)) (j - i) := fun h0 a' cap' => by
    rw [h0, Nat.zero_mul, List.take_zero]
    exact Sd.nil
  have hb0 : bnd e cap cap none = some cap := rfl
  by_cases hn : n = 0
  · have hj0 : j - i = 0 := by omega
    cases a with
    | none => exact ⟨.slice none (j - i) (cap - i), by simp only [sliceOf, hb0, h1 cap hle, h2]; rw [if_neg (by omega)], fun b hb => hb.elim, hz hj0 _ _⟩
    | some a =>
      have h3 : ¬ (cap < j) := by omega
      obtain ⟨ab, ao, asp⟩ := a
      cases asp with
      | none => exact ⟨.slice (some (if cap = i then ⟨ab, ao, none⟩ else ⟨ab, ao + i * size, none⟩)) (j - i) (cap - i), by simp only [sliceOf, hb0, h1 cap hle, h2]; rw [if_neg h3], fun b hb => absurd hj0 hb.2, hz hj0 _ _⟩
      | some k =>
        have hi0 : i = 0 := by omega
        refine ⟨.slice (some ⟨ab, ao, some k⟩) j cap, by simp only [sliceOf, hb0, h1 cap hle, h2]; rw [if_neg h3]; simp only [hi0, if_true], fun b hb => ?_, ?_⟩
        · exact absurd (by omega) hb.2
        · have : j = j - i := by omega
          have h9 := hz hj0 (some ⟨ab, ao, some k⟩) cap
          rw [← this] at h9 ⊢
          exact h9
  · obtain ⟨b, o, sp, rfl, hb, hcc, he⟩ := hc hn
    have h3 : ¬ (cap < j) := by omega
    have hsub : cellsAt h b (o + i * size) ((j - i) * size) = some ((c.drop (i * size)).take ((j - i) * size)) := cellsAt_sub hcc (by omega)
    cases sp with
    | none =>
      refine ⟨.slice (some (if cap = i then ⟨b, o, none⟩ else ⟨b, o + i * size, none⟩)) (j - i) (cap - i), by simp only [sliceOf, hb0, h1 cap hle, h2]; rw [if_neg h3], fun b' hb' => ⟨by
        have := hb'.1
        split at this <;> exact this, hn⟩, ?_⟩
      refine ⟨_, _, rfl, by omega, hlen, fun hji => ?_⟩
      rw [if_neg (by omega)]
      exact ⟨b, _, none, rfl, hb, hsub, fun h => absurd rfl h⟩
    | some k =>
      obtain ⟨cc, hg⟩ := he (by simp)
      by_cases hi0 : i = 0
      · refine ⟨.slice (some ⟨b, o, some k⟩) j cap, by simp only [sliceOf, hb0, h1 cap hle, h2]; rw [if_neg h3]; simp only [hi0, if_true], fun b' hb' => ⟨hb'.1, hn⟩, ?_⟩
        subst hi0
        rw [Nat.sub_zero] at hlen hsub ⊢
        rw [Nat.zero_mul, Nat.add_zero] at hsub
        exact ⟨_, _, rfl, by omega, hlen, fun _ => ⟨b, o, some k, rfl, hb, by rw [Nat.zero_mul]; exact hsub, fun _ => ⟨cc, hg⟩⟩⟩
      · by_cases hic : cap = i
        · have hj0 : j - i = 0 := by omega
          refine ⟨.slice (some ⟨0, 0, some k⟩) 0 0, by simp only [sliceOf, hb0, h1 cap hle, h2]; rw [if_neg h3]; simp only [hi0, if_false, hic, if_true], fun b' hb' => absurd rfl hb'.2, ?_⟩
          have h9 := hz hj0 (some ⟨0, 0, some k⟩) 0
          rw [hj0] at h9 ⊢
          exact h9
        · refine ⟨.slice (some ⟨b, o + i * size, some k⟩) (j - i) (cap - i), by simp only [sliceOf, hb0, h1 cap hle, h2]; rw [if_neg h3]; simp only [hi0, if_false, if_neg hic, hg, if_true], fun b' hb' => ⟨hb'.1, hn⟩, ?_⟩
          exact ⟨_, _, rfl, by omega, hlen, fun _ => ⟨b, _, some k, rfl, hb, hsub, fun _ => ⟨cc, hg⟩⟩⟩
end
section
variable {P : Program} {T : Table} {ts : List Value} {ds : List Deferred} {h : Heap} {rd : Option Nat} {v : Value} {d size n : Nat} {c : List Value} {x : Operand} {lo hi : Option Operand} {chk : List (Option Nat × AOp × Option (Nat × Bool))} {pan : Bool} {rest : List AOper} {Q : QP} {F : Value → List Value}
theorem O.cut (i j : Nat) (hv : Sd h size v c n) [e1 : Ev ts x v] [s : LSetF ts d F] (h1 : ∀ m, n ≤ m → bnd (eval ts) m n hi = some j) (h2 : bnd (eval ts) j 0 lo = some i) (hij : i ≤ j) (hj : j ≤ n)
    (hk : ∀ v', (∀ b, blockOf v' b → blockOf v b) → Sd h size v' ((c.drop (i * size)).take ((j - i) * size)) (j - i) → RunO P T rest ⟨F v', ds, h, rd⟩ Q) : RunO P T (⟨some d, .sliceSl size x lo hi none, none, chk, pan⟩ :: rest) ⟨ts, ds, h, rd⟩ Q := by
  obtain ⟨v', hx, hbl, hr⟩ := hv.cut i j h1 h2 hij hj
  exact RunO.cons rfl (fun _ _ e => by cases e) (RunX.ok (h' := h) (v := v') (fun call => by rw [xo_plain rfl]; simp only [xop, e1.eq, hx]) (by
    show RunO P T rest ⟨lset ts d v', ds, h, rd⟩ Q
    rw [s.eq]; exact hk v' hbl hr))
theorem D.cut (i j : Nat) (hv : Sd h size v c n) [e1 : Ev ts x v] [s : LSetF ts d F] (h1 : ∀ m, n ≤ m → bnd (eval ts) m n hi = some j) (h2 : bnd (eval ts) j 0 lo = some i) (hij : i ≤ j) (hj : j ≤ n)
    (hk : ∀ v', (∀ b, blockOf v' b → blockOf v b) → Sd h size v' ((c.drop (i * size)).take ((j - i) * size)) (j - i) → RunD P T rest ⟨F v', ds, h, rd⟩ Q) : RunD P T (⟨some d, .sliceSl size x lo hi none, none, [], pan⟩ :: rest) ⟨ts, ds, h, rd⟩ Q := by
  obtain ⟨v', hx, hbl, hr⟩ := hv.cut i j h1 h2 hij hj
  exact RunD.cons rfl (RunX.ok (h' := h) (v := v') (fun call => by rw [xo_plain rfl]; simp only [xop, e1.eq, hx]) (by
    show _ ∧ RunD P T rest ⟨lset ts d v', ds, h, rd⟩ Q
    rw [s.eq]; exact ⟨rfl, hk v' hbl hr⟩))
theorem O.yield {l : Nat} {f : Operand} {args : List Operand} {vs : List Value} [e : Ev ts f (.func (.yield l) ⟨[]⟩ ⟨[]⟩)] [k : EvL ts args vs] [s : LSetF ts d F] {R : RP}
    (hr : Runs P T (.yield l) vs h R (fun _ _ => False)) (hk : ∀ v h', R v h' → RunO P T rest ⟨F v, ds, h', rd⟩ Q) :
    RunO P T (⟨some d, .callV f args, none, chk, pan⟩ :: rest) ⟨ts, ds, h, rd⟩ Q :=
  RunO.cons rfl (fun _ _ e => by cases e) (RunX.call (t := .yield l) (vs := vs) (by simp only [e.eq, k.eq, target]) (Runs.mono hr (fun v h' hv => by
    show RunO P T rest ⟨lset ts d v, ds, h', rd⟩ Q
    rw [s.eq]; exact hk v h' hv) fun _ _ hx => hx.elim))
end
end Go.Vm

/- A small machine over an abstract heap: strings, which is less. -/
set_option linter.unusedSimpArgs false
set_option linter.unusedVariables false
namespace Go.Vm
section
variable {P : Program} {ts : List Value} {h : Heap} {x y : Operand} {t t' ty : TypeId}
instance XOp.lssS {s s' : ByteArray} [e1 : Ev ts x (.string s)] [e2 : Ev ts y (.string s')] : XOp P ts h (.bin .lss (so (.binOp .lss t x y t') ty) x y) (.bool (Op.bytesLess s.toList s'.toList)) h :=
  ⟨rfl, (bin_raw (by intro k a b hu; cases hu) e1.eq e2.eq).trans (raw_bin e1.eq e2.eq rfl rfl rfl rfl)⟩
end
section
variable {P : Program} {T : Table} {ts : List Value} {ds : List Deferred} {h : Heap} {rd : Option Nat} {v : Value} {d size n : Nat} {c : List Value} {x : Operand} {lo hi : Option Operand} {chk : List (Option Nat × AOp × Option (Nat × Bool))} {pan : Bool} {rest : List AOper} {Q : QP} {F : Value → List Value}
end
end Go.Vm

/- A small machine over an abstract heap: methods of interface values. -/
set_option linter.unusedSimpArgs false
set_option linter.unusedVariables false
namespace Go.Vm
section
variable {P : Program} {T : Table} {ts : List Value} {ds : List Deferred} {h : Heap} {rd : Option Nat} {d : Nat} {chk : List (Option Nat × AOp × Option (Nat × Bool))} {pan : Bool} {rest : List AOper} {Q : QP} {F : Value → List Value}
theorem O.invoke {r : Operand} {name : String} {args : List Operand} {t : TypeId} {v recv : Value} {f : FuncId} {vs : List Value} [e : Ev ts r (.iface t v)] [k : EvL ts args vs] [s : LSetF ts d F] {R : RP}
    (hm : methodOf P h t v name = some (f, recv)) (hr : Runs P T (.fn f) (recv :: vs) h R (fun _ _ => False)) (hk : ∀ v h', R v h' → RunO P T rest ⟨F v, ds, h', rd⟩ Q) :
    RunO P T (⟨some d, .invoke r name args, none, chk, pan⟩ :: rest) ⟨ts, ds, h, rd⟩ Q :=
  have hr2 : Runs P T (.fn f) (recv :: args.map (eval ts)) h R (fun _ _ => False) := by rw [k.eq]; exact hr
  RunO.cons rfl (fun _ _ e => by cases e) (RunX.invoke (t := t) (v := v) (recv := recv) (f := f) e.eq hm (Runs.mono hr2 (fun v h' hv => by
    show RunO P T rest ⟨lset ts d v, ds, h', rd⟩ Q
    rw [s.eq]; exact hk v h' hv) fun _ _ hx => hx.elim))
end
end Go.Vm

/- Loops whose slots are told by a mask: 0 stays, 1 is written anew in each round, 2 turns. -/
set_option linter.unusedVariables false
namespace Go.Vm
open Go
def fillM : List Nat → List Value → List Value → List Value → List Value
  | 0 :: m, vs, us, t :: ts => t :: fillM m vs us.tail ts
  | 1 :: m, vs, us, _ :: ts => us.headD undef :: fillM m vs us.tail ts
  | (_ + 2) :: m, v :: vs, us, _ :: ts => v :: fillM m vs us.tail ts
  | _, _, _, ts => ts
def allM : List Nat → List Value → List Value → (List Value → Prop) → Prop
  | 0 :: m, vs, t :: ts, P => allM m vs ts fun l => P (t :: l)
  | 1 :: m, vs, _ :: ts, P => ∀ x, allM m vs ts fun l => P (x :: l)
  | (_ + 2) :: m, v :: vs, _ :: ts, P => allM m vs ts fun l => P (v :: l)
  | _, _, ts, P => P ts
def JM (k : List Nat) (ts : List Value) (ds : List Deferred) (rd : Option Nat) (I : Nat → List Value → Heap → Prop) (m : Nat) (s : St) : Prop := ∃ vs h, s = ⟨fillM k vs s.ts ts, ds, h, rd⟩ ∧ I m vs h
section
variable {P : Program} {T : Table} {b : ACode} {ts us : List Value} {ds : List Deferred} {h : Heap} {rd : Option Nat} {Q : QP} {m : Nat} {k : List Nat}
def un0 (I : Nat → Heap → Prop) (m : Nat) (vs : List Value) (h : Heap) : Prop := vs = [] ∧ I m h
def un1 (I : Nat → Value → Heap → Prop) (m : Nat) (vs : List Value) (h : Heap) : Prop := ∃ v0 : Value, vs = [v0] ∧ I m v0 h
def un2 (I : Nat → Value → Value → Heap → Prop) (m : Nat) (vs : List Value) (h : Heap) : Prop := ∃ v0 v1 : Value, vs = [v0, v1] ∧ I m v0 v1 h
def un3 (I : Nat → Value → Value → Value → Heap → Prop) (m : Nat) (vs : List Value) (h : Heap) : Prop := ∃ v0 v1 v2 : Value, vs = [v0, v1, v2] ∧ I m v0 v1 v2 h
def un4 (I : Nat → Value → Value → Value → Value → Heap → Prop) (m : Nat) (vs : List Value) (h : Heap) : Prop := ∃ v0 v1 v2 v3 : Value, vs = [v0, v1, v2, v3] ∧ I m v0 v1 v2 v3 h
def un5 (I : Nat → Value → Value → Value → Value → Value → Heap → Prop) (m : Nat) (vs : List Value) (h : Heap) : Prop := ∃ v0 v1 v2 v3 v4 : Value, vs = [v0, v1, v2, v3, v4] ∧ I m v0 v1 v2 v3 v4 h
end
end Go.Vm

/- A small machine over an abstract heap: maps whose keys are whole numbers. -/
set_option linter.unusedSimpArgs false
set_option linter.unusedVariables false
namespace Go.Vm
open Go
structure Ent where
  k : Int
  v : Value
  t : Nat
def Ent.me (e : Ent) : MapEntry := { key := .int .i64 e.k, val := e.v, born := e.t }
def ents (l : List Ent) : List MapEntry := l.map Ent.me
structure EntsOK (l : List Ent) (c : Nat) : Prop where
  k : (l.map (·.k)).Nodup
  t : (l.map (·.t)).Nodup
  lt : ∀ e ∈ l, e.t < c
theorem EntsOK.nil {c : Nat} : EntsOK [] c := ⟨List.nodup_nil, List.nodup_nil, by simp⟩
theorem EntsOK.filter {l : List Ent} {c : Nat} (h : EntsOK l c) (p : Ent → Bool) : EntsOK (l.filter p) c :=
  ⟨h.k.sublist ((List.filter_sublist).map _), h.t.sublist ((List.filter_sublist).map _), fun e he => h.lt e ((List.mem_filter.1 he).1)⟩
theorem EntsOK.add {l : List Ent} {c : Nat} {k : Int} {v : Value} (h : EntsOK l c) (hn : ∀ e ∈ l, e.k ≠ k) : EntsOK (l ++ [⟨k, v, c⟩]) (c + 1) := by
  refine ⟨?_, ?_, fun e he => ?_⟩
  · rw [List.map_append, List.nodup_append]
    refine ⟨h.k, by simp, fun a ha b hb => ?_⟩
    obtain ⟨e, he, rfl⟩ := List.mem_map.1 ha
    simp only [List.map_cons, List.map_nil, List.mem_singleton] at hb
    subst hb
    exact hn e he
  · rw [List.map_append, List.nodup_append]
    refine ⟨h.t, by simp, fun a ha b hb => ?_⟩
    obtain ⟨e, he, rfl⟩ := List.mem_map.1 ha
    simp only [List.map_cons, List.map_nil, List.mem_singleton] at hb
    subst hb
    have := h.lt e he
    omega
  · rcases List.mem_append.1 he with he | he
    · have := h.lt e he; omega
    · simp only [List.mem_singleton] at he
      subst he
      show c < c + 1
      omega
section
variable {P : Program} {ts : List Value} {h : Heap} {m x y : Operand} {zero w : Value} {ok : Bool} {r c : Nat} {l : List Ent} {k : Int}
end
def leftE (l : List Ent) (seen : List Nat) : List Ent := l.filter fun e => !seen.contains e.t
theorem next_ints {h : Heap} {r m c : Nat} {l : List Ent} {seen : List Nat} (gi : h.get r = .mapIter (some m) c seen c) (gm : h.get m = .map (ents l) c) (hl : ∀ e ∈ l, e.t < c) :
    nextAt h (.pointer (some ⟨r, 0, none⟩)) = some (if leftE l seen = [] then [(.tuple ⟨[.bool false]⟩, h)] else (leftE l seen).map fun e => (.tuple ⟨[.bool true, .int .i64 e.k, e.v]⟩, h.set r (.mapIter (some m) c (seen ++ [e.t]) c))) := by
  have hm : ∀ x ∈ ents l, x.born < c := fun x hx => by
    obtain ⟨e, he, rfl⟩ := List.mem_map.1 hx
    exact hl e he
  have hleft : (ents l).filter (fun en => !seen.contains en.born) = ents (leftE l seen) := by
    unfold ents leftE
    rw [List.filter_map]
    rfl
  have hold : (ents (leftE l seen)).filter (fun en => decide (en.born < c)) = ents (leftE l seen) := List.filter_eq_self.2 fun x hx => by
    obtain ⟨e, he, rfl⟩ := List.mem_map.1 hx
    exact decide_eq_true (hl e (List.mem_filter.1 he).1)
  have hnew : (ents (leftE l seen)).filter (fun en => decide (en.born ≥ c)) = [] := List.filter_eq_nil_iff.2 fun x hx => by
    obtain ⟨e, he, rfl⟩ := List.mem_map.1 hx
    have := hl e (List.mem_filter.1 he).1
    simp only [decide_eq_true_eq]
    show ¬ e.t ≥ c
    omega
  have hbad : (!seen.isEmpty && !(ents l).isEmpty && (ents l).all fun en => decide (en.born ≥ c)) = false := by
    cases hq : ents l with
    | nil => simp
    | cons x q =>
      have := hm x (by rw [hq]; simp)
      have : decide (x.born ≥ c) = false := decide_eq_false (by omega)
      simp [this]
  simp only [nextAt, gi, gm, hbad, hleft, hold, hnew]
  cases hq : leftE l seen with
  | nil => rfl
  | cons e q => simp [ents, Ent.me]
section
variable {P : Program} {T : Table} {ts tsF : List Value} {ds : List Deferred} {h : Heap} {rd : Option Nat} {d r m c : Nat} {chk : List (Option Nat × AOp × Option (Nat × Bool))} {pan : Bool} {rest : List AOper} {Q : QP} {F : Value → List Value} {l : List Ent} {seen : List Nat} {it : Operand}
theorem O.nextMap (hl : EntsOK l c) [e : Ev ts it (.pointer (some ⟨r, 0, none⟩))] [gi : HGet h r (.mapIter (some m) c seen c)] [gm : HGet h m (.map (ents l) c)] [s : LSetF ts d F]
    (hend : leftE l seen = [] → RunO P T rest ⟨F (.tuple ⟨[.bool false]⟩), ds, h, rd⟩ Q)
    (hnext : ∀ e ∈ leftE l seen, RunO P T rest ⟨F (.tuple ⟨[.bool true, .int .i64 e.k, e.v]⟩), ds, h.set r (.mapIter (some m) c (seen ++ [e.t]) c), rd⟩ Q) :
    RunO P T (⟨some d, .nextMap it, none, chk, pan⟩ :: rest) ⟨ts, ds, h, rd⟩ Q :=
  RunO.cons rfl (fun _ _ e => by cases e) (RunX.next (by show nextAt h (eval ts it) = _; rw [e.eq]; exact next_ints gi.eq gm.eq hl.lt) fun p hp => by
    show RunO P T rest ⟨lset ts d p.1, ds, p.2, rd⟩ Q
    rw [s.eq]
    split at hp
    · rename_i h0
      simp only [List.mem_singleton] at hp
      subst hp
      exact hend h0
    · obtain ⟨e, he, rfl⟩ := List.mem_map.1 hp
      exact hnext e he)
theorem find_born {l : List Ent} {e : Ent} (he : e ∈ l) (hn : (l.map (·.t)).Nodup) : (ents l).find? (fun en => en.born == e.t) = some e.me := by
  induction l with
  | nil => simp at he
  | cons a l ih =>
    simp only [List.map_cons, List.nodup_cons] at hn
    show (a.me :: ents l).find? _ = _
    by_cases ht : a.t = e.t
    · have : a = e := by
        rcases List.mem_cons.1 he with h | h
        · exact h.symm
        · exact absurd (List.mem_map.2 ⟨e, h, ht.symm⟩) hn.1
      subst this
      rw [List.find?_cons_of_pos (by simp [Ent.me])]
    · have hel : e ∈ l := by
        rcases List.mem_cons.1 he with h | h
        · exact absurd (by rw [h]) ht
        · exact h
      rw [List.find?_cons_of_neg (by simpa [Ent.me] using ht)]
      exact ih hel hn.2
theorem XOp.entryMap (hl : EntsOK l c) {x : Ent} (hx : x ∈ l) [e : Ev ts it (.pointer (some ⟨r, 0, none⟩))] [gi : HGet h r (.mapIter (some m) c (seen ++ [x.t]) c)] [gm : HGet h m (.map (ents l) c)] : XOp P ts h (.entryMap it) (.tuple ⟨[.int .i64 x.k, x.v]⟩) h := ⟨rfl, by
  simp only [xop, e.eq, gi.eq, List.getLast?_append, List.getLast?_singleton, Option.some_or, gm.eq, if_true, find_born hx hl.t]
  rfl⟩
end
structure TellE (l : List Ent) (done : List Ent) : Prop where
  t : (done.map (·.t)).Nodup
  mem : ∀ e ∈ done, e ∈ l
theorem TellE.nil {l : List Ent} : TellE l [] := ⟨List.nodup_nil, by simp⟩
theorem TellE.next {l done : List Ent} {e : Ent} (h : TellE l done) (he : e ∈ leftE l (done.map (·.t))) : TellE l (done ++ [e]) := by
  obtain ⟨h1, h2⟩ := List.mem_filter.1 he
  refine ⟨?_, fun x hx => ?_⟩
  · rw [List.map_append, List.nodup_append]
    refine ⟨h.t, by simp, fun a ha b hb => ?_⟩
    simp only [List.map_cons, List.map_nil, List.mem_singleton] at hb
    subst hb
    rintro rfl
    simp only [Bool.not_eq_true', List.contains_eq_mem, decide_eq_false_iff_not] at h2
    exact h2 ha
  · rcases List.mem_append.1 hx with hx | hx
    · exact h.mem x hx
    · simp only [List.mem_singleton] at hx
      subst hx
      exact h1
theorem nodup_of_map {α β : Type} (f : α → β) {l : List α} (h : (l.map f).Nodup) : l.Nodup := by
  induction l with
  | nil => exact List.nodup_nil
  | cons a l ih =>
    simp only [List.map_cons, List.nodup_cons] at h
    exact List.nodup_cons.2 ⟨fun q => h.1 (List.mem_map.2 ⟨a, q, rfl⟩), ih h.2⟩
theorem perm_of_same {α : Type} : ∀ {l m : List α}, l.Nodup → m.Nodup → (∀ a, a ∈ l ↔ a ∈ m) → l.Perm m
  | [], m, _, _, h => by
    cases m with
    | nil => exact .refl _
    | cons a m => exact absurd ((h a).2 (by simp)) (by simp)
  | a :: l, m, hl, hm, h => by
    obtain ⟨p, q, rfl⟩ := List.append_of_mem ((h a).1 (by simp))
    have hl' := List.nodup_cons.1 hl
    have hm' : (a :: (p ++ q)).Nodup := (List.perm_middle.nodup_iff).1 hm
    have hm2 := List.nodup_cons.1 hm'
    refine ((perm_of_same hl'.2 hm2.2 fun b => ?_).cons a).trans List.perm_middle.symm
    have hb := h b
    simp only [List.mem_cons, List.mem_append] at hb ⊢
    constructor
    · intro q
      have := hb.1 (.inr q)
      rcases this with h1 | h1 | h1
      · exact .inl h1
      · subst h1; exact absurd q hl'.1
      · exact .inr h1
    · intro q
      have := hb.2 (q.elim .inl fun q => .inr (.inr q))
      rcases this with h1 | h1
      · subst h1
        exact absurd (List.mem_append.2 q) hm2.1
      · exact h1
theorem TellE.all {l done : List Ent} (ht : (l.map (·.t)).Nodup) (h : TellE l done) (hn : leftE l (done.map (·.t)) = []) : done.Perm l := by
  refine perm_of_same (nodup_of_map _ h.t) (nodup_of_map _ ht) fun e => ⟨h.mem e, fun he => ?_⟩
  have := List.filter_eq_nil_iff.1 hn e he
  simp only [Bool.not_eq_true', List.contains_eq_mem, decide_eq_false_iff_not, Classical.not_not] at this
  obtain ⟨x, hx, hxe⟩ := List.mem_map.1 this
  have hxl := h.mem x hx
  have : x = e := by
    clear hn this h
    induction l with
    | nil => simp at he
    | cons a l ih =>
      simp only [List.map_cons, List.nodup_cons] at ht
      rcases List.mem_cons.1 he with h1 | h1 <;> rcases List.mem_cons.1 hxl with h2 | h2
      · rw [h1, h2]
      · subst h1; exact absurd (List.mem_map.2 ⟨x, h2, hxe⟩) ht.1
      · subst h2; exact absurd (List.mem_map.2 ⟨e, h1, hxe.symm⟩) ht.1
      · exact ih ht.2 h1 h2
  rwa [this] at hx
def MRuns (P : Program) (T : Table) (t : TypeId) (v : Value) (name : String) (args : List Value) (h : Heap) (R : RP) : Prop :=
  ∃ f recv, methodOf P h t v name = some (f, recv) ∧ Runs P T (.fn f) (recv :: args) h R (fun _ _ => False)
section
variable {P : Program} {T : Table} {ts : List Value} {ds : List Deferred} {h : Heap} {rd : Option Nat} {d : Nat} {chk : List (Option Nat × AOp × Option (Nat × Bool))} {pan : Bool} {rest : List AOper} {Q : QP} {F : Value → List Value}
theorem MRuns.mono {t : TypeId} {v : Value} {name : String} {args : List Value} {R R' : RP} (hm : MRuns P T t v name args h R) (hk : ∀ v h', R v h' → R' v h') : MRuns P T t v name args h R' :=
  let ⟨f, r, h1, h2⟩ := hm
  ⟨f, r, h1, h2.mono hk fun _ _ h => h⟩
end
def methF (P : Program) (t : TypeId) (name : String) : Option (FuncId × Bool) :=
  (P.info? t).bind fun i => (i.methods.find? (·.name == name)).bind fun m => if m.path.isEmpty then m.func else none
section
variable {P : Program} {T : Table} {ts : List Value} {ds : List Deferred} {h : Heap} {rd : Option Nat} {d : Nat} {chk : List (Option Nat × AOp × Option (Nat × Bool))} {pan : Bool} {rest : List AOper} {Q : QP} {F : Value → List Value}
end
end Go.Vm
