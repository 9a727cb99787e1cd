/- A small machine over an abstract heap: more operations. -/
import Derived.Test.YtoadcfjkkoemdaaVm42
import Derived.Laws.RangeAny
import Derived.Laws.RangeString
set_option linter.unusedSimpArgs false
set_option linter.unusedVariables false
namespace Go.Vm

theorem over_both : ∀ (p q l m : List Value), p.length = q.length → over (p ++ l) 0 (q ++ m) = q ++ over l 0 m
  | [], [], _, _, _ => rfl
  | [], _ :: _, _, _, h => by simp at h
  | _ :: _, [], _, _, h => by simp at h
  | v :: p, w :: q, l, m, h => by
    show w :: over (p ++ l) 0 (q ++ m) = _
    rw [over_both p q l m (by simpa using h)]; rfl
instance (priority := high) Over.put32 {p q l m l' : List Value} [k : L32 p] [j : L32 q] [h : Over l 0 m l'] : Over (p ++ l) 0 (q ++ m) (q ++ l') := ⟨by have := h.le; simp [k.eq, j.eq] at *; omega, by rw [over_both p q l m (by rw [k.eq, j.eq]), h.eq]⟩
instance (priority := high) Over.put4 {p q l m l' : List Value} [k : L4 p] [j : L4 q] [h : Over l 0 m l'] : Over (p ++ l) 0 (q ++ m) (q ++ l') := ⟨by have := h.le; simp [k.eq, j.eq] at *; omega, by rw [over_both p q l m (by rw [k.eq, j.eq]), h.eq]⟩

section
variable {P : Program} {ts : List Value} {h h' : Heap} {x y a b c i : Operand} {u v w : Value} {l l' out : List Value} {o n k size len r off m : Nat} {sp : Option Nat} {K J : IntKind} {p q : Int} {O : Oper} {A B : Bool} {t t' ty : TypeId}

theorem XOp.mkArrayAt (hn : n ≤ len) [e : Ev ts x (.slice (some ⟨r, o, sp⟩) len m)] : XOp P ts h (.arrayAt n x) (.pointer (some ⟨r, o, none⟩)) h := ⟨rfl, by
  simp only [xop, e.eq, if_pos hn]⟩

instance XOp.maxI [e1 : Ev ts x (.int K p)] [e2 : Ev ts y (.int K q)] : XOp P ts h (.raw (so (.call ⟨.builtin .max, #[x, y], #[t, t']⟩) ty)) (.int K (if q > p then q else p)) h := ⟨rfl, by
  refine raw_ok (by simp [so, Op.operands, Call.operands, e1.eq, e2.eq, ground]) ?_ rfl
  show pr P (invoke (.builtin .max #[t, t'] ty ((#[x, y] : Array Operand).map fun | .const _ => true | _ => false)) ((#[x, y] : Array Operand).map (eval ts))) = _
  have hm : (#[x, y] : Array Operand).map (eval ts) = #[.int K p, .int K q] := by simp [e1.eq, e2.eq]
  rw [hm]
  rfl⟩
instance XOp.minI [e1 : Ev ts x (.int K p)] [e2 : Ev ts y (.int K q)] : XOp P ts h (.raw (so (.call ⟨.builtin .min, #[x, y], #[t, t']⟩) ty)) (.int K (if q < p then q else p)) h := ⟨rfl, by
  refine raw_ok (by simp [so, Op.operands, Call.operands, e1.eq, e2.eq, ground]) ?_ rfl
  show pr P (invoke (.builtin .min #[t, t'] ty ((#[x, y] : Array Operand).map fun | .const _ => true | _ => false)) ((#[x, y] : Array Operand).map (eval ts))) = _
  have hm : (#[x, y] : Array Operand).map (eval ts) = #[.int K p, .int K q] := by simp [e1.eq, e2.eq]
  rw [hm]
  rfl⟩

instance XOp.sliceArrAll [e : Ev ts x (.pointer (some ⟨r, o, sp⟩))] : XOp P ts h (.sliceArr n size x none none) (.slice (some ⟨r, o, none⟩) n n) h := ⟨rfl, by
  simp only [xop, e.eq, sliceOf, bnd]
  rw [if_neg (by omega)]
  simp⟩
theorem XOp.mkSliceArrLo {lo : Operand} (l : Nat) (hp : p = l) (hl : l < n) [e : Ev ts x (.pointer (some ⟨r, o, sp⟩))] [f : Ev ts lo (.int K p)] : XOp P ts h (.sliceArr n size x (some lo) none) (.slice (some ⟨r, o + l * size, none⟩) (n - l) (n - l)) h := ⟨rfl, by
  subst hp
  have hi : idx (n + 1) (.int K (l : Int)) = some l := by rw [idx_in (by omega)]; simp
  simp only [xop, e.eq, sliceOf, bnd, f.eq, hi]
  rw [if_neg (by omega), if_neg (by omega)]⟩

/-- a text's next rune -/
theorem XOp.mkNextStr {s : ByteArray} {pos : Nat} (hp : pos < s.size) [e : Ev ts x (.pointer (some ⟨r, 0, none⟩))] [g : HGet h r (.strIter s pos)] :
    XOp P ts h (.nextStr x) (.tuple ⟨[.bool true, .int .i64 pos, .int .i32 (Utf8.decode s pos).1]⟩) (h.set r (.strIter s (pos + (Utf8.decode s pos).2))) := ⟨rfl, by
  simp only [xop, e.eq, g.eq, if_pos hp]⟩
theorem XOp.mkNextEnd {s : ByteArray} {pos : Nat} (hp : ¬ pos < s.size) [e : Ev ts x (.pointer (some ⟨r, 0, none⟩))] [g : HGet h r (.strIter s pos)] :
    XOp P ts h (.nextStr x) (.tuple ⟨[.bool false]⟩) h := ⟨rfl, by
  simp only [xop, e.eq, g.eq, if_neg hp]⟩
theorem XOp.mkIndex1 (k : Nat) (hp : p = k) (hk : k < len) (hm : k * size = m) [e : Ev ts x (.agg ⟨l⟩)] [f : Ev ts i (.int K p)] [c : CGet l m v] : XOp P ts h (.index len size none x i) v h := ⟨rfl, by
  subst hp
  have hi : idx len (.int K (k : Int)) = some k := by rw [idx_in (by omega)]; simp
  simp only [xop, e.eq, f.eq, hi, hm, c.lt, c.eq, if_true]⟩

/-- one cell is written -/
theorem lset_len : ∀ (l : List Value) (i : Nat) (v : Value), (lset l i v).length = l.length
  | [], _, _ => rfl
  | _ :: _, 0, _ => rfl
  | _ :: l, i + 1, v => by simp [lset, lset_len l i v]
theorem over_one : ∀ (l : List Value) (i : Nat) (v : Value), over l i [v] = lset l i v
  | [], 0, _ => rfl
  | [], _ + 1, _ => rfl
  | a :: l, 0, v => by show v :: over l 0 [] = _; rw [over_nil]; rfl
  | a :: l, i + 1, v => by show a :: over l i [v] = _; rw [over_one l i v]; rfl
theorem lset_drop : ∀ (l : List Value) (i : Nat) (v : Value), i < l.length → (lset l i v).drop i = v :: l.drop (i + 1)
  | [], _, _, h => by simp at h
  | _ :: _, 0, _, _ => rfl
  | a :: l, i + 1, v, h => by
    show (lset l i v).drop i = _
    rw [lset_drop l i v (by simpa using h)]; rfl
theorem lget_lset : ∀ (l : List Value) (i j : Nat) (v : Value), i < l.length → lget (lset l i v) j = if j = i then v else lget l j
  | [], _, _, _, h => by simp at h
  | a :: l, 0, 0, v, _ => rfl
  | a :: l, 0, j + 1, v, _ => rfl
  | a :: l, i + 1, 0, v, _ => rfl
  | a :: l, i + 1, j + 1, v, h => by
    show lget (lset l i v) j = _
    rw [lget_lset l i j v (by simpa using h)]
    by_cases e : j = i
    · rw [if_pos e, if_pos (by omega)]
    · rw [if_neg e, if_neg (by omega)]; rfl
theorem XOp.mkStore1 {es : Nat} {c : List Value} (ho : o < c.length) [e : Ev ts a (.pointer (some ⟨r, o, sp⟩))] [f : Ev ts x v] [k : CellsOf v [v]] [k1 : One1 v] [g : HGet h r (.cells c es)] : XOp P ts h (.store 1 a x) undef (h.set r (.cells (lset c o v) es)) := ⟨rfl, by
  have hp : putAt h r o [v] = some (h.set r (.cells (lset c o v) es)) := by
    unfold putAt
    rw [g.eq]
    show (if o + 1 ≤ c.length ∧ [v].all Value.oneCell' = true then some (h.set r (.cells (over c o [v]) es)) else none) = _
    rw [if_pos ⟨ho, by simp [k1.eq]⟩, over_one]
  simp only [xop, e.eq, f.eq, k.eq, k.len, hp]
  rfl⟩

/-- one of the cells that a slice shows -/
theorem cell_at {h : Heap} {b o n k : Nat} {c : List Value} (hc : cellsAt h b o n = some c) (hk : k < n) : Cell h b (o + k) (lget c k) := by
  have hl := cellsAt_length hc
  have := cellsAt_sub (k := k) (m := 1) hc (by omega)
  exact ⟨by rw [this, take_one _ _ (by omega)]⟩

/-- a slice of bytes as a string -/
theorem XOp.mkStr {bs : List UInt8} (hr : Rd h 1 v (bcells bs) n) [e : Ev ts x v] : XOp P ts h (.bytesToStr x) (.string ⟨⟨bs⟩⟩) h := ⟨rfl, by
  obtain ⟨a, cap, rfl, hl, hc⟩ := hr
  have hl : bs.length = n := by simpa [bcells] using hl
  simp only [xop, e.eq]
  cases a with
  | none =>
    by_cases h0 : n = 0
    · have : bs = [] := List.length_eq_zero_iff.1 (by omega)
      subst this; rfl
    · obtain ⟨_, _, _, h1, _⟩ := hc h0; cases h1
  | some a =>
    by_cases h0 : n = 0
    · have : bs = [] := List.length_eq_zero_iff.1 (by omega)
      subst this
      subst h0
      simp [cellsAt_zero, bytesOf]
    · obtain ⟨b, o, sp, h1, hb, h2⟩ := hc h0
      cases h1
      rw [Nat.mul_one] at h2
      simp only [h2, Option.bind_some, bytesOf_bcells]⟩
end

mutual
theorem veq_self : ∀ v : Value, veq v v = true
  | .bool _ | .int _ _ | .float _ _ | .complex _ _ _ | .string _ | .pointer _ | .slice _ _ _ | .map _ | .chan _ => by simp [veq]
  | .nilFunc | .nilIface => by simp [veq]
  | .func f a b => by simp only [veq, veqA_self a, veqA_self b]; simp
  | .iface t v => by simp only [veq, veq_self v]; simp
  | .agg a => by simp only [veq, veqA_self a]
  | .tuple a => by simp only [veq, veqA_self a]
theorem veqA_self : ∀ a : Array Value, veqA a a = true
  | ⟨l⟩ => by simp only [veqA, veqL_self l]
theorem veqL_self : ∀ l : List Value, veqL l l = true
  | [] => rfl
  | v :: l => by simp only [veqL, veq_self v, veqL_self l]; rfl
end

section
variable {P : Program} {T : Table} {ts ts' : List Value} {ds : List Deferred} {h h' : Heap} {rd : Option Nat} {op : AOp} {v : Value} {d : Nat} {chk : List (Option Nat × AOp × Option (Nat × Bool))} {pan : Bool} {rest : List AOper} {Q : QP} {F : Value → List Value}
/-- a call under a guard that holds -/
theorem O.callT {t : Nat} {b : Bool} {f : Operand} {args : List Operand} {fid : FuncId} {first captured vs mid all : List Value} [g : LGet ts t (.bool b)] [e : Ev ts f (.func (.func fid) ⟨first⟩ ⟨captured⟩)] [k : EvL ts args vs] [a1 : App2 first vs mid] [a2 : App2 mid captured all] [s : LSetF ts d F] {R : RP}
    (hr : Runs P T (.fn fid) all h R (fun _ _ => False)) (hk : ∀ v h', R v h' → RunO P T rest ⟨F v, ds, h', rd⟩ Q) :
    RunO P T (⟨some d, .callV f args, some (t, b), chk, pan⟩ :: rest) ⟨ts, ds, h, rd⟩ Q :=
  RunO.cons (by simp only [wantedT, g.eq]; cases b <;> rfl) (fun _ _ e => by cases e) (RunX.call (t := .fn fid) (vs := all) (by simp only [e.eq, k.eq, target]; rw [← a2.eq, ← a1.eq]) (Runs.mono hr (fun v h' hv => by
    show RunO P T rest ⟨lset ts d v, ds, h', rd⟩ Q
    rw [s.eq]; exact hk v h' hv) fun _ _ hx => hx.elim))
/-- a guard that was skipped itself -/
theorem O.skU {t : Nat} {b : Bool} [g : LGet ts t undef] [s : LSet ts d undef ts'] (hr : RunO P T rest ⟨ts', ds, h, rd⟩ Q) : RunO P T (⟨some d, op, some (t, b), chk, pan⟩ :: rest) ⟨ts, ds, h, rd⟩ Q :=
  RunO.skip (by simp only [wantedT, g.eq]; rfl) (by show RunO P T rest ⟨lset ts d undef, ds, h, rd⟩ Q; rw [s.eq]; exact hr)
theorem D.skU {t : Nat} {b : Bool} [g : LGet ts t undef] [s : LSet ts d undef ts'] (hc : chk.all (stable P ts' h) = true := by rfl) (hr : RunD P T rest ⟨ts', ds, h, rd⟩ Q) : RunD P T (⟨some d, op, some (t, b), chk, pan⟩ :: rest) ⟨ts, ds, h, rd⟩ Q :=
  RunD.skip (by simp only [wantedT, g.eq]; rfl) (by show chk.all (stable P (lset ts d undef) h) = true; rw [s.eq]; exact hc) (by show RunD P T rest ⟨lset ts d undef, ds, h, rd⟩ Q; rw [s.eq]; exact hr)

/-- an operation of a drawn region, behind which another one would read what it has read -/
theorem D.one0s {d2 : Nat} {op2 : AOp} {v2 : Value} {h2 : Heap} [k : XOp P ts h op v h'] [k2 : XOp P ts h' op2 v2 h2] [g : LGet ts d2 v2] (hr : RunD P T rest ⟨ts, ds, h', rd⟩ Q) : RunD P T (⟨none, op, none, [(some d2, op2, none)], pan⟩ :: rest) ⟨ts, ds, h, rd⟩ Q :=
  D.one0 (by simp only [List.all_cons, List.all_nil, Bool.and_true, stable, wantedT, if_true, k2.eq, g.eq, veq_self]) hr
end
end Go.Vm
