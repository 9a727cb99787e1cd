/- A small machine over an abstract heap: more operations. -/
import Derived.Test.YtagmnpeilgnbdaaGreatVI
import Derived.Laws.RangeAny
import Derived.Laws.RangeString
set_option linter.unusedSimpArgs false
set_option linter.unusedVariables false
namespace Go.Vm
theorem over_both : ∀ (p q l m : List Value), p.length = q.length → over (p ++ l) 0 (q ++ m) = q ++ over l 0 m
  | [], [], _, _, _ => rfl
  | [], _ :: _, _, _, h => by simp at h
  | _ :: _, [], _, _, h => by simp at h
  | v :: p, w :: q, l, m, h => by
    show w :: over (p ++ l) 0 (q ++ m) = _
    rw [over_both p q l m (by simpa using h)]; rfl
instance (priority := high) Over.put32 {p q l m l' : List Value} [k : L32 p] [j : L32 q] [h : Over l 0 m l'] : Over (p ++ l) 0 (q ++ m) (q ++ l') := ⟨by have := h.le; simp [k.eq, j.eq] at *; omega, by rw [over_both p q l m (by rw [k.eq, j.eq]), h.eq]⟩
instance (priority := high) Over.put4 {p q l m l' : List Value} [k : L4 p] [j : L4 q] [h : Over l 0 m l'] : Over (p ++ l) 0 (q ++ m) (q ++ l') := ⟨by have := h.le; simp [k.eq, j.eq] at *; omega, by rw [over_both p q l m (by rw [k.eq, j.eq]), h.eq]⟩
section
variable {P : Program} {ts : List Value} {h h' : Heap} {x y a b c i : Operand} {u v w : Value} {l l' out : List Value} {o n k size len r off m : Nat} {sp : Option Nat} {K J : IntKind} {p q : Int} {O : Oper} {A B : Bool} {t t' ty : TypeId}
theorem XOp.mkArrayAt (hn : n ≤ len) [e : Ev ts x (.slice (some ⟨r, o, sp⟩) len m)] : XOp P ts h (.arrayAt n x) (.pointer (some ⟨r, o, none⟩)) h := ⟨rfl, by
  simp only [xop, e.eq, if_pos hn]⟩
instance XOp.maxI [e1 : Ev ts x (.int K p)] [e2 : Ev ts y (.int K q)] : XOp P ts h (.raw (so (.call ⟨.builtin .max, #[x, y], #[t, t']⟩) ty)) (.int K (if q > p then q else p)) h := ⟨rfl, by
  refine raw_ok (by simp [so, Op.operands, Call.operands, e1.eq, e2.eq, ground]) ?_ rfl
  show pr P (invoke (.builtin .max #[t, t'] ty ((#[x, y] : Array Operand).map fun | .const _ => true | _ => false)) ((#[x, y] : Array Operand).map (eval ts))) = _
  have hm : (#[x, y] : Array Operand).map (eval ts) = #[.int K p, .int K q] := by simp [e1.eq, e2.eq]
  rw [hm]
  rfl⟩
instance XOp.minI [e1 : Ev ts x (.int K p)] [e2 : Ev ts y (.int K q)] : XOp P ts h (.raw (so (.call ⟨.builtin .min, #[x, y], #[t, t']⟩) ty)) (.int K (if q < p then q else p)) h := ⟨rfl, by
  refine raw_ok (by simp [so, Op.operands, Call.operands, e1.eq, e2.eq, ground]) ?_ rfl
  show pr P (invoke (.builtin .min #[t, t'] ty ((#[x, y] : Array Operand).map fun | .const _ => true | _ => false)) ((#[x, y] : Array Operand).map (eval ts))) = _
  have hm : (#[x, y] : Array Operand).map (eval ts) = #[.int K p, .int K q] := by simp [e1.eq, e2.eq]
  rw [hm]
  rfl⟩
instance XOp.sliceArrAll [e : Ev ts x (.pointer (some ⟨r, o, sp⟩))] : XOp P ts h (.sliceArr n size x none none) (.slice (some ⟨r, o, none⟩) n n) h := ⟨rfl, by
  simp only [xop, e.eq, sliceOf, bnd]
  rw [if_neg (by omega)]
  simp⟩
theorem XOp.mkSliceArrLo {lo : Operand} (l : Nat) (hp : p = l) (hl : l < n) [e : Ev ts x (.pointer (some ⟨r, o, sp⟩))] [f : Ev ts lo (.int K p)] : XOp P ts h (.sliceArr n size x (some lo) none) (.slice (some ⟨r, o + l * size, none⟩) (n - l) (n - l)) h := ⟨rfl, by
  subst hp
  have hi : idx (n + 1) (.int K (l : Int)) = some l := by rw [idx_in (by omega)]; simp
  simp only [xop, e.eq, sliceOf, bnd, f.eq, hi]
  rw [if_neg (by omega), if_neg (by omega)]⟩
theorem lset_len : ∀ (l : List Value) (i : Nat) (v : Value), (lset l i v).length = l.length
  | [], _, _ => rfl
  | _ :: _, 0, _ => rfl
  | _ :: l, i + 1, v => by simp [lset, lset_len l i v]
theorem over_one : ∀ (l : List Value) (i : Nat) (v : Value), over l i [v] = lset l i v
  | [], 0, _ => rfl
  | [], _ + 1, _ => rfl
  | a :: l, 0, v => by show v :: over l 0 [] = _; rw [over_nil]; rfl
  | a :: l, i + 1, v => by show a :: over l i [v] = _; rw [over_one l i v]; rfl
theorem lset_drop : ∀ (l : List Value) (i : Nat) (v : Value), i < l.length → (lset l i v).drop i = v :: l.drop (i + 1)
  | [], _, _, h => by simp at h
  | _ :: _, 0, _, _ => rfl
  | a :: l, i + 1, v, h => by
    show (lset l i v).drop i = _
    rw [lset_drop l i v (by simpa using h)]; rfl
theorem XOp.mkStore1 {es : Nat} {c : List Value} (ho : o < c.length) [e : Ev ts a (.pointer (some ⟨r, o, sp⟩))] [f : Ev ts x v] [k : CellsOf v [v]] [k1 : One1 v] [g : HGet h r (.cells c es)] : XOp P ts h (.store 1 a x) undef (h.set r (.cells (lset c o v) es)) := ⟨rfl, by
  have hp : putAt h r o [v] = some (h.set r (.cells (lset c o v) es)) := by
    unfold putAt
    rw [g.eq]
    show (if o + 1 ≤ c.length ∧ [v].all Value.oneCell' = true then some (h.set r (.cells (over c o [v]) es)) else none) = _
    rw [if_pos ⟨ho, by simp [k1.eq]⟩, over_one]
  simp only [xop, e.eq, f.eq, k.eq, k.len, hp]
  rfl⟩
theorem cell_at {h : Heap} {b o n k : Nat} {c : List Value} (hc : cellsAt h b o n = some c) (hk : k < n) : Cell h b (o + k) (lget c k) := by
  have hl := cellsAt_length hc
  have := cellsAt_sub (k := k) (m := 1) hc (by omega)
  exact ⟨by rw [this, take_one _ _ (by omega)]⟩
theorem XOp.mkStr {bs : List UInt8} (hr : Rd h 1 v (bcells bs) n) [e : Ev ts x v] : XOp P ts h (.bytesToStr x) (.string ⟨⟨bs⟩⟩) h := ⟨rfl, by
  obtain ⟨a, cap, rfl, hl, hc⟩ := hr
  have hl : bs.length = n := by simpa [bcells] using hl
  simp only [xop, e.eq]
  cases a with
  | none =>
    by_cases h0 : n = 0
    · have : bs = [] := List.length_eq_zero_iff.1 (by omega)
      subst this; rfl
    · obtain ⟨_, _, _, h1, _⟩ := hc h0; cases h1
  | some a =>
    by_cases h0 : n = 0
    · have : bs = [] := List.length_eq_zero_iff.1 (by omega)
      subst this
      subst h0
      simp [cellsAt_zero, bytesOf]
    · obtain ⟨b, o, sp, h1, hb, h2⟩ := hc h0
      cases h1
      rw [Nat.mul_one] at h2
      simp only [h2, Option.bind_some, bytesOf_bcells]⟩
end
mutual
theorem veq_self : ∀ v : Value, veq v v = true
  | .bool _ | .int _ _ | .float _ _ | .complex _ _ _ | .string _ | .pointer _ | .slice _ _ _ | .map _ | .chan _ => by simp [veq]
  | .nilFunc | .nilIface => by simp [veq]
  | .func f a b => by simp only [veq, veqA_self a, veqA_self b]; simp
  | .iface t v => by simp only [veq, veq_self v]; simp
  | .agg a => by simp only [veq, veqA_self a]
  | .tuple a => by simp only [veq, veqA_self a]
theorem veqA_self : ∀ a : Array Value, veqA a a = true
  | ⟨l⟩ => by simp only [veqA, veqL_self l]
theorem veqL_self : ∀ l : List Value, veqL l l = true
  | [] => rfl
  | v :: l => by simp only [veqL, veq_self v, veqL_self l]; rfl
end
section
variable {P : Program} {T : Table} {ts ts' : List Value} {ds : List Deferred} {h h' : Heap} {rd : Option Nat} {op : AOp} {v : Value} {d : Nat} {chk : List (Option Nat × AOp × Option (Nat × Bool))} {pan : Bool} {rest : List AOper} {Q : QP} {F : Value → List Value}
theorem O.callT {t : Nat} {b : Bool} {f : Operand} {args : List Operand} {fid : FuncId} {first captured vs mid all : List Value} [g : LGet ts t (.bool b)] [e : Ev ts f (.func (.func fid) ⟨first⟩ ⟨captured⟩)] [k : EvL ts args vs] [a1 : App2 first vs mid] [a2 : App2 mid captured all] [s : LSetF ts d F] {R : RP}
    (hr : Runs P T (.fn fid) all h R (fun _ _ => False)) (hk : ∀ v h', R v h' → RunO P T rest ⟨F v, ds, h', rd⟩ Q) :
    RunO P T (⟨some d, .callV f args, some (t, b), chk, pan⟩ :: rest) ⟨ts, ds, h, rd⟩ Q :=
  RunO.cons (by simp only [wantedT, g.eq]; cases b <;> rfl) (fun _ _ e => by cases e) (RunX.call (t := .fn fid) (vs := all) (by simp only [e.eq, k.eq, target]; rw [← a2.eq, ← a1.eq]) (Runs.mono hr (fun v h' hv => by
    show RunO P T rest ⟨lset ts d v, ds, h', rd⟩ Q
    rw [s.eq]; exact hk v h' hv) fun _ _ hx => hx.elim))
theorem O.skU {t : Nat} {b : Bool} [g : LGet ts t undef] [s : LSet ts d undef ts'] (hr : RunO P T rest ⟨ts', ds, h, rd⟩ Q) : RunO P T (⟨some d, op, some (t, b), chk, pan⟩ :: rest) ⟨ts, ds, h, rd⟩ Q :=
  RunO.skip (by simp only [wantedT, g.eq]; rfl) (by show RunO P T rest ⟨lset ts d undef, ds, h, rd⟩ Q; rw [s.eq]; exact hr)
theorem D.skU {t : Nat} {b : Bool} [g : LGet ts t undef] [s : LSet ts d undef ts'] (hc : chk.all (stable P ts' h) = true := by rfl) (hr : RunD P T rest ⟨ts', ds, h, rd⟩ Q) : RunD P T (⟨some d, op, some (t, b), chk, pan⟩ :: rest) ⟨ts, ds, h, rd⟩ Q :=
  RunD.skip (by simp only [wantedT, g.eq]; rfl) (by show chk.all (stable P (lset ts d undef) h) = true; rw [s.eq]; exact hc) (by show RunD P T rest ⟨lset ts d undef, ds, h, rd⟩ Q; rw [s.eq]; exact hr)
theorem D.one0s {d2 : Nat} {op2 : AOp} {v2 : Value} {h2 : Heap} [k : XOp P ts h op v h'] [k2 : XOp P ts h' op2 v2 h2] [g : LGet ts d2 v2] (hr : RunD P T rest ⟨ts, ds, h', rd⟩ Q) : RunD P T (⟨none, op, none, [(some d2, op2, none)], pan⟩ :: rest) ⟨ts, ds, h, rd⟩ Q :=
  D.one0 (by simp only [List.all_cons, List.all_nil, Bool.and_true, stable, wantedT, if_true, k2.eq, g.eq, veq_self]) hr
end
end Go.Vm

/- A small machine over an abstract heap: the front of a slice. -/
set_option linter.unusedSimpArgs false
set_option linter.unusedVariables false
namespace Go.Vm
def fieldAt (P : Program) (t : TypeId) (i : Nat) : Option (Nat × TypeId) := match P.underlying t with
  | some (.struct fs) => fs[i]?.map fun f => (f.offset, f.type)
  | _ => none
theorem Fits.field {P : Program} {h : Heap} {m : Nat} {t : TypeId} {cs : List Value} (hv : Fits P h (m + 1) t cs) {i off : Nat} {ty : TypeId} (hf : fieldAt P t i = some (off, ty)) : Fits P h m ty ((cs.drop off).take (P.cellsOf ty)) := by
  unfold fieldAt at hf
  unfold Fits at hv
  split at hf
  · rename_i fs hu
    rw [hu] at hv
    obtain ⟨f, h1, h2⟩ := Option.map_eq_some_iff.1 hf
    cases h2
    exact hv.2 i f h1
  · cases hf
theorem Fits.len {P : Program} {h : Heap} {m : Nat} {t : TypeId} {cs : List Value} (hv : Fits P h (m + 1) t cs) {x : Nat × TypeId} (hf : fieldAt P t 0 = some x) : cs.length = P.cellsOf t := by
  unfold fieldAt at hf
  unfold Fits at hv
  split at hf
  · rename_i fs hu
    rw [hu] at hv
    exact hv.1
  · cases hf
theorem FitsV.agg {P : Program} {h : Heap} {m : Nat} {t : TypeId} {v : Value} (hv : FitsV P h m t v) {x : Nat × TypeId} (hf : fieldAt P t 0 = some x) : ∃ cs, v = .agg ⟨cs⟩ ∧ Fits P h m t cs := by
  unfold fieldAt at hf
  unfold FitsV at hv
  split at hf
  · rename_i fs hu
    rw [hu] at hv
    exact hv
  · cases hf
theorem Fits.int {P : Program} {h : Heap} {m : Nat} {t : TypeId} {cs : List Value} {k : IntKind} (hv : Fits P h (m + 1) t cs) (hu : P.underlying t = some (.int k)) : ∃ x, cs = [.int k x] ∧ (Lit.int k x).wf = true := by
  unfold Fits at hv; rw [hu] at hv; exact hv
theorem FitsV.int {P : Program} {h : Heap} {m : Nat} {t : TypeId} {v : Value} {k : IntKind} (hv : FitsV P h (m + 1) t v) (hu : P.underlying t = some (.int k)) : ∃ x, v = .int k x ∧ (Lit.int k x).wf = true := by
  unfold FitsV at hv; rw [hu] at hv
  obtain ⟨x, h1, h2⟩ := hv.int hu
  injection h1 with h1 _
  exact ⟨x, h1, h2⟩
theorem FitsV.bool {P : Program} {h : Heap} {m : Nat} {t : TypeId} {v : Value} (hv : FitsV P h (m + 1) t v) (hu : P.underlying t = some .bool) : ∃ x, v = .bool x := by
  unfold FitsV at hv; rw [hu] at hv
  unfold Fits at hv; rw [hu] at hv
  obtain ⟨x, h1⟩ := hv
  injection h1 with h1 _
  exact ⟨x, h1⟩
theorem FitsAll.cons {P : Program} {h : Heap} {m : Nat} {t : TypeId} {ts : List TypeId} {vs : List Value} (hv : FitsAll P h m (t :: ts) vs) : ∃ v vs', vs = v :: vs' ∧ FitsV P h m t v ∧ FitsAll P h m ts vs' := by
  cases vs with
  | nil => exact hv.elim
  | cons v vs => exact ⟨v, vs, rfl, hv.1, hv.2⟩
theorem FitsAll.nil {P : Program} {h : Heap} {m : Nat} {vs : List Value} (hv : FitsAll P h m [] vs) : vs = [] := by
  cases vs with
  | nil => rfl
  | cons v vs => exact hv.elim
theorem vsplit (l : List Value) (a k : Nat) : l.drop a = (l.drop a).take k ++ l.drop (a + k) := by
  rw [← List.drop_drop, List.take_append_drop]
section
variable {P : Program} {T : Table} {ts ts' : List Value} {ds : List Deferred} {h h' : Heap} {rd : Option Nat} {op : AOp} {v : Value} {d : Nat} {chk : List (Option Nat × AOp × Option (Nat × Bool))} {pan : Bool} {rest : List AOper} {Q : QP} {F : Value → List Value}
end
end Go.Vm

/- A small machine over an abstract heap: bytes that were lent, with room behind them. -/
set_option linter.unusedSimpArgs false
set_option linter.unusedVariables false
namespace Go.Vm
open Go.RowKit
def lentTail : List UInt8 := [201, 202, 203, 204]
def KeptPre (args : List Value) (h : Heap) : Prop := ∃ (q k cap : Nat) (l : List UInt8) (v : Value) (j : List Value), args = [.slice (some ⟨q, 0, some k⟩) l.length cap, v] ∧
  h.get q = .cells (bcells l ++ (bcells lentTail ++ j)) 1 ∧ l.length + 4 ≤ cap ∧ Rd h 1 v (bcells l) l.length ∧ l.length < 1048576
open Classical in
noncomputable def keptPrim : AFunc := ⟨0, [], .skip, some fun args h => if KeptPre args h then [.ret (.bool true) h] else [.bad]⟩
noncomputable def withKept (T : Table) (ks : List FuncId) : Table := fun f => if ks.contains f then some keptPrim else T f
theorem VR.slice_inv {g : Gh} {a : Option Addr} {n c : Nat} {v : Value} (h : VR g (.slice a n c) v) :
    (∃ a' c', v = .slice a' n c') ∧ ∀ ad, a = some ad → ∃ ad' c', v = .slice (some ad') n c' ∧ AR g ad ad' ∧ (ad.spot ≠ none → c ≤ c') := by
  cases h with
  | gr hg =>
    refine ⟨⟨_, _, rfl⟩, fun ad h => ?_⟩
    subst h
    cases hg
  | sl h1 h2 => exact ⟨⟨_, _, rfl⟩, fun ad h => by cases h; exact ⟨_, _, rfl, h2, fun h => absurd h1 h⟩⟩
  | osl h1 h2 h3 h4 => exact ⟨⟨_, _, rfl⟩, fun ad h => by cases h; exact ⟨_, _, rfl, h2, fun _ => h3⟩⟩
theorem ground_piece {g : Gh} {d cc : List Value} {sh o n : Nat} {l : List Value} (hv : VRL g d ((cc.drop sh).take d.length)) (hl : (d.drop o).take n = l) (hle : o + n ≤ d.length) (hg : groundL l = true) : (cc.drop (sh + o)).take n = l := by
  have h1 := (hv.drop o).take n
  rw [hl] at h1
  have h2 := h1.eq_ground hg
  rw [List.drop_take, List.take_take, List.drop_drop, Nat.min_eq_left (by omega)] at h2
  exact h2
theorem get_one (o o' : AObj) : ((Heap.init.push o).push o').get 1 = o := by
  rw [Heap.get_push, if_neg (by show ¬ (1 : Nat) = 2; omega), Heap.get_push, if_pos (show 1 = Heap.init.n from rfl)]
theorem get_two (o o' : AObj) : ((Heap.init.push o).push o').get 2 = o' := by
  rw [Heap.get_push, if_pos (show 2 = (Heap.init.push o).n from rfl)]
theorem kept_ok {P : Program} (hm : P.follows .mixedOrders = true) {k : FuncId} (hfn : FnOK P k)
    (hrun : ∀ (h : Heap) (q c' : Nat) (l : List UInt8) (u : Value), h.get q = .ro (bcells l ++ bcells lentTail) → q < h.n → l.length + 4 ≤ c' → l.length < 1048576 → Rd h 1 u (bcells l) l.length →
      Runs P (tableOf P) (.fn k) [.slice (some ⟨q, 0, none⟩) l.length c', u] h (fun r _ => r = .bool true) (fun _ _ => False))
    (args args' : List Value) (g : Gh) (h : Heap) (B : Nat) (w0 w : World) (hr : HR g h B w0 w) (hv : VRL g args args') (hpre : KeptPre args h) : Calls P k ⟨args'⟩ w (CPost B w0 g [.ret (.bool true) h]) := by
  obtain ⟨q, kk, cap, l, v, j, rfl, hq, hcap, hrd, hsm⟩ := hpre
  cases hv with
  | cons hv1 hv2 =>
  cases hv2 with
  | cons hv2 hv3 =>
  cases hv3
  obtain ⟨_, hv1⟩ := hv1.slice_inv
  obtain ⟨a1, c1, rfl, har, hc1⟩ := hv1 _ rfl
  have hc1 := hc1 (by simp)
  obtain ⟨x, hx, cc, el, fz, hb1, _, _, hle1, _, _, hvr1⟩ := hr.of_cells hq
  have ha1 := har.2 x hx
  have hlt1 := (hr.alive q x hx).2.1
  have hlen1 : (bcells l ++ bcells lentTail).length = l.length + 4 := by simp [bcells, lentTail]
  have hpc1 : (cc.toList.drop (x.sh + 0)).take (l.length + 4) = bcells l ++ bcells lentTail := by
    refine ground_piece hvr1 ?_ (by simp [bcells, lentTail]) ?_
    · rw [List.drop_zero, ← List.append_assoc, ← hlen1, List.take_left]
    · rw [groundL_append, bcells_ground, bcells_ground]; rfl
  have hr1 : HR ([none] ++ [some ⟨x.b, x.sh, 0, 0⟩]) (Heap.init.push (.ro (bcells l ++ bcells lentTail))) w.heap.size w w := by
    refine (hr_init w).pushRo hlt1 ⟨cc, el, fz, hb1, ?_, ?_⟩
    · simp only [List.length_append] at hle1 hlen1 ⊢
      simp [bcells, lentTail] at hle1 ⊢
      omega
    · show VRL _ _ ((cc.toList.drop x.sh).take (bcells l ++ bcells lentTail).length)
      rw [hlen1]
      rw [show x.sh = x.sh + 0 from rfl, hpc1]
      exact VRL.of_ground (by rw [groundL_append, bcells_ground, bcells_ground]; rfl)
  have hro : (Heap.init.push (.ro (bcells l ++ bcells lentTail))).get 1 = .ro (bcells l ++ bcells lentTail) := by rw [Heap.get_push, if_pos (show 1 = Heap.init.n from rfl)]
  have hvr : ∀ {g2 : Gh}, Le ([none] ++ [some ⟨x.b, x.sh, 0, 0⟩]) g2 → VR g2 (.slice (some ⟨1, 0, none⟩) l.length c1) (.slice (some a1) l.length c1) := fun hle => by
    refine VR.mono hle (.sl rfl ⟨by simp, fun y hy => ?_⟩)
    simp at hy
    subst hy
    exact ha1
  have fin : ∀ {g2 : Gh} {h2 : Heap} {u v2 : Value}, HR g2 h2 w.heap.size w w → Le ([none] ++ [some ⟨x.b, x.sh, 0, 0⟩]) g2 → h2.get 1 = .ro (bcells l ++ bcells lentTail) → 1 < h2.n → Rd h2 1 u (bcells l) l.length → VR g2 u v2 →
      Calls P k ⟨[.slice (some a1) l.length c1, v2]⟩ w (CPost B w0 g [.ret (.bool true) h]) := fun {g2 h2 u v2} hr2 hle hg2 hn2 hu hvu => by
    refine (calls_of_runs hm tableOf_ok hr2 (.cons (hvr hle) (.cons hvu .nil)) (hrun h2 1 c1 l u hg2 hn2 (by omega) hsm hu)).mono fun e w' he => ?_
    cases e with
    | returned r =>
      obtain ⟨g', u', h', rfl, _, hr', hv'⟩ := he
      rw [hv'.bool]
      exact ⟨g, .bool true, h, by simp, Le.refl _, hr.later hr'.below, .gr rfl⟩
    | panicked c => obtain ⟨_, _, _, hx, _⟩ := he; exact hx.elim
    | outgrown => exact he.elim
  obtain ⟨av, capv, rfl, hlv, hcv⟩ := hrd
  obtain ⟨⟨a2', c2', hv2e⟩, hv2s⟩ := hv2.slice_inv
  by_cases hl0 : l.length = 0
  · have hnil : l = [] := List.length_eq_zero_iff.1 hl0
    subst hnil
    subst hv2e
    cases a2' with
    | none => exact fin hr1 (Le.refl _) hro (show 1 < 2 by decide) Rd.nil (.gr rfl)
    | some ad =>
      refine fin (u := .slice (some ⟨2, 0, none⟩) 0 c2') hr1.pushNone (Le.push _ _) (get_one _ _) (show 1 < 3 by decide) Rd.nil (.sl rfl ⟨by simp, fun y hy => ?_⟩)
      simp at hy
  · obtain ⟨b, o, sp, rfl, hblt, hcell⟩ := hcv hl0
    obtain ⟨ad', c2, hve, har2, _⟩ := hv2s _ rfl
    subst hve
    unfold cellsAt at hcell
    rw [if_neg (by omega)] at hcell
    cases hd : (h.get b).cellsOf with
    | none => rw [hd] at hcell; cases hcell
    | some d =>
      rw [hd] at hcell
      simp only at hcell
      split at hcell
      · rename_i hle2
        have hcell := Option.some.inj hcell
        obtain ⟨y, hy, cc2, el2, fz2, hb2, hle3, hvr2⟩ := hr.of_read hd
        have ha2 := har2.2 y hy
        have hlt2 := (hr.alive b y hy).2.1
        rw [Nat.mul_one] at hcell hle2
        have hpc2 := ground_piece hvr2 hcell hle2 (bcells_ground l)
        have hbl : (bcells l).length = l.length := by simp [bcells]
        have hr2 : HR (([none] ++ [some ⟨x.b, x.sh, 0, 0⟩]) ++ [some ⟨y.b, y.sh + o, 0, 0⟩]) ((Heap.init.push (.ro (bcells l ++ bcells lentTail))).push (.ro (bcells l))) w.heap.size w w := by
          refine hr1.pushRo hlt2 ⟨cc2, el2, fz2, hb2, by simp only [hbl]; omega, ?_⟩
          show VRL _ _ ((cc2.toList.drop (y.sh + o)).take (bcells l).length)
          rw [hbl, hpc2]
          exact VRL.of_ground (bcells_ground l)
        refine fin (u := .slice (some ⟨2, 0, none⟩) l.length c2) hr2 (Le.push _ _) (get_one _ _) (show 1 < 3 by decide) ?_ (.sl rfl ⟨by simp, fun z hz => ?_⟩)
        · refine Rd.mk (show 2 < 3 by decide) ?_
          rw [Nat.mul_one, cellsAt_of (c := bcells l) (by rw [get_two]; rfl) (by omega), List.drop_zero, List.take_of_length_le (by omega)]
        · simp at hz
          subst hz
          exact ha2
      · cases hcell
theorem withKept_ok {P : Program} {T : Table} {ks : List FuncId} (hT : TableOK P T) (hk : ∀ k, ks.contains k = true → ∀ (args args' : List Value) (g : Gh) (h : Heap) (B : Nat) (w0 w : World), HR g h B w0 w → VRL g args args' → KeptPre args h → FnOK P k ∧ Calls P k ⟨args'⟩ w (CPost B w0 g [.ret (.bool true) h])) : TableOK P (withKept T ks) := by
  intro f af h
  unfold withKept at h
  split at h
  · rename_i hc
    cases h
    intro args args' g hp B w0 w hr hv hg
    show FnOK P f ∧ Calls P f ⟨args'⟩ w (CPost B w0 g (@ite _ (KeptPre args hp) (Classical.propDecidable _) [.ret (.bool true) hp] [.bad]))
    by_cases hpre : KeptPre args hp
    · rw [if_pos hpre]
      exact hk f hc args args' g hp B w0 w hr hv hpre
    · exact absurd rfl (hg .bad (by
        show CO.bad ∈ @ite _ (KeptPre args hp) (Classical.propDecidable _) [.ret (.bool true) hp] [.bad]
        rw [if_neg hpre]; simp))
  · exact hT f af h
theorem withKept_t {T : Table} {ks : List FuncId} {f : FuncId} {af : AFunc} (h1 : ks.contains f = false) (h2 : T f = some af) : withKept T ks f = some af := by
  unfold withKept; rw [if_neg (by rw [h1]; simp)]; exact h2
theorem known_runs {P : Program} {T : Table} {f : FuncId} (ht : T f = some primTrue) {h : Heap} : Runs P T (.fn f) [] h (fun r h' => r = .bool true ∧ h' = h) (fun _ _ => False) :=
  Runs.prim ht rfl fun o ho => by simp at ho; subst ho; exact ⟨rfl, rfl⟩
theorem kept_runs {P : Program} {T : Table} {f : FuncId} (ht : T f = some keptPrim) {h : Heap} {args : List Value} (hpre : KeptPre args h) : Runs P T (.fn f) args h (fun r h' => r = .bool true ∧ h' = h) (fun _ _ => False) :=
  Runs.prim ht rfl fun o ho => by
    replace ho : o ∈ @ite _ (KeptPre args h) (Classical.propDecidable _) [.ret (.bool true) h] [.bad] := ho
    rw [if_pos hpre] at ho; simp at ho; subst ho; exact ⟨rfl, rfl⟩
section
variable {P : Program} {T : Table} {ts ts' : List Value} {ds : List Deferred} {h h' : Heap} {rd : Option Nat} {op : AOp} {v : Value} {d : Nat} {chk : List (Option Nat × AOp × Option (Nat × Bool))} {pan : Bool} {rest : List AOper} {Q : QP}
theorem D.howT {t : Nat} {b : Bool} (k : XOp P ts h op v h') [g : LGet ts t (.bool b)] [s : LSet ts d v ts'] (hc : chk.all (stable P ts' h') = true := by rfl) (hr : RunD P T rest ⟨ts', ds, h', rd⟩ Q) : RunD P T (⟨some d, op, some (t, b), chk, pan⟩ :: rest) ⟨ts, ds, h, rd⟩ Q := D.oneT hc hr
class StabL (P : Program) (ts : List Value) (h : Heap) (chk : List (Option Nat × AOp × Option (Nat × Bool))) : Prop where
  ok : chk.all (stable P ts h) = true
instance : StabL P ts h [] := ⟨rfl⟩
instance {d2 : Nat} {op2 : AOp} {v2 : Value} {h2 : Heap} [k2 : XOp P ts h op2 v2 h2] [g : LGet ts d2 v2] [r : StabL P ts h chk] : StabL P ts h ((some d2, op2, none) :: chk) := ⟨by
  rw [List.all_cons, r.ok]
  simp only [Bool.and_true, stable, wantedT, if_true, k2.eq, g.eq, veq_self]⟩
instance {d2 t : Nat} {b : Bool} {op2 : AOp} {v2 : Value} {h2 : Heap} [gt : LGet ts t (.bool b)] [k2 : XOp P ts h op2 v2 h2] [g : LGet ts d2 v2] [r : StabL P ts h chk] : StabL P ts h ((some d2, op2, some (t, b)) :: chk) := ⟨by
  rw [List.all_cons, r.ok]
  have hw : wantedT ts (some (t, b)) = true := by simp only [wantedT, gt.eq]; cases b <;> rfl
  simp only [Bool.and_true, stable, hw, if_true, k2.eq, g.eq, veq_self]⟩
theorem stab_consT {d2 t : Nat} {b : Bool} {op2 : AOp} {v2 : Value} {h2 : Heap} (k2 : XOp P ts h op2 v2 h2) [gt : LGet ts t (.bool b)] [g : LGet ts d2 v2] (r : chk.all (stable P ts h) = true) : ((some d2, op2, some (t, b)) :: chk).all (stable P ts h) = true := by
  haveI : StabL P ts h chk := ⟨r⟩
  exact StabL.ok
theorem stab_cons {d2 : Nat} {op2 : AOp} {v2 : Value} {h2 : Heap} (k2 : XOp P ts h op2 v2 h2) [g : LGet ts d2 v2] (r : chk.all (stable P ts h) = true) : ((some d2, op2, none) :: chk).all (stable P ts h) = true := by
  haveI : StabL P ts h chk := ⟨r⟩
  exact StabL.ok
end
end Go.Vm

/- A small machine over an abstract heap: part of a slice, told behind other operations too. -/
set_option linter.unusedSimpArgs false
set_option linter.unusedVariables false
namespace Go.Vm
theorem sliceOf_heap {e e' : Operand → Value} {size n c : Nat} {base : Option Addr} {lo hi : Operand} {v' : Value} {h h' : Heap} (h1 : sliceOf e size (.slice base n c) (some lo) (some hi) none h = .ok v' h) (hl : e' lo = e lo) (hh : e' hi = e hi)
    (hb : ∀ a, base = some a → h'.get a.block = h.get a.block) : sliceOf e' size (.slice base n c) (some lo) (some hi) none h' = .ok v' h' := by
  simp only [sliceOf, bnd, hl, hh] at h1 ⊢
  cases h2 : idx (c + 1) (e hi) with
  | none => rw [h2] at h1; cases h1
  | some r =>
    rw [h2] at h1
    simp only at h1 ⊢
    cases h3 : idx (r + 1) (e lo) with
    | none => rw [h3] at h1; cases h1
    | some l =>
      rw [h3] at h1
      simp only at h1 ⊢
      by_cases h4 : c < r
      · rw [if_pos h4] at h1; cases h1
      · rw [if_neg h4] at h1 ⊢
        cases base with
        | none => cases h1; rfl
        | some a =>
          have hb := hb a rfl
          cases hs : a.spot with
          | none =>
            simp only [hs] at h1 ⊢
            cases h1; rfl
          | some k =>
            simp only [hs] at h1 ⊢
            by_cases h5 : l = 0
            · rw [if_pos h5] at h1 ⊢
              cases h1; rfl
            · rw [if_neg h5] at h1 ⊢
              by_cases h6 : c = l
              · rw [if_pos h6] at h1 ⊢
                cases h1; rfl
              · rw [if_neg h6] at h1 ⊢
                rw [hb]
                cases ho : h.get a.block with
                | cells cc es =>
                  rw [ho] at h1
                  simp only at h1 ⊢
                  by_cases h7 : es = size
                  · rw [if_pos h7] at h1 ⊢
                    cases h1; rfl
                  · rw [if_neg h7] at h1; cases h1
                | _ => rw [ho] at h1; cases h1
section
variable {P : Program} {T : Table} {ts : List Value} {ds : List Deferred} {h : Heap} {rd : Option Nat} {v : Value} {d size n i j : Nat} {c : List Value} {x lo hi : Operand} {p q : Int} {K J : IntKind} {chk : List (Option Nat × AOp × Option (Nat × Bool))} {pan : Bool} {rest : List AOper} {Q : QP} {F : Value → List Value}
theorem slice_again (hs : size ≠ 0) (ho : Own h size v c n) (i j : Nat) [e1 : Ev ts x v] [e2 : Ev ts lo (.int K p)] [e3 : Ev ts hi (.int J q)] (hp : p = i) (hq : q = j) (hij : i ≤ j) (hj : j ≤ n) :
    ∃ v', (∀ b, blockOf v' b → ownedBy v b) ∧ Rd h size v' ((c.drop (i * size)).take ((j - i) * size)) (j - i) ∧
      ∀ (ts' : List Value) (h' : Heap), eval ts' x = v → eval ts' lo = .int K p → eval ts' hi = .int J q → Fr (fun _ => False) h h' → XOp P ts' h' (.sliceSl size x (some lo) (some hi) none) v' h' := by
  obtain ⟨v', hx, hbl, hr⟩ := slice_own (e := eval ts) (lo := lo) (hi := hi) (K := K) (J := J) hs ho (by rw [e2.eq, hp]) (by rw [e3.eq, hq]) hij hj
  refine ⟨v', hbl, hr, fun ts' h' f1 f2 f3 hf => ⟨rfl, ?_⟩⟩
  obtain ⟨a, cap, rfl, _, _⟩ := ho.rd
  simp only [xop, f1]
  refine sliceOf_heap hx (by rw [f2, e2.eq]) (by rw [f3, e3.eq]) fun ad ha => ?_
  subst ha
  exact hf.get _ (ho.lt rfl) id
theorem D.sliceA (i j : Nat) (hs : size ≠ 0) (ho : Own h size v c n) [e1 : Ev ts x v] [e2 : Ev ts lo (.int K p)] [e3 : Ev ts hi (.int J q)] [s : LSetF ts d F] (hp : p = i) (hq : q = j) (hij : i ≤ j) (hj : j ≤ n)
    (hk : ∀ v', (∀ b, blockOf v' b → ownedBy v b) → Rd h size v' ((c.drop (i * size)).take ((j - i) * size)) (j - i) → (∀ (ts' : List Value) (h' : Heap), eval ts' x = v → eval ts' lo = .int K p → eval ts' hi = .int J q → Fr (fun _ => False) h h' → XOp P ts' h' (.sliceSl size x (some lo) (some hi) none) v' h') →
      RunD P T rest ⟨F v', ds, h, rd⟩ Q) : RunD P T (⟨some d, .sliceSl size x (some lo) (some hi) none, none, [], pan⟩ :: rest) ⟨ts, ds, h, rd⟩ Q := by
  obtain ⟨v', hbl, hr, hag⟩ := slice_again (P := P) (ts := ts) (x := x) (lo := lo) (hi := hi) hs ho i j hp hq hij hj
  haveI := hag ts h e1.eq e2.eq e3.eq Fr.refl
  exact RunD.cons rfl (RunX.ok (h' := h) (v := v') XOp.run (by
    show _ ∧ RunD P T rest ⟨lset ts d v', ds, h, rd⟩ Q
    rw [s.eq]; exact ⟨rfl, hk v' hbl hr hag⟩))
end
section
variable {P : Program} {T : Table} {ts : List Value} {ds : List Deferred} {h : Heap} {rd : Option Nat} {v w : Value} {dst size bytes n m el : Nat} {zero c d : List Value} {zeros : Bool} {x y : Operand} {pan : Bool} {rest : List AOper} {Q : QP} {F : Value → List Value}
theorem D.append [e1 : Ev ts x v] [e2 : Ev ts y w] [s : LSetF ts dst F] (ho : Own h size v c n) (hx : newCells h size zero zeros w = some (m, d)) (hd : d.length = m * size) (h1 : d.all Value.oneCell' = true) (hs : size ≠ 0) (hb : bytes < 1048576) (hsm : n + m < 1048576)
    (hk : ∀ v' h', Own h' size v' (c ++ d) (n + m) → Fr (ownedBy v) h h' → (∀ i, ownedBy v' i → ownedBy v i ∨ h.n ≤ i) → RunD P T rest ⟨F v', ds, h', rd⟩ Q) : RunD P T (⟨some dst, .append el size bytes zero zeros x y, none, [], pan⟩ :: rest) ⟨ts, ds, h, rd⟩ Q := by
  obtain ⟨v', h', hx, h2, h3, h4⟩ := append_own hs hb hsm ho hx hd h1
  exact RunD.cons rfl (RunX.ok (h' := h') (v := v') (fun call => by rw [xo_plain rfl]; simp only [xop, e1.eq, e2.eq, hx]) (by
    show _ ∧ RunD P T rest ⟨lset ts dst v', ds, h', rd⟩ Q
    rw [s.eq]; exact ⟨rfl, hk v' h' h2 h3 h4⟩))
end
end Go.Vm

/- A small machine over an abstract heap: a string's byte. -/
set_option linter.unusedSimpArgs false
set_option linter.unusedVariables false
namespace Go.Vm
section
variable {P : Program} {ts : List Value} {h : Heap} {x i : Operand} {l : List UInt8} {k : Nat} {K : IntKind} {p : Int} {t ty : TypeId}
theorem pr_indexStr (ht : P.underlying t = some .string) (hk : k < l.length) : pr P (Instr.index t (.string ⟨⟨l⟩⟩) (.int K k)) = some (.ok (.int .u8 (l.getD k 0).toNat)) := by
  have hg : (ByteArray.mk ⟨l⟩)[((k : Nat) : Int).toNat]? = some (l.getD k 0) := by
    rw [Int.toNat_natCast]
    have h2 : k < (ByteArray.mk ⟨l⟩).size := hk
    rw [getElem?_pos _ k h2]
    congr 1
    show l[k] = _
    simp [List.getD_eq_getElem?_getD, hk]
  unfold Instr.index
  rw [pr_bindE]
  show pr P (underlying t >>= _) = _
  rw [pr_bindE, pr_underlying ht]
  simp only [hg, if_pos (show (0 : Int) ≤ (k : Nat) by omega)]
  rfl
theorem XOp.mkIndexStr (ht : P.underlying t = some .string) (hp : p = k) (hk : k < l.length) [e : Ev ts x (.string ⟨⟨l⟩⟩)] [f : Ev ts i (.int K p)] :
    XOp P ts h (.raw (so (.index t x i) ty)) (.int .u8 (l.getD k 0).toNat) h := ⟨rfl, by
  subst hp
  refine raw_ok (by simp [so, Op.operands, e.eq, f.eq, ground]) ?_ rfl
  simp only [execOp, so, e.eq, f.eq]
  show pr P (Instr.index t (.string ⟨⟨l⟩⟩) (.int K k) >>= _) = _
  rw [pr_bindE, pr_indexStr ht hk]
  rfl⟩
end
end Go.Vm

/- A small machine over an abstract heap: calls that are remembered (a run that is cut into parts). -/
set_option linter.unusedSimpArgs false
set_option linter.unusedVariables false
namespace Go.Vm
def eeq : List MapEntry → List MapEntry → Bool
  | [], [] => true
  | a :: l, b :: m => veq a.key b.key && veq a.val b.val && (a.born == b.born) && eeq l m
  | _, _ => false
theorem eeq_eq : ∀ l m : List MapEntry, eeq l m = true → l = m
  | [], m, h => by cases m <;> simp [eeq] at h; rfl
  | a :: l, m, h => by
    cases m with
    | nil => simp [eeq] at h
    | cons b m =>
      simp only [eeq, Bool.and_eq_true] at h
      obtain ⟨⟨⟨h1, h2⟩, h3⟩, h4⟩ := h
      obtain ⟨k, v, n⟩ := a
      obtain ⟨k', v', n'⟩ := b
      simp at h3
      have e1 : k = k' := veq_eq h1
      have e2 : v = v' := veq_eq h2
      rw [e1, e2, h3, eeq_eq l m h4]
def oeq : AObj → AObj → Bool
  | .dead, .dead => true
  | .cells c e, .cells d f => veqL c d && e == f
  | .map a c, .map b d => eeq a b && c == d
  | .ro c, .ro d => veqL c d
  | .defs a, .defs b => a == b
  | _, _ => false
theorem oeq_eq {a b : AObj} (h : oeq a b = true) : a = b := by
  unfold oeq at h
  split at h
  · rfl
  · simp only [Bool.and_eq_true] at h
    rw [veqL_eq h.1]
    have := h.2
    simp at this
    rw [this]
  · simp only [Bool.and_eq_true] at h
    rw [eeq_eq _ _ h.1]
    have := h.2
    simp at this
    rw [this]
  · rw [veqL_eq h]
  · have : _ = _ := eq_of_beq h
    rw [this]
  · cases h
def teq : Tr → Tr → Bool
  | .nil, .nil => true
  | .node v l r, .node w m s => oeq v w && teq l m && teq r s
  | _, _ => false
def heq (a b : Heap) : Bool := a.n == b.n && teq a.t b.t
abbrev Memo := List (List Value × Heap × List CO)
def memoAns : Memo → List Value → Heap → List CO
  | [], _, _ => [.bad]
  | e :: m, args, h => if veqL e.1 args && heq e.2.1 h then e.2.2 else memoAns m args h
def memoPrim (m : Memo) : AFunc := ⟨0, [], .skip, some (memoAns m)⟩
noncomputable def withMemo (T : Table) (k : FuncId) (m : Memo) : Table := fun f => if f = k then some (memoPrim m) else T f
def MemoOK (P : Program) (k : FuncId) (m : Memo) : Prop := ∀ e ∈ m, ∃ T L n, TableOK P T ∧ xcall P T L n (.fn k) e.1 e.2.1 = e.2.2
theorem MemoOK.nil {P : Program} {k : FuncId} : MemoOK P k [] := fun e he => by cases he
theorem MemoOK.cons {P : Program} {k : FuncId} {T : Table} {L n : Nat} {args : List Value} {h : Heap} {outs : List CO} {m : Memo} (hT : TableOK P T) (hr : xcall P T L n (.fn k) args h = outs) (hm : MemoOK P k m) : MemoOK P k ((args, h, outs) :: m) := fun e he => by
  rcases List.mem_cons.1 he with rfl | he
  · exact ⟨T, L, n, hT, hr⟩
  · exact hm e he
end Go.Vm

/- A small machine over an abstract heap: keys of four bytes, side by side; calls under a guard in a drawn region. -/
namespace Go.Vm
open Go
set_option linter.unusedVariables false
set_option linter.unusedSimpArgs false
def cmpB (a b : List UInt8) : Int := Extern.BytealgCompare.cmp ⟨⟨a⟩⟩ ⟨⟨b⟩⟩
def keyLt (a b : List UInt8) : Bool := decide (cmpB a b < 0)
section
variable {P : Program} {ts : List Value} {h : Heap} {x y f : Operand} {v w : Value} {a b : List UInt8} {n m : Nat} {fid : FuncId}
theorem bytesV_rd (hr : Rd h 1 v (bcells a) n) : bytesV h v = some a := by
  obtain ⟨ad, cap, rfl, hl, hc⟩ := hr
  have hl : a.length = n := by simpa [bcells] using hl
  have hb : bytesOf (bcells a) = some a := bytesOf_bcells a
  cases ad with
  | none =>
    by_cases h0 : n = 0
    · have : a = [] := List.length_eq_zero_iff.1 (by omega)
      subst this; rfl
    · obtain ⟨_, _, _, h1, _⟩ := hc h0; cases h1
  | some ad =>
    by_cases h0 : n = 0
    · have : a = [] := List.length_eq_zero_iff.1 (by omega)
      subst this
      subst h0
      simp [bytesV, cellsAt_zero]
      rfl
    · obtain ⟨q, o, sp, h1, hb1, h2⟩ := hc h0
      cases h1
      rw [Nat.mul_one] at h2
      simp only [bytesV, h2]
      exact hb
theorem XOp.mkCompare (h1 : Rd h 1 v (bcells a) n) (h2 : Rd h 1 w (bcells b) m) (hx : extFn P fid = some .compare) [e0 : Ev ts f (.func (.func fid) ⟨[]⟩ ⟨[]⟩)] [e1 : Ev ts x v] [e2 : Ev ts y w] : XOp P ts h (.ext .compare f [x, y]) (.int .i64 (cmpB a b)) h := ⟨rfl, by
  simp only [xop, e0.eq, hx, if_true, extV, List.map_cons, List.map_nil, e1.eq, e2.eq, bytesV_rd h1, bytesV_rd h2, cmpB]⟩
end
section
variable {P : Program} {T : Table} {ts ts' : List Value} {ds : List Deferred} {h h' : Heap} {rd : Option Nat} {op : AOp} {v : Value} {d : Nat} {chk : List (Option Nat × AOp × Option (Nat × Bool))} {pan : Bool} {rest : List AOper} {Q : QP} {F : Value → List Value}
theorem D.callT {t : Nat} {b : Bool} {f : Operand} {args : List Operand} {fid : FuncId} {first captured vs mid all : List Value} [g : LGet ts t (.bool b)] [e : Ev ts f (.func (.func fid) ⟨first⟩ ⟨captured⟩)] [k : EvL ts args vs] [a1 : App2 first vs mid] [a2 : App2 mid captured all] [s : LSetF ts d F] {R : RP}
    (hr : Runs P T (.fn fid) all h R (fun _ _ => False)) (hc : ∀ v h', R v h' → chk.all (stable P (F v) h') = true) (hk : ∀ v h', R v h' → RunD P T rest ⟨F v, ds, h', rd⟩ Q) :
    RunD P T (⟨some d, .callV f args, some (t, b), chk, pan⟩ :: rest) ⟨ts, ds, h, rd⟩ Q :=
  RunD.cons (by simp only [wantedT, g.eq]; cases b <;> rfl) (RunX.call (t := .fn fid) (vs := all) (by simp only [e.eq, k.eq, target]; rw [← a2.eq, ← a1.eq]) (Runs.mono hr (fun v h' hv => by
    show chk.all (stable P (lset ts d v) h') = true ∧ RunD P T rest ⟨lset ts d v, ds, h', rd⟩ Q
    rw [s.eq]; exact ⟨hc v h' hv, hk v h' hv⟩) fun _ _ hx => hx.elim))
end
end Go.Vm
