/- A small machine over an abstract heap: more operations. -/
import Derived.Test.YtbmpalbdbcjieaaGreatVI
import Derived.Laws.RangeAny
import Derived.Laws.RangeString
set_option linter.unusedSimpArgs false
set_option linter.unusedVariables false
namespace Go.Vm
theorem over_both : ∀ (p q l m : List Value), p.length = q.length → over (p ++ l) 0 (q ++ m) = q ++ over l 0 m
  | [], [], _, _, _ => rfl
  | [], _ :: _, _, _, h => by simp at h
  | _ :: _, [], _, _, h => by simp at h
  | v :: p, w :: q, l, m, h => by
    show w :: over (p ++ l) 0 (q ++ m) = _
    rw [over_both p q l m (by simpa using h)]; rfl
instance (priority := high) Over.put32 {p q l m l' : List Value} [k : L32 p] [j : L32 q] [h : Over l 0 m l'] : Over (p ++ l) 0 (q ++ m) (q ++ l') := ⟨by have := h.le; simp [k.eq, j.eq] at *; omega, by rw [over_both p q l m (by rw [k.eq, j.eq]), h.eq]⟩
instance (priority := high) Over.put4 {p q l m l' : List Value} [k : L4 p] [j : L4 q] [h : Over l 0 m l'] : Over (p ++ l) 0 (q ++ m) (q ++ l') := ⟨by have := h.le; simp [k.eq, j.eq] at *; omega, by rw [over_both p q l m (by rw [k.eq, j.eq]), h.eq]⟩
section
variable {P : Program} {ts : List Value} {h h' : Heap} {x y a b c i : Operand} {u v w : Value} {l l' out : List Value} {o n k size len r off m : Nat} {sp : Option Nat} {K J : IntKind} {p q : Int} {O : Oper} {A B : Bool} {t t' ty : TypeId}
instance XOp.maxI [e1 : Ev ts x (.int K p)] [e2 : Ev ts y (.int K q)] : XOp P ts h (.raw (so (.call ⟨.builtin .max, #[x, y], #[t, t']⟩) ty)) (.int K (if q > p then q else p)) h := ⟨rfl, by
  refine raw_ok (by simp [so, Op.operands, Call.operands, e1.eq, e2.eq, ground]) ?_ rfl
  show pr P (invoke (.builtin .max #[t, t'] ty ((#[x, y] : Array Operand).map fun | .const _ => true | _ => false)) ((#[x, y] : Array Operand).map (eval ts))) = _
  have hm : (#[x, y] : Array Operand).map (eval ts) = #[.int K p, .int K q] := by simp [e1.eq, e2.eq]
  rw [hm]
  rfl⟩
instance XOp.minI [e1 : Ev ts x (.int K p)] [e2 : Ev ts y (.int K q)] : XOp P ts h (.raw (so (.call ⟨.builtin .min, #[x, y], #[t, t']⟩) ty)) (.int K (if q < p then q else p)) h := ⟨rfl, by
  refine raw_ok (by simp [so, Op.operands, Call.operands, e1.eq, e2.eq, ground]) ?_ rfl
  show pr P (invoke (.builtin .min #[t, t'] ty ((#[x, y] : Array Operand).map fun | .const _ => true | _ => false)) ((#[x, y] : Array Operand).map (eval ts))) = _
  have hm : (#[x, y] : Array Operand).map (eval ts) = #[.int K p, .int K q] := by simp [e1.eq, e2.eq]
  rw [hm]
  rfl⟩
instance XOp.sliceArrAll [e : Ev ts x (.pointer (some ⟨r, o, sp⟩))] : XOp P ts h (.sliceArr n size x none none) (.slice (some ⟨r, o, none⟩) n n) h := ⟨rfl, by
  simp only [xop, e.eq, sliceOf, bnd]
  rw [if_neg (by omega)]
  simp⟩
theorem XOp.mkSliceArrLo {lo : Operand} (l : Nat) (hp : p = l) (hl : l < n) [e : Ev ts x (.pointer (some ⟨r, o, sp⟩))] [f : Ev ts lo (.int K p)] : XOp P ts h (.sliceArr n size x (some lo) none) (.slice (some ⟨r, o + l * size, none⟩) (n - l) (n - l)) h := ⟨rfl, by
  subst hp
  have hi : idx (n + 1) (.int K (l : Int)) = some l := by rw [idx_in (by omega)]; simp
  simp only [xop, e.eq, sliceOf, bnd, f.eq, hi]
  rw [if_neg (by omega), if_neg (by omega)]⟩
theorem XOp.mkNextStr {s : ByteArray} {pos : Nat} (hp : pos < s.size) [e : Ev ts x (.pointer (some ⟨r, 0, none⟩))] [g : HGet h r (.strIter s pos)] :
    XOp P ts h (.nextStr x) (.tuple ⟨[.bool true, .int .i64 pos, .int .i32 (Utf8.decode s pos).1]⟩) (h.set r (.strIter s (pos + (Utf8.decode s pos).2))) := ⟨rfl, by
  simp only [xop, e.eq, g.eq, if_pos hp]⟩
theorem XOp.mkNextEnd {s : ByteArray} {pos : Nat} (hp : ¬ pos < s.size) [e : Ev ts x (.pointer (some ⟨r, 0, none⟩))] [g : HGet h r (.strIter s pos)] :
    XOp P ts h (.nextStr x) (.tuple ⟨[.bool false]⟩) h := ⟨rfl, by
  simp only [xop, e.eq, g.eq, if_neg hp]⟩
theorem cell_at {h : Heap} {b o n k : Nat} {c : List Value} (hc : cellsAt h b o n = some c) (hk : k < n) : Cell h b (o + k) (lget c k) := by
  have hl := cellsAt_length hc
  have := cellsAt_sub (k := k) (m := 1) hc (by omega)
  exact ⟨by rw [this, take_one _ _ (by omega)]⟩
end
mutual
theorem veq_self : ∀ v : Value, veq v v = true
  | .bool _ | .int _ _ | .float _ _ | .complex _ _ _ | .string _ | .pointer _ | .slice _ _ _ | .map _ | .chan _ => by simp [veq]
  | .nilFunc | .nilIface => by simp [veq]
  | .func f a b => by simp only [veq, veqA_self a, veqA_self b]; simp
  | .iface t v => by simp only [veq, veq_self v]; simp
  | .agg a => by simp only [veq, veqA_self a]
  | .tuple a => by simp only [veq, veqA_self a]
theorem veqA_self : ∀ a : Array Value, veqA a a = true
  | ⟨l⟩ => by simp only [veqA, veqL_self l]
theorem veqL_self : ∀ l : List Value, veqL l l = true
  | [] => rfl
  | v :: l => by simp only [veqL, veq_self v, veqL_self l]; rfl
end
section
variable {P : Program} {T : Table} {ts ts' : List Value} {ds : List Deferred} {h h' : Heap} {rd : Option Nat} {op : AOp} {v : Value} {d : Nat} {chk : List (Option Nat × AOp × Option (Nat × Bool))} {pan : Bool} {rest : List AOper} {Q : QP} {F : Value → List Value}
theorem O.callT {t : Nat} {b : Bool} {f : Operand} {args : List Operand} {fid : FuncId} {first captured vs mid all : List Value} [g : LGet ts t (.bool b)] [e : Ev ts f (.func (.func fid) ⟨first⟩ ⟨captured⟩)] [k : EvL ts args vs] [a1 : App2 first vs mid] [a2 : App2 mid captured all] [s : LSetF ts d F] {R : RP}
    (hr : Runs P T (.fn fid) all h R (fun _ _ => False)) (hk : ∀ v h', R v h' → RunO P T rest ⟨F v, ds, h', rd⟩ Q) :
    RunO P T (⟨some d, .callV f args, some (t, b), chk, pan⟩ :: rest) ⟨ts, ds, h, rd⟩ Q :=
  RunO.cons (by simp only [wantedT, g.eq]; cases b <;> rfl) (fun _ _ e => by cases e) (RunX.call (t := .fn fid) (vs := all) (by simp only [e.eq, k.eq, target]; rw [← a2.eq, ← a1.eq]) (Runs.mono hr (fun v h' hv => by
    show RunO P T rest ⟨lset ts d v, ds, h', rd⟩ Q
    rw [s.eq]; exact hk v h' hv) fun _ _ hx => hx.elim))
theorem O.skU {t : Nat} {b : Bool} [g : LGet ts t undef] [s : LSet ts d undef ts'] (hr : RunO P T rest ⟨ts', ds, h, rd⟩ Q) : RunO P T (⟨some d, op, some (t, b), chk, pan⟩ :: rest) ⟨ts, ds, h, rd⟩ Q :=
  RunO.skip (by simp only [wantedT, g.eq]; rfl) (by show RunO P T rest ⟨lset ts d undef, ds, h, rd⟩ Q; rw [s.eq]; exact hr)
theorem D.skU {t : Nat} {b : Bool} [g : LGet ts t undef] [s : LSet ts d undef ts'] (hc : chk.all (stable P ts' h) = true := by rfl) (hr : RunD P T rest ⟨ts', ds, h, rd⟩ Q) : RunD P T (⟨some d, op, some (t, b), chk, pan⟩ :: rest) ⟨ts, ds, h, rd⟩ Q :=
  RunD.skip (by simp only [wantedT, g.eq]; rfl) (by show chk.all (stable P (lset ts d undef) h) = true; rw [s.eq]; exact hc) (by show RunD P T rest ⟨lset ts d undef, ds, h, rd⟩ Q; rw [s.eq]; exact hr)
theorem D.one0s {d2 : Nat} {op2 : AOp} {v2 : Value} {h2 : Heap} [k : XOp P ts h op v h'] [k2 : XOp P ts h' op2 v2 h2] [g : LGet ts d2 v2] (hr : RunD P T rest ⟨ts, ds, h', rd⟩ Q) : RunD P T (⟨none, op, none, [(some d2, op2, none)], pan⟩ :: rest) ⟨ts, ds, h, rd⟩ Q :=
  D.one0 (by simp only [List.all_cons, List.all_nil, Bool.and_true, stable, wantedT, if_true, k2.eq, g.eq, veq_self]) hr
end
end Go.Vm

/- A small machine over an abstract heap: the front of a slice. -/
set_option linter.unusedSimpArgs false
set_option linter.unusedVariables false
namespace Go.Vm
def fieldAt (P : Program) (t : TypeId) (i : Nat) : Option (Nat × TypeId) := match P.underlying t with
  | some (.struct fs) => fs[i]?.map fun f => (f.offset, f.type)
  | _ => none
theorem Fits.field {P : Program} {h : Heap} {m : Nat} {t : TypeId} {cs : List Value} (hv : Fits P h (m + 1) t cs) {i off : Nat} {ty : TypeId} (hf : fieldAt P t i = some (off, ty)) : Fits P h m ty ((cs.drop off).take (P.cellsOf ty)) := by
  unfold fieldAt at hf
  unfold Fits at hv
  split at hf
  · rename_i fs hu
    rw [hu] at hv
    obtain ⟨f, h1, h2⟩ := Option.map_eq_some_iff.1 hf
    cases h2
    exact hv.2 i f h1
  · cases hf
theorem Fits.len {P : Program} {h : Heap} {m : Nat} {t : TypeId} {cs : List Value} (hv : Fits P h (m + 1) t cs) {x : Nat × TypeId} (hf : fieldAt P t 0 = some x) : cs.length = P.cellsOf t := by
  unfold fieldAt at hf
  unfold Fits at hv
  split at hf
  · rename_i fs hu
    rw [hu] at hv
    exact hv.1
  · cases hf
theorem FitsV.agg {P : Program} {h : Heap} {m : Nat} {t : TypeId} {v : Value} (hv : FitsV P h m t v) {x : Nat × TypeId} (hf : fieldAt P t 0 = some x) : ∃ cs, v = .agg ⟨cs⟩ ∧ Fits P h m t cs := by
  unfold fieldAt at hf
  unfold FitsV at hv
  split at hf
  · rename_i fs hu
    rw [hu] at hv
    exact hv
  · cases hf
theorem Fits.int {P : Program} {h : Heap} {m : Nat} {t : TypeId} {cs : List Value} {k : IntKind} (hv : Fits P h (m + 1) t cs) (hu : P.underlying t = some (.int k)) : ∃ x, cs = [.int k x] ∧ (Lit.int k x).wf = true := by
  unfold Fits at hv; rw [hu] at hv; exact hv
theorem FitsV.int {P : Program} {h : Heap} {m : Nat} {t : TypeId} {v : Value} {k : IntKind} (hv : FitsV P h (m + 1) t v) (hu : P.underlying t = some (.int k)) : ∃ x, v = .int k x ∧ (Lit.int k x).wf = true := by
  unfold FitsV at hv; rw [hu] at hv
  obtain ⟨x, h1, h2⟩ := hv.int hu
  injection h1 with h1 _
  exact ⟨x, h1, h2⟩
theorem FitsV.bool {P : Program} {h : Heap} {m : Nat} {t : TypeId} {v : Value} (hv : FitsV P h (m + 1) t v) (hu : P.underlying t = some .bool) : ∃ x, v = .bool x := by
  unfold FitsV at hv; rw [hu] at hv
  unfold Fits at hv; rw [hu] at hv
  obtain ⟨x, h1⟩ := hv
  injection h1 with h1 _
  exact ⟨x, h1⟩
theorem FitsAll.cons {P : Program} {h : Heap} {m : Nat} {t : TypeId} {ts : List TypeId} {vs : List Value} (hv : FitsAll P h m (t :: ts) vs) : ∃ v vs', vs = v :: vs' ∧ FitsV P h m t v ∧ FitsAll P h m ts vs' := by
  cases vs with
  | nil => exact hv.elim
  | cons v vs => exact ⟨v, vs, rfl, hv.1, hv.2⟩
theorem FitsAll.nil {P : Program} {h : Heap} {m : Nat} {vs : List Value} (hv : FitsAll P h m [] vs) : vs = [] := by
  cases vs with
  | nil => rfl
  | cons v vs => exact hv.elim
section
variable {P : Program} {T : Table} {ts ts' : List Value} {ds : List Deferred} {h h' : Heap} {rd : Option Nat} {op : AOp} {v : Value} {d : Nat} {chk : List (Option Nat × AOp × Option (Nat × Bool))} {pan : Bool} {rest : List AOper} {Q : QP} {F : Value → List Value}
end
end Go.Vm

/- A small machine over an abstract heap: bytes that were lent, with room behind them. -/
set_option linter.unusedSimpArgs false
set_option linter.unusedVariables false
namespace Go.Vm
open Go.RowKit
def lentTail : List UInt8 := [201, 202, 203, 204]
def KeptPre (args : List Value) (h : Heap) : Prop := ∃ (q k cap : Nat) (l : List UInt8) (v : Value) (j : List Value), args = [.slice (some ⟨q, 0, some k⟩) l.length cap, v] ∧
  h.get q = .cells (bcells l ++ (bcells lentTail ++ j)) 1 ∧ l.length + 4 ≤ cap ∧ Rd h 1 v (bcells l) l.length ∧ l.length < 1048576
open Classical in
noncomputable def keptPrim : AFunc := ⟨0, [], .skip, some fun args h => if KeptPre args h then [.ret (.bool true) h] else [.bad]⟩
noncomputable def withKept (T : Table) (ks : List FuncId) : Table := fun f => if ks.contains f then some keptPrim else T f
theorem VR.slice_inv {g : Gh} {a : Option Addr} {n c : Nat} {v : Value} (h : VR g (.slice a n c) v) :
    (∃ a' c', v = .slice a' n c') ∧ ∀ ad, a = some ad → ∃ ad' c', v = .slice (some ad') n c' ∧ AR g ad ad' ∧ (ad.spot ≠ none → c ≤ c') := by
  cases h with
  | gr hg =>
    refine ⟨⟨_, _, rfl⟩, fun ad h => ?_⟩
    subst h
    cases hg
  | sl h1 h2 => exact ⟨⟨_, _, rfl⟩, fun ad h => by cases h; exact ⟨_, _, rfl, h2, fun h => absurd h1 h⟩⟩
  | osl h1 h2 h3 h4 => exact ⟨⟨_, _, rfl⟩, fun ad h => by cases h; exact ⟨_, _, rfl, h2, fun _ => h3⟩⟩
theorem ground_piece {g : Gh} {d cc : List Value} {sh o n : Nat} {l : List Value} (hv : VRL g d ((cc.drop sh).take d.length)) (hl : (d.drop o).take n = l) (hle : o + n ≤ d.length) (hg : groundL l = true) : (cc.drop (sh + o)).take n = l := by
  have h1 := (hv.drop o).take n
  rw [hl] at h1
  have h2 := h1.eq_ground hg
  rw [List.drop_take, List.take_take, List.drop_drop, Nat.min_eq_left (by omega)] at h2
  exact h2
section
variable {P : Program} {T : Table} {ts ts' : List Value} {ds : List Deferred} {h h' : Heap} {rd : Option Nat} {op : AOp} {v : Value} {d : Nat} {chk : List (Option Nat × AOp × Option (Nat × Bool))} {pan : Bool} {rest : List AOper} {Q : QP}
theorem D.howT {t : Nat} {b : Bool} (k : XOp P ts h op v h') [g : LGet ts t (.bool b)] [s : LSet ts d v ts'] (hc : chk.all (stable P ts' h') = true := by rfl) (hr : RunD P T rest ⟨ts', ds, h', rd⟩ Q) : RunD P T (⟨some d, op, some (t, b), chk, pan⟩ :: rest) ⟨ts, ds, h, rd⟩ Q := D.oneT hc hr
class StabL (P : Program) (ts : List Value) (h : Heap) (chk : List (Option Nat × AOp × Option (Nat × Bool))) : Prop where
  ok : chk.all (stable P ts h) = true
instance : StabL P ts h [] := ⟨rfl⟩
instance {d2 : Nat} {op2 : AOp} {v2 : Value} {h2 : Heap} [k2 : XOp P ts h op2 v2 h2] [g : LGet ts d2 v2] [r : StabL P ts h chk] : StabL P ts h ((some d2, op2, none) :: chk) := ⟨by
  rw [List.all_cons, r.ok]
  simp only [Bool.and_true, stable, wantedT, if_true, k2.eq, g.eq, veq_self]⟩
instance {d2 t : Nat} {b : Bool} {op2 : AOp} {v2 : Value} {h2 : Heap} [gt : LGet ts t (.bool b)] [k2 : XOp P ts h op2 v2 h2] [g : LGet ts d2 v2] [r : StabL P ts h chk] : StabL P ts h ((some d2, op2, some (t, b)) :: chk) := ⟨by
  rw [List.all_cons, r.ok]
  have hw : wantedT ts (some (t, b)) = true := by simp only [wantedT, gt.eq]; cases b <;> rfl
  simp only [Bool.and_true, stable, hw, if_true, k2.eq, g.eq, veq_self]⟩
theorem stab_cons {d2 : Nat} {op2 : AOp} {v2 : Value} {h2 : Heap} (k2 : XOp P ts h op2 v2 h2) [g : LGet ts d2 v2] (r : chk.all (stable P ts h) = true) : ((some d2, op2, none) :: chk).all (stable P ts h) = true := by
  haveI : StabL P ts h chk := ⟨r⟩
  exact StabL.ok
end
end Go.Vm

/- A small machine over an abstract heap: part of a slice, told behind other operations too. -/
set_option linter.unusedSimpArgs false
set_option linter.unusedVariables false
namespace Go.Vm
section
variable {P : Program} {T : Table} {ts : List Value} {ds : List Deferred} {h : Heap} {rd : Option Nat} {v : Value} {d size n i j : Nat} {c : List Value} {x lo hi : Operand} {p q : Int} {K J : IntKind} {chk : List (Option Nat × AOp × Option (Nat × Bool))} {pan : Bool} {rest : List AOper} {Q : QP} {F : Value → List Value}
end
section
variable {P : Program} {T : Table} {ts : List Value} {ds : List Deferred} {h : Heap} {rd : Option Nat} {v w : Value} {dst size bytes n m el : Nat} {zero c d : List Value} {zeros : Bool} {x y : Operand} {pan : Bool} {rest : List AOper} {Q : QP} {F : Value → List Value}
theorem D.append [e1 : Ev ts x v] [e2 : Ev ts y w] [s : LSetF ts dst F] (ho : Own h size v c n) (hx : newCells h size zero zeros w = some (m, d)) (hd : d.length = m * size) (h1 : d.all Value.oneCell' = true) (hs : size ≠ 0) (hb : bytes < 1048576) (hsm : n + m < 1048576)
    (hk : ∀ v' h', Own h' size v' (c ++ d) (n + m) → Fr (ownedBy v) h h' → (∀ i, ownedBy v' i → ownedBy v i ∨ h.n ≤ i) → RunD P T rest ⟨F v', ds, h', rd⟩ Q) : RunD P T (⟨some dst, .append el size bytes zero zeros x y, none, [], pan⟩ :: rest) ⟨ts, ds, h, rd⟩ Q := by
  obtain ⟨v', h', hx, h2, h3, h4⟩ := append_own hs hb hsm ho hx hd h1
  exact RunD.cons rfl (RunX.ok (h' := h') (v := v') (fun call => by rw [xo_plain rfl]; simp only [xop, e1.eq, e2.eq, hx]) (by
    show _ ∧ RunD P T rest ⟨lset ts dst v', ds, h', rd⟩ Q
    rw [s.eq]; exact ⟨rfl, hk v' h' h2 h3 h4⟩))
end
end Go.Vm

/- A small machine over an abstract heap: a string's byte. -/
set_option linter.unusedSimpArgs false
set_option linter.unusedVariables false
namespace Go.Vm
section
variable {P : Program} {ts : List Value} {h : Heap} {x i : Operand} {l : List UInt8} {k : Nat} {K : IntKind} {p : Int} {t ty : TypeId}
end
end Go.Vm

/- A small machine over an abstract heap: calls that are remembered (a run that is cut into parts). -/
set_option linter.unusedSimpArgs false
set_option linter.unusedVariables false
namespace Go.Vm
def heq (a b : Heap) : Bool := a.n == b.n && teq a.t b.t
theorem heq_eq {a b : Heap} (h : heq a b = true) : a = b := by
  obtain ⟨n, t⟩ := a
  obtain ⟨m, s⟩ := b
  simp only [heq, Bool.and_eq_true] at h
  rw [teq_eq _ _ h.2]
  have := h.1
  simp at this
  rw [this]
abbrev Memo := List (List Value × Heap × List CO)
def memoAns : Memo → List Value → Heap → List CO
  | [], _, _ => [.bad]
  | e :: m, args, h => if veqL e.1 args && heq e.2.1 h then e.2.2 else memoAns m args h
def memoPrim (m : Memo) : AFunc := ⟨0, [], .skip, some (memoAns m)⟩
noncomputable def withMemo (T : Table) (k : FuncId) (m : Memo) : Table := fun f => if f = k then some (memoPrim m) else T f
def MemoOK (P : Program) (k : FuncId) (m : Memo) : Prop := ∀ e ∈ m, ∃ T L n, TableOK P T ∧ xcall P T L n (.fn k) e.1 e.2.1 = e.2.2
theorem MemoOK.nil {P : Program} {k : FuncId} : MemoOK P k [] := fun e he => by cases he
theorem MemoOK.cons {P : Program} {k : FuncId} {T : Table} {L n : Nat} {args : List Value} {h : Heap} {outs : List CO} {m : Memo} (hT : TableOK P T) (hr : xcall P T L n (.fn k) args h = outs) (hm : MemoOK P k m) : MemoOK P k ((args, h, outs) :: m) := fun e he => by
  rcases List.mem_cons.1 he with rfl | he
  · exact ⟨T, L, n, hT, hr⟩
  · exact hm e he
end Go.Vm

/- A small machine over an abstract heap: keys of four bytes, side by side; calls under a guard in a drawn region. -/
namespace Go.Vm
open Go
set_option linter.unusedVariables false
set_option linter.unusedSimpArgs false
def cmpB (a b : List UInt8) : Int := Extern.BytealgCompare.cmp ⟨⟨a⟩⟩ ⟨⟨b⟩⟩
def keyLt (a b : List UInt8) : Bool := decide (cmpB a b < 0)
section
variable {P : Program} {ts : List Value} {h : Heap} {x y f : Operand} {v w : Value} {a b : List UInt8} {n m : Nat} {fid : FuncId}
end
section
variable {P : Program} {T : Table} {ts ts' : List Value} {ds : List Deferred} {h h' : Heap} {rd : Option Nat} {op : AOp} {v : Value} {d : Nat} {chk : List (Option Nat × AOp × Option (Nat × Bool))} {pan : Bool} {rest : List AOper} {Q : QP} {F : Value → List Value}
theorem D.callT {t : Nat} {b : Bool} {f : Operand} {args : List Operand} {fid : FuncId} {first captured vs mid all : List Value} [g : LGet ts t (.bool b)] [e : Ev ts f (.func (.func fid) ⟨first⟩ ⟨captured⟩)] [k : EvL ts args vs] [a1 : App2 first vs mid] [a2 : App2 mid captured all] [s : LSetF ts d F] {R : RP}
    (hr : Runs P T (.fn fid) all h R (fun _ _ => False)) (hc : ∀ v h', R v h' → chk.all (stable P (F v) h') = true) (hk : ∀ v h', R v h' → RunD P T rest ⟨F v, ds, h', rd⟩ Q) :
    RunD P T (⟨some d, .callV f args, some (t, b), chk, pan⟩ :: rest) ⟨ts, ds, h, rd⟩ Q :=
  RunD.cons (by simp only [wantedT, g.eq]; cases b <;> rfl) (RunX.call (t := .fn fid) (vs := all) (by simp only [e.eq, k.eq, target]; rw [← a2.eq, ← a1.eq]) (Runs.mono hr (fun v h' hv => by
    show chk.all (stable P (lset ts d v) h') = true ∧ RunD P T rest ⟨lset ts d v, ds, h', rd⟩ Q
    rw [s.eq]; exact ⟨hc v h' hv, hk v h' hv⟩) fun _ _ hx => hx.elim))
end
end Go.Vm
