/- A small machine over an abstract heap: an operation looks at its operands alone. -/
import Derived.Test.YtbmpalbdbcjieaaGreatVE
import Derived.OrdersIn
set_option linter.unusedSimpArgs false
namespace Go.Vm
open Go.RowKit
section
variable {P : Program}
theorem rawOp_congr {e1 e2 : Operand → Value} {o : Oper} {h : Heap} (hs : (match o.op with | .select _ _ => false | _ => true) = true) (he : ∀ x ∈ o.op.operands.toList, e1 x = e2 x) : rawOp P e1 o h = rawOp P e2 o h := by
  have h1 : execOp e1 o = execOp e2 o := execOp_congr o (fun cs b hb => by rw [hb] at hs; cases hs) fun x hx => he x (by simpa using hx)
  have h2 : (o.op.operands.toList.all fun x => ground (e1 x)) = o.op.operands.toList.all fun x => ground (e2 x) := by
    rw [Bool.eq_iff_iff]
    simp only [List.all_eq_true]
    exact ⟨fun hh x hx => by rw [← he x hx]; exact hh x hx, fun hh x hx => by rw [he x hx]; exact hh x hx⟩
  unfold rawOp
  rw [h1, h2]
theorem bnd_congr {e1 e2 : Operand → Value} {lim d : Nat} {x : Option Operand} (he : ∀ y ∈ x.toList, e1 y = e2 y) : bnd e1 lim d x = bnd e2 lim d x := by
  cases x with
  | none => rfl
  | some x => simp only [bnd]; rw [he x (by simp)]
theorem sliceOf_congr {e1 e2 : Operand → Value} {size : Nat} {v : Value} {lo hi mx : Option Operand} {h : Heap} (h1 : ∀ y ∈ lo.toList, e1 y = e2 y) (h2 : ∀ y ∈ hi.toList, e1 y = e2 y) (h3 : ∀ y ∈ mx.toList, e1 y = e2 y) :
    sliceOf e1 size v lo hi mx h = sliceOf e2 size v lo hi mx h := by
  have e1 : ∀ a b, bnd e1 a b lo = bnd e2 a b lo := fun a b => bnd_congr h1
  have e2 : ∀ a b, bnd _ a b hi = bnd _ a b hi := fun a b => bnd_congr h2
  have e3 : ∀ a b, bnd _ a b mx = bnd _ a b mx := fun a b => bnd_congr h3
  unfold sliceOf
  simp only [e1, e2, e3]
theorem xop_congr {e1 e2 : Operand → Value} {h : Heap} {op : AOp} (hs : op.noSel = true) (he : ∀ x ∈ op.opds, e1 x = e2 x) : xop P e1 h op = xop P e2 h op := by
  cases op with
  | bin bo o x y =>
    have := rawOp_congr (P := P) (h := h) hs (fun z hz => he z (by simp only [AOp.opds]; exact List.mem_cons_of_mem _ (List.mem_cons_of_mem _ hz)))
    simp only [xop, binOpV, this, he x (by simp [AOp.opds]), he y (by simp [AOp.opds])]
  | eq kind neg o x y =>
    have := rawOp_congr (P := P) (h := h) hs (fun z hz => he z (by simp only [AOp.opds]; exact List.mem_cons_of_mem _ (List.mem_cons_of_mem _ hz)))
    simp only [xop, eqOpV, this, he x (by simp [AOp.opds]), he y (by simp [AOp.opds])]
  | conv k o x =>
    have := rawOp_congr (P := P) (h := h) hs (fun z hz => he z (by simp only [AOp.opds]; exact List.mem_cons_of_mem _ hz))
    simp only [xop, this, he x (by simp [AOp.opds])]
  | raw o => exact rawOp_congr (P := P) (h := h) hs (fun z hz => he z hz)
  | sliceArr n s x lo hi =>
    have := fun v => sliceOf_congr (size := s) (v := v) (h := h) (mx := none) (fun y hy => he y (by simp [AOp.opds]; simp at hy; simp [hy])) (fun y hy => he y (by simp [AOp.opds]; simp at hy; simp [hy])) (lo := lo) (hi := hi) (by simp)
    simp only [xop, he x (by simp [AOp.opds]), this]
  | sliceSl s x lo hi mx =>
    have := fun v => sliceOf_congr (size := s) (v := v) (h := h) (mx := mx) (fun y hy => he y (by simp [AOp.opds]; simp at hy; simp [hy])) (fun y hy => he y (by simp [AOp.opds]; simp at hy; simp [hy])) (lo := lo) (hi := hi) (fun y hy => he y (by simp [AOp.opds]; simp at hy; simp [hy]))
    simp only [xop, he x (by simp [AOp.opds]), this]
  | sliceStr x lo hi =>
    have h1 : ∀ a b, bnd e1 a b lo = bnd e2 a b lo := fun a b => bnd_congr (fun y hy => he y (by simp [AOp.opds]; simp at hy; simp [hy]))
    have h2 : ∀ a b, bnd e1 a b hi = bnd e2 a b hi := fun a b => bnd_congr (fun y hy => he y (by simp [AOp.opds]; simp at hy; simp [hy]))
    simp only [xop, he x (by simp [AOp.opds]), h1, h2]
  | build z ps =>
    have : (ps.map fun p => (p.1, p.2.1, e1 p.2.2)) = ps.map fun p => (p.1, p.2.1, e2 p.2.2) := List.map_congr_left fun p hp => by rw [he _ (List.mem_map.2 ⟨p, hp, rfl⟩)]
    simp only [xop, this]
  | buildSlice el z n ps =>
    have : (ps.map fun p => (p.1, p.2.1, e1 p.2.2)) = ps.map fun p => (p.1, p.2.1, e2 p.2.2) := List.map_congr_left fun p hp => by rw [he _ (List.mem_map.2 ⟨p, hp, rfl⟩)]
    simp only [xop, this]
  | mkFunc fn a b =>
    have h1 : a.map e1 = a.map e2 := List.map_congr_left fun p hp => he p (by simp [AOp.opds, hp])
    have h2 : b.map e1 = b.map e2 := List.map_congr_left fun p hp => he p (by simp [AOp.opds, hp])
    simp only [xop, h1, h2]
  | mov x => simp only [xop, he x (by simp [AOp.opds])]
  | box _ x => simp only [xop, he x (by simp [AOp.opds])]
  | load _ x => simp only [xop, he x (by simp [AOp.opds])]
  | nilCheck x => simp only [xop, he x (by simp [AOp.opds])]
  | bytesToStr x => simp only [xop, he x (by simp [AOp.opds])]
  | strToBytes _ x => simp only [xop, he x (by simp [AOp.opds])]
  | fieldAddr _ x => simp only [xop, he x (by simp [AOp.opds])]
  | field _ _ x => simp only [xop, he x (by simp [AOp.opds])]
  | extract _ x => simp only [xop, he x (by simp [AOp.opds])]
  | arrayAt _ x => simp only [xop, he x (by simp [AOp.opds])]
  | mkIface _ x => simp only [xop, he x (by simp [AOp.opds])]
  | assertTo _ _ _ x => simp only [xop, he x (by simp [AOp.opds])]
  | lenStr x => simp only [xop, he x (by simp [AOp.opds])]
  | lenSl x => simp only [xop, he x (by simp [AOp.opds])]
  | lenMap x => simp only [xop, he x (by simp [AOp.opds])]
  | cap x => simp only [xop, he x (by simp [AOp.opds])]
  | panic x => simp only [xop, he x (by simp [AOp.opds])]
  | rangeMap x => simp only [xop, he x (by simp [AOp.opds])]
  | rangeStr x => simp only [xop, he x (by simp [AOp.opds])]
  | nextStr x => simp only [xop, he x (by simp [AOp.opds])]
  | ext k f args =>
    have h1 : args.map e1 = args.map e2 := List.map_congr_left fun p hp => he p (by simp [AOp.opds, hp])
    simp only [xop, h1, he f (by simp [AOp.opds])]
  | entryMap x => simp only [xop, he x (by simp [AOp.opds])]
  | pick c a b => simp only [xop, he c (by simp [AOp.opds]), he a (by simp [AOp.opds]), he b (by simp [AOp.opds])]
  | store _ a x => simp only [xop, he a (by simp [AOp.opds]), he x (by simp [AOp.opds])]
  | indexArr _ _ a x => simp only [xop, he a (by simp [AOp.opds]), he x (by simp [AOp.opds])]
  | indexSl _ a x => simp only [xop, he a (by simp [AOp.opds]), he x (by simp [AOp.opds])]
  | index _ _ _ a x => simp only [xop, he a (by simp [AOp.opds]), he x (by simp [AOp.opds])]
  | makeSlice _ _ _ _ a x => simp only [xop, he a (by simp [AOp.opds]), he x (by simp [AOp.opds])]
  | append _ _ _ _ _ a x => simp only [xop, he a (by simp [AOp.opds]), he x (by simp [AOp.opds])]
  | copy _ a x => simp only [xop, he a (by simp [AOp.opds]), he x (by simp [AOp.opds])]
  | lookup _ _ _ a x => simp only [xop, he a (by simp [AOp.opds]), he x (by simp [AOp.opds])]
  | delete _ a x => simp only [xop, he a (by simp [AOp.opds]), he x (by simp [AOp.opds])]
  | mapUpdate _ m k x => simp only [xop, he m (by simp [AOp.opds]), he k (by simp [AOp.opds]), he x (by simp [AOp.opds])]
  | _ => rfl
theorem xo_congr {call : Caller} {ts1 ts2 : List Value} {h : Heap} {op : AOp} (hs : op.noSel = true) (he : ∀ x ∈ op.opds, eval ts1 x = eval ts2 x) : xo P call ts1 h op = xo P call ts2 h op := by
  have hx := xop_congr (P := P) (h := h) hs he
  cases op with
  | callV f args =>
    have h1 : args.map (eval ts1) = args.map (eval ts2) := List.map_congr_left fun p hp => he p (by simp [AOp.opds, hp])
    simp only [xo, h1, he f (by simp [AOp.opds])]
  | invoke f n args =>
    have h1 : args.map (eval ts1) = args.map (eval ts2) := List.map_congr_left fun p hp => he p (by simp [AOp.opds, hp])
    simp only [xo, h1, he f (by simp [AOp.opds])]
  | nextMap it => simp only [xo, he it (by simp [AOp.opds])]
  | _ => simp only [xo, hx]
theorem still_xop {e : Operand → Value} {h h' : Heap} {op : AOp} {v : Value} (hk : op.kind ≠ .write) (hx : xop P e h op = .ok v h') : h' = h := by
  have hraw : ∀ {o : Oper} {v : Value} {h' : Heap}, rawOp P e o h = .ok v h' → h' = h := by
    intro o v h' hr
    unfold rawOp at hr
    repeat' split at hr
    all_goals first | (cases hr; rfl) | cases hr
  have hsl : ∀ {size : Nat} {u : Value} {lo hi mx : Option Operand} {v : Value} {h' : Heap}, sliceOf e size u lo hi mx h = .ok v h' → h' = h := by
    intro size u lo hi mx v h' hr
    unfold sliceOf at hr
    repeat' split at hr
    all_goals first | (cases hr; rfl) | cases hr
  cases op <;> first
    | exact absurd rfl hk
    | (simp only [xop] at hx
       first
        | exact hraw hx
        | exact hsl hx
        | (try simp only [binOpV, eqOpV, nilDeref] at hx
           repeat' split at hx
           all_goals first | (cases hx; rfl) | exact hraw hx | exact hsl hx | cases hx))
end
end Go.Vm

/- A small machine over an abstract heap: drawn orders, the plain part. -/
set_option linter.unusedSimpArgs false
namespace Go.Vm
open Go.RowKit
theorem bytes_eq {a b : ByteArray} (h : (a.data.toList == b.data.toList) = true) : a = b := by
  have := eq_of_beq h
  cases a; cases b
  simp only at this
  congr 1
  exact Array.ext' this
mutual
theorem veq_eq : ∀ {a b : Value}, veq a b = true → a = b := by
  intro a b h
  cases a <;> cases b <;> simp only [veq, Bool.and_eq_true, beq_iff_eq, Bool.false_eq_true] at h
  case bool => rw [h]
  case int => rw [h.1, h.2]
  case float => rw [h.1, h.2]
  case complex => rw [h.1.1, h.1.2, h.2]
  case string => rw [bytes_eq (beq_iff_eq.2 h)]
  case pointer => rw [h]
  case slice => rw [h.1.1, h.1.2, h.2]
  case map => rw [h]
  case chan => rw [h]
  case func => rw [h.1.1, veqA_eq h.1.2, veqA_eq h.2]
  case nilFunc => rfl
  case iface => rw [h.1, veq_eq h.2]
  case nilIface => rfl
  case agg => rw [veqA_eq h]
  case tuple => rw [veqA_eq h]
theorem veqA_eq : ∀ {a b : Array Value}, veqA a b = true → a = b
  | ⟨l⟩, ⟨m⟩, h => congrArg Array.mk (veqL_eq (a := l) (b := m) (by simpa only [veqA] using h))
theorem veqL_eq : ∀ {a b : List Value}, veqL a b = true → a = b
  | [], [], _ => rfl
  | [], _ :: _, h => by simp [veqL] at h
  | _ :: _, [], h => by simp [veqL] at h
  | v :: l, w :: m, h => by
    simp only [veqL, Bool.and_eq_true] at h
    rw [veq_eq h.1, veqL_eq h.2]
end
theorem waits_fold (acc : Array Nat) (j : Nat) : ∀ (l : List Edge) (s : Nat),
    (l.foldl (fun s e => if Region.binds .any e then s ||| 2 ^ e.on ||| acc.getD e.on 0 else s) s).testBit j = true →
      s.testBit j = true ∨ ∃ e ∈ l, Region.binds .any e = true ∧ (e.on = j ∨ (acc.getD e.on 0).testBit j = true)
  | [], s, h => .inl h
  | e :: l, s, h => by
    rw [List.foldl_cons] at h
    rcases waits_fold acc j l _ h with h1 | ⟨e', he', h2⟩
    · split at h1
      · rename_i hb
        simp only [Nat.testBit_or, Bool.or_eq_true] at h1
        rcases h1 with (h1 | h1) | h1
        · exact .inl h1
        · refine .inr ⟨e, by simp, hb, .inl ?_⟩
          rw [Nat.testBit_two_pow] at h1
          simpa using h1
        · exact .inr ⟨e, by simp, hb, .inr h1⟩
      · exact .inl h1
    · exact .inr ⟨e', by simp [he'], h2⟩
def WaitsOK (acc : Array Nat) (p : List Oper) : Prop :=
  acc.size = p.length ∧ ∀ k j, (acc.getD k 0).testBit j = true → ∃ o, p[k]? = some o ∧ ∃ e ∈ o.after, Region.binds .any e = true ∧ (e.on = j ∨ (acc.getD e.on 0).testBit j = true)
theorem getD_push_lt {acc : Array Nat} {x k : Nat} (h : k < acc.size) : (acc.push x).getD k 0 = acc.getD k 0 := by
  simp [Array.getD_eq_getD_getElem?, Array.getElem?_push, Nat.ne_of_lt h]
theorem bit_lt {acc : Array Nat} {k j : Nat} (h : (acc.getD k 0).testBit j = true) : k < acc.size := by
  apply Classical.byContradiction
  intro hk
  rw [Array.getD_eq_getD_getElem?, Array.getElem?_eq_none (by omega)] at h
  simp at h
theorem waits_go : ∀ (l p : List Oper) (acc : Array Nat), WaitsOK acc p →
    WaitsOK (l.foldl (fun acc (o : Oper) => acc.push (o.after.foldl (fun s e => if Region.binds .any e then s ||| 2 ^ e.on ||| acc.getD e.on 0 else s) 0)) acc) (p ++ l)
  | [], p, acc, h => by simpa using h
  | o :: l, p, acc, h => by
    rw [List.foldl_cons, show p ++ o :: l = (p ++ [o]) ++ l from by simp]
    refine waits_go l (p ++ [o]) _ ⟨by simp [h.1], fun k j hk => ?_⟩
    have lift : ∀ {e : Edge}, (acc.getD e.on 0).testBit j = true → ((acc.push (o.after.foldl (fun s e => if Region.binds .any e then s ||| 2 ^ e.on ||| acc.getD e.on 0 else s) 0)).getD e.on 0).testBit j = true := fun he => by
      rw [getD_push_lt (bit_lt he)]; exact he
    have hlt := bit_lt hk
    simp only [Array.size_push] at hlt
    by_cases hlast : k = acc.size
    · subst hlast
      have e1 : (acc.push (o.after.foldl (fun s e => if Region.binds .any e then s ||| 2 ^ e.on ||| acc.getD e.on 0 else s) 0)).getD acc.size 0 = (o.after.foldl (fun s e => if Region.binds .any e then s ||| 2 ^ e.on ||| acc.getD e.on 0 else s) 0) := by
        simp [Array.getD_eq_getD_getElem?]
      rw [e1, ← Array.foldl_toList] at hk
      rcases waits_fold acc j _ _ hk with h1 | ⟨e, he, hb, h2⟩
      · simp at h1
      · refine ⟨o, by rw [h.1]; simp, e, by simpa using he, hb, h2.imp_right lift⟩
    · have hk' : k < acc.size := by omega
      rw [getD_push_lt hk'] at hk
      obtain ⟨o', ho', e, he, hb, h2⟩ := h.2 k j hk
      exact ⟨o', by rw [List.getElem?_append_left (by rw [← h.1]; exact hk')]; exact ho', e, he, hb, h2.imp_right lift⟩
theorem before_spec {ops : Array Oper} {k j : Nat} (h : ancOf (Region.before ops) j k = true) :
    ∃ o, ops[k]? = some o ∧ ∃ e ∈ o.after, Region.binds .any e = true ∧ (e.on = j ∨ ancOf (Region.before ops) j e.on = true) := by
  have hw := waits_go ops.toList [] #[] ⟨rfl, fun k j h => by simp at h⟩
  have e1 : Region.before ops = ops.toList.foldl (fun acc (o : Oper) => acc.push (o.after.foldl (fun s e => if Region.binds .any e then s ||| 2 ^ e.on ||| acc.getD e.on 0 else s) 0)) #[] := by
    unfold Region.before
    rw [← Array.foldl_toList]
  rw [← e1] at hw
  obtain ⟨o, ho, r⟩ := hw.2 k j h
  exact ⟨o, by simpa using ho, r⟩
theorem compList_mem {α β : Type} {f : α → Option β} : ∀ {l : List α} {m : List β}, compList f l = some m → ∀ x ∈ l, ∃ y ∈ m, f x = some y
  | [], m, h, x, hx => by cases hx
  | a :: l, m, h, x, hx => by
    simp only [compList] at h
    split at h
    · rename_i b m' hb hm
      cases h
      rcases List.mem_cons.1 hx with rfl | hx
      · exact ⟨b, by simp, hb⟩
      · obtain ⟨y, hy, h2⟩ := compList_mem hm x hx
        exact ⟨y, by simp [hy], h2⟩
    · cases h
theorem count_set : ∀ {l : List Bool} {i : Nat}, l[i]? = some false → (l.set i true).count false + 1 = l.count false
  | [], i, h => by simp at h
  | b :: l, 0, h => by simp at h; subst h; simp
  | b :: l, i + 1, h => by
    have := count_set (l := l) (i := i) (by simpa using h)
    simp only [List.set_cons_succ, List.count_cons]
    omega
theorem count_pos : ∀ {l : List Bool} {i : Nat}, l[i]? = some false → 0 < l.count false
  | [], i, h => by simp at h
  | b :: l, 0, h => by simp at h; subst h; simp
  | b :: l, i + 1, h => by
    have := count_pos (l := l) (i := i) (by simpa using h)
    simp only [List.count_cons]
    omega
def maskL (U : List Nat) (ts : List Value) : List Value := ts.mapIdx fun i v => if U.contains i then v else undef
theorem maskL_get (U : List Nat) (ts : List Value) (i : Nat) : (maskL U ts)[i]? = (ts[i]?).map fun v => if U.contains i then v else undef := by
  simp [maskL, List.getElem?_mapIdx]
theorem lget_getD : ∀ (l : List Value) (i : Nat), lget l i = (l[i]?).getD undef
  | [], i => by simp [lget]
  | v :: l, 0 => by simp [lget]
  | v :: l, i + 1 => by simp [lget, lget_getD l i]
theorem lget_mask {U : List Nat} {ts : List Value} {i : Nat} (h : i ∈ U) : lget (maskL U ts) i = lget ts i := by
  rw [lget_getD, lget_getD, maskL_get]
  have : U.contains i = true := by simpa using h
  rw [this]
  cases ts[i]? <;> rfl
theorem eval_mask {U : List Nat} {ts : List Value} {x : Operand} (h : ∀ t, x = .tmp t → t ∈ U) : eval (maskL U ts) x = eval ts x := by
  cases x with
  | tmp t => simp only [eval]; exact lget_mask (h t rfl)
  | _ => rfl
def maskA (U : List Nat) (a : Act) : Act := { a with tmps := ⟨maskL U a.tmps.toList⟩ }
theorem evalA_mask {U : List Nat} {a : Act} {x : Operand} (h : ∀ t, x = .tmp t → t ∈ U) : (maskA U a).eval x = a.eval x := by
  cases x with
  | tmp t =>
    have ht : U.contains t = true := by simpa using h t rfl
    simp only [Act.eval, maskA, Array.getD_eq_getD_getElem?, List.getElem?_toArray, maskL_get, ht, if_true, Array.getElem?_toList, Option.map_id_fun', id]
  | _ => rfl
theorem mask_vr {g : Gh} {U : List Nat} {ts : List Value} {a : Act} (hlen : a.tmps.size = ts.length) (h : ∀ t ∈ U, VR g (lget ts t) (a.tmps.toList.getD t undef)) :
    VRL g (maskL U ts) (maskA U a).tmps.toList := by
  refine VRL.of_get (by simp [maskL, maskA, hlen]) fun i v v' h1 h2 => ?_
  simp only [maskA, maskL_get] at h1 h2
  obtain ⟨u, hu, rfl⟩ := Option.map_eq_some_iff.1 h1
  obtain ⟨u', hu', rfl⟩ := Option.map_eq_some_iff.1 h2
  by_cases hi : U.contains i = true
  · rw [if_pos hi, if_pos hi]
    have := h i (by simpa using hi)
    rw [lget_getD, hu, List.getD_eq_getElem?_getD, hu'] at this
    exact this
  · rw [if_neg hi, if_neg hi]
    exact .gr ground_undef
end Go.Vm

/- A small machine over an abstract heap: drawn orders, the facts that hold along one. -/
set_option linter.unusedSimpArgs false
namespace Go.Vm
open Go.RowKit
section
variable {P : Program} {ops : Array Oper} {B : Nat} {w0 : World}
theorem use_op {d t : Nat} {o : Oper} (hd : ops[d]? = some o) {x : Operand} (hx : x ∈ o.op.operands.toList) (ht : x = .tmp t) : t ∈ useD P ops d := by
  simp only [useD, hd]
  refine List.mem_append_left _ (List.mem_append_left _ ?_)
  subst ht
  exact List.mem_filterMap.2 ⟨_, hx, rfl⟩
theorem use_opds {d t : Nat} {o : Oper} {ao : AOper} (hd : ops[d]? = some o) (hc : compOper P ops o = some ao) {x : Operand} (hx : x ∈ ao.op.opds) (ht : x = .tmp t) : t ∈ useD P ops d := by
  simp only [useD, hd, (compOper_parts hc).1]
  refine List.mem_append_right _ ?_
  subst ht
  exact List.mem_filterMap.2 ⟨_, hx, rfl⟩
theorem use_guard {d t : Nat} {want : Bool} {o : Oper} {ao : AOper} (hd : ops[d]? = some o) (hc : compOper P ops o = some ao) (hg : ao.guard = some (t, want)) : t ∈ useD P ops d := by
  have : ∃ j, o.guard = some (j, want) ∧ dstD ops j = some t := by
    unfold compOper at hc
    split at hc
    · cases hc
    split at hc
    · cases hc
    split at hc
    · cases hc; cases hg
    · rename_i j want' hj
      split at hc
      · rename_i t' ht
        cases hc
        cases hg
        exact ⟨j, hj, ht⟩
      · cases hc
  obtain ⟨j, hj, ht⟩ := this
  simp only [useD, hd, hj, ht]
  exact List.mem_append_left _ (List.mem_append_right _ (by simp))
theorem dst_dstD {d : Nat} {o : Oper} {ao : AOper} (hd : ops[d]? = some o) (hc : compOper P ops o = some ao) : dstD ops d = ao.dst := by
  simp only [dstD, hd, Option.bind_some, (compOper_parts hc).2.2]
theorem nonW {d : Nat} (h : isW P ops (Region.before ops) d = false) : kindW P ops d = false ∧ ∀ t, dstD ops d = some t →
    t ∉ useD P ops d ∧ ∀ j, j < ops.size → j ≠ d → (t ∈ useD P ops j ∨ dstD ops j = some t) → ancOf (Region.before ops) d j = true := by
  unfold isW at h
  rw [Bool.or_eq_false_iff] at h
  refine ⟨h.1, fun t ht => ?_⟩
  have h2 := h.2
  rw [ht] at h2
  simp only [Bool.or_eq_false_iff, List.any_eq_false, List.mem_range] at h2
  refine ⟨fun hm => ?_, fun j hj hne hu => ?_⟩
  · have := h2.1
    rw [show (useD P ops d).contains t = true from by simpa using hm] at this
    cases this
  · have h3 := h2.2 j hj
    cases ha : ancOf (Region.before ops) d j with
    | true => rfl
    | false =>
      exfalso
      apply h3
      rw [ha]
      have : (((useD P ops j).contains t) || dstD ops j == some t) = true := by
        rcases hu with hu | hu
        · rw [show (useD P ops j).contains t = true from by simpa using hu]; rfl
        · rw [hu]; simp
      rw [this]
      simp [hne]
theorem kind_of {d : Nat} {o : Oper} {ao : AOper} (hd : ops[d]? = some o) (hc : compOper P ops o = some ao) (h : kindW P ops d = false) : ao.op.kind ≠ .write := by
  simp only [kindW, hd, Option.bind_some, (compOper_parts hc).1, decide_eq_false_iff_not] at h
  exact h
theorem xo_read {call : Caller} {ts : List Value} {h : Heap} {op : AOp} (hk : op.kind ≠ .write) : xo P call ts h op = match xop P (eval ts) h op with
    | .ok v h' => [.ret v h']
    | .pan v h' => [.pan [{ v, recovered := false }] h']
    | .bad => [.bad] := by
  cases op <;> first | rfl | exact absurd rfl hk
def StableP (P : Program) (ts : List Value) (h : Heap) (ao : AOper) : Prop :=
  (wantedT ts ao.guard = true ∧ ∃ v, xop P (eval ts) h ao.op = .ok v h ∧ ∀ d, ao.dst = some d → d < ts.length → lget ts d = v) ∨
  (wantedT ts ao.guard = false ∧ ∀ d, ao.dst = some d → lget ts d = undef)
theorem stable_of {ts : List Value} {h : Heap} {ao : AOper} (hk : ao.op.kind ≠ .write) (hs : stable P ts h (triple ao) = true) : StableP P ts h ao := by
  unfold stable triple at hs
  simp only at hs
  split at hs
  · rename_i hw
    split at hs
    · rename_i v h' hx
      have := still_xop hk hx
      subst this
      refine .inl ⟨hw, v, hx, fun d hd _ => ?_⟩
      rw [hd] at hs
      exact (veq_eq hs).symm
    · cases hs
  · rename_i hw
    refine .inr ⟨by simpa using hw, fun d hd => ?_⟩
    rw [hd] at hs
    exact (veq_eq hs).symm
theorem StableP.congr {d : Nat} {o : Oper} {ao : AOper} {ts ts' : List Value} {h : Heap} (hd : ops[d]? = some o) (hc : compOper P ops o = some ao) (hn : ao.op.noSel = true)
    (hlen : ts'.length = ts.length) (hu : ∀ t ∈ useD P ops d, lget ts' t = lget ts t) (hdst : ∀ t, ao.dst = some t → lget ts' t = lget ts t) (hs : StableP P ts h ao) : StableP P ts' h ao := by
  have hw : wantedT ts' ao.guard = wantedT ts ao.guard := by
    cases hg : ao.guard with
    | none => rfl
    | some p =>
      obtain ⟨t, want⟩ := p
      simp only [wantedT, hu t (use_guard hd hc hg)]
  have hx : xop P (eval ts') h ao.op = xop P (eval ts) h ao.op := xop_congr hn fun x hx => by
    cases x with
    | tmp t => simp only [eval]; exact hu t (use_opds hd hc hx rfl)
    | _ => rfl
  rcases hs with ⟨h1, v, h2, h3⟩ | ⟨h1, h3⟩
  · exact .inl ⟨by rw [hw]; exact h1, v, by rw [hx]; exact h2, fun t ht hl => by rw [hdst t ht]; exact h3 t ht (by rw [← hlen]; exact hl)⟩
  · exact .inr ⟨by rw [hw]; exact h1, fun t ht => by rw [hdst t ht]; exact h3 t ht⟩
theorem putT_length (ts : List Value) (d : Option Nat) (v : Value) : (putT ts d v).length = ts.length := by
  cases d with
  | none => rfl
  | some d => simp [putT, lset_eq]
theorem lget_putT_ne {ts : List Value} {d : Option Nat} {v : Value} {t : Nat} (h : d ≠ some t) : lget (putT ts d v) t = lget ts t := by
  cases d with
  | none => rfl
  | some d =>
    have : d ≠ t := fun e => h (by rw [e])
    simp only [putT, lset_eq, lget_getD, List.getElem?_set_ne this]
theorem lget_putT_eq {ts : List Value} {v : Value} {t : Nat} (h : t < ts.length) : lget (putT ts (some t) v) t = v := by
  simp [putT, lset_eq, lget_getD, h]
theorem lget_over {ts : List Value} {t : Nat} (h : ¬ t < ts.length) : lget ts t = undef := by
  rw [lget_getD, List.getElem?_eq_none (by omega)]; rfl
theorem getD_put_ne {a : Act} {d : Option Nat} {v : Value} {t : Nat} (h : d ≠ some t) : (a.put d v).tmps.toList.getD t undef = a.tmps.toList.getD t undef := by
  cases d with
  | none => rfl
  | some d =>
    have : d ≠ t := fun e => h (by rw [e])
    simp only [Act.put, Array.toList_setIfInBounds, List.getD_eq_getElem?_getD, List.getElem?_set_ne this]
theorem getD_put_eq {a : Act} {v : Value} {t : Nat} (h : t < a.tmps.size) : (a.put (some t) v).tmps.toList.getD t undef = v := by
  simp [Act.put, h]
theorem size_put (a : Act) (d : Option Nat) (v : Value) : (a.put d v).tmps.size = a.tmps.size := by
  cases d <;> simp [Act.put]
structure Facts (P : Program) (ops : Array Oper) (done post : List Nat) (listed : Array Bool) : Prop where
  size : listed.size = ops.size
  edges : ∀ i o, ops[i]? = some o → ∀ e ∈ o.after, Region.binds .any e = true → e.on < i
  cover : ∀ i, i < ops.size → i ∈ done ∨ i ∈ post
  fwd : ∀ d ∈ done, ∀ k ∈ post, ancOf (Region.before ops) k d = false
  comp : ∀ d ∈ done, ∃ o ao, ops[d]? = some o ∧ compOper P ops o = some ao ∧ ao.op.noSel = true
  wr : ∀ d ∈ done, isW P ops (Region.before ops) d = true → listed.getD d true = true
  un : ∀ k ∈ post, listed.getD k true = false
  down : ∀ k o, listed.getD k false = true → ops[k]? = some o → ∀ e ∈ o.after, Region.binds .any e = true → listed.getD e.on false = true
structure Held (P : Program) (ops : Array Oper) (done : List Nat) (listed : Array Bool) (g : Gh) (s : St) (a : Act) : Prop where
  len : a.tmps.size = s.ts.length
  slots : ∀ t, (∀ d ∈ done, listed.getD d true = false → dstD ops d ≠ some t) → VR g (lget s.ts t) (a.tmps.toList.getD t undef)
  stab : ∀ d ∈ done, listed.getD d true = false → ∀ o ao, ops[d]? = some o → compOper P ops o = some ao → StableP P s.ts s.h ao
  ds : DRL g s.ds a.defers
variable {done post : List Nat} {listed : Array Bool} {g : Gh} {s : St} {a : Act}
theorem getD_absurd {i : Nat} (h1 : listed.getD i true = false) (h2 : listed.getD i false = true) : False := by
  rw [Array.getD_eq_getD_getElem?] at h1 h2
  cases h : listed[i]? with
  | none => rw [h] at h2; cases h2
  | some b => rw [h] at h1 h2; simp at h1 h2; rw [h1] at h2; cases h2
theorem Facts.anc (F : Facts P ops done post listed) : ∀ (n k j : Nat), k < n → listed.getD k false = true → ancOf (Region.before ops) j k = true → listed.getD j false = true
  | 0, _, _, h, _, _ => by omega
  | n + 1, k, j, h, hk, ha => by
    obtain ⟨o, ho, e, he, hb, h2⟩ := before_spec ha
    have hl := F.down k o hk ho e he hb
    rcases h2 with rfl | h2
    · exact hl
    · have := F.edges k o ho e he hb
      exact Facts.anc F n e.on j (by omega) hl h2
theorem Facts.ready (F : Facts P ops done post listed) {i j : Nat} (hi : i ∈ Region.ready .any ops listed) (ha : ancOf (Region.before ops) j i = true) : listed.getD j false = true := by
  obtain ⟨_, o, ho, hall⟩ := mem_ready.1 hi
  obtain ⟨o', ho', e, he, hb, h2⟩ := before_spec ha
  rw [ho] at ho'; cases ho'
  have hl := hall e he hb
  rcases h2 with rfl | h2
  · exact hl
  · exact F.anc (e.on + 1) e.on j (by omega) hl h2
theorem Facts.use (F : Facts P ops done post listed) {i d t : Nat} (hi : i ∈ Region.ready .any ops listed) (hd : d ∈ done) (hu : listed.getD d true = false) (ht : t ∈ useD P ops i) : dstD ops d ≠ some t := by
  intro hdst
  have hw : isW P ops (Region.before ops) d = false := by
    cases h : isW P ops (Region.before ops) d with
    | false => rfl
    | true => rw [F.wr d hd h] at hu; cases hu
  obtain ⟨_, h2⟩ := nonW hw
  obtain ⟨h3, h4⟩ := h2 t hdst
  obtain ⟨_, o, ho, _⟩ := mem_ready.1 hi
  have hlt := (Array.getElem?_eq_some_iff.1 ho).1
  by_cases hid : i = d
  · subst hid; exact h3 ht
  · exact getD_absurd hu (F.ready hi (h4 i hlt hid (.inl ht)))
end
end Go.Vm

/- A small machine over an abstract heap: drawn orders. -/
set_option linter.unusedSimpArgs false
namespace Go.Vm
open Go.RowKit
section
variable {P : Program} {ops : Array Oper} {B : Nat} {w0 : World} {ro : Option Nat} {n : Nat}
variable {listed : Array Bool} {g : Gh} {a : Act} {w : World}
theorem own_use {i : Nat} {o : Oper} {ao : AOper} {ts : List Value} {v : Value} (hw : isW P ops (Region.before ops) i = false) (ho : ops[i]? = some o) (hc : compOper P ops o = some ao) :
    ∀ t ∈ useD P ops i, lget (putT ts ao.dst v) t = lget ts t := fun t ht => lget_putT_ne fun e => ((nonW hw).2 t (by rw [dst_dstD ho hc]; exact e)).1 ht
theorem wantedT_congr {d : Nat} {o : Oper} {ao : AOper} {ts ts' : List Value} (hd : ops[d]? = some o) (hc : compOper P ops o = some ao) (hu : ∀ t ∈ useD P ops d, lget ts' t = lget ts t) : wantedT ts' ao.guard = wantedT ts ao.guard := by
  cases hg : ao.guard with
  | none => rfl
  | some p =>
    obtain ⟨t, want⟩ := p
    simp only [wantedT, hu t (use_guard hd hc hg)]
theorem eval_congr {d : Nat} {o : Oper} {ao : AOper} {ts ts' : List Value} (hd : ops[d]? = some o) (hc : compOper P ops o = some ao) (hu : ∀ t ∈ useD P ops d, lget ts' t = lget ts t) : ∀ x ∈ ao.op.opds, eval ts' x = eval ts x := fun x hx => by
  cases x with
  | tmp t => simp only [eval]; exact hu t (use_opds hd hc hx rfl)
  | _ => rfl
theorem Facts.all {done post : List Nat} (F : Facts P ops done post listed) (hr : Region.ready .any ops listed = []) : ∀ n i, i < n → i < ops.size → listed.getD i false = true
  | 0, i, h, _ => by omega
  | n + 1, i, h, hi => by
    apply Classical.byContradiction
    intro hne
    have hlt : i < listed.size := by rw [F.size]; exact hi
    have hun : listed.getD i true = false := by
      rw [Array.getD_eq_getD_getElem?] at hne ⊢
      rw [Array.getElem?_eq_getElem hlt] at hne ⊢
      simpa using hne
    have hm : i ∈ Region.ready .any ops listed := by
      rw [mem_ready]
      refine ⟨hun, ops[i], by simp [hi], fun e he hb => ?_⟩
      have := F.edges i _ (by simp [hi]) e he hb
      exact Facts.all F hr n e.on (by omega) (by omega)
    rw [hr] at hm
    cases hm
theorem slots_all {done : List Nat} {s : St} (H : Held P ops done listed g s a) (hall : ∀ d ∈ done, listed.getD d true = true) : VRL g s.ts a.tmps.toList := by
  refine VRL.of_get (by simpa using H.len) fun i v v' h1 h2 => ?_
  have := H.slots i fun d hd hu => by rw [hall d hd] at hu; cases hu
  rw [lget_getD, h1, List.getD_eq_getElem?_getD, h2] at this
  exact this
end
end Go.Vm

/- A small machine over an abstract heap: regions that draw their order. -/
set_option linter.unusedSimpArgs false
namespace Go.Vm
open Go.RowKit
section
variable {P : Program} {ops : Array Oper} {B : Nat} {w0 : World} {ro : Option Nat} {n : Nat} {listed : Array Bool} {g g' : Gh} {a : Act} {w w' : World} {done post later : List Nat} {aos : List AOper} {s : St} {i : Nat} {o : Oper} {ao : AOper}
theorem getD_set_false {k : Nat} (h : (listed.setIfInBounds i true).getD k true = false) : k ≠ i ∧ listed.getD k true = false := by
  by_cases hk : i = k
  · subst hk
    rcases Nat.lt_or_ge i listed.size with hlt | hge
    · simp [Array.getD_eq_getD_getElem?, hlt] at h
    · simp [Array.getD_eq_getD_getElem?, Array.getElem?_eq_none, hge] at h
  · rw [getD_set_ne true hk] at h
    exact ⟨Ne.symm hk, h⟩
theorem getD_set_self (h : i < listed.size) (d : Bool) : (listed.setIfInBounds i true).getD i d = true := by
  simp [Array.getD_eq_getD_getElem?, h]
theorem down_set (F : Facts P ops done post listed) (hi : i ∈ Region.ready .any ops listed) : ∀ k o, (listed.setIfInBounds i true).getD k false = true → ops[k]? = some o → ∀ e ∈ o.after, Region.binds .any e = true → (listed.setIfInBounds i true).getD e.on false = true := by
  intro k o hk ho e he hb
  by_cases hik : i = k
  · subst hik
    obtain ⟨_, o', ho', hall⟩ := mem_ready.1 hi
    rw [ho] at ho'; cases ho'
    exact getD_set_true (hall e he hb)
  · rw [getD_set_ne false hik] at hk
    exact getD_set_true (F.down k o hk ho e he hb)
theorem wr_set {d : Nat} (hd : listed.getD d true = true) : (listed.setIfInBounds i true).getD d true = true := by
  cases hc : (listed.setIfInBounds i true).getD d true with
  | true => rfl
  | false => rw [(getD_set_false hc).2] at hd; cases hd
theorem yielded_mask {U : List Nat} {j : Nat} (h : ∀ t, dstD ops j = some t → t ∈ U) : yielded ops (maskA U a).tmps j = yielded ops a.tmps j := by
  unfold yielded
  cases ht : (ops[j]?).bind (·.dst) with
  | none => rfl
  | some t =>
    have hU : U.contains t = true := by simpa using h t ht
    simp only [maskA, List.getElem?_toArray, maskL_get, Option.bind_some, hU, if_true, Array.getElem?_toList, Option.map_id_fun', id]
theorem wanted_mask {U : List Nat} (h : ∀ j want t, o.guard = some (j, want) → dstD ops j = some t → t ∈ U) : Region.wanted o (yielded ops (maskA U a).tmps) = Region.wanted o (yielded ops a.tmps) := by
  unfold Region.wanted
  cases hg : o.guard with
  | none => rfl
  | some p =>
    obtain ⟨j, want⟩ := p
    simp only [yielded_mask fun t ht => h j want t hg ht]
theorem guard_use (hd : ops[i]? = some o) {j t : Nat} {want : Bool} (hg : o.guard = some (j, want)) (ht : dstD ops j = some t) : t ∈ useD P ops i := by
  simp only [useD, hd, hg, ht]
  exact List.mem_append_left _ (List.mem_append_right _ (by simp))
theorem list_not_ready {post : List Nat} (F : Facts P ops done post listed) {f : Nat} (hf : f ∈ post) (hi : i ∈ Region.ready .any ops listed) (ha : ancOf (Region.before ops) f i = true) : False :=
  getD_absurd (F.un f hf) (F.ready hi ha)
end
end Go.Vm

/- A small machine over an abstract heap: regions of which several operations that write wait for nobody. -/
set_option linter.unusedSimpArgs false
set_option linter.unusedVariables false
namespace Go.Vm
open Go.RowKit
def nextT (P : Program) (o : AOper) (f : St → List Out) (s : St) : CO → List Out
  | .ret v h => if o.chk.all (stable P (putT s.ts o.dst v) h) then f { s with ts := putT s.ts o.dst v, h := h } else [.bad]
  | .pan chain h => if o.pan then [.mk (.panic chain) { s with h := h }] else [.bad]
  | .bad => [.bad]
def opT (P : Program) (call : Caller) (o : AOper) (f : St → List Out) (s : St) : List Out :=
  if wantedT s.ts o.guard then (xo P call s.ts s.h o.op).flatMap (nextT P o f s)
  else if o.chk.all (stable P (putT s.ts o.dst undef) s.h) then f { s with ts := putT s.ts o.dst undef } else [.bad]
def xopsT (P : Program) (call : Caller) : DTree → St → List Out
  | .nil, s => [.mk .normal s]
  | .op o t, s => opT P call o (xopsT P call t) s
  | .fork a b, s => xopsT P call a s ++ xopsT P call b s
section
variable {P : Program} {ops : Array Oper} {B : Nat} {w0 : World} {ro : Option Nat} {n : Nat}
theorem xopsD_opT {call : Caller} {o : AOper} {rest : List AOper} {s : St} : xopsD P call (o :: rest) s = opT P call o (xopsD P call rest) s := by
  rw [xopsD]
  unfold opT
  split
  · congr 1
  · rfl
theorem opT_mem {call : Caller} {o : AOper} {f : St → List Out} {s : St} {x : Out} {p : (St → List Out) → Prop} (h0 : ∃ g, p g) (hf : ∀ s y, y ∈ f s → ∃ g, p g ∧ y ∈ g s) (hx : x ∈ opT P call o f s) : ∃ g, p g ∧ x ∈ opT P call o g s := by
  unfold opT at hx ⊢
  by_cases hw : wantedT s.ts o.guard = true
  · simp only [hw, if_true] at hx ⊢
    obtain ⟨co, hco, hx⟩ := List.mem_flatMap.1 hx
    cases co with
    | ret v h =>
      simp only [nextT] at hx
      by_cases hc : (o.chk.all (stable P (putT s.ts o.dst v) h)) = true
      · rw [if_pos hc] at hx
        obtain ⟨g, hg, hx⟩ := hf _ _ hx
        exact ⟨g, hg, List.mem_flatMap.2 ⟨_, hco, by simp only [nextT]; rw [if_pos hc]; exact hx⟩⟩
      · rw [if_neg hc] at hx
        obtain ⟨g, hg⟩ := h0
        exact ⟨g, hg, List.mem_flatMap.2 ⟨_, hco, by simp only [nextT]; rw [if_neg hc]; exact hx⟩⟩
    | pan c h =>
      obtain ⟨g, hg⟩ := h0
      exact ⟨g, hg, List.mem_flatMap.2 ⟨_, hco, hx⟩⟩
    | bad =>
      obtain ⟨g, hg⟩ := h0
      exact ⟨g, hg, List.mem_flatMap.2 ⟨_, hco, hx⟩⟩
  · simp only [if_neg hw] at hx ⊢
    by_cases hc : (o.chk.all (stable P (putT s.ts o.dst undef) s.h)) = true
    · simp only [if_pos hc] at hx ⊢
      exact hf _ _ hx
    · simp only [if_neg hc] at hx ⊢
      obtain ⟨g, hg⟩ := h0
      exact ⟨g, hg, hx⟩
theorem paths_ne : ∀ t : DTree, ∃ p, p ∈ pathsD t
  | .nil => ⟨[], by simp [pathsD]⟩
  | .op o t => by obtain ⟨p, hp⟩ := paths_ne t; exact ⟨o :: p, List.mem_map.2 ⟨p, hp, rfl⟩⟩
  | .fork a b => by obtain ⟨p, hp⟩ := paths_ne a; exact ⟨p, List.mem_append_left _ hp⟩
theorem paths_mem {call : Caller} : ∀ (t : DTree) (s : St) (x : Out), x ∈ xopsT P call t s → ∃ p ∈ pathsD t, x ∈ xopsD P call p s
  | .nil, s, x, hx => ⟨[], by simp [pathsD], by simpa [xopsT, xopsD] using hx⟩
  | .op o t, s, x, hx => by
    obtain ⟨g, ⟨p, hp, rfl⟩, hx⟩ := opT_mem (p := fun g => ∃ p ∈ pathsD t, g = xopsD P call p) (by obtain ⟨p, hp⟩ := paths_ne t; exact ⟨_, p, hp, rfl⟩)
      (fun s y hy => by obtain ⟨p, hp, hy⟩ := paths_mem t s y hy; exact ⟨_, ⟨p, hp, rfl⟩, hy⟩) hx
    exact ⟨o :: p, List.mem_map.2 ⟨p, hp, rfl⟩, by rw [xopsD_opT]; exact hx⟩
  | .fork a b, s, x, hx => by
    rcases List.mem_append.1 hx with hx | hx
    · obtain ⟨p, hp, hx⟩ := paths_mem a s x hx; exact ⟨p, List.mem_append_left _ hp, hx⟩
    · obtain ⟨p, hp, hx⟩ := paths_mem b s x hx; exact ⟨p, List.mem_append_right _ hp, hx⟩
theorem forkL_cons {y z : Option DTree} {l : List (Option DTree)} : forkL (y :: z :: l) = (match y, forkL (z :: l) with
      | some a, some b => some (DTree.fork a b)
      | _, _ => none) := rfl
theorem forkL_mem {call : Caller} : ∀ {l : List (Option DTree)} {t : DTree}, forkL l = some t → ∀ x ∈ l, ∃ u, x = some u ∧ ∀ s o, o ∈ xopsT P call u s → o ∈ xopsT P call t s
  | [], _, h, _, _ => by cases h
  | [y], t, h, x, hx => by
    obtain rfl : x = y := by simpa using hx
    simp only [forkL] at h
    exact ⟨t, h, fun _ _ h => h⟩
  | y :: z :: l, t, h, x, hx => by
    rw [forkL_cons] at h
    split at h
    · rename_i _ _ a b hb
      cases h
      rcases List.mem_cons.1 hx with rfl | hx
      · exact ⟨a, rfl, fun s o ho => List.mem_append_left _ ho⟩
      · obtain ⟨u, hu, hm⟩ := forkL_mem (call := call) (t := b) (l := z :: l) hb x hx
        exact ⟨u, hu, fun s o ho => List.mem_append_right _ (hm s o ho)⟩
    · cases h
theorem front_parts {an : Array Nat} {done : List Nat} {i : Nat} {a : AOper} (h : frontD P ops an done i = some a) :
    ∃ o ao c, ops[i]? = some o ∧ compOper P ops o = some ao ∧ compList (fun j => (ops[j]?).bind (compOper P ops)) (if isW P ops an i then done.filter fun j => !isW P ops an j && !ancOf an j i else []) = some c ∧ ao.op.noSel = true ∧
      (∀ j, j < ops.size → j ∉ done → j ≠ i → ancOf an j i = false) ∧
      a = { ao with chk := c.map triple, pan := done.all (fun j => ancOf an j i) && (isW P ops an i || (List.range ops.size).all fun j => done.contains j || j == i || ancOf an i j) } := by
  unfold frontD at h
  split at h
  · rename_i ao c h1 h2
    split at h
    · rename_i hk
      cases h
      rw [Bool.and_eq_true] at hk
      cases ho : ops[i]? with
      | none => rw [ho] at h1; cases h1
      | some o =>
        rw [ho] at h1
        refine ⟨o, ao, c, rfl, h1, h2, hk.1, fun j hj hd hi => ?_, rfl⟩
        have := List.all_eq_true.1 hk.2 j (List.mem_range.2 hj)
        simp only [Bool.or_eq_true, beq_iff_eq, Bool.not_eq_true'] at this
        rcases this with (h | h) | h
        · exact absurd (by simpa using h) hd
        · exact absurd h hi
        · exact h
    · cases h
  · cases h
def restD (ops : Array Oper) (done : List Nat) : List Nat := (List.range ops.size).filter fun i => !done.contains i
theorem mem_rest {done : List Nat} {k : Nat} : k ∈ restD ops done ↔ k < ops.size ∧ k ∉ done := by
  simp [restD]
structure ConfT (ro : Option Nat) (P : Program) (ops : Array Oper) (B : Nat) (w0 : World) (m : Nat) (done : List Nat) (t : DTree) (listed : Array Bool) (g : Gh) (s : St) (a : Act) (w : World) : Prop where
  facts : Facts P ops done (restD ops done) listed
  ord : treeD P ops (Region.before ops) m done = some t
  held : Held P ops done listed g s a
  hr : HR g s.h B w0 w
  rd : MR g s.rd ro
inductive StuckT (P : Program) (ops : Array Oper) (call : Caller) (done : List Nat) (t : DTree) (s : St) : Prop
  | nil (h : t = .nil) (h2 : ∀ i, i < ops.size → i ∈ done)
  | fork (m : Nat) (h : ∀ i, i < ops.size → readyD ops done i = true → isW P ops (Region.before ops) i = true ∧
      ∃ ao t', frontD P ops (Region.before ops) done i = some ao ∧ treeD P ops (Region.before ops) m (i :: done) = some t' ∧ ∀ s o, o ∈ opT P call ao (xopsT P call t') s → o ∈ xopsT P call t s)
  | pan (i : Nat) (ao : AOper) (t' : DTree) (v : Value) (h' : Heap) (h : t = .op ao t') (h1 : frontD P ops (Region.before ops) done i = some ao) (h0 : i ∉ done) (h2 : isW P ops (Region.before ops) i = false) (h3 : wantedT s.ts ao.guard = true)
      (h4 : xop P (eval s.ts) s.h ao.op = .pan v h')
variable {listed : Array Bool} {g g' : Gh} {a : Act} {w w' : World} {done : List Nat} {m : Nat} {t : DTree} {s : St} {i : Nat} {o : Oper} {ao : AOper}
theorem ready_rest (h : readyD ops done i = true) : i ∈ restD ops done := by
  unfold readyD at h
  rw [Bool.and_eq_true] at h
  refine mem_rest.2 ⟨?_, by simpa using h.1⟩
  cases ho : ops[i]? with
  | none => rw [ho] at h; simp at h
  | some o => exact (Array.getElem?_eq_some_iff.1 ho).1
theorem treeOp_some {x : Option AOper} {y : Option DTree} {t : DTree} (h : treeOp x y = some t) : ∃ a b, x = some a ∧ y = some b ∧ t = .op a b := by
  unfold treeOp at h
  split at h
  · cases h; exact ⟨_, _, rfl, rfl, rfl⟩
  · cases h
theorem tree_cases {call : Caller} (h : treeD P ops (Region.before ops) m done = some t) :
    (t = .nil ∧ ∀ i, i < ops.size → i ∈ done) ∨
    (∃ m' i ao t', readyD ops done i = true ∧ isW P ops (Region.before ops) i = false ∧ frontD P ops (Region.before ops) done i = some ao ∧ treeD P ops (Region.before ops) m' (i :: done) = some t' ∧ t = .op ao t' ∧ m = m' + 1) ∨
    (∃ m', ∀ i, i < ops.size → readyD ops done i = true → isW P ops (Region.before ops) i = true ∧
      ∃ ao t', frontD P ops (Region.before ops) done i = some ao ∧ treeD P ops (Region.before ops) m' (i :: done) = some t' ∧ ∀ s o, o ∈ opT P call ao (xopsT P call t') s → o ∈ xopsT P call t s) := by
  have nilc : ∀ {x : Option DTree}, (if (List.range ops.size).all done.contains = true then some DTree.nil else none) = some t → t = .nil ∧ ∀ i, i < ops.size → i ∈ done := by
    intro _ h
    split at h
    · rename_i hk
      cases h
      exact ⟨rfl, fun i hi => by simpa using List.all_eq_true.1 hk i (List.mem_range.2 hi)⟩
    · cases h
  cases m with
  | zero => simp only [treeD] at h; exact .inl (nilc (x := none) h)
  | succ m =>
    simp only [treeD] at h
    split at h
    · rename_i i hf
      obtain ⟨ao, t', h1, h2, rfl⟩ := treeOp_some h
      have hm := List.mem_of_find?_eq_some hf
      have hp := List.find?_some hf
      exact .inr (.inl ⟨m, i, ao, t', (List.mem_filter.1 hm).2, by simpa using hp, h1, h2, rfl, rfl⟩)
    · rename_i hf
      split at h
      · exact .inl (nilc (x := none) h)
      · rename_i i l hl
        split at h
        · cases h
        · refine .inr (.inr ⟨m, fun j hj hr => ?_⟩)
          have hm : j ∈ (List.range ops.size).filter (readyD ops done) := List.mem_filter.2 ⟨List.mem_range.2 hj, hr⟩
          refine ⟨?_, ?_⟩
          · have := List.find?_eq_none.1 hf j hm
            simpa using this
          · rw [hl] at hm
            obtain ⟨u, hu, hx⟩ := forkL_mem (P := P) (call := call) h _ (List.mem_map.2 ⟨j, hm, rfl⟩)
            obtain ⟨ao, t', h1, h2, rfl⟩ := treeOp_some hu
            exact ⟨ao, t', h1, h2, hx⟩
theorem facts_cons (F : Facts P ops done (restD ops done) listed) (hi : i ∈ restD ops done) (ho : ops[i]? = some o) (hc : compOper P ops o = some ao) (hn : ao.op.noSel = true) (hp : ∀ j, j < ops.size → j ∉ done → j ≠ i → ancOf (Region.before ops) j i = false) {listed' : Array Bool}
    (hsz : listed'.size = ops.size) (hw : ∀ d ∈ i :: done, isW P ops (Region.before ops) d = true → listed'.getD d true = true) (hun : ∀ k ∈ restD ops (i :: done), listed'.getD k true = false)
    (hd : ∀ k o, listed'.getD k false = true → ops[k]? = some o → ∀ e ∈ o.after, Region.binds .any e = true → listed'.getD e.on false = true) : Facts P ops (i :: done) (restD ops (i :: done)) listed' := by
  refine ⟨hsz, F.edges, fun j hj => ?_, fun d hd k hk => ?_, fun d hd => ?_, hw, hun, hd⟩
  · by_cases h : j ∈ i :: done
    · exact .inl h
    · exact .inr (mem_rest.2 ⟨hj, h⟩)
  · obtain ⟨hk1, hk2⟩ := mem_rest.1 hk
    simp only [List.mem_cons, not_or] at hk2
    rcases List.mem_cons.1 hd with rfl | hd
    · exact hp k hk1 hk2.2 hk2.1
    · exact F.fwd d hd k (mem_rest.2 ⟨hk1, hk2.2⟩)
  · rcases List.mem_cons.1 hd with rfl | hd
    · exact ⟨o, ao, ho, hc, hn⟩
    · exact F.comp d hd
theorem ConfT.step {t' : DTree} {v : Value} (C : ConfT ro P ops B w0 m done t listed g s a w) (hi : i ∈ restD ops done) (hn : ao.op.noSel = true) (hp : ∀ j, j < ops.size → j ∉ done → j ≠ i → ancOf (Region.before ops) j i = false) {m' : Nat}
    (hw : isW P ops (Region.before ops) i = false) (ho : ops[i]? = some o) (hc : compOper P ops o = some ao) (hl : treeD P ops (Region.before ops) m' (i :: done) = some t')
    (hst : StableP P (putT s.ts ao.dst v) s.h ao) : ConfT ro P ops B w0 m' (i :: done) t' listed g { s with ts := putT s.ts ao.dst v } a w := by
  have hin : i ∉ done := (mem_rest.1 hi).2
  have hun : listed.getD i true = false := C.facts.un i hi
  have hds := dst_dstD ho hc
  refine ⟨facts_cons C.facts hi ho hc hn hp C.facts.size (fun d hd hdw => ?_) (fun k hk => C.facts.un k (mem_rest.2 ⟨(mem_rest.1 hk).1, fun h => (mem_rest.1 hk).2 (List.mem_cons_of_mem _ h)⟩)) C.facts.down, hl, ⟨?_, fun t ht => ?_, fun d hd hdu o' ao' ho' hc' => ?_, C.held.ds⟩, C.hr, C.rd⟩
  · rcases List.mem_cons.1 hd with rfl | hd
    · rw [hw] at hdw; cases hdw
    · exact C.facts.wr d hd hdw
  · rw [C.held.len, putT_length]
  · have hne : ao.dst ≠ some t := by rw [← hds]; exact ht i (by simp) hun
    rw [lget_putT_ne hne]
    exact C.held.slots t fun d hd hu => ht d (by simp [hd]) hu
  · rcases List.mem_cons.1 hd with rfl | hd
    · rw [ho] at ho'; cases ho'
      rw [hc] at hc'; cases hc'
      exact hst
    · have hdi : d ≠ i := fun e => hin (e ▸ hd)
      obtain ⟨_, _, _, hc2, hn2⟩ := C.facts.comp d hd
      have hn : ao'.op.noSel = true := by
        rename_i o2 ao2 ho2
        rw [ho2] at ho'; cases ho'
        rw [hc2] at hc'; cases hc'
        exact hn2
      have hdl := (Array.getElem?_eq_some_iff.1 ho').1
      have hno : ∀ t, ao.dst = some t → t ∉ useD P ops d ∧ dstD ops d ≠ some t := fun t ht => by
        have h5 := ((nonW hw).2 t (by rw [hds]; exact ht)).2 d hdl hdi
        have h6 := C.facts.fwd d hd i hi
        refine ⟨fun hm => ?_, fun hm => ?_⟩
        · rw [h5 (.inl hm)] at h6; cases h6
        · rw [h5 (.inr hm)] at h6; cases h6
      refine (C.held.stab d hd hdu o' ao' ho' hc').congr ho' hc' hn (putT_length _ _ _) (fun t ht => lget_putT_ne fun e => (hno t e).1 ht) (fun t ht => lget_putT_ne fun e => (hno t e).2 ?_)
      rw [dst_dstD ho' hc']; exact ht
theorem advanceT {call : Caller} : ∀ (m : Nat) (done : List Nat) (t : DTree) (s : St), ConfT ro P ops B w0 m done t listed g s a w → Good (xopsT P call t s) →
    ∃ m' done' t' s', ConfT ro P ops B w0 m' done' t' listed g s' a w ∧ xopsT P call t' s' = xopsT P call t s ∧ StuckT P ops call done' t' s'
  | m, done, t, s, C, hg => by
    rcases tree_cases (call := call) C.ord with ⟨h1, h2⟩ | ⟨m', i, ao, t', hrdy, hw, hf, hord, rfl, rfl⟩ | ⟨m', h⟩
    · exact ⟨m, done, t, s, C, rfl, .nil h1 h2⟩
    · obtain ⟨o, ao0, c, ho, hc, hcl, hn, hp, hao⟩ := front_parts hf
      have hi := ready_rest hrdy
      rw [hw] at hcl
      simp only [Bool.false_eq_true, if_false, compList, Option.some.injEq] at hcl
      subst hcl
      have hk := kind_of ho hc (nonW hw).1
      have hg' := hg
      have hx : xopsT P call (.op ao t') s = opT P call ao (xopsT P call t') s := rfl
      unfold opT at hx
      have hgd : ao.guard = ao0.guard := by rw [hao]
      have hop : ao.op = ao0.op := by rw [hao]
      have hds : ao.dst = ao0.dst := by rw [hao]
      have hchk : ao.chk = [] := by rw [hao]; rfl
      simp only [hgd, hop, hds, hchk, List.all_nil, if_true] at hx
      by_cases hwt : wantedT s.ts ao0.guard = true
      · rw [if_pos hwt, xo_read hk] at hx
        cases hxo : xop P (eval s.ts) s.h ao0.op with
        | ok v h' =>
          have hh := still_xop hk hxo
          subst hh
          rw [hxo] at hx
          have hx' : xopsT P call (.op ao t') s = xopsT P call t' { s with ts := putT s.ts ao0.dst v } := by
            rw [hx]; simp [nextT, hchk, hds]
          have hst : StableP P (putT s.ts ao0.dst v) s.h ao0 := by
            refine .inl ⟨by rw [wantedT_congr ho hc (own_use hw ho hc)]; exact hwt, v, ?_, fun d hd hlt => ?_⟩
            · rw [xop_congr hn (eval_congr ho hc (own_use hw ho hc))]; exact hxo
            · rw [hd] at hlt ⊢
              rw [putT_length] at hlt
              exact lget_putT_eq hlt
          have C' := C.step hi hn hp hw ho hc hord hst
          obtain ⟨m2, d', p', s', h1, h2, h3⟩ := advanceT m' (i :: done) t' _ C' (by rw [← hx']; exact hg)
          exact ⟨m2, d', p', s', h1, by rw [h2, hx'], h3⟩
        | pan v h' =>
          exact ⟨m' + 1, done, _, s, C, rfl, .pan i ao t' v h' rfl hf (mem_rest.1 hi).2 hw (by rw [hgd]; exact hwt) (by rw [hop]; exact hxo)⟩
        | bad =>
          rw [hxo] at hx
          exfalso
          rw [hx] at hg
          exact hg .bad (by simp [nextT]) rfl
      · rw [if_neg hwt] at hx
        have hst : StableP P (putT s.ts ao0.dst undef) s.h ao0 := by
          refine .inr ⟨by rw [wantedT_congr ho hc (own_use hw ho hc)]; simpa using hwt, fun d hd => ?_⟩
          rw [hd]
          by_cases hlt : d < s.ts.length
          · exact lget_putT_eq hlt
          · exact lget_over (by rw [putT_length]; exact hlt)
        have C' := C.step hi hn hp hw ho hc hord hst
        obtain ⟨m2, d', p', s', h1, h2, h3⟩ := advanceT m' (i :: done) t' _ C' (by rw [← hx]; exact hg)
        exact ⟨m2, d', p', s', h1, by rw [h2, hx], h3⟩
    · exact ⟨m, done, t, s, C, rfl, .fork m' h⟩
termination_by m => m
theorem finT {call : Caller} {g0 : Gh} {Q : Exit → Act → World → Prop} (C : ConfT ro P ops B w0 m done t listed g s a w) (hl : Le g0 g) (hr : Region.ready .any ops listed = [])
    (hQ : ∀ e a w, Post ro B w0 g0 (xopsT P call t s) e a w → Q e a w) : Q .normal a w := by
  have hall := fun i hi => C.facts.all hr (i + 1) i (by omega) hi
  have hpost : ∀ k, k < ops.size → k ∈ done := fun k hk => by
    apply Classical.byContradiction
    intro h
    exact getD_absurd (C.facts.un k (mem_rest.2 ⟨hk, h⟩)) (hall k hk)
  have ht : t = .nil := by
    rcases tree_cases (call := call) C.ord with ⟨h1, h2⟩ | ⟨m', i, ao, t', hrdy, _⟩ | ⟨m', h⟩
    · exact h1
    · have := mem_rest.1 (ready_rest hrdy)
      exact absurd (hpost i this.1) this.2
    · have hord := C.ord
      cases m with
      | zero =>
        simp only [treeD] at hord
        split at hord
        · cases hord; rfl
        · cases hord
      | succ m =>
        have he : (List.range ops.size).filter (readyD ops done) = [] := by
          rw [List.filter_eq_nil_iff]
          intro i hi hrdy
          have := mem_rest.1 (ready_rest hrdy)
          exact this.2 (hpost i this.1)
        simp only [treeD, he, List.find?_nil] at hord
        split at hord
        · cases hord; rfl
        · cases hord
  subst ht
  refine hQ _ _ _ ⟨g, .normal, s, by simp [xopsT], hl, trivial, C.hr, slots_all C.held fun d hd => ?_, C.held.ds, C.rd⟩
  obtain ⟨o, _, ho, _⟩ := C.facts.comp d hd
  cases h : listed.getD d true with
  | true => rfl
  | false => exact (getD_absurd h (hall d (Array.getElem?_eq_some_iff.1 ho).1)).elim
theorem ConfT.late (C : ConfT ro P ops B w0 m done t listed g s a w) (hi : i ∈ Region.ready .any ops listed) (hd : i ∈ done) (ho : ops[i]? = some o) (hl : Le g g') (hr : HR g' s.h B w0 w') {v v' : Value} (hv : VR g' v v')
    (hval : ∀ t, o.dst = some t → t < s.ts.length → lget s.ts t = v) : ConfT ro P ops B w0 m done t (listed.setIfInBounds i true) g' s (a.put o.dst v') w' := by
  have hlt : i < listed.size := by rw [C.facts.size]; exact (Array.getElem?_eq_some_iff.1 ho).1
  refine ⟨⟨by simp [C.facts.size], C.facts.edges, C.facts.cover, C.facts.fwd, C.facts.comp, fun d hd hw => wr_set (C.facts.wr d hd hw), fun k hk => ?_, down_set C.facts hi⟩, C.ord,
    ⟨by rw [size_put, C.held.len], fun t ht => ?_, fun d hd hu => C.held.stab d hd (getD_set_false hu).2, by rw [put_defers]; exact C.held.ds.mono hl⟩, hr, C.rd.mono hl⟩
  · have hne : i ≠ k := fun e => (mem_rest.1 hk).2 (e ▸ hd)
    rw [getD_set_ne true hne]
    exact C.facts.un k hk
  · by_cases hdt : o.dst = some t
    · rw [hdt]
      by_cases hb : t < s.ts.length
      · rw [getD_put_eq (by rw [C.held.len]; exact hb), hval t hdt hb]
        exact hv
      · rw [lget_over hb, List.getD_eq_getElem?_getD, List.getElem?_eq_none (by rw [Array.length_toList, size_put, C.held.len]; omega)]
        exact .gr ground_undef
    · rw [getD_put_ne hdt]
      refine (C.held.slots t fun d hd hu => ?_).mono hl
      by_cases hdi : d = i
      · subst hdi
        simp only [dstD, ho, Option.bind_some]
        exact hdt
      · exact ht d hd (by rw [getD_set_ne true (Ne.symm hdi)]; exact hu)
theorem ConfT.front {t' : DTree} {m' : Nat} (C : ConfT ro P ops B w0 m done t listed g s a w) (hi : i ∈ Region.ready .any ops listed) (hir : i ∈ restD ops done) (ho : ops[i]? = some o) (hc : compOper P ops o = some ao) (hn : ao.op.noSel = true) (hp : ∀ j, j < ops.size → j ∉ done → j ≠ i → ancOf (Region.before ops) j i = false)
    (hord : treeD P ops (Region.before ops) m' (i :: done) = some t')
    (hl : Le g g') {h' : Heap} (hr : HR g' h' B w0 w') {v v' : Value} (hv : VR g' v v')
    (hst : ∀ d ∈ done, listed.getD d true = false → ∀ o ao', ops[d]? = some o → compOper P ops o = some ao' → StableP P (putT s.ts ao.dst v) h' ao') :
    ConfT ro P ops B w0 m' (i :: done) t' (listed.setIfInBounds i true) g' { s with ts := putT s.ts ao.dst v, h := h' } (a.put o.dst v') w' := by
  have hlt : i < listed.size := by rw [C.facts.size]; exact (Array.getElem?_eq_some_iff.1 ho).1
  have hdst := (compOper_parts hc).2.2
  refine ⟨facts_cons C.facts hir ho hc hn hp (by simp [C.facts.size]) (fun d hd hw => ?_) (fun k hk => ?_) (down_set C.facts hi), hord,
    ⟨by simp only [size_put, C.held.len, putT_length], fun t ht => ?_, fun d hd hu o' ao' ho' hc' => ?_, by rw [put_defers]; exact C.held.ds.mono hl⟩, hr, C.rd.mono hl⟩
  · rcases List.mem_cons.1 hd with rfl | hd
    · exact getD_set_self hlt true
    · exact wr_set (C.facts.wr d hd hw)
  · obtain ⟨hk1, hk2⟩ := mem_rest.1 hk
    simp only [List.mem_cons, not_or] at hk2
    rw [getD_set_ne true (Ne.symm hk2.1)]
    exact C.facts.un k (mem_rest.2 ⟨hk1, hk2.2⟩)
  · simp only at ht ⊢
    by_cases hdt : o.dst = some t
    · rw [hdst, hdt]
      by_cases hb : t < s.ts.length
      · rw [getD_put_eq (by rw [C.held.len]; exact hb), lget_putT_eq hb]
        exact hv
      · rw [lget_over (by rw [putT_length]; exact hb), List.getD_eq_getElem?_getD, List.getElem?_eq_none (by rw [Array.length_toList, size_put, C.held.len]; omega)]
        exact .gr ground_undef
    · rw [getD_put_ne hdt, lget_putT_ne (by rw [hdst]; exact hdt)]
      refine (C.held.slots t fun d hd hu => ?_).mono hl
      have hdi : i ≠ d := fun e => (mem_rest.1 hir).2 (e ▸ hd)
      exact ht d (by simp [hd]) (by rw [getD_set_ne true hdi]; exact hu)
  · obtain ⟨hdi, hu⟩ := getD_set_false hu
    rcases List.mem_cons.1 hd with rfl | hd
    · exact absurd rfl hdi
    · exact hst d hd hu o' ao' ho' hc'
theorem ConfT.exec {call : Caller} (hcall : CallOK P call) (C : ConfT ro P ops B w0 m done t listed g s a w) (hi : i ∈ Region.ready .any ops listed) (ho : ops[i]? = some o) (hc : compOper P ops o = some ao) (hn : ao.op.noSel = true)
    {K : Act → World → Prop} {Q : Exit → Act → World → Prop} (hg : wantedT s.ts ao.guard = true → ∀ co ∈ xo P call s.ts s.h ao.op, co ≠ .bad) (how : wantedT s.ts ao.guard = true → Owes B w0 g o a K Q (xo P call s.ts s.h ao.op))
    (hno : wantedT s.ts ao.guard = false → K (a.put o.dst undef) w) : wpOpIn (FR ro) n P ops Q i K a w := by
  have hts := mask_vr (g := g) (U := useD P ops i) C.held.len fun t ht => C.held.slots t fun d hd hu => C.facts.use hi hd hu ht
  have hw : Region.wanted o (yielded ops a.tmps) = wantedT s.ts ao.guard := by
    rw [← wanted_mask (U := useD P ops i) fun j want t hg ht => guard_use ho hg ht, wanted_eq hts hc]
    exact wantedT_congr ho hc fun t ht => lget_mask ht
  unfold wpOpIn
  simp only [ho, hw]
  by_cases hwt : wantedT s.ts ao.guard = true
  · rw [if_pos hwt]
    obtain ⟨h1, h2, h3⟩ := compOper_parts hc
    have hxo : xo P call (maskL (useD P ops i) s.ts) s.h ao.op = xo P call s.ts s.h ao.op := xo_congr hn fun x hx => eval_mask fun t ht => use_opds ho hc hx ht
    refine (xo_wp (a1 := maskA (useD P ops i) a) (ts := maskL (useD P ops i) s.ts) ?_ hcall h1 h2 C.hr hts (by rw [hxo]; exact hg hwt) (by rw [hxo]; exact how hwt))
    exact execOp_congr o (comp_noselect h1) fun x hx => (evalA_mask fun t ht => use_op ho (by simpa using hx) ht).symm
  · rw [if_neg hwt]
    exact ⟨fun _ _ => trivial, hno (by simpa using hwt)⟩
theorem anyT_sound {call : Caller} (hcall : CallOK P call) {g0 : Gh} {Q : Exit → Act → World → Prop} : ∀ (fuel : Nat) (listed : Array Bool), listed.toList.count false ≤ fuel →
    ∀ (m : Nat) (done : List Nat) (t : DTree) (g : Gh) (s : St) (a : Act) (w : World), ConfT ro P ops B w0 m done t listed g s a w → Le g0 g → Good (xopsT P call t s) →
      (∀ e a w, Post ro B w0 g0 (xopsT P call t s) e a w → Q e a w) → wpAnyIn (FR ro) n P .any ops Q fuel listed a w := by
  intro fuel
  induction fuel with
  | zero =>
    intro listed hcount m done t g s a w C hl hg hQ
    have hr : Region.ready .any ops listed = [] := by
      cases h : Region.ready .any ops listed with
      | nil => rfl
      | cons i l =>
        have hm : i ∈ Region.ready .any ops listed := by rw [h]; simp
        obtain ⟨h0, o, ho, _⟩ := mem_ready.1 hm
        have hlt : i < listed.size := by rw [C.facts.size]; exact (Array.getElem?_eq_some_iff.1 ho).1
        have : listed.toList[i]? = some false := by
          rw [Array.getD_eq_getD_getElem?, Array.getElem?_eq_getElem hlt] at h0
          simp at h0
          simp [hlt, h0]
        have := count_pos this
        omega
    exact ⟨hr, finT C hl hr hQ⟩
  | succ fuel ih =>
    intro listed hcount m done t g s a w C hl hg hQ
    refine ⟨fun hr => finT C hl hr hQ, fun i hi => ?_⟩
    obtain ⟨m, done, t', s, C, hx, hstuck⟩ := advanceT m done t s C hg
    rw [← hx] at hg hQ
    clear hx
    obtain ⟨h0, o, ho, hall⟩ := mem_ready.1 hi
    have hlt : i < listed.size := by rw [C.facts.size]; exact (Array.getElem?_eq_some_iff.1 ho).1
    have hcount' : (listed.setIfInBounds i true).toList.count false ≤ fuel := by
      have : listed.toList[i]? = some false := by
        rw [Array.getD_eq_getD_getElem?, Array.getElem?_eq_getElem hlt] at h0
        simp at h0
        simp [hlt, h0]
      have := count_set this
      simp only [Array.toList_setIfInBounds]
      omega
    have hio : i < ops.size := (Array.getElem?_eq_some_iff.1 ho).1
    rcases C.facts.cover i hio with hd | hp
    · -- taken on trust before
      obtain ⟨o', ao, ho', hc, hn⟩ := C.facts.comp i hd
      rw [ho] at ho'; cases ho'
      have hk := kind_of ho hc (nonW (P := P) (ops := ops) (d := i) (by
        cases h : isW P ops (Region.before ops) i with
        | false => rfl
        | true => rw [C.facts.wr i hd h] at h0; cases h0)).1
      have hdst := (compOper_parts hc).2.2
      rcases C.held.stab i hd h0 o ao ho hc with ⟨hwt, v, hxo, hval⟩ | ⟨hwt, hval⟩
      · have hxo' : xo P call s.ts s.h ao.op = [.ret v s.h] := by rw [xo_read hk, hxo]
        refine C.exec hcall hi ho hc hn (fun _ co hm => ?_) (fun _ => ⟨fun v1 h1 hm g1 v' w' hle hr' hv => ?_, fun c h1 hm => ?_⟩) (fun hno => by rw [hno] at hwt; cases hwt)
        · rw [hxo'] at hm; simp at hm; rw [hm]; simp
        · rw [hxo'] at hm; simp at hm
          obtain ⟨rfl, rfl⟩ := hm
          exact ih _ hcount' m done t' g1 s _ w' (C.late hi hd ho hle hr' hv (fun t ht => hval t (by rw [hdst]; exact ht))) (hl.trans hle) hg hQ
        · rw [hxo'] at hm; simp at hm
      · refine C.exec hcall hi ho hc hn (fun h => by rw [h] at hwt; cases hwt) (fun h => by rw [h] at hwt; cases hwt) (fun _ => ?_)
        exact ih _ hcount' m done t' g s _ w (C.late hi hd ho (Le.refl _) C.hr (.gr ground_undef) (fun t ht _ => hval t (by rw [hdst]; exact ht))) hl hg hQ
    · -- not yet
      have hrdy : readyD ops done i = true := by
        unfold readyD
        rw [ho]
        simp only [Option.map_some, Option.getD_some, Bool.and_eq_true, Bool.not_eq_true', Array.all_eq_true_iff_forall_mem, Bool.or_eq_true]
        refine ⟨by simpa using (mem_rest.1 hp).2, fun e he => ?_⟩
        by_cases hb : Region.binds .any e = true
        · right
          have h2 := hall e he hb
          have h3 := C.facts.edges i o ho e he hb
          apply Classical.byContradiction
          intro hno
          exact getD_absurd (C.facts.un e.on (mem_rest.2 ⟨by omega, by simpa using hno⟩)) h2
        · left; simpa using hb
      rcases hstuck with ⟨_, h2⟩ | ⟨m', hfk⟩ | ⟨f, ao, t2, v, h', rfl, hf, hf0, hfw, h3, h4⟩
      · exact absurd (h2 i hio) (mem_rest.1 hp).2
      · -- it is the front one of one branch
        obtain ⟨hw, aof, t2, hf, hord, hsubT⟩ := hfk i hio hrdy
        have hg : Good (opT P call aof (xopsT P call t2) s) := fun x hx => hg x (hsubT s x hx)
        have hQ : ∀ e a w, Post ro B w0 g0 (opT P call aof (xopsT P call t2) s) e a w → Q e a w := fun e a w ⟨g2, e2, s2, hm2, r⟩ => hQ e a w ⟨g2, e2, s2, hsubT _ _ hm2, r⟩
        obtain ⟨o', ao, c, ho', hc, hcl, hn, hpf, hao⟩ := front_parts hf
        rw [ho] at ho'; cases ho'
        have hgd : aof.guard = ao.guard := by rw [hao]
        have hop : aof.op = ao.op := by rw [hao]
        have hds : aof.dst = ao.dst := by rw [hao]
        have hchkE : aof.chk = c.map triple := by rw [hao]
        have pend : ∀ {v : Value} {h' : Heap}, (c.map triple).all (stable P (putT s.ts ao.dst v) h') = true →
            ∀ d ∈ done, listed.getD d true = false → ∀ o ao', ops[d]? = some o → compOper P ops o = some ao' → StableP P (putT s.ts ao.dst v) h' ao' := by
          intro v h' hchk d hd hu o2 ao2 ho2 hc2
          have hdw : isW P ops (Region.before ops) d = false := by
            cases h : isW P ops (Region.before ops) d with
            | false => rfl
            | true => rw [C.facts.wr d hd h] at hu; cases hu
          have hda : ancOf (Region.before ops) d i = false := by
            cases h : ancOf (Region.before ops) d i with
            | false => rfl
            | true => exact (getD_absurd hu (C.facts.ready hi h)).elim
          rw [if_pos hw] at hcl
          obtain ⟨y, hy, hyc⟩ := compList_mem hcl d (List.mem_filter.2 ⟨hd, by rw [hdw, hda]; rfl⟩)
          rw [ho2] at hyc
          have hyc : compOper P ops o2 = some y := hyc
          rw [hc2] at hyc; cases hyc
          exact stable_of (kind_of ho2 hc2 (nonW hdw).1) (List.all_eq_true.1 hchk _ (List.mem_map.2 ⟨_, hy, rfl⟩))
        unfold opT at hg hQ
        rw [hgd, hop, hds, hchkE] at hg hQ
        refine C.exec hcall hi ho hc hn (fun hwt co hm hbad => ?_) (fun hwt => ⟨fun v h' hm g' v' w' hle hr' hv => ?_, fun ch h' hm g' c' w' hle hr' hch => ?_⟩) (fun hwt => ?_)
        · rw [if_pos hwt] at hg
          subst hbad
          exact hg .bad (List.mem_flatMap.2 ⟨_, hm, by simp [nextT]⟩) rfl
        · rw [if_pos hwt] at hg hQ
          have hsub : Good (nextT P aof (xopsT P call t2) s (.ret v h')) := good_sub rfl hg hm
          have hchk : (c.map triple).all (stable P (putT s.ts ao.dst v) h') = true := by
            apply Classical.byContradiction
            intro hno
            simp only [nextT, hchkE, hds, if_neg hno] at hsub
            exact hsub .bad (by simp) rfl
          have hnx : nextT P aof (xopsT P call t2) s (.ret v h') = xopsT P call t2 { s with ts := putT s.ts ao.dst v, h := h' } := by
            simp only [nextT, hchkE, hds, if_pos hchk]
          rw [hnx] at hsub
          refine ih _ hcount' m' (i :: done) t2 g' _ _ w' (C.front hi hp ho hc hn hpf hord hle hr' hv (pend hchk)) (hl.trans hle) hsub fun e a w hp => hQ e a w ?_
          obtain ⟨g2, e2, s2, hm2, r⟩ := hp
          exact ⟨g2, e2, s2, List.mem_flatMap.2 ⟨_, hm, by rw [hnx]; exact hm2⟩, r⟩
        · rw [if_pos hwt] at hg hQ
          have hsub : Good (nextT P aof (xopsT P call t2) s (.pan ch h')) := good_sub rfl hg hm
          have hpan : aof.pan = true := by
            apply Classical.byContradiction
            intro hno
            simp only [nextT, if_neg hno] at hsub
            exact hsub .bad (by simp) rfl
          have hpan2 : done.all (fun j => ancOf (Region.before ops) j i) = true := by
            rw [hao] at hpan
            exact (Bool.and_eq_true _ _ ▸ hpan).1
          refine hQ _ _ _ ⟨g', .panic ch, { s with h := h' }, List.mem_flatMap.2 ⟨_, hm, by simp only [nextT, if_pos hpan]; simp⟩, hl.trans hle, hch, hr', (slots_all C.held fun d hd => ?_).mono hle, C.held.ds.mono hle, C.rd.mono hle⟩
          have := C.facts.ready hi (List.all_eq_true.1 hpan2 d hd)
          cases hx : listed.getD d true with
          | true => rfl
          | false => exact (getD_absurd hx this).elim
        · rw [if_neg (by rw [hwt]; simp)] at hg hQ
          have hchk : (c.map triple).all (stable P (putT s.ts ao.dst undef) s.h) = true := by
            apply Classical.byContradiction
            intro hno
            rw [if_neg hno] at hg
            exact hg .bad (by simp) rfl
          rw [if_pos hchk] at hg hQ
          exact ih _ hcount' m' (i :: done) t2 g _ _ w (C.front hi hp ho hc hn hpf hord (Le.refl _) C.hr (.gr ground_undef) (pend hchk)) hl hg hQ
      · -- one that reads comes to a panic
        obtain ⟨o', ao0, c, ho', hc, hcl, hn, hpf, hao⟩ := front_parts hf
        have hgd : ao.guard = ao0.guard := by rw [hao]
        have hop : ao.op = ao0.op := by rw [hao]
        have hk := kind_of ho' hc (nonW hfw).1
        have hxo : xo P call s.ts s.h ao.op = [.pan [{ v, recovered := false }] h'] := by rw [hop, xo_read hk, ← hop, h4]
        have hgd2 : Good (nextT P ao (xopsT P call t2) s (.pan [{ v, recovered := false }] h')) := by
          have : xopsT P call (.op ao t2) s = (xo P call s.ts s.h ao.op).flatMap (nextT P ao (xopsT P call t2) s) := by
            show opT P call ao _ s = _
            unfold opT
            rw [if_pos h3]
          rw [this, hxo] at hg
          simpa using hg
        have hpan : ao.pan = true := by
          apply Classical.byContradiction
          intro hno
          simp only [nextT, if_neg hno] at hgd2
          exact hgd2 .bad (by simp) rfl
        have hpan' := hpan
        rw [hao] at hpan'
        simp only [hfw, Bool.false_or, Bool.and_eq_true] at hpan'
        obtain ⟨hp1, hp2⟩ := hpan'
        by_cases hif : i = f
        · subst hif
          rw [ho] at ho'; cases ho'
          refine C.exec hcall hi ho hc hn (fun hwt co hm hbad => ?_) (fun hwt => ⟨fun v2 h2 hm => ?_, fun ch h2 hm g' c' w' hle hr' hch => ?_⟩) (fun hwt => ?_)
          · rw [← hop, hxo] at hm; simp at hm; subst hm; cases hbad
          · rw [← hop, hxo] at hm; simp at hm
          · refine hQ _ _ _ ⟨g', .panic ch, { s with h := h2 }, ?_, hl.trans hle, hch, hr', (slots_all C.held fun d hd => ?_).mono hle, C.held.ds.mono hle, C.rd.mono hle⟩
            · show _ ∈ opT P call ao _ s
              unfold opT
              rw [if_pos h3]
              exact List.mem_flatMap.2 ⟨_, by rw [hop]; exact hm, by simp only [nextT, if_pos hpan]; simp⟩
            · have := C.facts.ready hi (List.all_eq_true.1 hp1 d hd)
              cases hx : listed.getD d true with
              | true => rfl
              | false => exact (getD_absurd hx this).elim
          · rw [← hgd, h3] at hwt; cases hwt
        · exfalso
          have hfl := (Array.getElem?_eq_some_iff.1 ho').1
          have := List.all_eq_true.1 hp2 i (List.mem_range.2 hio)
          simp only [Bool.or_eq_true, beq_iff_eq] at this
          rcases this with (h | h) | h
          · exact (mem_rest.1 hp).2 (by simpa using h)
          · exact hif h
          · exact list_not_ready C.facts (f := f) (mem_rest.2 ⟨hfl, hf0⟩) hi h
theorem drawsM_ok (hm : P.follows .mixedOrders = true) {call : Caller} (hcall : CallOK P call) (ro : Option Nat) (n L : Nat) (id : Nat) (ops : Array Oper) (ls : List (List AOper)) (g0 g : Gh) (s : St) (a : Act) (w : World) (Q : Exit → Act → World → Prop) (hls : compM P ops = some ls) (hr : Rel ro B w0 g s a w) (hl : Le g0 g) (hg : Good (xc P call L (drawnC ls) s))
    (hQ : ∀ e a w, Post ro B w0 g0 (xc P call L (drawnC ls) s) e a w → Q e a w) : (Code.region id ops true).wpIn (FR ro) n P Q a w := by
  unfold compM at hls
  split at hls
  · rename_i he
    obtain ⟨t, ht, rfl⟩ := Option.map_eq_some_iff.1 hls
    have sub : ∀ x, x ∈ xopsT P call t s → x ∈ xc P call L (drawnC (pathsD t)) s := fun x hx => by
      obtain ⟨p, hp, hx⟩ := paths_mem t s x hx
      generalize pathsD t = ls at *
      match ls with
      | [] => cases hp
      | [l] =>
        obtain rfl : p = l := by simpa using hp
        exact hx
      | l :: l2 :: ls =>
        show x ∈ (l :: l2 :: ls).flatMap _
        exact List.mem_flatMap.2 ⟨p, hp, hx⟩
    refine wpIn_region_any hm (anyT_sound hcall ops.size _ (by simp) ops.size [] t g s a _ ⟨⟨by simp, fun i o ho e hee hb => ?_, fun i hi => .inr (mem_rest.2 ⟨hi, by simp⟩), by simp, by simp, by simp, fun k hk => ?_, fun k o hk => ?_⟩, ht, ⟨?_, fun t _ => lget_vr hr.ts t, by simp, hr.ds⟩, hr.hr.drawn _, hr.rd⟩ hl (fun x hx => hg x (sub x hx)) (fun e a w ⟨g2, e2, s2, hm2, r⟩ => hQ e a w ⟨g2, e2, s2, sub _ hm2, r⟩))
    · have := List.all_eq_true.1 he i (List.mem_range.2 (Array.getElem?_eq_some_iff.1 ho).1)
      rw [ho] at this
      have := Array.all_eq_true_iff_forall_mem.1 this e hee
      simpa [hb] using this
    · have := (mem_rest.1 hk).1
      simp [Array.getD_eq_getD_getElem?, this]
    · rw [Array.getD_eq_getD_getElem?] at hk
      exfalso
      by_cases h : k < ops.size
      · simp [h] at hk
      · simp [Array.getElem?_eq_none, Nat.not_lt.1 h] at hk
    · have := hr.ts.length
      simpa using this
  · cases hls
end
end Go.Vm

/- A small machine over an abstract heap: regions of which all orders come to the same, with blocks set aside. -/
set_option linter.unusedSimpArgs false
set_option linter.unusedVariables false
namespace Go.Vm
open Go.RowKit
theorem eeq_eq : ∀ l m : List MapEntry, eeq l m = true → l = m
  | [], m, h => by cases m <;> simp [eeq] at h; rfl
  | a :: l, m, h => by
    cases m with
    | nil => simp [eeq] at h
    | cons b m =>
      simp only [eeq, Bool.and_eq_true] at h
      obtain ⟨⟨⟨h1, h2⟩, h3⟩, h4⟩ := h
      obtain ⟨k, v, n⟩ := a
      obtain ⟨k', v', n'⟩ := b
      simp at h3
      have e1 : k = k' := veq_eq h1
      have e2 : v = v' := veq_eq h2
      rw [e1, e2, h3, eeq_eq l m h4]
theorem oeq_eq {a b : AObj} (h : oeq a b = true) : a = b := by
  unfold oeq at h
  split at h
  · rfl
  · simp only [Bool.and_eq_true] at h
    rw [veqL_eq h.1]
    have := h.2
    simp at this
    rw [this]
  · simp only [Bool.and_eq_true] at h
    rw [eeq_eq _ _ h.1]
    have := h.2
    simp at this
    rw [this]
  · rw [veqL_eq h]
  · have : _ = _ := eq_of_beq h
    rw [this]
  · cases h
theorem teq_eq : ∀ a b : Tr, teq a b = true → a = b
  | .nil, b, h => by cases b <;> simp [teq] at h; rfl
  | .node v l r, b, h => by
    cases b with
    | nil => simp [teq] at h
    | node w m s =>
      simp only [teq, Bool.and_eq_true] at h
      rw [oeq_eq h.1.1, teq_eq l m h.1.2, teq_eq r s h.2]
theorem stEq_eq {s s' : St} (h : stEq s s' = true) : s' = s := by
  obtain ⟨ts, ds, ⟨n, t⟩, rd⟩ := s
  obtain ⟨ts', ds', ⟨n', t'⟩, rd'⟩ := s'
  simp only [stEq, Bool.and_eq_true, List.isEmpty_iff, beq_iff_eq] at h
  obtain ⟨⟨⟨⟨⟨h1, h2⟩, h3⟩, h4⟩, h5⟩, h6⟩ := h
  rw [veqL_eq h1, h2, h3, h4, teq_eq _ _ h5, h6]
theorem AR.adopt {g : Gh} {r : Nat} {y : Option GB} {a a' : Addr} (h : AR g a a') (hn : a.block ≠ r) : AR (g.set r y) a a' :=
  ⟨by rw [List.length_set]; exact h.1, fun x hx => h.2 x (by rwa [List.getElem?_set_ne (Ne.symm hn)] at hx)⟩
theorem BR.adopt {g : Gh} {r : Nat} {y : Option GB} {a a' : Nat} (h : BR g a a') (hn : a ≠ r) : BR (g.set r y) a a' :=
  ⟨by rw [List.length_set]; exact h.1, fun x hx => h.2 x (by rwa [List.getElem?_set_ne (Ne.symm hn)] at hx)⟩
mutual
theorem VR.adopt {g : Gh} {r : Nat} {y : Option GB} {v v' : Value} (h : VR g v v') (hn : namesV r v = false) : VR (g.set r y) v v' := by
  cases h with
  | gr h => exact .gr h
  | ptr h => exact .ptr (h.adopt (by simpa [namesV] using hn))
  | sl h1 h => exact .sl h1 (h.adopt (by simpa [namesV] using hn))
  | osl h1 h h2 h3 =>
    have hb := (by simpa [namesV] using hn)
    exact .osl h1 (h.adopt hb) h2 (fun x hx => h3 x (by rwa [List.getElem?_set_ne (Ne.symm hb)] at hx))
  | map h => exact .map (h.adopt (by simpa [namesV] using hn))
  | yield h => exact .yield (h.adopt (by simp [namesV] at hn; exact hn.1))
  | func h1 h2 =>
    simp only [namesV, namesA, Bool.or_eq_false_iff] at hn
    exact .func (VRL.adopt h1 hn.1) (VRL.adopt h2 hn.2)
  | iface h1 => exact .iface (VR.adopt h1 (by simpa [namesV] using hn))
  | agg h1 => exact .agg (VRL.adopt h1 (by simpa [namesV, namesA] using hn))
  | tuple h1 => exact .tuple (VRL.adopt h1 (by simpa [namesV, namesA] using hn))
theorem VRL.adopt {g : Gh} {r : Nat} {y : Option GB} {l l' : List Value} (h : VRL g l l') (hn : namesL r l = false) : VRL (g.set r y) l l' := by
  cases h with
  | nil => exact .nil
  | cons h1 h2 =>
    simp only [namesL, Bool.or_eq_false_iff] at hn
    exact .cons (VR.adopt h1 hn.1) (VRL.adopt h2 hn.2)
end
theorem ERL.adopt {g : Gh} {r : Nat} {y : Option GB} : ∀ {l l' : List MapEntry}, ERL g l l' → (l.any fun e => namesV r e.key || namesV r e.val) = false → ERL (g.set r y) l l'
  | _, _, .nil, _ => .nil
  | _, _, .cons h t, hn => by
    simp only [List.any_cons, Bool.or_eq_false_iff] at hn
    exact .cons ⟨h.1.adopt hn.1.1, h.2.1.adopt hn.1.2, h.2.2⟩ (ERL.adopt t hn.2)
theorem MR.adopt {g : Gh} {r : Nat} {y : Option GB} {a b : Option Nat} (h : MR g a b) (hn : a ≠ some r) : MR (g.set r y) a b := by
  cases a <;> cases b <;> simp_all [MR]
  exact BR.adopt h hn
theorem OR.adopt {g : Gh} {r : Nat} {y : Option GB} {w : World} {x : GB} : ∀ {o : AObj}, OR g w x o → namesO r o = false → OR (g.set r y) w x o
  | .dead, _, _ => trivial
  | .ro _, ⟨c', el, fz, h1, h2, h3⟩, hn => ⟨c', el, fz, h1, h2, h3.adopt hn⟩
  | .cells _ _, ⟨c', el, fz, h1, h2, h3, h4, h5, h7, h6⟩, hn => ⟨c', el, fz, h1, h2, h3, h4, h5, h7, h6.adopt hn⟩
  | .map _ _, ⟨es', h1, h2, h3⟩, hn => ⟨es', h1, h2.adopt hn, h3⟩
  | .strIter _ _, h, _ => h
  | .mapIter _ _ _ _, ⟨m', h1, h2, h3⟩, hn => ⟨m', h1, h2.adopt (by simpa [namesO] using hn), h3⟩
  | .loop _ _ _ _ _ _, ⟨f, ts', d, h1, h2, h3⟩, hn => ⟨f, ts', d, h1, h2.adopt hn, h3⟩
  | .defs _, h, _ => h
theorem namesT_get {r : Nat} : ∀ (t : Tr) (i : Nat), namesT r t = false → namesO r (t.get i) = false
  | .nil, i, _ => rfl
  | .node o a b, i, h => by
    simp only [namesT, Bool.or_eq_false_iff] at h
    simp only [Tr.get]
    split
    · exact h.1.1
    · split
      · exact namesT_get a _ h.1.2
      · exact namesT_get b _ h.2
section
variable {P : Program} {ops : Array Oper} {B : Nat} {w0 w w' : World} {ro : Option Nat} {n : Nat} {g g' : Gh} {h : Heap}
theorem gc_get {h : Heap} : ∀ (l : List Nat) (t : Tr) (i : Nat), (l.foldl (fun t i => t.set i (h.get i)) t).get i = if i ∈ l then h.get i else t.get i
  | [], t, i => by simp
  | j :: l, t, i => by
    rw [List.foldl_cons, gc_get l, Tr.get_set]
    by_cases h1 : i ∈ l
    · rw [if_pos h1, if_pos (by simp [h1])]
    · rw [if_neg h1]
      by_cases h2 : i = j
      · subst h2
        simp
      · rw [if_neg h2, if_neg (by simp [h1, h2])]
theorem HR.gc (hr : HR g h B w0 w) (l : List Nat) : ∃ g', Le g g' ∧ HR g' (gcH h l) B w0 w := by
  have hget : ∀ i, (gcH h l).get i = if i ∈ l then h.get i else .dead := fun i => by
    show (l.foldl _ Tr.nil).get i = _
    rw [gc_get]
    rfl
  have hg' : ∀ i x, (g.mapIdx fun i x => if i ∈ l then x else none)[i]? = some (some x) → i ∈ l ∧ g[i]? = some (some x) := fun i x hx => by
    rw [List.getElem?_mapIdx] at hx
    obtain ⟨y, hy, he⟩ := Option.map_eq_some_iff.1 hx
    by_cases hm : i ∈ l
    · rw [if_pos hm] at he
      subst he
      exact ⟨hm, hy⟩
    · rw [if_neg hm] at he
      cases he
  have hle : Le g (g.mapIdx fun i x => if i ∈ l then x else none) := ⟨by simp, fun i _ x hx => (hg' i x hx).2⟩
  refine ⟨_, hle, ⟨by rw [List.length_mapIdx]; exact hr.len, fun i x hx => ?_, fun i j x y hB hx hy hb => hr.inj i j x y hB (hg' i x hx).2 (hg' j y hy).2 hb, fun i hi => ?_, hr.below, hr.base, ?_⟩⟩
  · obtain ⟨h1, h2⟩ := hg' i x hx
    rw [hget, if_pos h1]
    obtain ⟨a, b, c⟩ := hr.alive i x h2
    exact ⟨a, b, c.mono hle⟩
  · rw [hget]
    by_cases hm : i ∈ l
    · rw [if_pos hm]
      refine hr.dead i fun x hx => hi x ?_
      rw [List.getElem?_mapIdx, hx]
      simp [hm]
    · rw [if_neg hm]
  · rw [List.getElem?_mapIdx, hr.zero]
    simp
theorem HR.aside (hr : HR g h B w0 w) : HR (g ++ [none]) (h.push .dead) B w0 w where
  len := by simp [hr.len]
  alive := fun i x hx => by
    rw [Heap.get_push]
    have hi : i < g.length := by
      have := (List.getElem?_eq_some_iff.1 hx).1
      rw [List.length_append, List.length_singleton] at this
      apply Classical.byContradiction
      intro hno
      obtain rfl : i = g.length := by omega
      simp at hx
    rw [List.getElem?_append_left hi] at hx
    obtain ⟨a, b, c⟩ := hr.alive i x hx
    rw [if_neg (by rw [← hr.len]; omega)]
    exact ⟨a, b, c.mono (Le.push _ _)⟩
  inj := fun i j x y hB hx hy hb => by
    have sp : ∀ i x, (g ++ [none])[i]? = some (some x) → g[i]? = some (some x) := fun i x hx => by
      by_cases hi : i < g.length
      · rwa [List.getElem?_append_left hi] at hx
      · have := (List.getElem?_eq_some_iff.1 hx).1
        rw [List.length_append, List.length_singleton] at this
        obtain rfl : i = g.length := by omega
        simp at hx
    exact hr.inj i j x y hB (sp i x hx) (sp j y hy) hb
  dead := fun i hi => by
    rw [Heap.get_push]
    split
    · rfl
    · refine hr.dead i fun x hx => hi x ?_
      have hl := (List.getElem?_eq_some_iff.1 hx).1
      rw [List.getElem?_append_left hl]; exact hx
  below := hr.below
  base := hr.base
  zero := by
    have h0 := hr.zero
    have hl := (List.getElem?_eq_some_iff.1 h0).1
    rw [List.getElem?_append_left hl]; exact h0
theorem HR.asides : ∀ (k : Nat) {g : Gh} {h : Heap}, HR g h B w0 w → ∃ g', Le g g' ∧ HR g' (asideH k h) B w0 w
  | 0, g, h, hr => ⟨g, Le.refl _, hr⟩
  | k + 1, g, h, hr => by
    obtain ⟨g', h1, h2⟩ := HR.asides k hr.aside
    exact ⟨g', (Le.push g none).trans h1, h2⟩
theorem HR.takeIn (hr : HR g h B w0 w) {r : Nat} (hl : r < g.length) (h0 : 0 < r) (hn : namesT r h.t = false) {o : AObj} {o' : Obj} {es tot : Nat}
    (ho : OR (g.set r (some ⟨w.heap.size, 0, es, tot⟩)) { w with heap := w.heap.push o' } ⟨w.heap.size, 0, es, tot⟩ o) :
    HR (g.set r (some ⟨w.heap.size, 0, es, tot⟩)) (h.set r o) B w0 { w with heap := w.heap.push o' } where
  len := by rw [List.length_set]; exact hr.len
  alive := fun i x hx => by
    rw [Heap.get_set]
    by_cases e : i = r
    · subst e
      rw [List.getElem?_set_self hl] at hx
      cases hx
      rw [if_pos rfl]
      exact ⟨.inl (Nat.le_trans hr.base hr.below.size), by simp, ho⟩
    · rw [List.getElem?_set_ne (Ne.symm e)] at hx
      obtain ⟨a, b, c⟩ := hr.alive i x hx
      rw [if_neg e]
      exact ⟨a, by simp; omega, (c.adopt (namesT_get _ _ hn)).heap (by simp only [Array.getElem?_push]; rw [if_neg (by omega)])⟩
  inj := fun i j x y hB hx hy hb => by
    have sp : ∀ i x, (g.set r (some (⟨w.heap.size, 0, es, tot⟩ : GB)))[i]? = some (some x) → (i ≠ r ∧ g[i]? = some (some x) ∧ x.b < w.heap.size) ∨ (i = r ∧ x.b = w.heap.size) := fun i x hx => by
      by_cases e : i = r
      · subst e
        rw [List.getElem?_set_self hl] at hx
        cases hx
        exact .inr ⟨rfl, rfl⟩
      · rw [List.getElem?_set_ne (Ne.symm e)] at hx
        exact .inl ⟨e, hx, (hr.alive i x hx).2.1⟩
    rcases sp i x hx with ⟨h1, h2, h3⟩ | ⟨h1, h3⟩ <;> rcases sp j y hy with ⟨k1, k2, k3⟩ | ⟨k1, k3⟩
    · exact hr.inj i j x y hB h2 k2 hb
    · omega
    · omega
    · omega
  dead := fun i hi => by
    rw [Heap.get_set]
    by_cases e : i = r
    · subst e
      exact absurd (List.getElem?_set_self hl) (hi _)
    · rw [if_neg e]
      refine hr.dead i fun x hx => hi x ?_
      rw [List.getElem?_set_ne (Ne.symm e)]; exact hx
  below := hr.below.trans ⟨rfl, rfl, rfl, by simp, fun k hk => by
    have := Nat.le_trans hr.base hr.below.size
    simp only [Array.getElem?_push]; rw [if_neg (by omega)]⟩
  base := hr.base
  zero := by rw [List.getElem?_set_ne (by omega)]; exact hr.zero
theorem mergeG_spec {acc acc' : LevG} {x : List Nat × St} (h : mergeG acc x = some acc') : x ∈ acc' ∧ ∀ y ∈ acc, y ∈ acc' := by
  unfold mergeG at h
  split at h
  · rename_i p hp
    split at h
    · rename_i he
      cases h
      have h1 := List.find?_some hp
      have h1 : p.1 = x.1 := by simpa using h1
      have h2 := stEq_eq he
      have : x = p := Prod.ext h1.symm h2
      rw [this]
      exact ⟨List.mem_of_find?_eq_some hp, fun y hy => hy⟩
    · cases h
  · cases h
    exact ⟨by simp, fun y hy => by simp [hy]⟩
theorem succG_spec {call : Caller} {n0 : Nat} {rd : List AOper} {p : List Nat × St} : ∀ {gs : List GOp} {acc acc' : LevG}, succG P call n0 rd p gs acc = some acc' →
    (∀ y ∈ acc, y ∈ acc') ∧ ∀ x ∈ gs, readyG p.1 x = true → ∃ s, writeG P call n0 rd p.2 x = some s ∧ (insN x.i p.1, s) ∈ acc'
  | [], acc, acc', h => by cases h; exact ⟨fun y hy => hy, fun x hx => by cases hx⟩
  | x :: gs, acc, acc', h => by
    simp only [succG] at h
    split at h
    · rename_i hr
      split at h
      · rename_i s hs
        split at h
        · rename_i acc1 ha
          obtain ⟨m1, m2⟩ := mergeG_spec ha
          obtain ⟨s1, s2⟩ := succG_spec h
          refine ⟨fun y hy => s1 y (m2 y hy), fun z hz hzr => ?_⟩
          rcases List.mem_cons.1 hz with rfl | hz
          · exact ⟨s, hs, s1 _ m1⟩
          · exact s2 z hz hzr
        · cases h
      · cases h
    · rename_i hr
      obtain ⟨s1, s2⟩ := succG_spec h
      refine ⟨s1, fun z hz hzr => ?_⟩
      rcases List.mem_cons.1 hz with rfl | hz
      · exact absurd hzr hr
      · exact s2 z hz hzr
theorem nextG_spec {call : Caller} {n0 : Nat} {rd : List AOper} {wr : List GOp} : ∀ {L acc acc' : LevG}, nextG P call n0 rd wr L acc = some acc' →
    (∀ y ∈ acc, y ∈ acc') ∧ ∀ p ∈ L, ∀ x ∈ wr, readyG p.1 x = true → ∃ s, writeG P call n0 rd p.2 x = some s ∧ (insN x.i p.1, s) ∈ acc'
  | [], acc, acc', h => by cases h; exact ⟨fun y hy => hy, fun p hp => by cases hp⟩
  | p :: L, acc, acc', h => by
    simp only [nextG] at h
    split at h
    · rename_i acc1 ha
      obtain ⟨m1, m2⟩ := succG_spec ha
      obtain ⟨s1, s2⟩ := nextG_spec h
      refine ⟨fun y hy => s1 y (m1 y hy), fun q hq x hx hxr => ?_⟩
      rcases List.mem_cons.1 hq with rfl | hq
      · obtain ⟨s, e1, e2⟩ := m2 x hx hxr
        exact ⟨s, e1, s1 _ e2⟩
      · exact s2 q hq x hx hxr
    · cases h
theorem mem_insN {i j : Nat} : ∀ {l : List Nat}, j ∈ insN i l ↔ j = i ∨ j ∈ l
  | [] => by simp [insN]
  | k :: l => by
    simp only [insN]
    split
    · simp
    · simp only [List.mem_cons, mem_insN]
      constructor
      · rintro (h | h | h) <;> simp [h]
      · rintro (h | h | h) <;> simp [h]
theorem len_insN {i : Nat} : ∀ {l : List Nat}, (insN i l).length = l.length + 1
  | [] => rfl
  | k :: l => by
    simp only [insN]
    split
    · rfl
    · simp [len_insN]
theorem nodup_insN {i : Nat} : ∀ {l : List Nat}, l.Nodup → i ∉ l → (insN i l).Nodup
  | [], _, _ => by simp [insN]
  | k :: l, h, hi => by
    simp only [insN]
    split
    · exact List.nodup_cons.2 ⟨hi, h⟩
    · rw [List.nodup_cons] at h ⊢
      simp only [List.mem_cons, not_or] at hi
      exact ⟨fun q => (mem_insN.1 q).elim (fun e => hi.1 e.symm) h.1, nodup_insN h.2 hi.2⟩
theorem nodup_len {l m : List Nat} : l.Nodup → (∀ a ∈ l, a ∈ m) → l.length ≤ m.length := by
  induction l generalizing m with
  | nil => intro _ _; simp
  | cons a l ih =>
    intro hn hs
    rw [List.nodup_cons] at hn
    have ha := hs a (by simp)
    have := ih (m := m.erase a) hn.2 fun b hb => (List.mem_erase_of_ne (fun e => hn.1 (by rw [← e]; exact hb))).2 (hs b (by simp [hb]))
    rw [List.length_erase_of_mem ha] at this
    have hp := List.length_pos_of_mem ha
    simp only [List.length_cons]
    omega
structure ConfG (ro : Option Nat) (P : Program) (ops : Array Oper) (B : Nat) (w0 : World) (done : List Nat) (listed : Array Bool) (g : Gh) (s : St) (a : Act) (w : World) : Prop where
  facts : Facts P ops done (restD ops done) listed
  held : Held P ops done listed g s a
  hr : HR g s.h B w0 w
  rd : MR g s.rd ro
variable {listed : Array Bool} {done done' : List Nat} {s : St} {a : Act} {i : Nat} {o : Oper} {ao : AOper}
theorem rest_congr (h : ∀ x, x ∈ done ↔ x ∈ done') : restD ops done = restD ops done' := by
  unfold restD
  refine List.filter_congr fun x _ => ?_
  have : done.contains x = done'.contains x := by
    rw [Bool.eq_iff_iff]
    simpa using h x
  rw [this]
theorem ConfG.congr (C : ConfG ro P ops B w0 done listed g s a w) (h : ∀ x, x ∈ done ↔ x ∈ done') : ConfG ro P ops B w0 done' listed g s a w := by
  have hr := rest_congr (ops := ops) h
  have F := C.facts
  have H := C.held
  rw [hr] at F
  exact ⟨⟨F.size, F.edges, fun i hi => (F.cover i hi).imp_left (h i).1, fun d hd => F.fwd d ((h d).2 hd), fun d hd => F.comp d ((h d).2 hd), fun d hd => F.wr d ((h d).2 hd), F.un, F.down⟩,
    ⟨H.len, fun t ht => H.slots t fun d hd => ht d ((h d).1 hd), fun d hd => H.stab d ((h d).2 hd), H.ds⟩, C.hr, C.rd⟩
theorem ConfG.step {v : Value} (C : ConfG ro P ops B w0 done listed g s a w) (hi : i ∈ restD ops done) (hn : ao.op.noSel = true) (hp : ∀ j, j < ops.size → j ∉ done → j ≠ i → ancOf (Region.before ops) j i = false)
    (hw : isW P ops (Region.before ops) i = false) (ho : ops[i]? = some o) (hc : compOper P ops o = some ao)
    (hst : StableP P (putT s.ts ao.dst v) s.h ao) : ConfG ro P ops B w0 (i :: done) listed g { s with ts := putT s.ts ao.dst v } a w := by
  have hin : i ∉ done := (mem_rest.1 hi).2
  have hun : listed.getD i true = false := C.facts.un i hi
  have hds := dst_dstD ho hc
  refine ⟨facts_cons C.facts hi ho hc hn hp C.facts.size (fun d hd hdw => ?_) (fun k hk => C.facts.un k (mem_rest.2 ⟨(mem_rest.1 hk).1, fun h => (mem_rest.1 hk).2 (List.mem_cons_of_mem _ h)⟩)) C.facts.down, ⟨?_, fun t ht => ?_, fun d hd hdu o' ao' ho' hc' => ?_, C.held.ds⟩, C.hr, C.rd⟩
  · rcases List.mem_cons.1 hd with rfl | hd
    · rw [hw] at hdw; cases hdw
    · exact C.facts.wr d hd hdw
  · rw [C.held.len, putT_length]
  · have hne : ao.dst ≠ some t := by rw [← hds]; exact ht i (by simp) hun
    rw [lget_putT_ne hne]
    exact C.held.slots t fun d hd hu => ht d (by simp [hd]) hu
  · rcases List.mem_cons.1 hd with rfl | hd
    · rw [ho] at ho'; cases ho'
      rw [hc] at hc'; cases hc'
      exact hst
    · have hdi : d ≠ i := fun e => hin (e ▸ hd)
      obtain ⟨_, _, _, hc2, hn2⟩ := C.facts.comp d hd
      have hn : ao'.op.noSel = true := by
        rename_i o2 ao2 ho2
        rw [ho2] at ho'; cases ho'
        rw [hc2] at hc'; cases hc'
        exact hn2
      have hdl := (Array.getElem?_eq_some_iff.1 ho').1
      have hno : ∀ t, ao.dst = some t → t ∉ useD P ops d ∧ dstD ops d ≠ some t := fun t ht => by
        have h5 := ((nonW hw).2 t (by rw [hds]; exact ht)).2 d hdl hdi
        have h6 := C.facts.fwd d hd i hi
        refine ⟨fun hm => ?_, fun hm => ?_⟩
        · rw [h5 (.inl hm)] at h6; cases h6
        · rw [h5 (.inr hm)] at h6; cases h6
      refine (C.held.stab d hd hdu o' ao' ho' hc').congr ho' hc' hn (putT_length _ _ _) (fun t ht => lget_putT_ne fun e => (hno t e).1 ht) (fun t ht => lget_putT_ne fun e => (hno t e).2 ?_)
      rw [dst_dstD ho' hc']; exact ht
theorem ConfG.late (C : ConfG ro P ops B w0 done listed g s a w) (hi : i ∈ Region.ready .any ops listed) (hd : i ∈ done) (ho : ops[i]? = some o) (hl : Le g g') (hr : HR g' s.h B w0 w') {v v' : Value} (hv : VR g' v v')
    (hval : ∀ t, o.dst = some t → t < s.ts.length → lget s.ts t = v) : ConfG ro P ops B w0 done (listed.setIfInBounds i true) g' s (a.put o.dst v') w' := by
  have hlt : i < listed.size := by rw [C.facts.size]; exact (Array.getElem?_eq_some_iff.1 ho).1
  refine ⟨⟨by simp [C.facts.size], C.facts.edges, C.facts.cover, C.facts.fwd, C.facts.comp, fun d hd hw => wr_set (C.facts.wr d hd hw), fun k hk => ?_, down_set C.facts hi⟩,
    ⟨by rw [size_put, C.held.len], fun t ht => ?_, fun d hd hu => C.held.stab d hd (getD_set_false hu).2, by rw [put_defers]; exact C.held.ds.mono hl⟩, hr, C.rd.mono hl⟩
  · have hne : i ≠ k := fun e => (mem_rest.1 hk).2 (e ▸ hd)
    rw [getD_set_ne true hne]
    exact C.facts.un k hk
  · by_cases hdt : o.dst = some t
    · rw [hdt]
      by_cases hb : t < s.ts.length
      · rw [getD_put_eq (by rw [C.held.len]; exact hb), hval t hdt hb]
        exact hv
      · rw [lget_over hb, List.getD_eq_getElem?_getD, List.getElem?_eq_none (by rw [Array.length_toList, size_put, C.held.len]; omega)]
        exact .gr ground_undef
    · rw [getD_put_ne hdt]
      refine (C.held.slots t fun d hd hu => ?_).mono hl
      by_cases hdi : d = i
      · subst hdi
        simp only [dstD, ho, Option.bind_some]
        exact hdt
      · exact ht d hd (by rw [getD_set_ne true (Ne.symm hdi)]; exact hu)
theorem ConfG.front (C : ConfG ro P ops B w0 done listed g s a w) (hi : i ∈ Region.ready .any ops listed) (hir : i ∈ restD ops done) (ho : ops[i]? = some o) (hc : compOper P ops o = some ao) (hn : ao.op.noSel = true) (hp : ∀ j, j < ops.size → j ∉ done → j ≠ i → ancOf (Region.before ops) j i = false)
    (hup : ∀ t, VR g (lget s.ts t) (a.tmps.toList.getD t undef) → VR g' (lget s.ts t) (a.tmps.toList.getD t undef)) (hud : DRL g' s.ds a.defers) (hum : MR g' s.rd ro) {h' : Heap} (hr : HR g' h' B w0 w') {v v' : Value} (hv : VR g' v v')
    (hst : ∀ d ∈ done, listed.getD d true = false → ∀ o ao', ops[d]? = some o → compOper P ops o = some ao' → StableP P (putT s.ts ao.dst v) h' ao') :
    ConfG ro P ops B w0 (i :: done) (listed.setIfInBounds i true) g' { s with ts := putT s.ts ao.dst v, h := h' } (a.put o.dst v') w' := by
  have hlt : i < listed.size := by rw [C.facts.size]; exact (Array.getElem?_eq_some_iff.1 ho).1
  have hdst := (compOper_parts hc).2.2
  refine ⟨facts_cons C.facts hir ho hc hn hp (by simp [C.facts.size]) (fun d hd hw => ?_) (fun k hk => ?_) (down_set C.facts hi),
    ⟨by simp only [size_put, C.held.len, putT_length], fun t ht => ?_, fun d hd hu o' ao' ho' hc' => ?_, by rw [put_defers]; exact hud⟩, hr, hum⟩
  · rcases List.mem_cons.1 hd with rfl | hd
    · exact getD_set_self hlt true
    · exact wr_set (C.facts.wr d hd hw)
  · obtain ⟨hk1, hk2⟩ := mem_rest.1 hk
    simp only [List.mem_cons, not_or] at hk2
    rw [getD_set_ne true (Ne.symm hk2.1)]
    exact C.facts.un k (mem_rest.2 ⟨hk1, hk2.2⟩)
  · simp only at ht ⊢
    by_cases hdt : o.dst = some t
    · rw [hdst, hdt]
      by_cases hb : t < s.ts.length
      · rw [getD_put_eq (by rw [C.held.len]; exact hb), lget_putT_eq hb]
        exact hv
      · rw [lget_over (by rw [putT_length]; exact hb), List.getD_eq_getElem?_getD, List.getElem?_eq_none (by rw [Array.length_toList, size_put, C.held.len]; omega)]
        exact .gr ground_undef
    · rw [getD_put_ne hdt, lget_putT_ne (by rw [hdst]; exact hdt)]
      refine hup t (C.held.slots t fun d hd hu => ?_)
      have hdi : i ≠ d := fun e => (mem_rest.1 hir).2 (e ▸ hd)
      exact ht d (by simp [hd]) (by rw [getD_set_ne true hdi]; exact hu)
  · obtain ⟨hdi, hu⟩ := getD_set_false hu
    rcases List.mem_cons.1 hd with rfl | hd
    · exact absurd rfl hdi
    · exact hst d hd hu o' ao' ho' hc'
theorem ConfG.exec {call : Caller} (hcall : CallOK P call) (C : ConfG ro P ops B w0 done listed g s a w) (hi : i ∈ Region.ready .any ops listed) (ho : ops[i]? = some o) (hc : compOper P ops o = some ao) (hn : ao.op.noSel = true)
    {K : Act → World → Prop} {Q : Exit → Act → World → Prop} (hg : wantedT s.ts ao.guard = true → ∀ co ∈ xo P call s.ts s.h ao.op, co ≠ .bad) (how : wantedT s.ts ao.guard = true → Owes B w0 g o a K Q (xo P call s.ts s.h ao.op))
    (hno : wantedT s.ts ao.guard = false → K (a.put o.dst undef) w) : wpOpIn (FR ro) n P ops Q i K a w := by
  have hts := mask_vr (g := g) (U := useD P ops i) C.held.len fun t ht => C.held.slots t fun d hd hu => C.facts.use hi hd hu ht
  have hw : Region.wanted o (yielded ops a.tmps) = wantedT s.ts ao.guard := by
    rw [← wanted_mask (U := useD P ops i) fun j want t hg ht => guard_use ho hg ht, wanted_eq hts hc]
    exact wantedT_congr ho hc fun t ht => lget_mask ht
  unfold wpOpIn
  simp only [ho, hw]
  by_cases hwt : wantedT s.ts ao.guard = true
  · rw [if_pos hwt]
    obtain ⟨h1, h2, h3⟩ := compOper_parts hc
    have hxo : xo P call (maskL (useD P ops i) s.ts) s.h ao.op = xo P call s.ts s.h ao.op := xo_congr hn fun x hx => eval_mask fun t ht => use_opds ho hc hx ht
    refine (xo_wp (a1 := maskA (useD P ops i) a) (ts := maskL (useD P ops i) s.ts) ?_ hcall h1 h2 C.hr hts (by rw [hxo]; exact hg hwt) (by rw [hxo]; exact how hwt))
    exact execOp_congr o (comp_noselect h1) fun x hx => (evalA_mask fun t ht => use_op ho (by simpa using hx) ht).symm
  · rw [if_neg hwt]
    exact ⟨fun _ _ => trivial, hno (by simpa using hwt)⟩
theorem alloc_run {el : TypeId} {z : List Value} {e' : Operand → Value} (ho : o.op = .alloc el) (hz : zeroCellsT P el = some z) : (execOp e' o).run P w = .ok (.value (.pointer (some ⟨w.heap.size, 0, none⟩))) { w with heap := w.heap.push (.cells ⟨z ++ []⟩ el (0, 0)) } := by
  obtain ⟨hg, i, v, hi, hv, hvz, hl⟩ := zeroCellsT_some hz
  simp [execOp, ho, Instr.alloc, run_zero hv, newVar, newRow, ← hvz]
theorem comp_alloc {el el' : TypeId} {z : List Value} (h : compOp P o = some (.alloc el' z)) (ho : o.op = .alloc el) : zeroCellsT P el = some z := by
  unfold compOp at h
  simp only [show (slim o).op = o.op from rfl] at h
  rw [ho] at h
  simp only [Option.map_eq_some_iff] at h
  obtain ⟨z', h1, h2⟩ := h
  cases h2
  exact h1
theorem namesL_get {r : Nat} : ∀ (l : List Value) (t : Nat), namesL r l = false → namesV r (lget l t) = false
  | [], t, _ => rfl
  | v :: l, 0, h => by
    simp only [namesL, Bool.or_eq_false_iff] at h
    simpa [lget] using h.1
  | v :: l, t + 1, h => by
    simp only [namesL, Bool.or_eq_false_iff] at h
    simpa [lget] using namesL_get l t h.2
structure GOK (P : Program) (ops : Array Oper) (rs ws : List Nat) (rd : List AOper) (wr : List GOp) : Prop where
  edges : edgesOK ops = true
  mrs : ∀ i, i ∈ rs ↔ i < ops.size ∧ isW P ops (Region.before ops) i = false
  mws : ∀ i, i ∈ ws ↔ i < ops.size ∧ isW P ops (Region.before ops) i = true
  wnd : ws.Nodup
  rasc : rs.Pairwise (· < ·)
  comp : ∀ i, i < ops.size → ∃ o ao, ops[i]? = some o ∧ compOper P ops o = some ao ∧ ao.op.noSel = true
  rcl : ∀ i ∈ rs, ∀ j, j < ops.size → ancOf (Region.before ops) j i = true → j ∈ rs ∧ j < i
  crd : compList (fun i => (ops[i]?).bind (compOper P ops)) rs = some rd
  cwr : ∀ i ∈ ws, ∃ x ∈ wr, x.i = i ∧ (∃ o, ops[i]? = some o ∧ compOper P ops o = some x.op ∧ (x.res ≠ none → ∃ el, o.op = .alloc el)) ∧ x.wait = ws.filter fun j => ancOf (Region.before ops) j i
  wlen : wr.length = ws.length
theorem compList_len {α β : Type} {f : α → Option β} : ∀ {l : List α} {m : List β}, compList f l = some m → m.length = l.length
  | [], m, h => by
    simp [compList] at h
    subst h
    rfl
  | a :: l, m, h => by
    simp only [compList] at h
    split at h
    · rename_i b m' hb hm
      cases h
      simp [compList_len hm]
    · cases h
theorem compG_ok {rd : List AOper} {wr : List GOp} (h : compG P ops = some (rd, wr)) : ∃ rs ws, GOK P ops rs ws rd wr := by
  unfold compG at h
  simp only at h
  split at h
  · rename_i hk
    simp only [Bool.and_eq_true] at hk
    obtain ⟨⟨h1, h2⟩, h3⟩ := hk
    split at h
    · rename_i r w hr hw
      cases h
      refine ⟨_, _, h1, fun i => by simp, fun i => by simp, List.Pairwise.filter _ List.nodup_range, List.Pairwise.filter _ List.pairwise_lt_range, fun i hi => ?_, fun i hi j hj ha => ?_, hr, fun i hi => ?_, compList_len hw⟩
      · have := List.all_eq_true.1 h2 i (List.mem_range.2 hi)
        cases ho : ops[i]? with
        | none => rw [ho] at this; simp at this
        | some o =>
          cases hc : compOper P ops o with
          | none => rw [ho] at this; simp [hc] at this
          | some ao =>
            rw [ho] at this
            simp only [Option.bind_some, hc] at this
            exact ⟨o, ao, rfl, hc, this⟩
      · have := List.all_eq_true.1 (List.all_eq_true.1 h3 i hi) j (List.mem_range.2 hj)
        rw [ha] at this
        simpa using this
      · obtain ⟨x, hx, hxi⟩ := compList_mem hw i hi
        obtain ⟨ao, ha, rfl⟩ := Option.map_eq_some_iff.1 hxi
        obtain ⟨o, ho, hc⟩ := Option.bind_eq_some_iff.1 ha
        refine ⟨_, hx, rfl, ⟨o, ho, hc, fun hres => ?_⟩, rfl⟩
        simp only at hres
        split at hres
        · rename_i hal
          simp only [List.contains_eq_mem, List.mem_filter, decide_eq_true_eq] at hal
          have hal := hal.2
          rw [ho] at hal
          simp only [Option.map_some] at hal
          split at hal
          · rename_i el hel
            simp only [Option.some.injEq, Prod.mk.injEq] at hel
            exact ⟨el, hel.1⟩
          · cases hal
        · exact absurd rfl hres
    · cases h
  · cases h
theorem reads_conf {rs ws : List Nat} {rd : List AOper} {wr : List GOp} (G : GOK P ops rs ws rd wr) : ∀ (l : List Nat) (m : List AOper) (pre : List Nat) (s s1 : St), rs = pre ++ l → compList (fun i => (ops[i]?).bind (compOper P ops)) l = some m → readsG P m s = some s1 →
    ConfG ro P ops B w0 pre listed g s a w → ConfG ro P ops B w0 rs listed g s1 a w
  | [], m, pre, s, s1, he, hm, hs, C => by
    simp [compList] at hm
    subst hm
    cases hs
    rw [he, List.append_nil]
    exact C
  | i :: l, m, pre, s, s1, he, hm, hs, C => by
    simp only [compList] at hm
    split at hm
    · rename_i ao m' hb hm'
      cases hm
      obtain ⟨o, ho, hc⟩ := Option.bind_eq_some_iff.1 hb
      have hmem : i ∈ rs := by rw [he]; simp
      obtain ⟨hlt, hw⟩ := (G.mrs i).1 hmem
      obtain ⟨o', ao', ho', hc', hn⟩ := G.comp i hlt
      rw [ho] at ho'; cases ho'
      rw [hc] at hc'; cases hc'
      have hasc := G.rasc
      rw [he, List.pairwise_append] at hasc
      have hpre : i ∉ pre := fun q => by
        have := hasc.2.2 i q i (by simp)
        omega
      have hir : i ∈ restD ops pre := mem_rest.2 ⟨hlt, hpre⟩
      have hp : ∀ j, j < ops.size → j ∉ pre → j ≠ i → ancOf (Region.before ops) j i = false := fun j hj hjp hji => by
        cases ha : ancOf (Region.before ops) j i with
        | false => rfl
        | true =>
          obtain ⟨q1, q2⟩ := G.rcl i hmem j hj ha
          rw [he] at q1
          rcases List.mem_append.1 q1 with q | q
          · exact absurd q hjp
          · rcases List.mem_cons.1 q with q | q
            · exact absurd q hji
            · have := (List.pairwise_cons.1 hasc.2.1).1 j q
              omega
      have hk := kind_of ho hc (nonW hw).1
      have go : ∀ {s2 : St}, readsG P m' s2 = some s1 → ConfG ro P ops B w0 (i :: pre) listed g s2 a w → ConfG ro P ops B w0 rs listed g s1 a w := fun h1 h2 =>
        reads_conf G l m' (pre ++ [i]) _ s1 (by rw [he, List.append_assoc]; rfl) hm' h1 (h2.congr fun x => by simp [or_comm])
      simp only [readsG] at hs
      by_cases hwt : wantedT s.ts ao.guard = true
      · rw [if_pos hwt] at hs
        split at hs
        · rename_i v h' hxo
          have hh := still_xop hk hxo
          subst hh
          have hst : StableP P (putT s.ts ao.dst v) s.h ao := by
            refine .inl ⟨by rw [wantedT_congr ho hc (own_use hw ho hc)]; exact hwt, v, ?_, fun d hd hlt => ?_⟩
            · rw [xop_congr hn (eval_congr ho hc (own_use hw ho hc))]; exact hxo
            · rw [hd] at hlt ⊢
              rw [putT_length] at hlt
              exact lget_putT_eq hlt
          exact go hs (C.step hir hn hp hw ho hc hst)
        · cases hs
      · rw [if_neg hwt] at hs
        have hst : StableP P (putT s.ts ao.dst undef) s.h ao := by
          refine .inr ⟨by rw [wantedT_congr ho hc (own_use hw ho hc)]; simpa using hwt, fun d hd => ?_⟩
          rw [hd]
          by_cases hlt : d < s.ts.length
          · exact lget_putT_eq hlt
          · exact lget_over (by rw [putT_length]; exact hlt)
        exact go hs (C.step hir hn hp hw ho hc hst)
    · cases hm
theorem anyG_sound {call : Caller} (hcall : CallOK P call) {rs ws : List Nat} {rd : List AOper} {wr : List GOp} (G : GOK P ops rs ws rd wr) {gs : Gh} {n0 : Nat} (hn0 : gs.length ≤ n0) (h00 : 0 < n0) {lf : List Nat} {sf : St} {Q : Exit → Act → World → Prop}
    (hQ : ∀ g a w, Le gs g → HR g sf.h B w0 w → VRL g sf.ts a.tmps.toList → DRL g sf.ds a.defers → MR g sf.rd ro → Q .normal a w) : ∀ (fuel : Nat) (listed : Array Bool), listed.toList.count false ≤ fuel →
    ∀ (k : Nat) (L : LevG) (l : List Nat) (g : Gh) (s : St) (a : Act) (w : World), levelsG P call n0 rd wr k L = some [(lf, sf)] → (l, s) ∈ L → k + l.length = ws.length → l.Nodup → (∀ i ∈ l, i ∈ ws) →
      ConfG ro P ops B w0 (l ++ rs) listed g s a w → Le gs g → wpAnyIn (FR ro) n P .any ops Q fuel listed a w := by
  have fin : ∀ (listed : Array Bool) (k : Nat) (L : LevG) (l : List Nat) (g : Gh) (s : St) (a : Act) (w : World), levelsG P call n0 rd wr k L = some [(lf, sf)] → (l, s) ∈ L → k + l.length = ws.length → l.Nodup → (∀ i ∈ l, i ∈ ws) →
      ConfG ro P ops B w0 (l ++ rs) listed g s a w → Le gs g → Region.ready .any ops listed = [] → Q .normal a w := by
    intro listed k L l g s a w hL hm hk hnd hsub C hl hr
    have hall := fun i hi => C.facts.all hr (i + 1) i (by omega) hi
    have hpost : ∀ j, j < ops.size → j ∈ l ++ rs := fun j hj => by
      apply Classical.byContradiction
      intro h
      exact getD_absurd (C.facts.un j (mem_rest.2 ⟨hj, h⟩)) (hall j hj)
    have hws : ws.length ≤ l.length := nodup_len G.wnd fun j hj => by
      obtain ⟨h1, h2⟩ := (G.mws j).1 hj
      rcases List.mem_append.1 (hpost j h1) with q | q
      · exact q
      · have := ((G.mrs j).1 q).2
        rw [h2] at this
        cases this
    obtain rfl : k = 0 := by omega
    simp only [levelsG, Option.some.injEq] at hL
    subst hL
    rw [List.mem_singleton] at hm
    cases hm
    refine hQ g a w hl C.hr (slots_all C.held fun d hd => ?_) C.held.ds C.rd
    obtain ⟨o, _, ho, _⟩ := C.facts.comp d hd
    cases h : listed.getD d true with
    | true => rfl
    | false => exact (getD_absurd h (hall d (Array.getElem?_eq_some_iff.1 ho).1)).elim
  intro fuel
  induction fuel with
  | zero =>
    intro listed hcount k L l g s a w hL hm hk hnd hsub C hl
    have hr : Region.ready .any ops listed = [] := by
      cases h : Region.ready .any ops listed with
      | nil => rfl
      | cons i l =>
        have hm : i ∈ Region.ready .any ops listed := by rw [h]; simp
        obtain ⟨h0, o, ho, _⟩ := mem_ready.1 hm
        have hlt : i < listed.size := by rw [C.facts.size]; exact (Array.getElem?_eq_some_iff.1 ho).1
        have : listed.toList[i]? = some false := by
          rw [Array.getD_eq_getD_getElem?, Array.getElem?_eq_getElem hlt] at h0
          simp at h0
          simp [hlt, h0]
        have := count_pos this
        omega
    exact ⟨hr, fin _ _ _ _ _ _ _ _ hL hm hk hnd hsub C hl hr⟩
  | succ fuel ih =>
    intro listed hcount k L l g s a w hL hm hk hnd hsub C hl
    refine ⟨fun hr => fin _ _ _ _ _ _ _ _ hL hm hk hnd hsub C hl hr, fun i hi => ?_⟩
    obtain ⟨h0, o, ho, hall⟩ := mem_ready.1 hi
    have hlt : i < listed.size := by rw [C.facts.size]; exact (Array.getElem?_eq_some_iff.1 ho).1
    have hcount' : (listed.setIfInBounds i true).toList.count false ≤ fuel := by
      have : listed.toList[i]? = some false := by
        rw [Array.getD_eq_getD_getElem?, Array.getElem?_eq_getElem hlt] at h0
        simp at h0
        simp [hlt, h0]
      have := count_set this
      simp only [Array.toList_setIfInBounds]
      omega
    have hio : i < ops.size := (Array.getElem?_eq_some_iff.1 ho).1
    rcases C.facts.cover i hio with hd | hp
    · -- taken on trust before
      obtain ⟨o', ao, ho', hc, hn⟩ := C.facts.comp i hd
      rw [ho] at ho'; cases ho'
      have hk2 := kind_of ho hc (nonW (P := P) (ops := ops) (d := i) (by
        cases h : isW P ops (Region.before ops) i with
        | false => rfl
        | true => rw [C.facts.wr i hd h] at h0; cases h0)).1
      have hdst := (compOper_parts hc).2.2
      rcases C.held.stab i hd h0 o ao ho hc with ⟨hwt, v, hxo, hval⟩ | ⟨hwt, hval⟩
      · have hxo' : xo P call s.ts s.h ao.op = [.ret v s.h] := by rw [xo_read hk2, hxo]
        refine C.exec hcall hi ho hc hn (fun _ co hm => ?_) (fun _ => ⟨fun v1 h1 hm2 g1 v' w' hle hr' hv => ?_, fun c h1 hm => ?_⟩) (fun hno => by rw [hno] at hwt; cases hwt)
        · rw [hxo'] at hm; simp at hm; rw [hm]; simp
        · rw [hxo'] at hm2; simp at hm2
          obtain ⟨rfl, rfl⟩ := hm2
          exact ih _ hcount' k L l g1 s _ w' hL hm hk hnd hsub (C.late hi hd ho hle hr' hv (fun t ht => hval t (by rw [hdst]; exact ht))) (hl.trans hle)
        · rw [hxo'] at hm; simp at hm
      · refine C.exec hcall hi ho hc hn (fun h => by rw [h] at hwt; cases hwt) (fun h => by rw [h] at hwt; cases hwt) (fun _ => ?_)
        exact ih _ hcount' k L l g s _ w hL hm hk hnd hsub (C.late hi hd ho (Le.refl _) C.hr (.gr ground_undef) (fun t ht _ => hval t (by rw [hdst]; exact ht))) hl
    · -- one that writes
      have hnd2 := (mem_rest.1 hp).2
      rw [List.mem_append, not_or] at hnd2
      have hw : isW P ops (Region.before ops) i = true := by
        cases h : isW P ops (Region.before ops) i with
        | true => rfl
        | false => exact absurd ((G.mrs i).2 ⟨hio, h⟩) hnd2.2
      have hiw := (G.mws i).2 ⟨hio, hw⟩
      obtain ⟨x, hx, rfl, ⟨o', ho', hc, hres⟩, hwait⟩ := G.cwr i hiw
      rw [ho] at ho'; cases ho'
      obtain ⟨o', ao', ho', hc', hn⟩ := G.comp x.i hio
      rw [ho] at ho'; cases ho'
      rw [hc] at hc'; cases hc'
      have hanc : ∀ j, j < ops.size → ancOf (Region.before ops) j x.i = true → j ∈ l ++ rs := fun j hj ha => by
        apply Classical.byContradiction
        intro h
        exact getD_absurd (C.facts.un j (mem_rest.2 ⟨hj, h⟩)) (C.facts.ready hi ha)
      have hpf : ∀ j, j < ops.size → j ∉ l ++ rs → j ≠ x.i → ancOf (Region.before ops) j x.i = false := fun j hj hjd _ => by
        cases ha : ancOf (Region.before ops) j x.i with
        | false => rfl
        | true => exact absurd (hanc j hj ha) hjd
      have hrdy : readyG l x = true := by
        unfold readyG
        rw [hwait]
        simp only [Bool.and_eq_true, Bool.not_eq_true', List.all_eq_true, List.mem_filter]
        refine ⟨by simpa using hnd2.1, fun j ⟨hj1, hj2⟩ => ?_⟩
        obtain ⟨q1, q2⟩ := (G.mws j).1 hj1
        rcases List.mem_append.1 (hanc j q1 hj2) with q | q
        · simpa using q
        · rw [((G.mrs j).1 q).2] at q2
          cases q2
      have hlen : l.length < ws.length := by
        have := nodup_len (l := x.i :: l) (m := ws) (List.nodup_cons.2 ⟨hnd2.1, hnd⟩) (fun j hj => by
          rcases List.mem_cons.1 hj with rfl | hj
          · exact hiw
          · exact hsub j hj)
        simp only [List.length_cons] at this
        omega
      cases k with
      | zero => omega
      | succ k =>
      simp only [levelsG] at hL
      split at hL
      · rename_i L' hnx
        obtain ⟨s', hs', hmem'⟩ := (nextG_spec hnx).2 _ hm x hx hrdy
        simp only at hs' hmem'
        have next : ∀ {g' : Gh} {a' : Act} {w' : World}, ConfG ro P ops B w0 (x.i :: (l ++ rs)) (listed.setIfInBounds x.i true) g' s' a' w' → Le gs g' → wpAnyIn (FR ro) n P .any ops Q fuel (listed.setIfInBounds x.i true) a' w' := fun C' hl' =>
          ih _ hcount' k L' _ _ s' _ _ hL hmem' (by rw [len_insN]; omega) (nodup_insN hnd hnd2.1) (fun j hj => (mem_insN.1 hj).elim (fun e => e ▸ hiw) (hsub j)) (C'.congr fun j => by simp only [List.mem_cons, List.mem_append, mem_insN]; exact or_assoc.symm) hl'
        have pend : ∀ {v : Value} {h' : Heap}, rd.all (fun o => stable P (putT s.ts x.op.dst v) h' (o.dst, o.op, o.guard)) = true →
            ∀ d ∈ l ++ rs, listed.getD d true = false → ∀ o ao', ops[d]? = some o → compOper P ops o = some ao' → StableP P (putT s.ts x.op.dst v) h' ao' := by
          intro v h' hchk d hd hu o2 ao2 ho2 hc2
          have hdw : isW P ops (Region.before ops) d = false := by
            cases h : isW P ops (Region.before ops) d with
            | false => rfl
            | true => rw [C.facts.wr d hd h] at hu; cases hu
          have hdr : d ∈ rs := (G.mrs d).2 ⟨(Array.getElem?_eq_some_iff.1 ho2).1, hdw⟩
          obtain ⟨y, hy, hyc⟩ := compList_mem G.crd d hdr
          rw [ho2] at hyc
          have hyc : compOper P ops o2 = some y := hyc
          rw [hc2] at hyc; cases hyc
          exact stable_of (kind_of ho2 hc2 (nonW hdw).1) (List.all_eq_true.1 hchk _ hy)
        unfold writeG at hs'
        split at hs'
        · -- a new block
          rename_i k0 el z hxr hxo hxg
          obtain ⟨el', hel⟩ := hres (by rw [hxr]; simp)
          obtain ⟨h1, h2, h3⟩ := compOper_parts hc
          have hz := comp_alloc (by rw [hxo] at h1; exact h1) hel
          split at hs'
          · rename_i hchk
            cases hs'
            simp only [Bool.and_eq_true, decide_eq_true_eq, Bool.not_eq_true', List.isEmpty_iff, bne_iff_ne, ne_eq] at hchk
            obtain ⟨⟨⟨⟨⟨c1, c2⟩, c3⟩, c4⟩, c5⟩, c6⟩ := hchk
            have hgl : n0 + k0 < g.length := by rw [C.hr.len]; exact c1
            have hwt : Region.wanted o (yielded ops a.tmps) = true := by
              have hts := mask_vr (g := g) (U := useD P ops x.i) C.held.len fun t ht => C.held.slots t fun d hd hu => C.facts.use hi hd hu ht
              rw [← wanted_mask (U := useD P ops x.i) fun j want t hg ht => guard_use ho hg ht, wanted_eq hts hc, hxg]
              rfl
            unfold wpOpIn
            simp only [ho, hwt, if_true]
            refine wpIn_of_wp (fun c hd => by rw [hel] at hd; cases hd) ?_
            unfold Oper.wp
            rw [alloc_run hel hz]
            obtain ⟨hgz, _⟩ := zeroCellsT_some hz
            have hvz : VRL (g.set (n0 + k0) (some ⟨w.heap.size, 0, 0, z.length + ([] : List Value).length⟩)) z z := VRL.of_ground hgz
            have hOR : OR (g.set (n0 + k0) (some ⟨w.heap.size, 0, 0, z.length + ([] : List Value).length⟩)) { w with heap := w.heap.push (.cells ⟨z ++ []⟩ el' (0, 0)) } ⟨w.heap.size, 0, 0, z.length + ([] : List Value).length⟩ (.cells z 0) := by
              refine ⟨⟨z ++ []⟩, el', (0, 0), by simp, rfl, by simp, by simp, by simp, fun _ => rfl, ?_⟩
              simp only [List.drop_zero, List.append_nil, List.take_length]
              exact hvz
            have hr' := C.hr.takeIn hgl (by omega) c3 hOR
            have hle : Le gs (g.set (n0 + k0) (some ⟨w.heap.size, 0, 0, z.length + ([] : List Value).length⟩)) := ⟨by rw [List.length_set]; exact hl.1, fun j hj y hy => by
              rw [List.getElem?_set_ne (by omega)] at hy
              exact hl.2 j hj y hy⟩
            refine next (C.front hi hp ho hc hn hpf (fun t ht => ht.adopt (namesL_get _ t c2)) (by
              have hds := C.held.ds
              rw [c4] at hds ⊢
              rw [hds.nil_inv]
              exact .nil) (C.rd.adopt c5) hr' (.ptr ⟨by rw [List.length_set]; exact hgl, fun y hy => ?_⟩) (pend c6)) hle
            rw [List.getElem?_set_self hgl] at hy
            cases hy
            simp
          · cases hs'
        · rename_i hxr
          by_cases hwt : wantedT s.ts x.op.guard = true
          · rw [if_pos hwt] at hs'
            split at hs'
            · rename_i v h' hxo
              split at hs'
              · rename_i hchk
                cases hs'
                refine C.exec hcall hi ho hc hn (fun _ co hm => ?_) (fun _ => ⟨fun v1 h1 hm2 g1 v' w' hle hr' hv => ?_, fun c h1 hm => ?_⟩) (fun hno => by rw [hno] at hwt; cases hwt)
                · rw [hxo] at hm; simp at hm; rw [hm]; simp
                · rw [hxo] at hm2; simp at hm2
                  obtain ⟨rfl, rfl⟩ := hm2
                  exact next (C.front hi hp ho hc hn hpf (fun t ht => ht.mono hle) (C.held.ds.mono hle) (C.rd.mono hle) hr' hv (pend hchk)) (hl.trans hle)
                · rw [hxo] at hm; simp at hm
              · cases hs'
            · cases hs'
          · rw [if_neg hwt] at hs'
            split at hs'
            · rename_i hchk
              cases hs'
              refine C.exec hcall hi ho hc hn (fun h => absurd h hwt) (fun h => absurd h hwt) (fun _ => ?_)
              exact next (C.front hi hp ho hc hn hpf (fun _ ht => ht) C.held.ds C.rd C.hr (.gr ground_undef) (pend hchk)) hl
            · cases hs'
        · cases hs'
      · cases hL
theorem draws_ok (hm : P.follows .mixedOrders = true) {call : Caller} (hcall : CallOK P call) : DrawsOK P call B w0 := by
  intro ro n L id ops ac g0 g s a w Q hc hr hl hg hQ
  unfold compR at hc
  split at hc
  · rename_i ls hls
    cases hc
    exact drawsM_ok hm hcall ro n L id ops ls g0 g s a w Q hls hr hl hg hQ
  · obtain ⟨⟨rd, wr⟩, hcg, rfl⟩ := Option.map_eq_some_iff.1 hc
    obtain ⟨rs, ws, G⟩ := compG_ok hcg
    have hx : xc P call L (.regionG rd wr) s = outG P call rd wr s := rfl
    simp only [hx] at hg hQ
    unfold outG at hg hQ
    cases hrun : runG P call rd wr s with
    | none => rw [hrun] at hg; exact absurd rfl (hg .bad (by simp))
    | some sf =>
      rw [hrun] at hQ
      simp only at hQ
      unfold runG at hrun
      split at hrun
      · rename_i s1 hs1
        split at hrun
        · rename_i lf s2 hlev
          cases hrun
          obtain ⟨ga, hla, hra⟩ := hr.hr.gc (liveG s.h 4000 (blocksL s.ts) [])
          obtain ⟨g1, hl1, hr1⟩ := HR.asides (countG wr) hra
          have hl1 := hla.trans hl1
          have he := G.edges
          have C0 : ConfG ro P ops B w0 [] (Array.replicate ops.size false) g1 { s with h := asideH (countG wr) (gcH s.h (liveG s.h 4000 (blocksL s.ts) [])) } a { w with drawn := w.drawn + 1 } := by
            refine ⟨⟨by simp, fun i o ho e hee hb => ?_, fun i hi => .inr (mem_rest.2 ⟨hi, by simp⟩), by simp, by simp, by simp, fun k hk => ?_, fun k o hk => ?_⟩, ⟨?_, fun t _ => (lget_vr hr.ts t).mono hl1, by simp, hr.ds.mono hl1⟩, hr1.drawn _, hr.rd.mono hl1⟩
            · have := List.all_eq_true.1 he i (List.mem_range.2 (Array.getElem?_eq_some_iff.1 ho).1)
              rw [ho] at this
              have := Array.all_eq_true_iff_forall_mem.1 this e hee
              simpa [hb] using this
            · have := (mem_rest.1 hk).1
              simp [Array.getD_eq_getD_getElem?, this]
            · rw [Array.getD_eq_getD_getElem?] at hk
              exfalso
              by_cases h : k < ops.size
              · simp [h] at hk
              · simp [Array.getElem?_eq_none, Nat.not_lt.1 h] at hk
            · have := hr.ts.length
              simpa using this
          have C1 := reads_conf G rs rd [] _ s1 rfl G.crd hs1 C0
          have h00 : 0 < s.h.n := by
            have h0 := hr.hr.zero
            have := (List.getElem?_eq_some_iff.1 h0).1
            rw [hr.hr.len] at this
            exact this
          refine wpIn_region_any hm (anyG_sound hcall G (gs := g) (n0 := s.h.n) (by rw [hr.hr.len]; exact Nat.le_refl _) h00 (lf := lf) (sf := sf) (fun g2 a2 w2 hle hr2 hts2 hds2 hrd2 => hQ _ _ _ ⟨g2, .normal, sf, by simp, hl.trans hle, trivial, hr2, hts2, hds2, hrd2⟩) ops.size _ (by simp) wr.length _ [] g1 s1 a _ hlev (by simp) (by simp [G.wlen]) List.nodup_nil (by simp) C1 hl1)
        · cases hrun
      · cases hrun
end
end Go.Vm

/- A small machine over an abstract heap: what its runs say of the model. -/
set_option linter.unusedSimpArgs false
namespace Go.Vm
open Go.RowKit
section
variable {P : Program}
def tableOf (P : Program) : Table := fun f => (P.funcs[f]?).bind (compFunc P)
theorem compFunc_prim {fn : Func} {af : AFunc} (h : compFunc P fn = some af) : af.prim = none := by
  unfold compFunc at h
  split at h
  · cases h
  · split at h
    · cases h
    · split at h
      · cases h; rfl
      · cases h
theorem tableOf_ok : TableOK P (tableOf P) := by
  intro f af h
  unfold tableOf at h
  cases hf : P.funcs[f]? with
  | none => rw [hf] at h; cases h
  | some fn =>
    rw [hf] at h
    have h : compFunc P fn = some af := h
    rw [compFunc_prim h]
    exact ⟨fn, rfl, h⟩
theorem hr_init (w : World) : HR [none] Heap.init w.heap.size w w where
  len := rfl
  alive := fun i x h => by
    cases i with
    | zero => simp at h
    | succ i => simp at h
  inj := fun i j x y _ h => by
    cases i with
    | zero => simp at h
    | succ i => simp at h
  dead := fun i _ => Heap.get_init i
  below := Below.refl _ _
  base := Nat.le_refl _
  zero := rfl
theorem run_calls (hm : P.follows .mixedOrders = true) {T : Table} (hT : TableOK P T) {L n : Nat} {f : FuncId} {args : List Value} (hgr : groundL args = true) (hg : ∀ o ∈ xcall P T L n (.fn f) args Heap.init, o ≠ .bad) (w : World) :
    Calls P f ⟨args⟩ w (CPost w.heap.size w [none] (xcall P T L n (.fn f) args Heap.init)) :=
  ((xcall_sound hT L (fun _ hc _ _ => draws_ok hm hc) n).2 f args args [none] Heap.init w.heap.size w w (hr_init w) (VRL.of_ground hgr) hg).2
def allTrue (l : List CO) : Bool := l.all fun | .ret (.bool true) _ => true | _ => false
theorem known_calls (hm : P.follows .mixedOrders = true) {T : Table} (hT : TableOK P T) {L n : Nat} {f : FuncId} (h : allTrue (xcall P T L n (.fn f) [] Heap.init) = true) (w : World) :
    Calls P f #[] w fun e w' => e = .returned (.bool true) ∧ Below w.heap.size w w' := by
  have hall := fun o ho => List.all_eq_true.1 h o ho
  refine (run_calls hm hT (L := L) (n := n) (args := []) rfl (fun o ho hb => ?_) w).mono fun e w' he => ?_
  · have := hall o ho
    rw [hb] at this
    cases this
  · cases e with
    | returned v =>
      obtain ⟨g', u, h', hm, _, hr, hv⟩ := he
      have hu := hall _ hm
      have : u = .bool true := by
        cases u with
        | bool b => cases b with
          | true => rfl
          | false => cases hu
        | _ => cases hu
      subst this
      rw [hv.bool]
      exact ⟨rfl, hr.below⟩
    | panicked c =>
      obtain ⟨g', u, h', hm, _⟩ := he
      cases hall _ hm
    | outgrown => exact he.elim
end
end Go.Vm
