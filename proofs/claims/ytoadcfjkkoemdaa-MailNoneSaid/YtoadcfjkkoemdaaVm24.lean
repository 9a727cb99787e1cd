/- A small machine over an abstract heap: an operation looks at its operands alone. -/
import Derived.Test.YtoadcfjkkoemdaaVm23
set_option linter.unusedSimpArgs false
namespace Go.Vm
open Go.RowKit

section
variable {P : Program}

theorem rawOp_congr {e1 e2 : Operand → Value} {o : Oper} {h : Heap} (hs : (match o.op with | .select _ _ => false | _ => true) = true) (he : ∀ x ∈ o.op.operands.toList, e1 x = e2 x) : rawOp P e1 o h = rawOp P e2 o h := by
  have h1 : execOp e1 o = execOp e2 o := execOp_congr o (fun cs b hb => by rw [hb] at hs; cases hs) fun x hx => he x (by simpa using hx)
  have h2 : (o.op.operands.toList.all fun x => ground (e1 x)) = o.op.operands.toList.all fun x => ground (e2 x) := by
    rw [Bool.eq_iff_iff]
    simp only [List.all_eq_true]
    exact ⟨fun hh x hx => by rw [← he x hx]; exact hh x hx, fun hh x hx => by rw [he x hx]; exact hh x hx⟩
  unfold rawOp
  rw [h1, h2]

theorem bnd_congr {e1 e2 : Operand → Value} {lim d : Nat} {x : Option Operand} (he : ∀ y ∈ x.toList, e1 y = e2 y) : bnd e1 lim d x = bnd e2 lim d x := by
  cases x with
  | none => rfl
  | some x => simp only [bnd]; rw [he x (by simp)]

theorem sliceOf_congr {e1 e2 : Operand → Value} {size : Nat} {v : Value} {lo hi mx : Option Operand} {h : Heap} (h1 : ∀ y ∈ lo.toList, e1 y = e2 y) (h2 : ∀ y ∈ hi.toList, e1 y = e2 y) (h3 : ∀ y ∈ mx.toList, e1 y = e2 y) :
    sliceOf e1 size v lo hi mx h = sliceOf e2 size v lo hi mx h := by
  have e1 : ∀ a b, bnd e1 a b lo = bnd e2 a b lo := fun a b => bnd_congr h1
  have e2 : ∀ a b, bnd _ a b hi = bnd _ a b hi := fun a b => bnd_congr h2
  have e3 : ∀ a b, bnd _ a b mx = bnd _ a b mx := fun a b => bnd_congr h3
  unfold sliceOf
  simp only [e1, e2, e3]

theorem xop_congr {e1 e2 : Operand → Value} {h : Heap} {op : AOp} (hs : op.noSel = true) (he : ∀ x ∈ op.opds, e1 x = e2 x) : xop P e1 h op = xop P e2 h op := by
  cases op with
  | bin bo o x y =>
    have := rawOp_congr (P := P) (h := h) hs (fun z hz => he z (by simp only [AOp.opds]; exact List.mem_cons_of_mem _ (List.mem_cons_of_mem _ hz)))
    simp only [xop, binOpV, this, he x (by simp [AOp.opds]), he y (by simp [AOp.opds])]
  | eq kind neg o x y =>
    have := rawOp_congr (P := P) (h := h) hs (fun z hz => he z (by simp only [AOp.opds]; exact List.mem_cons_of_mem _ (List.mem_cons_of_mem _ hz)))
    simp only [xop, eqOpV, this, he x (by simp [AOp.opds]), he y (by simp [AOp.opds])]
  | conv k o x =>
    have := rawOp_congr (P := P) (h := h) hs (fun z hz => he z (by simp only [AOp.opds]; exact List.mem_cons_of_mem _ hz))
    simp only [xop, this, he x (by simp [AOp.opds])]
  | raw o => exact rawOp_congr (P := P) (h := h) hs (fun z hz => he z hz)
  | sliceArr n s x lo hi =>
    have := fun v => sliceOf_congr (size := s) (v := v) (h := h) (mx := none) (fun y hy => he y (by simp [AOp.opds]; simp at hy; simp [hy])) (fun y hy => he y (by simp [AOp.opds]; simp at hy; simp [hy])) (lo := lo) (hi := hi) (by simp)
    simp only [xop, he x (by simp [AOp.opds]), this]
  | sliceSl s x lo hi mx =>
    have := fun v => sliceOf_congr (size := s) (v := v) (h := h) (mx := mx) (fun y hy => he y (by simp [AOp.opds]; simp at hy; simp [hy])) (fun y hy => he y (by simp [AOp.opds]; simp at hy; simp [hy])) (lo := lo) (hi := hi) (fun y hy => he y (by simp [AOp.opds]; simp at hy; simp [hy]))
    simp only [xop, he x (by simp [AOp.opds]), this]
  | sliceStr x lo hi =>
    have h1 : ∀ a b, bnd e1 a b lo = bnd e2 a b lo := fun a b => bnd_congr (fun y hy => he y (by simp [AOp.opds]; simp at hy; simp [hy]))
    have h2 : ∀ a b, bnd e1 a b hi = bnd e2 a b hi := fun a b => bnd_congr (fun y hy => he y (by simp [AOp.opds]; simp at hy; simp [hy]))
    simp only [xop, he x (by simp [AOp.opds]), h1, h2]
  | build z ps =>
    have : (ps.map fun p => (p.1, p.2.1, e1 p.2.2)) = ps.map fun p => (p.1, p.2.1, e2 p.2.2) := List.map_congr_left fun p hp => by rw [he _ (List.mem_map.2 ⟨p, hp, rfl⟩)]
    simp only [xop, this]
  | buildSlice el z n ps =>
    have : (ps.map fun p => (p.1, p.2.1, e1 p.2.2)) = ps.map fun p => (p.1, p.2.1, e2 p.2.2) := List.map_congr_left fun p hp => by rw [he _ (List.mem_map.2 ⟨p, hp, rfl⟩)]
    simp only [xop, this]
  | mkFunc fn a b =>
    have h1 : a.map e1 = a.map e2 := List.map_congr_left fun p hp => he p (by simp [AOp.opds, hp])
    have h2 : b.map e1 = b.map e2 := List.map_congr_left fun p hp => he p (by simp [AOp.opds, hp])
    simp only [xop, h1, h2]
  | mov x => simp only [xop, he x (by simp [AOp.opds])]
  | box _ x => simp only [xop, he x (by simp [AOp.opds])]
  | load _ x => simp only [xop, he x (by simp [AOp.opds])]
  | nilCheck x => simp only [xop, he x (by simp [AOp.opds])]
  | bytesToStr x => simp only [xop, he x (by simp [AOp.opds])]
  | strToBytes _ x => simp only [xop, he x (by simp [AOp.opds])]
  | fieldAddr _ x => simp only [xop, he x (by simp [AOp.opds])]
  | field _ _ x => simp only [xop, he x (by simp [AOp.opds])]
  | extract _ x => simp only [xop, he x (by simp [AOp.opds])]
  | arrayAt _ x => simp only [xop, he x (by simp [AOp.opds])]
  | mkIface _ x => simp only [xop, he x (by simp [AOp.opds])]
  | assertTo _ _ _ x => simp only [xop, he x (by simp [AOp.opds])]
  | lenStr x => simp only [xop, he x (by simp [AOp.opds])]
  | lenSl x => simp only [xop, he x (by simp [AOp.opds])]
  | lenMap x => simp only [xop, he x (by simp [AOp.opds])]
  | cap x => simp only [xop, he x (by simp [AOp.opds])]
  | panic x => simp only [xop, he x (by simp [AOp.opds])]
  | rangeMap x => simp only [xop, he x (by simp [AOp.opds])]
  | rangeStr x => simp only [xop, he x (by simp [AOp.opds])]
  | nextStr x => simp only [xop, he x (by simp [AOp.opds])]
  | ext k f args =>
    have h1 : args.map e1 = args.map e2 := List.map_congr_left fun p hp => he p (by simp [AOp.opds, hp])
    simp only [xop, h1, he f (by simp [AOp.opds])]
  | entryMap x => simp only [xop, he x (by simp [AOp.opds])]
  | pick c a b => simp only [xop, he c (by simp [AOp.opds]), he a (by simp [AOp.opds]), he b (by simp [AOp.opds])]
  | store _ a x => simp only [xop, he a (by simp [AOp.opds]), he x (by simp [AOp.opds])]
  | indexArr _ _ a x => simp only [xop, he a (by simp [AOp.opds]), he x (by simp [AOp.opds])]
  | indexSl _ a x => simp only [xop, he a (by simp [AOp.opds]), he x (by simp [AOp.opds])]
  | index _ _ _ a x => simp only [xop, he a (by simp [AOp.opds]), he x (by simp [AOp.opds])]
  | makeSlice _ _ _ _ a x => simp only [xop, he a (by simp [AOp.opds]), he x (by simp [AOp.opds])]
  | append _ _ _ _ _ a x => simp only [xop, he a (by simp [AOp.opds]), he x (by simp [AOp.opds])]
  | copy _ a x => simp only [xop, he a (by simp [AOp.opds]), he x (by simp [AOp.opds])]
  | lookup _ _ _ a x => simp only [xop, he a (by simp [AOp.opds]), he x (by simp [AOp.opds])]
  | delete _ a x => simp only [xop, he a (by simp [AOp.opds]), he x (by simp [AOp.opds])]
  | mapUpdate _ m k x => simp only [xop, he m (by simp [AOp.opds]), he k (by simp [AOp.opds]), he x (by simp [AOp.opds])]
  | _ => rfl

theorem xo_congr {call : Caller} {ts1 ts2 : List Value} {h : Heap} {op : AOp} (hs : op.noSel = true) (he : ∀ x ∈ op.opds, eval ts1 x = eval ts2 x) : xo P call ts1 h op = xo P call ts2 h op := by
  have hx := xop_congr (P := P) (h := h) hs he
  cases op with
  | callV f args =>
    have h1 : args.map (eval ts1) = args.map (eval ts2) := List.map_congr_left fun p hp => he p (by simp [AOp.opds, hp])
    simp only [xo, h1, he f (by simp [AOp.opds])]
  | invoke f n args =>
    have h1 : args.map (eval ts1) = args.map (eval ts2) := List.map_congr_left fun p hp => he p (by simp [AOp.opds, hp])
    simp only [xo, h1, he f (by simp [AOp.opds])]
  | nextMap it => simp only [xo, he it (by simp [AOp.opds])]
  | _ => simp only [xo, hx]

/-- an operation that writes nothing -/
theorem still_xop {e : Operand → Value} {h h' : Heap} {op : AOp} {v : Value} (hk : op.kind ≠ .write) (hx : xop P e h op = .ok v h') : h' = h := by
  have hraw : ∀ {o : Oper} {v : Value} {h' : Heap}, rawOp P e o h = .ok v h' → h' = h := by
    intro o v h' hr
    unfold rawOp at hr
    repeat' split at hr
    all_goals first | (cases hr; rfl) | cases hr
  have hsl : ∀ {size : Nat} {u : Value} {lo hi mx : Option Operand} {v : Value} {h' : Heap}, sliceOf e size u lo hi mx h = .ok v h' → h' = h := by
    intro size u lo hi mx v h' hr
    unfold sliceOf at hr
    repeat' split at hr
    all_goals first | (cases hr; rfl) | cases hr
  cases op <;> first
    | exact absurd rfl hk
    | (simp only [xop] at hx
       first
        | exact hraw hx
        | exact hsl hx
        | (try simp only [binOpV, eqOpV, nilDeref] at hx
           repeat' split at hx
           all_goals first | (cases hx; rfl) | exact hraw hx | exact hsl hx | cases hx))

end
end Go.Vm
