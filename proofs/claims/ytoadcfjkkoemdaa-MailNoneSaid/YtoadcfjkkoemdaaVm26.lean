/- A small machine over an abstract heap: drawn orders, the facts that hold along one. -/
import Derived.Test.YtoadcfjkkoemdaaVm25
set_option linter.unusedSimpArgs false
namespace Go.Vm
open Go.RowKit

section
variable {P : Program} {ops : Array Oper} {B : Nat} {w0 : World}

/-! ### What an operation looks at -/

theorem use_op {d t : Nat} {o : Oper} (hd : ops[d]? = some o) {x : Operand} (hx : x ∈ o.op.operands.toList) (ht : x = .tmp t) : t ∈ useD P ops d := by
  simp only [useD, hd]
  refine List.mem_append_left _ (List.mem_append_left _ ?_)
  subst ht
  exact List.mem_filterMap.2 ⟨_, hx, rfl⟩

theorem use_opds {d t : Nat} {o : Oper} {ao : AOper} (hd : ops[d]? = some o) (hc : compOper P ops o = some ao) {x : Operand} (hx : x ∈ ao.op.opds) (ht : x = .tmp t) : t ∈ useD P ops d := by
  simp only [useD, hd, (compOper_parts hc).1]
  refine List.mem_append_right _ ?_
  subst ht
  exact List.mem_filterMap.2 ⟨_, hx, rfl⟩

theorem use_guard {d t : Nat} {want : Bool} {o : Oper} {ao : AOper} (hd : ops[d]? = some o) (hc : compOper P ops o = some ao) (hg : ao.guard = some (t, want)) : t ∈ useD P ops d := by
  have : ∃ j, o.guard = some (j, want) ∧ dstD ops j = some t := by
    unfold compOper at hc
    split at hc
    · cases hc
    split at hc
    · cases hc
    split at hc
    · cases hc; cases hg
    · rename_i j want' hj
      split at hc
      · rename_i t' ht
        cases hc
        cases hg
        exact ⟨j, hj, ht⟩
      · cases hc
  obtain ⟨j, hj, ht⟩ := this
  simp only [useD, hd, hj, ht]
  exact List.mem_append_left _ (List.mem_append_right _ (by simp))

theorem dst_dstD {d : Nat} {o : Oper} {ao : AOper} (hd : ops[d]? = some o) (hc : compOper P ops o = some ao) : dstD ops d = ao.dst := by
  simp only [dstD, hd, Option.bind_some, (compOper_parts hc).2.2]

/-- it writes nothing, and whoever looks at its slot or fills it waits for it -/
theorem nonW {d : Nat} (h : isW P ops (Region.before ops) d = false) : kindW P ops d = false ∧ ∀ t, dstD ops d = some t →
    t ∉ useD P ops d ∧ ∀ j, j < ops.size → j ≠ d → (t ∈ useD P ops j ∨ dstD ops j = some t) → ancOf (Region.before ops) d j = true := by
  unfold isW at h
  rw [Bool.or_eq_false_iff] at h
  refine ⟨h.1, fun t ht => ?_⟩
  have h2 := h.2
  rw [ht] at h2
  simp only [Bool.or_eq_false_iff, List.any_eq_false, List.mem_range] at h2
  refine ⟨fun hm => ?_, fun j hj hne hu => ?_⟩
  · have := h2.1
    rw [show (useD P ops d).contains t = true from by simpa using hm] at this
    cases this
  · have h3 := h2.2 j hj
    cases ha : ancOf (Region.before ops) d j with
    | true => rfl
    | false =>
      exfalso
      apply h3
      rw [ha]
      have : (((useD P ops j).contains t) || dstD ops j == some t) = true := by
        rcases hu with hu | hu
        · rw [show (useD P ops j).contains t = true from by simpa using hu]; rfl
        · rw [hu]; simp
      rw [this]
      simp [hne]

theorem kind_of {d : Nat} {o : Oper} {ao : AOper} (hd : ops[d]? = some o) (hc : compOper P ops o = some ao) (h : kindW P ops d = false) : ao.op.kind ≠ .write := by
  simp only [kindW, hd, Option.bind_some, (compOper_parts hc).1, decide_eq_false_iff_not] at h
  exact h

theorem xo_read {call : Caller} {ts : List Value} {h : Heap} {op : AOp} (hk : op.kind ≠ .write) : xo P call ts h op = match xop P (eval ts) h op with
    | .ok v h' => [.ret v h']
    | .pan v h' => [.pan [{ v, recovered := false }] h']
    | .bad => [.bad] := by
  cases op <;> first | rfl | exact absurd rfl hk

/-! ### An operation that is still to come, and whose answer is there already -/

def StableP (P : Program) (ts : List Value) (h : Heap) (ao : AOper) : Prop :=
  (wantedT ts ao.guard = true ∧ ∃ v, xop P (eval ts) h ao.op = .ok v h ∧ ∀ d, ao.dst = some d → d < ts.length → lget ts d = v) ∨
  (wantedT ts ao.guard = false ∧ ∀ d, ao.dst = some d → lget ts d = undef)

theorem stable_of {ts : List Value} {h : Heap} {ao : AOper} (hk : ao.op.kind ≠ .write) (hs : stable P ts h (triple ao) = true) : StableP P ts h ao := by
  unfold stable triple at hs
  simp only at hs
  split at hs
  · rename_i hw
    split at hs
    · rename_i v h' hx
      have := still_xop hk hx
      subst this
      refine .inl ⟨hw, v, hx, fun d hd _ => ?_⟩
      rw [hd] at hs
      exact (veq_eq hs).symm
    · cases hs
  · rename_i hw
    refine .inr ⟨by simpa using hw, fun d hd => ?_⟩
    rw [hd] at hs
    exact (veq_eq hs).symm

/-- slots that it does not look at may change -/
theorem StableP.congr {d : Nat} {o : Oper} {ao : AOper} {ts ts' : List Value} {h : Heap} (hd : ops[d]? = some o) (hc : compOper P ops o = some ao) (hn : ao.op.noSel = true)
    (hlen : ts'.length = ts.length) (hu : ∀ t ∈ useD P ops d, lget ts' t = lget ts t) (hdst : ∀ t, ao.dst = some t → lget ts' t = lget ts t) (hs : StableP P ts h ao) : StableP P ts' h ao := by
  have hw : wantedT ts' ao.guard = wantedT ts ao.guard := by
    cases hg : ao.guard with
    | none => rfl
    | some p =>
      obtain ⟨t, want⟩ := p
      simp only [wantedT, hu t (use_guard hd hc hg)]
  have hx : xop P (eval ts') h ao.op = xop P (eval ts) h ao.op := xop_congr hn fun x hx => by
    cases x with
    | tmp t => simp only [eval]; exact hu t (use_opds hd hc hx rfl)
    | _ => rfl
  rcases hs with ⟨h1, v, h2, h3⟩ | ⟨h1, h3⟩
  · exact .inl ⟨by rw [hw]; exact h1, v, by rw [hx]; exact h2, fun t ht hl => by rw [hdst t ht]; exact h3 t ht (by rw [← hlen]; exact hl)⟩
  · exact .inr ⟨by rw [hw]; exact h1, fun t ht => by rw [hdst t ht]; exact h3 t ht⟩

theorem putT_length (ts : List Value) (d : Option Nat) (v : Value) : (putT ts d v).length = ts.length := by
  cases d with
  | none => rfl
  | some d => simp [putT, lset_eq]

theorem lget_putT_ne {ts : List Value} {d : Option Nat} {v : Value} {t : Nat} (h : d ≠ some t) : lget (putT ts d v) t = lget ts t := by
  cases d with
  | none => rfl
  | some d =>
    have : d ≠ t := fun e => h (by rw [e])
    simp only [putT, lset_eq, lget_getD, List.getElem?_set_ne this]

theorem lget_putT_eq {ts : List Value} {v : Value} {t : Nat} (h : t < ts.length) : lget (putT ts (some t) v) t = v := by
  simp [putT, lset_eq, lget_getD, h]

theorem lget_over {ts : List Value} {t : Nat} (h : ¬ t < ts.length) : lget ts t = undef := by
  rw [lget_getD, List.getElem?_eq_none (by omega)]; rfl

theorem getD_put_ne {a : Act} {d : Option Nat} {v : Value} {t : Nat} (h : d ≠ some t) : (a.put d v).tmps.toList.getD t undef = a.tmps.toList.getD t undef := by
  cases d with
  | none => rfl
  | some d =>
    have : d ≠ t := fun e => h (by rw [e])
    simp only [Act.put, Array.toList_setIfInBounds, List.getD_eq_getElem?_getD, List.getElem?_set_ne this]

theorem getD_put_eq {a : Act} {v : Value} {t : Nat} (h : t < a.tmps.size) : (a.put (some t) v).tmps.toList.getD t undef = v := by
  simp [Act.put, h]

theorem size_put (a : Act) (d : Option Nat) (v : Value) : (a.put d v).tmps.size = a.tmps.size := by
  cases d <;> simp [Act.put]

/-! ### Along an order -/

structure Facts (P : Program) (ops : Array Oper) (done post : List Nat) (listed : Array Bool) : Prop where
  size : listed.size = ops.size
  edges : ∀ i o, ops[i]? = some o → ∀ e ∈ o.after, Region.binds .any e = true → e.on < i
  cover : ∀ i, i < ops.size → i ∈ done ∨ i ∈ post
  fwd : ∀ d ∈ done, ∀ k ∈ post, ancOf (Region.before ops) k d = false
  comp : ∀ d ∈ done, ∃ o ao, ops[d]? = some o ∧ compOper P ops o = some ao ∧ ao.op.noSel = true
  wr : ∀ d ∈ done, isW P ops (Region.before ops) d = true → listed.getD d true = true
  un : ∀ k ∈ post, listed.getD k true = false
  down : ∀ k o, listed.getD k false = true → ops[k]? = some o → ∀ e ∈ o.after, Region.binds .any e = true → listed.getD e.on false = true

structure Held (P : Program) (ops : Array Oper) (done : List Nat) (listed : Array Bool) (g : Gh) (s : St) (a : Act) : Prop where
  len : a.tmps.size = s.ts.length
  slots : ∀ t, (∀ d ∈ done, listed.getD d true = false → dstD ops d ≠ some t) → VR g (lget s.ts t) (a.tmps.toList.getD t undef)
  stab : ∀ d ∈ done, listed.getD d true = false → ∀ o ao, ops[d]? = some o → compOper P ops o = some ao → StableP P s.ts s.h ao
  ds : DRL g s.ds a.defers

variable {done post : List Nat} {listed : Array Bool} {g : Gh} {s : St} {a : Act}

theorem getD_absurd {i : Nat} (h1 : listed.getD i true = false) (h2 : listed.getD i false = true) : False := by
  rw [Array.getD_eq_getD_getElem?] at h1 h2
  cases h : listed[i]? with
  | none => rw [h] at h2; cases h2
  | some b => rw [h] at h1 h2; simp at h1 h2; rw [h1] at h2; cases h2

theorem Facts.anc (F : Facts P ops done post listed) : ∀ (n k j : Nat), k < n → listed.getD k false = true → ancOf (Region.before ops) j k = true → listed.getD j false = true
  | 0, _, _, h, _, _ => by omega
  | n + 1, k, j, h, hk, ha => by
    obtain ⟨o, ho, e, he, hb, h2⟩ := before_spec ha
    have hl := F.down k o hk ho e he hb
    rcases h2 with rfl | h2
    · exact hl
    · have := F.edges k o ho e he hb
      exact Facts.anc F n e.on j (by omega) hl h2

theorem Facts.ready (F : Facts P ops done post listed) {i j : Nat} (hi : i ∈ Region.ready .any ops listed) (ha : ancOf (Region.before ops) j i = true) : listed.getD j false = true := by
  obtain ⟨_, o, ho, hall⟩ := mem_ready.1 hi
  obtain ⟨o', ho', e, he, hb, h2⟩ := before_spec ha
  rw [ho] at ho'; cases ho'
  have hl := hall e he hb
  rcases h2 with rfl | h2
  · exact hl
  · exact F.anc (e.on + 1) e.on j (by omega) hl h2

/-- one that is ready looks at no slot that is still to be filled -/
theorem Facts.use (F : Facts P ops done post listed) {i d t : Nat} (hi : i ∈ Region.ready .any ops listed) (hd : d ∈ done) (hu : listed.getD d true = false) (ht : t ∈ useD P ops i) : dstD ops d ≠ some t := by
  intro hdst
  have hw : isW P ops (Region.before ops) d = false := by
    cases h : isW P ops (Region.before ops) d with
    | false => rfl
    | true => rw [F.wr d hd h] at hu; cases hu
  obtain ⟨_, h2⟩ := nonW hw
  obtain ⟨h3, h4⟩ := h2 t hdst
  obtain ⟨_, o, ho, _⟩ := mem_ready.1 hi
  have hlt := (Array.getElem?_eq_some_iff.1 ho).1
  by_cases hid : i = d
  · subst hid; exact h3 ht
  · exact getD_absurd hu (F.ready hi (h4 i hlt hid (.inl ht)))

theorem checkPos_fresh {an : Array Nat} : ∀ {post done : List Nat}, checkPos P ops an done post = true → ∀ k ∈ post, k ∉ done
  | [], _, _, k, hk => by cases hk
  | i :: later, done, h, k, hk => by
    simp only [checkPos, Bool.and_eq_true] at h
    rcases List.mem_cons.1 hk with rfl | hk
    · simpa using h.1.1.1.1.2
    · exact fun hm => checkPos_fresh h.2 k hk (List.mem_cons_of_mem _ hm)

theorem checkPos_lt {an : Array Nat} : ∀ {post done : List Nat}, checkPos P ops an done post = true → ∀ k ∈ post, k < ops.size ∧ ∀ o, ops[k]? = some o → ∀ e ∈ o.after, Region.binds .any e = true → e.on < k
  | [], _, _, k, hk => by cases hk
  | i :: later, done, h, k, hk => by
    simp only [checkPos, Bool.and_eq_true] at h
    rcases List.mem_cons.1 hk with rfl | hk
    · refine ⟨by simpa using h.1.1.1.1.1, fun o ho e he hb => ?_⟩
      have h2 := h.1.1.1.2
      rw [ho] at h2
      have := Array.all_eq_true_iff_forall_mem.1 h2 e he
      simpa [hb] using this
    · exact checkPos_lt h.2 k hk

theorem checkPos_cons {an : Array Nat} {i : Nat} {later done : List Nat} (h : checkPos P ops an done (i :: later) = true) :
    (∀ j ∈ later, ancOf an j i = false ∧ (isW P ops an i = true → ancOf an i j = true)) ∧ (∀ o op, ops[i]? = some o → compOp P o = some op → op.noSel = true) ∧ checkPos P ops an (i :: done) later = true := by
  simp only [checkPos, Bool.and_eq_true] at h
  refine ⟨fun j hj => ?_, fun o op ho hop => ?_, h.2⟩
  · have := List.all_eq_true.1 h.1.1.2 j hj
    simp only [Bool.and_eq_true, Bool.not_eq_true', Bool.or_eq_true] at this
    refine ⟨this.1, fun hw => this.2.resolve_left (by rw [hw]; simp)⟩
  · have := h.1.2
    simp only [ho, Option.bind_some, hop] at this
    exact this

theorem compOrder_cons {an : Array Nat} {i : Nat} {later done : List Nat} {aos : List AOper} (h : compOrder P ops an done (i :: later) = some aos) :
    ∃ o ao c l, ops[i]? = some o ∧ compOper P ops o = some ao ∧ compList (fun j => (ops[j]?).bind (compOper P ops)) (if isW P ops an i then done.filter fun j => !isW P ops an j && !ancOf an j i else []) = some c ∧
      compOrder P ops an (i :: done) later = some l ∧ aos = { ao with chk := c.map triple, pan := done.all (fun j => ancOf an j i) && later.all (fun j => ancOf an i j) } :: l := by
  simp only [compOrder] at h
  split at h
  · rename_i ao c l h1 h2 h3
    cases h
    cases ho : ops[i]? with
    | none => rw [ho] at h1; cases h1
    | some o =>
      rw [ho] at h1
      exact ⟨o, ao, c, l, rfl, h1, h2, h3, rfl⟩
  · cases h

end
end Go.Vm
