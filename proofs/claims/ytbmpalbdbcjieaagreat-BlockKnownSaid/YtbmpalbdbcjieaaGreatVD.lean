/- A small machine over an abstract heap: every operation that it answers, the model answers so. -/
import Derived.Test.YtbmpalbdbcjieaaGreatVC
import Derived.RangeFuncLeaves
set_option linter.unusedSimpArgs false
namespace Go.Vm
open Go.RowKit
section
variable {P : Program} {o : Oper} {op : AOp}
theorem OpOK.bad (hb : ∀ e h, xop P e h op = .bad) : OpOK P o op := by
  intro g h B w0 w e e' hr he
  rw [hb]; trivial
theorem builtin_sound {b : Builtin} {c : Call} (ho : o.op = .call c) (hc : c.callee = .builtin b) (h : compBuiltin P b c (slim o) = some op) : OpOK P o op := by
  have hns : ∀ cs b, o.op ≠ .select cs b := fun cs b => by simp [ho]
  unfold compBuiltin at h
  split at h
  · rename_i x t ha hat
    split at h
    · rename_i n el ht; cases h; exact ok_lenArr ho hc ha hat (.inl ht)
    · rename_i a ht
      split at h
      · rename_i n el hp; cases h; exact ok_lenArr ho hc ha hat (.inr ⟨a, ht, hp⟩)
      · cases h
    · rename_i ht; cases h; exact ok_lenStr ho hc ha hat ht
    · rename_i el ht; cases h; exact ok_lenSl ho hc ha hat ht
    · rename_i kt el ht; cases h; exact ok_lenMap ho hc ha hat ht
    · cases h
  · rename_i x t ha hat
    split at h
    · rename_i el ht; cases h; exact ok_cap ho hc ha hat ht
    · cases h
  · rename_i s x ts tx ha hat
    split at h
    · rename_i el d hts htx
      split at h
      · rename_i i z hi hz
        split at h
        · rename_i k; cases h; exact ok_append ho hc ha hat hts htx hi hz (.inl ⟨k, rfl⟩) rfl
        · rename_i k; cases h; exact ok_append ho hc ha hat hts htx hi hz (.inr (.inl ⟨k, rfl⟩)) rfl
        · cases h; exact ok_append ho hc ha hat hts htx hi hz (.inr (.inr rfl)) rfl
        · cases h
      · cases h
    · cases h
  · rename_i d s t ats ha hat
    split at h
    · rename_i el ht
      obtain ⟨n, hn, rfl⟩ := Option.map_eq_some_iff.1 h
      exact ok_copy ho hc ha hat ht hn
    · cases h
  · rename_i m k t ats ha hat
    split at h
    · rename_i kt el ht
      obtain ⟨kd, hk, rfl⟩ := Option.map_eq_some_iff.1 h
      exact ok_delete ho hc ha hat ht hk
    · cases h
  · cases h; exact ok_raw hns
  · cases h; exact ok_raw hns
  · cases h; exact OpOK.bad fun _ _ => rfl
  · cases h
theorem xop_sound (h : compOp P o = some op) : OpOK P o op := by
  unfold compOp at h
  simp only [show (slim o).op = o.op from rfl] at h
  have hns : (∀ cs b, o.op ≠ .select cs b) → OpOK P o (.raw (slim o)) := ok_raw
  cases ho : o.op with
  | move x => rw [ho] at h; cases h; exact ok_mov x (.inl ho)
  | assign x => rw [ho] at h; cases h; exact ok_mov x (.inr ho)
  | pick c a b => rw [ho] at h; cases h; exact ok_pick ho
  | alloc el =>
    rw [ho] at h
    obtain ⟨z, hz, rfl⟩ := Option.map_eq_some_iff.1 h
    exact ok_alloc ho hz
  | box el x => rw [ho] at h; cases h; exact ok_box ho
  | build t parts =>
    rw [ho] at h
    simp only at h
    split at h
    · rename_i fs z ht hz
      split at h
      · rename_i pl hp
        obtain ⟨l, hl, rfl⟩ := Option.map_eq_some_iff.1 h
        exact ok_build_struct ho ht hz hp hl
      · cases h
    · rename_i n el z ht hz
      split at h
      · rename_i s hs
        obtain ⟨l, hl, rfl⟩ := Option.map_eq_some_iff.1 h
        exact ok_build_array ho ht hz hs hl
      · cases h
    · cases h
  | buildSlice t len parts =>
    rw [ho] at h
    simp only at h
    split at h
    · rename_i el ht
      split at h
      · rename_i s z hs hz
        split at h
        · rename_i hc
          obtain ⟨l, hl, rfl⟩ := Option.map_eq_some_iff.1 h
          exact ok_buildSlice ho ht hs hz hc hl
        · cases h
      · cases h
    · cases h
  | insert t m k x =>
    rw [ho] at h
    simp only at h
    split at h
    · rename_i kt el ht
      obtain ⟨kd, hk, rfl⟩ := Option.map_eq_some_iff.1 h
      exact ok_mapUpdate (.inr ho) ht hk
    · cases h
  | load t a =>
    rw [ho] at h
    obtain ⟨g, hg, rfl⟩ := Option.map_eq_some_iff.1 h
    exact ok_load ho hg
  | store t a x =>
    rw [ho] at h
    obtain ⟨n, hn, rfl⟩ := Option.map_eq_some_iff.1 h
    exact ok_store ho hn
  | nilCheck x => rw [ho] at h; cases h; exact ok_nilCheck ho
  | binOp bo t x y yt =>
    rw [ho] at h
    simp only at h
    have hraw : OpOK P o (.raw (slim o)) := hns (fun cs b => by simp [ho])
    have key : (bo = .eql ∨ bo = .neq) → (match P.underlying t with
        | some (.pointer el) => match sizeT P el with
          | some (_ + 1) => some (.eq .ptr (isNeq bo) (slim o) x y)
          | _ => some (.raw (slim o))
        | some (.slice _) => some (.eq .slice (isNeq bo) (slim o) x y)
        | some (.map _ _) => some (.eq .map (isNeq bo) (slim o) x y)
        | some (.func _ _ _) => some (.eq .func (isNeq bo) (slim o) x y)
        | some (.interface _) => some (.eq .iface (isNeq bo) (slim o) x y)
        | _ => some (.bin bo (slim o) x y)) = some op → OpOK P o op := by
      intro hbo h
      split at h
      · rename_i el ht
        split at h
        · rename_i n hs; cases h; exact ok_eq (kind := .ptr) ho hbo ⟨el, n, ht, hs⟩
        · cases h; exact hraw
      · rename_i el ht; cases h; exact ok_eq (kind := .slice) ho hbo ⟨el, ht⟩
      · rename_i k el ht; cases h; exact ok_eq (kind := .map) ho hbo ⟨k, el, ht⟩
      · rename_i a b c ht; cases h; exact ok_eq (kind := .func) ho hbo ⟨a, b, c, ht⟩
      · rename_i ms ht; cases h; exact ok_eq (kind := .iface) ho hbo ⟨ms, ht⟩
      · cases h; exact ok_bin ho
    cases bo with
    | eql => exact key (.inl rfl) h
    | neq => exact key (.inr rfl) h
    | _ => cases h; exact ok_bin ho
  | unOp u t x => rw [ho] at h; cases h; exact hns (fun cs b => by simp [ho])
  | convert src dst x =>
    rw [ho] at h
    simp only at h
    have hraw : OpOK P o (.raw (slim o)) := hns (fun cs b => by simp [ho])
    split at h
    · rename_i d k hs hd; cases h; exact ok_conv ho hs hd
    · rename_i el hs hd
      split at h
      · rename_i hel; cases h; exact ok_bytesToStr ho hs hd hel
      · cases h; exact hraw
    · rename_i el hs hd
      split at h
      · rename_i hel hsz; cases h; exact ok_strToBytes ho hs hd hel
      · cases h
    · cases h; exact hraw
  | sliceToArrayPointer t x =>
    rw [ho] at h
    simp only at h
    split at h
    · rename_i n el ht; cases h; exact ok_arrayAt ho ht
    · cases h
  | makeInterface t x =>
    rw [ho] at h
    simp only at h
    split at h
    · cases h
    · rename_i d hd ht; cases h; exact ok_mkIface ho ht (fun ms hm => hd ms (by rw [hm]))
    · cases h
  | makeFunc fn first captured =>
    rw [ho] at h
    simp only at h
    split at h
    · rename_i f; cases h; exact ok_mkFunc ho
    · cases h
  | makeMap t r =>
    rw [ho] at h
    cases r with
    | none => cases h; exact ok_mkMap ho
    | some x => cases h
  | makeSlice t l c =>
    rw [ho] at h
    simp only at h
    split at h
    · rename_i el ht
      split at h
      · rename_i i z hi hz; cases h; exact ok_makeSlice ho ht hi hz
      · cases h
    · cases h
  | slice t x lo hi mx =>
    rw [ho] at h
    simp only at h
    split at h
    · rename_i n el ht
      split at h
      · rename_i s hs
        split at h
        · cases h
        · cases h; exact ok_sliceArr ho (.inl ht) hs
      · cases h
    · rename_i a ht
      split at h
      · rename_i n el hp
        split at h
        · rename_i s hs
          split at h
          · cases h
          · cases h; exact ok_sliceArr ho (.inr ⟨a, ht, hp⟩) hs
        · cases h
      · cases h
    · rename_i el ht
      split at h
      · rename_i s hs
        split at h
        · cases h
        · rename_i hc
          cases h
          refine ok_sliceSl ho ht hs (fun h1 => ?_)
          cases hi with
          | none => exact absurd (.inr ⟨h1, rfl⟩) hc
          | some y => rfl
      · cases h
    · rename_i ht
      split at h
      · cases h; exact ok_sliceStr ho ht
      · cases h
    · cases h
  | fieldAddr s x f =>
    rw [ho] at h
    simp only at h
    split at h
    · rename_i fs hs
      split at h
      · rename_i fd hf
        split at h
        · rename_i n hn
          split at h
          · cases h
          · rename_i h0; cases h; exact ok_fieldAddr ho hs hf hn h0
        · cases h
      · cases h
    · cases h
  | field s x f =>
    rw [ho] at h
    simp only at h
    split at h
    · rename_i fs hs
      split at h
      · rename_i fd hf
        obtain ⟨g, hg, rfl⟩ := Option.map_eq_some_iff.1 h
        exact ok_field ho hs hf hg
      · cases h
    · cases h
  | indexAddr t x i =>
    rw [ho] at h
    simp only at h
    split at h
    · rename_i n el ht
      split at h
      · rename_i s hs
        split at h
        · cases h
        · cases h; exact ok_indexArr ho ht hs
      · cases h
    · rename_i el ht
      split at h
      · rename_i s hs
        split at h
        · cases h
        · cases h; exact ok_indexSl ho ht hs
      · cases h
    · cases h
  | index t x i =>
    rw [ho] at h
    simp only at h
    split at h
    · rename_i n el ht
      split at h
      · rename_i s g hs hg; cases h; exact ok_index ho ht hs hg
      · cases h
    · cases h; exact hns (fun cs b => by simp [ho])
    · cases h
  | lookup t m k ok =>
    rw [ho] at h
    simp only at h
    split at h
    · rename_i kt el ht
      split at h
      · rename_i kd z hk hz; cases h; exact ok_lookup ho ht hk hz
      · cases h
    · cases h
  | mapUpdate t m k x =>
    rw [ho] at h
    simp only at h
    split at h
    · rename_i kt el ht
      obtain ⟨kd, hk, rfl⟩ := Option.map_eq_some_iff.1 h
      exact ok_mapUpdate (.inl ho) ht hk
    · cases h
  | range t x =>
    rw [ho] at h
    simp only at h
    split at h
    · rename_i ht; cases h; exact ok_rangeStr ho ht
    · rename_i k el ht; cases h; exact ok_rangeMap ho ht
    · cases h
  | next it isString =>
    rw [ho] at h
    cases isString with
    | true => cases h; exact ok_nextStr ho
    | false => cases h; exact OpOK.bad fun _ _ => rfl
  | entry it =>
    rw [ho] at h
    cases h; exact ok_entryMap ho
  | typeAssert x xt t ok =>
    rw [ho] at h
    simp only at h
    split at h
    · cases h
    · rename_i d z hd ht hz; cases h; exact ok_assert ho ht (fun ms hm => hd ms (by rw [hm])) hz
    · cases h
  | extract x i => rw [ho] at h; cases h; exact ok_extract ho
  | panic x => rw [ho] at h; cases h; exact ok_panic ho
  | call c =>
    rw [ho] at h
    simp only at h
    split at h
    · rename_i f hcl
      split at h
      · cases h; exact ok_ext ho hcl rfl
      · cases h; exact OpOK.bad fun _ _ => rfl
    · cases h; exact OpOK.bad fun _ _ => rfl
    · rename_i b hc; exact builtin_sound ho hc h
  | defer c =>
    rw [ho] at h
    simp only at h
    split at h
    · cases h; exact OpOK.bad fun _ _ => rfl
    · cases h
  | _ => rw [ho] at h; cases h
end
end Go.Vm

/- A small machine over an abstract heap: one operation, calls among them. -/
set_option linter.unusedSimpArgs false
namespace Go.Vm
open Go.RowKit
def EntR (g : Gh) (a a' : PanicEntry) : Prop := VR g a.v a'.v ∧ a'.recovered = a.recovered ∧ a'.goexit = a.goexit
inductive ChR (g : Gh) : List PanicEntry → List PanicEntry → Prop
  | nil : ChR g [] []
  | cons {a a' : PanicEntry} {l l' : List PanicEntry} : EntR g a a' → ChR g l l' → ChR g (a :: l) (a' :: l')
theorem ChR.mono {g g' : Gh} (hl : Le g g') : ∀ {l l' : List PanicEntry}, ChR g l l' → ChR g' l l'
  | _, _, .nil => .nil
  | _, _, .cons h t => .cons ⟨h.1.mono hl, h.2⟩ (ChR.mono hl t)
def CPost (B : Nat) (w0 : World) (g : Gh) (outs : List CO) : Ending → World → Prop
  | .returned v, w' => ∃ g' u h', CO.ret u h' ∈ outs ∧ Le g g' ∧ HR g' h' B w0 w' ∧ VR g' u v
  | .panicked c', w' => ∃ g' c h', CO.pan c h' ∈ outs ∧ Le g g' ∧ HR g' h' B w0 w' ∧ ChR g' c c'
  | .outgrown, _ => False
def FnOK (P : Program) (f : FuncId) : Prop := ∃ fn, P.funcs[f]? = some fn ∧ fn.body.isSome = true ∧ (fn.name == "runtime.NumGoroutine") = false
def FR (ro : Option Nat) : Fence := { fn := fun _ => True, depth := none, alive := false, round := ro }
def YieldOK (P : Program) (call : Caller) : Prop :=
  ∀ (l l' : Nat) (args args' : List Value) (g : Gh) (h : Heap) (B : Nat) (w0 w : World), HR g h B w0 w → VRL g args args' → BR g l l' → (∀ o ∈ call (.yield l) args h, o ≠ .bad) →
    ∃ f tmps assign body, (Instr.yield l' ⟨args'⟩).run P w = .ok (.round l' f tmps assign body) w ∧ ∀ ro n, RoundIn (FR ro) n P l' f tmps assign body w (CPost B w0 g (call (.yield l) args h))
def CallOK (P : Program) (call : Caller) : Prop :=
  YieldOK P call ∧ ∀ (f : FuncId) (args args' : List Value) (g : Gh) (h : Heap) (B : Nat) (w0 w : World), HR g h B w0 w → VRL g args args' → (∀ o ∈ call (.fn f) args h, o ≠ .bad) →
    FnOK P f ∧ Calls P f ⟨args'⟩ w (CPost B w0 g (call (.fn f) args h))
def eval' (a : Act) : Operand → Value
  | .const v => match ground v with
    | true => v
    | false => undef
  | x => a.eval x
theorem eval_vr {g : Gh} {h : Heap} {B : Nat} {w0 w : World} (hr : HR g h B w0 w) {ts : List Value} {a : Act} (hts : VRL g ts a.tmps.toList) (x : Operand) : VR g (eval ts x) (eval' a x) := by
  cases x with
  | tmp t =>
    have := lget_vr hts t
    simpa [eval, eval', Act.eval, List.getD] using this
  | const v =>
    simp only [eval, eval']
    cases hg : ground v
    · exact .gr rfl
    · exact .gr hg
  | global n =>
    have hz := hr.zero
    have := (List.getElem?_eq_some_iff.1 hz).1
    exact .ptr ⟨this, fun x hx => by simp only at hx; rw [hz] at hx; cases hx⟩
  | func f => exact .gr rfl
section
variable {P : Program} {o : Oper} {op : AOp}
theorem eval_ok {a : Act} {x : Operand} (h : okOpd x = true) : eval' a x = a.eval x := by
  cases x with
  | const v => simp only [okOpd] at h; simp [eval', h, Act.eval]
  | _ => rfl
theorem exec_eval {a : Act} (hok : o.op.operands.toList.all okOpd = true) (hs : ∀ cs b, o.op ≠ .select cs b) : execOp a.eval o = execOp (eval' a) o :=
  execOp_congr o hs fun x hx => (eval_ok (List.all_eq_true.1 hok x (by simpa using hx))).symm
theorem comp_noselect (h : compOp P o = some op) : ∀ cs b, o.op ≠ .select cs b := by
  intro cs b ho
  unfold compOp at h
  simp only [show (slim o).op = o.op from rfl] at h
  rw [ho] at h; cases h
theorem callFunc_run {f : FuncId} (hf : FnOK P f) (args : Array Value) (w : World) : (callFunc f args).run P w = .ok (.enter f args) w := by
  obtain ⟨fn, h1, h2, h3⟩ := hf
  obtain ⟨b, hb⟩ := Option.isSome_iff_exists.1 h2
  simp [callFunc, h1, hb, beq_eq_false_iff_ne.1 h3]
def isCall : AOp → Bool
  | .callV _ _ | .invoke _ _ _ | .nextMap _ | .defer _ _ | .recover => true
  | _ => false
variable {g : Gh} {h : Heap} {B : Nat} {w0 w : World} {ts : List Value} {a a1 : Act} {K : Act → World → Prop} {Q : Exit → Act → World → Prop}
structure Owes (B : Nat) (w0 : World) (g : Gh) (o : Oper) (a : Act) (K : Act → World → Prop) (Q : Exit → Act → World → Prop) (outs : List CO) : Prop where
  ret : ∀ v h', CO.ret v h' ∈ outs → ∀ g' v' w', Le g g' → HR g' h' B w0 w' → VR g' v v' → K (a.put o.dst v') w'
  pan : ∀ c h', CO.pan c h' ∈ outs → ∀ g' c' w', Le g g' → HR g' h' B w0 w' → ChR g' c c' → Q (.panic c') a w'
theorem enter_wp {call : Caller} (hcall : CallOK P call) (hr : HR g h B w0 w) {f : FuncId} {args args' : List Value} (hv : VRL g args args') (hg : ∀ co ∈ call (.fn f) args h, co ≠ .bad)
    (how : Owes B w0 g o a K Q (call (.fn f) args h)) (hrun : FnOK P f → (execOp a.eval o).run P w = .ok (.enter f ⟨args'⟩) w) : o.wp P a w K Q := by
  obtain ⟨hf, hc⟩ := hcall.2 f args args' g h B w0 w hr hv hg
  unfold Oper.wp
  rw [hrun hf, Oper.upon_enter]
  refine hc.mono fun e w' he => ?_
  cases e with
  | returned v =>
    obtain ⟨g', u, h', hm, hl, hr', hvr⟩ := he
    exact how.ret u h' hm g' v w' hl hr' hvr
  | panicked c =>
    obtain ⟨g', u, h', hm, hl, hr', hvr⟩ := he
    exact how.pan u h' hm g' c w' hl hr' hvr
  | outgrown => exact he.elim
theorem simple_wp (hae : execOp a.eval o = execOp a1.eval o) (hc : compOp P o = some op) (hok : o.op.operands.toList.all okOpd = true) (hr : HR g h B w0 w) (hts : VRL g ts a1.tmps.toList) {outs : List CO}
    (houts : outs = match xop P (eval ts) h op with
      | .ok v h' => [.ret v h']
      | .pan v h' => [.pan [{ v, recovered := false }] h']
      | .bad => [.bad])
    (hg : ∀ co ∈ outs, co ≠ .bad) (how : Owes B w0 g o a K Q outs) : o.wp P a w K Q := by
  have hs := xop_sound hc g h B w0 w (eval ts) (eval' a1) hr (eval_vr hr hts)
  unfold Oper.wp
  rw [hae, exec_eval hok (comp_noselect hc)]
  cases hx : xop P (eval ts) h op with
  | ok v h' =>
    rw [hx] at hs houts
    obtain ⟨g', v', w', nx, h1, h2, h3, h4, h5⟩ := hs
    rw [h1]
    have := how.ret v h' (by rw [houts]; simp) g' v' w' h3 h4 h5
    rcases h2 with rfl | ⟨rfl, rfl⟩
    · exact this
    · exact this
  | pan v h' =>
    rw [hx] at hs houts
    obtain ⟨g', v', w', h1, h3, h4, h5⟩ := hs
    rw [h1]
    exact how.pan [{ v := v, recovered := false }] h' (by rw [houts]; simp) g' [{ v := v', recovered := false }] w' h3 h4 (.cons ⟨h5, rfl, rfl⟩ .nil)
  | bad => rw [hx] at houts; exact absurd rfl (hg .bad (by rw [houts]; simp))
theorem callV_wp (hae : execOp a.eval o = execOp a1.eval o) {call : Caller} (hcall : CallOK P call) {f : Operand} {args : List Operand} {c : Call} (ho : o.op = .call c) (hcl : c.callee = .value f) (hargs : c.args.toList = args) (hok : o.op.operands.toList.all okOpd = true)
    (hr : HR g h B w0 w) (hts : VRL g ts a1.tmps.toList) (hg : ∀ co ∈ xo P call ts h (.callV f args), co ≠ .bad) (how : Owes B w0 g o a K Q (xo P call ts h (.callV f args))) (hny : ∀ l vs, target (eval ts f) (args.map (eval ts)) ≠ some (some (.yield l, vs))) : o.wp P a w K Q := by
  have hfv := eval_vr hr hts f
  have hav : VRL g (args.map (eval ts)) (args.map (eval' a1)) := VRL.map fun x _ => eval_vr hr hts x
  have hex := hae.trans (exec_eval (a := a1) hok (fun cs b => by simp [ho]))
  have hres : ∀ w, (execOp (eval' a1) o).run P w = ((Deferred.ofValue (eval' a1 f) ⟨args.map (eval' a1)⟩ >>= fun d => invoke d.target d.args)).run P w := fun w => by
    simp only [execOp, ho, resolve, hcl]
    rw [show c.args.map (eval' a1) = ⟨args.map (eval' a1)⟩ from by rw [← hargs]; apply Array.ext'; simp]
  simp only [xo] at hg how
  split at hg
  · rename_i t vs htgt
    rw [htgt] at how
    unfold target at htgt
    split at htgt
    · rename_i fid first captured hf
      cases htgt
      rw [hf] at hfv
      obtain ⟨first', captured', hf', h1, h2⟩ := hfv.func_inv
      refine enter_wp hcall hr ((h1.append hav).append h2) hg how fun hfn => ?_
      rw [hex, hres, hf']
      simp only [Deferred.ofValue, Sem.run_bind, Sem.run_pure, Result.andThen_ok, invoke]
      rw [callFunc_run hfn]
      simp
    · rename_i l hf
      rw [hf] at hny
      exact absurd rfl (hny l _)
    · cases htgt
    · cases htgt
  · rename_i htgt
    rw [htgt] at how
    simp only [nilDeref] at hg how
    unfold target at htgt
    split at htgt
    · cases htgt
    · cases htgt
    · rename_i hf
      rw [hf] at hfv
      have hf' := hfv.eq_ground rfl
      unfold Oper.wp
      rw [hex, hres, hf']
      simp only [Deferred.ofValue, Sem.run_bind, Sem.run_pure, Result.andThen_ok, invoke, run_nilDeref]
      exact how.pan _ h (by simp) g _ w (Le.refl _) hr (.cons ⟨.gr rfl, rfl, rfl⟩ .nil)
    · cases htgt
  · exact absurd rfl (hg .bad (by simp))
theorem callsIn_fr {ro : Option Nat} {n : Nat} {f : FuncId} {args : Array Value} {R : Ending → World → Prop} (h : Calls P f args w R) : CallsIn (FR ro) n P f args w R := by
  have h1 := (callsIn_wide (n := n)).2 h
  cases ro with
  | none => exact h1
  | some l => exact h1
theorem stepsIn_fr {ro : Option Nat} {m m' : Machine} (h : Steps P m m') : StepsIn (Machine.fenced P (FR ro)) P m m' := by
  have h1 := (stepsIn_wide (P := P)).2 h
  cases ro with
  | none => exact h1
  | some l => exact h1
theorem wpIn_of_wp {ro : Option Nat} {n : Nat} (hnd : ∀ c, o.op ≠ .defer c) (h : o.wp P a w K Q) : o.wpIn (FR ro) n P a w K Q := by
  refine ⟨fun _ _ => trivial, ?_⟩
  rw [show (FR ro).round = ro from rfl, Oper.semAt_eq ro a.eval o hnd]
  unfold Oper.wp at h
  generalize (execOp a.eval o).run P w = r at h ⊢
  cases r with
  | ok nx w' =>
    cases nx with
    | enter f args => exact ⟨(fun h => by cases h), callsIn_fr h⟩
    | row row args => exact ⟨(fun h => by cases h), fun c cs _ => let ⟨v, w', r, s⟩ := h c cs; ⟨v, w', r, stepsIn_fr s⟩⟩
    | _ => first | exact h | exact h.elim
  | halt x w' => cases x <;> first | exact h | exact h.elim
theorem yield_wp (hae : execOp a.eval o = execOp a1.eval o) {call : Caller} (hcall : CallOK P call) {f : Operand} {args : List Operand} {c : Call} (ho : o.op = .call c) (hcl : c.callee = .value f) (hargs : c.args.toList = args) (hok : o.op.operands.toList.all okOpd = true)
    (hr : HR g h B w0 w) (hts : VRL g ts a1.tmps.toList) {l : Nat} (hf : eval ts f = .func (.yield l) ⟨[]⟩ ⟨[]⟩) (hg : ∀ co ∈ call (.yield l) (args.map (eval ts)) h, co ≠ .bad) (how : Owes B w0 g o a K Q (call (.yield l) (args.map (eval ts)) h)) {ro : Option Nat} {n : Nat} : o.wpIn (FR ro) n P a w K Q := by
  have hfv := eval_vr hr hts f
  have hav : VRL g (args.map (eval ts)) (args.map (eval' a1)) := VRL.map fun x _ => eval_vr hr hts x
  have hex := hae.trans (exec_eval (a := a1) hok (fun cs b => by simp [ho]))
  have hres : ∀ w, (execOp (eval' a1) o).run P w = ((Deferred.ofValue (eval' a1 f) ⟨args.map (eval' a1)⟩ >>= fun d => invoke d.target d.args)).run P w := fun w => by
    simp only [execOp, ho, resolve, hcl]
    rw [show c.args.map (eval' a1) = ⟨args.map (eval' a1)⟩ from by rw [← hargs]; apply Array.ext'; simp]
  rw [hf] at hfv
  obtain ⟨l', hf', hbr⟩ : ∃ l', eval' a1 f = .func (.yield l') ⟨[]⟩ ⟨[]⟩ ∧ BR g l l' := by
    generalize eval' a1 f = v at hfv
    cases hfv with
    | gr h => simp [ground] at h
    | yield h => exact ⟨_, rfl, h⟩
  obtain ⟨fn, tmps, assign, body, hy, hround⟩ := hcall.1 l l' _ _ g h B w0 w hr hav hbr hg
  refine ⟨fun _ _ => trivial, ?_⟩
  rw [show (FR ro).round = ro from rfl, Oper.semAt_eq ro a.eval o (fun c => by simp [ho]), hex, hres, hf']
  simp only [Deferred.ofValue, Sem.run_bind, Sem.run_pure, Result.andThen_ok, invoke]
  have e1 : (#[] : Array Value) ++ (⟨args.map (eval' a1)⟩ : Array Value) = ⟨args.map (eval' a1)⟩ := by simp
  simp only [e1, Array.append_empty, hy]
  refine ⟨(fun h => by cases h), (hround ro (n - 1)).mono fun e w' he => ?_⟩
  cases e with
  | returned v =>
    obtain ⟨g', u, h', hm, hl, hr', hvr⟩ := he
    exact how.ret u h' hm g' v w' hl hr' hvr
  | panicked c =>
    obtain ⟨g', u, h', hm, hl, hr', hvr⟩ := he
    exact how.pan u h' hm g' c w' hl hr' hvr
  | outgrown => exact he.elim
theorem wrapNil_eq (ts : Array TypeId) (t : TypeId) (a : Addr) (s m : ByteArray) : Builtin.ssaWrapNilChk_ ts t #[.pointer (some a), .string s, .string m] = pure (.pointer (some a)) := rfl
theorem methodOf_run {t : TypeId} {v v' : Value} {name : String} {f : FuncId} {recv : Value} (hm : methodOf P h t v name = some (f, recv)) (hr : HR g h B w0 w) (hv : VR g v v') :
    ∃ recv', (method (P.types.size + Made.depth) t v' name).run P w = .ok (f, recv') w ∧ VR g recv recv' := by
  unfold methodOf at hm
  cases hi : P.info? t with
  | none => simp [hi] at hm
  | some i =>
    simp only [hi] at hm
    cases hfind : i.methods.find? (·.name == name) with
    | none => simp [hfind] at hm
    | some m =>
      simp only [hfind] at hm
      cases hempty : m.path.isEmpty with
      | false => simp [hempty] at hm
      | true =>
        have hpath : m.path.toList = [] := by
          have : m.path = #[] := by simpa using hempty
          rw [this]
        have hdep : P.types.size + Made.depth = (P.types.size + Made.depth - 1) + 1 := by
          have : 0 < Made.depth := by decide
          omega
        cases hmf : m.func with
        | none => simp [hempty, hmf] at hm
        | some fp =>
          obtain ⟨fid, pr⟩ := fp
          cases hu : P.underlying t with
          | none => simp [hempty, hmf, hu] at hm
          | some d =>
            simp only [hempty, if_true, hmf, hu] at hm
            rw [hdep]
            simp only [method, Sem.run_bind, run_info hi, Result.andThen_ok, hfind, hpath, follow, Sem.run_pure, hmf, hempty, if_true, receiverAt, run_under hu, Place.get]
            cases pr with
            | true =>
              cases d <;> simp at hm
              obtain ⟨rfl, rfl⟩ := hm
              exact ⟨_, rfl, hv⟩
            | false =>
              cases d with
              | pointer el =>
                simp only at hm
                split at hm
                · rename_i a n hag
                  obtain ⟨c, hc, hcc⟩ := Option.map_eq_some_iff.1 hm
                  cases hcc
                  obtain ⟨a', ha', har⟩ := hv.pointer
                  subst ha'
                  obtain ⟨c', hrun, hcr⟩ := loadCells_sound (P := P) hr hc har rfl rfl
                  obtain ⟨h1, h2⟩ := aggOf_some hag
                  exact ⟨.agg ⟨c'⟩, by simp [wrapNil_eq, strVal, asAddr, loadVar, h1, run_size h2, hrun], .agg hcr⟩
                · rename_i a hag
                  split at hm
                  · rename_i u r hc
                    cases hm
                    obtain ⟨a', ha', har⟩ := hv.pointer
                    subst ha'
                    obtain ⟨u', hrun, hvr⟩ := loadOne_sound (P := P) hr hc har rfl rfl
                    have h1 := aggOf_none hag
                    refine ⟨u', ?_, hvr⟩
                    simp only [wrapNil_eq, strVal, asAddr, loadVar, h1, hrun, Sem.run_bind, Sem.run_pure, Result.andThen_ok, Bool.false_eq_true, if_false]
                  · cases hm
                · cases hm
              | _ => simp at hm <;> obtain ⟨rfl, rfl⟩ := hm <;> exact ⟨_, rfl, hv⟩
theorem invoke_wp (hae : execOp a.eval o = execOp a1.eval o) {call : Caller} (hcall : CallOK P call) {r : Operand} {name : String} {args : List Operand} {c : Call} (ho : o.op = .call c) (hcl : c.callee = .invoke r name) (hargs : c.args.toList = args) (hok : o.op.operands.toList.all okOpd = true)
    (hr : HR g h B w0 w) (hts : VRL g ts a1.tmps.toList) (hg : ∀ co ∈ xo P call ts h (.invoke r name args), co ≠ .bad) (how : Owes B w0 g o a K Q (xo P call ts h (.invoke r name args))) : o.wp P a w K Q := by
  have hrv := eval_vr hr hts r
  have hav : VRL g (args.map (eval ts)) (args.map (eval' a1)) := VRL.map fun x _ => eval_vr hr hts x
  have hex := hae.trans (exec_eval (a := a1) hok (fun cs b => by simp [ho]))
  have hres : ∀ w, (execOp (eval' a1) o).run P w = (callMethod (eval' a1 r) name ⟨args.map (eval' a1)⟩).run P w := fun w => by
    have e1 : c.args.map (eval' a1) = ⟨args.map (eval' a1)⟩ := by rw [← hargs]; apply Array.ext'; simp
    have e2 : (#[eval' a1 r] ++ (⟨args.map (eval' a1)⟩ : Array Value)).extract 1 (#[eval' a1 r] ++ (⟨args.map (eval' a1)⟩ : Array Value)).size = ⟨args.map (eval' a1)⟩ := by
      apply Array.ext'; simp; exact List.take_of_length_le (by simp)
    simp only [execOp, ho, resolve, hcl, e1, Sem.run_bind, Sem.run_pure, Result.andThen_ok, invoke]
    simp only [Array.getElem?_append, List.size_toArray, List.length_cons, List.length_nil]
    simp [e2]
    rw [List.take_of_length_le (by simp)]
  simp only [xo] at hg how
  split at hg
  · rename_i t v hv
    rw [hv] at how hrv
    obtain ⟨v', hv', hvv⟩ := hrv.iface_inv
    simp only at how
    split at hg
    · rename_i f recv hm
      rw [hm] at how
      obtain ⟨recv', hmr, hvr⟩ := methodOf_run hm hr hvv
      refine enter_wp hcall hr (.cons hvr hav) hg how fun hfn => ?_
      rw [hex, hres, hv']
      simp only [callMethod, Sem.run_bind, run_program, Result.andThen_ok, hmr, callFunc_run hfn]
      simp
    · exact absurd rfl (hg .bad (by simp))
  · exact absurd rfl (hg .bad (by simp))
end
end Go.Vm

/- A small machine over an abstract heap: a map's next entry; one operation, all kinds. -/
set_option linter.unusedSimpArgs false
namespace Go.Vm
open Go.RowKit
theorem ERL.filter {g : Gh} (p : Nat → Bool) : ∀ {l l' : List MapEntry}, ERL g l l' → ERL g (l.filter fun e => p e.born) (l'.filter fun e => p e.born)
  | _, _, .nil => .nil
  | _, _, .cons h t => by
    simp only [List.filter_cons, h.2.2]
    split
    · exact .cons h (ERL.filter p t)
    · exact ERL.filter p t
theorem ERL.get {g : Gh} : ∀ {l l' : List MapEntry}, ERL g l l' → ∀ {i : Nat} {e' : MapEntry}, l'[i]? = some e' → ∃ e, l[i]? = some e ∧ ER g e e'
  | _, _, .nil, i, e', h => by simp at h
  | _, _, .cons he _, 0, e', h => by simp at h; subst h; exact ⟨_, by simp, he⟩
  | _, _, .cons _ ht, i + 1, e', h => by simp at h ⊢; exact ERL.get ht h
theorem ERL.all {g : Gh} (p : Nat → Bool) : ∀ {l l' : List MapEntry}, ERL g l l' → l'.all (fun e => p e.born) = l.all fun e => p e.born
  | _, _, .nil => rfl
  | _, _, .cons h t => by simp only [List.all_cons, h.2.2, ERL.all p t]
theorem ERL.isEmpty {g : Gh} : ∀ {l l' : List MapEntry}, ERL g l l' → l'.isEmpty = l.isEmpty
  | _, _, .nil => rfl
  | _, _, .cons _ _ => rfl
section
variable {P : Program} {o : Oper} {op : AOp} {g : Gh} {h : Heap} {B : Nat} {w0 w : World} {ts : List Value} {a a1 : Act} {K : Act → World → Prop} {Q : Exit → Act → World → Prop}
theorem nextMap_wp (hae : execOp a.eval o = execOp a1.eval o) {it : Operand} (ho : o.op = .next it false) (hok : o.op.operands.toList.all okOpd = true) (hr : HR g h B w0 w) (hts : VRL g ts a1.tmps.toList) {l : List (Value × Heap)} (hl : nextAt h (eval ts it) = some l)
    (how : Owes B w0 g o a K Q (l.map fun p => .ret p.1 p.2)) : o.wp P a w K Q := by
  have hiv := eval_vr hr hts it
  have hex := hae.trans (exec_eval (a := a1) hok (fun cs b => by simp [ho]))
  have hrun : ∀ w, (execOp (eval' a1) o).run P w = ((Instr.next (eval' a1 it) false o.type).run P w).andThen fun v w' => .ok (.value v) w' := fun w => by
    simp only [execOp, ho, Sem.run_bind]; rfl
  have hK : ∀ v h', (v, h') ∈ l → ∀ g' v' w', Le g g' → HR g' h' B w0 w' → VR g' v v' → K (a.put o.dst v') w' := fun v h' hm => how.ret v h' (List.mem_map.2 ⟨_, hm, rfl⟩)
  unfold Oper.wp
  rw [hex, hrun]
  unfold nextAt at hl
  split at hl
  · rename_i r hit
    rw [hit] at hiv
    obtain ⟨a', hit', har⟩ := hiv.pointer
    rw [hit']
    split at hl
    · rename_i since seen last hg
      cases hl
      obtain ⟨x, hx, m', hob, hmr, hsh⟩ := hr.of_obj hg (by simp)
      have ha' := har.2 x hx
      simp only [hsh, Nat.add_zero] at ha'
      subst ha'
      cases m' with
      | some m' => simp [MR] at hmr
      | none =>
        have hget : (getObj x.b).run P w = .ok (.mapIter none since ⟨seen⟩ last) w := by simp [getObj, Sem.run, hob]
        simp only [Instr.next, Sem.run_bind, hget, Result.andThen_ok, Sem.run_pure]
        exact hK _ _ (by simp) g _ w (Le.refl _) hr (.gr (by simp [ground, groundA, groundL]))
    · rename_i m since seen last hg
      split at hl
      · rename_i es clock hgm
        split at hl
        · cases hl
        rename_i hun
        cases hl
        obtain ⟨x, hx, m', hob, hmr, hsh⟩ := hr.of_obj hg (by simp)
        have ha' := har.2 x hx
        simp only [hsh, Nat.add_zero] at ha'
        subst ha'
        cases m' with
        | none => simp [MR] at hmr
        | some m' =>
        have hmr : BR g m m' := hmr
        obtain ⟨y, es', hy, hyb, hmo, her, _⟩ := hr.of_map hgm hmr
        have hget : (getObj x.b).run P w = .ok (.mapIter (some m') since ⟨seen⟩ last) w := by simp [getObj, Sem.run, hob]
        have hun' : ¬ ((!(⟨seen⟩ : Array Nat).isEmpty && !(⟨es'⟩ : Array MapEntry).isEmpty && (⟨es'⟩ : Array MapEntry).all fun e => decide (e.born ≥ last)) = true) := by
          have e1 := her.all (fun b => decide (b ≥ last))
          have e2 := her.isEmpty
          simp only [List.isEmpty_toArray, List.all_toArray] at *
          rw [e1, e2]; exact hun
        simp only [Instr.next, Sem.run_bind, hget, Result.andThen_ok, run_getObj_map hmo]
        rw [if_neg hun']
        simp only [Sem.run_bind]
        -- the candidates, here and there
        generalize hleft' : (⟨es'⟩ : Array MapEntry).filter (fun e => !(⟨seen⟩ : Array Nat).contains e.born) = left'
        have hl1 : left' = ⟨es'.filter fun e => !seen.contains e.born⟩ := by rw [← hleft']; apply Array.ext'; simp
        subst hl1
        have hlr := her.filter (fun b => !seen.contains b)
        generalize hold' : Array.filter (fun x => decide (x.born < since)) (⟨es'.filter fun e => !seen.contains e.born⟩ : Array MapEntry) = old'
        have ho1 : old' = ⟨(es'.filter fun e => !seen.contains e.born).filter fun e => decide (e.born < since)⟩ := by rw [← hold']; apply Array.ext'; simp
        subst ho1
        generalize hnew' : Array.filter (fun x => decide (x.born ≥ since)) (⟨es'.filter fun e => !seen.contains e.born⟩ : Array MapEntry) = new'
        have hn1 : new' = ⟨(es'.filter fun e => !seen.contains e.born).filter fun e => decide (e.born ≥ since)⟩ := by rw [← hnew']; apply Array.ext'; simp
        subst hn1
        have hor := hlr.filter (fun b => decide (b < since))
        have hnr := hlr.filter (fun b => decide (b ≥ since))
        clear hold' hnew' hleft' hun'
        generalize (es.filter fun e => !seen.contains e.born).filter (fun e => decide (e.born < since)) = old at *
        generalize (es'.filter fun e => !seen.contains e.born).filter (fun e => decide (e.born < since)) = old' at *
        generalize (es.filter fun e => !seen.contains e.born).filter (fun e => decide (e.born ≥ since)) = new at *
        generalize (es'.filter fun e => !seen.contains e.born).filter (fun e => decide (e.born ≥ since)) = new' at *
        have hoe := hor.isEmpty
        have hcomb := hor.append hnr
        generalize hcd : ((if (⟨old'⟩ : Array MapEntry).isEmpty = true then #[none] else #[]) ++ ((⟨old'⟩ : Array MapEntry) ++ ⟨new'⟩).map some : Array (Option MapEntry)) = cd
        have hcd' : cd.toList = (if old'.isEmpty then [none] else []) ++ (old' ++ new').map some := by
          rw [← hcd]; simp; split <;> simp_all
        -- whichever comes up
        have main : ∀ (k : Nat) (w' : World), HR g h B w0 w' → w'.heap = w.heap → k < cd.size →
            Oper.upon P o a K Q (((match cd[k]? with
              | some (some e) => do
                setObj x.b (.mapIter (some m') since ((⟨seen⟩ : Array Nat).push e.born) clock)
                pure (.tuple #[.bool true, e.key, e.val])
              | some none => pure (.tuple #[.bool false])
              | none => stuck "Next: no such candidate" : Sem Value).run P w').andThen fun v w' => .ok (.value v) w') := by
          intro k w' hr' hw' hk
          have hob' : w'.heap[x.b]? = some (.mapIter (some m') since ⟨seen⟩ last) := by rw [hw']; exact hob
          have hkl : cd[k]? = some (cd[k]'hk) := by simp [hk]
          rw [hkl]
          have hck : cd.toList[k]? = some cd[k] := by simp
          rw [hcd'] at hck
          cases hval : cd[k] with
          | none =>
            rw [hval] at hck
            simp only [Sem.run_pure, Result.andThen_ok]
            have hemp : old.isEmpty = true := by
              by_cases hh : old'.isEmpty = true
              · rw [← hoe]; exact hh
              · exfalso
                rw [if_neg hh, List.nil_append, List.getElem?_map] at hck
                obtain ⟨q, _, hq⟩ := Option.map_eq_some_iff.1 hck
                cases hq
            exact hK (.tuple #[.bool false]) h (by simp [hemp]) g _ w' (Le.refl _) hr' (.gr (by simp [ground, groundA, groundL]))
          | some e' =>
            rw [hval] at hck
            have hset := run_setObj (P := P) (o' := .mapIter (some m') since ((⟨seen⟩ : Array Nat).push e'.born) clock) hob' (by simp)
            simp only [Sem.run_bind, hset, Result.andThen_ok, Sem.run_pure]
            have hfind : ∃ i : Nat, (old' ++ new')[i]? = some e' := by
              have hmem := List.mem_of_getElem? hck
              rcases List.mem_append.1 hmem with h1 | h1
              · exfalso; split at h1 <;> simp at h1
              · obtain ⟨q, hq, hq2⟩ := List.mem_map.1 h1
                cases hq2
                exact List.mem_iff_getElem?.1 hq
            obtain ⟨i, hi⟩ := hfind
            obtain ⟨e, hei, her'⟩ := hcomb.get hi
            refine hK (.tuple #[.bool true, e.key, e.val]) (h.set r (.mapIter (some m) since (seen ++ [e.born]) clock)) ?_ g _ _ (Le.refl _) ?_ (.tuple (.cons (.gr rfl) (.cons her'.1 (.cons her'.2.1 .nil))))
            · refine List.mem_append_right _ (List.mem_map.2 ⟨e, List.mem_of_getElem? hei, rfl⟩)
            · refine hr'.set hx (by rw [hg]; rfl) rfl rfl rfl rfl ⟨some m', ?_, hmr, hsh⟩
              rw [heap_withBlock hob']
              congr 2
              rw [her'.2.2]
              apply Array.ext'; simp
        have hsz : 0 < cd.size := by
          have : cd.toList.length = cd.size := by simp
          rw [← this, hcd']
          by_cases hh : old'.isEmpty = true
          · simp [hh]
          · cases old' with
            | nil => simp at hh
            | cons p q => simp
        rw [run_choose]
        by_cases hfo : (Question.mapNext cd.size).forced = true
        · rw [if_pos hfo]
          simp only [Result.andThen_ok]
          exact main 0 w hr rfl hsz
        · rw [if_neg hfo]
          simp only [Result.andThen_ok]
          exact main _ _ (hr.drawn _) rfl (Nat.mod_lt _ hsz)
      · cases hl
    · cases hl
  · cases hl
theorem builtin_not {b : Builtin} {c : Call} {o' : Oper} (h : compBuiltin P b c o' = some op) : (∀ f args, op ≠ .callV f args) ∧ (∀ r n args, op ≠ .invoke r n args) ∧ (∀ it, op ≠ .nextMap it) ∧ (∀ f args, op ≠ .defer f args) := by
  unfold compBuiltin at h
  repeat' split at h
  all_goals first
    | (cases h; done)
    | (obtain ⟨_, _, rfl⟩ := Option.map_eq_some_iff.1 h; exact ⟨fun _ _ => by simp, fun _ _ _ => by simp, fun _ => by simp, fun _ _ => by simp⟩)
    | (cases h; exact ⟨fun _ _ => by simp, fun _ _ _ => by simp, fun _ => by simp, fun _ _ => by simp⟩)
theorem comp_cases (h : compOp P o = some op) :
    (∃ c f, o.op = .call c ∧ c.callee = .value f ∧ op = .callV f c.args.toList) ∨ (∃ c r n, o.op = .call c ∧ c.callee = .invoke r n ∧ op = .invoke r n c.args.toList) ∨
    (∃ it, o.op = .next it false ∧ op = .nextMap it) ∨ (∃ c f, o.op = .defer c ∧ c.callee = .value f ∧ op = .defer f c.args.toList) ∨
    ((∀ f args, op ≠ .callV f args) ∧ (∀ r n args, op ≠ .invoke r n args) ∧ (∀ it, op ≠ .nextMap it) ∧ (∀ f args, op ≠ .defer f args)) := by
  unfold compOp at h
  simp only [show (slim o).op = o.op from rfl] at h
  cases ho : o.op with
  | call c =>
    rw [ho] at h
    simp only at h
    split at h
    · rename_i f hc
      split at h
      · cases h; exact .inr (.inr (.inr (.inr ⟨fun _ _ => by simp, fun _ _ _ => by simp, fun _ => by simp, fun _ _ => by simp⟩)))
      · cases h; exact .inl ⟨c, f, rfl, hc, rfl⟩
    · rename_i r n hc; cases h; exact .inr (.inl ⟨c, r, n, rfl, hc, rfl⟩)
    · exact .inr (.inr (.inr (.inr (builtin_not h))))
  | next it s =>
    rw [ho] at h
    cases s with
    | true => cases h; exact .inr (.inr (.inr (.inr ⟨fun _ _ => by simp, fun _ _ _ => by simp, fun _ => by simp, fun _ _ => by simp⟩)))
    | false => cases h; exact .inr (.inr (.inl ⟨it, rfl, rfl⟩))
  | defer c =>
    rw [ho] at h
    simp only at h
    split at h
    · rename_i f hc; cases h; exact .inr (.inr (.inr (.inl ⟨c, f, rfl, hc, rfl⟩)))
    · cases h
  | makeMap t r =>
    rw [ho] at h
    cases r with
    | none => cases h; exact .inr (.inr (.inr (.inr ⟨fun _ _ => by simp, fun _ _ _ => by simp, fun _ => by simp, fun _ _ => by simp⟩)))
    | some x => cases h
  | _ =>
    rw [ho] at h
    refine .inr (.inr (.inr (.inr ?_)))
    try simp only at h
    repeat' split at h
    all_goals first
      | (cases h; done)
      | (obtain ⟨_, _, rfl⟩ := Option.map_eq_some_iff.1 h; exact ⟨fun _ _ => by simp, fun _ _ _ => by simp, fun _ => by simp, fun _ _ => by simp⟩)
      | (cases h; exact ⟨fun _ _ => by simp, fun _ _ _ => by simp, fun _ => by simp, fun _ _ => by simp⟩)
theorem comp_defer (h : compOp P o = some op) {c : Call} (ho : o.op = .defer c) : ∃ f args, op = .defer f args := by
  unfold compOp at h
  simp only [show (slim o).op = o.op from rfl] at h
  rw [ho] at h
  simp only at h
  split at h
  · cases h; exact ⟨_, _, rfl⟩
  · cases h
theorem xo_wp (hae : execOp a.eval o = execOp a1.eval o) {call : Caller} (hcall : CallOK P call) (hc : compOp P o = some op) (hok : o.op.operands.toList.all okOpd = true) (hr : HR g h B w0 w) (hts : VRL g ts a1.tmps.toList)
    (hg : ∀ co ∈ xo P call ts h op, co ≠ .bad) (how : Owes B w0 g o a K Q (xo P call ts h op)) {ro : Option Nat} {n : Nat} : o.wpIn (FR ro) n P a w K Q := by
  rcases comp_cases hc with ⟨c, f, ho, hcl, rfl⟩ | ⟨c, r, n, ho, hcl, rfl⟩ | ⟨it, ho, rfl⟩ | ⟨c, f, ho, hcl, rfl⟩ | ⟨h1, h2, h3, h4⟩
  · by_cases hy : ∃ l vs, target (eval ts f) (c.args.toList.map (eval ts)) = some (some (.yield l, vs))
    · obtain ⟨l, vs, ht⟩ := hy
      simp only [xo, ht] at hg how
      unfold target at ht
      split at ht
      · cases ht
      · rename_i l' hf
        cases ht
        exact yield_wp hae hcall ho hcl rfl hok hr hts hf hg how
      · cases ht
      · cases ht
    · exact wpIn_of_wp (fun c => by simp [ho]) (callV_wp hae hcall ho hcl rfl hok hr hts hg how fun l vs he => hy ⟨l, vs, he⟩)
  · exact wpIn_of_wp (fun c => by simp [ho]) (invoke_wp hae hcall ho hcl rfl hok hr hts hg how)
  · simp only [xo] at hg how
    split at hg
    · rename_i l hl
      rw [hl] at how
      exact wpIn_of_wp (fun c => by simp [ho]) (nextMap_wp hae ho hok hr hts hl how)
    · exact absurd rfl (hg .bad (by simp))
  · exact absurd rfl (hg .bad (by simp [xo, xop]))
  · refine wpIn_of_wp (fun c hd => ?_) (simple_wp hae hc hok hr hts ?_ hg how)
    · obtain ⟨f, args, he⟩ := comp_defer hc hd
      exact h4 f args he
    · cases op with
      | callV f args => exact absurd rfl (h1 f args)
      | invoke r n args => exact absurd rfl (h2 r n args)
      | nextMap it => exact absurd rfl (h3 it)
      | _ => rfl
theorem xo_wp0 (hae : execOp a.eval o = execOp a1.eval o) {call : Caller} (hcall : CallOK P call) (hyb : ∀ l args h, call (.yield l) args h = [.bad]) (hc : compOp P o = some op) (hok : o.op.operands.toList.all okOpd = true) (hr : HR g h B w0 w) (hts : VRL g ts a1.tmps.toList)
    (hg : ∀ co ∈ xo P call ts h op, co ≠ .bad) (how : Owes B w0 g o a K Q (xo P call ts h op)) : o.wp P a w K Q := by
  rcases comp_cases hc with ⟨c, f, ho, hcl, rfl⟩ | ⟨c, r, n, ho, hcl, rfl⟩ | ⟨it, ho, rfl⟩ | ⟨c, f, ho, hcl, rfl⟩ | ⟨h1, h2, h3, h4⟩
  · refine callV_wp hae hcall ho hcl rfl hok hr hts hg how fun l vs he => ?_
    simp only [xo, he, hyb] at hg
    exact hg .bad (by simp) rfl
  · exact invoke_wp hae hcall ho hcl rfl hok hr hts hg how
  · simp only [xo] at hg how
    split at hg
    · rename_i l hl
      rw [hl] at how
      exact nextMap_wp hae ho hok hr hts hl how
    · exact absurd rfl (hg .bad (by simp))
  · exact simple_wp hae hc hok hr hts rfl hg how
  · refine simple_wp hae hc hok hr hts ?_ hg how
    cases op with
    | callV f args => exact absurd rfl (h1 f args)
    | invoke r n args => exact absurd rfl (h2 r n args)
    | nextMap it => exact absurd rfl (h3 it)
    | _ => rfl
end
end Go.Vm

/- A small machine over an abstract heap: code. -/
set_option linter.unusedSimpArgs false
namespace Go.Vm
open Go.RowKit
def DR (g : Gh) (d d' : Deferred) : Prop := (∃ (f : FuncId) (c c' : List Value), d.target = .fn (.func f) ⟨c⟩ ∧ d'.target = .fn (.func f) ⟨c'⟩ ∧ VRL g c c' ∧ VRL g d.args.toList d'.args.toList) ∨
  (∃ r r', d.target = .collected r ∧ d'.target = .collected r' ∧ BR g r r')
inductive DRL (g : Gh) : List Deferred → List Deferred → Prop
  | nil : DRL g [] []
  | cons {a a' : Deferred} {l l' : List Deferred} : DR g a a' → DRL g l l' → DRL g (a :: l) (a' :: l')
theorem DRL.mono {g g' : Gh} (hl : Le g g') : ∀ {l l' : List Deferred}, DRL g l l' → DRL g' l l'
  | _, _, .nil => .nil
  | _, _, .cons (.inl ⟨f, c, c', h1, h2, h3, h4⟩) t => .cons (.inl ⟨f, c, c', h1, h2, h3.mono hl, h4.mono hl⟩) (DRL.mono hl t)
  | _, _, .cons (.inr ⟨r, r', h1, h2, h3⟩) t => .cons (.inr ⟨r, r', h1, h2, h3.mono hl⟩) (DRL.mono hl t)
structure Rel (ro : Option Nat) (B : Nat) (w0 : World) (g : Gh) (s : St) (a : Act) (w : World) : Prop where
  hr : HR g s.h B w0 w
  ts : VRL g s.ts a.tmps.toList
  ds : DRL g s.ds a.defers
  rd : MR g s.rd ro
def ExR (g : Gh) : Exit → Exit → Prop
  | .normal, .normal => True
  | .exit i, .exit j => i = j
  | .ret, .ret => True
  | .panic c, .panic c' => ChR g c c'
  | _, _ => False
def Post (ro : Option Nat) (B : Nat) (w0 : World) (g0 : Gh) (outs : List Out) : Exit → Act → World → Prop := fun e' a w => ∃ g e s, Out.mk e s ∈ outs ∧ Le g0 g ∧ ExR g e e' ∧ Rel ro B w0 g s a w
def Good (outs : List Out) : Prop := ∀ o ∈ outs, o ≠ .bad
section
variable {P : Program} {B : Nat} {w0 : World} {ro : Option Nat} {n : Nat}
theorem put_ts {g : Gh} {ts : List Value} {a : Act} (hts : VRL g ts a.tmps.toList) {v v' : Value} (hv : VR g v v') (dst : Option Nat) : VRL g (putT ts dst v) (a.put dst v').tmps.toList := by
  cases dst with
  | none => exact hts
  | some d =>
    simp only [putT, Act.put, lset_eq, Array.toList_setIfInBounds]
    exact hts.set d hv
theorem put_defers (a : Act) (dst : Option Nat) (v : Value) : (a.put dst v).defers = a.defers := by cases dst <;> rfl
theorem wanted_eq {g : Gh} {ts : List Value} {a : Act} (hts : VRL g ts a.tmps.toList) {ops : Array Oper} {o : Oper} {ao : AOper} (hc : compOper P ops o = some ao) :
    Region.wanted o (yielded ops a.tmps) = wantedT ts ao.guard := by
  unfold compOper at hc
  split at hc
  · cases hc
  split at hc
  · cases hc
  split at hc
  · rename_i hg; cases hc; simp [Region.wanted, hg, wantedT]
  · rename_i j want hg
    split at hc
    · rename_i t ht
      cases hc
      simp only [Region.wanted, hg, wantedT, yielded, ht, Option.bind_some]
      have := lget_vr hts t
      have e1 : a.tmps.toList.getD t undef = a.tmps.getD t undef := by simp [List.getD, Array.getD_eq_getD_getElem?]
      rw [e1] at this
      cases hget : a.tmps[t]? with
      | none =>
        have hud : a.tmps.getD t undef = undef := by simp [Array.getD_eq_getD_getElem?, hget]
        rw [hud] at this
        cases hl : lget ts t with
        | bool b => rw [hl] at this; have := this.bool; cases this
        | _ => rfl
      | some v =>
        have hud : a.tmps.getD t undef = v := by simp [Array.getD_eq_getD_getElem?, hget]
        rw [hud] at this
        cases hl : lget ts t with
        | bool b =>
          rw [hl] at this
          have := this.bool
          subst this
          rfl
        | _ =>
          rw [hl] at this
          cases v with
          | bool b =>
            exfalso
            cases this
          | _ => rfl
    · cases hc
theorem compOper_parts {ops : Array Oper} {o : Oper} {ao : AOper} (hc : compOper P ops o = some ao) : compOp P o = some ao.op ∧ o.op.operands.toList.all okOpd = true ∧ ao.dst = o.dst := by
  unfold compOper at hc
  split at hc
  · cases hc
  rename_i hok
  split at hc
  · cases hc
  rename_i op hop
  split at hc
  · cases hc; exact ⟨hop, by simpa using hok, rfl⟩
  · split at hc
    · cases hc; exact ⟨hop, by simpa using hok, rfl⟩
    · cases hc
theorem mem_good {outs : List Out} {l : List CO} {f : CO → List Out} (he : outs = l.flatMap f) (hg : Good outs) (hb : f .bad = [.bad]) : ∀ co ∈ l, co ≠ .bad := by
  intro co hm hc
  subst hc
  have : Out.bad ∈ outs := by rw [he]; exact List.mem_flatMap.2 ⟨.bad, hm, by rw [hb]; simp⟩
  exact hg _ this rfl
theorem good_sub {outs : List Out} {l : List CO} {f : CO → List Out} (he : outs = l.flatMap f) (hg : Good outs) {co : CO} (hm : co ∈ l) : Good (f co) := fun x hx => hg x (by rw [he]; exact List.mem_flatMap.2 ⟨co, hm, hx⟩)
def nextOut (P : Program) (call : Caller) (rest : List AOper) (s : St) (dst : Option Nat) : CO → List Out
  | .ret v h => xops P call rest { s with ts := putT s.ts dst v, h := h }
  | .pan chain h => [.mk (.panic chain) { s with h := h }]
  | .bad => [.bad]
theorem xops_cons {call : Caller} {ao : AOper} {rest : List AOper} {s : St} (hnd : ∀ f args, ao.op ≠ .defer f args) :
    xops P call (ao :: rest) s = if wantedT s.ts ao.guard then (xo P call s.ts s.h ao.op).flatMap (nextOut P call rest s ao.dst) else xops P call rest { s with ts := putT s.ts ao.dst undef } := by
  rw [xops]
  split
  · split
    · rename_i f args hop; exact absurd hop (hnd f args)
    · congr 1
      try (funext co; cases co <;> rfl)
  · rfl
theorem xops_defer {call : Caller} {ao : AOper} {rest : List AOper} {s : St} {f : Operand} {args : List Operand} (hop : ao.op = .defer f args) :
    xops P call (ao :: rest) s = if wantedT s.ts ao.guard then (match deferOf s.ts (.defer f args) with
      | some d => xops P call rest { s with ds := d :: s.ds, ts := putT s.ts ao.dst undef }
      | none => [.bad]) else xops P call rest { s with ts := putT s.ts ao.dst undef } := by
  rw [xops]
  split
  · split
    · rename_i f' args' hop'; rw [hop] at hop'; cases hop'; rfl
    · rename_i hno; exact absurd hop (hno f args)
  · rfl
theorem defer_wp {o : Oper} {f : Operand} {args : List Operand} {c : Call} {g : Gh} {h : Heap} {w : World} {ts : List Value} {a : Act} {K : Act → World → Prop} {Q : Exit → Act → World → Prop} (ho : o.op = .defer c) (hcl : c.callee = .value f) (hargs : c.args.toList = args)
    (hok : o.op.operands.toList.all okOpd = true) (hr : HR g h B w0 w) (hts : VRL g ts a.tmps.toList) {d : Deferred} (hd : deferOf ts (.defer f args) = some d)
    (hro : ro = none) (hK : ∀ d', DR g d d' → K ({ a with defers := d' :: a.defers }.put o.dst undef) w) : o.wpIn (FR ro) n P a w K Q := by
  subst hro
  have hfv := eval_vr hr hts f
  have hav : VRL g (args.map (eval ts)) (args.map (eval' a)) := VRL.map fun x _ => eval_vr hr hts x
  have hex := exec_eval (a := a) hok (fun cs b => by simp [ho])
  unfold deferOf at hd
  simp only at hd
  split at hd
  · rename_i fid first captured hf
    cases hd
    rw [hf] at hfv
    obtain ⟨captured⟩ := captured
    obtain ⟨first', captured', hf', h1, h2⟩ := hfv.func_inv
    refine ⟨fun _ _ => trivial, ?_⟩
    rw [show (FR none).round = none from rfl, Oper.semAt_none, hex]
    have hrun : (execOp (eval' a) o).run P w = .ok (.defer { target := .fn (.func fid) ⟨captured'⟩, args := ⟨first'⟩ ++ ⟨args.map (eval' a)⟩ }) w := by
      simp only [execOp, ho, resolve, hcl]
      rw [show c.args.map (eval' a) = ⟨args.map (eval' a)⟩ from by rw [← hargs]; apply Array.ext'; simp]
      simp only [hf', Deferred.ofValue, Sem.run_bind, Sem.run_pure, Result.andThen_ok]
    rw [hrun]
    exact hK _ (.inl ⟨fid, captured, captured', rfl, rfl, h2, by simpa using h1.append hav⟩)
  · cases hd
theorem ops_sound {call : Caller} (hcall : CallOK P call) {ops : Array Oper} (hndf : ro = none ∨ ∀ (i : Nat) o, ops[i]? = some o → ∀ c, o.op ≠ .defer c) {Q : Exit → Act → World → Prop} {g0 : Gh} : ∀ (l : List Nat) (aos : List AOper), compList (fun i => (ops[i]?).bind (compOper P ops)) l = some aos →
    ∀ (g : Gh) (s : St) (a : Act) (w : World), Rel ro B w0 g s a w → Le g0 g → Good (xops P call aos s) →
      (∀ e a w, Post ro B w0 g0 (xops P call aos s) e a w → Q e a w) → wpOpsIn (FR ro) n P ops Q l a w
  | [], aos, hc, g, s, a, w, hr, hl, hg, hQ => by
    simp [compList] at hc
    subst hc
    exact hQ _ _ _ ⟨g, .normal, s, by simp [xops], hl, trivial, hr⟩
  | i :: l, aos, hc, g, s, a, w, hr, hl, hg, hQ => by
    simp only [compList] at hc
    split at hc
    · rename_i ao aos' hao haos
      cases hc
      cases ho : ops[i]? with
      | none => rw [ho] at hao; cases hao
      | some o =>
        rw [ho] at hao
        have hao : compOper P ops o = some ao := hao
        obtain ⟨h1, h2, h3⟩ := compOper_parts hao
        have hw := wanted_eq hr.ts hao
        simp only [wpOpsIn, ho, hw]
        by_cases hdf : ∃ f args, ao.op = .defer f args
        · obtain ⟨f, args, hop⟩ := hdf
          rw [xops_defer hop] at hg hQ
          by_cases hwt : wantedT s.ts ao.guard = true
          · simp only [hwt, if_true] at hg hQ ⊢
            rw [hop] at h1
            rcases comp_cases h1 with ⟨c, f', _, _, he⟩ | ⟨c, r, n, _, _, he⟩ | ⟨it, _, he⟩ | ⟨c, f', ho', hcl, he⟩ | ⟨_, _, _, hn⟩
            · cases he
            · cases he
            · cases he
            · cases he
              cases hd : deferOf s.ts (.defer f c.args.toList) with
              | none => rw [hd] at hg; exact absurd rfl (hg .bad (by simp))
              | some d =>
                rw [hd] at hg hQ
                have hro : ro = none := hndf.resolve_right fun hnd2 => absurd ho' (hnd2 i o ho _)
                refine defer_wp ho' hcl rfl h2 hr.hr hr.ts hd hro fun d' hd' => ?_
                exact ops_sound hcall hndf l aos' haos g { s with ds := d :: s.ds, ts := putT s.ts ao.dst undef } _ w ⟨hr.hr, by rw [← h3]; exact put_ts (a := { a with defers := d' :: a.defers }) hr.ts (.gr ground_undef) _, by rw [put_defers]; exact .cons hd' hr.ds, hr.rd⟩ hl hg hQ
            · exact absurd rfl (hn f args)
          · rw [if_neg hwt] at hg
            simp only [if_neg hwt] at hQ ⊢
            refine ⟨fun _ _ => trivial, ?_⟩
            exact ops_sound hcall hndf l aos' haos g { s with ts := putT s.ts ao.dst undef } _ w ⟨hr.hr, by rw [← h3]; exact put_ts hr.ts (.gr ground_undef) _, by rw [put_defers]; exact hr.ds, hr.rd⟩ hl hg hQ
        · have hnd : ∀ f args, ao.op ≠ .defer f args := fun f args he => hdf ⟨f, args, he⟩
          rw [xops_cons hnd] at hg hQ
          by_cases hwt : wantedT s.ts ao.guard = true
          · simp only [hwt, if_true] at hg hQ ⊢
            refine xo_wp (K := wpOpsIn (FR ro) n P ops Q l) (Q := Q) (a := a) (a1 := a) rfl hcall h1 h2 hr.hr hr.ts (mem_good rfl hg rfl) ⟨fun v h' hm g' v' w' hle hr' hv => ?_, fun c h' hm g' c' w' hle hr' hch => ?_⟩
            · refine ops_sound hcall hndf l aos' haos g' { s with ts := putT s.ts ao.dst v, h := h' } _ w' ⟨hr', by rw [← h3]; exact put_ts (hr.ts.mono hle) hv _, by rw [put_defers]; exact hr.ds.mono hle, hr.rd.mono hle⟩ (hl.trans hle) (good_sub (f := nextOut P call aos' s ao.dst) rfl hg hm) (fun e a w hp => hQ e a w ?_)
              obtain ⟨g2, e2, s2, hm2, r⟩ := hp
              exact ⟨g2, e2, s2, List.mem_flatMap.2 ⟨_, hm, hm2⟩, r⟩
            · exact hQ _ _ _ ⟨g', .panic c, { s with h := h' }, List.mem_flatMap.2 ⟨_, hm, List.mem_singleton.2 rfl⟩, hl.trans hle, hch, hr', hr.ts.mono hle, hr.ds.mono hle, hr.rd.mono hle⟩
          · rw [if_neg hwt] at hg
            simp only [if_neg hwt] at hQ ⊢
            refine ⟨fun _ _ => trivial, ?_⟩
            exact ops_sound hcall hndf l aos' haos g { s with ts := putT s.ts ao.dst undef } _ w ⟨hr.hr, by rw [← h3]; exact put_ts hr.ts (.gr ground_undef) _, by rw [put_defers]; exact hr.ds, hr.rd⟩ hl hg hQ
    · cases hc
end
end Go.Vm

/- A small machine over an abstract heap: a loop over a function. -/
set_option linter.unusedSimpArgs false
namespace Go.Vm
open Go.RowKit
section
variable {P : Program} {B : Nat} {w0 : World} {ro : Option Nat} {n : Nat}
theorem lapS_ts (s : St) : (lapS s).ts = s.ts := by unfold lapS; split <;> rfl
theorem lapS_rd (s : St) : (lapS s).rd = s.rd := by unfold lapS; split <;> rfl
theorem run_getLoop {w : World} {l : Nat} {r : Loop} (h : w.heap[l]? = some (.loop r)) : (Instr.getLoop l).run P w = .ok r w := by
  simp [Instr.getLoop, getObj, Sem.run, h]
theorem lap_enter {fn : FuncId} {ps : Array Tmp} {as b : Code} {g : Gh} {s : St} {a : Act} {w : World} (hr : Rel ro B w0 g s a w) (hok : lapOK s = true) :
    ∃ l mark w₁ g₁, (Instr.enterLoop fn a.tmps ps as b ro).run P w = .ok (l, mark) w₁ ∧ Le g g₁ ∧ HR g₁ ((lapH s).push (.loop .ready none s.ts ps.toList as b)) B w0 w₁ ∧ BR g₁ (lapH s).n l ∧ DRL g₁ (lapS s).ds (mark ++ a.defers) := by
  have hrd := hr.rd
  cases hs : s.rd with
  | none =>
    rw [hs] at hrd
    cases ro with
    | some l => simp [MR] at hrd
    | none =>
      have h1 := hr.hr.push (o := .defs false) (o' := .deferred (some [])) (es := 0) (tot := 0) ⟨by simp, rfl⟩
      have hl1 : Le g (g ++ [some ⟨w.heap.size, 0, 0, 0⟩]) := Le.push _ _
      have h2 := h1.push (o := .loop .ready none s.ts ps.toList as b) (o' := .loop { state := .ready, pending := none, fn, tmps := a.tmps, params := ps, assign := as, body := b, defers := w.heap.size }) (es := 0) (tot := 0)
        ⟨fn, a.tmps, w.heap.size, Array.getElem?_push_size, (hr.ts.mono hl1).mono (Le.push _ _), rfl⟩
      have hH : lapH s = s.h.push (.defs false) := by simp only [lapH, hs]
      have hS : (lapS s).ds = { target := .collected s.h.n, args := #[] } :: s.ds := by simp only [lapS, hs]
      rw [hH, hS]
      refine ⟨w.heap.size + 1, [{ target := .collected w.heap.size, args := #[] }], _, _, ?_, hl1.trans (Le.push _ _), h2, ?_, ?_⟩
      · simp [Instr.enterLoop, Sem.run_bind]
        rfl
      · have hlen := hr.hr.len
        exact ⟨by simp [hlen], fun x hx => by simp [← hlen] at hx; subst hx; simp⟩
      · refine .cons (.inr ⟨_, _, rfl, rfl, ?_⟩) ((hr.ds.mono hl1).mono (Le.push _ _))
        have hlen := hr.hr.len
        exact ⟨by simp [hlen], fun x hx => by simp [← hlen] at hx; subst hx; rfl⟩
  | some r0 =>
    rw [hs] at hrd
    cases ro with
    | none => simp [MR] at hrd
    | some l0 =>
      have hrd : BR g r0 l0 := hrd
      simp only [lapOK, hs] at hok
      split at hok
      · rename_i st pend ts1 ps1 as1 b1 hget
        obtain ⟨x, hx, f1, ts1', d1, hob, _, _⟩ := hr.hr.of_obj hget (by simp)
        obtain rfl := hrd.2 x hx
        have h2 := hr.hr.push (o := .loop .ready none s.ts ps.toList as b) (o' := .loop { state := .ready, pending := none, fn, tmps := a.tmps, params := ps, assign := as, body := b, defers := d1 }) (es := 0) (tot := 0)
          ⟨fn, a.tmps, d1, by simp, hr.ts.mono (Le.push _ _), rfl⟩
        have hH : lapH s = s.h := by simp only [lapH, hs]
        have hS : (lapS s).ds = s.ds := by simp only [lapS, hs]
        rw [hH, hS]
        refine ⟨w.heap.size, [], _, _, ?_, Le.push _ _, h2, ?_, hr.ds.mono (Le.push _ _)⟩
        · simp [Instr.enterLoop, run_getLoop hob, Sem.run_bind]
        · have hlen := hr.hr.len
          exact ⟨by simp [hlen], fun x hx => by simp [← hlen] at hx; subst hx; rfl⟩
      · cases hok
theorem lap_sound {call : Caller} (hcall : CallOK P call) {L : Nat} {f : Operand} {ps : Array Tmp} {as b : Code} (hok : okOpd f = true) {g0 g : Gh} {s : St} {a : Act} {w : World} {Q : Exit → Act → World → Prop} (hr : Rel ro B w0 g s a w) (hl : Le g0 g)
    (hg : Good (xc P call L (.rangeFunc f ps.toList as b) s)) (hQ : ∀ e a w, Post ro B w0 g0 (xc P call L (.rangeFunc f ps.toList as b) s) e a w → Q e a w) : (Code.rangeFunc f ps as b).wpIn (FR ro) n P Q a w := by
  simp only [xc] at hg hQ
  cases hlap : lapOK s with
  | false => rw [hlap] at hg; exact absurd rfl (hg .bad (by simp))
  | true =>
    rw [hlap] at hg hQ
    simp only [Bool.true_eq_false, if_false] at hg hQ
    split at hg
    · rename_i fid first captured hev
      rw [hev] at hQ
      simp only at hQ
      refine wpIn_rangeFunc fun fn _ => ?_
      obtain ⟨l, mark, w₁, g₁, henter, hle, hhr, hbr, hdr⟩ := lap_enter (P := P) (fn := fn) (ps := ps) (as := as) (b := b) hr hlap
      have hv := eval_vr hr.hr hr.ts f
      rw [eval_ok hok, hev] at hv
      obtain ⟨first', captured', hf', v1, v2⟩ := hv.func_inv
      have hgc : ∀ co ∈ call (.fn fid) (first ++ [.func (.yield (lapH s).n) #[] #[]] ++ captured) ((lapH s).push (.loop .ready none s.ts ps.toList as b)), co ≠ .bad := fun co hm hb => by
        subst hb
        exact hg .bad (List.mem_flatMap.2 ⟨.bad, hm, List.mem_singleton.2 rfl⟩) rfl
      have hargs : VRL g₁ (first ++ [.func (.yield (lapH s).n) #[] #[]] ++ captured) (first' ++ [.func (.yield l) #[] #[]] ++ captured') :=
        ((v1.mono hle).append (.cons (.yield hbr) .nil)).append (v2.mono hle)
      obtain ⟨hfn, hc⟩ := hcall.2 fid _ _ g₁ _ B w0 w₁ hhr hargs hgc
      have hres : (resolve a.eval (rangeCall f l) 0).run P w₁ = .ok { target := .fn (.func fid) ⟨captured'⟩, args := ⟨first'⟩ ++ #[.func (.yield l) #[] #[]] } w₁ := by
        have hy : a.eval (.const (.func (.yield l) #[] #[])) = .func (.yield l) #[] #[] := rfl
        simp [resolve, rangeCall, hf', Deferred.ofValue, hy]
      have hinv : (invoke (.fn (.func fid) ⟨captured'⟩) (⟨first'⟩ ++ #[.func (.yield l) #[] #[]])).run P w₁ = .ok (.enter fid ⟨first' ++ [.func (.yield l) #[] #[]] ++ captured'⟩) w₁ := by
        simp only [invoke]
        rw [show ((⟨first'⟩ : Array Value) ++ #[.func (.yield l) #[] #[]] ++ ⟨captured'⟩ : Array Value) = ⟨first' ++ [.func (.yield l) #[] #[]] ++ captured'⟩ from by apply Array.ext'; simp]
        exact callFunc_run hfn _ _
      have hpost : ∀ e w₃, CPost B w0 g₁ (call (.fn fid) (first ++ [.func (.yield (lapH s).n) #[] #[]] ++ captured) ((lapH s).push (.loop .ready none s.ts ps.toList as b))) e w₃ → rangePost (FR ro) n P l Q { a with defers := mark ++ a.defers } e w₃ := ?_
      · exact ⟨l, mark, w₁, _, w₁, fid, _, w₁, henter, hres, fun _ _ => trivial, hinv, (fun h => by cases h), callsIn_fr (hc.mono hpost)⟩
      · intro e w₃ he
        cases e with
        | returned v =>
          obtain ⟨g', u, h', hm, hle', hr', _⟩ := he
          have hsub : ∀ o ∈ lapOut (lapH s).n (lapS s) (.ret u h'), o ≠ .bad := fun o ho => hg o (List.mem_flatMap.2 ⟨_, hm, ho⟩)
          have hQ2 : ∀ e a w, Post ro B w0 g0 (lapOut (lapH s).n (lapS s) (.ret u h')) e a w → Q e a w := fun e a w hp => hQ e a w (by
            obtain ⟨g2, e2, s2, hm2, r⟩ := hp
            exact ⟨g2, e2, s2, List.mem_flatMap.2 ⟨_, hm, hm2⟩, r⟩)
          simp only [lapOut] at hsub hQ2
          split at hsub
          · rename_i st pend ts1 ps1 as1 b1 hget
            rw [hget] at hQ2
            simp only at hQ2
            by_cases hst : st = .busy
            · rw [if_pos hst] at hsub; exact absurd rfl (hsub .bad (by simp))
            rw [if_neg hst] at hsub hQ2
            obtain ⟨x, hx, f1, ts1', d1, hob, hts1, hsh⟩ := hr'.of_obj hget (by simp)
            obtain rfl := (hbr.mono hle').2 x hx
            have hend : (Instr.endLoop x.b).run P w₃ = .ok pend (withBlock w₃ x.b (.loop { state := .exhausted, pending := pend, fn := f1, tmps := ts1', params := ⟨ps1⟩, assign := as1, body := b1, defers := d1 })) := by
              have hb : (st == LoopState.busy) = false := by cases st <;> first | rfl | exact absurd rfl hst
              simp only [Instr.endLoop, Sem.run_bind, run_getLoop hob, Result.andThen_ok, hb, Bool.false_eq_true, if_false]
              rw [run_setObj hob (by simp)]
              simp
            have hhr' : HR g' (h'.set (lapH s).n (.loop .exhausted pend ts1 ps1 as1 b1)) B w0 (withBlock w₃ x.b (.loop { state := .exhausted, pending := pend, fn := f1, tmps := ts1', params := ⟨ps1⟩, assign := as1, body := b1, defers := d1 })) := by
              refine hr'.set hx (by rw [hget]; rfl) rfl rfl rfl rfl ⟨f1, ts1', d1, ?_, hts1, hsh⟩
              rw [heap_withBlock hob]
            have hrel : Rel ro B w0 (g'.set (lapH s).n none) { lapS s with h := (h'.set (lapH s).n (.loop .exhausted pend ts1 ps1 as1 b1)).set (lapH s).n .dead } { a with defers := mark ++ a.defers } (withBlock w₃ x.b (.loop { state := .exhausted, pending := pend, fn := f1, tmps := ts1', params := ⟨ps1⟩, assign := as1, body := b1, defers := d1 })) :=
              ⟨hhr'.kill _, by simp only [lapS_ts]; exact ((hr.ts.mono hle).mono hle').mono (Le.kill _ _), (hdr.mono hle').mono (Le.kill _ _), by simp only [lapS_rd]; exact ((hr.rd.mono hle).mono hle').mono (Le.kill _ _)⟩
            refine ⟨pend, _, hend, ?_⟩
            cases pend with
            | none => exact hQ2 _ _ _ ⟨g'.set (lapH s).n none, .normal, _, List.mem_singleton.2 rfl, ((hl.trans hle).trans hle').trans (Le.kill _ _), trivial, hrel⟩
            | some c =>
              cases c with
              | ret => exact wpIn_ret (hQ2 _ _ _ ⟨g'.set (lapH s).n none, .ret, _, List.mem_singleton.2 rfl, ((hl.trans hle).trans hle').trans (Le.kill _ _), trivial, hrel⟩)
              | exit id => exact wpIn_exit (hQ2 _ _ _ ⟨g'.set (lapH s).n none, .exit id, _, List.mem_singleton.2 rfl, ((hl.trans hle).trans hle').trans (Le.kill _ _), rfl, hrel⟩)
              | _ => exact absurd rfl (hsub .bad (by simp))
          · exact absurd rfl (hsub .bad (by simp))
        | panicked c =>
          obtain ⟨g', c1, h', hm, hle', hr', hch⟩ := he
          exact hQ _ _ _ ⟨g', .panic c1, { lapS s with h := h' }, List.mem_flatMap.2 ⟨_, hm, by simp [lapOut]⟩, (hl.trans hle).trans hle', hch, hr', by simp only [lapS_ts]; exact (hr.ts.mono hle).mono hle', hdr.mono hle', by simp only [lapS_rd]; exact (hr.rd.mono hle).mono hle'⟩
        | outgrown => exact he.elim
    · exact absurd rfl (hg .bad (by simp))
end
end Go.Vm
