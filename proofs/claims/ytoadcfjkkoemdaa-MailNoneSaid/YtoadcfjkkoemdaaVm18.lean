/- A small machine over an abstract heap: one operation, calls among them. -/
import Derived.Test.YtoadcfjkkoemdaaVm17
import Derived.RangeFuncLeaves
set_option linter.unusedSimpArgs false
namespace Go.Vm
open Go.RowKit

def EntR (g : Gh) (a a' : PanicEntry) : Prop := VR g a.v a'.v ∧ a'.recovered = a.recovered ∧ a'.goexit = a.goexit

inductive ChR (g : Gh) : List PanicEntry → List PanicEntry → Prop
  | nil : ChR g [] []
  | cons {a a' : PanicEntry} {l l' : List PanicEntry} : EntR g a a' → ChR g l l' → ChR g (a :: l) (a' :: l')

theorem ChR.mono {g g' : Gh} (hl : Le g g') : ∀ {l l' : List PanicEntry}, ChR g l l' → ChR g' l l'
  | _, _, .nil => .nil
  | _, _, .cons h t => .cons ⟨h.1.mono hl, h.2⟩ (ChR.mono hl t)

def CPost (B : Nat) (w0 : World) (g : Gh) (outs : List CO) : Ending → World → Prop
  | .returned v, w' => ∃ g' u h', CO.ret u h' ∈ outs ∧ Le g g' ∧ HR g' h' B w0 w' ∧ VR g' u v
  | .panicked c', w' => ∃ g' c h', CO.pan c h' ∈ outs ∧ Le g g' ∧ HR g' h' B w0 w' ∧ ChR g' c c'
  | .outgrown, _ => False

def FnOK (P : Program) (f : FuncId) : Prop := ∃ fn, P.funcs[f]? = some fn ∧ fn.body.isSome = true ∧ (fn.name == "runtime.NumGoroutine") = false

/-- a fence that asks nothing, around a round or not -/
def FR (ro : Option Nat) : Fence := { fn := fun _ => True, depth := none, alive := false, round := ro }

def YieldOK (P : Program) (call : Caller) : Prop :=
  ∀ (l l' : Nat) (args args' : List Value) (g : Gh) (h : Heap) (B : Nat) (w0 w : World), HR g h B w0 w → VRL g args args' → BR g l l' → (∀ o ∈ call (.yield l) args h, o ≠ .bad) →
    ∃ f tmps assign body, (Instr.yield l' ⟨args'⟩).run P w = .ok (.round l' f tmps assign body) w ∧ ∀ ro n, RoundIn (FR ro) n P l' f tmps assign body w (CPost B w0 g (call (.yield l) args h))

def CallOK (P : Program) (call : Caller) : Prop :=
  YieldOK P call ∧ ∀ (f : FuncId) (args args' : List Value) (g : Gh) (h : Heap) (B : Nat) (w0 w : World), HR g h B w0 w → VRL g args args' → (∀ o ∈ call (.fn f) args h, o ≠ .bad) →
    FnOK P f ∧ Calls P f ⟨args'⟩ w (CPost B w0 g (call (.fn f) args h))

/-- the model's operands, where no constant holds an address -/
def eval' (a : Act) : Operand → Value
  | .const v => match ground v with
    | true => v
    | false => undef
  | x => a.eval x

theorem eval_vr {g : Gh} {h : Heap} {B : Nat} {w0 w : World} (hr : HR g h B w0 w) {ts : List Value} {a : Act} (hts : VRL g ts a.tmps.toList) (x : Operand) : VR g (eval ts x) (eval' a x) := by
  cases x with
  | tmp t =>
    have := lget_vr hts t
    simpa [eval, eval', Act.eval, List.getD] using this
  | const v =>
    simp only [eval, eval']
    cases hg : ground v
    · exact .gr rfl
    · exact .gr hg
  | global n =>
    have hz := hr.zero
    have := (List.getElem?_eq_some_iff.1 hz).1
    exact .ptr ⟨this, fun x hx => by simp only at hx; rw [hz] at hx; cases hx⟩
  | func f => exact .gr rfl

section
variable {P : Program} {o : Oper} {op : AOp}

theorem eval_ok {a : Act} {x : Operand} (h : okOpd x = true) : eval' a x = a.eval x := by
  cases x with
  | const v => simp only [okOpd] at h; simp [eval', h, Act.eval]
  | _ => rfl

theorem exec_eval {a : Act} (hok : o.op.operands.toList.all okOpd = true) (hs : ∀ cs b, o.op ≠ .select cs b) : execOp a.eval o = execOp (eval' a) o :=
  execOp_congr o hs fun x hx => (eval_ok (List.all_eq_true.1 hok x (by simpa using hx))).symm

theorem comp_noselect (h : compOp P o = some op) : ∀ cs b, o.op ≠ .select cs b := by
  intro cs b ho
  unfold compOp at h
  simp only [show (slim o).op = o.op from rfl] at h
  rw [ho] at h; cases h

theorem callFunc_run {f : FuncId} (hf : FnOK P f) (args : Array Value) (w : World) : (callFunc f args).run P w = .ok (.enter f args) w := by
  obtain ⟨fn, h1, h2, h3⟩ := hf
  obtain ⟨b, hb⟩ := Option.isSome_iff_exists.1 h2
  simp [callFunc, h1, hb, beq_eq_false_iff_ne.1 h3]

def isCall : AOp → Bool
  | .callV _ _ | .invoke _ _ _ | .nextMap _ | .defer _ _ | .recover => true
  | _ => false

variable {g : Gh} {h : Heap} {B : Nat} {w0 w : World} {ts : List Value} {a a1 : Act} {K : Act → World → Prop} {Q : Exit → Act → World → Prop}

/-- what one operation owes -/
structure Owes (B : Nat) (w0 : World) (g : Gh) (o : Oper) (a : Act) (K : Act → World → Prop) (Q : Exit → Act → World → Prop) (outs : List CO) : Prop where
  ret : ∀ v h', CO.ret v h' ∈ outs → ∀ g' v' w', Le g g' → HR g' h' B w0 w' → VR g' v v' → K (a.put o.dst v') w'
  pan : ∀ c h', CO.pan c h' ∈ outs → ∀ g' c' w', Le g g' → HR g' h' B w0 w' → ChR g' c c' → Q (.panic c') a w'

theorem enter_wp {call : Caller} (hcall : CallOK P call) (hr : HR g h B w0 w) {f : FuncId} {args args' : List Value} (hv : VRL g args args') (hg : ∀ co ∈ call (.fn f) args h, co ≠ .bad)
    (how : Owes B w0 g o a K Q (call (.fn f) args h)) (hrun : FnOK P f → (execOp a.eval o).run P w = .ok (.enter f ⟨args'⟩) w) : o.wp P a w K Q := by
  obtain ⟨hf, hc⟩ := hcall.2 f args args' g h B w0 w hr hv hg
  unfold Oper.wp
  rw [hrun hf, Oper.upon_enter]
  refine hc.mono fun e w' he => ?_
  cases e with
  | returned v =>
    obtain ⟨g', u, h', hm, hl, hr', hvr⟩ := he
    exact how.ret u h' hm g' v w' hl hr' hvr
  | panicked c =>
    obtain ⟨g', u, h', hm, hl, hr', hvr⟩ := he
    exact how.pan u h' hm g' c w' hl hr' hvr
  | outgrown => exact he.elim

theorem simple_wp (hae : execOp a.eval o = execOp a1.eval o) (hc : compOp P o = some op) (hok : o.op.operands.toList.all okOpd = true) (hr : HR g h B w0 w) (hts : VRL g ts a1.tmps.toList) {outs : List CO}
    (houts : outs = match xop P (eval ts) h op with
      | .ok v h' => [.ret v h']
      | .pan v h' => [.pan [{ v, recovered := false }] h']
      | .bad => [.bad])
    (hg : ∀ co ∈ outs, co ≠ .bad) (how : Owes B w0 g o a K Q outs) : o.wp P a w K Q := by
  have hs := xop_sound hc g h B w0 w (eval ts) (eval' a1) hr (eval_vr hr hts)
  unfold Oper.wp
  rw [hae, exec_eval hok (comp_noselect hc)]
  cases hx : xop P (eval ts) h op with
  | ok v h' =>
    rw [hx] at hs houts
    obtain ⟨g', v', w', nx, h1, h2, h3, h4, h5⟩ := hs
    rw [h1]
    have := how.ret v h' (by rw [houts]; simp) g' v' w' h3 h4 h5
    rcases h2 with rfl | ⟨rfl, rfl⟩
    · exact this
    · exact this
  | pan v h' =>
    rw [hx] at hs houts
    obtain ⟨g', v', w', h1, h3, h4, h5⟩ := hs
    rw [h1]
    exact how.pan [{ v := v, recovered := false }] h' (by rw [houts]; simp) g' [{ v := v', recovered := false }] w' h3 h4 (.cons ⟨h5, rfl, rfl⟩ .nil)
  | bad => rw [hx] at houts; exact absurd rfl (hg .bad (by rw [houts]; simp))

/-- a function value, called -/
theorem callV_wp (hae : execOp a.eval o = execOp a1.eval o) {call : Caller} (hcall : CallOK P call) {f : Operand} {args : List Operand} {c : Call} (ho : o.op = .call c) (hcl : c.callee = .value f) (hargs : c.args.toList = args) (hok : o.op.operands.toList.all okOpd = true)
    (hr : HR g h B w0 w) (hts : VRL g ts a1.tmps.toList) (hg : ∀ co ∈ xo P call ts h (.callV f args), co ≠ .bad) (how : Owes B w0 g o a K Q (xo P call ts h (.callV f args))) (hny : ∀ l vs, target (eval ts f) (args.map (eval ts)) ≠ some (some (.yield l, vs))) : o.wp P a w K Q := by
  have hfv := eval_vr hr hts f
  have hav : VRL g (args.map (eval ts)) (args.map (eval' a1)) := VRL.map fun x _ => eval_vr hr hts x
  have hex := hae.trans (exec_eval (a := a1) hok (fun cs b => by simp [ho]))
  have hres : ∀ w, (execOp (eval' a1) o).run P w = ((Deferred.ofValue (eval' a1 f) ⟨args.map (eval' a1)⟩ >>= fun d => invoke d.target d.args)).run P w := fun w => by
    simp only [execOp, ho, resolve, hcl]
    rw [show c.args.map (eval' a1) = ⟨args.map (eval' a1)⟩ from by rw [← hargs]; apply Array.ext'; simp]
  simp only [xo] at hg how
  split at hg
  · rename_i t vs htgt
    rw [htgt] at how
    unfold target at htgt
    split at htgt
    · rename_i fid first captured hf
      cases htgt
      rw [hf] at hfv
      obtain ⟨first', captured', hf', h1, h2⟩ := hfv.func_inv
      refine enter_wp hcall hr ((h1.append hav).append h2) hg how fun hfn => ?_
      rw [hex, hres, hf']
      simp only [Deferred.ofValue, Sem.run_bind, Sem.run_pure, Result.andThen_ok, invoke]
      rw [callFunc_run hfn]
      simp
    · rename_i l hf
      rw [hf] at hny
      exact absurd rfl (hny l _)
    · cases htgt
    · cases htgt
  · rename_i htgt
    rw [htgt] at how
    simp only [nilDeref] at hg how
    unfold target at htgt
    split at htgt
    · cases htgt
    · cases htgt
    · rename_i hf
      rw [hf] at hfv
      have hf' := hfv.eq_ground rfl
      unfold Oper.wp
      rw [hex, hres, hf']
      simp only [Deferred.ofValue, Sem.run_bind, Sem.run_pure, Result.andThen_ok, invoke, run_nilDeref]
      exact how.pan _ h (by simp) g _ w (Le.refl _) hr (.cons ⟨.gr rfl, rfl, rfl⟩ .nil)
    · cases htgt
  · exact absurd rfl (hg .bad (by simp))

theorem callsIn_fr {ro : Option Nat} {n : Nat} {f : FuncId} {args : Array Value} {R : Ending → World → Prop} (h : Calls P f args w R) : CallsIn (FR ro) n P f args w R := by
  have h1 := (callsIn_wide (n := n)).2 h
  cases ro with
  | none => exact h1
  | some l => exact h1

theorem stepsIn_fr {ro : Option Nat} {m m' : Machine} (h : Steps P m m') : StepsIn (Machine.fenced P (FR ro)) P m m' := by
  have h1 := (stepsIn_wide (P := P)).2 h
  cases ro with
  | none => exact h1
  | some l => exact h1

theorem wpIn_of_wp {ro : Option Nat} {n : Nat} (hnd : ∀ c, o.op ≠ .defer c) (h : o.wp P a w K Q) : o.wpIn (FR ro) n P a w K Q := by
  refine ⟨fun _ _ => trivial, ?_⟩
  rw [show (FR ro).round = ro from rfl, Oper.semAt_eq ro a.eval o hnd]
  unfold Oper.wp at h
  generalize (execOp a.eval o).run P w = r at h ⊢
  cases r with
  | ok nx w' =>
    cases nx with
    | enter f args => exact ⟨(fun h => by cases h), callsIn_fr h⟩
    | row row args => exact ⟨(fun h => by cases h), fun c cs _ => let ⟨v, w', r, s⟩ := h c cs; ⟨v, w', r, stepsIn_fr s⟩⟩
    | _ => first | exact h | exact h.elim
  | halt x w' => cases x <;> first | exact h | exact h.elim

/-- a round, run -/
theorem yield_wp (hae : execOp a.eval o = execOp a1.eval o) {call : Caller} (hcall : CallOK P call) {f : Operand} {args : List Operand} {c : Call} (ho : o.op = .call c) (hcl : c.callee = .value f) (hargs : c.args.toList = args) (hok : o.op.operands.toList.all okOpd = true)
    (hr : HR g h B w0 w) (hts : VRL g ts a1.tmps.toList) {l : Nat} (hf : eval ts f = .func (.yield l) ⟨[]⟩ ⟨[]⟩) (hg : ∀ co ∈ call (.yield l) (args.map (eval ts)) h, co ≠ .bad) (how : Owes B w0 g o a K Q (call (.yield l) (args.map (eval ts)) h)) {ro : Option Nat} {n : Nat} : o.wpIn (FR ro) n P a w K Q := by
  have hfv := eval_vr hr hts f
  have hav : VRL g (args.map (eval ts)) (args.map (eval' a1)) := VRL.map fun x _ => eval_vr hr hts x
  have hex := hae.trans (exec_eval (a := a1) hok (fun cs b => by simp [ho]))
  have hres : ∀ w, (execOp (eval' a1) o).run P w = ((Deferred.ofValue (eval' a1 f) ⟨args.map (eval' a1)⟩ >>= fun d => invoke d.target d.args)).run P w := fun w => by
    simp only [execOp, ho, resolve, hcl]
    rw [show c.args.map (eval' a1) = ⟨args.map (eval' a1)⟩ from by rw [← hargs]; apply Array.ext'; simp]
  rw [hf] at hfv
  obtain ⟨l', hf', hbr⟩ : ∃ l', eval' a1 f = .func (.yield l') ⟨[]⟩ ⟨[]⟩ ∧ BR g l l' := by
    generalize eval' a1 f = v at hfv
    cases hfv with
    | gr h => simp [ground] at h
    | yield h => exact ⟨_, rfl, h⟩
  obtain ⟨fn, tmps, assign, body, hy, hround⟩ := hcall.1 l l' _ _ g h B w0 w hr hav hbr hg
  refine ⟨fun _ _ => trivial, ?_⟩
  rw [show (FR ro).round = ro from rfl, Oper.semAt_eq ro a.eval o (fun c => by simp [ho]), hex, hres, hf']
  simp only [Deferred.ofValue, Sem.run_bind, Sem.run_pure, Result.andThen_ok, invoke]
  have e1 : (#[] : Array Value) ++ (⟨args.map (eval' a1)⟩ : Array Value) = ⟨args.map (eval' a1)⟩ := by simp
  simp only [e1, Array.append_empty, hy]
  refine ⟨(fun h => by cases h), (hround ro (n - 1)).mono fun e w' he => ?_⟩
  cases e with
  | returned v =>
    obtain ⟨g', u, h', hm, hl, hr', hvr⟩ := he
    exact how.ret u h' hm g' v w' hl hr' hvr
  | panicked c =>
    obtain ⟨g', u, h', hm, hl, hr', hvr⟩ := he
    exact how.pan u h' hm g' c w' hl hr' hvr
  | outgrown => exact he.elim

theorem wrapNil_eq (ts : Array TypeId) (t : TypeId) (a : Addr) (s m : ByteArray) : Builtin.ssaWrapNilChk_ ts t #[.pointer (some a), .string s, .string m] = pure (.pointer (some a)) := rfl

theorem methodOf_run {t : TypeId} {v v' : Value} {name : String} {f : FuncId} {recv : Value} (hm : methodOf P h t v name = some (f, recv)) (hr : HR g h B w0 w) (hv : VR g v v') :
    ∃ recv', (method (P.types.size + Made.depth) t v' name).run P w = .ok (f, recv') w ∧ VR g recv recv' := by
  unfold methodOf at hm
  cases hi : P.info? t with
  | none => simp [hi] at hm
  | some i =>
    simp only [hi] at hm
    cases hfind : i.methods.find? (·.name == name) with
    | none => simp [hfind] at hm
    | some m =>
      simp only [hfind] at hm
      cases hempty : m.path.isEmpty with
      | false => simp [hempty] at hm
      | true =>
        have hpath : m.path.toList = [] := by
          have : m.path = #[] := by simpa using hempty
          rw [this]
        have hdep : P.types.size + Made.depth = (P.types.size + Made.depth - 1) + 1 := by
          have : 0 < Made.depth := by decide
          omega
        cases hmf : m.func with
        | none => simp [hempty, hmf] at hm
        | some fp =>
          obtain ⟨fid, pr⟩ := fp
          cases hu : P.underlying t with
          | none => simp [hempty, hmf, hu] at hm
          | some d =>
            simp only [hempty, if_true, hmf, hu] at hm
            rw [hdep]
            simp only [method, Sem.run_bind, run_info hi, Result.andThen_ok, hfind, hpath, follow, Sem.run_pure, hmf, hempty, if_true, receiverAt, run_under hu, Place.get]
            cases pr with
            | true =>
              cases d <;> simp at hm
              obtain ⟨rfl, rfl⟩ := hm
              exact ⟨_, rfl, hv⟩
            | false =>
              cases d with
              | pointer el =>
                simp only at hm
                split at hm
                · rename_i a n hag
                  obtain ⟨c, hc, hcc⟩ := Option.map_eq_some_iff.1 hm
                  cases hcc
                  obtain ⟨a', ha', har⟩ := hv.pointer
                  subst ha'
                  obtain ⟨c', hrun, hcr⟩ := loadCells_sound (P := P) hr hc har rfl rfl
                  obtain ⟨h1, h2⟩ := aggOf_some hag
                  exact ⟨.agg ⟨c'⟩, by simp [wrapNil_eq, strVal, asAddr, loadVar, h1, run_size h2, hrun], .agg hcr⟩
                · rename_i a hag
                  split at hm
                  · rename_i u r hc
                    cases hm
                    obtain ⟨a', ha', har⟩ := hv.pointer
                    subst ha'
                    obtain ⟨u', hrun, hvr⟩ := loadOne_sound (P := P) hr hc har rfl rfl
                    have h1 := aggOf_none hag
                    refine ⟨u', ?_, hvr⟩
                    simp only [wrapNil_eq, strVal, asAddr, loadVar, h1, hrun, Sem.run_bind, Sem.run_pure, Result.andThen_ok, Bool.false_eq_true, if_false]
                  · cases hm
                · cases hm
              | _ => simp at hm <;> obtain ⟨rfl, rfl⟩ := hm <;> exact ⟨_, rfl, hv⟩

/-- a method of an interface value, called -/
theorem invoke_wp (hae : execOp a.eval o = execOp a1.eval o) {call : Caller} (hcall : CallOK P call) {r : Operand} {name : String} {args : List Operand} {c : Call} (ho : o.op = .call c) (hcl : c.callee = .invoke r name) (hargs : c.args.toList = args) (hok : o.op.operands.toList.all okOpd = true)
    (hr : HR g h B w0 w) (hts : VRL g ts a1.tmps.toList) (hg : ∀ co ∈ xo P call ts h (.invoke r name args), co ≠ .bad) (how : Owes B w0 g o a K Q (xo P call ts h (.invoke r name args))) : o.wp P a w K Q := by
  have hrv := eval_vr hr hts r
  have hav : VRL g (args.map (eval ts)) (args.map (eval' a1)) := VRL.map fun x _ => eval_vr hr hts x
  have hex := hae.trans (exec_eval (a := a1) hok (fun cs b => by simp [ho]))
  have hres : ∀ w, (execOp (eval' a1) o).run P w = (callMethod (eval' a1 r) name ⟨args.map (eval' a1)⟩).run P w := fun w => by
    have e1 : c.args.map (eval' a1) = ⟨args.map (eval' a1)⟩ := by rw [← hargs]; apply Array.ext'; simp
    have e2 : (#[eval' a1 r] ++ (⟨args.map (eval' a1)⟩ : Array Value)).extract 1 (#[eval' a1 r] ++ (⟨args.map (eval' a1)⟩ : Array Value)).size = ⟨args.map (eval' a1)⟩ := by
      apply Array.ext'; simp; exact List.take_of_length_le (by simp)
    simp only [execOp, ho, resolve, hcl, e1, Sem.run_bind, Sem.run_pure, Result.andThen_ok, invoke]
    simp only [Array.getElem?_append, List.size_toArray, List.length_cons, List.length_nil]
    simp [e2]
    rw [List.take_of_length_le (by simp)]
  simp only [xo] at hg how
  split at hg
  · rename_i t v hv
    rw [hv] at how hrv
    obtain ⟨v', hv', hvv⟩ := hrv.iface_inv
    simp only at how
    split at hg
    · rename_i f recv hm
      rw [hm] at how
      obtain ⟨recv', hmr, hvr⟩ := methodOf_run hm hr hvv
      refine enter_wp hcall hr (.cons hvr hav) hg how fun hfn => ?_
      rw [hex, hres, hv']
      simp only [callMethod, Sem.run_bind, run_program, Result.andThen_ok, hmr, callFunc_run hfn]
      simp
    · exact absurd rfl (hg .bad (by simp))
  · exact absurd rfl (hg .bad (by simp))

end
end Go.Vm
