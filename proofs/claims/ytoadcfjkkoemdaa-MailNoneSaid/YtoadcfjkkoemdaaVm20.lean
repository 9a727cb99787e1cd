/- A small machine over an abstract heap: code. -/
import Derived.Test.YtoadcfjkkoemdaaVm19
set_option linter.unusedSimpArgs false
namespace Go.Vm
open Go.RowKit

def DR (g : Gh) (d d' : Deferred) : Prop := (∃ (f : FuncId) (c c' : List Value), d.target = .fn (.func f) ⟨c⟩ ∧ d'.target = .fn (.func f) ⟨c'⟩ ∧ VRL g c c' ∧ VRL g d.args.toList d'.args.toList) ∨
  (∃ r r', d.target = .collected r ∧ d'.target = .collected r' ∧ BR g r r')

inductive DRL (g : Gh) : List Deferred → List Deferred → Prop
  | nil : DRL g [] []
  | cons {a a' : Deferred} {l l' : List Deferred} : DR g a a' → DRL g l l' → DRL g (a :: l) (a' :: l')

theorem DRL.mono {g g' : Gh} (hl : Le g g') : ∀ {l l' : List Deferred}, DRL g l l' → DRL g' l l'
  | _, _, .nil => .nil
  | _, _, .cons (.inl ⟨f, c, c', h1, h2, h3, h4⟩) t => .cons (.inl ⟨f, c, c', h1, h2, h3.mono hl, h4.mono hl⟩) (DRL.mono hl t)
  | _, _, .cons (.inr ⟨r, r', h1, h2, h3⟩) t => .cons (.inr ⟨r, r', h1, h2, h3.mono hl⟩) (DRL.mono hl t)

structure Rel (ro : Option Nat) (B : Nat) (w0 : World) (g : Gh) (s : St) (a : Act) (w : World) : Prop where
  hr : HR g s.h B w0 w
  ts : VRL g s.ts a.tmps.toList
  ds : DRL g s.ds a.defers
  rd : MR g s.rd ro

def ExR (g : Gh) : Exit → Exit → Prop
  | .normal, .normal => True
  | .exit i, .exit j => i = j
  | .ret, .ret => True
  | .panic c, .panic c' => ChR g c c'
  | _, _ => False

def Post (ro : Option Nat) (B : Nat) (w0 : World) (g0 : Gh) (outs : List Out) : Exit → Act → World → Prop := fun e' a w => ∃ g e s, Out.mk e s ∈ outs ∧ Le g0 g ∧ ExR g e e' ∧ Rel ro B w0 g s a w

def Good (outs : List Out) : Prop := ∀ o ∈ outs, o ≠ .bad

section
variable {P : Program} {B : Nat} {w0 : World} {ro : Option Nat} {n : Nat}

theorem put_ts {g : Gh} {ts : List Value} {a : Act} (hts : VRL g ts a.tmps.toList) {v v' : Value} (hv : VR g v v') (dst : Option Nat) : VRL g (putT ts dst v) (a.put dst v').tmps.toList := by
  cases dst with
  | none => exact hts
  | some d =>
    simp only [putT, Act.put, lset_eq, Array.toList_setIfInBounds]
    exact hts.set d hv

theorem put_defers (a : Act) (dst : Option Nat) (v : Value) : (a.put dst v).defers = a.defers := by cases dst <;> rfl

theorem wanted_eq {g : Gh} {ts : List Value} {a : Act} (hts : VRL g ts a.tmps.toList) {ops : Array Oper} {o : Oper} {ao : AOper} (hc : compOper P ops o = some ao) :
    Region.wanted o (yielded ops a.tmps) = wantedT ts ao.guard := by
  unfold compOper at hc
  split at hc
  · cases hc
  split at hc
  · cases hc
  split at hc
  · rename_i hg; cases hc; simp [Region.wanted, hg, wantedT]
  · rename_i j want hg
    split at hc
    · rename_i t ht
      cases hc
      simp only [Region.wanted, hg, wantedT, yielded, ht, Option.bind_some]
      have := lget_vr hts t
      have e1 : a.tmps.toList.getD t undef = a.tmps.getD t undef := by simp [List.getD, Array.getD_eq_getD_getElem?]
      rw [e1] at this
      cases hget : a.tmps[t]? with
      | none =>
        have hud : a.tmps.getD t undef = undef := by simp [Array.getD_eq_getD_getElem?, hget]
        rw [hud] at this
        cases hl : lget ts t with
        | bool b => rw [hl] at this; have := this.bool; cases this
        | _ => rfl
      | some v =>
        have hud : a.tmps.getD t undef = v := by simp [Array.getD_eq_getD_getElem?, hget]
        rw [hud] at this
        cases hl : lget ts t with
        | bool b =>
          rw [hl] at this
          have := this.bool
          subst this
          rfl
        | _ =>
          rw [hl] at this
          cases v with
          | bool b =>
            exfalso
            cases this
          | _ => rfl
    · cases hc

theorem compOper_parts {ops : Array Oper} {o : Oper} {ao : AOper} (hc : compOper P ops o = some ao) : compOp P o = some ao.op ∧ o.op.operands.toList.all okOpd = true ∧ ao.dst = o.dst := by
  unfold compOper at hc
  split at hc
  · cases hc
  rename_i hok
  split at hc
  · cases hc
  rename_i op hop
  split at hc
  · cases hc; exact ⟨hop, by simpa using hok, rfl⟩
  · split at hc
    · cases hc; exact ⟨hop, by simpa using hok, rfl⟩
    · cases hc

theorem mem_good {outs : List Out} {l : List CO} {f : CO → List Out} (he : outs = l.flatMap f) (hg : Good outs) (hb : f .bad = [.bad]) : ∀ co ∈ l, co ≠ .bad := by
  intro co hm hc
  subst hc
  have : Out.bad ∈ outs := by rw [he]; exact List.mem_flatMap.2 ⟨.bad, hm, by rw [hb]; simp⟩
  exact hg _ this rfl

theorem good_sub {outs : List Out} {l : List CO} {f : CO → List Out} (he : outs = l.flatMap f) (hg : Good outs) {co : CO} (hm : co ∈ l) : Good (f co) := fun x hx => hg x (by rw [he]; exact List.mem_flatMap.2 ⟨co, hm, hx⟩)

def nextOut (P : Program) (call : Caller) (rest : List AOper) (s : St) (dst : Option Nat) : CO → List Out
  | .ret v h => xops P call rest { s with ts := putT s.ts dst v, h := h }
  | .pan chain h => [.mk (.panic chain) { s with h := h }]
  | .bad => [.bad]

theorem xops_cons {call : Caller} {ao : AOper} {rest : List AOper} {s : St} (hnd : ∀ f args, ao.op ≠ .defer f args) :
    xops P call (ao :: rest) s = if wantedT s.ts ao.guard then (xo P call s.ts s.h ao.op).flatMap (nextOut P call rest s ao.dst) else xops P call rest { s with ts := putT s.ts ao.dst undef } := by
  rw [xops]
  split
  · split
    · rename_i f args hop; exact absurd hop (hnd f args)
    · congr 1
      try (funext co; cases co <;> rfl)
  · rfl

theorem xops_defer {call : Caller} {ao : AOper} {rest : List AOper} {s : St} {f : Operand} {args : List Operand} (hop : ao.op = .defer f args) :
    xops P call (ao :: rest) s = if wantedT s.ts ao.guard then (match deferOf s.ts (.defer f args) with
      | some d => xops P call rest { s with ds := d :: s.ds, ts := putT s.ts ao.dst undef }
      | none => [.bad]) else xops P call rest { s with ts := putT s.ts ao.dst undef } := by
  rw [xops]
  split
  · split
    · rename_i f' args' hop'; rw [hop] at hop'; cases hop'; rfl
    · rename_i hno; exact absurd hop (hno f args)
  · rfl

/-- a call put off -/
theorem defer_wp {o : Oper} {f : Operand} {args : List Operand} {c : Call} {g : Gh} {h : Heap} {w : World} {ts : List Value} {a : Act} {K : Act → World → Prop} {Q : Exit → Act → World → Prop} (ho : o.op = .defer c) (hcl : c.callee = .value f) (hargs : c.args.toList = args)
    (hok : o.op.operands.toList.all okOpd = true) (hr : HR g h B w0 w) (hts : VRL g ts a.tmps.toList) {d : Deferred} (hd : deferOf ts (.defer f args) = some d)
    (hro : ro = none) (hK : ∀ d', DR g d d' → K ({ a with defers := d' :: a.defers }.put o.dst undef) w) : o.wpIn (FR ro) n P a w K Q := by
  subst hro
  have hfv := eval_vr hr hts f
  have hav : VRL g (args.map (eval ts)) (args.map (eval' a)) := VRL.map fun x _ => eval_vr hr hts x
  have hex := exec_eval (a := a) hok (fun cs b => by simp [ho])
  unfold deferOf at hd
  simp only at hd
  split at hd
  · rename_i fid first captured hf
    cases hd
    rw [hf] at hfv
    obtain ⟨captured⟩ := captured
    obtain ⟨first', captured', hf', h1, h2⟩ := hfv.func_inv
    refine ⟨fun _ _ => trivial, ?_⟩
    rw [show (FR none).round = none from rfl, Oper.semAt_none, hex]
    have hrun : (execOp (eval' a) o).run P w = .ok (.defer { target := .fn (.func fid) ⟨captured'⟩, args := ⟨first'⟩ ++ ⟨args.map (eval' a)⟩ }) w := by
      simp only [execOp, ho, resolve, hcl]
      rw [show c.args.map (eval' a) = ⟨args.map (eval' a)⟩ from by rw [← hargs]; apply Array.ext'; simp]
      simp only [hf', Deferred.ofValue, Sem.run_bind, Sem.run_pure, Result.andThen_ok]
    rw [hrun]
    exact hK _ (.inl ⟨fid, captured, captured', rfl, rfl, h2, by simpa using h1.append hav⟩)
  · cases hd

/-- the operations of a region, one behind the other -/
theorem ops_sound {call : Caller} (hcall : CallOK P call) {ops : Array Oper} (hndf : ro = none ∨ ∀ (i : Nat) o, ops[i]? = some o → ∀ c, o.op ≠ .defer c) {Q : Exit → Act → World → Prop} {g0 : Gh} : ∀ (l : List Nat) (aos : List AOper), compList (fun i => (ops[i]?).bind (compOper P ops)) l = some aos →
    ∀ (g : Gh) (s : St) (a : Act) (w : World), Rel ro B w0 g s a w → Le g0 g → Good (xops P call aos s) →
      (∀ e a w, Post ro B w0 g0 (xops P call aos s) e a w → Q e a w) → wpOpsIn (FR ro) n P ops Q l a w
  | [], aos, hc, g, s, a, w, hr, hl, hg, hQ => by
    simp [compList] at hc
    subst hc
    exact hQ _ _ _ ⟨g, .normal, s, by simp [xops], hl, trivial, hr⟩
  | i :: l, aos, hc, g, s, a, w, hr, hl, hg, hQ => by
    simp only [compList] at hc
    split at hc
    · rename_i ao aos' hao haos
      cases hc
      cases ho : ops[i]? with
      | none => rw [ho] at hao; cases hao
      | some o =>
        rw [ho] at hao
        have hao : compOper P ops o = some ao := hao
        obtain ⟨h1, h2, h3⟩ := compOper_parts hao
        have hw := wanted_eq hr.ts hao
        simp only [wpOpsIn, ho, hw]
        by_cases hdf : ∃ f args, ao.op = .defer f args
        · obtain ⟨f, args, hop⟩ := hdf
          rw [xops_defer hop] at hg hQ
          by_cases hwt : wantedT s.ts ao.guard = true
          · simp only [hwt, if_true] at hg hQ ⊢
            rw [hop] at h1
            rcases comp_cases h1 with ⟨c, f', _, _, he⟩ | ⟨c, r, n, _, _, he⟩ | ⟨it, _, he⟩ | ⟨c, f', ho', hcl, he⟩ | ⟨_, _, _, hn⟩
            · cases he
            · cases he
            · cases he
            · cases he
              cases hd : deferOf s.ts (.defer f c.args.toList) with
              | none => rw [hd] at hg; exact absurd rfl (hg .bad (by simp))
              | some d =>
                rw [hd] at hg hQ
                have hro : ro = none := hndf.resolve_right fun hnd2 => absurd ho' (hnd2 i o ho _)
                refine defer_wp ho' hcl rfl h2 hr.hr hr.ts hd hro fun d' hd' => ?_
                exact ops_sound hcall hndf l aos' haos g { s with ds := d :: s.ds, ts := putT s.ts ao.dst undef } _ w ⟨hr.hr, by rw [← h3]; exact put_ts (a := { a with defers := d' :: a.defers }) hr.ts (.gr ground_undef) _, by rw [put_defers]; exact .cons hd' hr.ds, hr.rd⟩ hl hg hQ
            · exact absurd rfl (hn f args)
          · rw [if_neg hwt] at hg
            simp only [if_neg hwt] at hQ ⊢
            refine ⟨fun _ _ => trivial, ?_⟩
            exact ops_sound hcall hndf l aos' haos g { s with ts := putT s.ts ao.dst undef } _ w ⟨hr.hr, by rw [← h3]; exact put_ts hr.ts (.gr ground_undef) _, by rw [put_defers]; exact hr.ds, hr.rd⟩ hl hg hQ
        · have hnd : ∀ f args, ao.op ≠ .defer f args := fun f args he => hdf ⟨f, args, he⟩
          rw [xops_cons hnd] at hg hQ
          by_cases hwt : wantedT s.ts ao.guard = true
          · simp only [hwt, if_true] at hg hQ ⊢
            refine xo_wp (K := wpOpsIn (FR ro) n P ops Q l) (Q := Q) (a := a) (a1 := a) rfl hcall h1 h2 hr.hr hr.ts (mem_good rfl hg rfl) ⟨fun v h' hm g' v' w' hle hr' hv => ?_, fun c h' hm g' c' w' hle hr' hch => ?_⟩
            · refine ops_sound hcall hndf l aos' haos g' { s with ts := putT s.ts ao.dst v, h := h' } _ w' ⟨hr', by rw [← h3]; exact put_ts (hr.ts.mono hle) hv _, by rw [put_defers]; exact hr.ds.mono hle, hr.rd.mono hle⟩ (hl.trans hle) (good_sub (f := nextOut P call aos' s ao.dst) rfl hg hm) (fun e a w hp => hQ e a w ?_)
              obtain ⟨g2, e2, s2, hm2, r⟩ := hp
              exact ⟨g2, e2, s2, List.mem_flatMap.2 ⟨_, hm, hm2⟩, r⟩
            · exact hQ _ _ _ ⟨g', .panic c, { s with h := h' }, List.mem_flatMap.2 ⟨_, hm, List.mem_singleton.2 rfl⟩, hl.trans hle, hch, hr', hr.ts.mono hle, hr.ds.mono hle, hr.rd.mono hle⟩
          · rw [if_neg hwt] at hg
            simp only [if_neg hwt] at hQ ⊢
            refine ⟨fun _ _ => trivial, ?_⟩
            exact ops_sound hcall hndf l aos' haos g { s with ts := putT s.ts ao.dst undef } _ w ⟨hr.hr, by rw [← h3]; exact put_ts hr.ts (.gr ground_undef) _, by rw [put_defers]; exact hr.ds, hr.rd⟩ hl hg hQ
    · cases hc

end
end Go.Vm
