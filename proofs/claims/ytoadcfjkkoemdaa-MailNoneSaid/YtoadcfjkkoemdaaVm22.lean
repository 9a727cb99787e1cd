/- A small machine over an abstract heap: deferred calls, functions. -/
import Derived.Test.YtoadcfjkkoemdaaVm21
import Derived.Recover
set_option linter.unusedSimpArgs false
namespace Go.Vm
open Go.RowKit

def MoR (g : Gh) : FrameMode → FrameMode → Prop
  | .run, .run => True
  | .returning, .returning => True
  | .panicking c, .panicking c' => ChR g c c'
  | _, _ => False

theorem MoR.mono {g g' : Gh} (hl : Le g g') {u u' : FrameMode} (h : MoR g u u') : MoR g' u u' := by
  cases u <;> cases u' <;> simp_all [MoR]
  exact ChR.mono hl h

theorem ChR.append {g : Gh} : ∀ {a a' b b' : List PanicEntry}, ChR g a a' → ChR g b b' → ChR g (a ++ b) (a' ++ b')
  | _, _, _, _, .nil, h => h
  | _, _, _, _, .cons h1 h2, h => .cons h1 (ChR.append h2 h)

theorem ChR.dropWhile {g : Gh} : ∀ {a a' : List PanicEntry}, ChR g a a' → ChR g (a.dropWhile (!·.goexit)) (a'.dropWhile (!·.goexit))
  | _, _, .nil => .nil
  | _, _, .cons h t => by
    simp only [List.dropWhile_cons, h.2.2]
    split
    · exact ChR.dropWhile t
    · exact .cons h t

theorem raised_mor {g : Gh} {u u' : FrameMode} {c c' : List PanicEntry} (hu : MoR g u u') (hc : ChR g c c') : MoR g (raised u c) (raised u' c') := by
  cases u <;> cases u' <;> simp_all [MoR, raised]
  exact hc.append hu

theorem settle_mor {g : Gh} {u u' : FrameMode} (hu : MoR g u u') : MoR g (settle u) (settle u') := by
  cases u with
  | run => cases u' <;> simp_all [MoR, settle]
  | returning => cases u' <;> simp_all [MoR, settle]
  | panicking c =>
    cases u' with
    | panicking c' =>
      have hc : ChR g c c' := hu
      cases hc with
      | nil => exact .nil
      | cons h t =>
        rename_i a a' l l'
        obtain ⟨h1, h2, h3⟩ := h
        obtain ⟨v, r, ge⟩ := a
        obtain ⟨v', r', ge'⟩ := a'
        simp only at h1 h2 h3
        subst h2 h3
        cases r' with
        | false => exact .cons ⟨h1, rfl, rfl⟩ t
        | true =>
          simp only [settle]
          have hd := t.dropWhile
          cases hd1 : l.dropWhile (!·.goexit) with
          | nil => rw [hd1] at hd; cases hd2 : l'.dropWhile (!·.goexit) with
            | nil => trivial
            | cons x y => rw [hd2] at hd; cases hd
          | cons x y => rw [hd1] at hd; cases hd2 : l'.dropWhile (!·.goexit) with
            | nil => rw [hd2] at hd; cases hd
            | cons x' y' => rw [hd2] at hd; exact hd
    | _ => simp [MoR] at hu

section
variable {P : Program} {B : Nat} {w0 : World}

/-! ### Results -/

def rvar (tmps : Array Value) : ResultVar → Sem Value
  | .tmp t => pure (tmps.getD t undef)
  | .cell a t => do loadVar t (← asAddr (tmps.getD a undef))

theorem results_eq (fn : Func) (tmps : Array Value) : results fn tmps = (fn.results.mapM (rvar tmps) >>= fun vs => pure (if h : vs.size = 1 then vs[0] else .tuple vs)) := by
  unfold results
  have : (fun x => match x with | ResultVar.tmp t => pure (tmps.getD t undef) | ResultVar.cell a t => do loadVar t (← asAddr (tmps.getD a undef))) = rvar tmps := by
    funext x; cases x <;> rfl
  rw [← this]
  rfl

theorem resVals_sound {g : Gh} {h : Heap} {w : World} {ts : List Value} {tmps : Array Value} (hr : HR g h B w0 w) (hts : VRL g ts tmps.toList) : ∀ {rs : List ResultVar} {ars : List (Nat × Option (Option Nat))} {l : List Value}, compResults P rs = some ars → resVals h ts ars = some l →
    ∃ l', (rs.mapM (rvar tmps)).run P w = .ok l' w ∧ VRL g l l'
  | [], ars, l, hc, hv => by
    simp [compResults] at hc; subst hc
    simp [resVals] at hv; subst hv
    exact ⟨[], by simp, .nil⟩
  | .tmp t :: rs, ars, l, hc, hv => by
    simp only [compResults] at hc
    obtain ⟨ars', h1, rfl⟩ := Option.map_eq_some_iff.1 hc
    simp only [resVals] at hv
    obtain ⟨l1, h2, rfl⟩ := Option.map_eq_some_iff.1 hv
    obtain ⟨l', h3, h4⟩ := resVals_sound hr hts h1 h2
    have := lget_vr hts t
    have e1 : tmps.toList.getD t undef = tmps.getD t undef := by simp [List.getD, Array.getD_eq_getD_getElem?]
    rw [e1] at this
    refine ⟨tmps.getD t undef :: l', ?_, .cons this h4⟩
    simp only [List.mapM_cons, rvar, Sem.run_bind, Sem.run_pure, Result.andThen_ok, h3]
  | .cell a t :: rs, ars, l, hc, hv => by
    simp only [compResults] at hc
    split at hc
    · rename_i gg ars' hgg h1
      cases hc
      simp only [resVals] at hv
      split at hv
      · rename_i ad l1 had h2
        obtain ⟨l', h3, h4⟩ := resVals_sound hr hts h1 h2
        have hv1 := lget_vr hts a
        have e1 : tmps.toList.getD a undef = tmps.getD a undef := by simp [List.getD, Array.getD_eq_getD_getElem?]
        rw [e1, had] at hv1
        obtain ⟨a', ha', har⟩ := hv1.pointer
        split at hv
        · rename_i n
          obtain ⟨c, hcs, rfl⟩ := Option.map_eq_some_iff.1 hv
          obtain ⟨c', hrun, hcr⟩ := loadCells_sound (P := P) hr hcs har rfl rfl
          obtain ⟨q1, q2⟩ := aggOf_some hgg
          refine ⟨.agg ⟨c'⟩ :: l', ?_, .cons (.agg hcr) h4⟩
          have hld : (rvar tmps (.cell a t)).run P w = .ok (.agg ⟨c'⟩) w := by
            simp only [rvar, Sem.run_bind, ha', asAddr, Sem.run_pure, Result.andThen_ok, loadVar, q1, if_true, run_size q2, hrun]
          simp only [List.mapM_cons, Sem.run_bind, hld, Result.andThen_ok, h3, Sem.run_pure]
        · split at hv
          · rename_i v r hcs
            cases hv
            obtain ⟨v', hrun, hvr⟩ := loadOne_sound (P := P) hr hcs har rfl rfl
            have q1 := aggOf_none hgg
            refine ⟨v' :: l', ?_, .cons hvr h4⟩
            have hld : (rvar tmps (.cell a t)).run P w = .ok v' w := by
              simp only [rvar, Sem.run_bind, ha', asAddr, Sem.run_pure, Result.andThen_ok, loadVar, q1, Bool.false_eq_true, if_false, hrun]
            simp only [List.mapM_cons, Sem.run_bind, hld, Result.andThen_ok, h3, Sem.run_pure]
          · cases hv
      · cases hv
    · cases hc

theorem results_sound {g : Gh} {h : Heap} {w : World} {ts : List Value} {tmps : Array Value} (hr : HR g h B w0 w) (hts : VRL g ts tmps.toList) {fn : Func} {ars : List (Nat × Option (Option Nat))} {v : Value} (hc : compResults P fn.results.toList = some ars) (hv : resOf h ts ars = some v) :
    ∃ v', (results fn tmps).run P w = .ok v' w ∧ VR g v v' := by
  unfold resOf at hv
  cases hrv : resVals h ts ars with
  | none => simp [hrv] at hv
  | some l =>
    obtain ⟨l', h1, h2⟩ := resVals_sound hr hts hc hrv
    have hrun : (fn.results.mapM (rvar tmps)).run P w = .ok ⟨l'⟩ w := by
      rw [Array.mapM_eq_mapM_toList]
      simp only [Sem.run_map]
      rw [h1]; rfl
    rw [results_eq]
    simp only [Sem.run_bind]
    rw [hrun]
    simp only [Result.andThen_ok, Sem.run_pure]
    rw [hrv] at hv
    cases h2 with
    | nil => simp only at hv; cases hv; exact ⟨.tuple ⟨[]⟩, by simp, .tuple .nil⟩
    | cons hx hl =>
      cases hl with
      | nil => simp only at hv; cases hv; exact ⟨_, by simp, hx⟩
      | cons hy hl => simp only at hv; cases hv; exact ⟨.tuple ⟨_⟩, by simp, .tuple (.cons hx (.cons hy hl))⟩

/-! ### A deferred function -/

def ExS (g : Gh) : Exit → Exit → Prop := ExR g

def PostS (B : Nat) (w0 : World) (g0 : Gh) (c₀ : Frame) (cs : List Frame) (outs : List OutS) : Exit → Act → List Frame → World → Prop := fun e' a cs' w =>
  ∃ g e s u', OutS.mk e s ∈ outs ∧ Le g0 g ∧ ExR g e e' ∧ Rel none B w0 g s.s a w ∧ MoR g s.up u' ∧ cs' = { c₀ with mode := u' } :: cs

def GoodS (outs : List OutS) : Prop := ∀ o ∈ outs, o ≠ .bad

theorem recovered_sound {g : Gh} {u u' : FrameMode} (hu : MoR g u u') (c₀ : Frame) (cs : List Frame) :
    ∃ v' u2, MoR g (recovered u).2 u2 ∧ VR g (recovered u).1 v' ∧ ((recoverD ({ c₀ with mode := u' } :: cs) = some (v', { c₀ with mode := u2 } :: cs)) ∨ (recoverD ({ c₀ with mode := u' } :: cs) = none ∧ v' = .nilIface ∧ u2 = u')) := by
  have none' : ∀ {u u' : FrameMode}, MoR g u u' → recovered u = (.nilIface, u) → recoverD ({ c₀ with mode := u' } :: cs) = none → ∃ v' u2, MoR g (recovered u).2 u2 ∧ VR g (recovered u).1 v' ∧ ((recoverD ({ c₀ with mode := u' } :: cs) = some (v', { c₀ with mode := u2 } :: cs)) ∨ (recoverD ({ c₀ with mode := u' } :: cs) = none ∧ v' = .nilIface ∧ u2 = u')) :=
    fun {u u'} hu h1 h2 => ⟨.nilIface, u', by rw [h1]; exact hu, by rw [h1]; exact .gr rfl, .inr ⟨h2, rfl, rfl⟩⟩
  cases u with
  | run => cases u' <;> simp [MoR] at hu; exact none' (by trivial) rfl rfl
  | returning => cases u' <;> simp [MoR] at hu; exact none' (by trivial) rfl rfl
  | panicking c =>
    cases u' with
    | panicking c' =>
      have hc : ChR g c c' := hu
      cases hc with
      | nil => exact none' (u := .panicking []) (u' := .panicking []) .nil rfl rfl
      | cons h t =>
        rename_i a a' l l'
        obtain ⟨h1, h2, h3⟩ := h
        obtain ⟨v, r, ge⟩ := a
        obtain ⟨v', r', ge'⟩ := a'
        simp only at h1 h2 h3
        subst h2 h3
        cases r' <;> cases ge'
        · exact ⟨v', .panicking ({ v := v', recovered := true } :: l'), .cons ⟨h1, rfl, rfl⟩ t, h1, .inl rfl⟩
        · exact none' (u := .panicking _) (u' := .panicking _) (.cons ⟨h1, rfl, rfl⟩ t) rfl rfl
        · exact none' (u := .panicking _) (u' := .panicking _) (.cons ⟨h1, rfl, rfl⟩ t) rfl rfl
        · exact none' (u := .panicking _) (u' := .panicking _) (.cons ⟨h1, rfl, rfl⟩ t) rfl rfl
    | _ => simp [MoR] at hu

theorem upon_of_wp {o : Oper} {a : Act} {w : World} {K : Act → World → Prop} {Q : Exit → Act → World → Prop} (h : o.wp P a w K Q) : ∀ w', (execOp a.eval o).run P w ≠ .ok .recover w' := by
  intro w' he
  unfold Oper.wp at h
  rw [he] at h
  exact h

theorem comp_recover {o : Oper} (h : compOp P o = some .recover) : ∀ (a : Act) (w : World), (execOp a.eval o).run P w = .ok .recover w := by
  unfold compOp at h
  simp only [show (slim o).op = o.op from rfl] at h
  intro a w
  cases ho : o.op with
  | call c =>
    rw [ho] at h
    simp only at h
    split at h
    · split at h <;> cases h
    · cases h
    · rename_i b hcl
      unfold compBuiltin at h
      split at h
      all_goals try (repeat' split at h)
      all_goals try (cases h; done)
      all_goals try (obtain ⟨_, _, h3⟩ := Option.map_eq_some_iff.1 h; cases h3; done)
      obtain ⟨cs, hcs⟩ := exec_builtin (P := P) (e := a.eval) ho hcl w
      rw [hcs]; rfl
  | makeMap t r => rw [ho] at h; cases r <;> cases h
  | next it s => rw [ho] at h; cases s <;> cases h
  | _ =>
    rw [ho] at h
    exfalso
    try simp only at h
    repeat' split at h
    all_goals first
      | (cases h; done)
      | (obtain ⟨_, _, h3⟩ := Option.map_eq_some_iff.1 h; cases h3)

def nextS (P : Program) (call : Caller) (rest : List AOper) (s : StS) (dst : Option Nat) : CO → List OutS
  | .ret v h => xopsS P call rest { s with s := { s.s with ts := putT s.s.ts dst v, h := h } }
  | .pan chain h => [.mk (.panic chain) { s with s := { s.s with h := h } }]
  | .bad => [.bad]

theorem xopsS_cons {call : Caller} {ao : AOper} {rest : List AOper} {s : StS} (hnd : ∀ f args, ao.op ≠ .defer f args) (hnr : ao.op ≠ .recover) :
    xopsS P call (ao :: rest) s = if wantedT s.s.ts ao.guard then (xo P call s.s.ts s.s.h ao.op).flatMap (nextS P call rest s ao.dst) else xopsS P call rest { s with s := { s.s with ts := putT s.s.ts ao.dst undef } } := by
  rw [xopsS]
  split
  · split
    · rename_i hop; exact absurd hop hnr
    · rename_i f args hop; exact absurd hop (hnd f args)
    · congr 1
      try (funext co; cases co <;> rfl)
  · rfl

theorem xopsS_recover {call : Caller} {ao : AOper} {rest : List AOper} {s : StS} (hop : ao.op = .recover) :
    xopsS P call (ao :: rest) s = if wantedT s.s.ts ao.guard then xopsS P call rest { s := { s.s with ts := putT s.s.ts ao.dst (recovered s.up).1 }, up := (recovered s.up).2 }
      else xopsS P call rest { s with s := { s.s with ts := putT s.s.ts ao.dst undef } } := by
  rw [xopsS]
  split
  · split
    · rfl
    · rename_i f args hop'; rw [hop] at hop'; cases hop'
    · rename_i hno _; exact absurd hop hno
  · rfl

theorem xopsS_defer {call : Caller} {ao : AOper} {rest : List AOper} {s : StS} {f : Operand} {args : List Operand} (hop : ao.op = .defer f args) :
    xopsS P call (ao :: rest) s = if wantedT s.s.ts ao.guard then [.bad] else xopsS P call rest { s with s := { s.s with ts := putT s.s.ts ao.dst undef } } := by
  rw [xopsS]
  split
  · split
    · rename_i hop'; rw [hop] at hop'; cases hop'
    · rfl
    · rename_i hno; exact absurd hop (hno f args)
  · rfl

theorem opsS_sound {call : Caller} (hcall : CallOK P call) (hyb : ∀ l args h, call (.yield l) args h = [.bad]) {ops : Array Oper} {c₀ : Frame} {cs : List Frame} {Q : Exit → Act → List Frame → World → Prop} {g0 : Gh} : ∀ (l : List Nat) (aos : List AOper), compList (fun i => (ops[i]?).bind (compOper P ops)) l = some aos →
    ∀ (g : Gh) (s : StS) (u' : FrameMode) (a : Act) (w : World), Rel none B w0 g s.s a w → MoR g s.up u' → Le g0 g → GoodS (xopsS P call aos s) →
      (∀ e a cs' w, PostS B w0 g0 c₀ cs (xopsS P call aos s) e a cs' w → Q e a cs' w) → wpOpsS P ops Q l a ({ c₀ with mode := u' } :: cs) w
  | [], aos, hc, g, s, u', a, w, hr, hu, hl, hg, hQ => by
    simp [compList] at hc
    subst hc
    exact hQ _ _ _ _ ⟨g, .normal, s, u', by simp [xopsS], hl, trivial, hr, hu, rfl⟩
  | i :: l, aos, hc, g, s, u', a, w, hr, hu, hl, hg, hQ => by
    simp only [compList] at hc
    split at hc
    · rename_i ao aos' hao haos
      cases hc
      cases ho : ops[i]? with
      | none => rw [ho] at hao; cases hao
      | some o =>
        rw [ho] at hao
        have hao : compOper P ops o = some ao := hao
        obtain ⟨h1, h2, h3⟩ := compOper_parts hao
        have hw := wanted_eq hr.ts hao
        simp only [wpOpsS, ho, hw]
        have skip : ∀ (_ : ¬ wantedT s.s.ts ao.guard = true), GoodS (xopsS P call aos' { s with s := { s.s with ts := putT s.s.ts ao.dst undef } }) → (∀ e a cs' w, PostS B w0 g0 c₀ cs (xopsS P call aos' { s with s := { s.s with ts := putT s.s.ts ao.dst undef } }) e a cs' w → Q e a cs' w) →
            wpOpsS P ops Q l (a.put o.dst undef) ({ c₀ with mode := u' } :: cs) w := fun _ hg hQ =>
          opsS_sound hcall hyb l aos' haos g { s with s := { s.s with ts := putT s.s.ts ao.dst undef } } u' _ w ⟨hr.hr, by rw [← h3]; exact put_ts hr.ts (.gr ground_undef) _, by rw [put_defers]; exact hr.ds, hr.rd⟩ hu hl hg hQ
        by_cases hdf : ∃ f args, ao.op = .defer f args
        · obtain ⟨f, args, hop⟩ := hdf
          rw [xopsS_defer hop] at hg hQ
          by_cases hwt : wantedT s.s.ts ao.guard = true
          · rw [if_pos hwt] at hg; exact absurd rfl (hg .bad (by simp))
          · rw [if_neg hwt] at hg
            simp only [if_neg hwt] at hQ ⊢
            exact skip hwt hg hQ
        · have hnd : ∀ f args, ao.op ≠ .defer f args := fun f args he => hdf ⟨f, args, he⟩
          by_cases hrc : ao.op = .recover
          · rw [xopsS_recover hrc] at hg hQ
            by_cases hwt : wantedT s.s.ts ao.guard = true
            · simp only [hwt, if_true] at hg hQ ⊢
              rw [comp_recover (by rw [← hrc]; exact h1) a w]
              simp only
              obtain ⟨v', u2, hm2, hv2, hrec⟩ := recovered_sound hu c₀ cs
              have hnext := opsS_sound hcall hyb l aos' haos g { s := { s.s with ts := putT s.s.ts ao.dst (recovered s.up).1 }, up := (recovered s.up).2 } u2 (a.put o.dst v') w ⟨hr.hr, by rw [← h3]; exact put_ts hr.ts hv2 _, by rw [put_defers]; exact hr.ds, hr.rd⟩ hm2 hl hg hQ
              rcases hrec with hrec | ⟨hrec, rfl, rfl⟩
              · rw [hrec]; exact hnext
              · rw [hrec]; exact hnext
            · rw [if_neg hwt] at hg
              simp only [if_neg hwt] at hQ ⊢
              exact skip hwt hg hQ
          · rw [xopsS_cons hnd hrc] at hg hQ
            by_cases hwt : wantedT s.s.ts ao.guard = true
            · simp only [hwt, if_true] at hg hQ ⊢
              have hgood : ∀ co ∈ xo P call s.s.ts s.s.h ao.op, co ≠ .bad := fun co hm hb => by
                subst hb
                exact hg .bad (List.mem_flatMap.2 ⟨.bad, hm, by simp [nextS]⟩) rfl
              have hwp : o.wp P a w (fun a' w' => wpOpsS P ops Q l a' ({ c₀ with mode := u' } :: cs) w') (fun e a' w' => Q e a' ({ c₀ with mode := u' } :: cs) w') := by
                refine xo_wp0 (a1 := a) rfl hcall hyb h1 h2 hr.hr hr.ts hgood ⟨fun v h' hm g' v' w' hle hr' hv => ?_, fun c h' hm g' c' w' hle hr' hch => ?_⟩
                · refine opsS_sound hcall hyb l aos' haos g' { s with s := { s.s with ts := putT s.s.ts ao.dst v, h := h' } } u' _ w' ⟨hr', by rw [← h3]; exact put_ts (hr.ts.mono hle) hv _, by rw [put_defers]; exact hr.ds.mono hle, hr.rd.mono hle⟩ (hu.mono hle) (hl.trans hle)
                    (fun o ho => hg o (List.mem_flatMap.2 ⟨_, hm, ho⟩)) (fun e a cs' w hp => hQ e a cs' w ?_)
                  obtain ⟨g2, e2, s2, u2, hm2, r⟩ := hp
                  exact ⟨g2, e2, s2, u2, List.mem_flatMap.2 ⟨_, hm, hm2⟩, r⟩
                · exact hQ _ _ _ _ ⟨g', .panic c, { s with s := { s.s with h := h' } }, u', List.mem_flatMap.2 ⟨_, hm, List.mem_singleton.2 rfl⟩, hl.trans hle, hch, ⟨hr', hr.ts.mono hle, hr.ds.mono hle, hr.rd.mono hle⟩, hu.mono hle, rfl⟩
              have hnr := upon_of_wp hwp
              unfold Oper.wp at hwp
              split
              · rename_i w' hrr; exact absurd hrr (hnr w')
              · exact hwp
            · rw [if_neg hwt] at hg
              simp only [if_neg hwt] at hQ ⊢
              exact skip hwt hg hQ
    · cases hc

end
end Go.Vm
