/- A small machine over an abstract heap: code, whole. -/
import Derived.Scope
import Derived.Test.YtbmpalbdbcjieaaGreatVD
import Derived.Recover
import Derived.RecoverIn
set_option linter.unusedSimpArgs false
namespace Go.Vm
open Go.RowKit
section
variable {P : Program} {B : Nat} {w0 : World} {ro : Option Nat} {n : Nat}
def DrawsOK (P : Program) (call : Caller) (B : Nat) (w0 : World) : Prop :=
  ∀ (ro : Option Nat) (n L : Nat) (id : Nat) (ops : Array Oper) (ac : ACode) (g0 g : Gh) (s : St) (a : Act) (w : World) (Q : Exit → Act → World → Prop), compR P ops = some ac → Rel ro B w0 g s a w → Le g0 g → Good (xc P call L ac s) →
    (∀ e a w, Post ro B w0 g0 (xc P call L ac s) e a w → Q e a w) → (Code.region id ops true).wpIn (FR ro) n P Q a w
def thenOut (f : St → List Out) : Out → List Out
  | .mk .normal s => f s
  | o => [o]
theorem xc_seq {call : Caller} {L : Nat} {x y : ACode} {s : St} : xc P call L (.seq x y) s = (xc P call L x s).flatMap (thenOut (xc P call L y)) := by
  simp only [xc]
  congr 1
theorem loopGo_succ {body : St → List Out} {n : Nat} {s : St} : loopGo body (n + 1) s = (body s).flatMap (thenOut (loopGo body n)) := by
  simp only [loopGo]
  congr 1
theorem good_then {l : List Out} {f : St → List Out} (hg : Good (l.flatMap (thenOut f))) : Good l := by
  intro o hm hb
  subst hb
  exact hg .bad (List.mem_flatMap.2 ⟨.bad, hm, by simp [thenOut]⟩) rfl
theorem good_next {l : List Out} {f : St → List Out} (hg : Good (l.flatMap (thenOut f))) {s : St} (hm : Out.mk .normal s ∈ l) : Good (f s) :=
  fun o ho => hg o (List.mem_flatMap.2 ⟨_, hm, ho⟩)
theorem ExR.normal {g : Gh} {e : Exit} (h : ExR g e .normal) : e = .normal := by cases e <;> simp_all [ExR]
theorem post_then {g0 : Gh} {l : List Out} {f : St → List Out} {K : Act → World → Prop} {Q : Exit → Act → World → Prop}
    (hK : ∀ g s a w, Out.mk .normal s ∈ l → Le g0 g → Rel ro B w0 g s a w → K a w) (hQ : ∀ e a w, Post ro B w0 g0 (l.flatMap (thenOut f)) e a w → Q e a w) :
    ∀ e a w, Post ro B w0 g0 l e a w → Exit.then K Q e a w := by
  rintro e a w ⟨g, e', s, hm, hl, he, hr⟩
  have out : (∀ s, Out.mk e' s ∈ l → Out.mk e' s ∈ l.flatMap (thenOut f)) → Q e a w := fun h => hQ e a w ⟨g, e', s, h s hm, hl, he, hr⟩
  cases e with
  | normal =>
    obtain rfl := he.normal
    exact hK g s a w hm hl hr
  | exit i => exact out fun s hs => List.mem_flatMap.2 ⟨_, hs, by cases e' <;> simp_all [ExR, thenOut]⟩
  | goto i => cases e' <;> simp [ExR] at he
  | ret => exact out fun s hs => List.mem_flatMap.2 ⟨_, hs, by cases e' <;> simp_all [ExR, thenOut]⟩
  | panic c => exact out fun s hs => List.mem_flatMap.2 ⟨_, hs, by cases e' <;> simp_all [ExR, thenOut]⟩
  | outgrown => cases e' <;> simp [ExR] at he
theorem noDefer_op {id : Nat} {ops : Array Oper} {d : Bool} (h : noDefer (.region id ops d) = true) {i : Nat} {o : Oper} (ho : ops[i]? = some o) {c : Call} (hd : o.op = .defer c) : False := by
  have := Array.all_eq_true_iff_forall_mem.1 h o (Array.mem_of_getElem? ho)
  rw [hd] at this
  cases this
theorem stepR_scope {b : Frame} {a : Act} {k : List Item} {cs : List Frame} {w : World} {c : Code} : step P (lone (b.atR a (.code (.scope c) :: k)) cs w) = .next (lone (b.atR a (.code c :: .inScope c :: k)) cs w) :=
  step_lone_go (by simp [stepG, stepG.exec, Frame.atR])
theorem stepR_inScope {b : Frame} {a : Act} {k : List Item} {cs : List Frame} {w : World} {c : Code} : step P (lone (b.atR a (.inScope c :: k)) cs w) = .next (lone (b.atR a k) cs w) :=
  step_lone_go (by simp [stepG, stepG.exec, Frame.atR])
theorem wpIn_scope {F : Fence} {c : Code} {Q : Exit → Act → World → Prop} {a : Act} {w : World} (h : c.wpIn F n P (Exit.noGoto Q) a w) : (Code.scope c).wpIn F n P Q a w := by
  intro b k cs hro hb hr
  have h0 : (lone (b.atR a (.code (.scope c) :: k)) cs w).fenced P F := fenced_calm hb hr rfl
  obtain ⟨e, a₁, w₁, hq, harr⟩ := h b (.inScope c :: k) cs hro hb hr
  cases e with
  | normal => exact ⟨.normal, a₁, w₁, hq, .head h0 stepR_scope (StepsIn.trans harr (.one (fenced_calm hb hr rfl) stepR_inScope))⟩
  | exit id => exact ⟨.exit id, a₁, w₁, hq, .of_steps (.one h0 stepR_scope) ⟨fun k' hk => harr.1 k' (by simp [exitTo, hk]), fun hr hk => harr.2 hr (by simp [exitTo, hk])⟩⟩
  | goto l => exact hq.elim
  | ret => exact ⟨_, a₁, w₁, hq, .of_steps (.one h0 stepR_scope) harr⟩
  | panic ch => exact ⟨_, a₁, w₁, hq, .of_steps (.one h0 stepR_scope) harr⟩
  | outgrown => exact ⟨_, a₁, w₁, hq, .of_steps (.one h0 stepR_scope) harr⟩
theorem noDefer_and {a b : Bool} (h : (a && b) = true) : a = true ∧ b = true := by simpa using h
theorem xc_sound {call : Caller} (hcall : CallOK P call) (L : Nat) (hD : DrawsOK P call B w0) : ∀ (c : Code) (ac : ACode), comp P c = some ac → (ro = none ∨ noDefer c = true) →
    ∀ (g0 g : Gh) (s : St) (a : Act) (w : World) (Q : Exit → Act → World → Prop), Rel ro B w0 g s a w → Le g0 g → Good (xc P call L ac s) →
      (∀ e a w, Post ro B w0 g0 (xc P call L ac s) e a w → Q e a w) → c.wpIn (FR ro) n P Q a w
  | .skip, ac, hc, hnd, g0, g, s, a, w, Q, hr, hl, _, hQ => by
    simp only [comp, Option.some.injEq] at hc; subst hc
    exact wpIn_skip (hQ _ _ _ ⟨g, .normal, s, by simp [xc], hl, trivial, hr⟩)
  | .exit id, ac, hc, hnd, g0, g, s, a, w, Q, hr, hl, _, hQ => by
    simp only [comp, Option.some.injEq] at hc; subst hc
    exact wpIn_exit (hQ _ _ _ ⟨g, .exit id, s, by simp [xc], hl, rfl, hr⟩)
  | .ret, ac, hc, hnd, g0, g, s, a, w, Q, hr, hl, _, hQ => by
    simp only [comp, Option.some.injEq] at hc; subst hc
    exact wpIn_ret (hQ _ _ _ ⟨g, .ret, s, by simp [xc], hl, trivial, hr⟩)
  | .region id ops false, ac, hc, hnd, g0, g, s, a, w, Q, hr, hl, hg, hQ => by
    simp only [comp] at hc
    obtain ⟨aos, haos, rfl⟩ := Option.map_eq_some_iff.1 hc
    exact wpIn_region (ops_sound hcall (hnd.imp_right fun h i o ho c hd => noDefer_op h ho hd) _ aos haos g s a w hr hl hg hQ)
  | .region id ops true, ac, hc, hnd, g0, g, s, a, w, Q, hr, hl, hg, hQ => by
    simp only [comp] at hc
    exact hD ro n L id ops ac g0 g s a w Q hc hr hl hg hQ
  | .seq x y, ac, hc, hnd, g0, g, s, a, w, Q, hr, hl, hg, hQ => by
    simp only [comp] at hc
    split at hc
    · rename_i ax ay hx hy
      cases hc
      rw [xc_seq] at hg hQ
      refine wpIn_seq (xc_sound hcall L hD x ax hx (hnd.imp_right fun h => (noDefer_and h).1) g0 g s a w _ hr hl (good_then hg) (post_then (f := xc P call L ay) (fun g' s' a' w' hm hl' hr' => ?_) hQ))
      exact xc_sound hcall L hD y ay hy (hnd.imp_right fun h => (noDefer_and h).2) g0 g' s' a' w' Q hr' hl' (good_next hg hm) (fun e a2 w2 hp => hQ e a2 w2 (by
        obtain ⟨g2, e2, s2, hm2, r⟩ := hp
        exact ⟨g2, e2, s2, List.mem_flatMap.2 ⟨_, hm, hm2⟩, r⟩))
    · cases hc
  | .cond c t e, ac, hc, hnd, g0, g, s, a, w, Q, hr, hl, hg, hQ => by
    simp only [comp] at hc
    split at hc
    · rename_i at' ae hok ht he
      cases hc
      have hv := eval_vr hr.hr hr.ts c
      rw [eval_ok hok] at hv
      simp only [xc] at hg hQ
      cases hev : eval s.ts c with
      | bool b =>
        rw [hev] at hv
        have hb := hv.bool
        cases b with
        | true =>
          simp only [hev] at hg hQ
          exact wpIn_cond hb (xc_sound hcall L hD t at' ht (hnd.imp_right fun h => (noDefer_and h).1) g0 g s a w Q hr hl hg hQ)
        | false =>
          simp only [hev] at hg hQ
          exact wpIn_cond hb (xc_sound hcall L hD e ae he (hnd.imp_right fun h => (noDefer_and h).2) g0 g s a w Q hr hl hg hQ)
      | _ => simp only [hev] at hg; exact absurd rfl (hg .bad (by simp))
    · cases hc
  | .block id b, ac, hc, hnd, g0, g, s, a, w, Q, hr, hl, hg, hQ => by
    simp only [comp] at hc
    obtain ⟨ab, hb, rfl⟩ := Option.map_eq_some_iff.1 hc
    simp only [xc] at hg hQ
    refine wpIn_block (xc_sound hcall L hD b ab hb (hnd.imp_right fun h => h) g0 g s a w _ hr hl (fun o hm hbad => hg .bad (List.mem_map.2 ⟨o, hm, by rw [hbad]⟩) rfl) ?_)
    rintro e a' w' ⟨g', e', s', hm, hl', he, hr'⟩
    cases e with
    | normal =>
      obtain rfl := he.normal
      exact hQ _ _ _ ⟨g', .normal, s', List.mem_map.2 ⟨_, hm, rfl⟩, hl', trivial, hr'⟩
    | exit j =>
      cases e' with
      | exit i =>
        have : i = j := he
        subst this
        simp only [Exit.inBlock]
        split
        · rename_i hj
          exact hQ _ _ _ ⟨g', .normal, s', List.mem_map.2 ⟨_, hm, by simp [hj]⟩, hl', trivial, hr'⟩
        · rename_i hj
          exact hQ _ _ _ ⟨g', .exit i, s', List.mem_map.2 ⟨_, hm, by simp [hj]⟩, hl', rfl, hr'⟩
      | _ => simp [ExR] at he
    | goto j => cases e' <;> simp [ExR] at he
    | ret =>
      cases e' with
      | ret => exact hQ _ _ _ ⟨g', .ret, s', List.mem_map.2 ⟨_, hm, rfl⟩, hl', trivial, hr'⟩
      | _ => simp [ExR] at he
    | panic ch =>
      cases e' with
      | panic ch' => exact hQ _ _ _ ⟨g', .panic ch', s', List.mem_map.2 ⟨_, hm, rfl⟩, hl', he, hr'⟩
      | _ => simp [ExR] at he
    | outgrown => cases e' <;> simp [ExR] at he
  | .loop b, ac, hc, hnd, g0, g, s, a, w, Q, hr, hl, hg, hQ => by
    simp only [comp] at hc
    obtain ⟨ab, hb, rfl⟩ := Option.map_eq_some_iff.1 hc
    simp only [xc] at hg hQ
    -- the loop's rounds
    have key : ∀ (m : Nat) (g : Gh) (s : St) (a : Act) (w : World), Rel ro B w0 g s a w → Le g0 g → Good (loopGo (xc P call L ab) m s) → (∀ e a w, Post ro B w0 g0 (loopGo (xc P call L ab) m s) e a w → Q e a w) →
        ∀ (f : Frame) (k : List Item) (cs : List Frame), f.roundOf = (FR ro).round → (FR ro).fn f.fn → (FR ro).room (cs.length + 1 + n) → ∃ e a' w', Q e a' w' ∧ ArrivesIn (Machine.fenced P (FR ro)) P (lone (f.atR a (.code b :: .inLoop b :: k)) cs w) f k cs e a' w' := by
      intro m
      induction m with
      | zero => intro g s a w _ _ hg; exact absurd rfl (hg .bad (by simp [loopGo]))
      | succ m ih =>
        intro g s a w hr hl hg hQ f k cs hro hfn hroom
        rw [loopGo_succ] at hg hQ
        have hbody := xc_sound hcall L hD b ab hb (hnd.imp_right fun h => h) g0 g s a w
          (Exit.then (fun a' w' => ∀ (f : Frame) (k : List Item) (cs : List Frame), f.roundOf = (FR ro).round → (FR ro).fn f.fn → (FR ro).room (cs.length + 1 + n) → ∃ e a2 w2, Q e a2 w2 ∧ ArrivesIn (Machine.fenced P (FR ro)) P (lone (f.atR a' (.code b :: .inLoop b :: k)) cs w') f k cs e a2 w2) Q) hr hl (good_then hg)
          (post_then (f := loopGo (xc P call L ab) m) (fun g' s' a' w' hm hl' hr' => ih g' s' a' w' hr' hl' (good_next hg hm) (fun e a2 w2 hp => hQ e a2 w2 (by
            obtain ⟨g2, e2, s2, hm2, r⟩ := hp
            exact ⟨g2, e2, s2, List.mem_flatMap.2 ⟨_, hm, hm2⟩, r⟩))) hQ)
        obtain ⟨e, a1, w1, hq, harr⟩ := hbody f (.inLoop b :: k) cs hro hfn hroom
        cases e with
        | normal =>
          obtain ⟨e2, a2, w2, hq2, harr2⟩ := hq f k cs hro hfn hroom
          exact ⟨e2, a2, w2, hq2, .of_steps (StepsIn.trans harr (.one (fenced_calm hfn hroom rfl) stepR_inLoop)) harr2⟩
        | exit id => exact ⟨_, a1, w1, hq, .pass (x := .inLoop b) rfl (fun _ _ => .inl (by simp)) harr⟩
        | goto l => exact ⟨_, a1, w1, hq, .pass (x := .inLoop b) rfl (fun _ _ => .inl (by simp)) harr⟩
        | ret => exact ⟨_, a1, w1, hq, .pass (x := .inLoop b) rfl (fun _ _ => .inl (by simp)) harr⟩
        | panic ch => exact ⟨_, a1, w1, hq, .pass (x := .inLoop b) rfl (fun _ _ => .inl (by simp)) harr⟩
        | outgrown => exact ⟨_, a1, w1, hq, .pass (x := .inLoop b) rfl (fun _ _ => .inl (by simp)) harr⟩
    intro f k cs hro hfn hroom
    obtain ⟨e, a', w', hq, harr⟩ := key L g s a w hr hl hg hQ f k cs hro hfn hroom
    exact ⟨e, a', w', hq, .of_steps (.one (fenced_calm hfn hroom rfl) stepR_loop) harr⟩
  | .rangeFunc f ps as b, ac, hc, hnd, g0, g, s, a, w, Q, hr, hl, hg, hQ => by
    simp only [comp] at hc
    split at hc
    · rename_i hok
      cases hc
      exact lap_sound hcall hok hr hl hg hQ
    · cases hc
  | .scope b, ac, hc, hnd, g0, g, s, a, w, Q, hr, hl, hg, hQ => by
    simp only [comp] at hc
    obtain ⟨ab, hb, rfl⟩ := Option.map_eq_some_iff.1 hc
    simp only [xc] at hg hQ
    refine wpIn_scope (xc_sound hcall L hD b ab hb (hnd.imp_right fun h => h) g0 g s a w _ hr hl hg fun e a w hp => ?_)
    have hp' := hp
    obtain ⟨g', e', s', hm, hl', he, hr'⟩ := hp
    cases e with
    | goto l => cases e' <;> simp [ExR] at he
    | _ => exact hQ _ _ _ hp'
  | .label _, ac, hc, hnd, g0, g, s, a, w, Q, hr, hl, _, hQ => by
    simp only [comp, Option.some.injEq] at hc; subst hc
    exact wpIn_label (hQ _ _ _ ⟨g, .normal, s, by simp [xc], hl, trivial, hr⟩)
  | .goto _, ac, hc, hnd, g0, g, s, a, w, Q, hr, hl, hg, hQ => by
    simp only [comp, Option.some.injEq] at hc; subst hc
    exact absurd rfl (hg .bad (by simp [xc]))
  | .refuse _, ac, hc, _, _, _, _, _, _, _, _, _, _, _ => by simp [comp] at hc
end
end Go.Vm

/- A small machine over an abstract heap: deferred calls, functions. -/
set_option linter.unusedSimpArgs false
namespace Go.Vm
open Go.RowKit
def MoR (g : Gh) : FrameMode → FrameMode → Prop
  | .run, .run => True
  | .returning, .returning => True
  | .panicking c, .panicking c' => ChR g c c'
  | _, _ => False
theorem MoR.mono {g g' : Gh} (hl : Le g g') {u u' : FrameMode} (h : MoR g u u') : MoR g' u u' := by
  cases u <;> cases u' <;> simp_all [MoR]
  exact ChR.mono hl h
theorem ChR.append {g : Gh} : ∀ {a a' b b' : List PanicEntry}, ChR g a a' → ChR g b b' → ChR g (a ++ b) (a' ++ b')
  | _, _, _, _, .nil, h => h
  | _, _, _, _, .cons h1 h2, h => .cons h1 (ChR.append h2 h)
theorem ChR.dropWhile {g : Gh} : ∀ {a a' : List PanicEntry}, ChR g a a' → ChR g (a.dropWhile (!·.goexit)) (a'.dropWhile (!·.goexit))
  | _, _, .nil => .nil
  | _, _, .cons h t => by
    simp only [List.dropWhile_cons, h.2.2]
    split
    · exact ChR.dropWhile t
    · exact .cons h t
theorem raised_mor {g : Gh} {u u' : FrameMode} {c c' : List PanicEntry} (hu : MoR g u u') (hc : ChR g c c') : MoR g (raised u c) (raised u' c') := by
  cases u <;> cases u' <;> simp_all [MoR, raised]
  exact hc.append hu
theorem settle_mor {g : Gh} {u u' : FrameMode} (hu : MoR g u u') : MoR g (settle u) (settle u') := by
  cases u with
  | run => cases u' <;> simp_all [MoR, settle]
  | returning => cases u' <;> simp_all [MoR, settle]
  | panicking c =>
    cases u' with
    | panicking c' =>
      have hc : ChR g c c' := hu
      cases hc with
      | nil => exact .nil
      | cons h t =>
        rename_i a a' l l'
        obtain ⟨h1, h2, h3⟩ := h
        obtain ⟨v, r, ge⟩ := a
        obtain ⟨v', r', ge'⟩ := a'
        simp only at h1 h2 h3
        subst h2 h3
        cases r' with
        | false => exact .cons ⟨h1, rfl, rfl⟩ t
        | true =>
          simp only [settle]
          have hd := t.dropWhile
          cases hd1 : l.dropWhile (!·.goexit) with
          | nil => rw [hd1] at hd; cases hd2 : l'.dropWhile (!·.goexit) with
            | nil => trivial
            | cons x y => rw [hd2] at hd; cases hd
          | cons x y => rw [hd1] at hd; cases hd2 : l'.dropWhile (!·.goexit) with
            | nil => rw [hd2] at hd; cases hd
            | cons x' y' => rw [hd2] at hd; exact hd
    | _ => simp [MoR] at hu
section
variable {P : Program} {B : Nat} {w0 : World}
def rvar (tmps : Array Value) : ResultVar → Sem Value
  | .tmp t => pure (tmps.getD t undef)
  | .cell a t => do loadVar t (← asAddr (tmps.getD a undef))
theorem results_eq (fn : Func) (tmps : Array Value) : results fn tmps = (fn.results.mapM (rvar tmps) >>= fun vs => pure (if h : vs.size = 1 then vs[0] else .tuple vs)) := by
  unfold results
  have : (fun x => match x with | ResultVar.tmp t => pure (tmps.getD t undef) | ResultVar.cell a t => do loadVar t (← asAddr (tmps.getD a undef))) = rvar tmps := by
    funext x; cases x <;> rfl
  rw [← this]
  rfl
theorem resVals_sound {g : Gh} {h : Heap} {w : World} {ts : List Value} {tmps : Array Value} (hr : HR g h B w0 w) (hts : VRL g ts tmps.toList) : ∀ {rs : List ResultVar} {ars : List (Nat × Option (Option Nat))} {l : List Value}, compResults P rs = some ars → resVals h ts ars = some l →
    ∃ l', (rs.mapM (rvar tmps)).run P w = .ok l' w ∧ VRL g l l'
  | [], ars, l, hc, hv => by
    simp [compResults] at hc; subst hc
    simp [resVals] at hv; subst hv
    exact ⟨[], by simp, .nil⟩
  | .tmp t :: rs, ars, l, hc, hv => by
    simp only [compResults] at hc
    obtain ⟨ars', h1, rfl⟩ := Option.map_eq_some_iff.1 hc
    simp only [resVals] at hv
    obtain ⟨l1, h2, rfl⟩ := Option.map_eq_some_iff.1 hv
    obtain ⟨l', h3, h4⟩ := resVals_sound hr hts h1 h2
    have := lget_vr hts t
    have e1 : tmps.toList.getD t undef = tmps.getD t undef := by simp [List.getD, Array.getD_eq_getD_getElem?]
    rw [e1] at this
    refine ⟨tmps.getD t undef :: l', ?_, .cons this h4⟩
    simp only [List.mapM_cons, rvar, Sem.run_bind, Sem.run_pure, Result.andThen_ok, h3]
  | .cell a t :: rs, ars, l, hc, hv => by
    simp only [compResults] at hc
    split at hc
    · rename_i gg ars' hgg h1
      cases hc
      simp only [resVals] at hv
      split at hv
      · rename_i ad l1 had h2
        obtain ⟨l', h3, h4⟩ := resVals_sound hr hts h1 h2
        have hv1 := lget_vr hts a
        have e1 : tmps.toList.getD a undef = tmps.getD a undef := by simp [List.getD, Array.getD_eq_getD_getElem?]
        rw [e1, had] at hv1
        obtain ⟨a', ha', har⟩ := hv1.pointer
        split at hv
        · rename_i n
          obtain ⟨c, hcs, rfl⟩ := Option.map_eq_some_iff.1 hv
          obtain ⟨c', hrun, hcr⟩ := loadCells_sound (P := P) hr hcs har rfl rfl
          obtain ⟨q1, q2⟩ := aggOf_some hgg
          refine ⟨.agg ⟨c'⟩ :: l', ?_, .cons (.agg hcr) h4⟩
          have hld : (rvar tmps (.cell a t)).run P w = .ok (.agg ⟨c'⟩) w := by
            simp only [rvar, Sem.run_bind, ha', asAddr, Sem.run_pure, Result.andThen_ok, loadVar, q1, if_true, run_size q2, hrun]
          simp only [List.mapM_cons, Sem.run_bind, hld, Result.andThen_ok, h3, Sem.run_pure]
        · split at hv
          · rename_i v r hcs
            cases hv
            obtain ⟨v', hrun, hvr⟩ := loadOne_sound (P := P) hr hcs har rfl rfl
            have q1 := aggOf_none hgg
            refine ⟨v' :: l', ?_, .cons hvr h4⟩
            have hld : (rvar tmps (.cell a t)).run P w = .ok v' w := by
              simp only [rvar, Sem.run_bind, ha', asAddr, Sem.run_pure, Result.andThen_ok, loadVar, q1, Bool.false_eq_true, if_false, hrun]
            simp only [List.mapM_cons, Sem.run_bind, hld, Result.andThen_ok, h3, Sem.run_pure]
          · cases hv
      · cases hv
    · cases hc
theorem results_sound {g : Gh} {h : Heap} {w : World} {ts : List Value} {tmps : Array Value} (hr : HR g h B w0 w) (hts : VRL g ts tmps.toList) {fn : Func} {ars : List (Nat × Option (Option Nat))} {v : Value} (hc : compResults P fn.results.toList = some ars) (hv : resOf h ts ars = some v) :
    ∃ v', (results fn tmps).run P w = .ok v' w ∧ VR g v v' := by
  unfold resOf at hv
  cases hrv : resVals h ts ars with
  | none => simp [hrv] at hv
  | some l =>
    obtain ⟨l', h1, h2⟩ := resVals_sound hr hts hc hrv
    have hrun : (fn.results.mapM (rvar tmps)).run P w = .ok ⟨l'⟩ w := by
      rw [Array.mapM_eq_mapM_toList]
      simp only [Sem.run_map]
      rw [h1]; rfl
    rw [results_eq]
    simp only [Sem.run_bind]
    rw [hrun]
    simp only [Result.andThen_ok, Sem.run_pure]
    rw [hrv] at hv
    cases h2 with
    | nil => simp only at hv; cases hv; exact ⟨.tuple ⟨[]⟩, by simp, .tuple .nil⟩
    | cons hx hl =>
      cases hl with
      | nil => simp only at hv; cases hv; exact ⟨_, by simp, hx⟩
      | cons hy hl => simp only at hv; cases hv; exact ⟨.tuple ⟨_⟩, by simp, .tuple (.cons hx (.cons hy hl))⟩
def ExS (g : Gh) : Exit → Exit → Prop := ExR g
def PostS (B : Nat) (w0 : World) (g0 : Gh) (c₀ : Frame) (cs : List Frame) (outs : List OutS) : Exit → Act → List Frame → World → Prop := fun e' a cs' w =>
  ∃ g e s u', OutS.mk e s ∈ outs ∧ Le g0 g ∧ ExR g e e' ∧ Rel none B w0 g s.s a w ∧ MoR g s.up u' ∧ cs' = { c₀ with mode := u' } :: cs
def GoodS (outs : List OutS) : Prop := ∀ o ∈ outs, o ≠ .bad
theorem recovered_sound {g : Gh} {u u' : FrameMode} (hu : MoR g u u') (c₀ : Frame) (cs : List Frame) :
    ∃ v' u2, MoR g (recovered u).2 u2 ∧ VR g (recovered u).1 v' ∧ ((recoverD ({ c₀ with mode := u' } :: cs) = some (v', { c₀ with mode := u2 } :: cs)) ∨ (recoverD ({ c₀ with mode := u' } :: cs) = none ∧ v' = .nilIface ∧ u2 = u')) := by
  have none' : ∀ {u u' : FrameMode}, MoR g u u' → recovered u = (.nilIface, u) → recoverD ({ c₀ with mode := u' } :: cs) = none → ∃ v' u2, MoR g (recovered u).2 u2 ∧ VR g (recovered u).1 v' ∧ ((recoverD ({ c₀ with mode := u' } :: cs) = some (v', { c₀ with mode := u2 } :: cs)) ∨ (recoverD ({ c₀ with mode := u' } :: cs) = none ∧ v' = .nilIface ∧ u2 = u')) :=
    fun {u u'} hu h1 h2 => ⟨.nilIface, u', by rw [h1]; exact hu, by rw [h1]; exact .gr rfl, .inr ⟨h2, rfl, rfl⟩⟩
  cases u with
  | run => cases u' <;> simp [MoR] at hu; exact none' (by trivial) rfl rfl
  | returning => cases u' <;> simp [MoR] at hu; exact none' (by trivial) rfl rfl
  | panicking c =>
    cases u' with
    | panicking c' =>
      have hc : ChR g c c' := hu
      cases hc with
      | nil => exact none' (u := .panicking []) (u' := .panicking []) .nil rfl rfl
      | cons h t =>
        rename_i a a' l l'
        obtain ⟨h1, h2, h3⟩ := h
        obtain ⟨v, r, ge⟩ := a
        obtain ⟨v', r', ge'⟩ := a'
        simp only at h1 h2 h3
        subst h2 h3
        cases r' <;> cases ge'
        · exact ⟨v', .panicking ({ v := v', recovered := true } :: l'), .cons ⟨h1, rfl, rfl⟩ t, h1, .inl rfl⟩
        · exact none' (u := .panicking _) (u' := .panicking _) (.cons ⟨h1, rfl, rfl⟩ t) rfl rfl
        · exact none' (u := .panicking _) (u' := .panicking _) (.cons ⟨h1, rfl, rfl⟩ t) rfl rfl
        · exact none' (u := .panicking _) (u' := .panicking _) (.cons ⟨h1, rfl, rfl⟩ t) rfl rfl
    | _ => simp [MoR] at hu
theorem upon_of_wp {o : Oper} {a : Act} {w : World} {K : Act → World → Prop} {Q : Exit → Act → World → Prop} (h : o.wp P a w K Q) : ∀ w', (execOp a.eval o).run P w ≠ .ok .recover w' := by
  intro w' he
  unfold Oper.wp at h
  rw [he] at h
  exact h
theorem comp_recover {o : Oper} (h : compOp P o = some .recover) : ∀ (a : Act) (w : World), (execOp a.eval o).run P w = .ok .recover w := by
  unfold compOp at h
  simp only [show (slim o).op = o.op from rfl] at h
  intro a w
  cases ho : o.op with
  | call c =>
    rw [ho] at h
    simp only at h
    split at h
    · split at h <;> cases h
    · cases h
    · rename_i b hcl
      unfold compBuiltin at h
      split at h
      all_goals try (repeat' split at h)
      all_goals try (cases h; done)
      all_goals try (obtain ⟨_, _, h3⟩ := Option.map_eq_some_iff.1 h; cases h3; done)
      obtain ⟨cs, hcs⟩ := exec_builtin (P := P) (e := a.eval) ho hcl w
      rw [hcs]; rfl
  | makeMap t r => rw [ho] at h; cases r <;> cases h
  | next it s => rw [ho] at h; cases s <;> cases h
  | _ =>
    rw [ho] at h
    exfalso
    try simp only at h
    repeat' split at h
    all_goals first
      | (cases h; done)
      | (obtain ⟨_, _, h3⟩ := Option.map_eq_some_iff.1 h; cases h3)
def nextS (P : Program) (call : Caller) (rest : List AOper) (s : StS) (dst : Option Nat) : CO → List OutS
  | .ret v h => xopsS P call rest { s with s := { s.s with ts := putT s.s.ts dst v, h := h } }
  | .pan chain h => [.mk (.panic chain) { s with s := { s.s with h := h } }]
  | .bad => [.bad]
theorem xopsS_cons {call : Caller} {ao : AOper} {rest : List AOper} {s : StS} (hnd : ∀ f args, ao.op ≠ .defer f args) (hnr : ao.op ≠ .recover) :
    xopsS P call (ao :: rest) s = if wantedT s.s.ts ao.guard then (xo P call s.s.ts s.s.h ao.op).flatMap (nextS P call rest s ao.dst) else xopsS P call rest { s with s := { s.s with ts := putT s.s.ts ao.dst undef } } := by
  rw [xopsS]
  split
  · split
    · rename_i hop; exact absurd hop hnr
    · rename_i f args hop; exact absurd hop (hnd f args)
    · congr 1
      try (funext co; cases co <;> rfl)
  · rfl
theorem xopsS_recover {call : Caller} {ao : AOper} {rest : List AOper} {s : StS} (hop : ao.op = .recover) :
    xopsS P call (ao :: rest) s = if wantedT s.s.ts ao.guard then xopsS P call rest { s := { s.s with ts := putT s.s.ts ao.dst (recovered s.up).1 }, up := (recovered s.up).2 }
      else xopsS P call rest { s with s := { s.s with ts := putT s.s.ts ao.dst undef } } := by
  rw [xopsS]
  split
  · split
    · rfl
    · rename_i f args hop'; rw [hop] at hop'; cases hop'
    · rename_i hno _; exact absurd hop hno
  · rfl
theorem xopsS_defer {call : Caller} {ao : AOper} {rest : List AOper} {s : StS} {f : Operand} {args : List Operand} (hop : ao.op = .defer f args) :
    xopsS P call (ao :: rest) s = if wantedT s.s.ts ao.guard then [.bad] else xopsS P call rest { s with s := { s.s with ts := putT s.s.ts ao.dst undef } } := by
  rw [xopsS]
  split
  · split
    · rename_i hop'; rw [hop] at hop'; cases hop'
    · rfl
    · rename_i hno; exact absurd hop (hno f args)
  · rfl
theorem opsS_sound {call : Caller} (hcall : CallOK P call) (hyb : ∀ l args h, call (.yield l) args h = [.bad]) {ops : Array Oper} {c₀ : Frame} {cs : List Frame} {Q : Exit → Act → List Frame → World → Prop} {g0 : Gh} : ∀ (l : List Nat) (aos : List AOper), compList (fun i => (ops[i]?).bind (compOper P ops)) l = some aos →
    ∀ (g : Gh) (s : StS) (u' : FrameMode) (a : Act) (w : World), Rel none B w0 g s.s a w → MoR g s.up u' → Le g0 g → GoodS (xopsS P call aos s) →
      (∀ e a cs' w, PostS B w0 g0 c₀ cs (xopsS P call aos s) e a cs' w → Q e a cs' w) → wpOpsS P ops Q l a ({ c₀ with mode := u' } :: cs) w
  | [], aos, hc, g, s, u', a, w, hr, hu, hl, hg, hQ => by
    simp [compList] at hc
    subst hc
    exact hQ _ _ _ _ ⟨g, .normal, s, u', by simp [xopsS], hl, trivial, hr, hu, rfl⟩
  | i :: l, aos, hc, g, s, u', a, w, hr, hu, hl, hg, hQ => by
    simp only [compList] at hc
    split at hc
    · rename_i ao aos' hao haos
      cases hc
      cases ho : ops[i]? with
      | none => rw [ho] at hao; cases hao
      | some o =>
        rw [ho] at hao
        have hao : compOper P ops o = some ao := hao
        obtain ⟨h1, h2, h3⟩ := compOper_parts hao
        have hw := wanted_eq hr.ts hao
        simp only [wpOpsS, ho, hw]
        have skip : ∀ (_ : ¬ wantedT s.s.ts ao.guard = true), GoodS (xopsS P call aos' { s with s := { s.s with ts := putT s.s.ts ao.dst undef } }) → (∀ e a cs' w, PostS B w0 g0 c₀ cs (xopsS P call aos' { s with s := { s.s with ts := putT s.s.ts ao.dst undef } }) e a cs' w → Q e a cs' w) →
            wpOpsS P ops Q l (a.put o.dst undef) ({ c₀ with mode := u' } :: cs) w := fun _ hg hQ =>
          opsS_sound hcall hyb l aos' haos g { s with s := { s.s with ts := putT s.s.ts ao.dst undef } } u' _ w ⟨hr.hr, by rw [← h3]; exact put_ts hr.ts (.gr ground_undef) _, by rw [put_defers]; exact hr.ds, hr.rd⟩ hu hl hg hQ
        by_cases hdf : ∃ f args, ao.op = .defer f args
        · obtain ⟨f, args, hop⟩ := hdf
          rw [xopsS_defer hop] at hg hQ
          by_cases hwt : wantedT s.s.ts ao.guard = true
          · rw [if_pos hwt] at hg; exact absurd rfl (hg .bad (by simp))
          · rw [if_neg hwt] at hg
            simp only [if_neg hwt] at hQ ⊢
            exact skip hwt hg hQ
        · have hnd : ∀ f args, ao.op ≠ .defer f args := fun f args he => hdf ⟨f, args, he⟩
          by_cases hrc : ao.op = .recover
          · rw [xopsS_recover hrc] at hg hQ
            by_cases hwt : wantedT s.s.ts ao.guard = true
            · simp only [hwt, if_true] at hg hQ ⊢
              rw [comp_recover (by rw [← hrc]; exact h1) a w]
              simp only
              obtain ⟨v', u2, hm2, hv2, hrec⟩ := recovered_sound hu c₀ cs
              have hnext := opsS_sound hcall hyb l aos' haos g { s := { s.s with ts := putT s.s.ts ao.dst (recovered s.up).1 }, up := (recovered s.up).2 } u2 (a.put o.dst v') w ⟨hr.hr, by rw [← h3]; exact put_ts hr.ts hv2 _, by rw [put_defers]; exact hr.ds, hr.rd⟩ hm2 hl hg hQ
              rcases hrec with hrec | ⟨hrec, rfl, rfl⟩
              · rw [hrec]; exact hnext
              · rw [hrec]; exact hnext
            · rw [if_neg hwt] at hg
              simp only [if_neg hwt] at hQ ⊢
              exact skip hwt hg hQ
          · rw [xopsS_cons hnd hrc] at hg hQ
            by_cases hwt : wantedT s.s.ts ao.guard = true
            · simp only [hwt, if_true] at hg hQ ⊢
              have hgood : ∀ co ∈ xo P call s.s.ts s.s.h ao.op, co ≠ .bad := fun co hm hb => by
                subst hb
                exact hg .bad (List.mem_flatMap.2 ⟨.bad, hm, by simp [nextS]⟩) rfl
              have hwp : o.wp P a w (fun a' w' => wpOpsS P ops Q l a' ({ c₀ with mode := u' } :: cs) w') (fun e a' w' => Q e a' ({ c₀ with mode := u' } :: cs) w') := by
                refine xo_wp0 (a1 := a) rfl hcall hyb h1 h2 hr.hr hr.ts hgood ⟨fun v h' hm g' v' w' hle hr' hv => ?_, fun c h' hm g' c' w' hle hr' hch => ?_⟩
                · refine opsS_sound hcall hyb l aos' haos g' { s with s := { s.s with ts := putT s.s.ts ao.dst v, h := h' } } u' _ w' ⟨hr', by rw [← h3]; exact put_ts (hr.ts.mono hle) hv _, by rw [put_defers]; exact hr.ds.mono hle, hr.rd.mono hle⟩ (hu.mono hle) (hl.trans hle)
                    (fun o ho => hg o (List.mem_flatMap.2 ⟨_, hm, ho⟩)) (fun e a cs' w hp => hQ e a cs' w ?_)
                  obtain ⟨g2, e2, s2, u2, hm2, r⟩ := hp
                  exact ⟨g2, e2, s2, u2, List.mem_flatMap.2 ⟨_, hm, hm2⟩, r⟩
                · exact hQ _ _ _ _ ⟨g', .panic c, { s with s := { s.s with h := h' } }, u', List.mem_flatMap.2 ⟨_, hm, List.mem_singleton.2 rfl⟩, hl.trans hle, hch, ⟨hr', hr.ts.mono hle, hr.ds.mono hle, hr.rd.mono hle⟩, hu.mono hle, rfl⟩
              have hnr := upon_of_wp hwp
              unfold Oper.wp at hwp
              split
              · rename_i w' hrr; exact absurd hrr (hnr w')
              · exact hwp
            · rw [if_neg hwt] at hg
              simp only [if_neg hwt] at hQ ⊢
              exact skip hwt hg hQ
    · cases hc
end
end Go.Vm

/- A small machine over an abstract heap: functions and calls. -/
set_option linter.unusedSimpArgs false
namespace Go.Vm
open Go.RowKit
section
variable {P : Program} {B : Nat} {w0 : World}
def thenS (f : StS → List OutS) : OutS → List OutS
  | .mk .normal s => f s
  | o => [o]
theorem xcS_seq {call : Caller} {x y : ACode} {s : StS} : xcS P call (.seq x y) s = (xcS P call x s).flatMap (thenS (xcS P call y)) := by
  simp only [xcS]
  congr 1
theorem xcS_sound {call : Caller} (hcall : CallOK P call) (hD : DrawsOK P call B w0) (hyb : ∀ l args h, call (.yield l) args h = [.bad]) {c₀ : Frame} {cs : List Frame} : ∀ (c : Code) (ac : ACode), comp P c = some ac →
    ∀ (g0 g : Gh) (s : StS) (u' : FrameMode) (a : Act) (w : World) (Q : Exit → Act → List Frame → World → Prop), Rel none B w0 g s.s a w → MoR g s.up u' → Le g0 g → GoodS (xcS P call ac s) →
      (∀ e a cs' w, PostS B w0 g0 c₀ cs (xcS P call ac s) e a cs' w → Q e a cs' w) → c.wpS P Q a ({ c₀ with mode := u' } :: cs) w
  | .skip, ac, hc, g0, g, s, u', a, w, Q, hr, hu, hl, _, hQ => by
    simp only [comp, Option.some.injEq] at hc; subst hc
    exact wpS_of_wp (wp_skip (hQ _ _ _ _ ⟨g, .normal, s, u', by simp [xcS], hl, trivial, hr, hu, rfl⟩))
  | .ret, ac, hc, g0, g, s, u', a, w, Q, hr, hu, hl, _, hQ => by
    simp only [comp, Option.some.injEq] at hc; subst hc
    exact wpS_of_wp (wp_ret (hQ _ _ _ _ ⟨g, .ret, s, u', by simp [xcS], hl, trivial, hr, hu, rfl⟩))
  | .region id ops false, ac, hc, g0, g, s, u', a, w, Q, hr, hu, hl, hg, hQ => by
    simp only [comp] at hc
    obtain ⟨aos, haos, rfl⟩ := Option.map_eq_some_iff.1 hc
    exact wpS_region (opsS_sound hcall hyb _ aos haos g s u' a w hr hu hl hg hQ)
  | .seq x y, ac, hc, g0, g, s, u', a, w, Q, hr, hu, hl, hg, hQ => by
    simp only [comp] at hc
    split at hc
    · rename_i ax ay hx hy
      cases hc
      rw [xcS_seq] at hg hQ
      have hgx : GoodS (xcS P call ax s) := fun o hm hb => by
        subst hb
        exact hg .bad (List.mem_flatMap.2 ⟨.bad, hm, by simp [thenS]⟩) rfl
      refine wpS_seq (xcS_sound hcall hD hyb x ax hx g0 g s u' a w _ hr hu hl hgx ?_)
      rintro e a1 cs1 w1 ⟨g1, e1, s1, u1, hm, hl1, he, hr1, hu1, rfl⟩
      have out : (OutS.mk e1 s1 ∈ (xcS P call ax s).flatMap (thenS (xcS P call ay))) → Q e a1 ({ c₀ with mode := u1 } :: cs) w1 := fun h => hQ _ _ _ _ ⟨g1, e1, s1, u1, h, hl1, he, hr1, hu1, rfl⟩
      cases e with
      | normal =>
        obtain rfl := he.normal
        exact xcS_sound hcall hD hyb y ay hy g0 g1 s1 u1 a1 w1 Q hr1 hu1 hl1 (fun o ho => hg o (List.mem_flatMap.2 ⟨_, hm, ho⟩)) (fun e a cs' w hp => hQ e a cs' w (by
          obtain ⟨g2, e2, s2, u2, hm2, r⟩ := hp
          exact ⟨g2, e2, s2, u2, List.mem_flatMap.2 ⟨_, hm, hm2⟩, r⟩))
      | exit i => exact out (List.mem_flatMap.2 ⟨_, hm, by cases e1 <;> simp_all [ExR, thenS]⟩)
      | goto i => cases e1 <;> simp [ExR] at he
      | ret => exact out (List.mem_flatMap.2 ⟨_, hm, by cases e1 <;> simp_all [ExR, thenS]⟩)
      | panic c => exact out (List.mem_flatMap.2 ⟨_, hm, by cases e1 <;> simp_all [ExR, thenS]⟩)
      | outgrown => cases e1 <;> simp [ExR] at he
    · cases hc
  | .cond c t e, ac, hc, g0, g, s, u', a, w, Q, hr, hu, hl, hg, hQ => by
    simp only [comp] at hc
    split at hc
    · rename_i at' ae hok ht he
      cases hc
      have hv := eval_vr hr.hr hr.ts c
      rw [eval_ok hok] at hv
      simp only [xcS] at hg hQ
      cases hev : eval s.s.ts c with
      | bool b =>
        rw [hev] at hv
        have hb := hv.bool
        cases b with
        | true =>
          simp only [hev] at hg hQ
          exact wpS_cond hb (xcS_sound hcall hD hyb t at' ht g0 g s u' a w Q hr hu hl hg hQ)
        | false =>
          simp only [hev] at hg hQ
          exact wpS_cond hb (xcS_sound hcall hD hyb e ae he g0 g s u' a w Q hr hu hl hg hQ)
      | _ => simp only [hev] at hg; exact absurd rfl (hg .bad (by simp))
    · cases hc
  | .region id ops true, ac, hc, g0, g, s, u', a, w, Q, hr, hu, hl, hg, hQ => by
    simp only [comp] at hc
    have hx : xcS P call ac s = (xc P call 0 ac s.s).map (liftS s.up) := by
      unfold compR at hc
      split at hc
      · rename_i ls _
        cases hc
        match ls with
        | [] => rfl
        | [_] => rfl
        | _ :: _ :: _ => rfl
      · obtain ⟨_, _, rfl⟩ := Option.map_eq_some_iff.1 hc
        rfl
    rw [hx] at hg hQ
    refine wpS_of_wp ((wpIn_wide (n := 0)).1 ?_)
    exact hD none 0 0 id ops ac g g s.s a w _ hc hr (Le.refl _) (fun o ho hb => by subst hb; exact hg .bad (List.mem_map.2 ⟨_, ho, rfl⟩) rfl)
      (fun e a' w' ⟨g1, e1, s1, hm, hl1, he, hr1⟩ => hQ _ _ _ _ ⟨g1, e1, { s := s1, up := s.up }, u', List.mem_map.2 ⟨_, hm, rfl⟩, hl.trans hl1, he, hr1, hu.mono hl1, rfl⟩)
  | .block id b, ac, hc, _, _, _, _, _, _, _, _, _, _, hg, _ => by
    simp only [comp] at hc
    obtain ⟨ab, hb, rfl⟩ := Option.map_eq_some_iff.1 hc
    exact absurd rfl (hg .bad (by simp [xcS]))
  | .loop b, ac, hc, _, _, _, _, _, _, _, _, _, _, hg, _ => by
    simp only [comp] at hc
    obtain ⟨ab, hb, rfl⟩ := Option.map_eq_some_iff.1 hc
    exact absurd rfl (hg .bad (by simp [xcS]))
  | .exit id, ac, hc, _, _, _, _, _, _, _, _, _, _, hg, _ => by
    simp only [comp, Option.some.injEq] at hc; subst hc
    exact absurd rfl (hg .bad (by simp [xcS]))
  | .rangeFunc f ps as b, ac, hc, _, _, _, _, _, _, _, _, _, _, hg, _ => by
    simp only [comp] at hc
    split at hc
    · cases hc; exact absurd rfl (hg .bad (by simp [xcS]))
    · cases hc
  | .scope b, ac, hc, _, _, _, _, _, _, _, _, _, _, hg, _ => by
    simp only [comp] at hc
    obtain ⟨ab, hb, rfl⟩ := Option.map_eq_some_iff.1 hc
    exact absurd rfl (hg .bad (by simp [xcS]))
  | .label _, ac, hc, g0, g, s, u', a, w, Q, hr, hu, hl, _, hQ => by
    simp only [comp, Option.some.injEq] at hc; subst hc
    exact wpS_of_wp (wp_label (hQ _ _ _ _ ⟨g, .normal, s, u', by simp [xcS], hl, trivial, hr, hu, rfl⟩))
  | .goto _, ac, hc, _, _, _, _, _, _, _, _, _, _, hg, _ => by
    simp only [comp, Option.some.injEq] at hc; subst hc
    exact absurd rfl (hg .bad (by simp [xcS]))
  | .refuse _, ac, hc, _, _, _, _, _, _, _, _, _, _, _, _ => by simp [comp] at hc
def TableOK (P : Program) (T : Table) : Prop := ∀ f af, T f = some af → match af.prim with
  | none => ∃ fn, P.funcs[f]? = some fn ∧ compFunc P fn = some af
  | some p => ∀ (args args' : List Value) (g : Gh) (h : Heap) (B : Nat) (w0 w : World), HR g h B w0 w → VRL g args args' → (∀ o ∈ p args h, o ≠ .bad) →
    FnOK P f ∧ Calls P f ⟨args'⟩ w (CPost B w0 g (p args h))
theorem TableOK.plain {T : Table} (hT : TableOK P T) {f : FuncId} {af : AFunc} (h : T f = some af) (hp : af.prim = none) : ∃ fn, P.funcs[f]? = some fn ∧ compFunc P fn = some af := by
  have := hT f af h
  rw [hp] at this
  exact this
theorem compFunc_parts {fn : Func} {af : AFunc} (h : compFunc P fn = some af) : ∃ c, fn.body = some c ∧ (fn.name == "runtime.NumGoroutine") = false ∧ comp P c = some af.body ∧ compResults P fn.results.toList = some af.results ∧ af.ntmps = fn.ntmps := by
  unfold compFunc at h
  split at h
  · cases h
  · rename_i c hb
    split at h
    · cases h
    · rename_i hn
      split at h
      · rename_i b r hcb hcr
        cases h
        exact ⟨c, hb, by simpa using hn, hcb, hcr, rfl⟩
      · cases h
theorem pad_vr {g : Gh} {args args' : List Value} (hv : VRL g args args') (n : Nat) : VRL g (pad args n) ((⟨args'⟩ : Array Value) ++ Array.replicate (n - (⟨args'⟩ : Array Value).size) undef).toList := by
  have := hv.length
  simp only [pad, Array.toList_append, Array.toList_replicate, List.size_toArray, this]
  exact hv.append (VRL.of_ground (by induction (n - args.length) with | zero => rfl | succ k ih => simp [List.replicate_succ, groundL, ih, ground_undef]))
def DPost (B : Nat) (w0 : World) (g : Gh) (outs : List DO) : Ending → FrameMode → World → Prop
  | .returned _, u', w' => ∃ g' u h', DO.ret u h' ∈ outs ∧ Le g g' ∧ HR g' h' B w0 w' ∧ MoR g' u u'
  | .panicked c', u', w' => ∃ g' c u h', DO.pan c u h' ∈ outs ∧ Le g g' ∧ HR g' h' B w0 w' ∧ MoR g' u u' ∧ ChR g' c c'
  | .outgrown, _, _ => False
def doneS (af : AFunc) : OutS → DO
  | .mk .normal s | .mk .ret s => match s.s.ds, resOf s.s.h s.s.ts af.results with
    | [], some _ => .ret s.up s.s.h
    | _, _ => .bad
  | .mk (.panic chain) s => match s.s.ds with
    | [] => .pan chain s.up s.s.h
    | _ => .bad
  | _ => .bad
theorem DRL.nil_inv {g : Gh} {l : List Deferred} (h : DRL g [] l) : l = [] := by cases h; rfl
theorem noY_ok {call : Caller} (h : CallOK P call) : CallOK P (noY call) :=
  ⟨fun _ _ _ _ _ _ _ _ _ _ _ _ hg => absurd rfl (hg .bad (by simp [noY])), h.2⟩
theorem xdefer_eq {T : Table} {call : Caller} {f : FuncId} {af : AFunc} {args : List Value} {u : FrameMode} {h : Heap} (hT : T f = some af) :
    xdefer P T call f args u h = if af.prim.isSome = true then [.bad] else (xcS P (noY call) af.body { s := { ts := pad args af.ntmps, ds := [], h }, up := u }).map (doneS af) := by
  unfold xdefer
  rw [hT]
  simp only
  split
  · rfl
  · congr 1
theorem wpSIn_of {n : Nat} {c : Code} {Q : Exit → Act → List Frame → World → Prop} {a : Act} {cs : List Frame} {w : World} (h : c.wpS P Q a cs w) (hlen : ∀ e a cs' w, Q e a cs' w → cs'.length = cs.length) : c.wpSIn (FR none) n P Q a cs w := by
  intro b k hk hr _ _
  obtain ⟨e, a', cs', w', q, arr⟩ := h b k hk hr
  refine ⟨e, a', cs', w', hlen _ _ _ _ q, q, ?_⟩
  rw [Frame.atR_of_none hr]
  exact (arrivesIn_iff (fun _ _ => stepsIn_wide) hr).2 arr
theorem xdefer_sound {n : Nat} {T : Table} (hT : TableOK P T) {call : Caller} (hcall : CallOK P call) (hD : DrawsOK P (noY call) B w0) {g : Gh} {h : Heap} {w : World} {f : FuncId} {args args' : List Value} {u u' : FrameMode} (hr : HR g h B w0 w) (hv : VRL g args args') (hu : MoR g u u')
    (hg : ∀ o ∈ xdefer P T call f args u h, o ≠ .bad) : FnOK P f ∧ CallsDIn (FR none) n P f ⟨args'⟩ u' w (DPost B w0 g (xdefer P T call f args u h)) := by
  cases hTf : T f with
  | none => exact absurd rfl (hg .bad (by simp [xdefer, hTf]))
  | some af =>
    rw [xdefer_eq hTf] at hg ⊢
    cases hpr : af.prim with
    | some p => exact absurd rfl (hg .bad (by simp [hpr]))
    | none =>
    rw [hpr, if_neg (by simp)] at hg
    rw [if_neg (by simp)]
    obtain ⟨fn, hfn, hcf⟩ := hT.plain hTf hpr
    obtain ⟨c, hb, hn, hcb, hcr, hnt⟩ := compFunc_parts hcf
    refine ⟨⟨fn, hfn, by simp [hb], hn⟩, callsDIn_of_wpSIn hfn hb trivial fun c₀ cs hc₀ => wpSIn_of ?_ (fun e a cs' w hq => ?_)⟩
    case refine_2 =>
      cases e with
      | normal => obtain ⟨_, u2, rfl, _⟩ := hq; rfl
      | ret => obtain ⟨_, u2, rfl, _⟩ := hq; rfl
      | panic ch => obtain ⟨_, u2, rfl, _⟩ := hq; rfl
      | outgrown => obtain ⟨_, hq⟩ := hq; exact hq.elim
      | _ => exact hq.elim
    have hgS : GoodS (xcS P (noY call) af.body { s := { ts := pad args af.ntmps, ds := [], h }, up := u }) := fun o hm hbad => by
      subst hbad
      exact hg .bad (List.mem_map.2 ⟨.bad, hm, rfl⟩) rfl
    have hc1 : ({ c₀ with mode := u' } : Frame) = c₀ := by subst hc₀; rfl
    have := xcS_sound (B := B) (w0 := w0) (c₀ := c₀) (cs := cs) (noY_ok hcall) hD (fun _ _ _ => rfl) c af.body hcb g g { s := { ts := pad args af.ntmps, ds := [], h }, up := u } u'
      { tmps := (⟨args'⟩ : Array Value) ++ Array.replicate (fn.ntmps - (⟨args'⟩ : Array Value).size) undef, defers := [] } w (bodyPostS P fn c₀ cs (DPost B w0 g ((xcS P (noY call) af.body { s := { ts := pad args af.ntmps, ds := [], h }, up := u }).map (doneS af))))
      ⟨hr, by rw [hnt]; exact pad_vr hv _, .nil, trivial⟩ hu (Le.refl _) hgS ?_
    · rw [hc1] at this; exact this
    · rintro e a cs' w1 ⟨g1, e1, s1, u1, hm, hl1, he, hr1, hu1, rfl⟩
      have hne : doneS af (.mk e1 s1) ≠ .bad := hg _ (List.mem_map.2 ⟨_, hm, rfl⟩)
      have hmem : doneS af (.mk e1 s1) ∈ (xcS P (noY call) af.body { s := { ts := pad args af.ntmps, ds := [], h }, up := u }).map (doneS af) := List.mem_map.2 ⟨_, hm, rfl⟩
      have fin : (e1 = .normal ∨ e1 = .ret) → a.defers = [] ∧ ∃ u', ({ c₀ with mode := u1 } : Frame) :: cs = { c₀ with mode := u' } :: cs ∧ ∃ v, (results fn a.tmps).run P w1 = .ok v w1 ∧ DPost B w0 g ((xcS P (noY call) af.body { s := { ts := pad args af.ntmps, ds := [], h }, up := u }).map (doneS af)) (.returned v) u' w1 := by
        intro hee
        have hds : s1.s.ds = [] := by
          cases hd : s1.s.ds with
          | nil => rfl
          | cons x y => exfalso; rcases hee with rfl | rfl <;> simp [doneS, hd] at hne
        have hd := hr1.ds
        rw [hds] at hd
        refine ⟨hd.nil_inv, u1, rfl, ?_⟩
        cases hres : resOf s1.s.h s1.s.ts af.results with
        | none => exfalso; rcases hee with rfl | rfl <;> simp [doneS, hres] at hne
        | some v =>
          obtain ⟨v', hrun, hvr⟩ := results_sound (P := P) hr1.hr hr1.ts hcr hres
          refine ⟨v', hrun, g1, s1.up, s1.s.h, ?_, hl1, hr1.hr, hu1⟩
          rcases hee with rfl | rfl <;> simpa [doneS, hres, hds] using hmem
      cases e with
      | normal => exact fin (.inl he.normal)
      | ret => exact fin (.inr (by cases e1 <;> simp_all [ExR]))
      | panic c' =>
        cases e1 with
        | panic ch =>
          have hds : s1.s.ds = [] := by
            cases hd : s1.s.ds with
            | nil => rfl
            | cons x y => exfalso; simp [doneS, hd] at hne
          have hd := hr1.ds
          rw [hds] at hd
          exact ⟨hd.nil_inv, u1, rfl, g1, ch, s1.up, s1.s.h, by simpa [doneS, hds] using hmem, hl1, hr1.hr, hu1, he⟩
        | _ => simp [ExR] at he
      | exit i => cases e1 <;> simp [ExR] at he; exact absurd rfl hne
      | goto i => cases e1 <;> simp [ExR] at he
      | outgrown => cases e1 <;> simp [ExR] at he
theorem leave_sound {n : Nat} {T : Table} (hT : TableOK P T) {call : Caller} (hcall : CallOK P call) (hD : DrawsOK P (noY call) B w0) {fn : Func} {ars : List (Nat × Option (Option Nat))} (hcr : compResults P fn.results.toList = some ars) {ts : List Value} {tmps : Array Value} {g0 : Gh} :
    ∀ (ds ds' : List Deferred) (g : Gh) (u u' : FrameMode) (h : Heap) (w : World), DRL g ds ds' → VRL g ts tmps.toList → HR g h B w0 w → MoR g u u' → Le g0 g → (∀ o ∈ leave P T call ars ts ds u h, o ≠ .bad) → ∀ {R : Ending → World → Prop},
      (∀ e w', CPost B w0 g0 (leave P T call ars ts ds u h) e w' → R e w') → LeavesInM (FR none) n P fn tmps R ds' u' w
  | [], ds', g, u, u', h, w, hd, hts, hr, hu, hl, hg, R, hR => by
    obtain rfl := hd.nil_inv
    cases u with
    | run => exact absurd rfl (hg .bad (by simp [leave]))
    | returning =>
      cases u' <;> simp [MoR] at hu
      cases hres : resOf h ts ars with
      | none => exact absurd rfl (hg .bad (by simp [leave, hres]))
      | some v =>
        obtain ⟨v', hrun, hvr⟩ := results_sound (P := P) hr hts hcr hres
        exact ⟨v', hrun, hR _ _ ⟨g, v, h, by simp [leave, hres], hl, hr, hvr⟩⟩
    | panicking c =>
      cases u' <;> simp [MoR] at hu
      exact hR _ _ ⟨g, c, h, by simp [leave], hl, hr, hu⟩
  | d :: ds, ds', g, u, u', h, w, hd, hts, hr, hu, hl, hg, R, hR => by
    cases hd with
    | cons hd0 hds =>
      rename_i d' ds'
      have hnu0 : u ≠ .run := by
        intro he
        subst he
        exact hg .bad (by simp [leave]) rfl
      have hne0 : u' ≠ .run := by
        intro he
        subst he
        cases u <;> simp [MoR] at hu
        exact hnu0 rfl
      rcases hd0 with ⟨f, c, c', h1, h2, h3, h4⟩ | ⟨r, r', h1, h2, hbr⟩
      case inr =>
        have hexp : leave P T call ars ts (d :: ds) u h = match h.get r with
          | .defs false => leave P T call ars ts ds u (h.set r (.defs true))
          | _ => [.bad] := by
          clear hg hR
          obtain ⟨tg, da⟩ := d
          simp only at h1
          subst h1
          cases u with
          | run => exact absurd rfl hnu0
          | returning => rfl
          | panicking ch => rfl
        rw [hexp] at hg hR
        split at hg
        · rename_i hget
          rw [hget] at hR
          obtain ⟨x, hx, hob, hsh⟩ := hr.of_obj hget (by simp)
          obtain rfl := hbr.2 x hx
          have hob : w.heap[x.b]? = some (.deferred (some [])) := hob
          have htake : (Instr.takeDeferred x.b).run P w = .ok [] (withBlock w x.b (.deferred none)) := by
            have hget : (getObj x.b).run P w = .ok (.deferred (some [])) w := by simp [getObj, Sem.run, hob]
            simp only [Instr.takeDeferred, Sem.run_bind, hget, Result.andThen_ok]
            rw [run_setObj hob (by simp)]
            simp
          have hhr : HR g (h.set r (.defs true)) B w0 (withBlock w x.b (.deferred none)) := by
            refine hr.set hx (by rw [hget]; rfl) rfl rfl rfl rfl ⟨?_, hsh⟩
            rw [heap_withBlock hob]
            rfl
          exact ⟨hne0, .inl ⟨x.b, _, h2, htake, leave_sound hT hcall hD hcr ds ds' g u u' _ _ hds hts hhr hu hl hg hR⟩⟩
        · exact absurd rfl (hg .bad (by simp))
      have hnu : u ≠ .run := by
        intro he
        subst he
        exact hg .bad (by simp [leave]) rfl
      have hne : u' ≠ .run := by
        intro he
        subst he
        cases u <;> simp [MoR] at hu
        exact hnu rfl
      have hexp : leave P T call ars ts (d :: ds) u h = (xdefer P T call f (d.args.toList ++ c) u h).flatMap fun
        | .ret u' h' => leave P T call ars ts ds (settle u') h'
        | .pan chain u' h' => leave P T call ars ts ds (raised u' chain) h'
        | .bad => [.bad] := by
        clear hg hR h4
        obtain ⟨tg, da⟩ := d
        simp only at h1
        subst h1
        cases u with
        | run => exact absurd rfl hnu
        | returning => rfl
        | panicking ch => rfl
      rw [hexp] at hg hR
      have hgd : ∀ o ∈ xdefer P T call f (d.args.toList ++ c) u h, o ≠ .bad := fun o hm hb => by
        subst hb
        exact hg .bad (List.mem_flatMap.2 ⟨.bad, hm, by simp⟩) rfl
      obtain ⟨hfn, hcd⟩ := xdefer_sound (B := B) (w0 := w0) hT hcall hD hr (h4.append h3) hu hgd
      obtain ⟨tg, dargs⟩ := d'
      simp only at h2 h4
      subst h2
      refine ⟨hne, .inr ⟨(fun h => by cases h), .func f, ⟨c'⟩, f, ⟨dargs.toList ++ c'⟩, rfl, ?_, fun _ _ => trivial, hcd.mono fun e u2 w' hp => ?_⟩⟩
      · simp only [invoke]
        rw [callFunc_run hfn]
        congr 2
        apply Array.ext'; simp
      · cases e with
        | returned v =>
          obtain ⟨g', u3, h', hm, hle, hr', hu3⟩ := hp
          exact leave_sound hT hcall hD hcr ds ds' g' (settle u3) (settle u2) h' w' (hds.mono hle) (hts.mono hle) hr' (settle_mor hu3) (hl.trans hle) (fun o ho => hg o (List.mem_flatMap.2 ⟨_, hm, ho⟩))
            (fun e w' hp => hR e w' (by
              cases e with
              | returned v => obtain ⟨g2, a, b, hm2, r⟩ := hp; exact ⟨g2, a, b, List.mem_flatMap.2 ⟨_, hm, hm2⟩, r⟩
              | panicked v => obtain ⟨g2, a, b, hm2, r⟩ := hp; exact ⟨g2, a, b, List.mem_flatMap.2 ⟨_, hm, hm2⟩, r⟩
              | outgrown => exact hp))
        | panicked ch =>
          obtain ⟨g', ch', u3, h', hm, hle, hr', hu3, hch⟩ := hp
          exact leave_sound hT hcall hD hcr ds ds' g' (raised u3 ch') (raised u2 ch) h' w' (hds.mono hle) (hts.mono hle) hr' (raised_mor hu3 hch) (hl.trans hle) (fun o ho => hg o (List.mem_flatMap.2 ⟨_, hm, ho⟩))
            (fun e w' hp => hR e w' (by
              cases e with
              | returned v => obtain ⟨g2, a, b, hm2, r⟩ := hp; exact ⟨g2, a, b, List.mem_flatMap.2 ⟨_, hm, hm2⟩, r⟩
              | panicked v => obtain ⟨g2, a, b, hm2, r⟩ := hp; exact ⟨g2, a, b, List.mem_flatMap.2 ⟨_, hm, hm2⟩, r⟩
              | outgrown => exact hp))
        | outgrown => exact hp.elim
def outCO (P : Program) (T : Table) (call : Caller) (af : AFunc) : Out → List CO
  | .mk .normal s | .mk .ret s => leave P T call af.results s.ts s.ds .returning s.h
  | .mk (.panic chain) s => leave P T call af.results s.ts s.ds (.panicking chain) s.h
  | _ => [.bad]
theorem xfun_eq {T : Table} {call : Caller} {L : Nat} {af : AFunc} {args : List Value} {h : Heap} : xfun P T call L af args h = (xc P call L af.body { ts := pad args af.ntmps, ds := [], h }).flatMap (outCO P T call af) := by
  unfold xfun
  congr 1
theorem xfun_sound {T : Table} (hT : TableOK P T) {call : Caller} (hcall : CallOK P call) {L : Nat} (hD : DrawsOK P call B w0) (hDn : DrawsOK P (noY call) B w0) {f : FuncId} {af : AFunc} (hf : T f = some af) (hpr : af.prim = none) {g : Gh} {h : Heap} {w : World} {args args' : List Value}
    (hr : HR g h B w0 w) (hv : VRL g args args') (hg : ∀ o ∈ xfun P T call L af args h, o ≠ .bad) : FnOK P f ∧ Calls P f ⟨args'⟩ w (CPost B w0 g (xfun P T call L af args h)) := by
  obtain ⟨fn, hfn, hcf⟩ := hT.plain hf hpr
  obtain ⟨c, hb, hn, hcb, hcr, hnt⟩ := compFunc_parts hcf
  refine ⟨⟨fn, hfn, by simp [hb], hn⟩, callsIn_wide.1 (callsIn_of_wp_marks (F := FR none) (n := 0) hfn hb trivial ?_)⟩
  rw [xfun_eq] at hg ⊢
  have hgc : Good (xc P call L af.body { ts := pad args af.ntmps, ds := [], h }) := fun o hm hbad => by
    subst hbad
    exact hg .bad (List.mem_flatMap.2 ⟨.bad, hm, by simp [outCO]⟩) rfl
  refine xc_sound (ro := none) hcall L hD c af.body hcb (.inl rfl) g g { ts := pad args af.ntmps, ds := [], h } _ w _ ⟨hr, by rw [hnt]; exact pad_vr hv _, .nil, trivial⟩ (Le.refl _) hgc ?_
  rintro e a w1 ⟨g1, e1, s1, hm, hl1, he, hr1⟩
  have hgo : ∀ o ∈ outCO P T call af (.mk e1 s1), o ≠ .bad := fun o ho => hg o (List.mem_flatMap.2 ⟨_, hm, ho⟩)
  have lift : ∀ (e : Ending) (w' : World), CPost B w0 g (outCO P T call af (.mk e1 s1)) e w' → CPost B w0 g ((xc P call L af.body { ts := pad args af.ntmps, ds := [], h }).flatMap (outCO P T call af)) e w' := by
    intro e w' hp
    cases e with
    | returned v => obtain ⟨g2, a, b, hm2, r⟩ := hp; exact ⟨g2, a, b, List.mem_flatMap.2 ⟨_, hm, hm2⟩, r⟩
    | panicked v => obtain ⟨g2, a, b, hm2, r⟩ := hp; exact ⟨g2, a, b, List.mem_flatMap.2 ⟨_, hm, hm2⟩, r⟩
    | outgrown => exact hp
  cases e with
  | normal =>
    obtain rfl := he.normal
    exact leave_sound hT hcall hDn hcr s1.ds a.defers g1 .returning .returning s1.h w1 hr1.ds hr1.ts hr1.hr trivial hl1 hgo lift
  | ret =>
    cases e1 with
    | ret => exact leave_sound hT hcall hDn hcr s1.ds a.defers g1 .returning .returning s1.h w1 hr1.ds hr1.ts hr1.hr trivial hl1 hgo lift
    | _ => simp [ExR] at he
  | panic c' =>
    cases e1 with
    | panic ch => exact leave_sound hT hcall hDn hcr s1.ds a.defers g1 (.panicking ch) (.panicking c') s1.h w1 hr1.ds hr1.ts hr1.hr he hl1 hgo lift
    | _ => simp [ExR] at he
  | exit i => cases e1 <;> simp [ExR] at he; exact absurd rfl (hgo .bad (by simp [outCO]))
  | goto i => cases e1 <;> simp [ExR] at he
  | outgrown => cases e1 <;> simp [ExR] at he
theorem putAll_vr {g : Gh} : ∀ (ps : List Nat) {args args' : List Value}, VRL g args args' → ∀ {ts : List Value} {tmps : Array Value}, VRL g ts tmps.toList →
    VRL g (putAll ts ps args) ((ps.zip args').foldl (fun tmps p => tmps.setIfInBounds p.1 p.2) tmps).toList
  | [], _, _, _, _, _, h => by simpa [putAll] using h
  | _ :: _, _, _, .nil, _, _, h => by simpa [putAll] using h
  | p :: ps, _, _, .cons h1 h2, ts, tmps, h => by
    simp only [putAll, List.zip_cons_cons, List.foldl_cons]
    exact putAll_vr ps h2 (tmps := tmps.setIfInBounds p _) (by rw [lset_eq, Array.toList_setIfInBounds]; exact h.set p h1)
theorem run_endRound {w : World} {l : Nat} {r : Loop} (h : w.heap[l]? = some (.loop r)) (jump : Option Code) :
    (Instr.endRound l jump).run P w = .ok (.bool jump.isNone) (withBlock w l (.loop { r with state := if jump.isNone then .ready else .done, pending := jump })) := by
  simp only [Instr.endRound, Sem.run_bind, run_getLoop h, Result.andThen_ok]
  rw [run_setObj h (by simp)]
  simp
theorem run_beginRound {w : World} {l : Nat} {r : Loop} (h : w.heap[l]? = some (.loop r)) (hst : r.state = .ready) :
    (Instr.beginRound l).run P w = .ok () (withBlock w l (.loop { r with state := .busy })) := by
  simp only [Instr.beginRound, Sem.run_bind, run_getLoop h, Result.andThen_ok]
  rw [run_setObj h (by simp)]
  simp [hst]
theorem endR_sound {g0 g : Gh} {h : Heap} {w : World} {l l' : Nat} {outs : List CO} (hr : HR g h B w0 w) (hl : Le g0 g) (hbr : BR g l l') (jump : Option Code) (hm : endR l jump h ∈ outs) (hne : endR l jump h ≠ .bad) :
    ∃ v w', (Instr.endRound l' jump).run P w = .ok v w' ∧ CPost B w0 g0 outs (.returned v) w' := by
  unfold endR at hm hne
  split at hne
  · rename_i st pend ts ps as b hget
    rw [hget] at hm
    obtain ⟨x, hx, f, ts', d, hob, hts, hsh⟩ := hr.of_obj hget (by simp)
    obtain rfl := hbr.2 x hx
    refine ⟨_, _, run_endRound hob jump, g, _, _, hm, hl, ?_, .gr rfl⟩
    refine hr.set hx (by rw [hget]; rfl) rfl rfl rfl rfl ⟨f, ts', d, ?_, hts, hsh⟩
    rw [heap_withBlock hob]
  · exact absurd rfl hne
theorem xround_sound {call : Caller} (hcall : CallOK P call) {L : Nat} (hD : DrawsOK P call B w0) {l l' : Nat} {args args' : List Value} {g : Gh} {h : Heap} {w : World} (hr : HR g h B w0 w) (hv : VRL g args args') (hbr : BR g l l')
    (hg : ∀ o ∈ xround P call L l args h, o ≠ .bad) : ∃ f tmps assign body, (Instr.yield l' ⟨args'⟩).run P w = .ok (.round l' f tmps assign body) w ∧ ∀ ro n, RoundIn (FR ro) n P l' f tmps assign body w (CPost B w0 g (xround P call L l args h)) := by
  unfold xround at hg ⊢
  split at hg
  · rename_i st pend ts ps as b hget
    split at hg
    · rename_i hcond
      obtain ⟨hlen, hna, hnb⟩ := hcond
      split at hg
      · rename_i as' b' has hb
        simp only [hlen, hna, hnb, and_self, if_true, has, hb] at hg ⊢
        obtain ⟨x, hx, f1, ts', d1, hob, hts, hsh⟩ := hr.of_obj hget (by simp)
        obtain rfl := hbr.2 x hx
        have hlen' := hv.length
        refine ⟨f1, (ps.zip args').foldl (fun tmps p => tmps.setIfInBounds p.1 p.2) ts', as, b, ?_, fun ro n => roundIn_of_wpIn trivial ?_⟩
        · simp only [Instr.yield, Sem.run_bind, run_getLoop hob, Result.andThen_ok, List.size_toArray, hlen', hlen, ne_eq, not_true, if_false, Sem.run_pure]
          simp [List.zip_toArray]
        · have hga : Good (xc P call L as' { ts := putAll ts ps args, ds := [], h, rd := some l }) := fun o hm hbad => by
            subst hbad
            exact hg .bad (List.mem_flatMap.2 ⟨.bad, hm, List.mem_singleton.2 rfl⟩) rfl
          refine xc_sound (ro := some x.b) (n := n) hcall L hD as as' has (.inr hna) g g { ts := putAll ts ps args, ds := [], h, rd := some l } _ w _ ⟨hr, putAll_vr ps hv hts, .nil, hbr⟩ (Le.refl _) hga ?_
          rintro e a w1 ⟨g1, e1, s1, hm, hl1, he, hr1⟩
          have hgo : ∀ o ∈ bodyOut P call L l b' (.mk e1 s1), o ≠ .bad := fun o ho => hg o (List.mem_flatMap.2 ⟨_, hm, ho⟩)
          have dead : e1 ≠ .normal → False := fun hne => hgo .bad (by cases e1 <;> first | exact absurd rfl hne | simp [bodyOut]) rfl
          cases e with
          | normal =>
            obtain rfl := he.normal
            simp only [bodyOut] at hgo
            split at hgo
            · rename_i pend1 ts1 ps1 as1 b1 hget1
              obtain ⟨y, hy, f2, ts2', d2, hob2, hts2, hsh2⟩ := hr1.hr.of_obj hget1 (by simp)
              have hxy : x.b = y.b := (hbr.mono hl1).2 y hy
              rw [← hxy] at hob2
              refine ⟨_, run_beginRound hob2 rfl, ?_⟩
              have hhr : HR g1 (s1.h.set l (.loop .busy pend1 ts1 ps1 as1 b1)) B w0 (withBlock w1 x.b (.loop { state := .busy, pending := pend1, fn := f2, tmps := ts2', params := ⟨ps1⟩, assign := as1, body := b1, defers := d2 })) := by
                refine hr1.hr.set hy (by rw [hget1]; rfl) (by rw [← hxy]; rfl) rfl rfl rfl ⟨f2, ts2', d2, ?_, hts2, hsh2⟩
                rw [← hxy, heap_withBlock hob2]
              refine xc_sound (ro := some x.b) (n := n) hcall L hD b b' hb (.inr hnb) g g1 { s1 with h := s1.h.set l (.loop .busy pend1 ts1 ps1 as1 b1) } a _ _ ⟨hhr, hr1.ts, hr1.ds, hr1.rd⟩ hl1 (fun o hm2 hbad => ?_) ?_
              · subst hbad
                exact hgo .bad (List.mem_map.2 ⟨.bad, hm2, rfl⟩) rfl
              · rintro e a w2 ⟨g2, e2, s2, hm2, hl2, he2, hr2⟩
                have hmem : roundOut l (.mk e2 s2) ∈ (xc P call L as' { ts := putAll ts ps args, ds := [], h, rd := some l }).flatMap (bodyOut P call L l b') :=
                  List.mem_flatMap.2 ⟨_, hm, by simp only [bodyOut, hget1]; exact List.mem_map.2 ⟨_, hm2, rfl⟩⟩
                have hne := hgo _ (List.mem_map.2 ⟨_, hm2, rfl⟩)
                cases e with
                | normal =>
                  obtain rfl := he2.normal
                  exact endR_sound hr2.hr hl2 (hbr.mono hl2) none hmem hne
                | ret =>
                  cases e2 with
                  | ret => exact endR_sound hr2.hr hl2 (hbr.mono hl2) (some .ret) hmem hne
                  | _ => simp [ExR] at he2
                | exit i =>
                  cases e2 with
                  | exit j =>
                    have : j = i := he2
                    subst this
                    exact endR_sound hr2.hr hl2 (hbr.mono hl2) (some (.exit j)) hmem hne
                  | _ => simp [ExR] at he2
                | goto i => cases e2 <;> simp [ExR] at he2
                | panic c =>
                  cases e2 with
                  | panic ch => exact absurd rfl hne
                  | _ => simp [ExR] at he2
                | outgrown => cases e2 <;> simp [ExR] at he2
            · exact absurd rfl (hgo .bad (by simp))
          | exit i => exact (dead (by rintro rfl; simp [ExR] at he)).elim
          | goto i => exact (dead (by rintro rfl; simp [ExR] at he)).elim
          | ret => exact (dead (by rintro rfl; simp [ExR] at he)).elim
          | panic c => exact (dead (by rintro rfl; simp [ExR] at he)).elim
          | outgrown => exact (dead (by rintro rfl; simp [ExR] at he)).elim
      · exact absurd rfl (hg .bad (by simp))
    · exact absurd rfl (hg .bad (by simp))
  · exact absurd rfl (hg .bad (by simp))
theorem xcall_sound {T : Table} (hT : TableOK P T) (L : Nat) (hD : ∀ (call : Caller), CallOK P call → ∀ B w0, DrawsOK P call B w0) : ∀ n, CallOK P (xcall P T L n)
  | 0 => ⟨fun l l' args args' g h B w0 w _ _ _ hg => absurd rfl (hg .bad (by simp [xcall])), fun f args args' g h B w0 w _ _ hg => absurd rfl (hg .bad (by simp [xcall]))⟩
  | n + 1 => by
    have ih := xcall_sound hT L hD n
    refine ⟨fun l l' args args' g h B w0 w hr hv hbr hg => xround_sound ih (hD _ ih B w0) hr hv hbr hg, fun f args args' g h B w0 w hr hv hg => ?_⟩
    cases hf : T f with
    | none => exact absurd rfl (hg .bad (by simp [xcall, hf]))
    | some af =>
      cases hpr : af.prim with
      | some p =>
        have he : xcall P T L (n + 1) (.fn f) args h = p args h := by simp [xcall, hf, hpr]
        rw [he] at hg ⊢
        have := hT f af hf
        rw [hpr] at this
        exact this args args' g h B w0 w hr hv hg
      | none =>
        have he : xcall P T L (n + 1) (.fn f) args h = xfun P T (xcall P T L n) L af args h := by simp [xcall, hf, hpr]
        rw [he] at hg ⊢
        exact xfun_sound hT ih (hD _ ih B w0) (hD _ (noY_ok ih) B w0) hf hpr hr hv hg
end
end Go.Vm
