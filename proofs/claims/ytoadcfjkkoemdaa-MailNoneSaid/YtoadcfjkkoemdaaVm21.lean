/- A small machine over an abstract heap: code, whole. -/
import Derived.Scope
import Derived.Test.YtoadcfjkkoemdaaVm20b
set_option linter.unusedSimpArgs false
namespace Go.Vm
open Go.RowKit

section
variable {P : Program} {B : Nat} {w0 : World} {ro : Option Nat} {n : Nat}

/-- a region that draws its order is carried out as the machine has it -/
def DrawsOK (P : Program) (call : Caller) (B : Nat) (w0 : World) : Prop :=
  ∀ (ro : Option Nat) (n : Nat) (id : Nat) (ops : Array Oper) (aos : List AOper) (g0 g : Gh) (s : St) (a : Act) (w : World) (Q : Exit → Act → World → Prop), compD P ops = some aos → Rel ro B w0 g s a w → Le g0 g → Good (xopsD P call aos s) →
    (∀ e a w, Post ro B w0 g0 (xopsD P call aos s) e a w → Q e a w) → (Code.region id ops true).wpIn (FR ro) n P Q a w

def thenOut (f : St → List Out) : Out → List Out
  | .mk .normal s => f s
  | o => [o]

theorem xc_seq {call : Caller} {L : Nat} {x y : ACode} {s : St} : xc P call L (.seq x y) s = (xc P call L x s).flatMap (thenOut (xc P call L y)) := by
  simp only [xc]
  congr 1

theorem loopGo_succ {body : St → List Out} {n : Nat} {s : St} : loopGo body (n + 1) s = (body s).flatMap (thenOut (loopGo body n)) := by
  simp only [loopGo]
  congr 1

theorem good_then {l : List Out} {f : St → List Out} (hg : Good (l.flatMap (thenOut f))) : Good l := by
  intro o hm hb
  subst hb
  exact hg .bad (List.mem_flatMap.2 ⟨.bad, hm, by simp [thenOut]⟩) rfl

theorem good_next {l : List Out} {f : St → List Out} (hg : Good (l.flatMap (thenOut f))) {s : St} (hm : Out.mk .normal s ∈ l) : Good (f s) :=
  fun o ho => hg o (List.mem_flatMap.2 ⟨_, hm, ho⟩)

theorem ExR.normal {g : Gh} {e : Exit} (h : ExR g e .normal) : e = .normal := by cases e <;> simp_all [ExR]

/-- behind a piece of code: on where it came to its end, else out -/
theorem post_then {g0 : Gh} {l : List Out} {f : St → List Out} {K : Act → World → Prop} {Q : Exit → Act → World → Prop}
    (hK : ∀ g s a w, Out.mk .normal s ∈ l → Le g0 g → Rel ro B w0 g s a w → K a w) (hQ : ∀ e a w, Post ro B w0 g0 (l.flatMap (thenOut f)) e a w → Q e a w) :
    ∀ e a w, Post ro B w0 g0 l e a w → Exit.then K Q e a w := by
  rintro e a w ⟨g, e', s, hm, hl, he, hr⟩
  have out : (∀ s, Out.mk e' s ∈ l → Out.mk e' s ∈ l.flatMap (thenOut f)) → Q e a w := fun h => hQ e a w ⟨g, e', s, h s hm, hl, he, hr⟩
  cases e with
  | normal =>
    obtain rfl := he.normal
    exact hK g s a w hm hl hr
  | exit i => exact out fun s hs => List.mem_flatMap.2 ⟨_, hs, by cases e' <;> simp_all [ExR, thenOut]⟩
  | goto i => cases e' <;> simp [ExR] at he
  | ret => exact out fun s hs => List.mem_flatMap.2 ⟨_, hs, by cases e' <;> simp_all [ExR, thenOut]⟩
  | panic c => exact out fun s hs => List.mem_flatMap.2 ⟨_, hs, by cases e' <;> simp_all [ExR, thenOut]⟩
  | outgrown => cases e' <;> simp [ExR] at he

theorem noDefer_op {id : Nat} {ops : Array Oper} {d : Bool} (h : noDefer (.region id ops d) = true) {i : Nat} {o : Oper} (ho : ops[i]? = some o) {c : Call} (hd : o.op = .defer c) : False := by
  have := Array.all_eq_true_iff_forall_mem.1 h o (Array.mem_of_getElem? ho)
  rw [hd] at this
  cases this

theorem stepR_scope {b : Frame} {a : Act} {k : List Item} {cs : List Frame} {w : World} {c : Code} : step P (lone (b.atR a (.code (.scope c) :: k)) cs w) = .next (lone (b.atR a (.code c :: .inScope c :: k)) cs w) :=
  step_lone_go (by simp [stepG, stepG.exec, Frame.atR])
theorem stepR_inScope {b : Frame} {a : Act} {k : List Item} {cs : List Frame} {w : World} {c : Code} : step P (lone (b.atR a (.inScope c :: k)) cs w) = .next (lone (b.atR a k) cs w) :=
  step_lone_go (by simp [stepG, stepG.exec, Frame.atR])

theorem wpIn_scope {F : Fence} {c : Code} {Q : Exit → Act → World → Prop} {a : Act} {w : World} (h : c.wpIn F n P (Exit.noGoto Q) a w) : (Code.scope c).wpIn F n P Q a w := by
  intro b k cs hro hb hr
  have h0 : (lone (b.atR a (.code (.scope c) :: k)) cs w).fenced P F := fenced_calm hb hr rfl
  obtain ⟨e, a₁, w₁, hq, harr⟩ := h b (.inScope c :: k) cs hro hb hr
  cases e with
  | normal => exact ⟨.normal, a₁, w₁, hq, .head h0 stepR_scope (StepsIn.trans harr (.one (fenced_calm hb hr rfl) stepR_inScope))⟩
  | exit id => exact ⟨.exit id, a₁, w₁, hq, .of_steps (.one h0 stepR_scope) ⟨fun k' hk => harr.1 k' (by simp [exitTo, hk]), fun hr hk => harr.2 hr (by simp [exitTo, hk])⟩⟩
  | goto l => exact hq.elim
  | ret => exact ⟨_, a₁, w₁, hq, .of_steps (.one h0 stepR_scope) harr⟩
  | panic ch => exact ⟨_, a₁, w₁, hq, .of_steps (.one h0 stepR_scope) harr⟩
  | outgrown => exact ⟨_, a₁, w₁, hq, .of_steps (.one h0 stepR_scope) harr⟩

theorem noDefer_and {a b : Bool} (h : (a && b) = true) : a = true ∧ b = true := by simpa using h

theorem xc_sound {call : Caller} (hcall : CallOK P call) (L : Nat) (hD : DrawsOK P call B w0) : ∀ (c : Code) (ac : ACode), comp P c = some ac → (ro = none ∨ noDefer c = true) →
    ∀ (g0 g : Gh) (s : St) (a : Act) (w : World) (Q : Exit → Act → World → Prop), Rel ro B w0 g s a w → Le g0 g → Good (xc P call L ac s) →
      (∀ e a w, Post ro B w0 g0 (xc P call L ac s) e a w → Q e a w) → c.wpIn (FR ro) n P Q a w
  | .skip, ac, hc, hnd, g0, g, s, a, w, Q, hr, hl, _, hQ => by
    simp only [comp, Option.some.injEq] at hc; subst hc
    exact wpIn_skip (hQ _ _ _ ⟨g, .normal, s, by simp [xc], hl, trivial, hr⟩)
  | .exit id, ac, hc, hnd, g0, g, s, a, w, Q, hr, hl, _, hQ => by
    simp only [comp, Option.some.injEq] at hc; subst hc
    exact wpIn_exit (hQ _ _ _ ⟨g, .exit id, s, by simp [xc], hl, rfl, hr⟩)
  | .ret, ac, hc, hnd, g0, g, s, a, w, Q, hr, hl, _, hQ => by
    simp only [comp, Option.some.injEq] at hc; subst hc
    exact wpIn_ret (hQ _ _ _ ⟨g, .ret, s, by simp [xc], hl, trivial, hr⟩)
  | .region id ops false, ac, hc, hnd, g0, g, s, a, w, Q, hr, hl, hg, hQ => by
    simp only [comp] at hc
    obtain ⟨aos, haos, rfl⟩ := Option.map_eq_some_iff.1 hc
    exact wpIn_region (ops_sound hcall (hnd.imp_right fun h i o ho c hd => noDefer_op h ho hd) _ aos haos g s a w hr hl hg hQ)
  | .region id ops true, ac, hc, hnd, g0, g, s, a, w, Q, hr, hl, hg, hQ => by
    simp only [comp] at hc
    obtain ⟨aos, haos, rfl⟩ := Option.map_eq_some_iff.1 hc
    exact hD ro n id ops aos g0 g s a w Q haos hr hl hg hQ
  | .seq x y, ac, hc, hnd, g0, g, s, a, w, Q, hr, hl, hg, hQ => by
    simp only [comp] at hc
    split at hc
    · rename_i ax ay hx hy
      cases hc
      rw [xc_seq] at hg hQ
      refine wpIn_seq (xc_sound hcall L hD x ax hx (hnd.imp_right fun h => (noDefer_and h).1) g0 g s a w _ hr hl (good_then hg) (post_then (f := xc P call L ay) (fun g' s' a' w' hm hl' hr' => ?_) hQ))
      exact xc_sound hcall L hD y ay hy (hnd.imp_right fun h => (noDefer_and h).2) g0 g' s' a' w' Q hr' hl' (good_next hg hm) (fun e a2 w2 hp => hQ e a2 w2 (by
        obtain ⟨g2, e2, s2, hm2, r⟩ := hp
        exact ⟨g2, e2, s2, List.mem_flatMap.2 ⟨_, hm, hm2⟩, r⟩))
    · cases hc
  | .cond c t e, ac, hc, hnd, g0, g, s, a, w, Q, hr, hl, hg, hQ => by
    simp only [comp] at hc
    split at hc
    · rename_i at' ae hok ht he
      cases hc
      have hv := eval_vr hr.hr hr.ts c
      rw [eval_ok hok] at hv
      simp only [xc] at hg hQ
      cases hev : eval s.ts c with
      | bool b =>
        rw [hev] at hv
        have hb := hv.bool
        cases b with
        | true =>
          simp only [hev] at hg hQ
          exact wpIn_cond hb (xc_sound hcall L hD t at' ht (hnd.imp_right fun h => (noDefer_and h).1) g0 g s a w Q hr hl hg hQ)
        | false =>
          simp only [hev] at hg hQ
          exact wpIn_cond hb (xc_sound hcall L hD e ae he (hnd.imp_right fun h => (noDefer_and h).2) g0 g s a w Q hr hl hg hQ)
      | _ => simp only [hev] at hg; exact absurd rfl (hg .bad (by simp))
    · cases hc
  | .block id b, ac, hc, hnd, g0, g, s, a, w, Q, hr, hl, hg, hQ => by
    simp only [comp] at hc
    obtain ⟨ab, hb, rfl⟩ := Option.map_eq_some_iff.1 hc
    simp only [xc] at hg hQ
    refine wpIn_block (xc_sound hcall L hD b ab hb (hnd.imp_right fun h => h) g0 g s a w _ hr hl (fun o hm hbad => hg .bad (List.mem_map.2 ⟨o, hm, by rw [hbad]⟩) rfl) ?_)
    rintro e a' w' ⟨g', e', s', hm, hl', he, hr'⟩
    cases e with
    | normal =>
      obtain rfl := he.normal
      exact hQ _ _ _ ⟨g', .normal, s', List.mem_map.2 ⟨_, hm, rfl⟩, hl', trivial, hr'⟩
    | exit j =>
      cases e' with
      | exit i =>
        have : i = j := he
        subst this
        simp only [Exit.inBlock]
        split
        · rename_i hj
          exact hQ _ _ _ ⟨g', .normal, s', List.mem_map.2 ⟨_, hm, by simp [hj]⟩, hl', trivial, hr'⟩
        · rename_i hj
          exact hQ _ _ _ ⟨g', .exit i, s', List.mem_map.2 ⟨_, hm, by simp [hj]⟩, hl', rfl, hr'⟩
      | _ => simp [ExR] at he
    | goto j => cases e' <;> simp [ExR] at he
    | ret =>
      cases e' with
      | ret => exact hQ _ _ _ ⟨g', .ret, s', List.mem_map.2 ⟨_, hm, rfl⟩, hl', trivial, hr'⟩
      | _ => simp [ExR] at he
    | panic ch =>
      cases e' with
      | panic ch' => exact hQ _ _ _ ⟨g', .panic ch', s', List.mem_map.2 ⟨_, hm, rfl⟩, hl', he, hr'⟩
      | _ => simp [ExR] at he
    | outgrown => cases e' <;> simp [ExR] at he
  | .loop b, ac, hc, hnd, g0, g, s, a, w, Q, hr, hl, hg, hQ => by
    simp only [comp] at hc
    obtain ⟨ab, hb, rfl⟩ := Option.map_eq_some_iff.1 hc
    simp only [xc] at hg hQ
    -- the loop's rounds
    have key : ∀ (m : Nat) (g : Gh) (s : St) (a : Act) (w : World), Rel ro B w0 g s a w → Le g0 g → Good (loopGo (xc P call L ab) m s) → (∀ e a w, Post ro B w0 g0 (loopGo (xc P call L ab) m s) e a w → Q e a w) →
        ∀ (f : Frame) (k : List Item) (cs : List Frame), f.roundOf = (FR ro).round → (FR ro).fn f.fn → (FR ro).room (cs.length + 1 + n) → ∃ e a' w', Q e a' w' ∧ ArrivesIn (Machine.fenced P (FR ro)) P (lone (f.atR a (.code b :: .inLoop b :: k)) cs w) f k cs e a' w' := by
      intro m
      induction m with
      | zero => intro g s a w _ _ hg; exact absurd rfl (hg .bad (by simp [loopGo]))
      | succ m ih =>
        intro g s a w hr hl hg hQ f k cs hro hfn hroom
        rw [loopGo_succ] at hg hQ
        have hbody := xc_sound hcall L hD b ab hb (hnd.imp_right fun h => h) g0 g s a w
          (Exit.then (fun a' w' => ∀ (f : Frame) (k : List Item) (cs : List Frame), f.roundOf = (FR ro).round → (FR ro).fn f.fn → (FR ro).room (cs.length + 1 + n) → ∃ e a2 w2, Q e a2 w2 ∧ ArrivesIn (Machine.fenced P (FR ro)) P (lone (f.atR a' (.code b :: .inLoop b :: k)) cs w') f k cs e a2 w2) Q) hr hl (good_then hg)
          (post_then (f := loopGo (xc P call L ab) m) (fun g' s' a' w' hm hl' hr' => ih g' s' a' w' hr' hl' (good_next hg hm) (fun e a2 w2 hp => hQ e a2 w2 (by
            obtain ⟨g2, e2, s2, hm2, r⟩ := hp
            exact ⟨g2, e2, s2, List.mem_flatMap.2 ⟨_, hm, hm2⟩, r⟩))) hQ)
        obtain ⟨e, a1, w1, hq, harr⟩ := hbody f (.inLoop b :: k) cs hro hfn hroom
        cases e with
        | normal =>
          obtain ⟨e2, a2, w2, hq2, harr2⟩ := hq f k cs hro hfn hroom
          exact ⟨e2, a2, w2, hq2, .of_steps (StepsIn.trans harr (.one (fenced_calm hfn hroom rfl) stepR_inLoop)) harr2⟩
        | exit id => exact ⟨_, a1, w1, hq, .pass (x := .inLoop b) rfl (fun _ _ => .inl (by simp)) harr⟩
        | goto l => exact ⟨_, a1, w1, hq, .pass (x := .inLoop b) rfl (fun _ _ => .inl (by simp)) harr⟩
        | ret => exact ⟨_, a1, w1, hq, .pass (x := .inLoop b) rfl (fun _ _ => .inl (by simp)) harr⟩
        | panic ch => exact ⟨_, a1, w1, hq, .pass (x := .inLoop b) rfl (fun _ _ => .inl (by simp)) harr⟩
        | outgrown => exact ⟨_, a1, w1, hq, .pass (x := .inLoop b) rfl (fun _ _ => .inl (by simp)) harr⟩
    intro f k cs hro hfn hroom
    obtain ⟨e, a', w', hq, harr⟩ := key L g s a w hr hl hg hQ f k cs hro hfn hroom
    exact ⟨e, a', w', hq, .of_steps (.one (fenced_calm hfn hroom rfl) stepR_loop) harr⟩
  | .rangeFunc f ps as b, ac, hc, hnd, g0, g, s, a, w, Q, hr, hl, hg, hQ => by
    simp only [comp] at hc
    split at hc
    · rename_i hok
      cases hc
      exact lap_sound hcall hok hr hl hg hQ
    · cases hc
  | .scope b, ac, hc, hnd, g0, g, s, a, w, Q, hr, hl, hg, hQ => by
    simp only [comp] at hc
    obtain ⟨ab, hb, rfl⟩ := Option.map_eq_some_iff.1 hc
    simp only [xc] at hg hQ
    refine wpIn_scope (xc_sound hcall L hD b ab hb (hnd.imp_right fun h => h) g0 g s a w _ hr hl hg fun e a w hp => ?_)
    have hp' := hp
    obtain ⟨g', e', s', hm, hl', he, hr'⟩ := hp
    cases e with
    | goto l => cases e' <;> simp [ExR] at he
    | _ => exact hQ _ _ _ hp'
  | .label _, ac, hc, hnd, g0, g, s, a, w, Q, hr, hl, _, hQ => by
    simp only [comp, Option.some.injEq] at hc; subst hc
    exact wpIn_label (hQ _ _ _ ⟨g, .normal, s, by simp [xc], hl, trivial, hr⟩)
  | .goto _, ac, hc, hnd, g0, g, s, a, w, Q, hr, hl, hg, hQ => by
    simp only [comp, Option.some.injEq] at hc; subst hc
    exact absurd rfl (hg .bad (by simp [xc]))
  | .refuse _, ac, hc, _, _, _, _, _, _, _, _, _, _, _ => by simp [comp] at hc

end
end Go.Vm
