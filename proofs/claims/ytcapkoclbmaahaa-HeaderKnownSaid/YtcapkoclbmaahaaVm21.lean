/- A small machine over an abstract heap: code, whole. -/
import Derived.Test.YtcapkoclbmaahaaVm20
set_option linter.unusedSimpArgs false
namespace Go.Vm
open Go.RowKit

section
variable {P : Program} {B : Nat} {w0 : World}

/-- a region that draws its order is carried out as the machine has it -/
def DrawsOK (P : Program) (call : Caller) (B : Nat) (w0 : World) : Prop :=
  ∀ (id : Nat) (ops : Array Oper) (aos : List AOper) (g0 g : Gh) (s : St) (a : Act) (w : World) (Q : Exit → Act → World → Prop), compD P ops = some aos → Rel B w0 g s a w → Le g0 g → Good (xopsD P call aos s) →
    (∀ e a w, Post B w0 g0 (xopsD P call aos s) e a w → Q e a w) → (Code.region id ops true).wp P Q a w

def thenOut (f : St → List Out) : Out → List Out
  | .mk .normal s => f s
  | o => [o]

theorem xc_seq {call : Caller} {L : Nat} {x y : ACode} {s : St} : xc P call L (.seq x y) s = (xc P call L x s).flatMap (thenOut (xc P call L y)) := by
  simp only [xc]
  congr 1

theorem loopGo_succ {body : St → List Out} {n : Nat} {s : St} : loopGo body (n + 1) s = (body s).flatMap (thenOut (loopGo body n)) := by
  simp only [loopGo]
  congr 1

theorem good_then {l : List Out} {f : St → List Out} (hg : Good (l.flatMap (thenOut f))) : Good l := by
  intro o hm hb
  subst hb
  exact hg .bad (List.mem_flatMap.2 ⟨.bad, hm, by simp [thenOut]⟩) rfl

theorem good_next {l : List Out} {f : St → List Out} (hg : Good (l.flatMap (thenOut f))) {s : St} (hm : Out.mk .normal s ∈ l) : Good (f s) :=
  fun o ho => hg o (List.mem_flatMap.2 ⟨_, hm, ho⟩)

theorem ExR.normal {g : Gh} {e : Exit} (h : ExR g e .normal) : e = .normal := by cases e <;> simp_all [ExR]

/-- behind a piece of code: on where it came to its end, else out -/
theorem post_then {g0 : Gh} {l : List Out} {f : St → List Out} {K : Act → World → Prop} {Q : Exit → Act → World → Prop}
    (hK : ∀ g s a w, Out.mk .normal s ∈ l → Le g0 g → Rel B w0 g s a w → K a w) (hQ : ∀ e a w, Post B w0 g0 (l.flatMap (thenOut f)) e a w → Q e a w) :
    ∀ e a w, Post B w0 g0 l e a w → Exit.then K Q e a w := by
  rintro e a w ⟨g, e', s, hm, hl, he, hr⟩
  have out : (∀ s, Out.mk e' s ∈ l → Out.mk e' s ∈ l.flatMap (thenOut f)) → Q e a w := fun h => hQ e a w ⟨g, e', s, h s hm, hl, he, hr⟩
  cases e with
  | normal =>
    obtain rfl := he.normal
    exact hK g s a w hm hl hr
  | exit i => exact out fun s hs => List.mem_flatMap.2 ⟨_, hs, by cases e' <;> simp_all [ExR, thenOut]⟩
  | goto i => cases e' <;> simp [ExR] at he
  | ret => exact out fun s hs => List.mem_flatMap.2 ⟨_, hs, by cases e' <;> simp_all [ExR, thenOut]⟩
  | panic c => exact out fun s hs => List.mem_flatMap.2 ⟨_, hs, by cases e' <;> simp_all [ExR, thenOut]⟩
  | outgrown => cases e' <;> simp [ExR] at he

theorem xc_sound {call : Caller} (hcall : CallOK P call) (L : Nat) (hD : DrawsOK P call B w0) : ∀ (c : Code) (ac : ACode), comp P c = some ac →
    ∀ (g0 g : Gh) (s : St) (a : Act) (w : World) (Q : Exit → Act → World → Prop), Rel B w0 g s a w → Le g0 g → Good (xc P call L ac s) →
      (∀ e a w, Post B w0 g0 (xc P call L ac s) e a w → Q e a w) → c.wp P Q a w
  | .skip, ac, hc, g0, g, s, a, w, Q, hr, hl, _, hQ => by
    simp only [comp, Option.some.injEq] at hc; subst hc
    exact wp_skip (hQ _ _ _ ⟨g, .normal, s, by simp [xc], hl, trivial, hr⟩)
  | .exit id, ac, hc, g0, g, s, a, w, Q, hr, hl, _, hQ => by
    simp only [comp, Option.some.injEq] at hc; subst hc
    exact wp_exit (hQ _ _ _ ⟨g, .exit id, s, by simp [xc], hl, rfl, hr⟩)
  | .ret, ac, hc, g0, g, s, a, w, Q, hr, hl, _, hQ => by
    simp only [comp, Option.some.injEq] at hc; subst hc
    exact wp_ret (hQ _ _ _ ⟨g, .ret, s, by simp [xc], hl, trivial, hr⟩)
  | .region id ops false, ac, hc, g0, g, s, a, w, Q, hr, hl, hg, hQ => by
    simp only [comp] at hc
    obtain ⟨aos, haos, rfl⟩ := Option.map_eq_some_iff.1 hc
    exact wp_region (ops_sound hcall _ aos haos g s a w hr hl hg hQ)
  | .region id ops true, ac, hc, g0, g, s, a, w, Q, hr, hl, hg, hQ => by
    simp only [comp] at hc
    obtain ⟨aos, haos, rfl⟩ := Option.map_eq_some_iff.1 hc
    exact hD id ops aos g0 g s a w Q haos hr hl hg hQ
  | .seq x y, ac, hc, g0, g, s, a, w, Q, hr, hl, hg, hQ => by
    simp only [comp] at hc
    split at hc
    · rename_i ax ay hx hy
      cases hc
      rw [xc_seq] at hg hQ
      refine wp_seq (xc_sound hcall L hD x ax hx g0 g s a w _ hr hl (good_then hg) (post_then (f := xc P call L ay) (fun g' s' a' w' hm hl' hr' => ?_) hQ))
      exact xc_sound hcall L hD y ay hy g0 g' s' a' w' Q hr' hl' (good_next hg hm) (fun e a2 w2 hp => hQ e a2 w2 (by
        obtain ⟨g2, e2, s2, hm2, r⟩ := hp
        exact ⟨g2, e2, s2, List.mem_flatMap.2 ⟨_, hm, hm2⟩, r⟩))
    · cases hc
  | .cond c t e, ac, hc, g0, g, s, a, w, Q, hr, hl, hg, hQ => by
    simp only [comp] at hc
    split at hc
    · rename_i at' ae hok ht he
      cases hc
      have hv := eval_vr hr.hr hr.ts c
      rw [eval_ok hok] at hv
      simp only [xc] at hg hQ
      cases hev : eval s.ts c with
      | bool b =>
        rw [hev] at hv
        have hb := hv.bool
        cases b with
        | true =>
          simp only [hev] at hg hQ
          exact wp_cond hb (xc_sound hcall L hD t at' ht g0 g s a w Q hr hl hg hQ)
        | false =>
          simp only [hev] at hg hQ
          exact wp_cond hb (xc_sound hcall L hD e ae he g0 g s a w Q hr hl hg hQ)
      | _ => simp only [hev] at hg; exact absurd rfl (hg .bad (by simp))
    · cases hc
  | .block id b, ac, hc, g0, g, s, a, w, Q, hr, hl, hg, hQ => by
    simp only [comp] at hc
    obtain ⟨ab, hb, rfl⟩ := Option.map_eq_some_iff.1 hc
    simp only [xc] at hg hQ
    refine wp_block (xc_sound hcall L hD b ab hb g0 g s a w _ hr hl (fun o hm hbad => hg .bad (List.mem_map.2 ⟨o, hm, by rw [hbad]⟩) rfl) ?_)
    rintro e a' w' ⟨g', e', s', hm, hl', he, hr'⟩
    cases e with
    | normal =>
      obtain rfl := he.normal
      exact hQ _ _ _ ⟨g', .normal, s', List.mem_map.2 ⟨_, hm, rfl⟩, hl', trivial, hr'⟩
    | exit j =>
      cases e' with
      | exit i =>
        have : i = j := he
        subst this
        simp only [Exit.inBlock]
        split
        · rename_i hj
          exact hQ _ _ _ ⟨g', .normal, s', List.mem_map.2 ⟨_, hm, by simp [hj]⟩, hl', trivial, hr'⟩
        · rename_i hj
          exact hQ _ _ _ ⟨g', .exit i, s', List.mem_map.2 ⟨_, hm, by simp [hj]⟩, hl', rfl, hr'⟩
      | _ => simp [ExR] at he
    | goto j => cases e' <;> simp [ExR] at he
    | ret =>
      cases e' with
      | ret => exact hQ _ _ _ ⟨g', .ret, s', List.mem_map.2 ⟨_, hm, rfl⟩, hl', trivial, hr'⟩
      | _ => simp [ExR] at he
    | panic ch =>
      cases e' with
      | panic ch' => exact hQ _ _ _ ⟨g', .panic ch', s', List.mem_map.2 ⟨_, hm, rfl⟩, hl', he, hr'⟩
      | _ => simp [ExR] at he
    | outgrown => cases e' <;> simp [ExR] at he
  | .loop b, ac, hc, g0, g, s, a, w, Q, hr, hl, hg, hQ => by
    simp only [comp] at hc
    obtain ⟨ab, hb, rfl⟩ := Option.map_eq_some_iff.1 hc
    simp only [xc] at hg hQ
    -- the loop's rounds
    have key : ∀ (n : Nat) (g : Gh) (s : St) (a : Act) (w : World), Rel B w0 g s a w → Le g0 g → Good (loopGo (xc P call L ab) n s) → (∀ e a w, Post B w0 g0 (loopGo (xc P call L ab) n s) e a w → Q e a w) →
        ∀ (f : Frame) (k : List Item) (cs : List Frame), ∃ e a' w', Q e a' w' ∧ Arrives P (lone (f.at a (.code b :: .inLoop b :: k)) cs w) f k cs e a' w' := by
      intro n
      induction n with
      | zero => intro g s a w _ _ hg; exact absurd rfl (hg .bad (by simp [loopGo]))
      | succ n ih =>
        intro g s a w hr hl hg hQ f k cs
        rw [loopGo_succ] at hg hQ
        have hbody := xc_sound hcall L hD b ab hb g0 g s a w
          (Exit.then (fun a' w' => ∀ (f : Frame) (k : List Item) (cs : List Frame), ∃ e a2 w2, Q e a2 w2 ∧ Arrives P (lone (f.at a' (.code b :: .inLoop b :: k)) cs w') f k cs e a2 w2) Q) hr hl (good_then hg)
          (post_then (f := loopGo (xc P call L ab) n) (fun g' s' a' w' hm hl' hr' => ih g' s' a' w' hr' hl' (good_next hg hm) (fun e a2 w2 hp => hQ e a2 w2 (by
            obtain ⟨g2, e2, s2, hm2, r⟩ := hp
            exact ⟨g2, e2, s2, List.mem_flatMap.2 ⟨_, hm, hm2⟩, r⟩))) hQ)
        obtain ⟨e, a1, w1, hq, harr⟩ := hbody f (.inLoop b :: k) cs
        cases e with
        | normal =>
          obtain ⟨e2, a2, w2, hq2, harr2⟩ := hq f k cs
          exact ⟨e2, a2, w2, hq2, .of_steps (Steps.trans harr (.one step_inLoop)) harr2⟩
        | exit id => exact ⟨_, a1, w1, hq, .pass (x := .inLoop b) rfl (fun _ _ => .inl (by simp)) harr⟩
        | goto l => exact ⟨_, a1, w1, hq, .pass (x := .inLoop b) rfl (fun _ _ => .inl (by simp)) harr⟩
        | ret => exact ⟨_, a1, w1, hq, .pass (x := .inLoop b) rfl (fun _ _ => .inl (by simp)) harr⟩
        | panic ch => exact ⟨_, a1, w1, hq, .pass (x := .inLoop b) rfl (fun _ _ => .inl (by simp)) harr⟩
        | outgrown => exact ⟨_, a1, w1, hq, .pass (x := .inLoop b) rfl (fun _ _ => .inl (by simp)) harr⟩
    intro f k cs
    obtain ⟨e, a', w', hq, harr⟩ := key L g s a w hr hl hg hQ f k cs
    exact ⟨e, a', w', hq, .of_steps (.one step_loop) harr⟩
  | .rangeFunc f ps as b, ac, hc, g0, g, s, a, w, Q, hr, hl, hg, hQ => by
    simp only [comp] at hc
    split at hc
    · cases hc; exact absurd rfl (hg .bad (by simp [xc]))
    · cases hc
  | .scope _, ac, hc, _, _, _, _, _, _, _, _, _, _ => by simp [comp] at hc
  | .label _, ac, hc, _, _, _, _, _, _, _, _, _, _ => by simp [comp] at hc
  | .goto _, ac, hc, _, _, _, _, _, _, _, _, _, _ => by simp [comp] at hc
  | .refuse _, ac, hc, _, _, _, _, _, _, _, _, _, _ => by simp [comp] at hc

end
end Go.Vm
