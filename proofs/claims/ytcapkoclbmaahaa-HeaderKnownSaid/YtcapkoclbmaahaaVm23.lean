/- A small machine over an abstract heap: functions and calls. -/
import Derived.Test.YtcapkoclbmaahaaVm22
set_option linter.unusedSimpArgs false
namespace Go.Vm
open Go.RowKit

section
variable {P : Program} {B : Nat} {w0 : World}

def thenS (f : StS → List OutS) : OutS → List OutS
  | .mk .normal s => f s
  | o => [o]

theorem xcS_seq {call : Caller} {x y : ACode} {s : StS} : xcS P call (.seq x y) s = (xcS P call x s).flatMap (thenS (xcS P call y)) := by
  simp only [xcS]
  congr 1

theorem xcS_sound {call : Caller} (hcall : CallOK P call) {c₀ : Frame} {cs : List Frame} : ∀ (c : Code) (ac : ACode), comp P c = some ac →
    ∀ (g0 g : Gh) (s : StS) (u' : FrameMode) (a : Act) (w : World) (Q : Exit → Act → List Frame → World → Prop), Rel B w0 g s.s a w → MoR g s.up u' → Le g0 g → GoodS (xcS P call ac s) →
      (∀ e a cs' w, PostS B w0 g0 c₀ cs (xcS P call ac s) e a cs' w → Q e a cs' w) → c.wpS P Q a ({ c₀ with mode := u' } :: cs) w
  | .skip, ac, hc, g0, g, s, u', a, w, Q, hr, hu, hl, _, hQ => by
    simp only [comp, Option.some.injEq] at hc; subst hc
    exact wpS_of_wp (wp_skip (hQ _ _ _ _ ⟨g, .normal, s, u', by simp [xcS], hl, trivial, hr, hu, rfl⟩))
  | .ret, ac, hc, g0, g, s, u', a, w, Q, hr, hu, hl, _, hQ => by
    simp only [comp, Option.some.injEq] at hc; subst hc
    exact wpS_of_wp (wp_ret (hQ _ _ _ _ ⟨g, .ret, s, u', by simp [xcS], hl, trivial, hr, hu, rfl⟩))
  | .region id ops false, ac, hc, g0, g, s, u', a, w, Q, hr, hu, hl, hg, hQ => by
    simp only [comp] at hc
    obtain ⟨aos, haos, rfl⟩ := Option.map_eq_some_iff.1 hc
    exact wpS_region (opsS_sound hcall _ aos haos g s u' a w hr hu hl hg hQ)
  | .seq x y, ac, hc, g0, g, s, u', a, w, Q, hr, hu, hl, hg, hQ => by
    simp only [comp] at hc
    split at hc
    · rename_i ax ay hx hy
      cases hc
      rw [xcS_seq] at hg hQ
      have hgx : GoodS (xcS P call ax s) := fun o hm hb => by
        subst hb
        exact hg .bad (List.mem_flatMap.2 ⟨.bad, hm, by simp [thenS]⟩) rfl
      refine wpS_seq (xcS_sound hcall x ax hx g0 g s u' a w _ hr hu hl hgx ?_)
      rintro e a1 cs1 w1 ⟨g1, e1, s1, u1, hm, hl1, he, hr1, hu1, rfl⟩
      have out : (OutS.mk e1 s1 ∈ (xcS P call ax s).flatMap (thenS (xcS P call ay))) → Q e a1 ({ c₀ with mode := u1 } :: cs) w1 := fun h => hQ _ _ _ _ ⟨g1, e1, s1, u1, h, hl1, he, hr1, hu1, rfl⟩
      cases e with
      | normal =>
        obtain rfl := he.normal
        exact xcS_sound hcall y ay hy g0 g1 s1 u1 a1 w1 Q hr1 hu1 hl1 (fun o ho => hg o (List.mem_flatMap.2 ⟨_, hm, ho⟩)) (fun e a cs' w hp => hQ e a cs' w (by
          obtain ⟨g2, e2, s2, u2, hm2, r⟩ := hp
          exact ⟨g2, e2, s2, u2, List.mem_flatMap.2 ⟨_, hm, hm2⟩, r⟩))
      | exit i => exact out (List.mem_flatMap.2 ⟨_, hm, by cases e1 <;> simp_all [ExR, thenS]⟩)
      | goto i => cases e1 <;> simp [ExR] at he
      | ret => exact out (List.mem_flatMap.2 ⟨_, hm, by cases e1 <;> simp_all [ExR, thenS]⟩)
      | panic c => exact out (List.mem_flatMap.2 ⟨_, hm, by cases e1 <;> simp_all [ExR, thenS]⟩)
      | outgrown => cases e1 <;> simp [ExR] at he
    · cases hc
  | .cond c t e, ac, hc, g0, g, s, u', a, w, Q, hr, hu, hl, hg, hQ => by
    simp only [comp] at hc
    split at hc
    · rename_i at' ae hok ht he
      cases hc
      have hv := eval_vr hr.hr hr.ts c
      rw [eval_ok hok] at hv
      simp only [xcS] at hg hQ
      cases hev : eval s.s.ts c with
      | bool b =>
        rw [hev] at hv
        have hb := hv.bool
        cases b with
        | true =>
          simp only [hev] at hg hQ
          exact wpS_cond hb (xcS_sound hcall t at' ht g0 g s u' a w Q hr hu hl hg hQ)
        | false =>
          simp only [hev] at hg hQ
          exact wpS_cond hb (xcS_sound hcall e ae he g0 g s u' a w Q hr hu hl hg hQ)
      | _ => simp only [hev] at hg; exact absurd rfl (hg .bad (by simp))
    · cases hc
  | .region id ops true, ac, hc, _, _, _, _, _, _, _, _, _, _, hg, _ => by
    simp only [comp] at hc
    obtain ⟨aos, haos, rfl⟩ := Option.map_eq_some_iff.1 hc
    exact absurd rfl (hg .bad (by simp [xcS]))
  | .block id b, ac, hc, _, _, _, _, _, _, _, _, _, _, hg, _ => by
    simp only [comp] at hc
    obtain ⟨ab, hb, rfl⟩ := Option.map_eq_some_iff.1 hc
    exact absurd rfl (hg .bad (by simp [xcS]))
  | .loop b, ac, hc, _, _, _, _, _, _, _, _, _, _, hg, _ => by
    simp only [comp] at hc
    obtain ⟨ab, hb, rfl⟩ := Option.map_eq_some_iff.1 hc
    exact absurd rfl (hg .bad (by simp [xcS]))
  | .exit id, ac, hc, _, _, _, _, _, _, _, _, _, _, hg, _ => by
    simp only [comp, Option.some.injEq] at hc; subst hc
    exact absurd rfl (hg .bad (by simp [xcS]))
  | .rangeFunc f ps as b, ac, hc, _, _, _, _, _, _, _, _, _, _, hg, _ => by
    simp only [comp] at hc
    split at hc
    · cases hc; exact absurd rfl (hg .bad (by simp [xcS]))
    · cases hc
  | .scope _, ac, hc, _, _, _, _, _, _, _, _, _, _, _, _ => by simp [comp] at hc
  | .label _, ac, hc, _, _, _, _, _, _, _, _, _, _, _, _ => by simp [comp] at hc
  | .goto _, ac, hc, _, _, _, _, _, _, _, _, _, _, _, _ => by simp [comp] at hc
  | .refuse _, ac, hc, _, _, _, _, _, _, _, _, _, _, _, _ => by simp [comp] at hc

/-- a table of functions, as the program has them -/
def TableOK (P : Program) (T : Table) : Prop := ∀ f af, T f = some af → ∃ fn, P.funcs[f]? = some fn ∧ compFunc P fn = some af

theorem compFunc_parts {fn : Func} {af : AFunc} (h : compFunc P fn = some af) : ∃ c, fn.body = some c ∧ (fn.name == "runtime.NumGoroutine") = false ∧ comp P c = some af.body ∧ compResults P fn.results.toList = some af.results ∧ af.ntmps = fn.ntmps := by
  unfold compFunc at h
  split at h
  · cases h
  · rename_i c hb
    split at h
    · cases h
    · rename_i hn
      split at h
      · rename_i b r hcb hcr
        cases h
        exact ⟨c, hb, by simpa using hn, hcb, hcr, rfl⟩
      · cases h

theorem pad_vr {g : Gh} {args args' : List Value} (hv : VRL g args args') (n : Nat) : VRL g (pad args n) ((⟨args'⟩ : Array Value) ++ Array.replicate (n - (⟨args'⟩ : Array Value).size) undef).toList := by
  have := hv.length
  simp only [pad, Array.toList_append, Array.toList_replicate, List.size_toArray, this]
  exact hv.append (VRL.of_ground (by induction (n - args.length) with | zero => rfl | succ k ih => simp [List.replicate_succ, groundL, ih, ground_undef]))

/-- a deferred call's end -/
def DPost (B : Nat) (w0 : World) (g : Gh) (outs : List DO) : Ending → FrameMode → World → Prop
  | .returned _, u', w' => ∃ g' u h', DO.ret u h' ∈ outs ∧ Le g g' ∧ HR g' h' B w0 w' ∧ MoR g' u u'
  | .panicked c', u', w' => ∃ g' c u h', DO.pan c u h' ∈ outs ∧ Le g g' ∧ HR g' h' B w0 w' ∧ MoR g' u u' ∧ ChR g' c c'
  | .outgrown, _, _ => False

def doneS (af : AFunc) : OutS → DO
  | .mk .normal s | .mk .ret s => match s.s.ds, resOf s.s.h s.s.ts af.results with
    | [], some _ => .ret s.up s.s.h
    | _, _ => .bad
  | .mk (.panic chain) s => match s.s.ds with
    | [] => .pan chain s.up s.s.h
    | _ => .bad
  | _ => .bad

theorem DRL.nil_inv {g : Gh} {l : List Deferred} (h : DRL g [] l) : l = [] := by cases h; rfl

theorem xdefer_eq {T : Table} {call : Caller} {f : FuncId} {af : AFunc} {args : List Value} {u : FrameMode} {h : Heap} (hT : T f = some af) :
    xdefer P T call f args u h = (xcS P call af.body { s := { ts := pad args af.ntmps, ds := [], h }, up := u }).map (doneS af) := by
  unfold xdefer
  rw [hT]
  simp only
  congr 1

theorem xdefer_sound {T : Table} (hT : TableOK P T) {call : Caller} (hcall : CallOK P call) {g : Gh} {h : Heap} {w : World} {f : FuncId} {args args' : List Value} {u u' : FrameMode} (hr : HR g h B w0 w) (hv : VRL g args args') (hu : MoR g u u')
    (hg : ∀ o ∈ xdefer P T call f args u h, o ≠ .bad) : FnOK P f ∧ CallsD P f ⟨args'⟩ u' w (DPost B w0 g (xdefer P T call f args u h)) := by
  cases hTf : T f with
  | none => exact absurd rfl (hg .bad (by simp [xdefer, hTf]))
  | some af =>
    obtain ⟨fn, hfn, hcf⟩ := hT f af hTf
    obtain ⟨c, hb, hn, hcb, hcr, hnt⟩ := compFunc_parts hcf
    rw [xdefer_eq hTf] at hg ⊢
    refine ⟨⟨fn, hfn, by simp [hb], hn⟩, callsD_of_wpS hfn hb fun c₀ cs hc₀ => ?_⟩
    have hgS : GoodS (xcS P call af.body { s := { ts := pad args af.ntmps, ds := [], h }, up := u }) := fun o hm hbad => by
      subst hbad
      exact hg .bad (List.mem_map.2 ⟨.bad, hm, rfl⟩) rfl
    have hc1 : ({ c₀ with mode := u' } : Frame) = c₀ := by subst hc₀; rfl
    have := xcS_sound (B := B) (w0 := w0) (c₀ := c₀) (cs := cs) hcall c af.body hcb g g { s := { ts := pad args af.ntmps, ds := [], h }, up := u } u'
      { tmps := (⟨args'⟩ : Array Value) ++ Array.replicate (fn.ntmps - (⟨args'⟩ : Array Value).size) undef, defers := [] } w (bodyPostS P fn c₀ cs (DPost B w0 g ((xcS P call af.body { s := { ts := pad args af.ntmps, ds := [], h }, up := u }).map (doneS af))))
      ⟨hr, by rw [hnt]; exact pad_vr hv _, .nil⟩ hu (Le.refl _) hgS ?_
    · rw [hc1] at this; exact this
    · rintro e a cs' w1 ⟨g1, e1, s1, u1, hm, hl1, he, hr1, hu1, rfl⟩
      have hne : doneS af (.mk e1 s1) ≠ .bad := hg _ (List.mem_map.2 ⟨_, hm, rfl⟩)
      have hmem : doneS af (.mk e1 s1) ∈ (xcS P call af.body { s := { ts := pad args af.ntmps, ds := [], h }, up := u }).map (doneS af) := List.mem_map.2 ⟨_, hm, rfl⟩
      have fin : (e1 = .normal ∨ e1 = .ret) → a.defers = [] ∧ ∃ u', ({ c₀ with mode := u1 } : Frame) :: cs = { c₀ with mode := u' } :: cs ∧ ∃ v, (results fn a.tmps).run P w1 = .ok v w1 ∧ DPost B w0 g ((xcS P call af.body { s := { ts := pad args af.ntmps, ds := [], h }, up := u }).map (doneS af)) (.returned v) u' w1 := by
        intro hee
        have hds : s1.s.ds = [] := by
          cases hd : s1.s.ds with
          | nil => rfl
          | cons x y => exfalso; rcases hee with rfl | rfl <;> simp [doneS, hd] at hne
        have hd := hr1.ds
        rw [hds] at hd
        refine ⟨hd.nil_inv, u1, rfl, ?_⟩
        cases hres : resOf s1.s.h s1.s.ts af.results with
        | none => exfalso; rcases hee with rfl | rfl <;> simp [doneS, hres] at hne
        | some v =>
          obtain ⟨v', hrun, hvr⟩ := results_sound (P := P) hr1.hr hr1.ts hcr hres
          refine ⟨v', hrun, g1, s1.up, s1.s.h, ?_, hl1, hr1.hr, hu1⟩
          rcases hee with rfl | rfl <;> simpa [doneS, hres, hds] using hmem
      cases e with
      | normal => exact fin (.inl he.normal)
      | ret => exact fin (.inr (by cases e1 <;> simp_all [ExR]))
      | panic c' =>
        cases e1 with
        | panic ch =>
          have hds : s1.s.ds = [] := by
            cases hd : s1.s.ds with
            | nil => rfl
            | cons x y => exfalso; simp [doneS, hd] at hne
          have hd := hr1.ds
          rw [hds] at hd
          exact ⟨hd.nil_inv, u1, rfl, g1, ch, s1.up, s1.s.h, by simpa [doneS, hds] using hmem, hl1, hr1.hr, hu1, he⟩
        | _ => simp [ExR] at he
      | exit i => cases e1 <;> simp [ExR] at he; exact absurd rfl hne
      | goto i => cases e1 <;> simp [ExR] at he
      | outgrown => cases e1 <;> simp [ExR] at he

/-! ### Leaving a function -/

theorem leave_sound {T : Table} (hT : TableOK P T) {call : Caller} (hcall : CallOK P call) {fn : Func} {ars : List (Nat × Option (Option Nat))} (hcr : compResults P fn.results.toList = some ars) {ts : List Value} {tmps : Array Value} {g0 : Gh} :
    ∀ (ds ds' : List Deferred) (g : Gh) (u u' : FrameMode) (h : Heap) (w : World), DRL g ds ds' → VRL g ts tmps.toList → HR g h B w0 w → MoR g u u' → Le g0 g → (∀ o ∈ leave P T call ars ts ds u h, o ≠ .bad) → ∀ {R : Ending → World → Prop},
      (∀ e w', CPost B w0 g0 (leave P T call ars ts ds u h) e w' → R e w') → Leaves P fn tmps R ds' u' w
  | [], ds', g, u, u', h, w, hd, hts, hr, hu, hl, hg, R, hR => by
    obtain rfl := hd.nil_inv
    cases u with
    | run => exact absurd rfl (hg .bad (by simp [leave]))
    | returning =>
      cases u' <;> simp [MoR] at hu
      cases hres : resOf h ts ars with
      | none => exact absurd rfl (hg .bad (by simp [leave, hres]))
      | some v =>
        obtain ⟨v', hrun, hvr⟩ := results_sound (P := P) hr hts hcr hres
        exact ⟨v', hrun, hR _ _ ⟨g, v, h, by simp [leave, hres], hl, hr, hvr⟩⟩
    | panicking c =>
      cases u' <;> simp [MoR] at hu
      exact hR _ _ ⟨g, c, h, by simp [leave], hl, hr, hu⟩
  | d :: ds, ds', g, u, u', h, w, hd, hts, hr, hu, hl, hg, R, hR => by
    cases hd with
    | cons hd0 hds =>
      rename_i d' ds'
      obtain ⟨f, c, c', h1, h2, h3, h4⟩ := hd0
      have hnu : u ≠ .run := by
        intro he
        subst he
        exact hg .bad (by simp [leave]) rfl
      have hne : u' ≠ .run := by
        intro he
        subst he
        cases u <;> simp [MoR] at hu
        exact hnu rfl
      have hexp : leave P T call ars ts (d :: ds) u h = (xdefer P T call f (d.args.toList ++ c) u h).flatMap fun
        | .ret u' h' => leave P T call ars ts ds (settle u') h'
        | .pan chain u' h' => leave P T call ars ts ds (raised u' chain) h'
        | .bad => [.bad] := by
        clear hg hR h4
        obtain ⟨tg, da⟩ := d
        simp only at h1
        subst h1
        cases u with
        | run => exact absurd rfl hnu
        | returning => rfl
        | panicking ch => rfl
      rw [hexp] at hg hR
      have hgd : ∀ o ∈ xdefer P T call f (d.args.toList ++ c) u h, o ≠ .bad := fun o hm hb => by
        subst hb
        exact hg .bad (List.mem_flatMap.2 ⟨.bad, hm, by simp⟩) rfl
      obtain ⟨hfn, hcd⟩ := xdefer_sound (B := B) (w0 := w0) hT hcall hr (h4.append h3) hu hgd
      obtain ⟨tg, dargs⟩ := d'
      simp only at h2 h4
      subst h2
      refine leaves_cons (f := f) (args := ⟨dargs.toList ++ c'⟩) hne ?_ (hcd.mono fun e u2 w' hp => ?_)
      · simp only [invoke]
        rw [callFunc_run hfn]
        congr 2
        apply Array.ext'; simp
      · cases e with
        | returned v =>
          obtain ⟨g', u3, h', hm, hle, hr', hu3⟩ := hp
          exact leave_sound hT hcall hcr ds ds' g' (settle u3) (settle u2) h' w' (hds.mono hle) (hts.mono hle) hr' (settle_mor hu3) (hl.trans hle) (fun o ho => hg o (List.mem_flatMap.2 ⟨_, hm, ho⟩))
            (fun e w' hp => hR e w' (by
              cases e with
              | returned v => obtain ⟨g2, a, b, hm2, r⟩ := hp; exact ⟨g2, a, b, List.mem_flatMap.2 ⟨_, hm, hm2⟩, r⟩
              | panicked v => obtain ⟨g2, a, b, hm2, r⟩ := hp; exact ⟨g2, a, b, List.mem_flatMap.2 ⟨_, hm, hm2⟩, r⟩
              | outgrown => exact hp))
        | panicked ch =>
          obtain ⟨g', ch', u3, h', hm, hle, hr', hu3, hch⟩ := hp
          exact leave_sound hT hcall hcr ds ds' g' (raised u3 ch') (raised u2 ch) h' w' (hds.mono hle) (hts.mono hle) hr' (raised_mor hu3 hch) (hl.trans hle) (fun o ho => hg o (List.mem_flatMap.2 ⟨_, hm, ho⟩))
            (fun e w' hp => hR e w' (by
              cases e with
              | returned v => obtain ⟨g2, a, b, hm2, r⟩ := hp; exact ⟨g2, a, b, List.mem_flatMap.2 ⟨_, hm, hm2⟩, r⟩
              | panicked v => obtain ⟨g2, a, b, hm2, r⟩ := hp; exact ⟨g2, a, b, List.mem_flatMap.2 ⟨_, hm, hm2⟩, r⟩
              | outgrown => exact hp))
        | outgrown => exact hp.elim

/-! ### Functions -/

def outCO (P : Program) (T : Table) (call : Caller) (af : AFunc) : Out → List CO
  | .mk .normal s | .mk .ret s => leave P T call af.results s.ts s.ds .returning s.h
  | .mk (.panic chain) s => leave P T call af.results s.ts s.ds (.panicking chain) s.h
  | _ => [.bad]

theorem xfun_eq {T : Table} {call : Caller} {L : Nat} {af : AFunc} {args : List Value} {h : Heap} : xfun P T call L af args h = (xc P call L af.body { ts := pad args af.ntmps, ds := [], h }).flatMap (outCO P T call af) := by
  unfold xfun
  congr 1

theorem xfun_sound {T : Table} (hT : TableOK P T) {call : Caller} (hcall : CallOK P call) {L : Nat} (hD : DrawsOK P call B w0) {f : FuncId} {af : AFunc} (hf : T f = some af) {g : Gh} {h : Heap} {w : World} {args args' : List Value}
    (hr : HR g h B w0 w) (hv : VRL g args args') (hg : ∀ o ∈ xfun P T call L af args h, o ≠ .bad) : FnOK P f ∧ Calls P f ⟨args'⟩ w (CPost B w0 g (xfun P T call L af args h)) := by
  obtain ⟨fn, hfn, hcf⟩ := hT f af hf
  obtain ⟨c, hb, hn, hcb, hcr, hnt⟩ := compFunc_parts hcf
  refine ⟨⟨fn, hfn, by simp [hb], hn⟩, calls_of_wp_defers hfn hb ?_⟩
  rw [xfun_eq] at hg ⊢
  have hgc : Good (xc P call L af.body { ts := pad args af.ntmps, ds := [], h }) := fun o hm hbad => by
    subst hbad
    exact hg .bad (List.mem_flatMap.2 ⟨.bad, hm, by simp [outCO]⟩) rfl
  refine xc_sound hcall L hD c af.body hcb g g { ts := pad args af.ntmps, ds := [], h } _ w _ ⟨hr, by rw [hnt]; exact pad_vr hv _, .nil⟩ (Le.refl _) hgc ?_
  rintro e a w1 ⟨g1, e1, s1, hm, hl1, he, hr1⟩
  have hgo : ∀ o ∈ outCO P T call af (.mk e1 s1), o ≠ .bad := fun o ho => hg o (List.mem_flatMap.2 ⟨_, hm, ho⟩)
  have lift : ∀ (e : Ending) (w' : World), CPost B w0 g (outCO P T call af (.mk e1 s1)) e w' → CPost B w0 g ((xc P call L af.body { ts := pad args af.ntmps, ds := [], h }).flatMap (outCO P T call af)) e w' := by
    intro e w' hp
    cases e with
    | returned v => obtain ⟨g2, a, b, hm2, r⟩ := hp; exact ⟨g2, a, b, List.mem_flatMap.2 ⟨_, hm, hm2⟩, r⟩
    | panicked v => obtain ⟨g2, a, b, hm2, r⟩ := hp; exact ⟨g2, a, b, List.mem_flatMap.2 ⟨_, hm, hm2⟩, r⟩
    | outgrown => exact hp
  cases e with
  | normal =>
    obtain rfl := he.normal
    exact leave_sound hT hcall hcr s1.ds a.defers g1 .returning .returning s1.h w1 hr1.ds hr1.ts hr1.hr trivial hl1 hgo lift
  | ret =>
    cases e1 with
    | ret => exact leave_sound hT hcall hcr s1.ds a.defers g1 .returning .returning s1.h w1 hr1.ds hr1.ts hr1.hr trivial hl1 hgo lift
    | _ => simp [ExR] at he
  | panic c' =>
    cases e1 with
    | panic ch => exact leave_sound hT hcall hcr s1.ds a.defers g1 (.panicking ch) (.panicking c') s1.h w1 hr1.ds hr1.ts hr1.hr he hl1 hgo lift
    | _ => simp [ExR] at he
  | exit i => cases e1 <;> simp [ExR] at he; exact absurd rfl (hgo .bad (by simp [outCO]))
  | goto i => cases e1 <;> simp [ExR] at he
  | outgrown => cases e1 <;> simp [ExR] at he

/-- what the machine answers to a call, the model does -/
theorem xcall_sound {T : Table} (hT : TableOK P T) (L : Nat) (hD : ∀ (call : Caller), CallOK P call → ∀ B w0, DrawsOK P call B w0) : ∀ n, CallOK P (xcall P T L n)
  | 0 => ⟨fun _ _ _ => rfl, fun f args args' g h B w0 w _ _ hg => absurd rfl (hg .bad (by simp [xcall]))⟩
  | n + 1 => by
    have ih := xcall_sound hT L hD n
    refine ⟨fun _ _ _ => rfl, fun f args args' g h B w0 w hr hv hg => ?_⟩
    cases hf : T f with
    | none => exact absurd rfl (hg .bad (by simp [xcall, hf]))
    | some af =>
      have he : xcall P T L (n + 1) (.fn f) args h = xfun P T (xcall P T L n) L af args h := by simp [xcall, hf]
      rw [he] at hg ⊢
      exact xfun_sound hT ih (hD _ ih B w0) hf hr hv hg

end
end Go.Vm
