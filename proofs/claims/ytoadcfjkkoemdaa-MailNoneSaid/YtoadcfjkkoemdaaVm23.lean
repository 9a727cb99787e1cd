/- A small machine over an abstract heap: functions and calls. -/
import Derived.Test.YtoadcfjkkoemdaaVm22
import Derived.RecoverIn
set_option linter.unusedSimpArgs false
namespace Go.Vm
open Go.RowKit

section
variable {P : Program} {B : Nat} {w0 : World}

def thenS (f : StS → List OutS) : OutS → List OutS
  | .mk .normal s => f s
  | o => [o]

theorem xcS_seq {call : Caller} {x y : ACode} {s : StS} : xcS P call (.seq x y) s = (xcS P call x s).flatMap (thenS (xcS P call y)) := by
  simp only [xcS]
  congr 1

theorem xcS_sound {call : Caller} (hcall : CallOK P call) (hD : DrawsOK P call B w0) (hyb : ∀ l args h, call (.yield l) args h = [.bad]) {c₀ : Frame} {cs : List Frame} : ∀ (c : Code) (ac : ACode), comp P c = some ac →
    ∀ (g0 g : Gh) (s : StS) (u' : FrameMode) (a : Act) (w : World) (Q : Exit → Act → List Frame → World → Prop), Rel none B w0 g s.s a w → MoR g s.up u' → Le g0 g → GoodS (xcS P call ac s) →
      (∀ e a cs' w, PostS B w0 g0 c₀ cs (xcS P call ac s) e a cs' w → Q e a cs' w) → c.wpS P Q a ({ c₀ with mode := u' } :: cs) w
  | .skip, ac, hc, g0, g, s, u', a, w, Q, hr, hu, hl, _, hQ => by
    simp only [comp, Option.some.injEq] at hc; subst hc
    exact wpS_of_wp (wp_skip (hQ _ _ _ _ ⟨g, .normal, s, u', by simp [xcS], hl, trivial, hr, hu, rfl⟩))
  | .ret, ac, hc, g0, g, s, u', a, w, Q, hr, hu, hl, _, hQ => by
    simp only [comp, Option.some.injEq] at hc; subst hc
    exact wpS_of_wp (wp_ret (hQ _ _ _ _ ⟨g, .ret, s, u', by simp [xcS], hl, trivial, hr, hu, rfl⟩))
  | .region id ops false, ac, hc, g0, g, s, u', a, w, Q, hr, hu, hl, hg, hQ => by
    simp only [comp] at hc
    obtain ⟨aos, haos, rfl⟩ := Option.map_eq_some_iff.1 hc
    exact wpS_region (opsS_sound hcall hyb _ aos haos g s u' a w hr hu hl hg hQ)
  | .seq x y, ac, hc, g0, g, s, u', a, w, Q, hr, hu, hl, hg, hQ => by
    simp only [comp] at hc
    split at hc
    · rename_i ax ay hx hy
      cases hc
      rw [xcS_seq] at hg hQ
      have hgx : GoodS (xcS P call ax s) := fun o hm hb => by
        subst hb
        exact hg .bad (List.mem_flatMap.2 ⟨.bad, hm, by simp [thenS]⟩) rfl
      refine wpS_seq (xcS_sound hcall hD hyb x ax hx g0 g s u' a w _ hr hu hl hgx ?_)
      rintro e a1 cs1 w1 ⟨g1, e1, s1, u1, hm, hl1, he, hr1, hu1, rfl⟩
      have out : (OutS.mk e1 s1 ∈ (xcS P call ax s).flatMap (thenS (xcS P call ay))) → Q e a1 ({ c₀ with mode := u1 } :: cs) w1 := fun h => hQ _ _ _ _ ⟨g1, e1, s1, u1, h, hl1, he, hr1, hu1, rfl⟩
      cases e with
      | normal =>
        obtain rfl := he.normal
        exact xcS_sound hcall hD hyb y ay hy g0 g1 s1 u1 a1 w1 Q hr1 hu1 hl1 (fun o ho => hg o (List.mem_flatMap.2 ⟨_, hm, ho⟩)) (fun e a cs' w hp => hQ e a cs' w (by
          obtain ⟨g2, e2, s2, u2, hm2, r⟩ := hp
          exact ⟨g2, e2, s2, u2, List.mem_flatMap.2 ⟨_, hm, hm2⟩, r⟩))
      | exit i => exact out (List.mem_flatMap.2 ⟨_, hm, by cases e1 <;> simp_all [ExR, thenS]⟩)
      | goto i => cases e1 <;> simp [ExR] at he
      | ret => exact out (List.mem_flatMap.2 ⟨_, hm, by cases e1 <;> simp_all [ExR, thenS]⟩)
      | panic c => exact out (List.mem_flatMap.2 ⟨_, hm, by cases e1 <;> simp_all [ExR, thenS]⟩)
      | outgrown => cases e1 <;> simp [ExR] at he
    · cases hc
  | .cond c t e, ac, hc, g0, g, s, u', a, w, Q, hr, hu, hl, hg, hQ => by
    simp only [comp] at hc
    split at hc
    · rename_i at' ae hok ht he
      cases hc
      have hv := eval_vr hr.hr hr.ts c
      rw [eval_ok hok] at hv
      simp only [xcS] at hg hQ
      cases hev : eval s.s.ts c with
      | bool b =>
        rw [hev] at hv
        have hb := hv.bool
        cases b with
        | true =>
          simp only [hev] at hg hQ
          exact wpS_cond hb (xcS_sound hcall hD hyb t at' ht g0 g s u' a w Q hr hu hl hg hQ)
        | false =>
          simp only [hev] at hg hQ
          exact wpS_cond hb (xcS_sound hcall hD hyb e ae he g0 g s u' a w Q hr hu hl hg hQ)
      | _ => simp only [hev] at hg; exact absurd rfl (hg .bad (by simp))
    · cases hc
  | .region id ops true, ac, hc, g0, g, s, u', a, w, Q, hr, hu, hl, hg, hQ => by
    simp only [comp] at hc
    obtain ⟨aos, haos, rfl⟩ := Option.map_eq_some_iff.1 hc
    simp only [xcS] at hg hQ
    refine wpS_of_wp ((wpIn_wide (n := 0)).1 ?_)
    exact hD none 0 id ops aos g g s.s a w _ haos hr (Le.refl _) (fun o ho hb => by subst hb; exact hg .bad (List.mem_map.2 ⟨_, ho, rfl⟩) rfl)
      (fun e a' w' ⟨g1, e1, s1, hm, hl1, he, hr1⟩ => hQ _ _ _ _ ⟨g1, e1, { s := s1, up := s.up }, u', List.mem_map.2 ⟨_, hm, rfl⟩, hl.trans hl1, he, hr1, hu.mono hl1, rfl⟩)
  | .block id b, ac, hc, _, _, _, _, _, _, _, _, _, _, hg, _ => by
    simp only [comp] at hc
    obtain ⟨ab, hb, rfl⟩ := Option.map_eq_some_iff.1 hc
    exact absurd rfl (hg .bad (by simp [xcS]))
  | .loop b, ac, hc, _, _, _, _, _, _, _, _, _, _, hg, _ => by
    simp only [comp] at hc
    obtain ⟨ab, hb, rfl⟩ := Option.map_eq_some_iff.1 hc
    exact absurd rfl (hg .bad (by simp [xcS]))
  | .exit id, ac, hc, _, _, _, _, _, _, _, _, _, _, hg, _ => by
    simp only [comp, Option.some.injEq] at hc; subst hc
    exact absurd rfl (hg .bad (by simp [xcS]))
  | .rangeFunc f ps as b, ac, hc, _, _, _, _, _, _, _, _, _, _, hg, _ => by
    simp only [comp] at hc
    split at hc
    · cases hc; exact absurd rfl (hg .bad (by simp [xcS]))
    · cases hc
  | .scope b, ac, hc, _, _, _, _, _, _, _, _, _, _, hg, _ => by
    simp only [comp] at hc
    obtain ⟨ab, hb, rfl⟩ := Option.map_eq_some_iff.1 hc
    exact absurd rfl (hg .bad (by simp [xcS]))
  | .label _, ac, hc, g0, g, s, u', a, w, Q, hr, hu, hl, _, hQ => by
    simp only [comp, Option.some.injEq] at hc; subst hc
    exact wpS_of_wp (wp_label (hQ _ _ _ _ ⟨g, .normal, s, u', by simp [xcS], hl, trivial, hr, hu, rfl⟩))
  | .goto _, ac, hc, _, _, _, _, _, _, _, _, _, _, hg, _ => by
    simp only [comp, Option.some.injEq] at hc; subst hc
    exact absurd rfl (hg .bad (by simp [xcS]))
  | .refuse _, ac, hc, _, _, _, _, _, _, _, _, _, _, _, _ => by simp [comp] at hc

/-- a table of functions, as the program has them -/
def TableOK (P : Program) (T : Table) : Prop := ∀ f af, T f = some af → match af.prim with
  | none => ∃ fn, P.funcs[f]? = some fn ∧ compFunc P fn = some af
  | some p => ∀ (args args' : List Value) (g : Gh) (h : Heap) (B : Nat) (w0 w : World), HR g h B w0 w → VRL g args args' → (∀ o ∈ p args h, o ≠ .bad) →
    FnOK P f ∧ Calls P f ⟨args'⟩ w (CPost B w0 g (p args h))

theorem TableOK.plain {T : Table} (hT : TableOK P T) {f : FuncId} {af : AFunc} (h : T f = some af) (hp : af.prim = none) : ∃ fn, P.funcs[f]? = some fn ∧ compFunc P fn = some af := by
  have := hT f af h
  rw [hp] at this
  exact this

theorem compFunc_parts {fn : Func} {af : AFunc} (h : compFunc P fn = some af) : ∃ c, fn.body = some c ∧ (fn.name == "runtime.NumGoroutine") = false ∧ comp P c = some af.body ∧ compResults P fn.results.toList = some af.results ∧ af.ntmps = fn.ntmps := by
  unfold compFunc at h
  split at h
  · cases h
  · rename_i c hb
    split at h
    · cases h
    · rename_i hn
      split at h
      · rename_i b r hcb hcr
        cases h
        exact ⟨c, hb, by simpa using hn, hcb, hcr, rfl⟩
      · cases h

theorem pad_vr {g : Gh} {args args' : List Value} (hv : VRL g args args') (n : Nat) : VRL g (pad args n) ((⟨args'⟩ : Array Value) ++ Array.replicate (n - (⟨args'⟩ : Array Value).size) undef).toList := by
  have := hv.length
  simp only [pad, Array.toList_append, Array.toList_replicate, List.size_toArray, this]
  exact hv.append (VRL.of_ground (by induction (n - args.length) with | zero => rfl | succ k ih => simp [List.replicate_succ, groundL, ih, ground_undef]))

/-- a deferred call's end -/
def DPost (B : Nat) (w0 : World) (g : Gh) (outs : List DO) : Ending → FrameMode → World → Prop
  | .returned _, u', w' => ∃ g' u h', DO.ret u h' ∈ outs ∧ Le g g' ∧ HR g' h' B w0 w' ∧ MoR g' u u'
  | .panicked c', u', w' => ∃ g' c u h', DO.pan c u h' ∈ outs ∧ Le g g' ∧ HR g' h' B w0 w' ∧ MoR g' u u' ∧ ChR g' c c'
  | .outgrown, _, _ => False

def doneS (af : AFunc) : OutS → DO
  | .mk .normal s | .mk .ret s => match s.s.ds, resOf s.s.h s.s.ts af.results with
    | [], some _ => .ret s.up s.s.h
    | _, _ => .bad
  | .mk (.panic chain) s => match s.s.ds with
    | [] => .pan chain s.up s.s.h
    | _ => .bad
  | _ => .bad

theorem DRL.nil_inv {g : Gh} {l : List Deferred} (h : DRL g [] l) : l = [] := by cases h; rfl

theorem noY_ok {call : Caller} (h : CallOK P call) : CallOK P (noY call) :=
  ⟨fun _ _ _ _ _ _ _ _ _ _ _ _ hg => absurd rfl (hg .bad (by simp [noY])), h.2⟩

theorem xdefer_eq {T : Table} {call : Caller} {f : FuncId} {af : AFunc} {args : List Value} {u : FrameMode} {h : Heap} (hT : T f = some af) :
    xdefer P T call f args u h = if af.prim.isSome = true then [.bad] else (xcS P (noY call) af.body { s := { ts := pad args af.ntmps, ds := [], h }, up := u }).map (doneS af) := by
  unfold xdefer
  rw [hT]
  simp only
  split
  · rfl
  · congr 1

theorem wpSIn_of {n : Nat} {c : Code} {Q : Exit → Act → List Frame → World → Prop} {a : Act} {cs : List Frame} {w : World} (h : c.wpS P Q a cs w) (hlen : ∀ e a cs' w, Q e a cs' w → cs'.length = cs.length) : c.wpSIn (FR none) n P Q a cs w := by
  intro b k hk hr _ _
  obtain ⟨e, a', cs', w', q, arr⟩ := h b k hk hr
  refine ⟨e, a', cs', w', hlen _ _ _ _ q, q, ?_⟩
  rw [Frame.atR_of_none hr]
  exact (arrivesIn_iff (fun _ _ => stepsIn_wide) hr).2 arr

theorem xdefer_sound {n : Nat} {T : Table} (hT : TableOK P T) {call : Caller} (hcall : CallOK P call) (hD : DrawsOK P (noY call) B w0) {g : Gh} {h : Heap} {w : World} {f : FuncId} {args args' : List Value} {u u' : FrameMode} (hr : HR g h B w0 w) (hv : VRL g args args') (hu : MoR g u u')
    (hg : ∀ o ∈ xdefer P T call f args u h, o ≠ .bad) : FnOK P f ∧ CallsDIn (FR none) n P f ⟨args'⟩ u' w (DPost B w0 g (xdefer P T call f args u h)) := by
  cases hTf : T f with
  | none => exact absurd rfl (hg .bad (by simp [xdefer, hTf]))
  | some af =>
    rw [xdefer_eq hTf] at hg ⊢
    cases hpr : af.prim with
    | some p => exact absurd rfl (hg .bad (by simp [hpr]))
    | none =>
    rw [hpr, if_neg (by simp)] at hg
    rw [if_neg (by simp)]
    obtain ⟨fn, hfn, hcf⟩ := hT.plain hTf hpr
    obtain ⟨c, hb, hn, hcb, hcr, hnt⟩ := compFunc_parts hcf
    refine ⟨⟨fn, hfn, by simp [hb], hn⟩, callsDIn_of_wpSIn hfn hb trivial fun c₀ cs hc₀ => wpSIn_of ?_ (fun e a cs' w hq => ?_)⟩
    case refine_2 =>
      cases e with
      | normal => obtain ⟨_, u2, rfl, _⟩ := hq; rfl
      | ret => obtain ⟨_, u2, rfl, _⟩ := hq; rfl
      | panic ch => obtain ⟨_, u2, rfl, _⟩ := hq; rfl
      | outgrown => obtain ⟨_, hq⟩ := hq; exact hq.elim
      | _ => exact hq.elim
    have hgS : GoodS (xcS P (noY call) af.body { s := { ts := pad args af.ntmps, ds := [], h }, up := u }) := fun o hm hbad => by
      subst hbad
      exact hg .bad (List.mem_map.2 ⟨.bad, hm, rfl⟩) rfl
    have hc1 : ({ c₀ with mode := u' } : Frame) = c₀ := by subst hc₀; rfl
    have := xcS_sound (B := B) (w0 := w0) (c₀ := c₀) (cs := cs) (noY_ok hcall) hD (fun _ _ _ => rfl) c af.body hcb g g { s := { ts := pad args af.ntmps, ds := [], h }, up := u } u'
      { tmps := (⟨args'⟩ : Array Value) ++ Array.replicate (fn.ntmps - (⟨args'⟩ : Array Value).size) undef, defers := [] } w (bodyPostS P fn c₀ cs (DPost B w0 g ((xcS P (noY call) af.body { s := { ts := pad args af.ntmps, ds := [], h }, up := u }).map (doneS af))))
      ⟨hr, by rw [hnt]; exact pad_vr hv _, .nil, trivial⟩ hu (Le.refl _) hgS ?_
    · rw [hc1] at this; exact this
    · rintro e a cs' w1 ⟨g1, e1, s1, u1, hm, hl1, he, hr1, hu1, rfl⟩
      have hne : doneS af (.mk e1 s1) ≠ .bad := hg _ (List.mem_map.2 ⟨_, hm, rfl⟩)
      have hmem : doneS af (.mk e1 s1) ∈ (xcS P (noY call) af.body { s := { ts := pad args af.ntmps, ds := [], h }, up := u }).map (doneS af) := List.mem_map.2 ⟨_, hm, rfl⟩
      have fin : (e1 = .normal ∨ e1 = .ret) → a.defers = [] ∧ ∃ u', ({ c₀ with mode := u1 } : Frame) :: cs = { c₀ with mode := u' } :: cs ∧ ∃ v, (results fn a.tmps).run P w1 = .ok v w1 ∧ DPost B w0 g ((xcS P (noY call) af.body { s := { ts := pad args af.ntmps, ds := [], h }, up := u }).map (doneS af)) (.returned v) u' w1 := by
        intro hee
        have hds : s1.s.ds = [] := by
          cases hd : s1.s.ds with
          | nil => rfl
          | cons x y => exfalso; rcases hee with rfl | rfl <;> simp [doneS, hd] at hne
        have hd := hr1.ds
        rw [hds] at hd
        refine ⟨hd.nil_inv, u1, rfl, ?_⟩
        cases hres : resOf s1.s.h s1.s.ts af.results with
        | none => exfalso; rcases hee with rfl | rfl <;> simp [doneS, hres] at hne
        | some v =>
          obtain ⟨v', hrun, hvr⟩ := results_sound (P := P) hr1.hr hr1.ts hcr hres
          refine ⟨v', hrun, g1, s1.up, s1.s.h, ?_, hl1, hr1.hr, hu1⟩
          rcases hee with rfl | rfl <;> simpa [doneS, hres, hds] using hmem
      cases e with
      | normal => exact fin (.inl he.normal)
      | ret => exact fin (.inr (by cases e1 <;> simp_all [ExR]))
      | panic c' =>
        cases e1 with
        | panic ch =>
          have hds : s1.s.ds = [] := by
            cases hd : s1.s.ds with
            | nil => rfl
            | cons x y => exfalso; simp [doneS, hd] at hne
          have hd := hr1.ds
          rw [hds] at hd
          exact ⟨hd.nil_inv, u1, rfl, g1, ch, s1.up, s1.s.h, by simpa [doneS, hds] using hmem, hl1, hr1.hr, hu1, he⟩
        | _ => simp [ExR] at he
      | exit i => cases e1 <;> simp [ExR] at he; exact absurd rfl hne
      | goto i => cases e1 <;> simp [ExR] at he
      | outgrown => cases e1 <;> simp [ExR] at he

/-! ### Leaving a function -/

theorem leave_sound {n : Nat} {T : Table} (hT : TableOK P T) {call : Caller} (hcall : CallOK P call) (hD : DrawsOK P (noY call) B w0) {fn : Func} {ars : List (Nat × Option (Option Nat))} (hcr : compResults P fn.results.toList = some ars) {ts : List Value} {tmps : Array Value} {g0 : Gh} :
    ∀ (ds ds' : List Deferred) (g : Gh) (u u' : FrameMode) (h : Heap) (w : World), DRL g ds ds' → VRL g ts tmps.toList → HR g h B w0 w → MoR g u u' → Le g0 g → (∀ o ∈ leave P T call ars ts ds u h, o ≠ .bad) → ∀ {R : Ending → World → Prop},
      (∀ e w', CPost B w0 g0 (leave P T call ars ts ds u h) e w' → R e w') → LeavesInM (FR none) n P fn tmps R ds' u' w
  | [], ds', g, u, u', h, w, hd, hts, hr, hu, hl, hg, R, hR => by
    obtain rfl := hd.nil_inv
    cases u with
    | run => exact absurd rfl (hg .bad (by simp [leave]))
    | returning =>
      cases u' <;> simp [MoR] at hu
      cases hres : resOf h ts ars with
      | none => exact absurd rfl (hg .bad (by simp [leave, hres]))
      | some v =>
        obtain ⟨v', hrun, hvr⟩ := results_sound (P := P) hr hts hcr hres
        exact ⟨v', hrun, hR _ _ ⟨g, v, h, by simp [leave, hres], hl, hr, hvr⟩⟩
    | panicking c =>
      cases u' <;> simp [MoR] at hu
      exact hR _ _ ⟨g, c, h, by simp [leave], hl, hr, hu⟩
  | d :: ds, ds', g, u, u', h, w, hd, hts, hr, hu, hl, hg, R, hR => by
    cases hd with
    | cons hd0 hds =>
      rename_i d' ds'
      have hnu0 : u ≠ .run := by
        intro he
        subst he
        exact hg .bad (by simp [leave]) rfl
      have hne0 : u' ≠ .run := by
        intro he
        subst he
        cases u <;> simp [MoR] at hu
        exact hnu0 rfl
      rcases hd0 with ⟨f, c, c', h1, h2, h3, h4⟩ | ⟨r, r', h1, h2, hbr⟩
      case inr =>
        have hexp : leave P T call ars ts (d :: ds) u h = match h.get r with
          | .defs false => leave P T call ars ts ds u (h.set r (.defs true))
          | _ => [.bad] := by
          clear hg hR
          obtain ⟨tg, da⟩ := d
          simp only at h1
          subst h1
          cases u with
          | run => exact absurd rfl hnu0
          | returning => rfl
          | panicking ch => rfl
        rw [hexp] at hg hR
        split at hg
        · rename_i hget
          rw [hget] at hR
          obtain ⟨x, hx, hob, hsh⟩ := hr.of_obj hget (by simp)
          obtain rfl := hbr.2 x hx
          have hob : w.heap[x.b]? = some (.deferred (some [])) := hob
          have htake : (Instr.takeDeferred x.b).run P w = .ok [] (withBlock w x.b (.deferred none)) := by
            have hget : (getObj x.b).run P w = .ok (.deferred (some [])) w := by simp [getObj, Sem.run, hob]
            simp only [Instr.takeDeferred, Sem.run_bind, hget, Result.andThen_ok]
            rw [run_setObj hob (by simp)]
            simp
          have hhr : HR g (h.set r (.defs true)) B w0 (withBlock w x.b (.deferred none)) := by
            refine hr.set hx (by rw [hget]; rfl) rfl rfl rfl rfl ⟨?_, hsh⟩
            rw [heap_withBlock hob]
            rfl
          exact ⟨hne0, .inl ⟨x.b, _, h2, htake, leave_sound hT hcall hD hcr ds ds' g u u' _ _ hds hts hhr hu hl hg hR⟩⟩
        · exact absurd rfl (hg .bad (by simp))
      have hnu : u ≠ .run := by
        intro he
        subst he
        exact hg .bad (by simp [leave]) rfl
      have hne : u' ≠ .run := by
        intro he
        subst he
        cases u <;> simp [MoR] at hu
        exact hnu rfl
      have hexp : leave P T call ars ts (d :: ds) u h = (xdefer P T call f (d.args.toList ++ c) u h).flatMap fun
        | .ret u' h' => leave P T call ars ts ds (settle u') h'
        | .pan chain u' h' => leave P T call ars ts ds (raised u' chain) h'
        | .bad => [.bad] := by
        clear hg hR h4
        obtain ⟨tg, da⟩ := d
        simp only at h1
        subst h1
        cases u with
        | run => exact absurd rfl hnu
        | returning => rfl
        | panicking ch => rfl
      rw [hexp] at hg hR
      have hgd : ∀ o ∈ xdefer P T call f (d.args.toList ++ c) u h, o ≠ .bad := fun o hm hb => by
        subst hb
        exact hg .bad (List.mem_flatMap.2 ⟨.bad, hm, by simp⟩) rfl
      obtain ⟨hfn, hcd⟩ := xdefer_sound (B := B) (w0 := w0) hT hcall hD hr (h4.append h3) hu hgd
      obtain ⟨tg, dargs⟩ := d'
      simp only at h2 h4
      subst h2
      refine ⟨hne, .inr ⟨(fun h => by cases h), .func f, ⟨c'⟩, f, ⟨dargs.toList ++ c'⟩, rfl, ?_, fun _ _ => trivial, hcd.mono fun e u2 w' hp => ?_⟩⟩
      · simp only [invoke]
        rw [callFunc_run hfn]
        congr 2
        apply Array.ext'; simp
      · cases e with
        | returned v =>
          obtain ⟨g', u3, h', hm, hle, hr', hu3⟩ := hp
          exact leave_sound hT hcall hD hcr ds ds' g' (settle u3) (settle u2) h' w' (hds.mono hle) (hts.mono hle) hr' (settle_mor hu3) (hl.trans hle) (fun o ho => hg o (List.mem_flatMap.2 ⟨_, hm, ho⟩))
            (fun e w' hp => hR e w' (by
              cases e with
              | returned v => obtain ⟨g2, a, b, hm2, r⟩ := hp; exact ⟨g2, a, b, List.mem_flatMap.2 ⟨_, hm, hm2⟩, r⟩
              | panicked v => obtain ⟨g2, a, b, hm2, r⟩ := hp; exact ⟨g2, a, b, List.mem_flatMap.2 ⟨_, hm, hm2⟩, r⟩
              | outgrown => exact hp))
        | panicked ch =>
          obtain ⟨g', ch', u3, h', hm, hle, hr', hu3, hch⟩ := hp
          exact leave_sound hT hcall hD hcr ds ds' g' (raised u3 ch') (raised u2 ch) h' w' (hds.mono hle) (hts.mono hle) hr' (raised_mor hu3 hch) (hl.trans hle) (fun o ho => hg o (List.mem_flatMap.2 ⟨_, hm, ho⟩))
            (fun e w' hp => hR e w' (by
              cases e with
              | returned v => obtain ⟨g2, a, b, hm2, r⟩ := hp; exact ⟨g2, a, b, List.mem_flatMap.2 ⟨_, hm, hm2⟩, r⟩
              | panicked v => obtain ⟨g2, a, b, hm2, r⟩ := hp; exact ⟨g2, a, b, List.mem_flatMap.2 ⟨_, hm, hm2⟩, r⟩
              | outgrown => exact hp))
        | outgrown => exact hp.elim

/-! ### Functions -/

def outCO (P : Program) (T : Table) (call : Caller) (af : AFunc) : Out → List CO
  | .mk .normal s | .mk .ret s => leave P T call af.results s.ts s.ds .returning s.h
  | .mk (.panic chain) s => leave P T call af.results s.ts s.ds (.panicking chain) s.h
  | _ => [.bad]

theorem xfun_eq {T : Table} {call : Caller} {L : Nat} {af : AFunc} {args : List Value} {h : Heap} : xfun P T call L af args h = (xc P call L af.body { ts := pad args af.ntmps, ds := [], h }).flatMap (outCO P T call af) := by
  unfold xfun
  congr 1

theorem xfun_sound {T : Table} (hT : TableOK P T) {call : Caller} (hcall : CallOK P call) {L : Nat} (hD : DrawsOK P call B w0) (hDn : DrawsOK P (noY call) B w0) {f : FuncId} {af : AFunc} (hf : T f = some af) (hpr : af.prim = none) {g : Gh} {h : Heap} {w : World} {args args' : List Value}
    (hr : HR g h B w0 w) (hv : VRL g args args') (hg : ∀ o ∈ xfun P T call L af args h, o ≠ .bad) : FnOK P f ∧ Calls P f ⟨args'⟩ w (CPost B w0 g (xfun P T call L af args h)) := by
  obtain ⟨fn, hfn, hcf⟩ := hT.plain hf hpr
  obtain ⟨c, hb, hn, hcb, hcr, hnt⟩ := compFunc_parts hcf
  refine ⟨⟨fn, hfn, by simp [hb], hn⟩, callsIn_wide.1 (callsIn_of_wp_marks (F := FR none) (n := 0) hfn hb trivial ?_)⟩
  rw [xfun_eq] at hg ⊢
  have hgc : Good (xc P call L af.body { ts := pad args af.ntmps, ds := [], h }) := fun o hm hbad => by
    subst hbad
    exact hg .bad (List.mem_flatMap.2 ⟨.bad, hm, by simp [outCO]⟩) rfl
  refine xc_sound (ro := none) hcall L hD c af.body hcb (.inl rfl) g g { ts := pad args af.ntmps, ds := [], h } _ w _ ⟨hr, by rw [hnt]; exact pad_vr hv _, .nil, trivial⟩ (Le.refl _) hgc ?_
  rintro e a w1 ⟨g1, e1, s1, hm, hl1, he, hr1⟩
  have hgo : ∀ o ∈ outCO P T call af (.mk e1 s1), o ≠ .bad := fun o ho => hg o (List.mem_flatMap.2 ⟨_, hm, ho⟩)
  have lift : ∀ (e : Ending) (w' : World), CPost B w0 g (outCO P T call af (.mk e1 s1)) e w' → CPost B w0 g ((xc P call L af.body { ts := pad args af.ntmps, ds := [], h }).flatMap (outCO P T call af)) e w' := by
    intro e w' hp
    cases e with
    | returned v => obtain ⟨g2, a, b, hm2, r⟩ := hp; exact ⟨g2, a, b, List.mem_flatMap.2 ⟨_, hm, hm2⟩, r⟩
    | panicked v => obtain ⟨g2, a, b, hm2, r⟩ := hp; exact ⟨g2, a, b, List.mem_flatMap.2 ⟨_, hm, hm2⟩, r⟩
    | outgrown => exact hp
  cases e with
  | normal =>
    obtain rfl := he.normal
    exact leave_sound hT hcall hDn hcr s1.ds a.defers g1 .returning .returning s1.h w1 hr1.ds hr1.ts hr1.hr trivial hl1 hgo lift
  | ret =>
    cases e1 with
    | ret => exact leave_sound hT hcall hDn hcr s1.ds a.defers g1 .returning .returning s1.h w1 hr1.ds hr1.ts hr1.hr trivial hl1 hgo lift
    | _ => simp [ExR] at he
  | panic c' =>
    cases e1 with
    | panic ch => exact leave_sound hT hcall hDn hcr s1.ds a.defers g1 (.panicking ch) (.panicking c') s1.h w1 hr1.ds hr1.ts hr1.hr he hl1 hgo lift
    | _ => simp [ExR] at he
  | exit i => cases e1 <;> simp [ExR] at he; exact absurd rfl (hgo .bad (by simp [outCO]))
  | goto i => cases e1 <;> simp [ExR] at he
  | outgrown => cases e1 <;> simp [ExR] at he

/-! ### Rounds -/

theorem putAll_vr {g : Gh} : ∀ (ps : List Nat) {args args' : List Value}, VRL g args args' → ∀ {ts : List Value} {tmps : Array Value}, VRL g ts tmps.toList →
    VRL g (putAll ts ps args) ((ps.zip args').foldl (fun tmps p => tmps.setIfInBounds p.1 p.2) tmps).toList
  | [], _, _, _, _, _, h => by simpa [putAll] using h
  | _ :: _, _, _, .nil, _, _, h => by simpa [putAll] using h
  | p :: ps, _, _, .cons h1 h2, ts, tmps, h => by
    simp only [putAll, List.zip_cons_cons, List.foldl_cons]
    exact putAll_vr ps h2 (tmps := tmps.setIfInBounds p _) (by rw [lset_eq, Array.toList_setIfInBounds]; exact h.set p h1)

theorem run_endRound {w : World} {l : Nat} {r : Loop} (h : w.heap[l]? = some (.loop r)) (jump : Option Code) :
    (Instr.endRound l jump).run P w = .ok (.bool jump.isNone) (withBlock w l (.loop { r with state := if jump.isNone then .ready else .done, pending := jump })) := by
  simp only [Instr.endRound, Sem.run_bind, run_getLoop h, Result.andThen_ok]
  rw [run_setObj h (by simp)]
  simp

theorem run_beginRound {w : World} {l : Nat} {r : Loop} (h : w.heap[l]? = some (.loop r)) (hst : r.state = .ready) :
    (Instr.beginRound l).run P w = .ok () (withBlock w l (.loop { r with state := .busy })) := by
  simp only [Instr.beginRound, Sem.run_bind, run_getLoop h, Result.andThen_ok]
  rw [run_setObj h (by simp)]
  simp [hst]

/-- a round's end -/
theorem endR_sound {g0 g : Gh} {h : Heap} {w : World} {l l' : Nat} {outs : List CO} (hr : HR g h B w0 w) (hl : Le g0 g) (hbr : BR g l l') (jump : Option Code) (hm : endR l jump h ∈ outs) (hne : endR l jump h ≠ .bad) :
    ∃ v w', (Instr.endRound l' jump).run P w = .ok v w' ∧ CPost B w0 g0 outs (.returned v) w' := by
  unfold endR at hm hne
  split at hne
  · rename_i st pend ts ps as b hget
    rw [hget] at hm
    obtain ⟨x, hx, f, ts', d, hob, hts, hsh⟩ := hr.of_obj hget (by simp)
    obtain rfl := hbr.2 x hx
    refine ⟨_, _, run_endRound hob jump, g, _, _, hm, hl, ?_, .gr rfl⟩
    refine hr.set hx (by rw [hget]; rfl) rfl rfl rfl rfl ⟨f, ts', d, ?_, hts, hsh⟩
    rw [heap_withBlock hob]
  · exact absurd rfl hne

theorem xround_sound {call : Caller} (hcall : CallOK P call) {L : Nat} (hD : DrawsOK P call B w0) {l l' : Nat} {args args' : List Value} {g : Gh} {h : Heap} {w : World} (hr : HR g h B w0 w) (hv : VRL g args args') (hbr : BR g l l')
    (hg : ∀ o ∈ xround P call L l args h, o ≠ .bad) : ∃ f tmps assign body, (Instr.yield l' ⟨args'⟩).run P w = .ok (.round l' f tmps assign body) w ∧ ∀ ro n, RoundIn (FR ro) n P l' f tmps assign body w (CPost B w0 g (xround P call L l args h)) := by
  unfold xround at hg ⊢
  split at hg
  · rename_i st pend ts ps as b hget
    split at hg
    · rename_i hcond
      obtain ⟨hlen, hna, hnb⟩ := hcond
      split at hg
      · rename_i as' b' has hb
        simp only [hlen, hna, hnb, and_self, if_true, has, hb] at hg ⊢
        obtain ⟨x, hx, f1, ts', d1, hob, hts, hsh⟩ := hr.of_obj hget (by simp)
        obtain rfl := hbr.2 x hx
        have hlen' := hv.length
        refine ⟨f1, (ps.zip args').foldl (fun tmps p => tmps.setIfInBounds p.1 p.2) ts', as, b, ?_, fun ro n => roundIn_of_wpIn trivial ?_⟩
        · simp only [Instr.yield, Sem.run_bind, run_getLoop hob, Result.andThen_ok, List.size_toArray, hlen', hlen, ne_eq, not_true, if_false, Sem.run_pure]
          simp [List.zip_toArray]
        · have hga : Good (xc P call L as' { ts := putAll ts ps args, ds := [], h, rd := some l }) := fun o hm hbad => by
            subst hbad
            exact hg .bad (List.mem_flatMap.2 ⟨.bad, hm, List.mem_singleton.2 rfl⟩) rfl
          refine xc_sound (ro := some x.b) (n := n) hcall L hD as as' has (.inr hna) g g { ts := putAll ts ps args, ds := [], h, rd := some l } _ w _ ⟨hr, putAll_vr ps hv hts, .nil, hbr⟩ (Le.refl _) hga ?_
          rintro e a w1 ⟨g1, e1, s1, hm, hl1, he, hr1⟩
          have hgo : ∀ o ∈ bodyOut P call L l b' (.mk e1 s1), o ≠ .bad := fun o ho => hg o (List.mem_flatMap.2 ⟨_, hm, ho⟩)
          have dead : e1 ≠ .normal → False := fun hne => hgo .bad (by cases e1 <;> first | exact absurd rfl hne | simp [bodyOut]) rfl
          cases e with
          | normal =>
            obtain rfl := he.normal
            simp only [bodyOut] at hgo
            split at hgo
            · rename_i pend1 ts1 ps1 as1 b1 hget1
              obtain ⟨y, hy, f2, ts2', d2, hob2, hts2, hsh2⟩ := hr1.hr.of_obj hget1 (by simp)
              have hxy : x.b = y.b := (hbr.mono hl1).2 y hy
              rw [← hxy] at hob2
              refine ⟨_, run_beginRound hob2 rfl, ?_⟩
              have hhr : HR g1 (s1.h.set l (.loop .busy pend1 ts1 ps1 as1 b1)) B w0 (withBlock w1 x.b (.loop { state := .busy, pending := pend1, fn := f2, tmps := ts2', params := ⟨ps1⟩, assign := as1, body := b1, defers := d2 })) := by
                refine hr1.hr.set hy (by rw [hget1]; rfl) (by rw [← hxy]; rfl) rfl rfl rfl ⟨f2, ts2', d2, ?_, hts2, hsh2⟩
                rw [← hxy, heap_withBlock hob2]
              refine xc_sound (ro := some x.b) (n := n) hcall L hD b b' hb (.inr hnb) g g1 { s1 with h := s1.h.set l (.loop .busy pend1 ts1 ps1 as1 b1) } a _ _ ⟨hhr, hr1.ts, hr1.ds, hr1.rd⟩ hl1 (fun o hm2 hbad => ?_) ?_
              · subst hbad
                exact hgo .bad (List.mem_map.2 ⟨.bad, hm2, rfl⟩) rfl
              · rintro e a w2 ⟨g2, e2, s2, hm2, hl2, he2, hr2⟩
                have hmem : roundOut l (.mk e2 s2) ∈ (xc P call L as' { ts := putAll ts ps args, ds := [], h, rd := some l }).flatMap (bodyOut P call L l b') :=
                  List.mem_flatMap.2 ⟨_, hm, by simp only [bodyOut, hget1]; exact List.mem_map.2 ⟨_, hm2, rfl⟩⟩
                have hne := hgo _ (List.mem_map.2 ⟨_, hm2, rfl⟩)
                cases e with
                | normal =>
                  obtain rfl := he2.normal
                  exact endR_sound hr2.hr hl2 (hbr.mono hl2) none hmem hne
                | ret =>
                  cases e2 with
                  | ret => exact endR_sound hr2.hr hl2 (hbr.mono hl2) (some .ret) hmem hne
                  | _ => simp [ExR] at he2
                | exit i =>
                  cases e2 with
                  | exit j =>
                    have : j = i := he2
                    subst this
                    exact endR_sound hr2.hr hl2 (hbr.mono hl2) (some (.exit j)) hmem hne
                  | _ => simp [ExR] at he2
                | goto i => cases e2 <;> simp [ExR] at he2
                | panic c =>
                  cases e2 with
                  | panic ch => exact absurd rfl hne
                  | _ => simp [ExR] at he2
                | outgrown => cases e2 <;> simp [ExR] at he2
            · exact absurd rfl (hgo .bad (by simp))
          | exit i => exact (dead (by rintro rfl; simp [ExR] at he)).elim
          | goto i => exact (dead (by rintro rfl; simp [ExR] at he)).elim
          | ret => exact (dead (by rintro rfl; simp [ExR] at he)).elim
          | panic c => exact (dead (by rintro rfl; simp [ExR] at he)).elim
          | outgrown => exact (dead (by rintro rfl; simp [ExR] at he)).elim
      · exact absurd rfl (hg .bad (by simp))
    · exact absurd rfl (hg .bad (by simp))
  · exact absurd rfl (hg .bad (by simp))

/-- what the machine answers to a call, the model does -/
theorem xcall_sound {T : Table} (hT : TableOK P T) (L : Nat) (hD : ∀ (call : Caller), CallOK P call → ∀ B w0, DrawsOK P call B w0) : ∀ n, CallOK P (xcall P T L n)
  | 0 => ⟨fun l l' args args' g h B w0 w _ _ _ hg => absurd rfl (hg .bad (by simp [xcall])), fun f args args' g h B w0 w _ _ hg => absurd rfl (hg .bad (by simp [xcall]))⟩
  | n + 1 => by
    have ih := xcall_sound hT L hD n
    refine ⟨fun l l' args args' g h B w0 w hr hv hbr hg => xround_sound ih (hD _ ih B w0) hr hv hbr hg, fun f args args' g h B w0 w hr hv hg => ?_⟩
    cases hf : T f with
    | none => exact absurd rfl (hg .bad (by simp [xcall, hf]))
    | some af =>
      cases hpr : af.prim with
      | some p =>
        have he : xcall P T L (n + 1) (.fn f) args h = p args h := by simp [xcall, hf, hpr]
        rw [he] at hg ⊢
        have := hT f af hf
        rw [hpr] at this
        exact this args args' g h B w0 w hr hv hg
      | none =>
        have he : xcall P T L (n + 1) (.fn f) args h = xfun P T (xcall P T L n) L af args h := by simp [xcall, hf, hpr]
        rw [he] at hg ⊢
        exact xfun_sound hT ih (hD _ ih B w0) (hD _ (noY_ok ih) B w0) hf hpr hr hv hg

end
end Go.Vm
