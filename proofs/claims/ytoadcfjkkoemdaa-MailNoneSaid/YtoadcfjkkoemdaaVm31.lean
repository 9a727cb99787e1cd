/- A small machine over an abstract heap: with more fuel it answers the same. -/
import Derived.Test.YtoadcfjkkoemdaaVm30
set_option linter.unusedSimpArgs false
set_option linter.unusedVariables false
namespace Go.Vm

section
variable {P : Program} {T : Table}

def GoodC (l : List CO) : Prop := ∀ o ∈ l, o ≠ .bad
def GoodO (l : List Out) : Prop := ∀ o ∈ l, o ≠ .bad
def GoodD (l : List DO) : Prop := ∀ o ∈ l, o ≠ .bad
def GoodT (l : List OutS) : Prop := ∀ o ∈ l, o ≠ .bad

/-- where the one doesn't fail, the other answers the same -/
def LeC (c c' : Caller) : Prop := ∀ t args h, GoodC (c t args h) → c' t args h = c t args h

theorem flatMap_eq {α β : Type} {f g : α → List β} : ∀ {l : List α}, (∀ a ∈ l, f a = g a) → l.flatMap f = l.flatMap g
  | [], _ => rfl
  | a :: l, h => by
    simp only [List.flatMap_cons]
    rw [h a (by simp), flatMap_eq fun b hb => h b (by simp [hb])]

theorem xo_mono {c c' : Caller} (hc : LeC c c') {ts : List Value} {h : Heap} {op : AOp} (hg : GoodC (xo P c ts h op)) : xo P c' ts h op = xo P c ts h op := by
  cases op with
  | callV f args =>
    simp only [xo] at hg ⊢
    split
    · rename_i t vs heq
      rw [heq] at hg
      exact hc _ _ _ hg
    · rfl
    · rfl
  | invoke r name args =>
    simp only [xo] at hg ⊢
    split
    · rename_i t v heq
      rw [heq] at hg
      simp only at hg
      split
      · rename_i f recv hm
        rw [hm] at hg
        exact hc _ _ _ hg
      · rfl
    · rfl
  | _ => rfl

theorem good_flat {α : Type} {l : List α} {f : α → List Out} (hg : GoodO (l.flatMap f)) {a : α} (ha : a ∈ l) : GoodO (f a) :=
  fun o ho => hg o (List.mem_flatMap.2 ⟨a, ha, ho⟩)
theorem good_flatC {α : Type} {l : List α} {f : α → List CO} (hg : GoodC (l.flatMap f)) {a : α} (ha : a ∈ l) : GoodC (f a) :=
  fun o ho => hg o (List.mem_flatMap.2 ⟨a, ha, ho⟩)
theorem good_flatT {α : Type} {l : List α} {f : α → List OutS} (hg : GoodT (l.flatMap f)) {a : α} (ha : a ∈ l) : GoodT (f a) :=
  fun o ho => hg o (List.mem_flatMap.2 ⟨a, ha, ho⟩)

theorem xops_mono {c c' : Caller} (hc : LeC c c') : ∀ (ops : List AOper) (s : St), GoodO (xops P c ops s) → xops P c' ops s = xops P c ops s
  | [], _, _ => rfl
  | o :: rest, s, hg => by
    simp only [xops] at hg ⊢
    split
    · rename_i hw
      rw [if_pos hw] at hg
      split
      · rename_i f args hop
        rw [hop] at hg
        simp only at hg
        split
        · rename_i d hd
          rw [hd] at hg
          exact xops_mono hc rest _ hg
        · rfl
      · rename_i hnd
        have hg2 : GoodO ((xo P c s.ts s.h o.op).flatMap fun
          | .ret v h => xops P c rest { s with ts := putT s.ts o.dst v, h := h }
          | .pan chain h => [.mk (.panic chain) { s with h := h }]
          | .bad => [.bad]) := by
          revert hg
          split
          · rename_i f args hop
            exact absurd hop (hnd f args)
          · exact id
        have h1 : GoodC (xo P c s.ts s.h o.op) := fun a ha hb => by
          subst hb
          exact good_flat hg2 ha .bad (by simp) rfl
        rw [xo_mono hc h1]
        refine flatMap_eq fun a ha => ?_
        have h2 := good_flat hg2 ha
        cases a with
        | ret v h => exact xops_mono hc rest _ h2
        | pan ch h => rfl
        | bad => rfl
    · rename_i hw
      rw [if_neg hw] at hg
      exact xops_mono hc rest _ hg

theorem xopsD_mono {c c' : Caller} (hc : LeC c c') : ∀ (ops : List AOper) (s : St), GoodO (xopsD P c ops s) → xopsD P c' ops s = xopsD P c ops s
  | [], _, _ => rfl
  | o :: rest, s, hg => by
    simp only [xopsD] at hg ⊢
    split
    · rename_i hw
      rw [if_pos hw] at hg
      have h1 : GoodC (xo P c s.ts s.h o.op) := fun a ha hb => by
        subst hb
        exact good_flat hg ha .bad (by simp) rfl
      rw [xo_mono hc h1]
      refine flatMap_eq fun a ha => ?_
      have h2 := good_flat hg ha
      cases a with
      | ret v h =>
        simp only at h2 ⊢
        split
        · rename_i hk
          rw [if_pos hk] at h2
          exact xopsD_mono hc rest _ h2
        · rfl
      | pan ch h => rfl
      | bad => rfl
    · rename_i hw
      rw [if_neg hw] at hg
      split
      · rename_i hk
        rw [if_pos hk] at hg
        exact xopsD_mono hc rest _ hg
      · rfl

theorem loopGo_mono {f f' : St → List Out} (hf : ∀ s, GoodO (f s) → f' s = f s) : ∀ (n n' : Nat) (s : St), n ≤ n' → GoodO (loopGo f n s) → loopGo f' n' s = loopGo f n s
  | 0, _, s, _, hg => absurd rfl (hg .bad (by simp [loopGo]))
  | n + 1, 0, s, h, _ => by omega
  | n + 1, n' + 1, s, h, hg => by
    simp only [loopGo] at hg ⊢
    have h1 : GoodO (f s) := fun a ha hb => by
      subst hb
      exact good_flat hg ha .bad (by simp) rfl
    rw [hf s h1]
    refine flatMap_eq fun a ha => ?_
    have h2 := good_flat hg ha
    cases a with
    | mk e s' =>
      cases e <;> first | rfl | exact loopGo_mono hf n n' s' (by omega) h2
    | bad => rfl

theorem xc_mono {c c' : Caller} (hc : LeC c c') {L L' : Nat} (hL : L ≤ L') : ∀ (ac : ACode) (s : St), GoodO (xc P c L ac s) → xc P c' L' ac s = xc P c L ac s
  | .skip, _, _ => rfl
  | .exit _, _, _ => rfl
  | .ret, _, _ => rfl
  | .region ops, s, hg => xops_mono hc ops s hg
  | .regionD ops, s, hg => xopsD_mono hc ops s hg
  | .scope b, s, hg => xc_mono hc hL b s hg
  | .stuck, _, _ => rfl
  | .seq a b, s, hg => by
    simp only [xc] at hg ⊢
    have h1 : GoodO (xc P c L a s) := fun o ho hb => by
      subst hb
      exact good_flat hg ho .bad (by simp) rfl
    rw [xc_mono hc hL a s h1]
    refine flatMap_eq fun o ho => ?_
    have h2 := good_flat hg ho
    cases o with
    | mk e s' => cases e <;> first | rfl | exact xc_mono hc hL b s' h2
    | bad => rfl
  | .cond x t e, s, hg => by
    simp only [xc] at hg ⊢
    split
    · rename_i hx
      rw [hx] at hg
      exact xc_mono hc hL t s hg
    · rename_i hx
      rw [hx] at hg
      exact xc_mono hc hL e s hg
    · rfl
  | .block id b, s, hg => by
    simp only [xc] at hg ⊢
    have h1 : GoodO (xc P c L b s) := fun o ho hb => by
      subst hb
      exact hg .bad (List.mem_map.2 ⟨_, ho, rfl⟩) rfl
    rw [xc_mono hc hL b s h1]
  | .loop b, s, hg => by
    simp only [xc] at hg ⊢
    exact loopGo_mono (fun s hs => xc_mono hc hL b s hs) L L' s hL hg
  | .rangeFunc f ps as b, s, hg => by
    simp only [xc] at hg ⊢
    split
    · rfl
    · rename_i hl
      rw [if_neg hl] at hg
      split
      · rename_i fid first captured hx
        rw [hx] at hg
        simp only at hg
        have h1 : GoodC (c (.fn fid) (first ++ [.func (.yield (lapH s).n) #[] #[]] ++ captured) ((lapH s).push (.loop .ready none s.ts ps as b))) := fun o ho hb => by
          subst hb
          exact good_flat hg ho .bad (by simp [lapOut]) rfl
        rw [hc _ _ _ h1]
      · rfl

theorem noY_mono {c c' : Caller} (hc : LeC c c') : LeC (noY c) (noY c') := by
  intro t args h hg
  cases t with
  | fn f => exact hc _ _ _ hg
  | yield l => rfl

theorem xopsS_mono {c c' : Caller} (hc : LeC c c') : ∀ (ops : List AOper) (s : StS), GoodT (xopsS P c ops s) → xopsS P c' ops s = xopsS P c ops s
  | [], _, _ => rfl
  | o :: rest, s, hg => by
    simp only [xopsS] at hg ⊢
    split
    · rename_i hw
      rw [if_pos hw] at hg
      split
      · rename_i hop
        rw [hop] at hg
        exact xopsS_mono hc rest _ hg
      · rfl
      · rename_i h1' h2'
        have hg2 : GoodT ((xo P c s.s.ts s.s.h o.op).flatMap fun
          | .ret v h => xopsS P c rest { s with s := { s.s with ts := putT s.s.ts o.dst v, h := h } }
          | .pan chain h => [.mk (.panic chain) { s with s := { s.s with h := h } }]
          | .bad => [.bad]) := by
          revert hg
          split
          · rename_i hop; exact absurd hop h1'
          · rename_i f args hop; exact absurd hop (h2' f args)
          · exact id
        have h1 : GoodC (xo P c s.s.ts s.s.h o.op) := fun a ha hb => by
          subst hb
          exact good_flatT hg2 ha .bad (by simp) rfl
        rw [xo_mono hc h1]
        refine flatMap_eq fun a ha => ?_
        have h2 := good_flatT hg2 ha
        cases a with
        | ret v h => exact xopsS_mono hc rest _ h2
        | pan ch h => rfl
        | bad => rfl
    · rename_i hw
      rw [if_neg hw] at hg
      exact xopsS_mono hc rest _ hg

theorem xcS_mono {c c' : Caller} (hc : LeC c c') : ∀ (ac : ACode) (s : StS), GoodT (xcS P c ac s) → xcS P c' ac s = xcS P c ac s
  | .skip, _, _ => rfl
  | .ret, _, _ => rfl
  | .region ops, s, hg => xopsS_mono hc ops s hg
  | .seq a b, s, hg => by
    simp only [xcS] at hg ⊢
    have h1 : GoodT (xcS P c a s) := fun o ho hb => by
      subst hb
      exact good_flatT hg ho .bad (by simp) rfl
    rw [xcS_mono hc a s h1]
    refine flatMap_eq fun o ho => ?_
    have h2 := good_flatT hg ho
    cases o with
    | mk e s' => cases e <;> first | rfl | exact xcS_mono hc b s' h2
    | bad => rfl
  | .cond x t e, s, hg => by
    simp only [xcS] at hg ⊢
    split
    · rename_i hx
      rw [hx] at hg
      exact xcS_mono hc t s hg
    · rename_i hx
      rw [hx] at hg
      exact xcS_mono hc e s hg
    · rfl
  | .exit _, _, _ => rfl
  | .block _ _, _, _ => rfl
  | .loop _, _, _ => rfl
  | .regionD ops, s, hg => by
    simp only [xcS] at hg ⊢
    rw [xopsD_mono hc ops s.s fun o ho hb => by
      subst hb
      exact hg .bad (List.mem_map.2 ⟨_, ho, rfl⟩) rfl]
  | .scope _, _, _ => rfl
  | .stuck, _, _ => rfl
  | .rangeFunc _ _ _ _, _, _ => rfl

theorem xdefer_mono {c c' : Caller} (hc : LeC c c') {f : FuncId} {args : List Value} {u : FrameMode} {h : Heap} (hg : GoodD (xdefer P T c f args u h)) : xdefer P T c' f args u h = xdefer P T c f args u h := by
  cases hT : T f with
  | none => simp only [xdefer, hT]
  | some af =>
    rw [xdefer_eq hT] at hg ⊢
    rw [xdefer_eq hT]
    split
    · rfl
    · rename_i hp
      rw [if_neg hp] at hg
      rw [xcS_mono (noY_mono hc) _ _ fun o ho hb => by
        subst hb
        exact hg .bad (List.mem_map.2 ⟨_, ho, rfl⟩) rfl]

theorem leave_mono {c c' : Caller} (hc : LeC c c') {rs : List (Nat × Option (Option Nat))} {ts : List Value} : ∀ (ds : List Deferred) (u : FrameMode) (h : Heap), GoodC (leave P T c rs ts ds u h) → leave P T c' rs ts ds u h = leave P T c rs ts ds u h
  | [], u, h, _ => by cases u <;> simp only [leave]
  | d :: ds, u, h, hg => by
    cases u with
    | run => simp only [leave]
    | returning =>
      cases d with
      | mk t args =>
        cases t with
        | fn fn captured =>
          cases fn with
          | func f =>
            simp only [leave] at hg ⊢
            have h1 : GoodD (xdefer P T c f (args.toList ++ captured.toList) .returning h) := fun a ha hb => by
              subst hb
              exact good_flatC hg ha .bad (by simp) rfl
            rw [xdefer_mono hc h1]
            refine flatMap_eq fun a ha => ?_
            have h2 := good_flatC hg ha
            cases a with
            | ret u' h' => exact leave_mono hc ds _ _ h2
            | pan ch u' h' => exact leave_mono hc ds _ _ h2
            | bad => rfl
          | _ => simp only [leave]
        | collected r =>
          simp only [leave] at hg ⊢
          split
          · rename_i hget
            rw [hget] at hg
            exact leave_mono hc ds _ _ hg
          · rfl
        | _ => simp only [leave]
    | panicking ch =>
      cases d with
      | mk t args =>
        cases t with
        | fn fn captured =>
          cases fn with
          | func f =>
            simp only [leave] at hg ⊢
            have h1 : GoodD (xdefer P T c f (args.toList ++ captured.toList) (.panicking ch) h) := fun a ha hb => by
              subst hb
              exact good_flatC hg ha .bad (by simp) rfl
            rw [xdefer_mono hc h1]
            refine flatMap_eq fun a ha => ?_
            have h2 := good_flatC hg ha
            cases a with
            | ret u' h' => exact leave_mono hc ds _ _ h2
            | pan ch u' h' => exact leave_mono hc ds _ _ h2
            | bad => rfl
          | _ => simp only [leave]
        | collected r =>
          simp only [leave] at hg ⊢
          split
          · rename_i hget
            rw [hget] at hg
            exact leave_mono hc ds _ _ hg
          · rfl
        | _ => simp only [leave]

theorem xfun_mono {c c' : Caller} (hc : LeC c c') {L L' : Nat} (hL : L ≤ L') {af : AFunc} {args : List Value} {h : Heap} (hg : GoodC (xfun P T c L af args h)) : xfun P T c' L' af args h = xfun P T c L af args h := by
  rw [xfun_eq] at hg ⊢
  rw [xfun_eq]
  rw [xc_mono hc hL _ _ fun o ho hb => by
    subst hb
    exact good_flatC hg ho .bad (by simp [outCO]) rfl]
  refine flatMap_eq fun o ho => ?_
  have h2 := good_flatC hg ho
  cases o with
  | mk e s => cases e <;> first | rfl | exact leave_mono hc _ _ _ h2
  | bad => rfl

theorem xround_mono {c c' : Caller} (hc : LeC c c') {L L' : Nat} (hL : L ≤ L') {l : Nat} {args : List Value} {h : Heap} (hg : GoodC (xround P c L l args h)) : xround P c' L' l args h = xround P c L l args h := by
  unfold xround at hg ⊢
  split
  · rename_i st pend ts ps as b hget
    rw [hget] at hg
    simp only at hg
    split
    · rename_i hk
      rw [if_pos hk] at hg
      split
      · rename_i as' b' h1 h2
        rw [h1, h2] at hg
        simp only at hg
        rw [xc_mono hc hL _ _ fun o ho hb => by
          subst hb
          exact good_flatC hg ho .bad (by simp [bodyOut]) rfl]
        refine flatMap_eq fun o ho => ?_
        have h3 := good_flatC hg ho
        cases o with
        | bad => rfl
        | mk e s =>
          cases e <;> try rfl
          simp only [bodyOut] at h3 ⊢
          split
          · rename_i pend1 ts1 ps1 as1 b1 hget1
            rw [hget1] at h3
            simp only at h3
            rw [xc_mono hc hL _ _ fun o ho hb => by
              subst hb
              exact h3 .bad (List.mem_map.2 ⟨_, ho, rfl⟩) rfl]
          · rfl
      · rfl
    · rfl
  · rfl

/-- with more fuel the machine answers the same -/
theorem xcall_mono : ∀ {n n' L L' : Nat}, n ≤ n' → L ≤ L' → LeC (xcall P T L n) (xcall P T L' n')
  | 0, _, _, _, _, _ => fun t args h hg => absurd rfl (hg .bad (by simp [xcall]))
  | n + 1, 0, _, _, h, _ => by omega
  | n + 1, n' + 1, L, L', hn, hL => fun t args h hg => by
    have ih := xcall_mono (n := n) (n' := n') (by omega) hL
    cases t with
    | fn f =>
      simp only [xcall] at hg ⊢
      split
      · rename_i af hT
        rw [hT] at hg
        simp only at hg
        split
        · rfl
        · rename_i hp
          rw [hp] at hg
          exact xfun_mono ih hL hg
      · rfl
    | yield l => exact xround_mono ih hL hg

end
end Go.Vm
