/- What a walk owes at its end, where of the blocks that stood nothing turned. -/
import Derived.Test.YtbmpalbdbcjieaaGreatVF
import Derived.ChangeSame
import Derived.Below
namespace Go.Vm
open Go.ChangeShapes Go.WideShapes Go.RowKit
section
variable {H : Type} {enc : TypeId × Value → H} {P : Program}
theorem post_below {f : Func} {s : ChangeSpec} {apart fresh handsOn again : Bool} {W W' : World} {args : Array Value} {v : Value} {ds gs : List (DataW H)} {before pa pv : List MemPlace}
    (hW : DataW.Whole enc P f.params.toList s.vars apart W args.toList ds gs before)
    (hres : ∀ (b : Nat) (sp : Nat → Bool) (hd : Bool), DataW.TrodAll enc P W' b sp hd f.resultTypes.toList (v.resultList f.resultTypes.size) (s.fn H (ds ++ gs)).results [])
    (hargs : ∀ sp : Nat → Bool, (∀ p ∈ before, sp p.block = true) → DataW.TrodAll enc P W' 0 sp true f.params.toList args.toList (s.fn H (ds ++ gs)).args pa)
    (hvars : ∀ sp : Nat → Bool, (∀ p ∈ before, sp p.block = true) → DataW.TrodVars enc P W' sp s.vars (s.fn H (ds ++ gs)).vars pv)
    (hps : before = pa ++ pv) (hk : Below W.heap.size W W')
    (hok : ∀ (j : Nat) (t : TypeId) (r : Value), f.resultTypes[j]? = some t → (v.resultList f.resultTypes.size)[j]? = some r → Value.okWide P W' .any 0 t r) :
    s.post enc P f apart fresh handsOn again W args v W' := by
  have hold : ∀ p ∈ before, (fun b => decide (b < W.heap.size)) p.block = true := fun p hp => by simpa using hW.lt p hp
  have hlt := hW.lt
  refine ⟨ds, gs, before, [], pa, pv, hW, hres _ _ _, hargs _ hold, hvars _ hold, World.keptBut_mono (fun p hp => ⟨hp, ?_⟩) (hk.frame (· ∈ before)), fun _ => ?_⟩
  · rw [hps, List.mem_append] at hp
    exact Or.inr hp
  · obtain ⟨_, _, _, _, _, hz, hn⟩ := hW
    refine ⟨hok, _, _, ([] ++ pa) ++ pv, ⟨[] ++ pa, pv, trodAll_append (hargs _ (fun _ _ => rfl)) (hres _ _ _), hvars _ (fun _ _ => rfl), rfl, ?_, ?_⟩, ?_⟩
    · intro b off hp
      have hm : MemPlace.cell b off ∈ before := by rw [hps]; simpa using hp
      rw [hk.frozen (p := ⟨b, off, none⟩) (hlt _ hm)]
      exact hz b off hm
    · intro ha
      have := hn ha
      rw [hps] at this
      simpa using this
    · intro p hp _
      rw [hps]
      simpa using hp
end
end Go.Vm

/- A small machine over an abstract heap: with more fuel it answers the same. -/
set_option linter.unusedSimpArgs false
set_option linter.unusedVariables false
namespace Go.Vm
section
variable {P : Program} {T : Table}
def GoodC (l : List CO) : Prop := ∀ o ∈ l, o ≠ .bad
def GoodO (l : List Out) : Prop := ∀ o ∈ l, o ≠ .bad
def GoodD (l : List DO) : Prop := ∀ o ∈ l, o ≠ .bad
def GoodT (l : List OutS) : Prop := ∀ o ∈ l, o ≠ .bad
def LeC (c c' : Caller) : Prop := ∀ t args h, GoodC (c t args h) → c' t args h = c t args h
theorem flatMap_eq {α β : Type} {f g : α → List β} : ∀ {l : List α}, (∀ a ∈ l, f a = g a) → l.flatMap f = l.flatMap g
  | [], _ => rfl
  | a :: l, h => by
    simp only [List.flatMap_cons]
    rw [h a (by simp), flatMap_eq fun b hb => h b (by simp [hb])]
theorem xo_mono {c c' : Caller} (hc : LeC c c') {ts : List Value} {h : Heap} {op : AOp} (hg : GoodC (xo P c ts h op)) : xo P c' ts h op = xo P c ts h op := by
  cases op with
  | callV f args =>
    simp only [xo] at hg ⊢
    split
    · rename_i t vs heq
      rw [heq] at hg
      exact hc _ _ _ hg
    · rfl
    · rfl
  | invoke r name args =>
    simp only [xo] at hg ⊢
    split
    · rename_i t v heq
      rw [heq] at hg
      simp only at hg
      split
      · rename_i f recv hm
        rw [hm] at hg
        exact hc _ _ _ hg
      · rfl
    · rfl
  | _ => rfl
theorem good_flat {α : Type} {l : List α} {f : α → List Out} (hg : GoodO (l.flatMap f)) {a : α} (ha : a ∈ l) : GoodO (f a) :=
  fun o ho => hg o (List.mem_flatMap.2 ⟨a, ha, ho⟩)
theorem good_flatC {α : Type} {l : List α} {f : α → List CO} (hg : GoodC (l.flatMap f)) {a : α} (ha : a ∈ l) : GoodC (f a) :=
  fun o ho => hg o (List.mem_flatMap.2 ⟨a, ha, ho⟩)
theorem good_flatT {α : Type} {l : List α} {f : α → List OutS} (hg : GoodT (l.flatMap f)) {a : α} (ha : a ∈ l) : GoodT (f a) :=
  fun o ho => hg o (List.mem_flatMap.2 ⟨a, ha, ho⟩)
theorem xops_mono {c c' : Caller} (hc : LeC c c') : ∀ (ops : List AOper) (s : St), GoodO (xops P c ops s) → xops P c' ops s = xops P c ops s
  | [], _, _ => rfl
  | o :: rest, s, hg => by
    simp only [xops] at hg ⊢
    split
    · rename_i hw
      rw [if_pos hw] at hg
      split
      · rename_i f args hop
        rw [hop] at hg
        simp only at hg
        split
        · rename_i d hd
          rw [hd] at hg
          exact xops_mono hc rest _ hg
        · rfl
      · rename_i hnd
        have hg2 : GoodO ((xo P c s.ts s.h o.op).flatMap fun
          | .ret v h => xops P c rest { s with ts := putT s.ts o.dst v, h := h }
          | .pan chain h => [.mk (.panic chain) { s with h := h }]
          | .bad => [.bad]) := by
          revert hg
          split
          · rename_i f args hop
            exact absurd hop (hnd f args)
          · exact id
        have h1 : GoodC (xo P c s.ts s.h o.op) := fun a ha hb => by
          subst hb
          exact good_flat hg2 ha .bad (by simp) rfl
        rw [xo_mono hc h1]
        refine flatMap_eq fun a ha => ?_
        have h2 := good_flat hg2 ha
        cases a with
        | ret v h => exact xops_mono hc rest _ h2
        | pan ch h => rfl
        | bad => rfl
    · rename_i hw
      rw [if_neg hw] at hg
      exact xops_mono hc rest _ hg
theorem xopsD_mono {c c' : Caller} (hc : LeC c c') : ∀ (ops : List AOper) (s : St), GoodO (xopsD P c ops s) → xopsD P c' ops s = xopsD P c ops s
  | [], _, _ => rfl
  | o :: rest, s, hg => by
    simp only [xopsD] at hg ⊢
    split
    · rename_i hw
      rw [if_pos hw] at hg
      have h1 : GoodC (xo P c s.ts s.h o.op) := fun a ha hb => by
        subst hb
        exact good_flat hg ha .bad (by simp) rfl
      rw [xo_mono hc h1]
      refine flatMap_eq fun a ha => ?_
      have h2 := good_flat hg ha
      cases a with
      | ret v h =>
        simp only at h2 ⊢
        split
        · rename_i hk
          rw [if_pos hk] at h2
          exact xopsD_mono hc rest _ h2
        · rfl
      | pan ch h => rfl
      | bad => rfl
    · rename_i hw
      rw [if_neg hw] at hg
      split
      · rename_i hk
        rw [if_pos hk] at hg
        exact xopsD_mono hc rest _ hg
      · rfl
theorem loopGo_mono {f f' : St → List Out} (hf : ∀ s, GoodO (f s) → f' s = f s) : ∀ (n n' : Nat) (s : St), n ≤ n' → GoodO (loopGo f n s) → loopGo f' n' s = loopGo f n s
  | 0, _, s, _, hg => absurd rfl (hg .bad (by simp [loopGo]))
  | n + 1, 0, s, h, _ => by omega
  | n + 1, n' + 1, s, h, hg => by
    simp only [loopGo] at hg ⊢
    have h1 : GoodO (f s) := fun a ha hb => by
      subst hb
      exact good_flat hg ha .bad (by simp) rfl
    rw [hf s h1]
    refine flatMap_eq fun a ha => ?_
    have h2 := good_flat hg ha
    cases a with
    | mk e s' =>
      cases e <;> first | rfl | exact loopGo_mono hf n n' s' (by omega) h2
    | bad => rfl
theorem writeG_mono {c c' : Caller} (hc : LeC c c') {n0 : Nat} {rd : List AOper} {s s' : St} {g : GOp} (h : writeG P c n0 rd s g = some s') : writeG P c' n0 rd s g = some s' := by
  have key : ∀ {op : AOp}, (∀ v h2, xo P c s.ts s.h op = [.ret v h2] → xo P c' s.ts s.h op = [.ret v h2]) := fun {op} v h2 hx => by
    rw [xo_mono hc fun o ho hb => by
      rw [hx] at ho
      simp at ho
      rw [ho] at hb
      cases hb]
    exact hx
  unfold writeG at h ⊢
  cases hr : g.res with
  | some k => cases hop : g.op.op <;> cases hg : g.op.guard <;> simp only [hr, hop, hg] at h ⊢ <;> first | exact h | cases h
  | none =>
    simp only [hr] at h ⊢
    by_cases hw : wantedT s.ts g.op.guard = true
    · rw [if_pos hw] at h ⊢
      cases hx : xo P c s.ts s.h g.op.op with
      | nil => rw [hx] at h; cases h
      | cons o l =>
        cases l with
        | cons o2 l => rw [hx] at h; cases o <;> cases h
        | nil =>
          cases o with
          | ret v h2 =>
            rw [key v h2 hx]
            rw [hx] at h
            exact h
          | pan ch h2 => rw [hx] at h; cases h
          | bad => rw [hx] at h; cases h
    · rw [if_neg hw] at h ⊢
      exact h
theorem succG_mono {c c' : Caller} (hc : LeC c c') {n0 : Nat} {rd : List AOper} {p : List Nat × St} : ∀ {gs : List GOp} {acc r : LevG}, succG P c n0 rd p gs acc = some r → succG P c' n0 rd p gs acc = some r
  | [], _, _, h => h
  | g :: gs, acc, r, h => by
    simp only [succG] at h ⊢
    by_cases hr : readyG p.1 g = true
    · rw [if_pos hr] at h ⊢
      cases hs : writeG P c n0 rd p.2 g with
      | none => rw [hs] at h; cases h
      | some s =>
        rw [writeG_mono hc hs]
        rw [hs] at h
        simp only at h ⊢
        cases ha : mergeG acc (insN g.i p.1, s) with
        | none => rw [ha] at h; cases h
        | some acc' =>
          rw [ha] at h
          simp only at h ⊢
          exact succG_mono hc h
    · rw [if_neg hr] at h ⊢
      exact succG_mono hc h
theorem nextG_mono {c c' : Caller} (hc : LeC c c') {n0 : Nat} {rd : List AOper} {wr : List GOp} : ∀ {L acc r : LevG}, nextG P c n0 rd wr L acc = some r → nextG P c' n0 rd wr L acc = some r
  | [], _, _, h => h
  | p :: L, acc, r, h => by
    simp only [nextG] at h ⊢
    split at h
    · rename_i acc' ha
      rw [succG_mono hc ha]
      exact nextG_mono hc h
    · cases h
theorem levelsG_mono {c c' : Caller} (hc : LeC c c') {n0 : Nat} {rd : List AOper} {wr : List GOp} : ∀ {n : Nat} {L r : LevG}, levelsG P c n0 rd wr n L = some r → levelsG P c' n0 rd wr n L = some r
  | 0, _, _, h => h
  | n + 1, L, r, h => by
    simp only [levelsG] at h ⊢
    split at h
    · rename_i L' hn
      rw [nextG_mono hc hn]
      exact levelsG_mono hc h
    · cases h
theorem outG_mono {c c' : Caller} (hc : LeC c c') {rd : List AOper} {wr : List GOp} {s : St} (hg : GoodO (outG P c rd wr s)) : outG P c' rd wr s = outG P c rd wr s := by
  unfold outG at hg ⊢
  cases h : runG P c rd wr s with
  | none =>
    rw [h] at hg
    exact absurd rfl (hg .bad (by simp))
  | some s' =>
    have : runG P c' rd wr s = some s' := by
      unfold runG at h ⊢
      split at h
      · rename_i s1 h1
        split at h
        · rename_i x s2 h2
          rw [levelsG_mono hc h2]
          exact h
        · cases h
      · cases h
    rw [this]
theorem xc_mono {c c' : Caller} (hc : LeC c c') {L L' : Nat} (hL : L ≤ L') : ∀ (ac : ACode) (s : St), GoodO (xc P c L ac s) → xc P c' L' ac s = xc P c L ac s
  | .skip, _, _ => rfl
  | .exit _, _, _ => rfl
  | .ret, _, _ => rfl
  | .region ops, s, hg => xops_mono hc ops s hg
  | .regionD ops, s, hg => xopsD_mono hc ops s hg
  | .regionM ls, s, hg => by
    simp only [xc] at hg ⊢
    exact flatMap_eq fun ops ho => xopsD_mono hc ops s fun o h2 hb => by
      subst hb
      exact hg .bad (List.mem_flatMap.2 ⟨_, ho, h2⟩) rfl
  | .regionG rd wr, s, hg => outG_mono hc hg
  | .scope b, s, hg => xc_mono hc hL b s hg
  | .stuck, _, _ => rfl
  | .seq a b, s, hg => by
    simp only [xc] at hg ⊢
    have h1 : GoodO (xc P c L a s) := fun o ho hb => by
      subst hb
      exact good_flat hg ho .bad (by simp) rfl
    rw [xc_mono hc hL a s h1]
    refine flatMap_eq fun o ho => ?_
    have h2 := good_flat hg ho
    cases o with
    | mk e s' => cases e <;> first | rfl | exact xc_mono hc hL b s' h2
    | bad => rfl
  | .cond x t e, s, hg => by
    simp only [xc] at hg ⊢
    split
    · rename_i hx
      rw [hx] at hg
      exact xc_mono hc hL t s hg
    · rename_i hx
      rw [hx] at hg
      exact xc_mono hc hL e s hg
    · rfl
  | .block id b, s, hg => by
    simp only [xc] at hg ⊢
    have h1 : GoodO (xc P c L b s) := fun o ho hb => by
      subst hb
      exact hg .bad (List.mem_map.2 ⟨_, ho, rfl⟩) rfl
    rw [xc_mono hc hL b s h1]
  | .loop b, s, hg => by
    simp only [xc] at hg ⊢
    exact loopGo_mono (fun s hs => xc_mono hc hL b s hs) L L' s hL hg
  | .rangeFunc f ps as b, s, hg => by
    simp only [xc] at hg ⊢
    split
    · rfl
    · rename_i hl
      rw [if_neg hl] at hg
      split
      · rename_i fid first captured hx
        rw [hx] at hg
        simp only at hg
        have h1 : GoodC (c (.fn fid) (first ++ [.func (.yield (lapH s).n) #[] #[]] ++ captured) ((lapH s).push (.loop .ready none s.ts ps as b))) := fun o ho hb => by
          subst hb
          exact good_flat hg ho .bad (by simp [lapOut]) rfl
        rw [hc _ _ _ h1]
      · rfl
theorem noY_mono {c c' : Caller} (hc : LeC c c') : LeC (noY c) (noY c') := by
  intro t args h hg
  cases t with
  | fn f => exact hc _ _ _ hg
  | yield l => rfl
theorem xopsS_mono {c c' : Caller} (hc : LeC c c') : ∀ (ops : List AOper) (s : StS), GoodT (xopsS P c ops s) → xopsS P c' ops s = xopsS P c ops s
  | [], _, _ => rfl
  | o :: rest, s, hg => by
    simp only [xopsS] at hg ⊢
    split
    · rename_i hw
      rw [if_pos hw] at hg
      split
      · rename_i hop
        rw [hop] at hg
        exact xopsS_mono hc rest _ hg
      · rfl
      · rename_i h1' h2'
        have hg2 : GoodT ((xo P c s.s.ts s.s.h o.op).flatMap fun
          | .ret v h => xopsS P c rest { s with s := { s.s with ts := putT s.s.ts o.dst v, h := h } }
          | .pan chain h => [.mk (.panic chain) { s with s := { s.s with h := h } }]
          | .bad => [.bad]) := by
          revert hg
          split
          · rename_i hop; exact absurd hop h1'
          · rename_i f args hop; exact absurd hop (h2' f args)
          · exact id
        have h1 : GoodC (xo P c s.s.ts s.s.h o.op) := fun a ha hb => by
          subst hb
          exact good_flatT hg2 ha .bad (by simp) rfl
        rw [xo_mono hc h1]
        refine flatMap_eq fun a ha => ?_
        have h2 := good_flatT hg2 ha
        cases a with
        | ret v h => exact xopsS_mono hc rest _ h2
        | pan ch h => rfl
        | bad => rfl
    · rename_i hw
      rw [if_neg hw] at hg
      exact xopsS_mono hc rest _ hg
theorem xcS_mono {c c' : Caller} (hc : LeC c c') : ∀ (ac : ACode) (s : StS), GoodT (xcS P c ac s) → xcS P c' ac s = xcS P c ac s
  | .skip, _, _ => rfl
  | .ret, _, _ => rfl
  | .region ops, s, hg => xopsS_mono hc ops s hg
  | .seq a b, s, hg => by
    simp only [xcS] at hg ⊢
    have h1 : GoodT (xcS P c a s) := fun o ho hb => by
      subst hb
      exact good_flatT hg ho .bad (by simp) rfl
    rw [xcS_mono hc a s h1]
    refine flatMap_eq fun o ho => ?_
    have h2 := good_flatT hg ho
    cases o with
    | mk e s' => cases e <;> first | rfl | exact xcS_mono hc b s' h2
    | bad => rfl
  | .cond x t e, s, hg => by
    simp only [xcS] at hg ⊢
    split
    · rename_i hx
      rw [hx] at hg
      exact xcS_mono hc t s hg
    · rename_i hx
      rw [hx] at hg
      exact xcS_mono hc e s hg
    · rfl
  | .exit _, _, _ => rfl
  | .block _ _, _, _ => rfl
  | .loop _, _, _ => rfl
  | .regionD ops, s, hg => by
    simp only [xcS] at hg ⊢
    rw [xopsD_mono hc ops s.s fun o ho hb => by
      subst hb
      exact hg .bad (List.mem_map.2 ⟨_, ho, rfl⟩) rfl]
  | .regionM ls, s, hg => by
    simp only [xcS] at hg ⊢
    rw [flatMap_eq fun ops ho => xopsD_mono hc ops s.s fun o h2 hb => by
      subst hb
      exact hg .bad (List.mem_map.2 ⟨_, List.mem_flatMap.2 ⟨_, ho, h2⟩, rfl⟩) rfl]
  | .regionG rd wr, s, hg => by
    simp only [xcS] at hg ⊢
    rw [outG_mono hc fun o ho hb => by
      subst hb
      exact hg .bad (List.mem_map.2 ⟨_, ho, rfl⟩) rfl]
  | .scope _, _, _ => rfl
  | .stuck, _, _ => rfl
  | .rangeFunc _ _ _ _, _, _ => rfl
theorem xdefer_mono {c c' : Caller} (hc : LeC c c') {f : FuncId} {args : List Value} {u : FrameMode} {h : Heap} (hg : GoodD (xdefer P T c f args u h)) : xdefer P T c' f args u h = xdefer P T c f args u h := by
  cases hT : T f with
  | none => simp only [xdefer, hT]
  | some af =>
    rw [xdefer_eq hT] at hg ⊢
    rw [xdefer_eq hT]
    split
    · rfl
    · rename_i hp
      rw [if_neg hp] at hg
      rw [xcS_mono (noY_mono hc) _ _ fun o ho hb => by
        subst hb
        exact hg .bad (List.mem_map.2 ⟨_, ho, rfl⟩) rfl]
theorem leave_mono {c c' : Caller} (hc : LeC c c') {rs : List (Nat × Option (Option Nat))} {ts : List Value} : ∀ (ds : List Deferred) (u : FrameMode) (h : Heap), GoodC (leave P T c rs ts ds u h) → leave P T c' rs ts ds u h = leave P T c rs ts ds u h
  | [], u, h, _ => by cases u <;> simp only [leave]
  | d :: ds, u, h, hg => by
    cases u with
    | run => simp only [leave]
    | returning =>
      cases d with
      | mk t args =>
        cases t with
        | fn fn captured =>
          cases fn with
          | func f =>
            simp only [leave] at hg ⊢
            have h1 : GoodD (xdefer P T c f (args.toList ++ captured.toList) .returning h) := fun a ha hb => by
              subst hb
              exact good_flatC hg ha .bad (by simp) rfl
            rw [xdefer_mono hc h1]
            refine flatMap_eq fun a ha => ?_
            have h2 := good_flatC hg ha
            cases a with
            | ret u' h' => exact leave_mono hc ds _ _ h2
            | pan ch u' h' => exact leave_mono hc ds _ _ h2
            | bad => rfl
          | _ => simp only [leave]
        | collected r =>
          simp only [leave] at hg ⊢
          split
          · rename_i hget
            rw [hget] at hg
            exact leave_mono hc ds _ _ hg
          · rfl
        | _ => simp only [leave]
    | panicking ch =>
      cases d with
      | mk t args =>
        cases t with
        | fn fn captured =>
          cases fn with
          | func f =>
            simp only [leave] at hg ⊢
            have h1 : GoodD (xdefer P T c f (args.toList ++ captured.toList) (.panicking ch) h) := fun a ha hb => by
              subst hb
              exact good_flatC hg ha .bad (by simp) rfl
            rw [xdefer_mono hc h1]
            refine flatMap_eq fun a ha => ?_
            have h2 := good_flatC hg ha
            cases a with
            | ret u' h' => exact leave_mono hc ds _ _ h2
            | pan ch u' h' => exact leave_mono hc ds _ _ h2
            | bad => rfl
          | _ => simp only [leave]
        | collected r =>
          simp only [leave] at hg ⊢
          split
          · rename_i hget
            rw [hget] at hg
            exact leave_mono hc ds _ _ hg
          · rfl
        | _ => simp only [leave]
theorem xfun_mono {c c' : Caller} (hc : LeC c c') {L L' : Nat} (hL : L ≤ L') {af : AFunc} {args : List Value} {h : Heap} (hg : GoodC (xfun P T c L af args h)) : xfun P T c' L' af args h = xfun P T c L af args h := by
  rw [xfun_eq] at hg ⊢
  rw [xfun_eq]
  rw [xc_mono hc hL _ _ fun o ho hb => by
    subst hb
    exact good_flatC hg ho .bad (by simp [outCO]) rfl]
  refine flatMap_eq fun o ho => ?_
  have h2 := good_flatC hg ho
  cases o with
  | mk e s => cases e <;> first | rfl | exact leave_mono hc _ _ _ h2
  | bad => rfl
theorem xround_mono {c c' : Caller} (hc : LeC c c') {L L' : Nat} (hL : L ≤ L') {l : Nat} {args : List Value} {h : Heap} (hg : GoodC (xround P c L l args h)) : xround P c' L' l args h = xround P c L l args h := by
  unfold xround at hg ⊢
  split
  · rename_i st pend ts ps as b hget
    rw [hget] at hg
    simp only at hg
    split
    · rename_i hk
      rw [if_pos hk] at hg
      split
      · rename_i as' b' h1 h2
        rw [h1, h2] at hg
        simp only at hg
        rw [xc_mono hc hL _ _ fun o ho hb => by
          subst hb
          exact good_flatC hg ho .bad (by simp [bodyOut]) rfl]
        refine flatMap_eq fun o ho => ?_
        have h3 := good_flatC hg ho
        cases o with
        | bad => rfl
        | mk e s =>
          cases e <;> try rfl
          simp only [bodyOut] at h3 ⊢
          split
          · rename_i pend1 ts1 ps1 as1 b1 hget1
            rw [hget1] at h3
            simp only at h3
            rw [xc_mono hc hL _ _ fun o ho hb => by
              subst hb
              exact h3 .bad (List.mem_map.2 ⟨_, ho, rfl⟩) rfl]
          · rfl
      · rfl
    · rfl
  · rfl
theorem xcall_mono : ∀ {n n' L L' : Nat}, n ≤ n' → L ≤ L' → LeC (xcall P T L n) (xcall P T L' n')
  | 0, _, _, _, _, _ => fun t args h hg => absurd rfl (hg .bad (by simp [xcall]))
  | n + 1, 0, _, _, h, _ => by omega
  | n + 1, n' + 1, L, L', hn, hL => fun t args h hg => by
    have ih := xcall_mono (n := n) (n' := n') (by omega) hL
    cases t with
    | fn f =>
      simp only [xcall] at hg ⊢
      split
      · rename_i af hT
        rw [hT] at hg
        simp only at hg
        split
        · rfl
        · rename_i hp
          rw [hp] at hg
          exact xfun_mono ih hL hg
      · rfl
    | yield l => exact xround_mono ih hL hg
end
end Go.Vm

/- A small machine over an abstract heap: what its runs come to, without fuel. -/
set_option linter.unusedSimpArgs false
set_option linter.unusedVariables false
namespace Go.Vm
abbrev RP := Value → Heap → Prop
abbrev XP := List PanicEntry → Heap → Prop
abbrev QP := Exit → St → Prop
abbrev QS := Exit → StS → Prop
def okC (R : RP) (X : XP) : CO → Prop
  | .ret v h => R v h
  | .pan c h => X c h
  | .bad => False
def okO (Q : QP) : Out → Prop
  | .mk e s => Q e s
  | .bad => False
def okS (Q : QS) : OutS → Prop
  | .mk e s => Q e s
  | .bad => False
def okD (R : FrameMode → Heap → Prop) (X : List PanicEntry → FrameMode → Heap → Prop) : DO → Prop
  | .ret u h => R u h
  | .pan c u h => X c u h
  | .bad => False
section
variable (P : Program) (T : Table)
def Runs (t : Tgt) (args : List Value) (h : Heap) (R : RP) (X : XP) : Prop := ∃ n L, ∀ o ∈ xcall P T L n t args h, okC R X o
def RunX (op : AOp) (ts : List Value) (h : Heap) (R : RP) (X : XP) : Prop := ∃ n L, ∀ o ∈ xo P (xcall P T L n) ts h op, okC R X o
def RunO (ops : List AOper) (s : St) (Q : QP) : Prop := ∃ n L, ∀ o ∈ xops P (xcall P T L n) ops s, okO Q o
def RunD (ops : List AOper) (s : St) (Q : QP) : Prop := ∃ n L, ∀ o ∈ xopsD P (xcall P T L n) ops s, okO Q o
def RunC (c : ACode) (s : St) (Q : QP) : Prop := ∃ n L, ∀ o ∈ xc P (xcall P T L n) L c s, okO Q o
def RunL (rs : List (Nat × Option (Option Nat))) (ts : List Value) (ds : List Deferred) (u : FrameMode) (h : Heap) (R : RP) (X : XP) : Prop :=
  ∃ n L, ∀ o ∈ leave P T (xcall P T L n) rs ts ds u h, okC R X o
def RunTO (ops : List AOper) (s : StS) (Q : QS) : Prop := ∃ n L, ∀ o ∈ xopsS P (noY (xcall P T L n)) ops s, okS Q o
def RunT (c : ACode) (s : StS) (Q : QS) : Prop := ∃ n L, ∀ o ∈ xcS P (noY (xcall P T L n)) c s, okS Q o
def RunDf (f : FuncId) (args : List Value) (u : FrameMode) (h : Heap) (R : FrameMode → Heap → Prop) (X : List PanicEntry → FrameMode → Heap → Prop) : Prop :=
  ∃ n L, ∀ o ∈ xdefer P T (xcall P T L n) f args u h, okD R X o
end
section
variable {P : Program} {T : Table}
theorem okC.good {R : RP} {X : XP} {l : List CO} (h : ∀ o ∈ l, okC R X o) : GoodC l := fun o ho hb => by subst hb; exact h _ ho
theorem okO.good {Q : QP} {l : List Out} (h : ∀ o ∈ l, okO Q o) : GoodO l := fun o ho hb => by subst hb; exact h _ ho
theorem okS.good {Q : QS} {l : List OutS} (h : ∀ o ∈ l, okS Q o) : GoodT l := fun o ho hb => by subst hb; exact h _ ho
theorem okD.good {R : FrameMode → Heap → Prop} {X : List PanicEntry → FrameMode → Heap → Prop} {l : List DO} (h : ∀ o ∈ l, okD R X o) : GoodD l := fun o ho hb => by subst hb; exact h _ ho
theorem gather {α : Type} {p : Nat → Nat → α → Prop} (hm : ∀ a n n' L L', n ≤ n' → L ≤ L' → p n L a → p n' L' a) : ∀ l : List α, (∀ a ∈ l, ∃ n L, p n L a) → ∃ n L, ∀ a ∈ l, p n L a
  | [], _ => ⟨0, 0, by simp⟩
  | a :: l, h => by
    obtain ⟨n, L, h1⟩ := h a (by simp)
    obtain ⟨n', L', h2⟩ := gather hm l fun b hb => h b (by simp [hb])
    refine ⟨max n n', max L L', fun b hb => ?_⟩
    rcases List.mem_cons.1 hb with rfl | hb
    · exact hm _ _ _ _ _ (Nat.le_max_left _ _) (Nat.le_max_left _ _) h1
    · exact hm _ _ _ _ _ (Nat.le_max_right _ _) (Nat.le_max_right _ _) (h2 b hb)
theorem bind_ok {A B : Type} {x : Nat → Nat → List A} {F : Nat → Nat → A → List B} {okA : A → Prop} {okB : B → Prop}
    (mx : ∀ n n' L L', n ≤ n' → L ≤ L' → (∀ a ∈ x n L, okA a) → x n' L' = x n L)
    (mF : ∀ a n n' L L', n ≤ n' → L ≤ L' → (∀ b ∈ F n L a, okB b) → F n' L' a = F n L a)
    (hx : ∃ n L, ∀ a ∈ x n L, okA a) (hF : ∀ a, okA a → ∃ n L, ∀ b ∈ F n L a, okB b) : ∃ n L, ∀ b ∈ (x n L).flatMap (F n L), okB b := by
  obtain ⟨n, L, hx⟩ := hx
  obtain ⟨n', L', h2⟩ := gather (p := fun n L a => ∀ b ∈ F n L a, okB b) (fun a n n' L L' h1 h2 h3 => by rw [mF a n n' L L' h1 h2 h3]; exact h3) (x n L) fun a ha => hF a (hx a ha)
  refine ⟨max n n', max L L', fun b hb => ?_⟩
  rw [mx n (max n n') L (max L L') (Nat.le_max_left _ _) (Nat.le_max_left _ _) hx] at hb
  obtain ⟨a, ha, hb⟩ := List.mem_flatMap.1 hb
  rw [mF a n' _ L' _ (Nat.le_max_right _ _) (Nat.le_max_right _ _) (h2 a ha)] at hb
  exact h2 a ha b hb
theorem okC.mono {R R' : RP} {X X' : XP} (h1 : ∀ v h, R v h → R' v h) (h2 : ∀ c h, X c h → X' c h) : ∀ {o : CO}, okC R X o → okC R' X' o
  | .ret _ _, h => h1 _ _ h
  | .pan _ _, h => h2 _ _ h
theorem Runs.mono {t : Tgt} {args : List Value} {h : Heap} {R R' : RP} {X X' : XP} (hr : Runs P T t args h R X) (h1 : ∀ v h, R v h → R' v h) (h2 : ∀ c h, X c h → X' c h) : Runs P T t args h R' X' :=
  let ⟨n, L, hr⟩ := hr
  ⟨n, L, fun o ho => (hr o ho).mono h1 h2⟩
theorem Runs.and {t : Tgt} {args : List Value} {h : Heap} {R R' : RP} {X X' : XP} (hr : Runs P T t args h R X) (hr' : Runs P T t args h R' X') : Runs P T t args h (fun v h => R v h ∧ R' v h) (fun v h => X v h ∧ X' v h) := by
  obtain ⟨n, L, hr⟩ := hr
  obtain ⟨n', L', hr'⟩ := hr'
  have e1 := xcall_mono (P := P) (T := T) (Nat.le_max_left n n') (Nat.le_max_left L L') _ _ _ (okC.good hr)
  have e2 := xcall_mono (P := P) (T := T) (Nat.le_max_right n n') (Nat.le_max_right L L') _ _ _ (okC.good hr')
  refine ⟨max n n', max L L', fun o ho => ?_⟩
  have h1 := hr o (by rw [← e1]; exact ho)
  have h2 := hr' o (by rw [← e2]; exact ho)
  cases o with
  | ret v h => exact ⟨h1, h2⟩
  | pan c h => exact ⟨h1, h2⟩
  | bad => exact h1
theorem RunX.ok {op : AOp} {ts : List Value} {h h' : Heap} {v : Value} {R : RP} {X : XP} (hs : ∀ call, xo P call ts h op = [.ret v h']) (hR : R v h') : RunX P T op ts h R X :=
  ⟨0, 0, fun o ho => by rw [hs] at ho; simp at ho; subst ho; exact hR⟩
theorem RunX.pan {op : AOp} {ts : List Value} {h h' : Heap} {c : List PanicEntry} {R : RP} {X : XP} (hs : ∀ call, xo P call ts h op = [.pan c h']) (hX : X c h') : RunX P T op ts h R X :=
  ⟨0, 0, fun o ho => by rw [hs] at ho; simp at ho; subst ho; exact hX⟩
theorem RunX.call {f : Operand} {args : List Operand} {ts vs : List Value} {t : Tgt} {h : Heap} {R : RP} {X : XP} (ht : target (eval ts f) (args.map (eval ts)) = some (some (t, vs))) (hr : Runs P T t vs h R X) : RunX P T (.callV f args) ts h R X :=
  let ⟨n, L, hr⟩ := hr
  ⟨n, L, fun o ho => by simp only [xo, ht] at ho; exact hr o ho⟩
theorem RunX.invoke {r : Operand} {name : String} {args : List Operand} {ts : List Value} {t : TypeId} {v recv : Value} {f : FuncId} {h : Heap} {R : RP} {X : XP} (he : eval ts r = .iface t v) (hm : methodOf P h t v name = some (f, recv))
    (hr : Runs P T (.fn f) (recv :: args.map (eval ts)) h R X) : RunX P T (.invoke r name args) ts h R X :=
  let ⟨n, L, hr⟩ := hr
  ⟨n, L, fun o ho => by simp only [xo, he, hm] at ho; exact hr o ho⟩
theorem RunX.next {it : Operand} {ts : List Value} {h : Heap} {l : List (Value × Heap)} {R : RP} {X : XP} (hn : nextAt h (eval ts it) = some l) (hr : ∀ p ∈ l, R p.1 p.2) : RunX P T (.nextMap it) ts h R X :=
  ⟨0, 0, fun o ho => by
    simp only [xo, hn] at ho
    obtain ⟨p, hp, rfl⟩ := List.mem_map.1 ho
    exact hr p hp⟩
theorem RunO.nil {s : St} {Q : QP} (h : Q .normal s) : RunO P T [] s Q := ⟨0, 0, fun o ho => by simp [xops] at ho; subst ho; exact h⟩
theorem xops_step {call : Caller} {o : AOper} {rest : List AOper} {s : St} (hw : wantedT s.ts o.guard = true) (hnd : ∀ f a, o.op ≠ .defer f a) :
    xops P call (o :: rest) s = (xo P call s.ts s.h o.op).flatMap fun
          | .ret v h => xops P call rest { s with ts := putT s.ts o.dst v, h := h }
          | .pan chain h => [.mk (.panic chain) { s with h := h }]
          | .bad => [.bad] := by
  simp only [xops]
  rw [if_pos hw]
  refine flatMap_eq fun a _ => ?_
  cases a <;> rfl
theorem RunO.cons {o : AOper} {rest : List AOper} {s : St} {Q : QP} (hw : wantedT s.ts o.guard = true) (hnd : ∀ f a, o.op ≠ .defer f a)
    (hx : RunX P T o.op s.ts s.h (fun v h => RunO P T rest { s with ts := putT s.ts o.dst v, h := h } Q) (fun c h => Q (.panic c) { s with h := h })) : RunO P T (o :: rest) s Q := by
  unfold RunO
  simp only [xops_step hw hnd]
  refine bind_ok (x := fun n L => xo P (xcall P T L n) s.ts s.h o.op) (F := fun n L => fun
          | .ret v h => xops P (xcall P T L n) rest { s with ts := putT s.ts o.dst v, h := h }
          | .pan chain h => [.mk (.panic chain) { s with h := h }]
          | .bad => [.bad])
    (fun n n' L L' h1 h2 h3 => xo_mono (xcall_mono h1 h2) (okC.good h3)) (fun a n n' L L' h1 h2 h3 => ?_) hx fun a ha => ?_
  · cases a with
    | ret v h => exact xops_mono (xcall_mono h1 h2) _ _ (okO.good h3)
    | _ => rfl
  · cases a with
    | ret v h => exact ha
    | pan c h => exact ⟨0, 0, fun o ho => by simp at ho; subst ho; exact ha⟩
    | bad => exact ha.elim
theorem RunO.skip {o : AOper} {rest : List AOper} {s : St} {Q : QP} (hw : wantedT s.ts o.guard = false) (h : RunO P T rest { s with ts := putT s.ts o.dst undef } Q) : RunO P T (o :: rest) s Q := by
  obtain ⟨n, L, h⟩ := h
  refine ⟨n, L, fun o' ho => h o' ?_⟩
  simp only [xops] at ho
  rw [if_neg (by rw [hw]; simp)] at ho
  exact ho
theorem RunO.defer {o : AOper} {f : Operand} {args : List Operand} {d : Deferred} {rest : List AOper} {s : St} {Q : QP} (hw : wantedT s.ts o.guard = true) (ho : o.op = .defer f args) (hd : deferOf s.ts (.defer f args) = some d)
    (h : RunO P T rest { s with ds := d :: s.ds, ts := putT s.ts o.dst undef } Q) : RunO P T (o :: rest) s Q := by
  obtain ⟨n, L, h⟩ := h
  refine ⟨n, L, fun o' ho' => h o' ?_⟩
  simp only [xops] at ho'
  rw [if_pos hw] at ho'
  simp only [ho, hd] at ho'
  exact ho'
theorem RunD.nil {s : St} {Q : QP} (h : Q .normal s) : RunD P T [] s Q := ⟨0, 0, fun o ho => by simp [xopsD] at ho; subst ho; exact h⟩
theorem RunD.cons {o : AOper} {rest : List AOper} {s : St} {Q : QP} (hw : wantedT s.ts o.guard = true)
    (hx : RunX P T o.op s.ts s.h (fun v h => o.chk.all (stable P (putT s.ts o.dst v) h) = true ∧ RunD P T rest { s with ts := putT s.ts o.dst v, h := h } Q) (fun c h => o.pan = true ∧ Q (.panic c) { s with h := h })) : RunD P T (o :: rest) s Q := by
  unfold RunD
  simp only [xopsD]
  simp only [if_pos hw]
  refine bind_ok (x := fun n L => xo P (xcall P T L n) s.ts s.h o.op) (F := fun n L => fun
        | .ret v h => if o.chk.all (stable P (putT s.ts o.dst v) h) then xopsD P (xcall P T L n) rest { s with ts := putT s.ts o.dst v, h := h } else [.bad]
        | .pan chain h => if o.pan then [.mk (.panic chain) { s with h := h }] else [.bad]
        | .bad => [.bad])
    (fun n n' L L' h1 h2 h3 => xo_mono (xcall_mono h1 h2) (okC.good h3)) (fun a n n' L L' h1 h2 h3 => ?_) hx fun a ha => ?_
  · cases a with
    | ret v h =>
      simp only at h3 ⊢
      split
      · rename_i hk
        rw [if_pos hk] at h3
        exact xopsD_mono (xcall_mono h1 h2) _ _ (okO.good h3)
      · rfl
    | _ => rfl
  · cases a with
    | ret v h =>
      obtain ⟨n, L, h⟩ := ha.2
      exact ⟨n, L, fun o ho => by simp only [ha.1, if_true] at ho; exact h o ho⟩
    | pan c h => exact ⟨0, 0, fun o ho => by simp only [ha.1, if_true] at ho; simp at ho; subst ho; exact ha.2⟩
    | bad => exact ha.elim
theorem RunD.skip {o : AOper} {rest : List AOper} {s : St} {Q : QP} (hw : wantedT s.ts o.guard = false) (hk : o.chk.all (stable P (putT s.ts o.dst undef) s.h) = true) (h : RunD P T rest { s with ts := putT s.ts o.dst undef } Q) : RunD P T (o :: rest) s Q := by
  obtain ⟨n, L, h⟩ := h
  refine ⟨n, L, fun o' ho => h o' ?_⟩
  simp only [xopsD] at ho
  rw [if_neg (by rw [hw]; simp), if_pos hk] at ho
  exact ho
def thenQ (P : Program) (T : Table) (b : ACode) (Q : QP) : QP
  | .normal, s => RunC P T b s Q
  | e, s => Q e s
def blockQ (id : Nat) (Q : QP) : QP
  | .exit j, s => if j = id then Q .normal s else Q (.exit j) s
  | e, s => Q e s
theorem RunC.mono {c : ACode} {s : St} {Q Q' : QP} (h : RunC P T c s Q) (hq : ∀ e s, Q e s → Q' e s) : RunC P T c s Q' :=
  let ⟨n, L, h⟩ := h
  ⟨n, L, fun o ho => by
    have := h o ho
    cases o with
    | mk e s => exact hq _ _ this
    | bad => exact this⟩
theorem RunC.skip {s : St} {Q : QP} (h : Q .normal s) : RunC P T .skip s Q := ⟨0, 0, fun o ho => by simp [xc] at ho; subst ho; exact h⟩
theorem RunC.exit {id : Nat} {s : St} {Q : QP} (h : Q (.exit id) s) : RunC P T (.exit id) s Q := ⟨0, 0, fun o ho => by simp [xc] at ho; subst ho; exact h⟩
theorem RunC.ret {s : St} {Q : QP} (h : Q .ret s) : RunC P T .ret s Q := ⟨0, 0, fun o ho => by simp [xc] at ho; subst ho; exact h⟩
theorem RunC.region {ops : List AOper} {s : St} {Q : QP} (h : RunO P T ops s Q) : RunC P T (.region ops) s Q := h
theorem RunC.regionD {ops : List AOper} {s : St} {Q : QP} (h : RunD P T ops s Q) : RunC P T (.regionD ops) s Q := h
theorem RunC.regionM {ops : List AOper} {ls : List (List AOper)} {s : St} {Q : QP} (h : RunD P T ops s Q) (h2 : RunC P T (.regionM ls) s Q) : RunC P T (.regionM (ops :: ls)) s Q := by
  obtain ⟨n, L, h⟩ := h
  obtain ⟨n', L', h2⟩ := h2
  refine ⟨max n n', max L L', fun o ho => ?_⟩
  simp only [xc, List.flatMap_cons] at ho
  rcases List.mem_append.1 ho with ho | ho
  · rw [xopsD_mono (xcall_mono (Nat.le_max_left n n') (Nat.le_max_left L L')) _ _ (okO.good h)] at ho
    exact h o ho
  · have := xc_mono (P := P) (xcall_mono (T := T) (Nat.le_max_right n n') (Nat.le_max_right L L')) (Nat.le_max_right L L') (.regionM ls) s (okO.good h2)
    simp only [xc] at this h2
    rw [this] at ho
    exact h2 o ho
theorem RunC.scope {b : ACode} {s : St} {Q : QP} (h : RunC P T b s Q) : RunC P T (.scope b) s Q := h
theorem RunC.seq {a b : ACode} {s : St} {Q : QP} (h : RunC P T a s (thenQ P T b Q)) : RunC P T (.seq a b) s Q := by
  unfold RunC
  simp only [xc]
  refine bind_ok (x := fun n L => xc P (xcall P T L n) L a s) (F := fun n L => fun
    | .mk .normal s' => xc P (xcall P T L n) L b s'
    | o => [o]) (fun n n' L L' h1 h2 h3 => xc_mono (xcall_mono h1 h2) h2 _ _ (okO.good h3)) (fun o n n' L L' h1 h2 h3 => ?_) h fun o ho => ?_
  · cases o with
    | mk e s' => cases e <;> first | rfl | exact xc_mono (xcall_mono h1 h2) h2 _ _ (okO.good h3)
    | bad => rfl
  · cases o with
    | mk e s' =>
      cases e with
      | normal => exact ho
      | _ => exact ⟨0, 0, fun o' ho' => by simp at ho'; subst ho'; exact ho⟩
    | bad => exact ho.elim
theorem RunC.condT {c : Operand} {t e : ACode} {s : St} {Q : QP} (hc : eval s.ts c = .bool true) (h : RunC P T t s Q) : RunC P T (.cond c t e) s Q :=
  let ⟨n, L, h⟩ := h
  ⟨n, L, fun o ho => by simp only [xc, hc] at ho; exact h o ho⟩
theorem RunC.condF {c : Operand} {t e : ACode} {s : St} {Q : QP} (hc : eval s.ts c = .bool false) (h : RunC P T e s Q) : RunC P T (.cond c t e) s Q :=
  let ⟨n, L, h⟩ := h
  ⟨n, L, fun o ho => by simp only [xc, hc] at ho; exact h o ho⟩
theorem RunC.cond {c : Operand} {t e : ACode} {s : St} {Q : QP} {b : Bool} (hc : eval s.ts c = .bool b) (ht : b = true → RunC P T t s Q) (he : b = false → RunC P T e s Q) : RunC P T (.cond c t e) s Q := by
  cases b with
  | true => exact .condT hc (ht rfl)
  | false => exact .condF hc (he rfl)
theorem RunC.block {id : Nat} {b : ACode} {s : St} {Q : QP} (h : RunC P T b s (blockQ id Q)) : RunC P T (.block id b) s Q := by
  obtain ⟨n, L, h⟩ := h
  refine ⟨n, L, fun o ho => ?_⟩
  simp only [xc] at ho
  obtain ⟨o', ho', rfl⟩ := List.mem_map.1 ho
  have := h o' ho'
  cases o' with
  | bad => exact this
  | mk e s' =>
    cases e with
    | exit j =>
      simp only [okO, blockQ] at this ⊢
      split at this
      · rename_i hj; simp only [hj, if_true]; exact this
      · rename_i hj; simp only [hj, if_false]; exact this
    | _ => exact this
theorem RunC.loop {b : ACode} {Q : QP} (I : Nat → St → Prop) (hb : ∀ m s, I m s → RunC P T b s (fun e s' => match e with
    | .normal => ∃ m', m' < m ∧ I m' s'
    | e => Q e s')) : ∀ m s, I m s → RunC P T (.loop b) s Q := by
  intro m
  induction m using Nat.strongRecOn with
  | _ m ih =>
    intro s hi
    have := bind_ok (x := fun n L => xc P (xcall P T L n) L b s) (F := fun n L => fun
        | .mk .normal s' => loopGo (xc P (xcall P T L n) L b) L s'
        | o => [o]) (okB := okO Q) (fun n n' L L' h1 h2 h3 => xc_mono (xcall_mono h1 h2) h2 _ _ (okO.good h3)) (fun o n n' L L' h1 h2 h3 => ?_) (hb m s hi) fun o ho => ?_
    · obtain ⟨n, L, h⟩ := this
      have h : ∀ o ∈ loopGo (xc P (xcall P T L n) L b) (L + 1) s, okO Q o := h
      refine ⟨n, L + 1, fun o ho => h o ?_⟩
      simp only [xc] at ho
      rw [loopGo_mono (f := xc P (xcall P T L n) L b) (fun s hs => xc_mono (xcall_mono (Nat.le_refl _) (Nat.le_succ _)) (Nat.le_succ _) b s hs) _ _ s (Nat.le_refl _) (okO.good h)] at ho
      exact ho
    · cases o with
      | mk e s' =>
        cases e <;> try rfl
        exact loopGo_mono (fun s hs => xc_mono (xcall_mono h1 h2) h2 b s hs) _ _ s' h2 (okO.good h3)
      | bad => rfl
    · cases o with
      | mk e s' =>
        cases e with
        | normal =>
          obtain ⟨m', hm, hi'⟩ := ho
          exact ih m' hm s' hi'
        | _ => exact ⟨0, 0, fun o' ho' => by simp at ho'; subst ho'; exact ho⟩
      | bad => exact ho.elim
def loopQ (J : Nat → St → Prop) (m : Nat) (Q : QP) : QP
  | .normal, s => ∃ m', m' < m ∧ J m' s
  | e, s => Q e s
theorem RunC.loopJ {b : ACode} {Q : QP} (J : Nat → St → Prop) (hb : ∀ m s, J m s → RunC P T b s (loopQ J m Q)) : ∀ m s, J m s → RunC P T (.loop b) s Q :=
  RunC.loop J fun m s hj => (hb m s hj).mono fun e s' hq => by
    cases e <;> exact hq
theorem loopQ.exit {J : Nat → St → Prop} {m : Nat} {Q : QP} {id : Nat} {s : St} (h : Q (.exit id) s) : loopQ J m Q (.exit id) s := h
theorem loopQ.ret {J : Nat → St → Prop} {m : Nat} {Q : QP} {s : St} (h : Q .ret s) : loopQ J m Q .ret s := h
theorem loopQ.panic {J : Nat → St → Prop} {m : Nat} {Q : QP} {c : List PanicEntry} {s : St} (h : Q (.panic c) s) : loopQ J m Q (.panic c) s := h
def lapQ (l : Nat) (s : St) (Q : QP) (h : Heap) : Prop := ∀ o ∈ lapOut l s (.ret undef h), okO Q o
theorem RunC.rangeFunc {f : Operand} {ps : List Nat} {as b : Code} {s : St} {Q : QP} {fid : FuncId} {first captured : List Value} (hl : lapOK s = true) (hf : eval s.ts f = .func (.func fid) ⟨first⟩ ⟨captured⟩)
    (hr : Runs P T (.fn fid) (first ++ [.func (.yield (lapH s).n) #[] #[]] ++ captured) ((lapH s).push (.loop .ready none s.ts ps as b)) (fun _ h => lapQ (lapH s).n (lapS s) Q h) (fun c h => Q (.panic c) { lapS s with h := h })) :
    RunC P T (.rangeFunc f ps as b) s Q := by
  unfold RunC
  simp only [xc, hl, hf, Bool.true_eq_false, if_false]
  refine bind_ok (x := fun n L => xcall P T L n (.fn fid) (first ++ [Value.func (.yield (lapH s).n) #[] #[]] ++ captured) ((lapH s).push (.loop .ready none s.ts ps as b))) (F := fun _ _ => lapOut (lapH s).n (lapS s))
    (okA := okC (fun _ h => lapQ (lapH s).n (lapS s) Q h) (fun c h => Q (.panic c) { lapS s with h := h }))
    (fun n n' L L' h1 h2 h3 => xcall_mono h1 h2 _ _ _ (okC.good h3)) (fun _ _ _ _ _ _ _ _ => rfl) hr fun a ha => ?_
  cases a with
  | ret v h => exact ⟨0, 0, ha⟩
  | pan c h => exact ⟨0, 0, fun o ho => by simp [lapOut] at ho; subst ho; exact ha⟩
  | bad => exact ha.elim
theorem RunL.nil {rs : List (Nat × Option (Option Nat))} {ts : List Value} {h : Heap} {v : Value} {R : RP} {X : XP} (hv : resOf h ts rs = some v) (hR : R v h) : RunL P T rs ts [] .returning h R X :=
  ⟨0, 0, fun o ho => by simp [leave, hv] at ho; subst ho; exact hR⟩
theorem RunL.pan {rs : List (Nat × Option (Option Nat))} {ts : List Value} {h : Heap} {c : List PanicEntry} {R : RP} {X : XP} (hX : X c h) : RunL P T rs ts [] (.panicking c) h R X :=
  ⟨0, 0, fun o ho => by simp [leave] at ho; subst ho; exact hX⟩
theorem RunL.cons {rs : List (Nat × Option (Option Nat))} {ts : List Value} {ds : List Deferred} {u : FrameMode} {h : Heap} {f : FuncId} {captured : List Value} {args : Array Value} {R : RP} {X : XP} (hu : u ≠ .run)
    (hd : RunDf P T f (args.toList ++ captured) u h (fun u' h' => RunL P T rs ts ds (settle u') h' R X) (fun chain u' h' => RunL P T rs ts ds (raised u' chain) h' R X)) :
    RunL P T rs ts ({ target := .fn (.func f) ⟨captured⟩, args := args } :: ds) u h R X := by
  have hlv : ∀ call, leave P T call rs ts ({ target := .fn (.func f) ⟨captured⟩, args := args } :: ds) u h = (xdefer P T call f (args.toList ++ captured) u h).flatMap fun
        | .ret u' h' => leave P T call rs ts ds (settle u') h'
        | .pan chain u' h' => leave P T call rs ts ds (raised u' chain) h'
        | .bad => [.bad] := by
    intro call
    cases u with
    | run => exact absurd rfl hu
    | _ => rfl
  unfold RunL
  simp only [hlv]
  refine bind_ok (x := fun n L => xdefer P T (xcall P T L n) f (args.toList ++ captured) u h) (F := fun n L => fun
        | .ret u' h' => leave P T (xcall P T L n) rs ts ds (settle u') h'
        | .pan chain u' h' => leave P T (xcall P T L n) rs ts ds (raised u' chain) h'
        | .bad => [.bad]) (fun n n' L L' h1 h2 h3 => xdefer_mono (xcall_mono h1 h2) (okD.good h3)) (fun a n n' L L' h1 h2 h3 => ?_) hd fun a ha => ?_
  · cases a with
    | ret u' h' => exact leave_mono (xcall_mono h1 h2) _ _ _ (okC.good h3)
    | pan c u' h' => exact leave_mono (xcall_mono h1 h2) _ _ _ (okC.good h3)
    | bad => rfl
  · cases a with
    | ret u' h' => exact ha
    | pan c u' h' => exact ha
    | bad => exact ha.elim
theorem RunL.collected {rs : List (Nat × Option (Option Nat))} {ts : List Value} {ds : List Deferred} {u : FrameMode} {h : Heap} {r : Nat} {args : Array Value} {R : RP} {X : XP} (hu : u ≠ .run) (hg : h.get r = .defs false)
    (hd : RunL P T rs ts ds u (h.set r (.defs true)) R X) : RunL P T rs ts ({ target := .collected r, args := args } :: ds) u h R X := by
  obtain ⟨n, L, hd⟩ := hd
  refine ⟨n, L, fun o ho => hd o ?_⟩
  cases u with
  | run => exact absurd rfl hu
  | returning => simp only [leave, hg] at ho; exact ho
  | panicking c => simp only [leave, hg] at ho; exact ho
def bodyQ (P : Program) (T : Table) (rs : List (Nat × Option (Option Nat))) (R : RP) (X : XP) : QP
  | .normal, s => RunL P T rs s.ts s.ds .returning s.h R X
  | .ret, s => RunL P T rs s.ts s.ds .returning s.h R X
  | .panic c, s => RunL P T rs s.ts s.ds (.panicking c) s.h R X
  | _, _ => False
theorem Runs.fn {f : FuncId} {af : AFunc} (hT : T f = some af) (hp : af.prim = none) {args : List Value} {h : Heap} {R : RP} {X : XP}
    (hb : RunC P T af.body { ts := pad args af.ntmps, ds := [], h } (bodyQ P T af.results R X)) : Runs P T (.fn f) args h R X := by
  have hx : ∃ n L, ∀ o ∈ xfun P T (xcall P T L n) L af args h, okC R X o := by
    simp only [xfun_eq]
    refine bind_ok (x := fun n L => xc P (xcall P T L n) L af.body { ts := pad args af.ntmps, ds := [], h }) (F := fun n L => outCO P T (xcall P T L n) af)
      (fun n n' L L' h1 h2 h3 => xc_mono (xcall_mono h1 h2) h2 _ _ (okO.good h3)) (fun o n n' L L' h1 h2 h3 => ?_) hb fun o ho => ?_
    · cases o with
      | mk e s => cases e <;> first | rfl | exact leave_mono (xcall_mono h1 h2) _ _ _ (okC.good h3)
      | bad => rfl
    · cases o with
      | mk e s => cases e <;> first | exact ho | exact ho.elim
      | bad => exact ho.elim
  obtain ⟨n, L, h⟩ := hx
  exact ⟨n + 1, L, fun o ho => by simp only [xcall, hT, hp] at ho; exact h o ho⟩
theorem Runs.prim {f : FuncId} {af : AFunc} (hT : T f = some af) {p : List Value → Heap → List CO} (hp : af.prim = some p) {args : List Value} {h : Heap} {R : RP} {X : XP} (hb : ∀ o ∈ p args h, okC R X o) : Runs P T (.fn f) args h R X :=
  ⟨1, 0, fun o ho => by simp only [xcall, hT, hp] at ho; exact hb o ho⟩
def roundQ (P : Program) (T : Table) (l : Nat) (b' : ACode) (R : RP) : QP := fun e s => e = .normal ∧ ∃ pend ts ps as b, s.h.get l = .loop .ready pend ts ps as b ∧
  RunC P T b' { s with h := s.h.set l (.loop .busy pend ts ps as b) } fun e s => okC R (fun _ _ => False) (roundOut l (.mk e s))
theorem Runs.yield {l : Nat} {args : List Value} {h : Heap} {st : LoopState} {pend : Option Code} {ts : List Value} {ps : List Nat} {as b : Code} {as' b' : ACode} {R : RP} {X : XP} (hg : h.get l = .loop st pend ts ps as b)
    (hn : args.length = ps.length ∧ noDefer as = true ∧ noDefer b = true) (ha : comp P as = some as') (hb : comp P b = some b')
    (hr : RunC P T as' { ts := putAll ts ps args, ds := [], h, rd := some l } (roundQ P T l b' R)) : Runs P T (.yield l) args h R X := by
  have hx : ∃ n L, ∀ o ∈ xround P (xcall P T L n) L l args h, okC R X o := by
    simp only [xround, hg]
    simp only [if_pos hn, ha, hb]
    refine bind_ok (x := fun n L => xc P (xcall P T L n) L as' { ts := putAll ts ps args, ds := [], h, rd := some l }) (F := fun n L => bodyOut P (xcall P T L n) L l b')
      (fun n n' L L' h1 h2 h3 => xc_mono (xcall_mono h1 h2) h2 _ _ (okO.good h3)) (fun o n n' L L' h1 h2 h3 => ?_) hr fun o ho => ?_
    · cases o with
      | bad => rfl
      | mk e s =>
        cases e <;> try rfl
        simp only [bodyOut] at h3 ⊢
        split
        · rename_i pend1 ts1 ps1 as1 b1 hget1
          rw [hget1] at h3
          simp only at h3
          rw [xc_mono (xcall_mono h1 h2) h2 _ _ fun o ho hb => by
            subst hb
            exact h3 .bad (List.mem_map.2 ⟨_, ho, rfl⟩)]
        · rfl
    · cases o with
      | bad => exact ho.elim
      | mk e s =>
        obtain ⟨rfl, pend1, ts1, ps1, as1, b1, hget, n, L, hrun⟩ := ho
        refine ⟨n, L, fun o ho => ?_⟩
        simp only [bodyOut, hget] at ho
        obtain ⟨o', ho', rfl⟩ := List.mem_map.1 ho
        have := hrun o' ho'
        cases o' with
        | mk e s => exact okC.mono (fun _ _ h => h) (fun _ _ h => h.elim) this
        | bad => exact this.elim
  obtain ⟨n, L, h⟩ := hx
  exact ⟨n + 1, L, fun o ho => by simp only [xcall] at ho; exact h o ho⟩
def thenT (P : Program) (T : Table) (b : ACode) (Q : QS) : QS
  | .normal, s => RunT P T b s Q
  | e, s => Q e s
theorem RunT.skip {s : StS} {Q : QS} (h : Q .normal s) : RunT P T .skip s Q := ⟨0, 0, fun o ho => by simp [xcS] at ho; subst ho; exact h⟩
theorem RunT.ret {s : StS} {Q : QS} (h : Q .ret s) : RunT P T .ret s Q := ⟨0, 0, fun o ho => by simp [xcS] at ho; subst ho; exact h⟩
theorem RunT.region {ops : List AOper} {s : StS} {Q : QS} (h : RunTO P T ops s Q) : RunT P T (.region ops) s Q := h
theorem RunT.regionD {ops : List AOper} {s : StS} {Q : QS} (h : ∃ n L, ∀ o ∈ xopsD P (noY (xcall P T L n)) ops s.s, okO (fun e s' => Q e { s := s', up := s.up }) o) : RunT P T (.regionD ops) s Q := by
  obtain ⟨n, L, h⟩ := h
  refine ⟨n, L, fun o ho => ?_⟩
  simp only [xcS] at ho
  obtain ⟨o', ho', rfl⟩ := List.mem_map.1 ho
  have := h o' ho'
  cases o' with
  | mk e s' => exact this
  | bad => exact this
theorem RunT.seq {a b : ACode} {s : StS} {Q : QS} (h : RunT P T a s (thenT P T b Q)) : RunT P T (.seq a b) s Q := by
  unfold RunT
  simp only [xcS]
  refine bind_ok (x := fun n L => xcS P (noY (xcall P T L n)) a s) (F := fun n L => fun
    | .mk .normal s' => xcS P (noY (xcall P T L n)) b s'
    | o => [o]) (fun n n' L L' h1 h2 h3 => xcS_mono (noY_mono (xcall_mono h1 h2)) _ _ (okS.good h3)) (fun o n n' L L' h1 h2 h3 => ?_) h fun o ho => ?_
  · cases o with
    | mk e s' => cases e <;> first | rfl | exact xcS_mono (noY_mono (xcall_mono h1 h2)) _ _ (okS.good h3)
    | bad => rfl
  · cases o with
    | mk e s' =>
      cases e with
      | normal => exact ho
      | _ => exact ⟨0, 0, fun o' ho' => by simp at ho'; subst ho'; exact ho⟩
    | bad => exact ho.elim
theorem RunT.condT {c : Operand} {t e : ACode} {s : StS} {Q : QS} (hc : eval s.s.ts c = .bool true) (h : RunT P T t s Q) : RunT P T (.cond c t e) s Q :=
  let ⟨n, L, h⟩ := h
  ⟨n, L, fun o ho => by simp only [xcS, hc] at ho; exact h o ho⟩
theorem RunT.condF {c : Operand} {t e : ACode} {s : StS} {Q : QS} (hc : eval s.s.ts c = .bool false) (h : RunT P T e s Q) : RunT P T (.cond c t e) s Q :=
  let ⟨n, L, h⟩ := h
  ⟨n, L, fun o ho => by simp only [xcS, hc] at ho; exact h o ho⟩
theorem RunTO.nil {s : StS} {Q : QS} (h : Q .normal s) : RunTO P T [] s Q := ⟨0, 0, fun o ho => by simp [xopsS] at ho; subst ho; exact h⟩
theorem RunTO.recover {o : AOper} {rest : List AOper} {s : StS} {Q : QS} (hw : wantedT s.s.ts o.guard = true) (ho : o.op = .recover)
    (h : RunTO P T rest { s := { s.s with ts := putT s.s.ts o.dst (recovered s.up).1 }, up := (recovered s.up).2 } Q) : RunTO P T (o :: rest) s Q := by
  obtain ⟨n, L, h⟩ := h
  refine ⟨n, L, fun o' ho' => h o' ?_⟩
  simp only [xopsS] at ho'
  rw [if_pos hw] at ho'
  simp only [ho] at ho'
  exact ho'
theorem RunTO.skip {o : AOper} {rest : List AOper} {s : StS} {Q : QS} (hw : wantedT s.s.ts o.guard = false)
    (h : RunTO P T rest { s with s := { s.s with ts := putT s.s.ts o.dst undef } } Q) : RunTO P T (o :: rest) s Q := by
  obtain ⟨n, L, h⟩ := h
  refine ⟨n, L, fun o' ho' => h o' ?_⟩
  simp only [xopsS] at ho'
  rw [if_neg (by rw [hw]; simp)] at ho'
  exact ho'
def RunXn (P : Program) (T : Table) (op : AOp) (ts : List Value) (h : Heap) (R : RP) (X : XP) : Prop := ∃ n L, ∀ o ∈ xo P (noY (xcall P T L n)) ts h op, okC R X o
theorem RunXn.ok {op : AOp} {ts : List Value} {h h' : Heap} {v : Value} {R : RP} {X : XP} (hs : ∀ call, xo P call ts h op = [.ret v h']) (hR : R v h') : RunXn P T op ts h R X :=
  ⟨0, 0, fun o ho => by rw [hs] at ho; simp at ho; subst ho; exact hR⟩
theorem RunXn.pan {op : AOp} {ts : List Value} {h h' : Heap} {c : List PanicEntry} {R : RP} {X : XP} (hs : ∀ call, xo P call ts h op = [.pan c h']) (hX : X c h') : RunXn P T op ts h R X :=
  ⟨0, 0, fun o ho => by rw [hs] at ho; simp at ho; subst ho; exact hX⟩
theorem RunXn.call {f : Operand} {args : List Operand} {ts vs : List Value} {t : FuncId} {h : Heap} {R : RP} {X : XP} (ht : target (eval ts f) (args.map (eval ts)) = some (some (.fn t, vs))) (hr : Runs P T (.fn t) vs h R X) : RunXn P T (.callV f args) ts h R X :=
  let ⟨n, L, hr⟩ := hr
  ⟨n, L, fun o ho => by simp only [xo, ht, noY] at ho; exact hr o ho⟩
theorem xopsS_step {call : Caller} {o : AOper} {rest : List AOper} {s : StS} (hw : wantedT s.s.ts o.guard = true) (hnd : ∀ f a, o.op ≠ .defer f a) (hnr : o.op ≠ .recover) :
    xopsS P call (o :: rest) s = (xo P call s.s.ts s.s.h o.op).flatMap fun
          | .ret v h => xopsS P call rest { s with s := { s.s with ts := putT s.s.ts o.dst v, h := h } }
          | .pan chain h => [.mk (.panic chain) { s with s := { s.s with h := h } }]
          | .bad => [.bad] := by
  simp only [xopsS]
  rw [if_pos hw]
  refine flatMap_eq fun a _ => ?_
  cases a <;> rfl
theorem RunTO.cons {o : AOper} {rest : List AOper} {s : StS} {Q : QS} (hw : wantedT s.s.ts o.guard = true) (hnd : ∀ f a, o.op ≠ .defer f a) (hnr : o.op ≠ .recover)
    (hx : RunXn P T o.op s.s.ts s.s.h (fun v h => RunTO P T rest { s with s := { s.s with ts := putT s.s.ts o.dst v, h := h } } Q) (fun c h => Q (.panic c) { s with s := { s.s with h := h } })) : RunTO P T (o :: rest) s Q := by
  unfold RunTO
  simp only [xopsS_step hw hnd hnr]
  refine bind_ok (x := fun n L => xo P (noY (xcall P T L n)) s.s.ts s.s.h o.op) (F := fun n L => fun
          | .ret v h => xopsS P (noY (xcall P T L n)) rest { s with s := { s.s with ts := putT s.s.ts o.dst v, h := h } }
          | .pan chain h => [.mk (.panic chain) { s with s := { s.s with h := h } }]
          | .bad => [.bad])
    (fun n n' L L' h1 h2 h3 => xo_mono (noY_mono (xcall_mono h1 h2)) (okC.good h3)) (fun a n n' L L' h1 h2 h3 => ?_) hx fun a ha => ?_
  · cases a with
    | ret v h => exact xopsS_mono (noY_mono (xcall_mono h1 h2)) _ _ (okS.good h3)
    | _ => rfl
  · cases a with
    | ret v h => exact ha
    | pan c h => exact ⟨0, 0, fun o ho => by simp at ho; subst ho; exact ha⟩
    | bad => exact ha.elim
def doneQ (rs : List (Nat × Option (Option Nat))) (R : FrameMode → Heap → Prop) (X : List PanicEntry → FrameMode → Heap → Prop) : QS
  | .normal, s => s.s.ds = [] ∧ (∃ v, resOf s.s.h s.s.ts rs = some v) ∧ R s.up s.s.h
  | .ret, s => s.s.ds = [] ∧ (∃ v, resOf s.s.h s.s.ts rs = some v) ∧ R s.up s.s.h
  | .panic c, s => s.s.ds = [] ∧ X c s.up s.s.h
  | _, _ => False
theorem RunDf.fn {f : FuncId} {af : AFunc} (hT : T f = some af) (hp : af.prim = none) {args : List Value} {u : FrameMode} {h : Heap} {R : FrameMode → Heap → Prop} {X : List PanicEntry → FrameMode → Heap → Prop}
    (hb : RunT P T af.body { s := { ts := pad args af.ntmps, ds := [], h }, up := u } (doneQ af.results R X)) : RunDf P T f args u h R X := by
  obtain ⟨n, L, hb⟩ := hb
  refine ⟨n, L, fun o ho => ?_⟩
  rw [xdefer_eq hT, if_neg (by rw [hp]; simp)] at ho
  obtain ⟨o', ho', rfl⟩ := List.mem_map.1 ho
  have := hb o' ho'
  cases o' with
  | bad => exact this.elim
  | mk e s =>
    cases e with
    | normal =>
      obtain ⟨h1, ⟨v, h2⟩, h3⟩ := this
      simp only [doneS, h1, h2]; exact h3
    | ret =>
      obtain ⟨h1, ⟨v, h2⟩, h3⟩ := this
      simp only [doneS, h1, h2]; exact h3
    | panic c =>
      obtain ⟨h1, h3⟩ := this
      simp only [doneS, h1]; exact h3
    | _ => exact this.elim
theorem calls_of_runs (hm : P.follows .mixedOrders = true) (hT : TableOK P T) {f : FuncId} {args args' : List Value} {g : Gh} {h : Heap} {B : Nat} {w0 w : World} {R : RP} {X : XP} (hr : HR g h B w0 w) (hv : VRL g args args')
    (hrun : Runs P T (.fn f) args h R X) : Calls P f ⟨args'⟩ w fun e w' => match e with
      | .returned v => ∃ g' u h', R u h' ∧ Le g g' ∧ HR g' h' B w0 w' ∧ VR g' u v
      | .panicked c' => ∃ g' c h', X c h' ∧ Le g g' ∧ HR g' h' B w0 w' ∧ ChR g' c c'
      | .outgrown => False := by
  obtain ⟨n, L, hrun⟩ := hrun
  refine (((xcall_sound hT L (fun _ hc _ _ => draws_ok hm hc) n).2 f args args' g h B w0 w hr hv (okC.good hrun)).2).mono fun e w' he => ?_
  cases e with
  | returned v =>
    obtain ⟨g', u, h', hm, hl, hr, hv⟩ := he
    exact ⟨g', u, h', hrun _ hm, hl, hr, hv⟩
  | panicked c =>
    obtain ⟨g', u, h', hm, hl, hr, hv⟩ := he
    exact ⟨g', u, h', hrun _ hm, hl, hr, hv⟩
  | outgrown => exact he.elim
theorem thenQ.next {b : ACode} {Q : QP} {s : St} (h : RunC P T b s Q) : thenQ P T b Q .normal s := h
theorem thenQ.ret {b : ACode} {Q : QP} {s : St} (h : Q .ret s) : thenQ P T b Q .ret s := h
theorem thenQ.exit {b : ACode} {Q : QP} {s : St} {j : Nat} (h : Q (.exit j) s) : thenQ P T b Q (.exit j) s := h
theorem thenQ.panic {b : ACode} {Q : QP} {s : St} {c : List PanicEntry} (h : Q (.panic c) s) : thenQ P T b Q (.panic c) s := h
theorem blockQ.next {Q : QP} {s : St} {id : Nat} (h : Q .normal s) : blockQ id Q .normal s := h
theorem blockQ.ret {Q : QP} {s : St} {id : Nat} (h : Q .ret s) : blockQ id Q .ret s := h
theorem blockQ.panic {Q : QP} {s : St} {id : Nat} {c : List PanicEntry} (h : Q (.panic c) s) : blockQ id Q (.panic c) s := h
theorem blockQ.exit {Q : QP} {s : St} {id : Nat} (h : Q .normal s) : blockQ id Q (.exit id) s := by simp only [blockQ, if_true]; exact h
theorem blockQ.pass {Q : QP} {s : St} {id j : Nat} (hne : j ≠ id) (h : Q (.exit j) s) : blockQ id Q (.exit j) s := by simp only [blockQ, if_neg hne]; exact h
theorem loopQ.again {J : Nat → St → Prop} {m : Nat} {Q : QP} {s : St} (m' : Nat) (hm : m' < m) (h : J m' s) : loopQ J m Q .normal s := ⟨m', hm, h⟩
theorem bodyQ.onRet {rs : List (Nat × Option (Option Nat))} {R : RP} {X : XP} {s : St} (h : RunL P T rs s.ts s.ds .returning s.h R X) : bodyQ P T rs R X .ret s := h
theorem bodyQ.onEnd {rs : List (Nat × Option (Option Nat))} {R : RP} {X : XP} {s : St} (h : RunL P T rs s.ts s.ds .returning s.h R X) : bodyQ P T rs R X .normal s := h
theorem bodyQ.onPanic {rs : List (Nat × Option (Option Nat))} {R : RP} {X : XP} {s : St} {c : List PanicEntry} (h : RunL P T rs s.ts s.ds (.panicking c) s.h R X) : bodyQ P T rs R X (.panic c) s := h
theorem thenT.next {b : ACode} {Q : QS} {s : StS} (h : RunT P T b s Q) : thenT P T b Q .normal s := h
theorem thenT.ret {b : ACode} {Q : QS} {s : StS} (h : Q .ret s) : thenT P T b Q .ret s := h
theorem thenT.panic {b : ACode} {Q : QS} {s : StS} {c : List PanicEntry} (h : Q (.panic c) s) : thenT P T b Q (.panic c) s := h
theorem doneQ.onEnd {rs : List (Nat × Option (Option Nat))} {R : FrameMode → Heap → Prop} {X : List PanicEntry → FrameMode → Heap → Prop} {s : StS} (h1 : s.s.ds = []) (h2 : ∃ v, resOf s.s.h s.s.ts rs = some v) (h3 : R s.up s.s.h) : doneQ rs R X .normal s := ⟨h1, h2, h3⟩
theorem doneQ.onRet {rs : List (Nat × Option (Option Nat))} {R : FrameMode → Heap → Prop} {X : List PanicEntry → FrameMode → Heap → Prop} {s : StS} (h1 : s.s.ds = []) (h2 : ∃ v, resOf s.s.h s.s.ts rs = some v) (h3 : R s.up s.s.h) : doneQ rs R X .ret s := ⟨h1, h2, h3⟩
theorem doneQ.onPanic {rs : List (Nat × Option (Option Nat))} {R : FrameMode → Heap → Prop} {X : List PanicEntry → FrameMode → Heap → Prop} {s : StS} {c : List PanicEntry} (h1 : s.s.ds = []) (h3 : X c s.up s.s.h) : doneQ rs R X (.panic c) s := ⟨h1, h3⟩
end
attribute [irreducible] Runs RunX RunO RunD RunC RunL RunTO RunT RunDf RunXn thenQ blockQ loopQ bodyQ thenT doneQ
end Go.Vm
