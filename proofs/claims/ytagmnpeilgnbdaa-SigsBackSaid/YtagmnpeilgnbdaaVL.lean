/- A small machine over an abstract heap: remembered calls whose outcomes are told with fewer blocks (those that nobody has any more are dead). -/
import Derived.Test.YtagmnpeilgnbdaaVJ
set_option linter.unusedSimpArgs false
set_option linter.unusedVariables false
namespace Go.Vm
open Go
def Fewer (h h' : Heap) : Prop := h'.n = h.n ∧ ∀ i, h'.get i = h.get i ∨ h'.get i = .dead
theorem HR.fewer {g : Gh} {h h' : Heap} {B : Nat} {w0 w : World} (hr : HR g h B w0 w) (hf : Fewer h h') : ∃ g', Le g g' ∧ HR g' h' B w0 w := by
  classical
  obtain ⟨hn, hd⟩ := hf
  let G : Gh := (List.range g.length).map fun i => if h'.get i = h.get i then (g[i]?).join else none
  have hG : ∀ i (x : GB), G[i]? = some (some x) → i < g.length ∧ h'.get i = h.get i ∧ g[i]? = some (some x) := fun i x hi => by
    have hlt : i < g.length := by
      have := (List.getElem?_eq_some_iff.1 hi).1
      simpa [G] using this
    simp only [G, List.getElem?_map, List.getElem?_range hlt, Option.map_some] at hi
    injection hi with hi
    by_cases he : h'.get i = h.get i
    · rw [if_pos he] at hi
      refine ⟨hlt, he, ?_⟩
      rw [List.getElem?_eq_getElem hlt] at hi ⊢
      simp at hi
      rw [hi]
    · rw [if_neg he] at hi; cases hi
  have hle : Le g G := ⟨by simp [G], fun i _ x hx => (hG i x hx).2.2⟩
  refine ⟨G, hle, ?_, ?_, ?_, ?_, hr.below, hr.base, ?_⟩
  · simp [G, hr.len, hn]
  · intro i x hx
    obtain ⟨h1, h2, h3⟩ := hG i x hx
    rw [h2]
    obtain ⟨a, b, c⟩ := hr.alive i x h3
    exact ⟨a, b, c.mono hle⟩
  · intro i j x y hB hx hy hb
    exact hr.inj i j x y hB (hG i x hx).2.2 (hG j y hy).2.2 hb
  · intro i hi
    rcases hd i with he | he
    · rw [he]
      refine hr.dead i fun x hx => hi x ?_
      have hlt : i < g.length := (List.getElem?_eq_some_iff.1 hx).1
      simp only [G, List.getElem?_map, List.getElem?_range hlt, Option.map_some, if_pos he, hx, Option.join_some]
    · exact he
  · have h0 := (List.getElem?_eq_some_iff.1 hr.zero).1
    simp only [G, List.getElem?_map, List.getElem?_range h0, Option.map_some, hr.zero, Option.join_some]
    split <;> rfl
def fewT : Tr → Tr → Bool
  | .nil, .nil => true
  | .node v l r, .node w m s => (oeq v w || oeq w .dead) && fewT l m && fewT r s
  | _, _ => false
theorem fewT_get : ∀ (a b : Tr), fewT a b = true → ∀ i, b.get i = a.get i ∨ b.get i = .dead
  | .nil, b, h, i => by
    cases b with
    | nil => exact .inl rfl
    | node => simp [fewT] at h
  | .node v l r, b, h, i => by
    cases b with
    | nil => simp [fewT] at h
    | node w m s =>
      simp only [fewT, Bool.and_eq_true, Bool.or_eq_true] at h
      unfold Tr.get
      by_cases h0 : i = 0
      · rw [if_pos h0, if_pos h0]
        rcases h.1.1 with h1 | h1
        · exact .inl (oeq_eq h1).symm
        · exact .inr (oeq_eq h1)
      · rw [if_neg h0, if_neg h0]
        split
        · exact fewT_get l m h.1.2 _
        · exact fewT_get r s h.2 _
def fewO : CO → CO → Bool
  | .ret v h, .ret u k => veq v u && h.n == k.n && fewT h.t k.t
  | _, _ => false
def fewOK (outs outs' : List CO) : Bool := outs.all fun o => outs'.any (fewO o)
theorem CPost.fewer {B : Nat} {w0 : World} {g : Gh} {outs outs' : List CO} (hf : fewOK outs outs' = true) {e : Ending} {w : World} (hp : CPost B w0 g outs e w) : CPost B w0 g outs' e w := by
  unfold fewOK at hf
  rw [List.all_eq_true] at hf
  cases e with
  | returned v =>
    obtain ⟨g', u, h', hm, hl, hr, hv⟩ := hp
    have := hf _ hm
    rw [List.any_eq_true] at this
    obtain ⟨o, ho, hoo⟩ := this
    cases o with
    | ret u2 k =>
      simp only [fewO, Bool.and_eq_true] at hoo
      have e1 := veq_eq hoo.1.1
      have e2 := hoo.1.2
      simp at e2
      subst e1
      obtain ⟨g2, hl2, hr2⟩ := hr.fewer (h' := k) ⟨e2.symm, fewT_get _ _ hoo.2⟩
      exact ⟨g2, u, k, ho, hl.trans hl2, hr2, hv.mono hl2⟩
    | pan c k => simp [fewO] at hoo
    | bad => simp [fewO] at hoo
  | panicked c =>
    obtain ⟨g', u, h', hm, _⟩ := hp
    have := hf _ hm
    rw [List.any_eq_true] at this
    obtain ⟨o, ho, hoo⟩ := this
    cases o <;> simp [fewO] at hoo
  | outgrown => exact hp
def MemoF (P : Program) (k : FuncId) (m : Memo) : Prop := ∀ e ∈ m, ∃ T L n, TableOK P T ∧ fewOK (xcall P T L n (.fn k) e.1 e.2.1) e.2.2 = true
theorem MemoF.nil {P : Program} {k : FuncId} : MemoF P k [] := fun e he => by cases he
theorem MemoF.cons {P : Program} {k : FuncId} {T : Table} {L n : Nat} {args : List Value} {h : Heap} {outs : List CO} {m : Memo} (hT : TableOK P T) (hr : fewOK (xcall P T L n (.fn k) args h) outs = true) (hm : MemoF P k m) : MemoF P k ((args, h, outs) :: m) := fun e he => by
  rcases List.mem_cons.1 he with rfl | he
  · exact ⟨T, L, n, hT, hr⟩
  · exact hm e he
theorem withMemoF_ok {P : Program} (hmix : P.follows .mixedOrders = true) {T : Table} (hT : TableOK P T) {k : FuncId} {m : Memo} (hm : MemoF P k m) : TableOK P (withMemo T k m) := by
  intro f af hf
  unfold withMemo at hf
  split at hf
  · rename_i hfk
    cases hf
    subst hfk
    intro args args' g h B w0 w hr hv hg
    have key : ∀ m : Memo, MemoF P f m → (∀ o ∈ memoAns m args h, o ≠ .bad) → FnOK P f ∧ Calls P f ⟨args'⟩ w (CPost B w0 g (memoAns m args h)) := by
      intro m
      induction m with
      | nil => intro _ hg; exact absurd rfl (hg .bad (by simp [memoAns]))
      | cons e m ih =>
        intro hm hg
        unfold memoAns at hg ⊢
        by_cases hc : (veqL e.1 args && heq e.2.1 h) = true
        · rw [if_pos hc] at hg ⊢
          simp only [Bool.and_eq_true] at hc
          obtain ⟨T', L, n, hT', he⟩ := hm e (List.mem_cons_self ..)
          rw [veqL_eq hc.1, heq_eq hc.2] at he
          have hgood : ∀ o ∈ xcall P T' L n (.fn f) args h, o ≠ .bad := fun o ho e2 => by
            subst e2
            unfold fewOK at he
            rw [List.all_eq_true] at he
            have := he _ ho
            rw [List.any_eq_true] at this
            obtain ⟨o', _, h2⟩ := this
            simp [fewO] at h2
          obtain ⟨h1, h2⟩ := (xcall_sound hT' L (fun _ hc _ _ => draws_ok hmix hc) n).2 f args args' g h B w0 w hr hv hgood
          exact ⟨h1, h2.mono fun e w hp => hp.fewer he⟩
        · rw [if_neg hc] at hg ⊢
          exact ih (fun e he => hm e (List.mem_cons_of_mem _ he)) hg
    exact key m hm hg
  · exact hT f af hf
end Go.Vm

/- A small machine over an abstract heap: a function of bytes that is known to answer cells of these bytes alone. -/
set_option linter.unusedSimpArgs false
set_option linter.unusedVariables false
namespace Go.Vm
open Go
def bytesAns (F : List UInt8 → List Value) (args : List Value) (h : Heap) : List CO := match args with
  | [.slice (some a) n _] => match cellsAt h a.block a.off n with
    | some c => match bytesOf c with
      | some l => if (veqL c (bcells l) && decide (0 < n) && decide (n < 1048576)) = true then [.ret (.agg ⟨F l⟩) h] else [.bad]
      | none => [.bad]
    | none => [.bad]
  | _ => [.bad]
def bytesPrim (F : List UInt8 → List Value) : AFunc := ⟨0, [], .skip, some (bytesAns F)⟩
def withBytes (T : Table) (k : FuncId) (F : List UInt8 → List Value) : Table := fun f => if f = k then some (bytesPrim F) else T f
end Go.Vm
