/- A small machine over an abstract heap: remembered calls whose outcomes are told with fewer blocks (those that nobody has any more are dead). -/
import Derived.Test.YtbmpalbdbcjieaaGreatVJ
set_option linter.unusedSimpArgs false
set_option linter.unusedVariables false
namespace Go.Vm
open Go
def Fewer (h h' : Heap) : Prop := h'.n = h.n ∧ ∀ i, h'.get i = h.get i ∨ h'.get i = .dead
theorem HR.fewer {g : Gh} {h h' : Heap} {B : Nat} {w0 w : World} (hr : HR g h B w0 w) (hf : Fewer h h') : ∃ g', Le g g' ∧ HR g' h' B w0 w := by
  classical
  obtain ⟨hn, hd⟩ := hf
  let G : Gh := (List.range g.length).map fun i => if h'.get i = h.get i then (g[i]?).join else none
  have hG : ∀ i (x : GB), G[i]? = some (some x) → i < g.length ∧ h'.get i = h.get i ∧ g[i]? = some (some x) := fun i x hi => by
    have hlt : i < g.length := by
      have := (List.getElem?_eq_some_iff.1 hi).1
      simpa [G] using this
    simp only [G, List.getElem?_map, List.getElem?_range hlt, Option.map_some] at hi
    injection hi with hi
    by_cases he : h'.get i = h.get i
    · rw [if_pos he] at hi
      refine ⟨hlt, he, ?_⟩
      rw [List.getElem?_eq_getElem hlt] at hi ⊢
      simp at hi
      rw [hi]
    · rw [if_neg he] at hi; cases hi
  have hle : Le g G := ⟨by simp [G], fun i _ x hx => (hG i x hx).2.2⟩
  refine ⟨G, hle, ?_, ?_, ?_, ?_, hr.below, hr.base, ?_⟩
  · simp [G, hr.len, hn]
  · intro i x hx
    obtain ⟨h1, h2, h3⟩ := hG i x hx
    rw [h2]
    obtain ⟨a, b, c⟩ := hr.alive i x h3
    exact ⟨a, b, c.mono hle⟩
  · intro i j x y hB hx hy hb
    exact hr.inj i j x y hB (hG i x hx).2.2 (hG j y hy).2.2 hb
  · intro i hi
    rcases hd i with he | he
    · rw [he]
      refine hr.dead i fun x hx => hi x ?_
      have hlt : i < g.length := (List.getElem?_eq_some_iff.1 hx).1
      simp only [G, List.getElem?_map, List.getElem?_range hlt, Option.map_some, if_pos he, hx, Option.join_some]
    · exact he
  · have h0 := (List.getElem?_eq_some_iff.1 hr.zero).1
    simp only [G, List.getElem?_map, List.getElem?_range h0, Option.map_some, hr.zero, Option.join_some]
    split <;> rfl
def fewT : Tr → Tr → Bool
  | .nil, .nil => true
  | .node v l r, .node w m s => (oeq v w || oeq w .dead) && fewT l m && fewT r s
  | _, _ => false
theorem fewT_get : ∀ (a b : Tr), fewT a b = true → ∀ i, b.get i = a.get i ∨ b.get i = .dead
  | .nil, b, h, i => by
    cases b with
    | nil => exact .inl rfl
    | node => simp [fewT] at h
  | .node v l r, b, h, i => by
    cases b with
    | nil => simp [fewT] at h
    | node w m s =>
      simp only [fewT, Bool.and_eq_true, Bool.or_eq_true] at h
      unfold Tr.get
      by_cases h0 : i = 0
      · rw [if_pos h0, if_pos h0]
        rcases h.1.1 with h1 | h1
        · exact .inl (oeq_eq h1).symm
        · exact .inr (oeq_eq h1)
      · rw [if_neg h0, if_neg h0]
        split
        · exact fewT_get l m h.1.2 _
        · exact fewT_get r s h.2 _
def fewO : CO → CO → Bool
  | .ret v h, .ret u k => veq v u && h.n == k.n && fewT h.t k.t
  | _, _ => false
def fewOK (outs outs' : List CO) : Bool := outs.all fun o => outs'.any (fewO o)
theorem CPost.fewer {B : Nat} {w0 : World} {g : Gh} {outs outs' : List CO} (hf : fewOK outs outs' = true) {e : Ending} {w : World} (hp : CPost B w0 g outs e w) : CPost B w0 g outs' e w := by
  unfold fewOK at hf
  rw [List.all_eq_true] at hf
  cases e with
  | returned v =>
    obtain ⟨g', u, h', hm, hl, hr, hv⟩ := hp
    have := hf _ hm
    rw [List.any_eq_true] at this
    obtain ⟨o, ho, hoo⟩ := this
    cases o with
    | ret u2 k =>
      simp only [fewO, Bool.and_eq_true] at hoo
      have e1 := veq_eq hoo.1.1
      have e2 := hoo.1.2
      simp at e2
      subst e1
      obtain ⟨g2, hl2, hr2⟩ := hr.fewer (h' := k) ⟨e2.symm, fewT_get _ _ hoo.2⟩
      exact ⟨g2, u, k, ho, hl.trans hl2, hr2, hv.mono hl2⟩
    | pan c k => simp [fewO] at hoo
    | bad => simp [fewO] at hoo
  | panicked c =>
    obtain ⟨g', u, h', hm, _⟩ := hp
    have := hf _ hm
    rw [List.any_eq_true] at this
    obtain ⟨o, ho, hoo⟩ := this
    cases o <;> simp [fewO] at hoo
  | outgrown => exact hp
def MemoF (P : Program) (k : FuncId) (m : Memo) : Prop := ∀ e ∈ m, ∃ T L n, TableOK P T ∧ fewOK (xcall P T L n (.fn k) e.1 e.2.1) e.2.2 = true
theorem MemoF.nil {P : Program} {k : FuncId} : MemoF P k [] := fun e he => by cases he
theorem MemoF.cons {P : Program} {k : FuncId} {T : Table} {L n : Nat} {args : List Value} {h : Heap} {outs : List CO} {m : Memo} (hT : TableOK P T) (hr : fewOK (xcall P T L n (.fn k) args h) outs = true) (hm : MemoF P k m) : MemoF P k ((args, h, outs) :: m) := fun e he => by
  rcases List.mem_cons.1 he with rfl | he
  · exact ⟨T, L, n, hT, hr⟩
  · exact hm e he
theorem withMemoF_ok {P : Program} (hmix : P.follows .mixedOrders = true) {T : Table} (hT : TableOK P T) {k : FuncId} {m : Memo} (hm : MemoF P k m) : TableOK P (withMemo T k m) := by
  intro f af hf
  unfold withMemo at hf
  split at hf
  · rename_i hfk
    cases hf
    subst hfk
    intro args args' g h B w0 w hr hv hg
    have key : ∀ m : Memo, MemoF P f m → (∀ o ∈ memoAns m args h, o ≠ .bad) → FnOK P f ∧ Calls P f ⟨args'⟩ w (CPost B w0 g (memoAns m args h)) := by
      intro m
      induction m with
      | nil => intro _ hg; exact absurd rfl (hg .bad (by simp [memoAns]))
      | cons e m ih =>
        intro hm hg
        unfold memoAns at hg ⊢
        by_cases hc : (veqL e.1 args && heq e.2.1 h) = true
        · rw [if_pos hc] at hg ⊢
          simp only [Bool.and_eq_true] at hc
          obtain ⟨T', L, n, hT', he⟩ := hm e (List.mem_cons_self ..)
          rw [veqL_eq hc.1, heq_eq hc.2] at he
          have hgood : ∀ o ∈ xcall P T' L n (.fn f) args h, o ≠ .bad := fun o ho e2 => by
            subst e2
            unfold fewOK at he
            rw [List.all_eq_true] at he
            have := he _ ho
            rw [List.any_eq_true] at this
            obtain ⟨o', _, h2⟩ := this
            simp [fewO] at h2
          obtain ⟨h1, h2⟩ := (xcall_sound hT' L (fun _ hc _ _ => draws_ok hmix hc) n).2 f args args' g h B w0 w hr hv hgood
          exact ⟨h1, h2.mono fun e w hp => hp.fewer he⟩
        · rw [if_neg hc] at hg ⊢
          exact ih (fun e he => hm e (List.mem_cons_of_mem _ he)) hg
    exact key m hm hg
  · exact hT f af hf
end Go.Vm

/- A small machine over an abstract heap: a function of bytes that is known to answer cells of these bytes alone. -/
set_option linter.unusedSimpArgs false
set_option linter.unusedVariables false
namespace Go.Vm
open Go
def bytesAns (F : List UInt8 → List Value) (args : List Value) (h : Heap) : List CO := match args with
  | [.slice (some a) n _] => match cellsAt h a.block a.off n with
    | some c => match bytesOf c with
      | some l => if (veqL c (bcells l) && decide (0 < n) && decide (n < 1048576)) = true then [.ret (.agg ⟨F l⟩) h] else [.bad]
      | none => [.bad]
    | none => [.bad]
  | _ => [.bad]
def bytesPrim (F : List UInt8 → List Value) : AFunc := ⟨0, [], .skip, some (bytesAns F)⟩
def withBytes (T : Table) (k : FuncId) (F : List UInt8 → List Value) : Table := fun f => if f = k then some (bytesPrim F) else T f
theorem bytes_ok {P : Program} (hm : P.follows .mixedOrders = true) {T : Table} (hT : TableOK P T) {k : FuncId} {F : List UInt8 → List Value} (hF : ∀ l, groundL (F l) = true)
    (hrun : ∀ (h : Heap) (v : Value) (l : List UInt8), Rd h 1 v (bcells l) l.length → 0 < l.length → l.length < 1048576 → Runs P T (.fn k) [v] h (fun r _ => r = .agg ⟨F l⟩) (fun _ _ => False))
    {a : Addr} {n cp : Nat} {l : List UInt8} {args' : List Value} {g : Gh} {h : Heap} {B : Nat} {w0 w : World} (hr : HR g h B w0 w) (hv : VRL g [.slice (some a) n cp] args') (hc : cellsAt h a.block a.off n = some (bcells l)) (hn : 0 < n) (hn2 : n < 1048576) :
    Calls P k ⟨args'⟩ w (CPost B w0 g [.ret (.agg ⟨F l⟩) h]) := by
  cases hv with
  | cons hv2 hv3 =>
  cases hv3
  obtain ⟨_, hv2s⟩ := hv2.slice_inv
  obtain ⟨ad', c2, hve, har2, _⟩ := hv2s _ rfl
  subst hve
  have hln : l.length = n := by
    have := cellsAt_length hc
    rwa [bcells_len] at this
  unfold cellsAt at hc
  rw [if_neg (by omega)] at hc
  cases hd : (h.get a.block).cellsOf with
  | none => rw [hd] at hc; cases hc
  | some d =>
    rw [hd] at hc
    simp only at hc
    split at hc
    · rename_i hle2
      have hcell := Option.some.inj hc
      obtain ⟨y, hy, cc2, el2, fz2, hb2, hle3, hvr2⟩ := hr.of_read hd
      have ha2 := har2.2 y hy
      have hlt2 := (hr.alive a.block y hy).2.1
      have hpc2 := ground_piece hvr2 hcell hle2 (bcells_ground l)
      have hbl : (bcells l).length = l.length := by simp [bcells]
      have hr2 : HR ([none] ++ [some ⟨y.b, y.sh + a.off, 0, 0⟩]) (Heap.init.push (.ro (bcells l))) w.heap.size w w := by
        refine (hr_init w).pushRo hlt2 ⟨cc2, el2, fz2, hb2, by simp only [hbl]; omega, ?_⟩
        show VRL _ _ ((cc2.toList.drop (y.sh + a.off)).take (bcells l).length)
        rw [hbl, hln, hpc2]
        exact VRL.of_ground (bcells_ground l)
      have hvr : VR ([none] ++ [some ⟨y.b, y.sh + a.off, 0, 0⟩]) (.slice (some ⟨1, 0, none⟩) n c2) (.slice (some ad') n c2) := by
        refine .sl rfl ⟨by simp, fun z hz => ?_⟩
        simp at hz
        subst hz
        exact ha2
      have hrd : Rd (Heap.init.push (.ro (bcells l))) 1 (.slice (some ⟨1, 0, none⟩) n c2) (bcells l) l.length := by
        rw [← hln]
        refine Rd.mk (show 1 < 2 by decide) ?_
        rw [Nat.mul_one, cellsAt_of (c := bcells l) (by rw [Heap.get_push, if_pos (show 1 = Heap.init.n from rfl)]; rfl) (by omega), List.drop_zero, List.take_of_length_le (by omega)]
      refine (calls_of_runs hm hT hr2 (.cons hvr .nil) (hrun _ _ l hrd (by omega) (by omega))).mono fun e w' he => ?_
      cases e with
      | returned r =>
        obtain ⟨g', u', h', rfl, _, hr', hv'⟩ := he
        have hg : ground (.agg ⟨F l⟩) = true := hF l
        rw [hv'.eq_ground hg]
        exact ⟨g, .agg ⟨F l⟩, h, by simp, Le.refl _, hr.later hr'.below, .gr hg⟩
      | panicked c => obtain ⟨_, _, _, hx, _⟩ := he; exact hx.elim
      | outgrown => exact he.elim
    · cases hc
theorem withBytes_ok {P : Program} (hm : P.follows .mixedOrders = true) {T T2 : Table} (hT : TableOK P T) (hT2 : TableOK P T2) {k : FuncId} {F : List UInt8 → List Value} (hF : ∀ l, groundL (F l) = true) (hfn : FnOK P k)
    (hrun : ∀ (h : Heap) (v : Value) (l : List UInt8), Rd h 1 v (bcells l) l.length → 0 < l.length → l.length < 1048576 → Runs P T2 (.fn k) [v] h (fun r _ => r = .agg ⟨F l⟩) (fun _ _ => False)) : TableOK P (withBytes T k F) := by
  intro f af hf
  unfold withBytes at hf
  split at hf
  · rename_i hfk
    cases hf
    subst hfk
    show ∀ (args args' : List Value) (g : Gh) (h : Heap) (B : Nat) (w0 w : World), HR g h B w0 w → VRL g args args' → (∀ o ∈ bytesAns F args h, o ≠ .bad) → FnOK P f ∧ Calls P f ⟨args'⟩ w (CPost B w0 g (bytesAns F args h))
    intro args args' g h B w0 w hr hv hg
    refine ⟨hfn, ?_⟩
    have hg' := hg
    unfold bytesAns at hg
    split at hg
    · rename_i a n cp
      split at hg
      · rename_i c hc
        split at hg
        · rename_i l hl
          split at hg
          · rename_i hcond
            simp only [Bool.and_eq_true, decide_eq_true_eq] at hcond
            have e := veqL_eq hcond.1.1
            have hb : bytesAns F [.slice (some a) n cp] h = [.ret (.agg ⟨F l⟩) h] := by
              unfold bytesAns
              dsimp only
              rw [hc]
              dsimp only
              rw [hl]
              dsimp only
              rw [if_pos (by simp only [Bool.and_eq_true, decide_eq_true_eq]; exact hcond)]
            rw [hb]
            rw [e] at hc
            exact bytes_ok hm hT2 hF hrun hr hv hc hcond.1.2 hcond.2
          · exact absurd rfl (hg .bad (by simp))
        · exact absurd rfl (hg .bad (by simp))
      · exact absurd rfl (hg .bad (by simp))
    · exact absurd rfl (hg .bad (by simp))
  · exact hT f af hf
end Go.Vm
