/- A small machine over an abstract heap: part of a slice, told behind other operations too. -/
import Derived.Test.YtoadcfjkkoemdaaVm45
set_option linter.unusedSimpArgs false
set_option linter.unusedVariables false
namespace Go.Vm

theorem sliceOf_heap {e e' : Operand → Value} {size n c : Nat} {base : Option Addr} {lo hi : Operand} {v' : Value} {h h' : Heap} (h1 : sliceOf e size (.slice base n c) (some lo) (some hi) none h = .ok v' h) (hl : e' lo = e lo) (hh : e' hi = e hi)
    (hb : ∀ a, base = some a → h'.get a.block = h.get a.block) : sliceOf e' size (.slice base n c) (some lo) (some hi) none h' = .ok v' h' := by
  simp only [sliceOf, bnd, hl, hh] at h1 ⊢
  cases h2 : idx (c + 1) (e hi) with
  | none => rw [h2] at h1; cases h1
  | some r =>
    rw [h2] at h1
    simp only at h1 ⊢
    cases h3 : idx (r + 1) (e lo) with
    | none => rw [h3] at h1; cases h1
    | some l =>
      rw [h3] at h1
      simp only at h1 ⊢
      by_cases h4 : c < r
      · rw [if_pos h4] at h1; cases h1
      · rw [if_neg h4] at h1 ⊢
        cases base with
        | none => cases h1; rfl
        | some a =>
          have hb := hb a rfl
          cases hs : a.spot with
          | none =>
            simp only [hs] at h1 ⊢
            cases h1; rfl
          | some k =>
            simp only [hs] at h1 ⊢
            by_cases h5 : l = 0
            · rw [if_pos h5] at h1 ⊢
              cases h1; rfl
            · rw [if_neg h5] at h1 ⊢
              by_cases h6 : c = l
              · rw [if_pos h6] at h1 ⊢
                cases h1; rfl
              · rw [if_neg h6] at h1 ⊢
                rw [hb]
                cases ho : h.get a.block with
                | cells cc es =>
                  rw [ho] at h1
                  simp only at h1 ⊢
                  by_cases h7 : es = size
                  · rw [if_pos h7] at h1 ⊢
                    cases h1; rfl
                  · rw [if_neg h7] at h1; cases h1
                | _ => rw [ho] at h1; cases h1

section
variable {P : Program} {T : Table} {ts : List Value} {ds : List Deferred} {h : Heap} {rd : Option Nat} {v : Value} {d size n i j : Nat} {c : List Value} {x lo hi : Operand} {p q : Int} {K J : IntKind} {chk : List (Option Nat × AOp × Option (Nat × Bool))} {pan : Bool} {rest : List AOper} {Q : QP} {F : Value → List Value}
theorem slice_again (hs : size ≠ 0) (ho : Own h size v c n) (i j : Nat) [e1 : Ev ts x v] [e2 : Ev ts lo (.int K p)] [e3 : Ev ts hi (.int J q)] (hp : p = i) (hq : q = j) (hij : i ≤ j) (hj : j ≤ n) :
    ∃ v', (∀ b, blockOf v' b → ownedBy v b) ∧ Rd h size v' ((c.drop (i * size)).take ((j - i) * size)) (j - i) ∧
      ∀ (ts' : List Value) (h' : Heap), eval ts' x = v → eval ts' lo = .int K p → eval ts' hi = .int J q → Fr (fun _ => False) h h' → XOp P ts' h' (.sliceSl size x (some lo) (some hi) none) v' h' := by
  obtain ⟨v', hx, hbl, hr⟩ := slice_own (e := eval ts) (lo := lo) (hi := hi) (K := K) (J := J) hs ho (by rw [e2.eq, hp]) (by rw [e3.eq, hq]) hij hj
  refine ⟨v', hbl, hr, fun ts' h' f1 f2 f3 hf => ⟨rfl, ?_⟩⟩
  obtain ⟨a, cap, rfl, _, _⟩ := ho.rd
  simp only [xop, f1]
  refine sliceOf_heap hx (by rw [f2, e2.eq]) (by rw [f3, e3.eq]) fun ad ha => ?_
  subst ha
  exact hf.get _ (ho.lt rfl) id

theorem D.sliceA (i j : Nat) (hs : size ≠ 0) (ho : Own h size v c n) [e1 : Ev ts x v] [e2 : Ev ts lo (.int K p)] [e3 : Ev ts hi (.int J q)] [s : LSetF ts d F] (hp : p = i) (hq : q = j) (hij : i ≤ j) (hj : j ≤ n)
    (hk : ∀ v', (∀ b, blockOf v' b → ownedBy v b) → Rd h size v' ((c.drop (i * size)).take ((j - i) * size)) (j - i) → (∀ (ts' : List Value) (h' : Heap), eval ts' x = v → eval ts' lo = .int K p → eval ts' hi = .int J q → Fr (fun _ => False) h h' → XOp P ts' h' (.sliceSl size x (some lo) (some hi) none) v' h') →
      RunD P T rest ⟨F v', ds, h, rd⟩ Q) : RunD P T (⟨some d, .sliceSl size x (some lo) (some hi) none, none, [], pan⟩ :: rest) ⟨ts, ds, h, rd⟩ Q := by
  obtain ⟨v', hbl, hr, hag⟩ := slice_again (P := P) (ts := ts) (x := x) (lo := lo) (hi := hi) hs ho i j hp hq hij hj
  haveI := hag ts h e1.eq e2.eq e3.eq Fr.refl
  exact RunD.cons rfl (RunX.ok (h' := h) (v := v') XOp.run (by
    show _ ∧ RunD P T rest ⟨lset ts d v', ds, h, rd⟩ Q
    rw [s.eq]; exact ⟨rfl, hk v' hbl hr hag⟩))
end

section
variable {P : Program} {T : Table} {ts : List Value} {ds : List Deferred} {h : Heap} {rd : Option Nat} {v w : Value} {dst size bytes n m el : Nat} {zero c d : List Value} {zeros : Bool} {x y : Operand} {pan : Bool} {rest : List AOper} {Q : QP} {F : Value → List Value}
theorem D.append [e1 : Ev ts x v] [e2 : Ev ts y w] [s : LSetF ts dst F] (ho : Own h size v c n) (hx : newCells h size zero zeros w = some (m, d)) (hd : d.length = m * size) (h1 : d.all Value.oneCell' = true) (hs : size ≠ 0) (hb : bytes < 1048576) (hsm : n + m < 1048576)
    (hk : ∀ v' h', Own h' size v' (c ++ d) (n + m) → Fr (ownedBy v) h h' → (∀ i, ownedBy v' i → ownedBy v i ∨ h.n ≤ i) → RunD P T rest ⟨F v', ds, h', rd⟩ Q) : RunD P T (⟨some dst, .append el size bytes zero zeros x y, none, [], pan⟩ :: rest) ⟨ts, ds, h, rd⟩ Q := by
  obtain ⟨v', h', hx, h2, h3, h4⟩ := append_own hs hb hsm ho hx hd h1
  exact RunD.cons rfl (RunX.ok (h' := h') (v := v') (fun call => by rw [xo_plain rfl]; simp only [xop, e1.eq, e2.eq, hx]) (by
    show _ ∧ RunD P T rest ⟨lset ts dst v', ds, h', rd⟩ Q
    rw [s.eq]; exact ⟨rfl, hk v' h' h2 h3 h4⟩))
end
end Go.Vm
