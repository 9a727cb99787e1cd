/- Contracts of the program's headers, 3: encoding. -/
import Derived.Test.YtcapkoclbmaahaaH2k
import Derived.Test.YtcapkoclbmaahaaVK
namespace Go.Proofs.Ytcapkoclbmaahaa.A
open Go Go.Vm
set_option maxRecDepth 10000
set_option linter.unusedVariables false

/-- a header's bytes -/
def encS (x : Hd) : List UInt8 := numF x.chain.length ++ x.chain ++ numF x.height.toNat ++ numF x.time.toNat ++ x.prev ++ x.vals ++ x.next ++ x.app

theorem putS_fit {lim : Nat} {part : List UInt8} {bs : List UInt8} (h : bs.length + part.length ≤ lim) : putS lim true part ⟨bs, 0⟩ = ⟨bs ++ part, 0⟩ := by
  unfold putS
  rw [if_neg (by simp), if_neg (by simp), if_neg (by simp only; omega)]

theorem checkS_ok {x : Hd} (h : checkS x = 0) : nameS x.chain = true ∧ (1 ≤ x.height ∧ x.height ≤ 1073741824) ∧ (0 ≤ x.time ∧ x.time ≤ 1099511627776) := by
  unfold checkS at h
  split at h
  · cases h
  · rename_i h1
    split at h
    · cases h
    · rename_i h2
      split at h
      · cases h
      · rename_i h3
        exact ⟨by simpa using h1, Classical.not_not.1 h2, Classical.not_not.1 h3⟩
theorem nameS_len {l : List UInt8} (h : nameS l = true) : 1 ≤ l.length ∧ l.length ≤ 32 ∧ l.all plainB = true := by
  unfold nameS at h
  simp only [Bool.and_eq_true, decide_eq_true_eq] at h
  exact ⟨h.1.1, h.1.2, h.2⟩

theorem Encode_ok {h : Heap} {x : Hd} (hx : x.ok) : Runs Try.prog T0 (.fn fn_header_Encode) [.agg ⟨x.cells⟩] h
    (fun r h' => ∃ v, r = .tuple ⟨[v, .int .i64 (checkS x)]⟩ ∧ Own h' 1 v (bcells (if checkS x = 0 then encS x else [])) (if checkS x = 0 then encS x else []).length ∧ (∀ i, ownedBy v i → h.n ≤ i) ∧ Fr (fun _ => False) h h') (fun _ _ => False) := by
  haveI := l32 hx.prev
  haveI := l32 hx.vals
  haveI := l32 hx.next
  haveI := l32 hx.app
  refine header_Encode_runs ?_
  refine stp ?_
  refine O.call' (Check_ok hx) (fun r h1 hr => ?_)
  obtain ⟨rfl, hf1⟩ := hr
  have hn1 := hf1.n
  simp at hn1
  haveI : HGet h1 h.n _ := hf1.keep (b := h.n) HGet.new (by simp) id
  have hf1' : Fr (fun _ => False) h h1 := Fr.trans (S := fun _ => False) Fr.refl.push hf1 fun _ _ h => h
  refine stp ?_
  refine C.ifN (fun hc => ?_) (fun hc => ?_)
  · refine stp ?_
    rw [if_neg hc]
    exact ⟨_, rfl, .none, fun i h => h.elim, hf1'⟩
  · refine stp ?_
    obtain ⟨c1, c2, c3⟩ := checkS_ok hc
    obtain ⟨d1, d2, d3⟩ := nameS_len c1
    have hsz : (ByteArray.mk ⟨x.chain⟩).size = x.chain.length := rfl
    have l1 := numF_len (n := x.chain.length) (by omega)
    have l2 := numF_len (n := x.height.toNat) (by omega)
    have l3 := numF_len (n := x.time.toNat) (by omega)
    have l4 := hx.prev
    have l5 := hx.vals
    have l6 := hx.next
    have l7 := hx.app
    refine O.call' (NewWriter_ok (lim := 65536) (by omega)) (fun r h2 hr => ?_)
    obtain ⟨rfl, hw2, hf2⟩ := hr
    haveI : HGet h2 h.n _ := hf2.keep (b := h.n) inferInstance (by omega) id
    have hlt2 := hf2.n
    refine stp ?_
    refine O.call' (WText_ok hw2 (by simp only [List.length_nil]; omega)) (fun r h3 hr => ?_)
    obtain ⟨rfl, hw3, hf3⟩ := hr
    haveI : HGet h3 h.n _ := hf3.keep (b := h.n) inferInstance (by omega) (by omega)
    have hlt3 := hf3.n
    have e3 : putS 65536 true (numF x.chain.length ++ x.chain) ⟨[], 0⟩ = ⟨numF x.chain.length ++ x.chain, 0⟩ := putS_fit (by simp only [List.length_nil, List.length_append]; omega)
    have hw3 : PWs h3 h1.n h1.n 65536 ⟨numF x.chain.length ++ x.chain, 0⟩ := by rw [← e3]; exact hw3
    refine stp ?_
    refine O.call' (WNum_ok hw3 (by omega) (by simp only [List.length_append]; omega)) (fun r h4 hr => ?_)
    obtain ⟨rfl, hw4, hf4⟩ := hr
    haveI : HGet h4 h.n _ := hf4.keep (b := h.n) inferInstance (by omega) (by omega)
    have hlt4 := hf4.n
    have e4 : putS 65536 (decide (0 ≤ x.height)) (numF x.height.toNat) ⟨numF x.chain.length ++ x.chain, 0⟩ = ⟨numF x.chain.length ++ x.chain ++ numF x.height.toNat, 0⟩ := by
      rw [decide_eq_true (by omega)]
      exact putS_fit (by simp only [List.length_append]; omega)
    have hw4 : PWs h4 h1.n h1.n 65536 ⟨numF x.chain.length ++ x.chain ++ numF x.height.toNat, 0⟩ := by rw [← e4]; exact hw4
    refine stp ?_
    refine O.call' (WNum_ok hw4 (by omega) (by simp only [List.length_append]; omega)) (fun r h5 hr => ?_)
    obtain ⟨rfl, hw5, hf5⟩ := hr
    haveI : HGet h5 h.n _ := hf5.keep (b := h.n) inferInstance (by omega) (by omega)
    have hlt5 := hf5.n
    have e5 : putS 65536 (decide (0 ≤ x.time)) (numF x.time.toNat) ⟨numF x.chain.length ++ x.chain ++ numF x.height.toNat, 0⟩ = ⟨numF x.chain.length ++ x.chain ++ numF x.height.toNat ++ numF x.time.toNat, 0⟩ := by
      rw [decide_eq_true (by omega)]
      exact putS_fit (by simp only [List.length_append]; omega)
    have hw5 : PWs h5 h1.n h1.n 65536 ⟨numF x.chain.length ++ x.chain ++ numF x.height.toNat ++ numF x.time.toNat, 0⟩ := by rw [← e5]; exact hw5
    have g5 : h5.get h.n = .cells x.cells 0 := HGet.eq
    refine stp ?_
    refine O.call' (hashes_ok (x := x) g5 (by omega)) (fun r h6 hr => ?_)
    obtain ⟨rfl, hf6⟩ := hr
    have hw6 := hw5.none hf6
    have hf06 : Fr (fun _ => False) h h6 := by
      refine Fr.trans (S := fun _ => False) (S' := fun i => h1.n ≤ i) hf1' ?_ (fun i hi h => by omega)
      exact Fr.trans (S := fun i => h1.n ≤ i) (S' := fun i => h1.n ≤ i) (hf2.mono fun _ _ h => h.elim) (hf3.trans' (hf4.trans' (hf5.trans' (hf6.mono fun _ _ h => h.elim)))) fun _ _ h => h
    generalize hB : numF x.chain.length ++ x.chain ++ numF x.height.toNat ++ numF x.time.toNat = bb at *
    have hBl : bb.length ≤ 100 := by rw [← hB]; simp only [List.length_append]; omega
    have g6 : h6.get h.n = .cells x.cells 0 := by rw [hf6.get _ (by omega) id, g5]
    have hn6 := hf6.n
    refine stp ?_
    refine header_Encode_l0_rule (fun m v31 h' => ∃ (k : Nat) (c : List UInt8), k ≤ 4 ∧ m = 4 - k ∧ v31 = .int .i64 k ∧ PWs h' h1.n h1.n 65536 ⟨bb ++ c, 0⟩ ∧ Fr (fun i => h1.n ≤ i) h6 h' ∧
      c = ([x.prev, x.vals, x.next, x.app].take k).flatten) ?_ 4 ⟨0, [], by omega, rfl, rfl, by simpa using hw6, Fr.refl, rfl⟩
    rintro m v31 h' x8 x32 x33 x34 x35 x36 x37 x38 x39 ⟨k, c, hk, rfl, rfl, hw, hf, hc'⟩
    haveI : HGet h' h.n (.cells x.cells 0) := hf.keep (b := h.n) ⟨g6⟩ (by omega) (by omega)
    have hone : ∀ {l : List UInt8} {h2 : Heap}, Fr (fun i => h1.n ≤ i) h' h2 → Fr (fun i => h1.n ≤ i) h6 h2 := fun hx => hf.trans' hx
    rcases (show k = 0 ∨ k = 1 ∨ k = 2 ∨ k = 3 ∨ k = 4 by omega) with rfl | rfl | rfl | rfl | rfl
    · have hcl : c.length = 0 := by rw [hc']; simp
      refine stp ?_
      refine O.how (XOp.mkIndex1 (m := 0) 0 rfl (by omega) rfl) ?_
      refine stp ?_
      refine O.call' (WHash_ok hw l4 (by simp only [List.length_append]; omega)) (fun r h7 hr => ?_)
      obtain ⟨rfl, hw7, hf7⟩ := hr
      rw [putS_fit (by simp only [List.length_append]; omega)] at hw7
      refine stp ?_
      exact header_Encode_l0_again 3 (by omega) ⟨1, c ++ x.prev, by omega, rfl, rfl, by rw [← List.append_assoc]; exact hw7, hf.trans' hf7, by rw [hc']; simp⟩
    · have hcl : c.length = 32 := by rw [hc']; simp [l4]
      refine stp ?_
      refine O.how (XOp.mkIndex1 (m := 1) 1 rfl (by omega) rfl) ?_
      refine stp ?_
      refine O.call' (WHash_ok hw l5 (by simp only [List.length_append]; omega)) (fun r h7 hr => ?_)
      obtain ⟨rfl, hw7, hf7⟩ := hr
      rw [putS_fit (by simp only [List.length_append]; omega)] at hw7
      refine stp ?_
      exact header_Encode_l0_again 2 (by omega) ⟨2, c ++ x.vals, by omega, rfl, rfl, by rw [← List.append_assoc]; exact hw7, hf.trans' hf7, by rw [hc']; simp⟩
    · have hcl : c.length = 64 := by rw [hc']; simp [l4, l5]
      refine stp ?_
      refine O.how (XOp.mkIndex1 (m := 2) 2 rfl (by omega) rfl) ?_
      refine stp ?_
      refine O.call' (WHash_ok hw l6 (by simp only [List.length_append]; omega)) (fun r h7 hr => ?_)
      obtain ⟨rfl, hw7, hf7⟩ := hr
      rw [putS_fit (by simp only [List.length_append]; omega)] at hw7
      refine stp ?_
      exact header_Encode_l0_again 1 (by omega) ⟨3, c ++ x.next, by omega, rfl, rfl, by rw [← List.append_assoc]; exact hw7, hf.trans' hf7, by rw [hc']; simp⟩
    · have hcl : c.length = 96 := by rw [hc']; simp [l4, l5, l6]
      refine stp ?_
      refine O.how (XOp.mkIndex1 (m := 3) 3 rfl (by omega) rfl) ?_
      refine stp ?_
      refine O.call' (WHash_ok hw l7 (by simp only [List.length_append]; omega)) (fun r h7 hr => ?_)
      obtain ⟨rfl, hw7, hf7⟩ := hr
      rw [putS_fit (by simp only [List.length_append]; omega)] at hw7
      refine stp ?_
      exact header_Encode_l0_again 0 (by omega) ⟨4, c ++ x.app, by omega, rfl, rfl, by rw [← List.append_assoc]; exact hw7, hf.trans' hf7, by rw [hc']; simp⟩
    · refine stp ?_
      refine O.call' (Done_ok hw) (fun r h7 hr => ?_)
      obtain ⟨v, rfl, ho, hnew, hf7⟩ := hr
      refine stp ?_
      rw [hc] at *
      rw [if_pos rfl]
      have he : encS x = bb ++ c := by
        rw [hc', ← hB]
        simp [encS]
      rw [he]
      refine ⟨v, rfl, by simpa using ho, fun i hi => ?_, Fr.trans (S := fun _ => False) (S' := fun i => h1.n ≤ i) hf06 (hf.trans' (hf7.mono fun _ _ h => h.elim)) fun i hi h => by omega⟩
      have := hnew i hi
      have := hf.n
      omega
end Go.Proofs.Ytcapkoclbmaahaa.A
