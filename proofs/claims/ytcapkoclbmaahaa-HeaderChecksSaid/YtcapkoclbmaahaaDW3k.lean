/- Contracts of the document's headers (landfallref06): written, encoded, hashed. -/
import Derived.Test.YtcapkoclbmaahaaDW2k
import Derived.Test.YtcapkoclbmaahaaVK
namespace Go.Proofs.Ytcapkoclbmaahaa.A
open Go Go.Vm
set_option maxRecDepth 10000
set_option linter.unusedVariables false

theorem RPut6_ok {h : Heap} {lo p lim : Nat} {x : Hd} (hw : DWs h lo p lim ⟨[], 0⟩) (hx : x.ok) (hc : checkS x = 0) (hlim : 1000 ≤ lim) :
    Runs Try.prog T0 (.fn fn_landfallref06_Put) [.pointer (some ⟨p, 0, none⟩), .agg ⟨x.cells⟩] h (fun r h' => DWs h' lo p lim ⟨encS x, 0⟩ ∧ Fr (fun i => i = p) h h') (fun _ _ => False) := by
  haveI := l32 hx.prev
  haveI := l32 hx.vals
  haveI := l32 hx.next
  haveI := l32 hx.app
  have hlo := hw.lo_le
  obtain ⟨c1, c2, c3⟩ := checkS_ok hc
  obtain ⟨d1, d2, d3⟩ := nameS_len c1
  have hsz : (ByteArray.mk ⟨x.chain⟩).size = x.chain.length := rfl
  have l1 := numF_len (n := x.chain.length) (by omega)
  have l2 := numF_len (n := x.height.toNat) (by omega)
  have l3 := numF_len (n := x.time.toNat) (by omega)
  have l4 := hx.prev
  have l5 := hx.vals
  have l6 := hx.next
  have l7 := hx.app
  refine landfallref06_Put_runs ?_
  have hp := hw.ex.elim fun _ h => h.lt
  refine stp ?_
  have hn0 : (h.push (.cells x.cells 0)).n = h.n + 1 := rfl
  have hw0 : DWs (h.push (.cells x.cells 0)) lo p lim ⟨[], 0⟩ := hw.none Fr.refl.push
  have i0 : HGet (h.push (.cells x.cells 0)) h.n (.cells x.cells 0) := HGet.new
  have f0 : Fr (fun i => i = p) h (h.push (.cells x.cells 0)) := Fr.refl.push
  generalize h.push (.cells x.cells 0) = h0 at *
  haveI := i0
  have h9 : x.chain.length + 9 < 1048576 := by omega
  have h10 : ([] : List UInt8).length + x.chain.length + 9 < 1048576 := by simp only [List.length_nil]; omega
  refine O.call' (Text_okD (s := ByteArray.mk ⟨x.chain⟩) hw0 h9 (.inr h10)) (fun r h1 hr => ?_)
  obtain ⟨rfl, hw1, hf1⟩ := hr
  have hn1 := hf1.n
  have e1 : putS lim true (numF x.chain.length ++ x.chain) ⟨[], 0⟩ = ⟨[] ++ (numF x.chain.length ++ x.chain), 0⟩ := putS_fit (by simp only [List.length_append, List.length_nil]; omega)
  rw [List.nil_append] at e1
  have hw1 : DWs h1 lo p lim ⟨numF x.chain.length ++ x.chain, 0⟩ := by rw [← e1]; exact hw1
  have i1 := hf1.keep (b := h.n) i0 (by omega) (by omega)
  haveI := i1
  refine stp ?_
  refine O.call' (Num_okD hw1 (by omega) (.inr (by simp only [List.length_append]; omega))) (fun r h2 hr => ?_)
  obtain ⟨rfl, hw2, hf2⟩ := hr
  have hn2 := hf2.n
  rw [show decide (0 ≤ x.height) = true from decide_eq_true (by omega)] at hw2
  rw [putS_fit (by simp only [List.length_append, List.length_nil]; omega)] at hw2
  have i2 := hf2.keep (b := h.n) i1 (by omega) (by omega)
  haveI := i2
  refine stp ?_
  refine O.call' (Num_okD hw2 (by omega) (.inr (by simp only [List.length_append]; omega))) (fun r h3 hr => ?_)
  obtain ⟨rfl, hw3, hf3⟩ := hr
  have hn3 := hf3.n
  rw [show decide (0 ≤ x.time) = true from decide_eq_true (by omega)] at hw3
  rw [putS_fit (by simp only [List.length_append, List.length_nil]; omega)] at hw3
  have i3 := hf3.keep (b := h.n) i2 (by omega) (by omega)
  haveI := i3
  refine stp ?_
  refine O.call' (Hash_okD hw3 l4 (.inr (by simp only [List.length_append]; omega))) (fun r h4 hr => ?_)
  obtain ⟨rfl, hw4, hf4⟩ := hr
  have hn4 := hf4.n
  rw [putS_fit (by simp only [List.length_append, List.length_nil]; omega)] at hw4
  have i4 := hf4.keep (b := h.n) i3 (by omega) (by omega)
  haveI := i4
  refine stp ?_
  refine O.call' (Hash_okD hw4 l5 (.inr (by simp only [List.length_append]; omega))) (fun r h5 hr => ?_)
  obtain ⟨rfl, hw5, hf5⟩ := hr
  have hn5 := hf5.n
  rw [putS_fit (by simp only [List.length_append, List.length_nil]; omega)] at hw5
  have i5 := hf5.keep (b := h.n) i4 (by omega) (by omega)
  haveI := i5
  refine stp ?_
  refine O.call' (Hash_okD hw5 l6 (.inr (by simp only [List.length_append]; omega))) (fun r h6 hr => ?_)
  obtain ⟨rfl, hw6, hf6⟩ := hr
  have hn6 := hf6.n
  rw [putS_fit (by simp only [List.length_append, List.length_nil]; omega)] at hw6
  have i6 := hf6.keep (b := h.n) i5 (by omega) (by omega)
  haveI := i6
  refine stp ?_
  refine O.call' (Hash_okD hw6 l7 (.inr (by simp only [List.length_append]; omega))) (fun r h7 hr => ?_)
  obtain ⟨rfl, hw7, hf7⟩ := hr
  have hn7 := hf7.n
  rw [putS_fit (by simp only [List.length_append, List.length_nil]; omega)] at hw7
  have i7 := hf7.keep (b := h.n) i6 (by omega) (by omega)
  haveI := i7
  refine stp ?_
  refine ⟨hw7, f0.trans' (hf1.trans' (hf2.trans' (hf3.trans' (hf4.trans' (hf5.trans' (hf6.trans' hf7))))))⟩

theorem REncode_ok {h : Heap} {x : Hd} (hx : x.ok) (hs : x.chain.length < 1048576) : Runs Try.prog T0 (.fn fn_landfallref06_Encode) [.agg ⟨x.cells⟩] h
    (fun r h' => ∃ v, r = .tuple ⟨[v, .int .i64 (checkS x)]⟩ ∧ Own h' 1 v (bcells (if checkS x = 0 then encS x else [])) (if checkS x = 0 then encS x else []).length ∧ (∀ i, ownedBy v i → h.n ≤ i) ∧ Fr (fun _ => False) h h') (fun _ _ => False) := by
  haveI := l32 hx.prev
  haveI := l32 hx.vals
  haveI := l32 hx.next
  haveI := l32 hx.app
  refine landfallref06_Encode_runs ?_
  refine stp ?_
  have i0 : HGet (h.push (.cells x.cells 0)) h.n (.cells x.cells 0) := HGet.new
  have f0 : Fr (fun _ => False) h (h.push (.cells x.cells 0)) := Fr.refl.push
  have hn0 : (h.push (.cells x.cells 0)).n = h.n + 1 := rfl
  generalize h.push (.cells x.cells 0) = h0 at *
  refine O.call' (RCheck_ok hx hs) (fun r h1 hr => ?_)
  obtain ⟨rfl, hf1⟩ := hr
  have hn1 := hf1.n
  have i1 := hf1.keep (b := h.n) i0 (by omega) id
  haveI := i1
  refine stp ?_
  refine C.ifN (fun hc => ?_) (fun hc => ?_)
  · refine stp ?_
    rw [if_neg hc]
    exact ⟨_, rfl, .none, fun i h => h.elim, f0.trans' hf1⟩
  · refine stp ?_
    refine O.call' (NewWriter_okD (lim := 1048576) (by omega)) (fun r h2 hr => ?_)
    obtain ⟨rfl, hw2, hf2⟩ := hr
    have hn2 := hf2.n
    have i2 := hf2.keep (b := h.n) i1 (by omega) id
    haveI := i2
    refine stp ?_
    refine O.call' (RPut6_ok hw2 hx hc (by omega)) (fun r h3 hr => ?_)
    obtain ⟨hw3, hf3⟩ := hr
    have hn3 := hf3.n
    refine stp ?_
    have hel : (encS x).length < 1048576 := by
      obtain ⟨c1, c2, c3⟩ := checkS_ok hc
      obtain ⟨d1, d2, d3⟩ := nameS_len c1
      have l1 := numF_len (n := x.chain.length) (by omega)
      have l2 := numF_len (n := x.height.toNat) (by omega)
      have l3 := numF_len (n := x.time.toNat) (by omega)
      have l4 := hx.prev
      have l5 := hx.vals
      have l6 := hx.next
      have l7 := hx.app
      unfold encS
      simp only [List.length_append]
      omega
    refine O.call' (Done_okD hw3 hel) (fun r h4 hr => ?_)
    obtain ⟨v, rfl, ho, hnew, hf4⟩ := hr
    refine stp ?_
    rw [hc] at *
    rw [if_pos rfl] at ho ⊢
    refine ⟨v, rfl, ho, fun i hi => ?_, ?_⟩
    · have := hnew i hi; omega
    · refine Fr.trans (S := fun _ => False) (S' := fun i => i = h1.n) (f0.trans' hf1) (Fr.trans (S := fun i => i = h1.n) (hf2.mono fun _ _ h => h.elim) (Fr.trans (S := fun i => i = h1.n) hf3 (hf4.mono fun _ _ h => h.elim) fun _ _ h => h) fun _ _ h => h) fun i hi e => by omega
end Go.Proofs.Ytcapkoclbmaahaa.A
