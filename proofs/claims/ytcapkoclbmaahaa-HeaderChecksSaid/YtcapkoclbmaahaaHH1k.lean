/- Contracts: the hash of a header. -/
import Derived.Test.YtcapkoclbmaahaaQ1k
import Derived.Test.YtcapkoclbmaahaaVK
namespace Go.Proofs.Ytcapkoclbmaahaa.A
open Go Go.Vm
set_option maxRecDepth 10000
set_option linter.unusedVariables false

section
variable {P : Program} {T : Table} {ts : List Value} {ds : List Deferred} {h : Heap} {rd : Option Nat} {v w : Value} {dst size bytes n m el q : Nat} {zero c d : List Value} {zeros : Bool} {x y : Operand} {chk : List (Option Nat × AOp × Option (Nat × Bool))} {pan : Bool} {rest : List AOper} {Q : QP} {F : Value → List Value}
/-- elements behind those of a slice that has no more room -/
theorem O.appendLit [e1 : Ev ts x (.slice (some ⟨q, 0, none⟩) n n)] [e2 : Ev ts y w] [s : LSetF ts dst F] (hc : cellsAt h q 0 (n * size) = some c) (hx : newCells h size zero zeros w = some (m, d)) (hd : d.length = m * size) (hs : size ≠ 0) (hb : bytes < 1048576) (hsm : n + m < 1048576) (hm : 0 < m)
    (hk : ∀ h', Own h' size (.slice (some ⟨h.n, 0, some 0⟩) (n + m) (n + m)) (c ++ d) (n + m) → Fr (fun _ => False) h h' → h'.n = h.n + 1 → RunO P T rest ⟨F (.slice (some ⟨h.n, 0, some 0⟩) (n + m) (n + m)), ds, h', rd⟩ Q) :
    RunO P T (⟨some dst, .append el size bytes zero zeros x y, none, chk, pan⟩ :: rest) ⟨ts, ds, h, rd⟩ Q := by
  have hcl := cellsAt_length hc
  have ho : Own (h.push (.cells (c ++ d) size)) size (.slice (some ⟨h.n, 0, some 0⟩) (n + m) (n + m)) (c ++ d) (n + m) := .grown (j := []) (by simp) (by omega) (Nat.le_refl _) (by rw [List.length_append, hcl, hd, Nat.add_mul]) (by rw [List.append_nil, List.length_append, hcl, hd, Nat.add_mul]) (by rw [Heap.get_push, if_pos rfl, List.append_nil])
  have hop : XOp P ts h (.append el size bytes zero zeros x y) (.slice (some ⟨h.n, 0, some 0⟩) (n + m) (n + m)) (h.push (.cells (c ++ d) size)) := by
    refine ⟨rfl, ?_⟩
    simp only [xop, e1.eq, e2.eq]
    unfold appendOf
    rw [if_neg hs, hx]
    simp only
    rw [if_neg (by omega), if_neg (by omega), hc]
  haveI : LSet ts dst (.slice (some ⟨h.n, 0, some 0⟩) (n + m) (n + m)) (F (.slice (some ⟨h.n, 0, some 0⟩) (n + m) (n + m))) := ⟨s.eq _⟩
  exact O.how hop (hk _ ho Fr.refl.push (by simp))
end

theorem HHash_ok {h : Heap} {x : Hd} (hx : x.ok) : Runs Try.prog T0 (.fn fn_header_Hash) [.agg ⟨x.cells⟩] h
    (fun r h' => r = .tuple ⟨[.agg ⟨bcells (if checkS x = 0 then sumS (72 :: encS x) else zb32)⟩, .int .i64 (checkS x)]⟩ ∧ Fr (fun _ => False) h h') (fun _ _ => False) := by
  haveI := l32 hx.prev
  haveI := l32 hx.vals
  haveI := l32 hx.next
  haveI := l32 hx.app
  refine header_Hash_runs ?_
  refine stp ?_
  refine O.call' (Encode_ok hx) (fun r h1 hr => ?_)
  obtain ⟨v, rfl, ho, hnew, hf⟩ := hr
  have hn1 := hf.n
  simp only [Heap.n_push] at hn1
  have hf1 : Fr (fun _ => False) h h1 := Fr.trans (S := fun _ => False) Fr.refl.push.push hf fun _ _ h => h
  haveI gO : HGet h1 (h.n + 1) (.cells z32 0) := hf.keep (b := h.n + 1) (HGet.new (h := h.push _)) (by simp) id
  haveI : BLt (h.n + 1) h1 := ⟨by omega⟩
  simp only [Heap.n_push]
  refine stp ?_
  refine C.ifN (fun he => ?_) (fun he => ?_)
  · refine stp ?_
    rw [if_neg he]
    exact ⟨rfl, Fr.set hf1 fun h => by omega⟩
  · rw [if_pos he] at ho ⊢
    have hel : 0 < (encS x).length ∧ (encS x).length < 1000 := by
      obtain ⟨c1, c2, c3⟩ := checkS_ok he
      obtain ⟨d1, d2, d3⟩ := nameS_len c1
      have l1 := numF_len (n := x.chain.length) (by omega)
      have l2 := numF_len (n := x.height.toNat) (by omega)
      have l3 := numF_len (n := x.time.toNat) (by omega)
      have l4 := hx.prev
      have l5 := hx.vals
      have l6 := hx.next
      have l7 := hx.app
      unfold encS
      simp only [List.length_append]
      omega
    refine stp ?_
    refine O.appendLit (c := [.int .u8 72]) (by rw [cellsAt_of (c := [.int .u8 72]) (by rw [Heap.get_push, if_pos rfl]; rfl) (by simp)]; rfl) ((ho.rd.keep (S := fun _ => False) Fr.refl.push fun _ _ => id).new _) (by rw [bcells_len, Nat.mul_one]) (by omega) (by omega) (by omega) hel.1 (fun h2 ho2 hf2 hn2 => ?_)
    simp only [Heap.n_push] at ho2 hn2 ⊢
    have e1 : 1 + (encS x).length = (72 :: encS x).length := by simp; omega
    rw [e1] at ho2 ⊢
    refine stp ?_
    refine O.call' (Sum_ok (l := 72 :: encS x) ho2.rd (by simp) (by simp; omega)) (fun r h3 hr => ?_)
    obtain ⟨rfl, hf3⟩ := hr
    have hn3 := hf3.n
    have hsl := sumS_len (72 :: encS x)
    haveI : L32 (bcells (sumS (72 :: encS x))) := ⟨by rw [bcells_len, hsl]⟩
    have f13 : Fr (fun _ => False) h1 h3 := Fr.trans (S := fun _ => False) Fr.refl.push (hf2.trans' hf3) fun _ _ h => h
    haveI := f13.keep gO (by omega) id
    haveI : BLt (h.n + 1) h3 := ⟨by omega⟩
    rw [he]
    refine stp ?_
    exact ⟨rfl, Fr.set (Fr.trans (S := fun _ => False) hf1 f13 fun _ _ h => h) fun h => by omega⟩
end Go.Proofs.Ytcapkoclbmaahaa.A
