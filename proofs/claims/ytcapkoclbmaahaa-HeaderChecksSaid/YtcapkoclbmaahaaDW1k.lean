/- Contracts of the document's writer of bytes (landfallref04). -/
import Derived.Test.YtcapkoclbmaahaaBL8k
import Derived.Test.YtcapkoclbmaahaaVK
namespace Go.Proofs.Ytcapkoclbmaahaa.A
open Go Go.Vm
set_option maxRecDepth 10000
set_option linter.unusedVariables false

/-- a slice that nobody else has: as Own, or just as it was laid -/
inductive OwnL (h : Heap) (size : Nat) : Value → List Value → Nat → Prop
  | own {v : Value} {c : List Value} {n : Nat} : Own h size v c n → OwnL h size v c n
  | lit {q es n : Nat} {c : List Value} : q < h.n → h.get q = .cells c es → c.length = n * size → OwnL h size (.slice (some ⟨q, 0, none⟩) n n) c n
theorem OwnL.rd {h : Heap} {size : Nat} {v : Value} {c : List Value} {n : Nat} (ho : OwnL h size v c n) : Rd h size v c n := by
  cases ho with
  | own ho => exact ho.rd
  | lit hq hg hl => exact Rd.mk hq (by rw [cellsAt_of (by rw [hg]; rfl) (by omega), List.drop_zero, List.take_of_length_le (by omega)])
theorem OwnL.keep {S : Nat → Prop} {h h' : Heap} {size : Nat} {v : Value} {c : List Value} {n : Nat} (ho : OwnL h size v c n) (hf : Fr S h h') (hs : ∀ b, ownedBy v b → ¬ S b) : OwnL h' size v c n := by
  cases ho with
  | own ho => exact .own (ho.keep hf hs)
  | lit hq hg hl => exact .lit (hf.lt hq) (by rw [hf.get _ hq (hs _ rfl), hg]) hl

section
variable {P : Program} {T : Table} {ts : List Value} {ds : List Deferred} {h : Heap} {rd : Option Nat} {v w : Value} {dst size bytes n m el q : Nat} {zero c d : List Value} {zeros : Bool} {x y : Operand} {chk : List (Option Nat × AOp × Option (Nat × Bool))} {pan : Bool} {rest : List AOper} {Q : QP} {F : Value → List Value}
theorem O.appendL [e1 : Ev ts x v] [e2 : Ev ts y w] [s : LSetF ts dst F] (ho : OwnL h size v c n) (hx : newCells h size zero zeros w = some (m, d)) (hd : d.length = m * size) (h1 : d.all Value.oneCell' = true) (hs : size ≠ 0) (hb : bytes < 1048576) (hsm : n + m < 1048576)
    (hk : ∀ v' h', OwnL h' size v' (c ++ d) (n + m) → Fr (ownedBy v) h h' → (∀ i, ownedBy v' i → ownedBy v i ∨ h.n ≤ i) → RunO P T rest ⟨F v', ds, h', rd⟩ Q) : RunO P T (⟨some dst, .append el size bytes zero zeros x y, none, chk, pan⟩ :: rest) ⟨ts, ds, h, rd⟩ Q := by
  cases ho with
  | own ho => exact O.append ho hx hd h1 hs hb hsm fun v' h' h1 h2 h3 => hk v' h' (.own h1) h2 h3
  | lit hq hg hl =>
    rename_i q es
    have hc : cellsAt h q 0 (n * size) = some c := by rw [cellsAt_of (by rw [hg]; rfl) (by omega), List.drop_zero, List.take_of_length_le (by omega)]
    by_cases hm : m = 0
    · subst hm
      have : d = [] := by simpa using hd
      subst this
      have hop : XOp P ts h (.append el size bytes zero zeros x y) (.slice (some ⟨q, 0, none⟩) n n) (h.set q (.cells c es)) := by
        refine ⟨rfl, ?_⟩
        simp only [xop, e1.eq, e2.eq]
        unfold appendOf
        rw [if_neg hs, hx]
        simp only [Nat.add_zero]
        rw [if_neg (by omega), if_pos (Nat.le_refl _)]
        have : putAt h q (0 + n * size) [] = some (h.set q (.cells c es)) := by
          simp only [putAt, hg]
          rw [if_pos ⟨by simp; omega, rfl⟩, over_nil]
        rw [this]
      haveI : LSet ts dst (.slice (some ⟨q, 0, none⟩) n n) (F (.slice (some ⟨q, 0, none⟩) n n)) := ⟨s.eq _⟩
      refine O.how hop (hk _ _ ?_ (Fr.refl.set fun _ => rfl) fun i hi => .inl hi)
      rw [List.append_nil, Nat.add_zero]
      exact .lit (by simpa using hq) (by rw [Heap.get_set, if_pos rfl]) hl
    · have hop : XOp P ts h (.append el size bytes zero zeros x y) (.slice (some ⟨h.n, 0, some 0⟩) (n + m) (n + m)) (h.push (.cells (c ++ d) size)) := by
        refine ⟨rfl, ?_⟩
        simp only [xop, e1.eq, e2.eq]
        unfold appendOf
        rw [if_neg hs, hx]
        simp only
        rw [if_neg (by omega), if_neg (by omega), hc]
      haveI : LSet ts dst (.slice (some ⟨h.n, 0, some 0⟩) (n + m) (n + m)) (F (.slice (some ⟨h.n, 0, some 0⟩) (n + m) (n + m))) := ⟨s.eq _⟩
      refine O.how hop (hk _ _ (.own (.grown (j := []) (by simp) (by omega) (Nat.le_refl _) (by rw [List.length_append, hl, hd, Nat.add_mul]) (by rw [List.append_nil, List.length_append, hl, hd, Nat.add_mul]) (by rw [Heap.get_push, if_pos rfl, List.append_nil]))) Fr.refl.push fun i hi => ?_)
      cases hi
      exact .inr (Nat.le_refl _)
end

theorem Number_okD {h : Heap} {N : Nat} (hN : N ≤ 9223372036854775807) :
    Runs Try.prog T0 (.fn fn_landfallref04_Number) [.int .i64 N] h (fun r h' => OwnL h' 1 r (bcells (numF N)) (numF N).length ∧ (∀ i, ownedBy r i → h.n ≤ i) ∧ Fr (fun _ => False) h h') (fun _ _ => False) := by
  refine landfallref04_Number_runs ?_
  refine stp ?_
  refine landfallref04_Number_l0_rule (fun m v0 v3 h' => ∃ (n k : Nat) (ds : List UInt8), n = m ∧ v0 = .int .i64 n ∧ k ≤ 8 ∧ n < 256 ^ (8 - k) ∧ n ≤ N ∧ ds.length = k ∧ Rd h' 1 v3 (bcells ds) ds.length ∧ beN N = beN n ++ ds ∧ Fr (fun _ => False) h h') ?_ N
    ⟨N, 0, [], rfl, rfl, by omega, by simp; omega, Nat.le_refl _, rfl, Rd.nil, by simp, Fr.refl⟩
  rintro m v0 v3 h' x4 x5 x6 x7 x8 x9 x10 x11 x12 ⟨n, k, ds, hnm, rfl, hk, hn, hnN, hds, hrd, hbe, hf⟩
  subst hnm
  refine stp ?_
  refine C.if (fun hpos => ?_) (fun hz => ?_)
  · have hk8 : k < 8 := by
      rcases Nat.lt_or_ge k 8 with h | h
      · exact h
      · obtain rfl : k = 8 := by omega
        simp at hn; omega
    have h256 : n % 256 < 256 := Nat.mod_lt _ (by omega)
    have hw : (IntKind.wrap .u8 (n : Int)) = (((UInt8.ofNat (n % 256)).toNat : Nat) : Int) := by
      rw [wrap_u8, u8nat h256]
      omega
    refine stp ?_
    rw [hw]
    have hp : Fr (fun _ => False) h' (h'.push (.cells [.int .u8 ((UInt8.ofNat (n % 256)).toNat : Nat)] 0)) := Fr.refl.push
    refine O.appendL (.lit (q := h'.n) (es := 0) (c := [.int .u8 ((UInt8.ofNat (n % 256)).toNat : Nat)]) (by simp) (by rw [Heap.get_push, if_pos rfl]) rfl) ((hrd.keep hp fun _ _ => id).new _) (by rw [bcells_len]; omega) (bcells_one _) (by omega) (by omega) (by omega) (fun v' h2 ho2 hf2 hnew2 => ?_)
    refine stp ?_
    refine O.how XOp.shr8 ?_
    refine stp ?_
    have hdiv : ((n : Int) / 256) = ((n / 256 : Nat) : Int) := by omega
    rw [hdiv]
    refine landfallref04_Number_l0_again (n / 256) (by omega) ⟨n / 256, k + 1, UInt8.ofNat (n % 256) :: ds, rfl, rfl, by omega, ?_, by omega, by simp [hds], ?_, ?_, ?_⟩
    · have : 256 ^ (8 - k) = 256 ^ (8 - (k + 1)) * 256 := by rw [← Nat.pow_succ]; congr 1; omega
      exact Nat.div_lt_of_lt_mul (by omega)
    · have := ho2.rd
      rw [show 1 + ds.length = (UInt8.ofNat (n % 256) :: ds).length from by simp; omega] at this
      exact this
    · rw [hbe, beN_pos (by omega)]
      simp
    · refine Fr.trans (S := fun _ => False) (hf.trans' hp) hf2 fun i hi e => ?_
      have : h'.n = i := e
      have := hf.n
      omega
  · have hn0 : n = 0 := by omega
    subst hn0
    rw [beN_zero, List.nil_append] at hbe
    obtain ⟨a3, c3, rfl, _, _⟩ := id hrd
    have hw : ((ds.length : Nat) : Int) = (((UInt8.ofNat ds.length).toNat : Nat) : Int) := by
      rw [u8nat (by omega)]
    refine stp ?_
    rw [hw]
    have hp : Fr (fun _ => False) h' (h'.push (.cells [.int .u8 ((UInt8.ofNat ds.length).toNat : Nat)] 0)) := Fr.refl.push
    refine O.appendL (.lit (q := h'.n) (es := 0) (c := [.int .u8 ((UInt8.ofNat ds.length).toNat : Nat)]) (by simp) (by rw [Heap.get_push, if_pos rfl]) rfl) ((hrd.keep hp fun _ _ => id).new _) (by rw [bcells_len]; omega) (bcells_one _) (by omega) (by omega) (by omega) (fun v' h2 ho2 hf2 hnew2 => ?_)
    refine stp ?_
    have hlen : (numF N).length = 1 + ds.length := by simp [numF, hbe]; omega
    refine ⟨?_, fun i hi => ?_, ?_⟩
    · rw [hlen, show bcells (numF N) = [.int .u8 ((UInt8.ofNat ds.length).toNat : Nat)] ++ bcells ds from by rw [numF, hbe]; rfl]
      exact ho2
    · have := hf.n
      rcases hnew2 i hi with e | e
      · have : h'.n = i := e
        omega
      · simp at e; omega
    · refine Fr.trans (S := fun _ => False) (hf.trans' hp) hf2 fun i hi e => ?_
      have : h'.n = i := e
      have := hf.n
      omega

theorem Counted_okD {h : Heap} {v : Value} {l : List UInt8} (hv : Rd h 1 v (bcells l) l.length) (hs : l.length + 9 < 1048576) :
    Runs Try.prog T0 (.fn fn_landfallref04_Counted) [v] h (fun r h' => Rd h' 1 r (bcells (numF l.length ++ l)) (numF l.length ++ l).length ∧ Fr (fun _ => False) h h') (fun _ _ => False) := by
  have hv0 := hv
  obtain ⟨a0, c0, rfl, _, _⟩ := hv
  have hfl := numF_len (n := l.length) (by omega)
  refine landfallref04_Counted_runs ?_
  refine stp ?_
  refine O.call' (Number_okD (N := l.length) (by omega)) (fun r h1 hr => ?_)
  obtain ⟨ho, hnew, hf⟩ := hr
  refine stp ?_
  refine O.appendL ho ((hv0.keep hf fun _ _ => id).new _) (by rw [bcells_len]; omega) (bcells_one _) (by omega) (by omega) (by omega) (fun v' h2 ho2 hf2 hnew2 => ?_)
  refine stp ?_
  rw [List.length_append, bcells_append]
  exact ⟨ho2.rd, Fr.trans (S := fun _ => False) hf hf2 fun i hi e => by have := hnew i e; omega⟩
end Go.Proofs.Ytcapkoclbmaahaa.A
