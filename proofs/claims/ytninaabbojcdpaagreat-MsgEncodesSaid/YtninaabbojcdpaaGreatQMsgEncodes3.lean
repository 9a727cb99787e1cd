/- Contracts of functions, over the machine. -/
import Derived.Test.YtninaabbojcdpaaGreatQMsgEncodes2
import Derived.Test.YtninaabbojcdpaaGreatVK
import Derived.Test.YtninaabbojcdpaaGreatVJ
noncomputable section
namespace Go.Proofs.YtninaabbojcdpaaGreat.A
open Go Go.Vm
set_option maxRecDepth 10000
set_option linter.unusedVariables false
set_option maxHeartbeats 4000000 in
theorem RCCheck_ok {h : Heap} {ht : Int} {hs : List UInt8} {sv : Value} {l : List Vote} (hl : hs.length = 32) (hv : Rd h 2 sv (tcells l) l.length) :
    Runs Tryz.prog T0 (.fn fn_zccQ) [.agg ⟨.int .i64 ht :: (bcells hs ++ [sv])⟩] h (fun r h' => r = .int .i64 (checkC ht l) ∧ Fr (fun _ => False) h h') (fun _ _ => False) := by
  obtain ⟨a, cap, rfl, hlen, hc⟩ := hv
  haveI := l32 hl
  refine zccQ_runs ?_
  refine stpP ?_
  unfold checkC
  refine O.dec (fun h0 => ?_) (fun h0 => ?_)
  · refine stpP ?_
    rw [if_pos (show ht < 1 ∨ 1073741824 < ht from .inl h0)]
    exact ⟨rfl, Fr.refl.push⟩
  refine stpP ?_
  refine C.if (fun h1 => ?_) (fun h1 => ?_)
  · refine stpP ?_
    rw [if_pos (show ht < 1 ∨ 1073741824 < ht from .inr h1)]
    exact ⟨rfl, Fr.refl.push⟩
  rw [if_neg (show ¬ (ht < 1 ∨ 1073741824 < ht) by omega)]
  refine stpP ?_
  refine C.if (fun h2 => ?_) (fun h2 => ?_)
  · refine stpP ?_
    rw [if_pos (by omega)]
    exact ⟨rfl, Fr.refl.push⟩
  rw [if_neg (by omega)]
  refine stpP ?_
  generalize hh0 : h.push (.cells (.int .i64 ht :: (bcells hs ++ [.slice a l.length cap])) 0) = h0
  have hf : Fr (fun _ => False) h h0 := by rw [← hh0]; exact Fr.refl.push
  haveI hA : HGet h0 h.n (.cells (.int .i64 ht :: (bcells hs ++ [.slice a l.length cap])) 0) := by rw [← hh0]; exact HGet.new
  clear hh0
  refine zccQ_l0_rule (fun m v3 h' => ∃ k : Nat, k ≤ l.length ∧ m = l.length - k ∧ v3 = .int .i64 k ∧ h' = h0 ∧ stepsC (-1) l = stepsC (lastC l k) (l.drop k)) ?_ l.length ⟨0, by omega, rfl, rfl, rfl, rfl⟩
  rintro m v3 h' x2 x18 x19 x20 x21 x22 x23 x24 x25 x26 x27 x28 x29 x30 x31 x32 x33 x34 x35 x36 x37 x38 x39 x40 x41 x42 x43 x44 x45 x46 x47 x48 x49 x50 x51 x52 x53 x54 x55 x56 x57 x58 x59 x60 ⟨k, hk, rfl, rfl, rfl, hst⟩
  refine stpP ?_
  refine C.if (fun hlt => ?_) (fun hge => ?_)
  · have hlt : k < l.length := by omega
    obtain ⟨b, o, sp, rfl, hb, hcc⟩ := hc (by omega)
    have hcc' : cellsAt h' b o (l.length * 2) = some (tcells l) := by rw [cellsAt_keep hf hb id]; exact hcc
    haveI := vote_at hcc' rfl hlt
    rw [stepsC_at hlt] at hst
    refine stpP ?_
    refine O.dec (fun h0 => ?_) (fun h0 => ?_)
    · refine stpP ?_
      have hv : voteS (lastC l k) (l.getD k zVote) = 3 := by unfold voteS; rw [if_pos (.inl h0)]
      rw [hst, hv, if_neg (by decide)]
      exact ⟨rfl, hf⟩
    refine stpP ?_
    refine C.if (fun h1 => ?_) (fun h1 => ?_)
    · refine stpP ?_
      have hv : voteS (lastC l k) (l.getD k zVote) = 3 := by unfold voteS; rw [if_pos (.inr h1)]
      rw [hst, hv, if_neg (by decide)]
      exact ⟨rfl, hf⟩
    refine stpP ?_
    refine D.dec (fun h2 => ?_) (fun h2 => ?_)
    · obtain ⟨j, rfl⟩ : ∃ j, k = j + 1 := ⟨k - 1, by omega⟩
      have hlast : lastC l (j + 1) = (l.getD j zVote).at' := rfl
      haveI := vote_at (k := j) hcc' rfl (by omega)
      refine stpP ?_
      refine D.howT (XOp.mkIndexSl (by omega)) rfl ?_
      refine stpP ?_
      rw [show ((j + 1 : Nat) : Int) - 1 = (j : Nat) from by omega]
      refine D.howT (XOp.mkIndexSl (by omega)) rfl ?_
      refine stpP ?_
      refine C.if (fun h3 => ?_) (fun h3 => ?_)
      · refine stpP ?_
        have hv : voteS (lastC l (j + 1)) (l.getD (j + 1) zVote) = 9 := by unfold voteS; rw [hlast, if_neg (by omega), if_pos h3]
        rw [hst, hv, if_neg (by decide)]
        exact ⟨rfl, hf⟩
      · refine stpP ?_
        have hv : voteS (lastC l (j + 1)) (l.getD (j + 1) zVote) = 0 := by unfold voteS; rw [hlast, if_neg (by omega), if_neg h3]
        rw [hv, if_pos rfl] at hst
        exact zccQ_l0_again (l.length - (j + 1 + 1)) (by omega) ⟨j + 1 + 1, by omega, rfl, rfl, rfl, hst⟩
    · obtain rfl : k = 0 := by omega
      refine stpP ?_
      have hlast : lastC l 0 = -1 := rfl
      have hv : voteS (lastC l 0) (l.getD 0 zVote) = 0 := by unfold voteS; rw [hlast, if_neg (by omega), if_neg (by omega)]
      rw [hv, if_pos rfl] at hst
      exact zccQ_l0_again (l.length - (0 + 1)) (by omega) ⟨0 + 1, by omega, rfl, rfl, rfl, hst⟩
  · obtain rfl : k = l.length := by omega
    refine stpP ?_
    rw [hst, List.drop_length]
    exact ⟨rfl, hf⟩
end Go.Proofs.YtninaabbojcdpaaGreat.A

namespace Go.Proofs.YtninaabbojcdpaaGreat.A
open Go Go.Vm
set_option maxRecDepth 10000
set_option linter.unusedVariables false
theorem SameBytes_ok {h : Heap} {v w : Value} {a b : List UInt8} (hv : Rd h 1 v (bcells a) a.length) (hw : Rd h 1 w (bcells b) b.length) :
    Runs Tryz.prog T0 (.fn fn_zdbQ) [v, w] h (fun r h' => r = .bool (decide (a = b)) ∧ h' = h) (fun _ _ => False) := by
  refine zdbQ_runs ?_
  refine stp ?_
  refine O.how (XOp.mkStr hv) ?_
  refine stp ?_
  refine O.how (XOp.mkStr hw) ?_
  refine stp ?_
  refine ⟨?_, rfl⟩
  congr 1
  rw [ByteArray.toList_eq, ByteArray.toList_eq]
  show (a == b) = decide (a = b)
  by_cases e : a = b
  · subst e; simp
  · simp [e]
end Go.Proofs.YtninaabbojcdpaaGreat.A

namespace Go.Proofs.YtninaabbojcdpaaGreat.A
open Go Go.Vm
set_option maxRecDepth 10000
set_option linter.unusedVariables false
theorem bcells_set : ∀ {l : List UInt8} {i : Nat} {b : UInt8}, i < l.length → over (bcells l) i [.int .u8 (b.toNat : Nat)] = bcells (l.set i b)
  | [], i, b, h => by simp at h
  | v :: l, 0, b, _ => by
    show _ :: over (bcells l) 0 [] = _
    rw [over_nil]; rfl
  | v :: l, i + 1, b, h => by
    show _ :: over (bcells l) i _ = _
    rw [bcells_set (by simpa using h)]; rfl
end Go.Proofs.YtninaabbojcdpaaGreat.A

namespace Go.Proofs.YtninaabbojcdpaaGreat.A
open Go Go.Vm
set_option maxRecDepth 10000
set_option linter.unusedVariables false
def u8of (n : Int) : UInt8 := UInt8.ofNat (IntKind.u8.wrap n).toNat
theorem u8of_eq (n : Int) : IntKind.u8.wrap n = ((u8of n).toNat : Nat) := by
  unfold u8of
  rw [wrap_u8, UInt8.toNat_ofNat']
  omega
theorem over_pre : ∀ (l m : List Value) (k : Nat) (v : Value), k < l.length → over (l ++ m) k [v] = over l k [v] ++ m
  | [], _, _, _, h => by simp at h
  | a :: l, m, 0, v, _ => by
    show v :: over (l ++ m) 0 [] = (v :: over l 0 []) ++ m
    rw [over_nil, over_nil]; rfl
  | a :: l, m, k + 1, v, h => by
    show a :: over (l ++ m) k [v] = (a :: over l k [v]) ++ m
    rw [over_pre l m k v (by simpa using h)]; rfl
theorem lget_pre : ∀ (l m : List Value) (k : Nat), k < l.length → lget (l ++ m) k = lget l k
  | [], _, _, h => by simp at h
  | a :: l, m, 0, _ => rfl
  | a :: l, m, k + 1, h => lget_pre l m k (by simpa using h)
theorem byte_cell {h : Heap} {q es k : Nat} {l : List UInt8} {j : List Value} (hg : h.get q = .cells (bcells l ++ j) es) (hk : k < l.length) : Cell h q k (.int .u8 ((l.getD k 0).toNat : Nat)) := ⟨by
  rw [cellsAt_of (c := bcells l ++ j) (by rw [hg]; rfl) (by simp [bcells_len]; omega), take_one _ _ (by simp [bcells_len]; omega), lget_pre _ _ _ (by rw [bcells_len]; exact hk), (bcells_get hk).eq]⟩
theorem byte_put {h : Heap} {q es k : Nat} {l : List UInt8} {j : List Value} (hg : h.get q = .cells (bcells l ++ j) es) (hk : k < l.length) (n : Int) : Put h q k [.int .u8 (IntKind.u8.wrap n)] (h.set q (.cells (bcells (l.set k (u8of n)) ++ j) es)) := ⟨by
  simp only [putAt, hg]
  rw [if_pos ⟨by simp [bcells_len]; omega, rfl⟩, over_pre _ _ _ _ (by rw [bcells_len]; exact hk), u8of_eq, bcells_set hk]⟩
theorem OverBytes_ok {h : Heap} {v : Value} {l : List UInt8} {n : Nat} (ho : Own h 1 v (bcells l) n) (hs : n < 1048576) : Runs Tryz.prog T0 (.fn fn_zbbQ) [v] h
    (fun r h' => Fr (ownedBy v) h h') (fun _ _ => False) := by
  have hlen := ho.len
  rw [bcells_len, Nat.mul_one] at hlen
  refine zbbQ_runs ?_
  refine stp ?_
  have hsl : ∃ a cap, v = .slice a n cap ∧ (0 < n → ∃ q k, a = some ⟨q, 0, some k⟩) := by
    clear hlen
    generalize bcells l = c at ho
    cases ho with
    | none => exact ⟨_, _, rfl, fun h => by omega⟩
    | lit _ _ => exact ⟨_, _, rfl, fun h => by omega⟩
    | grown _ _ _ _ _ _ => exact ⟨_, _, rfl, fun _ => ⟨_, _, rfl⟩⟩
  have hin : ∃ j es, ∀ q k cap, v = .slice (some ⟨q, 0, some k⟩) n cap → q < h.n ∧ h.get q = .cells (bcells l ++ j) es := by
    clear hlen hsl
    generalize bcells l = c at ho
    cases ho with
    | none => exact ⟨[], 0, fun q k cap h => by cases h⟩
    | lit _ _ => exact ⟨[], 0, fun q k cap h => by cases h⟩
    | grown hq _ _ _ _ hg => exact ⟨_, _, fun q k cap h => by cases h; exact ⟨hq, hg⟩⟩
  obtain ⟨a, cap, rfl, ha⟩ := hsl
  obtain ⟨j, es, hin⟩ := hin
  refine zbbQ_l0_rule (fun m v2 h' => ∃ k : Nat, k ≤ n ∧ m = n - k ∧ v2 = .int .i64 k ∧ (∃ l' : List UInt8, l'.length = n ∧ ∀ q s, a = some ⟨q, 0, some s⟩ → h'.get q = .cells (bcells l' ++ j) es) ∧ Fr (ownedBy (.slice a n cap)) h h') ?_ n ⟨0, by omega, rfl, rfl, ⟨l, hlen, fun q s e => by subst e; exact (hin q s cap rfl).2⟩, Fr.refl⟩
  rintro m v2 h' x3 x4 x5 x6 x7 x8 x9 x10 x11 x12 x13 x14 x15 x16 ⟨k, hk, rfl, rfl, ⟨l', hl', hg⟩, hf⟩
  refine stp ?_
  refine C.if (fun hlt => ?_) (fun hge => ?_)
  · have hk : k < n := by omega
    obtain ⟨q, s, rfl⟩ := ha (by omega)
    have hgq := hg q s rfl
    have hq := (hin q s cap rfl).1
    haveI := byte_cell hgq (k := k) (by omega)
    haveI := byte_put hgq (k := k) (by omega)
    haveI : BLt q h' := ⟨hf.lt hq⟩
    have hw : ∀ z : UInt8, (l'.set k z).length = n := fun z => by rw [List.length_set]; exact hl'
    refine stp ?_
    refine O.how XOp.xorI ?_
    refine stp ?_
    refine zbbQ_l0_again (n - (k + 1)) (by omega) ⟨k + 1, by omega, rfl, rfl, ⟨_, hw _, fun q' s' e => by cases e; rw [Heap.get_set, if_pos rfl]⟩, hf.set fun _ => rfl⟩
  · refine stp ?_
    exact hf
end Go.Proofs.YtninaabbojcdpaaGreat.A

namespace Go.Proofs.YtninaabbojcdpaaGreat.A
open Go Go.Vm
set_option maxRecDepth 10000
set_option linter.unusedVariables false
def byteAt (n k : Nat) : UInt8 := UInt8.ofNat (n / 2 ^ (8 * k) % 256)
def word8 (n : Nat) : List UInt8 := [byteAt n 7, byteAt n 6, byteAt n 5, byteAt n 4, byteAt n 3, byteAt n 2, byteAt n 1, byteAt n 0]
theorem word8_len (n : Nat) : (word8 n).length = 8 := rfl
theorem shrU {P : Program} {ts : List Value} {h : Heap} {x y : Operand} {t t' ty : TypeId} {N s : Nat} {q : Int} {J : IntKind} (hq : q = s) (hs : s < 64) [e1 : Ev ts x (.int .u64 (N : Nat))] [e2 : Ev ts y (.int J q)] :
    XOp P ts h (.bin .shr (so (.binOp .shr t x y t') ty) x y) (.int .u64 ((N / 2 ^ s : Nat) : Int)) h := by
  have := XOp.shr (P := P) (ts := ts) (h := h) (x := x) (y := y) (t := t) (t' := t') (ty := ty) (K := .u64) (J := J) (p := (N : Int)) (q := q) (by omega)
  rw [show min q.toNat IntKind.u64.bits = s from by rw [hq, show IntKind.u64.bits = 64 from rfl]; omega, Int.fdiv_eq_ediv_of_nonneg _ (by exact_mod_cast Nat.zero_le _)] at this
  rw [show ((N / 2 ^ s : Nat) : Int) = (N : Int) / 2 ^ s from by rw [Int.natCast_ediv, Int.natCast_pow]; rfl]
  exact this
theorem byte_wrap (N : Nat) : IntKind.wrap .u8 ((N : Nat) : Int) = (((UInt8.ofNat (N % 256)).toNat : Nat) : Int) := by
  rw [wrap_u8, u8nat (Nat.mod_lt _ (by omega))]
  omega
def wk (n k : Nat) : List Value := bcells (List.replicate (8 - k) 0 ++ (word8 n).drop (8 - k))
set_option maxHeartbeats 4000000 in
theorem word_ok {h : Heap} {n : Nat} : Runs Tryz.prog T0 (.fn fn_zidQ) [.int .u64 n] h (fun r h' => r = .agg ⟨bcells (word8 n)⟩ ∧ Fr (fun _ => False) h h') (fun _ _ => False) := by
  refine zidQ_runs ?_
  refine stp ?_
  refine zidQ_l0_rule (fun m v5 h' => ∃ k : Nat, k ≤ 8 ∧ m = 8 - k ∧ v5 = .int .i64 k ∧ h'.get (h.n + 1) = .cells (wk n k) 0 ∧ h'.get h.n = .cells [.int .u8 0, .int .u8 0, .int .u8 0, .int .u8 0, .int .u8 0, .int .u8 0, .int .u8 0, .int .u8 0] 0 ∧ h.n + 1 < h'.n ∧ Fr (fun _ => False) h h') ?_ 8 ⟨0, by omega, rfl, rfl, HGet.new.eq, by rw [Heap.get_push, if_neg (by simp), Heap.get_push, if_pos rfl], by simp, Fr.refl.push.push⟩
  rintro m v5 h' x4 x6 x7 x8 x9 x10 x11 x12 x13 x14 x15 x16 ⟨k, hk, rfl, rfl, hg, hg0, hn, hf⟩
  have hst : ∀ {k : Nat} {b : UInt8}, k < 8 → b = byteAt n k → over (wk n k) (7 - k) [.int .u8 (b.toNat : Nat)] = wk n (k + 1) := by
    intro k b hk hb
    subst hb
    rcases (show k = 0 ∨ k = 1 ∨ k = 2 ∨ k = 3 ∨ k = 4 ∨ k = 5 ∨ k = 6 ∨ k = 7 by omega) with rfl | rfl | rfl | rfl | rfl | rfl | rfl | rfl <;> rfl
  haveI : HGet h' (h.push (.cells [.int .u8 0, .int .u8 0, .int .u8 0, .int .u8 0, .int .u8 0, .int .u8 0, .int .u8 0, .int .u8 0] 0)).n _ := ⟨hg⟩
  haveI : BNe h.n (h.push (.cells [.int .u8 0, .int .u8 0, .int .u8 0, .int .u8 0, .int .u8 0, .int .u8 0, .int .u8 0, .int .u8 0] 0)).n := ⟨by simp⟩
  haveI : HGet h' h.n _ := ⟨hg0⟩
  refine stp ?_
  refine C.if (fun hlt => ?_) (fun hge => ?_)
  · refine stp ?_
    refine O.how (shrU (N := n) (s := 8 * k) (by rw [mul_in (by omega)]; omega) (by omega)) ?_
    refine stp ?_
    rw [byte_wrap]
    have h8 : (7 - (k : Int)).toNat = 7 - k := by omega
    simp only [h8, Nat.zero_add, Nat.mul_one]
    refine O.by0 (mkStoreN (P := Tryz.prog) (h := h') (xs := [.int .u8 (byteAt n k).toNat]) (c := wk n k) (r := h.n + 1) (o := 7 - k) (sp := none) (es := 0) (by simp [wk, bcells_len, word8_len]) rfl rfl (g := ⟨hg⟩)) rfl ?_
    rw [hst (by omega) rfl]
    refine stp ?_
    exact zidQ_l0_again (8 - (k + 1)) (by omega) ⟨k + 1, by omega, rfl, rfl, by rw [Heap.get_set, if_pos rfl], by rw [Heap.get_set, if_neg (by omega)]; exact hg0, by simpa using hn, hf.set fun e => absurd e (by omega)⟩
  · obtain rfl : k = 8 := by omega
    have e8 : wk n 8 = [.int .u8 (byteAt n 7).toNat, .int .u8 (byteAt n 6).toNat, .int .u8 (byteAt n 5).toNat, .int .u8 (byteAt n 4).toNat, .int .u8 (byteAt n 3).toNat, .int .u8 (byteAt n 2).toNat, .int .u8 (byteAt n 1).toNat, .int .u8 (byteAt n 0).toNat] := rfl
    rw [e8] at hg
    haveI : HGet h' (h.push (.cells [.int .u8 0, .int .u8 0, .int .u8 0, .int .u8 0, .int .u8 0, .int .u8 0, .int .u8 0, .int .u8 0] 0)).n _ := ⟨hg⟩
    refine stp ?_
    exact ⟨rfl, hf.set fun e => absurd e (by omega)⟩
theorem WWord_okV {h : Heap} {S : Nat → Prop} {p lim : Nat} {st : WSt} {n : Nat} (hw : PVs h S p lim st) (hS : ∀ i, h.n ≤ i → S i) (hs : st.bs.length + 8 < 1048576) :
    Runs Tryz.prog T0 (.fn fn_zfdQ) [.pointer (some ⟨p, 0, none⟩), .int .u64 n] h (WritesV h S p lim (putS lim true (word8 n) st)) (fun _ _ => False) := by
  refine zfdQ_runs ?_
  refine stp ?_
  refine O.call' (word_ok (n := n)) (fun r h1 hr => ?_)
  obtain ⟨rfl, hf⟩ := hr
  have hw1 := hw.none hf
  have n1 := hf.n
  rw [show bcells (word8 n) = [.int .u8 (byteAt n 7).toNat, .int .u8 (byteAt n 6).toNat, .int .u8 (byteAt n 5).toNat, .int .u8 (byteAt n 4).toNat, .int .u8 (byteAt n 3).toNat, .int .u8 (byteAt n 2).toNat, .int .u8 (byteAt n 1).toNat, .int .u8 (byteAt n 0).toNat] from rfl]
  refine stp ?_
  refine O.call' (put_okV (ls := [(.slice (some ⟨h1.n, 0, none⟩) 8 8, word8 n)]) (hw1.none Fr.refl.push.push) (fun i hi => hS i (by simp at hi; omega)) (rd_lit rfl) ?_ (by simp) (by simp [flat, word8_len]; omega)) (fun r h2 hr => ?_)
  · intro q hq
    simp at hq
    subst hq
    exact (rd_lit (h := h1) (c := bcells (word8 n)) (es := 0) (n := 8) rfl).keep (S := fun _ => False) Fr.refl.push fun _ _ => id
  · refine stp ?_
    rw [show flat [(Value.slice (some ⟨h1.n, 0, none⟩) 8 8, word8 n)] = word8 n from by simp [flat]] at hr
    exact ⟨hr.1, hr.2.1, Fr.trans (S := S) (hf.mono fun _ _ h => h.elim) (Fr.trans (S := S) Fr.refl.push.push hr.2.2 fun _ _ h => h) fun _ _ h => h⟩
theorem div_step (n k : Nat) : n / 2 ^ (8 * k) / 256 = n / 2 ^ (8 * (k + 1)) := by
  rw [Nat.div_div_eq_div_mul, show 8 * (k + 1) = 8 * k + 8 from by omega, Nat.pow_add]
theorem word8_end (n k : Nat) (hk : k < 8) : byteAt n k :: (word8 n).drop (8 - k) = (word8 n).drop (8 - (k + 1)) := by
  rcases (show k = 0 ∨ k = 1 ∨ k = 2 ∨ k = 3 ∨ k = 4 ∨ k = 5 ∨ k = 6 ∨ k = 7 by omega) with rfl | rfl | rfl | rfl | rfl | rfl | rfl | rfl <;> rfl
set_option maxHeartbeats 4000000 in
theorem RWord8_ok {h : Heap} {n : Nat} : Runs Tryz.prog T0 (.fn fn_zmbQ) [.int .u64 n] h (fun r h' => Rd h' 1 r (bcells (word8 n)) 8 ∧ Fr (fun _ => False) h h') (fun _ _ => False) := by
  refine zmbQ_runs ?_
  refine stp ?_
  refine zmbQ_l0_rule (fun m v0 v3 v4 h' => ∃ k : Nat, k ≤ 8 ∧ m = 8 - k ∧ v4 = .int .i64 k ∧ v0 = .int .u64 (n / 2 ^ (8 * k) : Nat) ∧ Rd h' 1 v3 (bcells ((word8 n).drop (8 - k))) k ∧ Fr (fun _ => False) h h') ?_ 8 ⟨0, by omega, rfl, rfl, by simp, Rd.nil, Fr.refl⟩
  rintro m v0 v3 v4 h' x5 x6 x7 x8 x9 x10 x11 x12 x13 x14 x15 ⟨k, hk, rfl, rfl, rfl, hr3, hf⟩
  refine stp ?_
  refine C.if (fun hlt => ?_) (fun hge => ?_)
  · refine stp ?_
    rw [byte_wrap]
    refine O.appendL (n := 1) (m := k) (c := [.int .u8 (byteAt n k).toNat]) (.lit (q := h'.n) (es := 0) (by simp) HGet.new.eq rfl) ((hr3.keep (S := fun _ => False) Fr.refl.push fun _ _ => id).new _) (by rw [bcells_len, List.length_drop, word8_len]; omega) (bcells_one _) (by omega) (by omega) (by omega) (fun v' h2 ho2 hf2 hn2 => ?_)
    refine stp ?_
    refine O.how XOp.shr8 ?_
    refine stp ?_
    rw [show (((n / 2 ^ (8 * k) : Nat) : Int) / 256) = ((n / 2 ^ (8 * (k + 1)) : Nat) : Int) from by rw [← div_step]; rfl]
    refine zmbQ_l0_again (8 - (k + 1)) (by omega) ⟨k + 1, by omega, rfl, by rfl, rfl, ?_, hf.push.trans hf2 fun i hi e => by have : h'.n = i := e; have := hf.n; omega⟩
    rw [← word8_end n k (by omega), Nat.add_comm k 1]
    exact ho2.rd
  · obtain rfl : k = 8 := by omega
    obtain ⟨a, c, rfl, _⟩ := id hr3
    refine stp ?_
    exact ⟨hr3, hf⟩
theorem Word_okD {h : Heap} {lo p lim : Nat} {st : WSt} {n : Nat} (hw : DWs h lo p lim st) (hlim : lim < 1048576 ∨ st.bs.length + 8 < 1048576) :
    Runs Tryz.prog T0 (.fn fn_zubQ) [.pointer (some ⟨p, 0, none⟩), .int .u64 n] h (DWrites h lo p lim (putS lim true (word8 n) st)) (fun _ _ => False) := by
  refine zubQ_runs ?_
  refine stp ?_
  refine O.call' (RWord8_ok (n := n)) (fun r h1 hr => ?_)
  obtain ⟨hrd, f1⟩ := hr
  refine stp ?_
  refine O.call' (Put_okD (l := word8 n) (hw.none f1) hrd (by rw [word8_len]; exact hlim) (by simp [word8_len])) (fun r h2 hr => ?_)
  obtain ⟨rfl, hw2, hf2⟩ := hr
  refine stp ?_
  exact ⟨rfl, hw2, Fr.trans' (f1.mono fun _ _ h => h.elim) hf2⟩
end Go.Proofs.YtninaabbojcdpaaGreat.A

namespace Go.Proofs.YtninaabbojcdpaaGreat.A
open Go Go.Vm
set_option maxRecDepth 10000
set_option linter.unusedVariables false
def voteF (v : Vote) : List UInt8 := numF v.at'.toNat ++ word8 v.sig
def bodyC (l : List Vote) : List UInt8 := l.flatMap voteF
def encC (ht : Int) (hs : List UInt8) (l : List Vote) : List UInt8 := numF ht.toNat ++ hs ++ numF l.length ++ bodyC l
theorem stepsC_range : ∀ {l : List Vote} {o : Int}, stepsC o l = 0 → ∀ v ∈ l, 0 ≤ v.at' ∧ v.at' < 64
  | [], _, _, _, h => by cases h
  | v :: l, o, h, w, hw => by
    rw [stepsC] at h
    by_cases hA : voteS o v = 0
    · rw [if_pos hA] at h
      have hv : 0 ≤ v.at' ∧ v.at' < 64 := by
        unfold voteS at hA
        split at hA
        · cases hA
        · omega
      rcases List.mem_cons.1 hw with rfl | hw
      · exact hv
      · exact stepsC_range h w hw
    · rw [if_neg hA] at h; exact absurd h hA
theorem checkC_ok {ht : Int} {l : List Vote} (h : checkC ht l = 0) : (1 ≤ ht ∧ ht ≤ 1073741824) ∧ l.length ≤ 64 ∧ stepsC (-1) l = 0 ∧ ∀ v ∈ l, 0 ≤ v.at' ∧ v.at' < 64 := by
  unfold checkC at h
  split at h
  · cases h
  · split at h
    · cases h
    · exact ⟨by omega, by omega, h, stepsC_range h⟩
theorem bodyC_len : ∀ {l : List Vote}, (∀ v ∈ l, 0 ≤ v.at' ∧ v.at' < 64) → (bodyC l).length ≤ l.length * 17
  | [], _ => by simp [bodyC]
  | v :: l, h => by
    have h1 := bodyC_len (l := l) fun w hw => h w (by simp [hw])
    have h2 := h v (by simp)
    have h3 := numF_len (n := v.at'.toNat) (by omega)
    simp only [bodyC, voteF, List.flatMap_cons, List.length_append, List.length_cons, word8_len] at h1 ⊢
    omega
theorem bodyC_take {l : List Vote} {k : Nat} (hk : k < l.length) : bodyC (l.take (k + 1)) = bodyC (l.take k) ++ (numF (l.getD k zVote).at'.toNat ++ word8 (l.getD k zVote).sig) := by
  have : l.take (k + 1) = l.take k ++ [l.getD k zVote] := by
    rw [List.take_succ_eq_append_getElem hk]
    simp [List.getD, hk]
  rw [this]
  simp [bodyC, voteF]
theorem getD_memC {l : List Vote} {k : Nat} (hk : k < l.length) : l.getD k zVote ∈ l := by
  simp [List.getD, hk]
theorem encC_len {ht : Int} {hs : List UInt8} {l : List Vote} (hh : hs.length = 32) (h : checkC ht l = 0) : (encC ht hs l).length ≤ 1138 := by
  obtain ⟨h1, h2, _, h3⟩ := checkC_ok h
  have h4 := bodyC_len h3
  have h5 := numF_len (n := l.length) (by omega)
  have h6 := numF_len (n := ht.toNat) (by omega)
  unfold encC
  simp only [List.length_append]
  omega
set_option maxHeartbeats 8000000 in
theorem CEncode_ok {h : Heap} {ht : Int} {hs : List UInt8} {sv : Value} {l : List Vote} (hl : hs.length = 32) (hv : Rd h 2 sv (tcells l) l.length) :
    Runs Tryz.prog T0 (.fn fn_zkQ) [.agg ⟨.int .i64 ht :: (bcells hs ++ [sv])⟩] h
      (fun r h' => ∃ w, r = .tuple ⟨[w, .int .i64 (checkC ht l)]⟩ ∧ Own h' 1 w (bcells (if checkC ht l = 0 then encC ht hs l else [])) (if checkC ht l = 0 then encC ht hs l else []).length ∧ (∀ i, ownedBy w i → h.n ≤ i) ∧ Fr (fun _ => False) h h') (fun _ _ => False) := by
  have hv0 := hv
  obtain ⟨a, cap, rfl, hlen, hc⟩ := hv
  haveI := l32 hl
  refine zkQ_runs ?_
  refine stp ?_
  refine O.call' (CCheck_ok hl (hv0.keep (S := fun _ => False) Fr.refl.push fun _ _ => id)) (fun r h1 hr => ?_)
  obtain ⟨rfl, hf1⟩ := hr
  have hn1 := hf1.n
  simp only [Heap.n_push] at hn1
  have g1 : HGet h1 h.n (.cells (.int .i64 ht :: (bcells hs ++ [.slice a l.length cap])) 0) := hf1.keep (b := h.n) HGet.new (by simp) id
  have f01 : Fr (fun _ => False) h h1 := Fr.trans (S := fun _ => False) Fr.refl.push hf1 fun _ _ => id
  haveI := g1
  refine stp ?_
  refine C.ifN (fun hc => ?_) (fun hz => ?_)
  · refine stp ?_
    rw [if_neg hc]
    exact ⟨_, rfl, .none, fun i h => h.elim, f01⟩
  obtain ⟨c1, c2, c3, c4⟩ := checkC_ok hz
  have hnl := numF_len (n := l.length) (by omega)
  have hnh := numF_len (n := ht.toNat) (by omega)
  refine stp ?_
  refine O.call' (NewWriter_ok (lim := 1048576) (by omega)) (fun r h2 hr => ?_)
  obtain ⟨rfl, hw2, hf2⟩ := hr
  have hn2 := hf2.n
  have g2 := hf2.keep g1 (by omega) id
  haveI := g2
  refine stp ?_
  refine O.call' (WNum_ok hw2 (by omega) (by simp only [List.length_nil]; omega)) (fun r h3 hr => ?_)
  obtain ⟨rfl, hw3, hf3⟩ := hr
  have hn3 := hf3.n
  rw [decide_eq_true (by omega), putS_fit (by simp only [List.length_nil]; omega), List.nil_append] at hw3
  have g3 := hf3.keep g2 (by omega) (by omega)
  haveI := g3
  refine stp ?_
  refine O.call' (WHash_ok hw3 hl (by show (numF ht.toNat).length + 32 < _; omega)) (fun r h4 hr => ?_)
  obtain ⟨rfl, hw4, hf4⟩ := hr
  have hn4 := hf4.n
  rw [putS_fit (by show (numF ht.toNat).length + _ ≤ _; omega)] at hw4
  have g4 := hf4.keep g3 (by omega) (by omega)
  haveI := g4
  refine stp ?_
  refine O.call' (WNum_ok hw4 (by omega) (by simp only [List.length_append]; omega)) (fun r h5 hr => ?_)
  obtain ⟨rfl, hw5, hf5⟩ := hr
  have hn5 := hf5.n
  rw [decide_eq_true (by omega), putS_fit (by simp only [List.length_append, Int.toNat_natCast]; omega), Int.toNat_natCast] at hw5
  have g5 := hf5.keep g4 (by omega) (by omega)
  haveI := g5
  have f15 : Fr (fun i => h1.n ≤ i) h1 h5 := (((hf2.mono fun _ _ h => h.elim).trans' hf3).trans' hf4).trans' hf5
  have f05 : Fr (fun i => h1.n ≤ i) h h5 := Fr.trans (S := fun i => h1.n ≤ i) (f01.mono fun _ _ h => h.elim) f15 fun _ _ h => h
  generalize hB : numF ht.toNat ++ hs ++ numF l.length = bb at *
  have hbb : bb.length ≤ 50 := by rw [← hB]; simp only [List.length_append]; omega
  refine stp ?_
  refine zkQ_l0_rule (fun m v34 h' => ∃ k : Nat, k ≤ l.length ∧ m = l.length - k ∧ v34 = .int .i64 k ∧ PVs h' (fun i => h1.n ≤ i) h1.n 1048576 ⟨bb ++ bodyC (l.take k), 0⟩ ∧ Fr (fun i => h1.n ≤ i) h h') ?_ l.length ⟨0, by omega, rfl, rfl, by simpa [bodyC] using PVs.of hw5, f05⟩
  rintro m v34 h' x8 x35 x36 x37 x38 x39 x40 x41 x42 x43 x44 x45 x46 ⟨k, hk, rfl, rfl, hw, hf⟩
  refine stp ?_
  refine C.if (fun hlt => ?_) (fun hge => ?_)
  · have hlt : k < l.length := by omega
    obtain ⟨b, o, sp, rfl, hb, hcc⟩ := hc (by omega)
    have hcc' : cellsAt h' b o (l.length * 2) = some (tcells l) := by rw [cellsAt_keep hf hb (by omega)]; exact hcc
    haveI := vote_cells hcc' rfl hlt
    have hr := c4 _ (getD_memC hlt)
    have hbl := bodyC_len (l := l.take k) fun v hv => c4 v (List.mem_of_mem_take hv)
    rw [List.length_take] at hbl
    have hmin : min k l.length = k := by omega
    rw [hmin] at hbl
    have hpl := numF_len (n := (l.getD k zVote).at'.toNat) (by omega)
    refine stp ?_
    have hlt' := hw.lt
    have hS : ∀ i, (h'.push (.cells (l.getD k zVote).cells 0)).n ≤ i → h1.n ≤ i ∧ i ≠ h'.n := fun i hi => by simp at hi; omega
    have hw0 : PVs (h'.push (.cells (l.getD k zVote).cells 0)) (fun i => h1.n ≤ i ∧ i ≠ h'.n) h1.n 1048576 ⟨bb ++ bodyC (l.take k), 0⟩ := (hw.mono fun i hi hs => ⟨hs, by omega⟩).none Fr.refl.push
    refine O.call' (WNum_okV hw0 hS (by omega) (by simp only [List.length_append]; omega)) (fun r h6 hr => ?_)
    obtain ⟨rfl, hw6, hf6⟩ := hr
    rw [decide_eq_true (by omega), putS_fit (by simp only [List.length_append]; omega)] at hw6
    have hn6 := hf6.n
    have hq6 : HGet h6 h'.n (.cells (l.getD k zVote).cells 0) := hf6.keep HGet.new (by simp) (by simp)
    haveI := hq6
    simp only [Heap.n_push] at hn6
    refine stp ?_
    refine O.call' (WWord_okV (n := (l.getD k zVote).sig) hw6 (fun i hi => by omega) (by simp only [List.length_append]; omega)) (fun r h7 hr => ?_)
    obtain ⟨rfl, hw7, hf7⟩ := hr
    rw [putS_fit (by simp only [List.length_append, word8_len]; omega)] at hw7
    refine stp ?_
    refine zkQ_l0_again (l.length - (k + 1)) (by omega) ⟨k + 1, by omega, rfl, rfl, ?_, ?_⟩
    · rw [bodyC_take hlt, ← List.append_assoc, ← List.append_assoc]
      exact hw7.mono fun i _ hs => hs.1
    · exact Fr.trans (S := fun i => h1.n ≤ i) hf ((Fr.trans (S := fun i => h1.n ≤ i ∧ i ≠ h'.n) Fr.refl.push (hf6.trans' hf7) fun _ _ h => h).mono fun _ _ h => h.1) fun _ _ h => h
  · obtain rfl : k = l.length := by omega
    rw [List.take_length] at hw
    refine stp ?_
    refine O.call' (Done_ok hw.to) (fun r h6 hr => ?_)
    obtain ⟨w, rfl, ho, hnew, hf6⟩ := hr
    refine stp ?_
    rw [hz] at *
    rw [if_pos rfl]
    refine ⟨w, rfl, by rw [if_pos rfl] at ho; unfold encC; rw [hB]; exact ho, fun i hi => ?_, Fr.trans (S := fun _ => False) (S' := fun i => h1.n ≤ i) Fr.refl (hf.trans' (hf6.mono fun _ _ h => h.elim)) fun i hi h => by omega⟩
    have := hnew i hi
    have := hf.n
    omega
end Go.Proofs.YtninaabbojcdpaaGreat.A

namespace Go.Proofs.YtninaabbojcdpaaGreat.A
open Go Go.Vm
set_option maxRecDepth 10000
set_option linter.unusedVariables false
set_option maxHeartbeats 8000000 in
theorem RCEncode_ok {h : Heap} {ht : Int} {hs : List UInt8} {sv : Value} {l : List Vote} (hl : hs.length = 32) (hv : Rd h 2 sv (tcells l) l.length) :
    Runs Tryz.prog T0 (.fn fn_zdcQ) [.agg ⟨.int .i64 ht :: (bcells hs ++ [sv])⟩] h
      (fun r h' => ∃ w, r = .tuple ⟨[w, .int .i64 (checkC ht l)]⟩ ∧ Own h' 1 w (bcells (if checkC ht l = 0 then encC ht hs l else [])) (if checkC ht l = 0 then encC ht hs l else []).length ∧ (∀ i, ownedBy w i → h.n ≤ i) ∧ Fr (fun _ => False) h h') (fun _ _ => False) := by
  have hv0 := hv
  obtain ⟨a, cap, rfl, hlen, hc⟩ := hv
  haveI := l32 hl
  refine zdcQ_runs ?_
  refine stp ?_
  refine O.call' (RCCheck_ok hl (hv0.keep (S := fun _ => False) Fr.refl.push fun _ _ => id)) (fun r h1 hr => ?_)
  obtain ⟨rfl, hf1⟩ := hr
  have hn1 := hf1.n
  simp only [Heap.n_push] at hn1
  have g1 : HGet h1 h.n (.cells (.int .i64 ht :: (bcells hs ++ [.slice a l.length cap])) 0) := hf1.keep (b := h.n) HGet.new (by simp) id
  have f01 : Fr (fun _ => False) h h1 := Fr.trans (S := fun _ => False) Fr.refl.push hf1 fun _ _ => id
  haveI := g1
  refine stp ?_
  refine C.ifN (fun hc => ?_) (fun hz => ?_)
  · refine stp ?_
    rw [if_neg hc]
    exact ⟨_, rfl, .none, fun i h => h.elim, f01⟩
  obtain ⟨c1, c2, c3, c4⟩ := checkC_ok hz
  have hnl := numF_len (n := l.length) (by omega)
  have hnh := numF_len (n := ht.toNat) (by omega)
  refine stp ?_
  refine O.call' (NewWriter_okD (lim := 65536) (by omega)) (fun r h2 hr => ?_)
  obtain ⟨rfl, hw2, hf2⟩ := hr
  have hn2 := hf2.n
  have g2 := hf2.keep g1 (by omega) id
  haveI := g2
  refine stp ?_
  refine O.call' (Num_okD hw2 (by omega) (.inl (by omega))) (fun r h3 hr => ?_)
  obtain ⟨rfl, hw3, hf3⟩ := hr
  have hn3 := hf3.n
  rw [decide_eq_true (by omega), putS_fit (by simp only [List.length_nil]; omega), List.nil_append] at hw3
  have g3 := hf3.keep g2 (by omega) (by omega)
  haveI := g3
  refine stp ?_
  refine O.call' (Hash_okD hw3 hl (.inl (by omega))) (fun r h4 hr => ?_)
  obtain ⟨rfl, hw4, hf4⟩ := hr
  have hn4 := hf4.n
  rw [putS_fit (by show (numF ht.toNat).length + _ ≤ _; omega)] at hw4
  have g4 := hf4.keep g3 (by omega) (by omega)
  haveI := g4
  refine stp ?_
  refine O.call' (Num_okD hw4 (by omega) (.inl (by omega))) (fun r h5 hr => ?_)
  obtain ⟨rfl, hw5, hf5⟩ := hr
  have hn5 := hf5.n
  rw [decide_eq_true (by omega), putS_fit (by simp only [List.length_append, Int.toNat_natCast]; omega), Int.toNat_natCast] at hw5
  have g5 := hf5.keep g4 (by omega) (by omega)
  haveI := g5
  have f15 : Fr (fun i => h1.n ≤ i) h1 h5 := Fr.trans (S := fun i => h1.n ≤ i) (hf2.mono fun _ _ h => h.elim) ((hf3.trans' hf4).trans' hf5) fun i _ e => by omega
  have f05 : Fr (fun i => h1.n ≤ i) h h5 := Fr.trans (S := fun i => h1.n ≤ i) (f01.mono fun _ _ h => h.elim) f15 fun _ _ h => h
  generalize hB : numF ht.toNat ++ hs ++ numF l.length = bb at *
  have hbb : bb.length ≤ 50 := by rw [← hB]; simp only [List.length_append]; omega
  refine stp ?_
  refine zdcQ_l0_rule (fun m v7 h' => ∃ k : Nat, k ≤ l.length ∧ m = l.length - k ∧ v7 = .int .i64 k ∧ DWs h' h1.n h1.n 65536 ⟨bb ++ bodyC (l.take k), 0⟩ ∧ Fr (fun i => h1.n ≤ i) h1 h') ?_ l.length ⟨0, by omega, rfl, rfl, by simpa [bodyC] using hw5, f15⟩
  rintro m v7 h' x30 x31 x32 x33 x34 x35 x36 x37 x38 x39 x40 x41 x42 x43 x44 x45 x46 x47 x48 x49 x50 x51 x52 ⟨k, hk, rfl, rfl, hw, hf⟩
  have g' := hf.keep g1 (by omega) (by omega)
  haveI := g'
  refine stp ?_
  refine C.if (fun hlt => ?_) (fun hge => ?_)
  · have hlt : k < l.length := by omega
    obtain ⟨b, o, sp, rfl, hb, hcc⟩ := hc (by omega)
    have hcc1 : cellsAt h1 b o (l.length * 2) = some (tcells l) := by rw [cellsAt_keep f01 hb id]; exact hcc
    have hb1 : b < h1.n := by omega
    have hcc' : cellsAt h' b o (l.length * 2) = some (tcells l) := by rw [cellsAt_keep hf hb1 (by omega)]; exact hcc1
    haveI := vote_cells hcc' rfl hlt
    haveI := vote_at hcc' rfl hlt
    have hr := c4 _ (getD_memC hlt)
    have hbl := bodyC_len (l := l.take k) fun v hv => c4 v (List.mem_of_mem_take hv)
    rw [List.length_take] at hbl
    have hmin : min k l.length = k := by omega
    rw [hmin] at hbl
    have hpl := numF_len (n := (l.getD k zVote).at'.toNat) (by omega)
    refine stp ?_
    refine O.call' (Num_okD hw (by omega) (.inl (by omega))) (fun r h6 hr => ?_)
    obtain ⟨rfl, hw6, hf6⟩ := hr
    rw [decide_eq_true (by omega), putS_fit (by simp only [List.length_append]; omega)] at hw6
    have hn6 := hf6.n
    have f6 : Fr (fun i => h1.n ≤ i) h1 h6 := Fr.trans (S := fun i => h1.n ≤ i) hf hf6 fun i _ e => by omega
    have g6 := f6.keep g1 (by omega) (by omega)
    haveI := g6
    have hcc6 : cellsAt h6 b o (l.length * 2) = some (tcells l) := by rw [cellsAt_keep f6 hb1 (by omega)]; exact hcc1
    haveI := vote_cells hcc6 rfl hlt
    haveI : Cell h6 b (o + k * 2 + 1) (.int .u64 (l.getD k zVote).sig) := ⟨by
      have h5 := (vote_cells hcc6 rfl hlt).eq
      have := cellsAt_sub (k := 1) (m := 1) h5 (by omega)
      simpa using this⟩
    refine stp ?_
    refine O.call' (Word_okD (n := (l.getD k zVote).sig) hw6 (.inl (by omega))) (fun r h7 hr => ?_)
    obtain ⟨rfl, hw7, hf7⟩ := hr
    rw [putS_fit (by simp only [List.length_append, word8_len]; omega)] at hw7
    refine stp ?_
    refine zdcQ_l0_again (l.length - (k + 1)) (by omega) ⟨k + 1, by omega, rfl, rfl, ?_, Fr.trans (S := fun i => h1.n ≤ i) f6 hf7 fun i _ e => by omega⟩
    rw [bodyC_take hlt, ← List.append_assoc, ← List.append_assoc]
    exact hw7
  · obtain rfl : k = l.length := by omega
    rw [List.take_length] at hw
    have hel := encC_len hl hz
    have hbc := bodyC_len c4
    refine stp ?_
    refine O.call' (Done_okD hw (by simp only [List.length_append]; omega)) (fun r h6 hr => ?_)
    obtain ⟨w, rfl, ho, hnew, hf6⟩ := hr
    refine stp ?_
    rw [hz] at *
    rw [if_pos rfl]
    refine ⟨w, rfl, by rw [if_pos rfl] at ho; unfold encC; rw [hB]; exact ho, fun i hi => ?_, Fr.trans (S := fun _ => False) (S' := fun i => h1.n ≤ i) f01 (hf.trans' (hf6.mono fun _ _ h => h.elim)) fun i hi h => by omega⟩
    have := hnew i hi
    have := hf.n
    omega
end Go.Proofs.YtninaabbojcdpaaGreat.A

namespace Go.Proofs.YtninaabbojcdpaaGreat.A
open Go Go.Vm
set_option maxRecDepth 10000
set_option linter.unusedVariables false
def firstE : List Int → Int
  | [] => 0
  | e :: es => if e = 0 then firstE es else e
theorem firstE_drop {es : List Int} {k : Nat} (hk : k < es.length) : firstE (es.drop k) = if es.getD k 0 = 0 then firstE (es.drop (k + 1)) else es.getD k 0 := by
  have : es.drop k = es.getD k 0 :: es.drop (k + 1) := by
    rw [List.drop_eq_getElem_cons hk]
    simp [List.getD, hk]
  rw [this]
  rfl
def Holds (h0 : Heap) (f : Value) (e : Int) : Prop :=
  ∃ fid cap, f = .func (.func fid) ⟨[]⟩ ⟨cap⟩ ∧ ∀ h, Fr (fun i => h0.n ≤ i) h0 h → Runs Tryz.prog T0 (.fn fid) cap h (fun r h' => r = .int .i64 e ∧ Fr (fun _ => False) h h') (fun _ _ => False)
theorem Holds.keep {h0 h1 : Heap} {f : Value} {e : Int} (hh : Holds h0 f e) (hf : Fr (fun _ => False) h0 h1) : Holds h1 f e :=
  let ⟨fid, cap, h1', h2⟩ := hh
  ⟨fid, cap, h1', fun h hf2 => h2 h (Fr.trans (S := fun i => h0.n ≤ i) (hf.mono fun _ _ h => h.elim) hf2 fun i hi e => by have := hf.n; omega)⟩
theorem first_round {h : Heap} {lp pe : Nat} {e : Int} {f0 f1 f3 f4 f5 f6 f7 f8 : Value} (hlp : h.get lp = .loop .ready none [f0, f1, .pointer (some ⟨pe, 0, none⟩), f3, f4, f5, f6, f7, f8] [5] zdQ_ra0 zdQ_rb0)
    (hpe : h.get pe = .cells [.int .i64 0] 0) (hl : lp < h.n) (hp : pe < h.n) (hne : pe ≠ lp) :
    Runs Tryz.prog T0 (.yield lp) [.int .i64 e] h (fun r h2 => (e = 0 ∧ r = .bool true ∧ h2.get lp = .loop .ready none [f0, f1, .pointer (some ⟨pe, 0, none⟩), f3, f4, f5, f6, f7, f8] [5] zdQ_ra0 zdQ_rb0 ∧ Fr (fun i => i = lp) h h2) ∨
      (e ≠ 0 ∧ r = .bool false ∧ h2.get lp = .loop .done (some .ret) [f0, f1, .pointer (some ⟨pe, 0, none⟩), f3, f4, f5, f6, f7, f8] [5] zdQ_ra0 zdQ_rb0 ∧ h2.get pe = .cells [.int .i64 e] 0 ∧ Fr (fun i => i = lp ∨ i = pe) h h2)) (fun _ _ => False) := by
  haveI : HGet h lp _ := ⟨hlp⟩
  haveI : HGet h pe _ := ⟨hpe⟩
  haveI : BLt lp h := ⟨hl⟩
  haveI : BLt pe h := ⟨hp⟩
  haveI : BNe pe lp := ⟨hne⟩
  haveI : BNe lp pe := ⟨fun e => hne e.symm⟩
  refine Runs.round hlp put_one rfl zdQ_na0 zdQ_nb0 zdQ_ca0 zdQ_cb0 ?_
  refine stp ?_
  refine A.go ?_
  refine stp ?_
  refine C.ifN (fun he => ?_) (fun he => ?_)
  · refine stp ?_
    refine A.ret ?_
    refine .inr ⟨he, rfl, by rw [Heap.get_set, if_pos rfl], by rw [Heap.get_set, if_neg hne, Heap.get_set, if_pos rfl], ?_⟩
    exact ((Fr.refl.set fun _ => .inl rfl).set fun _ => .inr rfl).set fun _ => .inl rfl
  · refine stp ?_
    refine A.on ?_
    exact .inl ⟨he, rfl, by rw [Heap.get_set, if_pos rfl], ((Fr.refl (S := fun i => i = lp)).set fun _ => rfl).set fun _ => rfl⟩
noncomputable abbrev frec (pb pe : Nat) (st : LoopState) (pend : Option Code) : AObj := .loop st pend [.func (.func fn_zcQ) ⟨[]⟩ ⟨[.pointer (some ⟨pb, 0, none⟩)]⟩, undef, .pointer (some ⟨pe, 0, none⟩), undef, .func (.func fn_zcQ) ⟨[]⟩ ⟨[.pointer (some ⟨pb, 0, none⟩)]⟩, undef, undef, undef, undef] [5] zdQ_ra0 zdQ_rb0
set_option maxHeartbeats 4000000 in
theorem first_ok {h : Heap} {pb : Nat} {sv : Value} {fs : List Value} {es : List Int} (hg : h.get pb = .cells [sv] 0) (hpb : pb < h.n) (hr : Rd h 1 sv fs fs.length) (hs : fs.length < 1000) (hle : es.length = fs.length)
    (hh : ∀ i, i < fs.length → Holds h (fs.getD i undef) (es.getD i 0)) :
    Runs Tryz.prog T0 (.fn fn_zdQ) [.func (.func fn_zcQ) ⟨[]⟩ ⟨[.pointer (some ⟨pb, 0, none⟩)]⟩] h
      (fun r h' => r = .int .i64 (firstE es) ∧ Fr (fun _ => False) h h') (fun _ _ => False) := by
  obtain ⟨a, cap, rfl, hlen, hc⟩ := hr
  refine zdQ_runs ?_
  refine stp ?_
  have na : (h.push (.cells [.int .i64 0] 0)).n = h.n + 1 := rfl
  have gpb : (h.push (.cells [.int .i64 0] 0)).get pb = .cells [.slice a fs.length cap] 0 := by rw [Heap.get_push, if_neg (by omega)]; exact hg
  have gpe : (h.push (.cells [.int .i64 0] 0)).get h.n = .cells [.int .i64 0] 0 := HGet.new.eq
  have hfa : Fr (fun _ => False) h (h.push (.cells [.int .i64 0] 0)) := Fr.refl.push
  generalize h.push (.cells [.int .i64 0] 0) = ha at *
  refine range_ret (J := fun hx => firstE es = 0 ∧ Fr (fun i => i = ha.n + 1) (ha.push (.defs false)) hx) (K := fun hx => hx.get h.n = .cells [.int .i64 (firstE es)] 0 ∧ Fr (fun i => i = ha.n + 1 ∨ i = h.n) (ha.push (.defs false)) hx) ?_ (fun hx hJ => ?_) (fun hx hK => ?_)
  · refine zcQ_runs ?_
    have nL : ((ha.push (.defs false)).push (frec pb h.n .ready none)).n = ha.n + 2 := rfl
    haveI : HGet ((ha.push (.defs false)).push (frec pb h.n .ready none)) pb (.cells [.slice a fs.length cap] 0) := ⟨by rw [Heap.get_push, if_neg (by simp; omega), Heap.get_push, if_neg (by omega)]; exact gpb⟩
    refine stp ?_
    refine zcQ_l0_rule (fun m v7 h' => ∃ k : Nat, k ≤ fs.length ∧ m = fs.length - k ∧ v7 = .int .i64 k ∧ h'.get (ha.n + 1) = frec pb h.n .ready none ∧ firstE es = firstE (es.drop k) ∧ Fr (fun i => i = ha.n + 1) (ha.push (.defs false)) h' ∧ ha.n + 1 < h'.n) ?_ fs.length ⟨0, by omega, rfl, rfl, HGet.new.eq, rfl, Fr.refl.push, by rw [nL]; omega⟩
    rintro m v7 h' x4 x8 x9 x10 x11 x12 x13 x14 x15 x16 ⟨k, hk, rfl, rfl, hlp, hst, hf, hn⟩
    have f0 : Fr (fun i => ha.n ≤ i) h h' := Fr.trans (S := fun i => ha.n ≤ i) (hfa.push.mono fun _ _ h => h.elim) hf fun i hi e => by omega
    have f0' : Fr (fun i => h.n ≤ i) h h' := f0.mono fun i _ e => by omega
    refine stp ?_
    refine C.if (fun hlt => ?_) (fun hge => ?_)
    · have hlt : k < fs.length := by omega
      obtain ⟨b, o, sp, rfl, hb, hcc⟩ := hc (by omega)
      obtain ⟨fid, cap', hfe, hrun⟩ := hh k hlt
      have hcc' : cellsAt h' b o (fs.length * 1) = some fs := by rw [cellsAt_keep f0' hb (by omega)]; exact hcc
      haveI : Cell h' b (o + k) (.func (.func fid) ⟨[]⟩ ⟨cap'⟩) := ⟨by
        have := cellsAt_sub (k := k) (m := 1) hcc' (by omega)
        have e : fs.drop k = fs.getD k undef :: fs.drop (k + 1) := by
          rw [List.drop_eq_getElem_cons hlt]
          simp only [List.getD, List.getElem?_eq_getElem hlt, Option.getD_some]
        rw [this, ← hfe, e]
        rfl⟩
      refine stp ?_
      refine O.call' (hrun h' f0') (fun r h2 hr => ?_)
      obtain ⟨rfl, hf2⟩ := hr
      have n2 := hf2.n
      have gpe2 : h2.get h.n = .cells [.int .i64 0] 0 := by rw [hf2.get _ (by omega) id, hf.get _ (by simp; omega) (by omega), Heap.get_push, if_neg (by omega)]; exact gpe
      refine stp ?_
      refine O.yield (first_round (e := es.getD k 0) (by rw [hf2.get _ hn id]; exact hlp) gpe2 (by omega) (by omega) (by omega)) (fun r h3 hr => ?_)
      rw [firstE_drop (by omega)] at hst
      rcases hr with ⟨he, rfl, hlp3, hf3⟩ | ⟨he, rfl, hlp3, hpe3, hf3⟩
      · rw [if_pos he] at hst
        refine stp ?_
        exact zcQ_l0_again (fs.length - (k + 1)) (by omega) ⟨k + 1, by omega, rfl, rfl, hlp3, hst, (hf.trans (S := fun i => i = ha.n + 1) hf2 fun _ _ h => h.elim).trans' hf3, by have := hf3.n; omega⟩
      · rw [if_neg he] at hst
        refine stp ?_
        refine .inr ⟨hlp3, by rw [hst]; exact hpe3, ?_⟩
        exact ((hf.trans (S := fun i => i = ha.n + 1) hf2 fun _ _ h => h.elim).mono fun i _ e => .inl e).trans' hf3
    · obtain rfl : k = fs.length := by omega
      rw [List.drop_eq_nil_of_le (by omega)] at hst
      refine stp ?_
      exact .inl ⟨hlp, hst, hf⟩
  · obtain ⟨h0, hf⟩ := hJ
    have gpe2 : hx.get h.n = .cells [.int .i64 0] 0 := by rw [hf.get _ (by simp; omega) (by omega), Heap.get_push, if_neg (by omega)]; exact gpe
    have gdf : hx.get ha.n = .defs false := by rw [hf.get _ (by simp) (by omega)]; exact HGet.new.eq
    have hfx : Fr (fun _ => False) h hx := hfa.push.trans hf fun i hi e => by omega
    haveI : HGet hx h.n _ := ⟨gpe2⟩
    haveI : HGet hx ha.n _ := ⟨gdf⟩
    haveI : BNe h.n (ha.n + 1) := ⟨by omega⟩
    haveI : BNe ha.n (ha.n + 1) := ⟨by omega⟩
    haveI : BNe ha.n h.n := ⟨by omega⟩
    haveI : BNe h.n ha.n := ⟨by omega⟩
    refine stp ?_
    refine B.retC ?_
    rw [h0]
    exact ⟨rfl, (((hfx.set fun e => by omega).set fun e => by omega).set fun e => by omega).set fun e => by omega⟩
  · obtain ⟨gpe2, hf⟩ := hK
    have gdf : hx.get ha.n = .defs false := by rw [hf.get _ (by simp) (by omega)]; exact HGet.new.eq
    have hfx : Fr (fun _ => False) h hx := hfa.push.trans hf fun i hi e => by omega
    haveI : HGet hx h.n _ := ⟨gpe2⟩
    haveI : HGet hx ha.n _ := ⟨gdf⟩
    haveI : BNe h.n (ha.n + 1) := ⟨by omega⟩
    haveI : BNe ha.n (ha.n + 1) := ⟨by omega⟩
    haveI : BNe ha.n h.n := ⟨by omega⟩
    haveI : BNe h.n ha.n := ⟨by omega⟩
    refine stp ?_
    refine B.retC ?_
    exact ⟨rfl, ((hfx.set fun e => by omega).set fun e => by omega).set fun e => by omega⟩
end Go.Proofs.YtninaabbojcdpaaGreat.A

namespace Go.Proofs.YtninaabbojcdpaaGreat.A
open Go Go.Vm
set_option maxRecDepth 10000
set_option linter.unusedVariables false
structure BkRd (h : Heap) (x : Bk) (sv sl : Value) : Prop where
  hd : x.h.ok
  hash : x.c.hash.length = 32
  sv : Rd h 2 sv (tcells x.c.votes) x.c.votes.length
  sl : Rd h 5 sl (vcells x.vals) x.vals.length
theorem BkRd.keep {S : Nat → Prop} {h h' : Heap} {x : Bk} {sv sl : Value} (hb : BkRd h x sv sl) (hf : Fr S h h') (hs : ∀ i, i < h.n → ¬ S i) : BkRd h' x sv sl :=
  ⟨hb.hd, hb.hash, hb.sv.keep hf fun i hi => hs i (Rd.block_lt hb.sv hi), hb.sl.keep hf fun i hi => hs i (Rd.block_lt hb.sl hi)⟩
theorem parts_ok {h : Heap} {x : Bk} {a1 a2 : Option Addr} {n1 c1 n2 c2 : Nat} (hx : x.h.ok) (hc : x.c.hash.length = 32) :
    Runs Tryz.prog T0 (.fn fn_zeQ) [.agg ⟨x.cells (.slice a1 n1 c1) (.slice a2 n2 c2)⟩] h
      (fun r h' => r = .slice (some ⟨h.n + 1, 0, none⟩) 3 3 ∧ h'.n = h.n + 2 ∧ h'.get h.n = .cells (x.cells (.slice a1 n1 c1) (.slice a2 n2 c2)) 0 ∧ h'.get (h.n + 1) = .cells [.func (.func fn_zfQ) ⟨[]⟩ ⟨[.pointer (some ⟨h.n, 0, none⟩)]⟩, .func (.func fn_zgQ) ⟨[]⟩ ⟨[.pointer (some ⟨h.n, 0, none⟩)]⟩, .func (.func fn_zhQ) ⟨[]⟩ ⟨[.pointer (some ⟨h.n, 0, none⟩)]⟩] 0 ∧ Fr (fun _ => False) h h') (fun _ _ => False) := by
  haveI := l32 hx.prev
  haveI := l32 hx.vals
  haveI := l32 hx.next
  haveI := l32 hx.app
  haveI := l32 hc
  refine zeQ_runs ?_
  refine stp ?_
  exact ⟨rfl, rfl, by rw [Heap.get_push, if_neg (by simp)]; exact HGet.new.eq, HGet.new.eq, Fr.refl.push.push⟩
theorem parts1_ok {h : Heap} {pb : Nat} {x : Bk} {sv sl : Value} (hg : h.get pb = .cells (x.cells sv sl) 0) (hx : x.h.ok) (hc : x.c.hash.length = 32) :
    Runs Tryz.prog T0 (.fn fn_zfQ) [.pointer (some ⟨pb, 0, none⟩)] h (fun r h' => r = .int .i64 (checkS x.h) ∧ Fr (fun _ => False) h h') (fun _ _ => False) := by
  haveI := l32 hx.prev
  haveI := l32 hx.vals
  haveI := l32 hx.next
  haveI := l32 hx.app
  haveI := l32 hc
  haveI : HGet h pb _ := ⟨hg⟩
  refine zfQ_runs ?_
  refine stp ?_
  refine O.call' (Check_ok hx) (fun r h1 hr => ?_)
  obtain ⟨rfl, hf1⟩ := hr
  refine stp ?_
  exact ⟨rfl, hf1⟩
theorem parts2_ok {h : Heap} {pb : Nat} {x : Bk} {sv sl : Value} (hg : h.get pb = .cells (x.cells sv sl) 0) (hx : x.h.ok) (hc : x.c.hash.length = 32) (hl : Rd h 5 sl (vcells x.vals) x.vals.length) :
    Runs Tryz.prog T0 (.fn fn_zgQ) [.pointer (some ⟨pb, 0, none⟩)] h (fun r h' => r = .int .i64 (checkV x.vals) ∧ Fr (fun _ => False) h h') (fun _ _ => False) := by
  haveI := l32 hx.prev
  haveI := l32 hx.vals
  haveI := l32 hx.next
  haveI := l32 hx.app
  haveI := l32 hc
  haveI : HGet h pb _ := ⟨hg⟩
  refine zgQ_runs ?_
  refine stp ?_
  refine O.call' (VCheck_ok hl) (fun r h1 hr => ?_)
  obtain ⟨rfl, hf1⟩ := hr
  refine stp ?_
  exact ⟨rfl, hf1⟩
theorem parts3_ok {h : Heap} {pb : Nat} {x : Bk} {sv sl : Value} (hg : h.get pb = .cells (x.cells sv sl) 0) (hx : x.h.ok) (hc : x.c.hash.length = 32) (hl : Rd h 2 sv (tcells x.c.votes) x.c.votes.length) :
    Runs Tryz.prog T0 (.fn fn_zhQ) [.pointer (some ⟨pb, 0, none⟩)] h (fun r h' => r = .int .i64 (checkC x.c.height x.c.votes) ∧ Fr (fun _ => False) h h') (fun _ _ => False) := by
  haveI := l32 hx.prev
  haveI := l32 hx.vals
  haveI := l32 hx.next
  haveI := l32 hx.app
  haveI := l32 hc
  haveI : HGet h pb _ := ⟨hg⟩
  refine zhQ_runs ?_
  refine stp ?_
  refine O.call' (CCheck_ok hc hl) (fun r h1 hr => ?_)
  obtain ⟨rfl, hf1⟩ := hr
  refine stp ?_
  exact ⟨rfl, hf1⟩
theorem errors_ok {h : Heap} {a : Option Addr} {n c : Nat} : Runs Tryz.prog T0 (.fn fn_zbQ) [.slice a n c] h
    (fun r h' => r = .func (.func fn_zcQ) ⟨[]⟩ ⟨[.pointer (some ⟨h.n, 0, none⟩)]⟩ ∧ h'.n = h.n + 1 ∧ h'.get h.n = .cells [.slice a n c] 0 ∧ Fr (fun _ => False) h h') (fun _ _ => False) := by
  refine zbQ_runs ?_
  refine stp ?_
  exact ⟨rfl, rfl, HGet.new.eq, Fr.refl.push⟩
def partsB (x : Bk) : Int := firstE [checkS x.h, checkV x.vals, checkC x.c.height x.c.votes]
theorem partsB_ok {x : Bk} (h : partsB x = 0) : checkS x.h = 0 ∧ checkV x.vals = 0 ∧ checkC x.c.height x.c.votes = 0 := by
  unfold partsB at h
  simp only [firstE] at h
  split at h
  · rename_i h1
    split at h
    · rename_i h2
      split at h
      · rename_i h3; exact ⟨h1, h2, h3⟩
      · exact absurd h ‹_›
    · exact absurd h ‹_›
  · exact absurd h ‹_›
def partF (l : List UInt8) : List UInt8 := numF l.length ++ l
def encB (x : Bk) : List UInt8 := partF (encS x.h) ++ partF (encC x.c.height x.c.hash x.c.votes) ++ partF (encV x.vals)
theorem encS_lenB {x : Hd} (hx : x.ok) (h : checkS x = 0) : (encS x).length ≤ 200 := by
  obtain ⟨c1, c2, c3⟩ := checkS_ok h
  obtain ⟨d1, d2, d3⟩ := nameS_len c1
  have l1 := numF_len (n := x.chain.length) (by omega)
  have l2 := numF_len (n := x.height.toNat) (by omega)
  have l3 := numF_len (n := x.time.toNat) (by omega)
  have l4 := hx.prev
  have l5 := hx.vals
  have l6 := hx.next
  have l7 := hx.app
  unfold encS
  simp only [List.length_append]
  omega
theorem partF_len {l : List UInt8} {n : Nat} (h : l.length ≤ n) (hn : n < 100000) : (partF l).length ≤ n + 9 := by
  have := numF_len (n := l.length) (by omega)
  unfold partF
  rw [List.length_append]
  omega
set_option maxHeartbeats 16000000 in
theorem BEncode_ok {h : Heap} {x : Bk} {sv sl : Value} (hb : BkRd h x sv sl) :
    Runs Tryz.prog T0 (.fn fn_zaQ) [.agg ⟨x.cells sv sl⟩] h
      (fun r h' => ∃ w, r = .tuple ⟨[w, .int .i64 (partsB x)]⟩ ∧ Own h' 1 w (bcells (if partsB x = 0 then encB x else [])) (if partsB x = 0 then encB x else []).length ∧ (∀ i, ownedBy w i → h.n ≤ i) ∧ Fr (fun _ => False) h h') (fun _ _ => False) := by
  have hx := hb.hd
  have hch := hb.hash
  haveI := l32 hx.prev
  haveI := l32 hx.vals
  haveI := l32 hx.next
  haveI := l32 hx.app
  haveI := l32 hch
  obtain ⟨a1, c1, rfl, _, _⟩ := id hb.sv
  obtain ⟨a2, c2, rfl, _, _⟩ := id hb.sl
  refine zaQ_runs ?_
  refine stp ?_
  have n0 : (h.push (.cells (x.cells (.slice a1 x.c.votes.length c1) (.slice a2 x.vals.length c2)) 0)).n = h.n + 1 := rfl
  have gB : HGet (h.push (.cells (x.cells (.slice a1 x.c.votes.length c1) (.slice a2 x.vals.length c2)) 0)) h.n (.cells (x.cells (.slice a1 x.c.votes.length c1) (.slice a2 x.vals.length c2)) 0) := HGet.new
  have hf0 : Fr (fun _ => False) h (h.push (.cells (x.cells (.slice a1 x.c.votes.length c1) (.slice a2 x.vals.length c2)) 0)) := Fr.refl.push
  generalize h.push (.cells (x.cells (.slice a1 x.c.votes.length c1) (.slice a2 x.vals.length c2)) 0) = h0 at *
  refine O.call' (parts_ok hx hch) (fun r h1 hr => ?_)
  obtain ⟨rfl, n1, gC, gF, hf1⟩ := hr
  refine stp ?_
  refine O.call' errors_ok (fun r h2 hr => ?_)
  obtain ⟨rfl, n2, gE, hf2⟩ := hr
  have hf02 := (hf0.trans' hf1).trans' hf2
  have gC2 : h2.get h0.n = .cells (x.cells (.slice a1 x.c.votes.length c1) (.slice a2 x.vals.length c2)) 0 := by rw [hf2.get _ (by omega) id]; exact gC
  have hk : ∀ {h9 : Heap}, Fr (fun i => h2.n ≤ i) h2 h9 → h9.get h0.n = .cells (x.cells (.slice a1 x.c.votes.length c1) (.slice a2 x.vals.length c2)) 0 ∧ BkRd h9 x (.slice a1 x.c.votes.length c1) (.slice a2 x.vals.length c2) := fun {h9} hf9 =>
    ⟨by rw [hf9.get _ (by omega) (by omega)]; exact gC2, (hb.keep hf02 fun _ _ => id).keep hf9 fun i hi e => by omega⟩
  have hcl : ∀ i, i < 3 → Holds h2 ([.func (.func fn_zfQ) ⟨[]⟩ ⟨[.pointer (some ⟨h0.n, 0, none⟩)]⟩, .func (.func fn_zgQ) ⟨[]⟩ ⟨[.pointer (some ⟨h0.n, 0, none⟩)]⟩, .func (.func fn_zhQ) ⟨[]⟩ ⟨[.pointer (some ⟨h0.n, 0, none⟩)]⟩].getD i undef) ([checkS x.h, checkV x.vals, checkC x.c.height x.c.votes].getD i 0) := fun i hi => by
    rcases (show i = 0 ∨ i = 1 ∨ i = 2 by omega) with rfl | rfl | rfl
    · exact ⟨_, _, rfl, fun h9 hf9 => parts1_ok (hk hf9).1 hx hch⟩
    · exact ⟨_, _, rfl, fun h9 hf9 => parts2_ok (hk hf9).1 hx hch (hk hf9).2.sl⟩
    · exact ⟨_, _, rfl, fun h9 hf9 => parts3_ok (hk hf9).1 hx hch (hk hf9).2.sv⟩
  refine stp ?_
  refine O.call' (first_ok (fs := [.func (.func fn_zfQ) ⟨[]⟩ ⟨[.pointer (some ⟨h0.n, 0, none⟩)]⟩, .func (.func fn_zgQ) ⟨[]⟩ ⟨[.pointer (some ⟨h0.n, 0, none⟩)]⟩, .func (.func fn_zhQ) ⟨[]⟩ ⟨[.pointer (some ⟨h0.n, 0, none⟩)]⟩]) (es := [checkS x.h, checkV x.vals, checkC x.c.height x.c.votes]) gE (by omega) (Rd.mk (by omega) (by rw [cellsAt_of (by rw [hf2.get _ (by omega) id, gF]; rfl) (by simp)]; rfl)) (by simp) rfl hcl) (fun r h3 hr => ?_)
  obtain ⟨rfl, hf3⟩ := hr
  have hf03 := hf02.trans' hf3
  have gB3 := (hf1.trans' hf2).trans' hf3 |>.keep gB (by omega) id
  haveI := gB3
  rw [show firstE [checkS x.h, checkV x.vals, checkC x.c.height x.c.votes] = partsB x from rfl]
  refine stp ?_
  refine C.ifN (fun hc => ?_) (fun hz => ?_)
  · refine stp ?_
    rw [if_neg hc]
    exact ⟨_, rfl, .none, fun i h => h.elim, hf03⟩
  obtain ⟨z1, z2, z3⟩ := partsB_ok hz
  have lH := encS_lenB hx z1
  have lC := encC_len hch z3
  have lV := encV_len z2
  have pH := partF_len lH (by omega)
  have pC := partF_len lC (by omega)
  have pV := partF_len lV (by omega)
  refine stp ?_
  refine O.call' (NewWriter_ok (lim := 65536) (by omega)) (fun r h4 hr => ?_)
  obtain ⟨rfl, hw4, hf4⟩ := hr
  have n3 := hf3.n
  have n4 := hf4.n
  have gB4 := hf4.keep gB3 (by omega) id
  haveI := gB4
  have hb4 := hb.keep (hf03.trans' hf4) fun _ _ => id
  refine stp ?_
  refine O.call' (Encode_ok hx) (fun r h5 hr => ?_)
  obtain ⟨w1, rfl, ho1, hn1, hf5⟩ := hr
  rw [if_pos z1] at ho1
  have n5 := hf5.n
  have gB5 := hf5.keep gB4 (by omega) id
  haveI := gB5
  have hb5 := hb4.keep hf5 fun _ _ => id
  refine stp ?_
  refine O.call' (CEncode_ok hch hb5.sv) (fun r h6 hr => ?_)
  obtain ⟨w2, rfl, ho2, hn2, hf6⟩ := hr
  rw [if_pos z3] at ho2
  have n6 := hf6.n
  have gB6 := hf6.keep gB5 (by omega) id
  haveI := gB6
  have hb6 := hb5.keep hf6 fun _ _ => id
  refine stp ?_
  refine O.call' (VEncode_ok hb6.sl) (fun r h7 hr => ?_)
  obtain ⟨w3, rfl, ho3, hn3, hf7⟩ := hr
  rw [if_pos z2] at ho3
  have n7 := hf7.n
  obtain ⟨b1, d1, rfl, _, _⟩ := id ho1.rd
  obtain ⟨b2, d2, rfl, _, _⟩ := id ho2.rd
  obtain ⟨b3, d3, rfl, _, _⟩ := id ho3.rd
  have o1 := (ho1.keep hf6 fun _ _ => id).keep hf7 fun _ _ => id
  have o2 := ho2.keep hf7 fun _ _ => id
  have o3 := ho3
  have e1 : ∀ i, ownedBy (.slice b1 (encS x.h).length d1) i → ¬ ((h3.n ≤ i ∧ i < h4.n) ∨ h7.n ≤ i) := fun i hi => by have := hn1 i hi; have := o1.lt hi; omega
  have e2 : ∀ i, ownedBy (.slice b2 (encC x.c.height x.c.hash x.c.votes).length d2) i → ¬ ((h3.n ≤ i ∧ i < h4.n) ∨ h7.n ≤ i) := fun i hi => by have := hn2 i hi; have := o2.lt hi; omega
  have e3 : ∀ i, ownedBy (.slice b3 (encV x.vals).length d3) i → ¬ ((h3.n ≤ i ∧ i < h4.n) ∨ h7.n ≤ i) := fun i hi => by have := hn3 i hi; have := o3.lt hi; omega
  have hw7 : PVs h7 (fun i => (h3.n ≤ i ∧ i < h4.n) ∨ h7.n ≤ i) h3.n 65536 ⟨[], 0⟩ := ((((PVs.of hw4).mono (S' := fun i => (h3.n ≤ i ∧ i < h4.n) ∨ h7.n ≤ i) fun i hi hs => .inl ⟨hs, hi⟩).none hf5).none hf6).none hf7
  have f07 : Fr (fun _ => False) h h7 := (((hf03.trans' hf4).trans' hf5).trans' hf6).trans' hf7
  refine stp ?_
  refine zaQ_l0_rule (fun m v48 h' => ∃ (k : Nat) (bs : List UInt8), k ≤ 3 ∧ m = 3 - k ∧ v48 = .int .i64 k ∧ bs = ([partF (encS x.h), partF (encC x.c.height x.c.hash x.c.votes), partF (encV x.vals)].take k).flatten ∧ PVs h' (fun i => (h3.n ≤ i ∧ i < h4.n) ∨ h7.n ≤ i) h3.n 65536 ⟨bs, 0⟩ ∧ Fr (fun i => (h3.n ≤ i ∧ i < h4.n) ∨ h7.n ≤ i) h7 h') ?_ 3 ⟨0, [], by omega, rfl, rfl, rfl, hw7, Fr.refl⟩
  · rintro m v48 h' x14 x49 x50 x51 x52 x53 x54 ⟨k, bs, hk, rfl, rfl, hbs, hw, hf⟩
    have V1 := o1.keep hf e1
    have V2 := o2.keep hf e2
    have V3 := o3.keep hf e3
    have hS : ∀ i, h'.n ≤ i → (h3.n ≤ i ∧ i < h4.n) ∨ h7.n ≤ i := fun i hi => .inr (by have := hf.n; omega)
    rcases (show k = 0 ∨ k = 1 ∨ k = 2 ∨ k = 3 by omega) with rfl | rfl | rfl | rfl
    · have hbl : bs.length ≤ 2500 := by rw [hbs]; first | (simp; done) | (simp; omega)
      refine stp ?_
      refine O.how (XOp.mkIndex1 (m := 0) 0 rfl (by omega) rfl) ?_
      refine stp ?_
      refine O.call' (WBytes_okV hw hS V1.rd (by show bs.length + _ + 9 < _; omega)) (fun r h9 hr => ?_)
      obtain ⟨rfl, hw9, hf9⟩ := hr
      rw [putS_fit (by show bs.length + (partF (encS x.h)).length ≤ _; omega)] at hw9
      refine stp ?_
      exact zaQ_l0_again 2 (by omega) ⟨1, bs ++ partF (encS x.h), by omega, rfl, rfl, by rw [hbs]; simp, hw9, hf.trans' hf9⟩
    · have hbl : bs.length ≤ 2500 := by rw [hbs]; first | (simp; done) | (simp; omega)
      refine stp ?_
      refine O.how (XOp.mkIndex1 (m := 1) 1 rfl (by omega) rfl) ?_
      refine stp ?_
      refine O.call' (WBytes_okV hw hS V2.rd (by show bs.length + _ + 9 < _; omega)) (fun r h9 hr => ?_)
      obtain ⟨rfl, hw9, hf9⟩ := hr
      rw [putS_fit (by show bs.length + (partF (encC x.c.height x.c.hash x.c.votes)).length ≤ _; omega)] at hw9
      refine stp ?_
      exact zaQ_l0_again 1 (by omega) ⟨2, bs ++ partF (encC x.c.height x.c.hash x.c.votes), by omega, rfl, rfl, by rw [hbs]; simp, hw9, hf.trans' hf9⟩
    · have hbl : bs.length ≤ 2500 := by rw [hbs]; first | (simp; done) | (simp; omega)
      refine stp ?_
      refine O.how (XOp.mkIndex1 (m := 2) 2 rfl (by omega) rfl) ?_
      refine stp ?_
      refine O.call' (WBytes_okV hw hS V3.rd (by show bs.length + _ + 9 < _; omega)) (fun r h9 hr => ?_)
      obtain ⟨rfl, hw9, hf9⟩ := hr
      rw [putS_fit (by show bs.length + (partF (encV x.vals)).length ≤ _; omega)] at hw9
      refine stp ?_
      exact zaQ_l0_again 0 (by omega) ⟨3, bs ++ partF (encV x.vals), by omega, rfl, rfl, by rw [hbs]; simp, hw9, hf.trans' hf9⟩
    · refine stp ?_
      refine O.call' (Done_ok (hw.mono fun i hi hs => (show h3.n ≤ i by omega)).to) (fun r h9 hr => ?_)
      obtain ⟨w, rfl, ho, hnew, hf9⟩ := hr
      refine stp ?_
      rw [hz] at *
      rw [if_pos rfl]
      rw [if_pos rfl] at ho
      have eB : encB x = bs := by rw [hbs]; simp [encB]
      refine ⟨w, rfl, by rw [eB]; exact ho, fun i hi => ?_, Fr.trans (S := fun _ => False) f07 (hf.trans' (hf9.mono fun _ _ h => h.elim)) fun i hi h => by have := hf03.n; omega⟩
      have := hnew i hi
      have := hf.n
      have := f07.n
      omega
end Go.Proofs.YtninaabbojcdpaaGreat.A

namespace Go.Proofs.YtninaabbojcdpaaGreat.A
open Go Go.Vm
set_option maxRecDepth 10000
set_option linter.unusedVariables false
theorem WBytes_okD {h : Heap} {lo p lim : Nat} {st : WSt} {v : Value} {l : List UInt8} (hw : DWs h lo p lim st) (hv : Rd h 1 v (bcells l) l.length) (hs : l.length + 9 < 1000000) (hlim : lim < 1048576) :
    Runs Tryz.prog T0 (.fn fn_znbQ) [.pointer (some ⟨p, 0, none⟩), v] h (DWrites h lo p lim (putS lim true (partF l) st)) (fun _ _ => False) := by
  have hfl := numF_len (n := l.length) (by omega)
  refine znbQ_runs ?_
  refine stp ?_
  refine O.call' (Counted_okD (l := l) hv (by omega)) (fun r h1 hr => ?_)
  obtain ⟨hrd, hf⟩ := hr
  refine stp ?_
  refine O.call' (Put_okD (l := partF l) (hw.none hf) hrd (.inl hlim) (by unfold partF; rw [List.length_append]; omega)) (fun r h2 hr => ?_)
  obtain ⟨rfl, hw2, hf2⟩ := hr
  refine stp ?_
  exact ⟨rfl, hw2, Fr.trans' (hf.mono fun _ _ h => h.elim) hf2⟩
set_option maxHeartbeats 4000000 in
theorem RParts_ok {h : Heap} {x : Bk} {sv sl : Value} (hb : BkRd h x sv sl) (hs : x.h.chain.length < 1048576) :
    Runs Tryz.prog T0 (.fn fn_zfcQ) [.agg ⟨x.cells sv sl⟩] h (fun r h' => r = .int .i64 (partsB x) ∧ Fr (fun _ => False) h h') (fun _ _ => False) := by
  have hx := hb.hd
  have hch := hb.hash
  haveI := l32 hx.prev
  haveI := l32 hx.vals
  haveI := l32 hx.next
  haveI := l32 hx.app
  haveI := l32 hch
  obtain ⟨a1, c1, rfl, _, _⟩ := id hb.sv
  obtain ⟨a2, c2, rfl, _, _⟩ := id hb.sl
  refine zfcQ_runs ?_
  refine stp ?_
  have gB : HGet (h.push (.cells (x.cells (.slice a1 x.c.votes.length c1) (.slice a2 x.vals.length c2)) 0)) h.n (.cells (x.cells (.slice a1 x.c.votes.length c1) (.slice a2 x.vals.length c2)) 0) := HGet.new
  have hf0 : Fr (fun _ => False) h (h.push (.cells (x.cells (.slice a1 x.c.votes.length c1) (.slice a2 x.vals.length c2)) 0)) := Fr.refl.push
  have n0 : (h.push (.cells (x.cells (.slice a1 x.c.votes.length c1) (.slice a2 x.vals.length c2)) 0)).n = h.n + 1 := rfl
  generalize h.push (.cells (x.cells (.slice a1 x.c.votes.length c1) (.slice a2 x.vals.length c2)) 0) = h0 at *
  refine O.call' (RCheck_ok hx hs) (fun r h1 hr => ?_)
  obtain ⟨rfl, hf1⟩ := hr
  have gB1 := hf1.keep gB (by omega) id
  have F1 := hf0.trans' hf1
  have n1 := hf1.n
  haveI := gB1
  refine stp ?_
  unfold partsB
  simp only [firstE]
  refine C.if (fun z1 => ?_) (fun z1 => ?_)
  · rw [if_pos z1]
    refine stp ?_
    refine O.call' (RVCheck_ok (hb.keep F1 fun _ _ => id).sl) (fun r h2 hr => ?_)
    obtain ⟨rfl, hf2⟩ := hr
    have gB2 := hf2.keep gB1 (by omega) id
    have F2 := F1.trans' hf2
    haveI := gB2
    refine stp ?_
    refine C.if (fun z2 => ?_) (fun z2 => ?_)
    · rw [if_pos z2]
      refine stp ?_
      refine O.call' (RCCheck_ok hch (hb.keep F2 fun _ _ => id).sv) (fun r h3 hr => ?_)
      obtain ⟨rfl, hf3⟩ := hr
      refine stp ?_
      refine ⟨?_, F2.trans' hf3⟩
      split
      · rename_i z3; rw [z3]
      · rfl
    · rw [if_neg z2]
      refine stp ?_
      exact ⟨rfl, F2⟩
  · rw [if_neg z1]
    refine stp ?_
    rw [decide_eq_false z1]
    refine stp ?_
    exact ⟨rfl, F1⟩
set_option maxHeartbeats 16000000 in
theorem RBEncode_ok {h : Heap} {x : Bk} {sv sl : Value} (hb : BkRd h x sv sl) (hs : x.h.chain.length < 1048576) (hsl : x.vals.length < 1048576) :
    Runs Tryz.prog T0 (.fn fn_zecQ) [.agg ⟨x.cells sv sl⟩] h
      (fun r h' => ∃ w, r = .tuple ⟨[w, .int .i64 (partsB x)]⟩ ∧ Own h' 1 w (bcells (if partsB x = 0 then encB x else [])) (if partsB x = 0 then encB x else []).length ∧ (∀ i, ownedBy w i → h.n ≤ i) ∧ Fr (fun _ => False) h h') (fun _ _ => False) := by
  have hx := hb.hd
  have hch := hb.hash
  haveI := l32 hx.prev
  haveI := l32 hx.vals
  haveI := l32 hx.next
  haveI := l32 hx.app
  haveI := l32 hch
  obtain ⟨a1, c1, rfl, _, _⟩ := id hb.sv
  obtain ⟨a2, c2, rfl, _, _⟩ := id hb.sl
  refine zecQ_runs ?_
  refine stp ?_
  have n0 : (h.push (.cells (x.cells (.slice a1 x.c.votes.length c1) (.slice a2 x.vals.length c2)) 0)).n = h.n + 1 := rfl
  have gB : HGet (h.push (.cells (x.cells (.slice a1 x.c.votes.length c1) (.slice a2 x.vals.length c2)) 0)) h.n (.cells (x.cells (.slice a1 x.c.votes.length c1) (.slice a2 x.vals.length c2)) 0) := HGet.new
  have hf0 : Fr (fun _ => False) h (h.push (.cells (x.cells (.slice a1 x.c.votes.length c1) (.slice a2 x.vals.length c2)) 0)) := Fr.refl.push
  generalize h.push (.cells (x.cells (.slice a1 x.c.votes.length c1) (.slice a2 x.vals.length c2)) 0) = h0 at *
  refine O.call' (RParts_ok (hb.keep hf0 fun _ _ => id) hs) (fun r h1 hr => ?_)
  obtain ⟨rfl, hf1⟩ := hr
  have gB1 := hf1.keep gB (by omega) id
  have F1 := hf0.trans' hf1
  have n1 := hf1.n
  haveI := gB1
  refine stp ?_
  refine C.ifN (fun hc => ?_) (fun hz => ?_)
  · refine stp ?_
    rw [if_neg hc]
    exact ⟨_, rfl, .none, fun i h => h.elim, F1⟩
  obtain ⟨z1, z2, z3⟩ := partsB_ok hz
  have lH := encS_lenB hx z1
  have lC := encC_len hch z3
  have lV := encV_len z2
  have pH := partF_len lH (by omega)
  have pC := partF_len lC (by omega)
  have pV := partF_len lV (by omega)
  refine stp ?_
  refine O.call' (REncode_ok hx hs) (fun r h2 hr => ?_)
  obtain ⟨w1, rfl, ho1, hn1, hf2⟩ := hr
  rw [if_pos z1] at ho1
  have n2 := hf2.n
  have gB2 := hf2.keep gB1 (by omega) id
  have F2 := F1.trans' hf2
  haveI := gB2
  refine stp ?_
  refine O.call' (RCEncode_ok hch (hb.keep F2 fun _ _ => id).sv) (fun r h3 hr => ?_)
  obtain ⟨w2, rfl, ho2, hn2, hf3⟩ := hr
  rw [if_pos z3] at ho2
  have n3 := hf3.n
  have gB3 := hf3.keep gB2 (by omega) id
  have F3 := F2.trans' hf3
  haveI := gB3
  refine stp ?_
  refine O.call' (RVEncode_ok (hb.keep F3 fun _ _ => id).sl hsl) (fun r h4 hr => ?_)
  obtain ⟨w3, rfl, ho3, hn3, hf4⟩ := hr
  rw [if_pos z2] at ho3
  have n4 := hf4.n
  have F4 := F3.trans' hf4
  have o1 := ((ho1.keep hf3 fun _ _ => id).keep hf4 fun _ _ => id)
  have o2 := ho2.keep hf4 fun _ _ => id
  refine stp ?_
  refine O.call' (NewWriter_okD (lim := 65536) (by omega)) (fun r h5 hr => ?_)
  obtain ⟨rfl, hw5, hf5⟩ := hr
  have n5 := hf5.n
  refine stp ?_
  refine O.call' (WBytes_okD hw5 (o1.keep hf5 fun _ _ => id).rd (by omega) (by omega)) (fun r h6 hr => ?_)
  obtain ⟨rfl, hw6, hf6⟩ := hr
  rw [putS_fit (by simp only [List.length_nil]; omega), List.nil_append] at hw6
  refine stp ?_
  refine O.call' (WBytes_okD hw6 ((o2.keep hf5 fun _ _ => id).keep hf6 fun b hb e => by have := o2.lt hb; omega).rd (by omega) (by omega)) (fun r h7 hr => ?_)
  obtain ⟨rfl, hw7, hf7⟩ := hr
  rw [putS_fit (by show (partF (encS x.h)).length + _ ≤ _; omega)] at hw7
  refine stp ?_
  refine O.call' (WBytes_okD hw7 (((ho3.keep hf5 fun _ _ => id).keep hf6 fun b hb e => by have := ho3.lt hb; omega).keep hf7 fun b hb e => by have := ho3.lt hb; omega).rd (by omega) (by omega)) (fun r h8 hr => ?_)
  obtain ⟨rfl, hw8, hf8⟩ := hr
  rw [putS_fit (by simp only [List.length_append]; omega)] at hw8
  refine stp ?_
  refine O.call' (Done_okD hw8 (by simp only [List.length_append]; omega)) (fun r h9 hr => ?_)
  obtain ⟨w, rfl, ho, hnew, hf9⟩ := hr
  refine stp ?_
  have F8 : Fr (fun _ => False) h h8 := (F4.trans' hf5).trans ((hf6.trans' hf7).trans' hf8) fun i hi e => by have := F4.n; omega
  rw [hz] at *
  rw [if_pos rfl]
  rw [if_pos rfl] at ho
  exact ⟨w, rfl, ho, fun i hi => by have := hnew i hi; have := F8.n; omega, F8.trans' hf9⟩
end Go.Proofs.YtninaabbojcdpaaGreat.A

namespace Go.Proofs.YtninaabbojcdpaaGreat.A
open Go Go.Vm
set_option maxRecDepth 10000
set_option linter.unusedVariables false
abbrev idOK (n : Int) : Bool := decide (1 ≤ n) && decide (n ≤ 1099511627776)
abbrev htOK (n : Int) : Bool := decide (1 ≤ n) && decide (n ≤ 1073741824)
def askE (id ht : Int) : Int := if (idOK id && htOK ht) = true then 0 else 3
def askF (id ht : Int) : List UInt8 := numF 1 ++ numF id.toNat ++ numF ht.toNat
def ansE (id : Int) (x : Bk) : Int := if idOK id = true then partsB x else 3
def ansF (id : Int) (x : Bk) : List UInt8 := numF 2 ++ numF id.toNat ++ partF (encB x)
theorem number_is {h : Heap} {n : Int} : Runs Tryz.prog T0 (.fn fn_zqcQ) [.int .i64 n] h (fun r h' => r = .bool (idOK n) ∧ h' = h) (fun _ _ => False) := by
  refine zqcQ_runs ?_
  refine stp ?_
  refine O.dec (fun h1 => ?_) (fun h1 => ?_)
  · refine stp ?_
    exact ⟨by rw [idOK, decide_eq_true (show 1 ≤ n by omega)]; rfl, rfl⟩
  · refine stp ?_
    exact ⟨by rw [idOK, decide_eq_false (show ¬ 1 ≤ n by omega)]; rfl, rfl⟩
theorem height_is {h : Heap} {n : Int} : Runs Tryz.prog T0 (.fn fn_zpcQ) [.int .i64 n] h (fun r h' => r = .bool (htOK n) ∧ h' = h) (fun _ _ => False) := by
  refine zpcQ_runs ?_
  refine stp ?_
  refine O.dec (fun h1 => ?_) (fun h1 => ?_)
  · refine stp ?_
    exact ⟨by rw [htOK, decide_eq_true (show 1 ≤ n by omega)]; rfl, rfl⟩
  · refine stp ?_
    exact ⟨by rw [htOK, decide_eq_false (show ¬ 1 ≤ n by omega)]; rfl, rfl⟩
theorem Rnumber_is {h : Heap} {n : Int} : Runs Tryz.prog T0 (.fn fn_zjcQ) [.int .i64 n] h (fun r h' => r = .bool (idOK n) ∧ h' = h) (fun _ _ => False) := by
  refine zjcQ_runs ?_
  refine stp ?_
  refine O.dec (fun h1 => ?_) (fun h1 => ?_)
  · refine stp ?_
    exact ⟨by rw [idOK, decide_eq_true (show 1 ≤ n by omega)]; rfl, rfl⟩
  · refine stp ?_
    exact ⟨by rw [idOK, decide_eq_false (show ¬ 1 ≤ n by omega)]; rfl, rfl⟩
theorem Rheight_is {h : Heap} {n : Int} : Runs Tryz.prog T0 (.fn fn_zicQ) [.int .i64 n] h (fun r h' => r = .bool (htOK n) ∧ h' = h) (fun _ _ => False) := by
  refine zicQ_runs ?_
  refine stp ?_
  refine O.dec (fun h1 => ?_) (fun h1 => ?_)
  · refine stp ?_
    exact ⟨by rw [htOK, decide_eq_true (show 1 ≤ n by omega)]; rfl, rfl⟩
  · refine stp ?_
    exact ⟨by rw [htOK, decide_eq_false (show ¬ 1 ≤ n by omega)]; rfl, rfl⟩
theorem idOK_ok {n : Int} (h : idOK n = true) : 1 ≤ n ∧ n ≤ 1099511627776 := by simpa using h
theorem htOK_ok {n : Int} (h : htOK n = true) : 1 ≤ n ∧ n ≤ 1073741824 := by simpa using h
set_option maxHeartbeats 4000000 in
theorem askW_ok {h : Heap} {p : Nat} {id ht : Int} (hw : PWs h p p 65536 ⟨[], 0⟩) :
    Runs Tryz.prog T0 (.fn fn_zncQ) [.agg ⟨[.int .i64 id, .int .i64 ht]⟩, .pointer (some ⟨p, 0, none⟩)] h
      (fun r h' => r = .int .i64 (askE id ht) ∧ PWs h' p p 65536 ⟨if askE id ht = 0 then askF id ht else [], 0⟩ ∧ Fr (fun i => p ≤ i) h h') (fun _ _ => False) := by
  have hpl := (PVs.of hw).lt
  refine zncQ_runs ?_
  refine stp ?_
  have g0 : HGet (h.push (.cells [.int .i64 id, .int .i64 ht] 0)) h.n (.cells [.int .i64 id, .int .i64 ht] 0) := HGet.new
  have hw0 : PVs (h.push (.cells [.int .i64 id, .int .i64 ht] 0)) (fun i => p ≤ i ∧ i ≠ h.n) p 65536 ⟨[], 0⟩ := ((PVs.of hw).mono fun i hi hs => ⟨hs, by omega⟩).none Fr.refl.push
  have n0 : (h.push (.cells [.int .i64 id, .int .i64 ht] 0)).n = h.n + 1 := rfl
  have f0 : Fr (fun i => p ≤ i) h (h.push (.cells [.int .i64 id, .int .i64 ht] 0)) := Fr.refl.push
  generalize h.push (.cells [.int .i64 id, .int .i64 ht] 0) = h0 at *
  refine O.call' number_is (fun r h1 hr => ?_)
  obtain ⟨rfl, rfl⟩ := hr
  cases hid : idOK id with
  | false =>
    refine stp ?_
    have e1 : askE id ht = 3 := by unfold askE; rw [hid]; rfl
    rw [e1]
    exact ⟨rfl, (hw0.mono fun i _ hs => hs.1).to, f0⟩
  | true =>
    refine stp ?_
    refine O.callT height_is (fun r h2 hr => ?_)
    obtain ⟨rfl, rfl⟩ := hr
    cases hht : htOK ht with
    | false =>
      refine stp ?_
      have e1 : askE id ht = 3 := by unfold askE; rw [hid, hht]; rfl
      rw [e1]
      exact ⟨rfl, (hw0.mono fun i _ hs => hs.1).to, f0⟩
    | true =>
      have e1 : askE id ht = 0 := by unfold askE; rw [hid, hht]; rfl
      have c1 := idOK_ok hid
      have c2 := htOK_ok hht
      have l1 := numF_len (n := 1) (by omega)
      have l2 := numF_len (n := id.toNat) (by omega)
      have l3 := numF_len (n := ht.toNat) (by omega)
      rw [e1]
      refine stp ?_
      refine O.call' (WNum_okV (n := 1) hw0 (fun i hi => by omega) (by omega) (by simp only [List.length_nil]; omega)) (fun r h3 hr => ?_)
      obtain ⟨rfl, hw3, hf3⟩ := hr
      rw [decide_eq_true (by omega), show Int.toNat 1 = 1 from rfl, putS_fit (by simp only [List.length_nil]; omega), List.nil_append] at hw3
      have g3 := hf3.keep g0 (by omega) (by omega)
      have n3 := hf3.n
      haveI := g3
      refine stp ?_
      refine O.call' (WNum_okV (n := id) hw3 (fun i hi => by omega) (by omega) (by show (numF 1).length + 9 < _; omega)) (fun r h4 hr => ?_)
      obtain ⟨rfl, hw4, hf4⟩ := hr
      rw [decide_eq_true (by omega), putS_fit (by show (numF 1).length + _ ≤ _; omega)] at hw4
      have g4 := hf4.keep g3 (by omega) (by omega)
      have n4 := hf4.n
      haveI := g4
      refine stp ?_
      refine O.call' (WNum_okV (n := ht) hw4 (fun i hi => by omega) (by omega) (by simp only [List.length_append]; omega)) (fun r h5 hr => ?_)
      obtain ⟨hr5, hw5, hf5⟩ := hr
      rw [decide_eq_true (by omega), putS_fit (by simp only [List.length_append]; omega)] at hw5 hr5
      subst hr5
      refine stp ?_
      exact ⟨rfl, (hw5.mono fun i _ hs => hs.1).to, f0.trans' (((hf3.trans' hf4).trans' hf5).mono fun i _ hs => hs.1)⟩
set_option maxHeartbeats 8000000 in
theorem ansW_ok {h : Heap} {p : Nat} {nr : Int} {x : Bk} {sv sl : Value} (hw : PWs h p p 65536 ⟨[], 0⟩) (hb : BkRd h x sv sl) (hbl : ∀ i, blockOf sv i ∨ blockOf sl i → i < p) :
    Runs Tryz.prog T0 (.fn fn_zmcQ) [.agg ⟨.int .i64 nr :: x.cells sv sl⟩, .pointer (some ⟨p, 0, none⟩)] h
      (fun r h' => r = .int .i64 (ansE nr x) ∧ PWs h' p p 65536 ⟨if ansE nr x = 0 then ansF nr x else [], 0⟩ ∧ Fr (fun i => p ≤ i) h h') (fun _ _ => False) := by
  have hpl := (PVs.of hw).lt
  have hx := hb.hd
  have hch := hb.hash
  haveI := l32 hx.prev
  haveI := l32 hx.vals
  haveI := l32 hx.next
  haveI := l32 hx.app
  haveI := l32 hch
  obtain ⟨a1, c1, rfl, _, _⟩ := id hb.sv
  obtain ⟨a2, c2, rfl, _, _⟩ := id hb.sl
  refine zmcQ_runs ?_
  refine stp ?_
  have g0 : HGet (h.push (.cells (.int .i64 nr :: x.cells (.slice a1 x.c.votes.length c1) (.slice a2 x.vals.length c2)) 0)) h.n (.cells (.int .i64 nr :: x.cells (.slice a1 x.c.votes.length c1) (.slice a2 x.vals.length c2)) 0) := HGet.new
  have hw0 : PVs (h.push (.cells (.int .i64 nr :: x.cells (.slice a1 x.c.votes.length c1) (.slice a2 x.vals.length c2)) 0)) (fun i => p ≤ i ∧ i ≠ h.n) p 65536 ⟨[], 0⟩ := ((PVs.of hw).mono fun i hi hs => ⟨hs, by omega⟩).none Fr.refl.push
  have n0 : (h.push (.cells (.int .i64 nr :: x.cells (.slice a1 x.c.votes.length c1) (.slice a2 x.vals.length c2)) 0)).n = h.n + 1 := rfl
  have f0 : Fr (fun _ => False) h (h.push (.cells (.int .i64 nr :: x.cells (.slice a1 x.c.votes.length c1) (.slice a2 x.vals.length c2)) 0)) := Fr.refl.push
  generalize h.push (.cells (.int .i64 nr :: x.cells (.slice a1 x.c.votes.length c1) (.slice a2 x.vals.length c2)) 0) = h0 at *
  refine O.call' number_is (fun r h1 hr => ?_)
  obtain ⟨rfl, rfl⟩ := hr
  cases hid : idOK nr with
  | false =>
    refine stp ?_
    have e1 : ansE nr x = 3 := by unfold ansE; rw [hid]; rfl
    rw [e1]
    exact ⟨rfl, (hw0.mono fun i _ hs => hs.1).to, f0.mono fun _ _ h => h.elim⟩
  | true =>
    have e1 : ansE nr x = partsB x := by unfold ansE; rw [hid]; rfl
    rw [e1]
    refine stp ?_
    refine O.call' (BEncode_ok (hb.keep f0 fun _ _ => id)) (fun r h2 hr => ?_)
    obtain ⟨w, rfl, ho, hnw, hf2⟩ := hr
    have n2 := hf2.n
    have g2 := hf2.keep g0 (by omega) (fun e => e)
    have hw2 := hw0.none hf2
    have f2 := f0.trans' hf2
    haveI := g2
    refine stp ?_
    refine C.ifN (fun hz => ?_) (fun hz => ?_)
    · refine stp ?_
      rw [if_neg hz]
      exact ⟨rfl, (hw2.mono fun i _ hs => hs.1).to, f2.mono fun _ _ h => h.elim⟩
    rw [if_pos hz] at ho ⊢
    have c1 := idOK_ok hid
    obtain ⟨z1, z2, z3⟩ := partsB_ok hz
    have pH := partF_len (encS_lenB hx z1) (by omega)
    have pC := partF_len (encC_len hch z3) (by omega)
    have pV := partF_len (encV_len z2) (by omega)
    have lB : (encB x).length ≤ 2300 := by unfold encB; simp only [List.length_append]; omega
    have pB := partF_len lB (by omega)
    have l1 := numF_len (n := 2) (by omega)
    have l2 := numF_len (n := nr.toNat) (by omega)
    have hw3' : PVs h2 (fun i => (p ≤ i ∧ i < h.n) ∨ h2.n ≤ i) p 65536 ⟨[], 0⟩ := (((PVs.of hw).mono (S' := fun i => (p ≤ i ∧ i < h.n) ∨ h2.n ≤ i) fun i hi hs => .inl ⟨hs, hi⟩).none f2)
    refine stp ?_
    refine O.call' (WNum_okV (n := 2) hw3' (fun i hi => .inr hi) (by omega) (by simp only [List.length_nil]; omega)) (fun r h3 hr => ?_)
    obtain ⟨rfl, hw3, hf3⟩ := hr
    rw [decide_eq_true (by omega), show Int.toNat 2 = 2 from rfl, putS_fit (by simp only [List.length_nil]; omega), List.nil_append] at hw3
    have n3 := hf3.n
    have g3 := hf3.keep g2 (by omega) (by omega)
    haveI := g3
    refine stp ?_
    refine O.call' (WNum_okV (n := nr) hw3 (fun i hi => by omega) (by omega) (by show (numF 2).length + 9 < _; omega)) (fun r h4 hr => ?_)
    obtain ⟨rfl, hw4, hf4⟩ := hr
    rw [decide_eq_true (by omega), putS_fit (by show (numF 2).length + _ ≤ _; omega)] at hw4
    have n4 := hf4.n
    have ho4 := (ho.keep hf3 fun b hb e => by have := hnw b hb; have := ho.lt hb; omega).keep hf4 fun b hb e => by have := hnw b hb; have := ho.lt hb; omega
    refine stp ?_
    refine O.call' (WBytes_okV hw4 (fun i hi => by omega) ho4.rd (by simp only [List.length_append]; omega)) (fun r h5 hr => ?_)
    obtain ⟨hr5, hw5, hf5⟩ := hr
    rw [show numF (encB x).length ++ encB x = partF (encB x) from rfl, putS_fit (by simp only [List.length_append]; omega)] at hw5 hr5
    subst hr5
    refine stp ?_
    rw [hz]
    refine ⟨rfl, (hw5.mono fun i _ hs => by omega).to, Fr.trans (S := fun i => p ≤ i) (f2.mono fun _ _ h => h.elim) ((hf3.trans' hf4).trans' hf5) fun i _ e => by omega⟩
end Go.Proofs.YtninaabbojcdpaaGreat.A

namespace Go.Proofs.YtninaabbojcdpaaGreat.A
open Go Go.Vm
set_option maxRecDepth 100000
set_option linter.unusedVariables false
theorem of_ask {h : Heap} {n ht : Int} : Runs Tryz.prog T0 (.fn fn_zrcQ) [.iface 26 (.agg ⟨[.int .i64 n, .int .i64 ht]⟩)] h (fun r h' => r = .iface 168 (.agg ⟨[.int .i64 n, .int .i64 ht]⟩) ∧ Fr (fun _ => False) h h') (fun _ _ => False) := by
  refine zrcQ_runs ?_
  refine stp ?_
  exact ⟨rfl, Fr.refl.push⟩
theorem of_answer {h : Heap} {n : Int} {x : Bk} {sv sl : Value} (hb : BkRd h x sv sl) : Runs Tryz.prog T0 (.fn fn_zrcQ) [.iface 38 (.agg ⟨.int .i64 n :: x.cells sv sl⟩)] h (fun r h' => r = .iface 169 (.agg ⟨.int .i64 n :: x.cells sv sl⟩) ∧ Fr (fun _ => False) h h') (fun _ _ => False) := by
  have hx := hb.hd
  have hch := hb.hash
  haveI := l32 hx.prev
  haveI := l32 hx.vals
  haveI := l32 hx.next
  haveI := l32 hx.app
  haveI := l32 hch
  obtain ⟨a1, c1, rfl, _, _⟩ := id hb.sv
  obtain ⟨a2, c2, rfl, _, _⟩ := id hb.sl
  refine zrcQ_runs ?_
  refine stp ?_
  refine O.how (XOp.assertNo (by decide)) ?_
  refine stp ?_
  exact ⟨rfl, Fr.refl.push⟩
theorem write_ask {h : Heap} {v : Value} : methodOf Tryz.prog h 168 v "landfall/msg.write" = some (fn_zncQ, v) := by kernel_rfl
theorem write_answer {h : Heap} {v : Value} : methodOf Tryz.prog h 169 v "landfall/msg.write" = some (fn_zmcQ, v) := by kernel_rfl
set_option maxHeartbeats 4000000 in
theorem bytes_ok {h : Heap} {t : TypeId} {u : Value} {e : Int} {bs : List UInt8} {w : Value}
    (ho : ∀ h', Fr (fun _ => False) h h' → Runs Tryz.prog T0 (.fn fn_zrcQ) [w] h' (fun r h2 => r = .iface t u ∧ Fr (fun _ => False) h' h2) (fun _ _ => False))
    {f : FuncId} (hm : ∀ h', methodOf Tryz.prog h' t u "landfall/msg.write" = some (f, u))
    (hw : ∀ p h', Fr (fun _ => False) h h' → h.n ≤ p → PWs h' p p 65536 ⟨[], 0⟩ → Runs Tryz.prog T0 (.fn f) [u, .pointer (some ⟨p, 0, none⟩)] h' (fun r h2 => r = .int .i64 e ∧ PWs h2 p p 65536 ⟨if e = 0 then bs else [], 0⟩ ∧ Fr (fun i => p ≤ i) h' h2) (fun _ _ => False)) :
    Runs Tryz.prog T0 (.fn fn_zocQ) [w] h
      (fun r h' => ∃ v, r = .tuple ⟨[v, .int .i64 e]⟩ ∧ Own h' 1 v (bcells (if e = 0 then bs else [])) (if e = 0 then bs else []).length ∧ (∀ i, ownedBy v i → h.n ≤ i) ∧ Fr (fun _ => False) h h') (fun _ _ => False) := by
  refine zocQ_runs ?_
  refine stp ?_
  refine O.call' (NewWriter_ok (lim := 65536) (by omega)) (fun r h1 hr => ?_)
  obtain ⟨rfl, hw1, hf1⟩ := hr
  refine stp ?_
  refine O.call' (ho h1 hf1) (fun r h2 hr => ?_)
  obtain ⟨rfl, hf2⟩ := hr
  have F2 := hf1.trans' hf2
  have hw2 := ((PVs.of hw1).none hf2).to
  refine stp ?_
  refine O.invoke (hm h2) (hw h.n h2 F2 (Nat.le_refl _) hw2) (fun r h3 hr => ?_)
  obtain ⟨rfl, hw3, hf3⟩ := hr
  have F3 : Fr (fun _ => False) h h3 := F2.trans hf3 fun i hi e => by omega
  refine stp ?_
  refine C.ifN (fun he => ?_) (fun he => ?_)
  · refine stp ?_
    rw [if_neg he]
    exact ⟨_, rfl, .none, fun i hi => hi.elim, F3⟩
  · refine stp ?_
    refine O.call' (Done_ok hw3) (fun r h4 hr => ?_)
    obtain ⟨v, rfl, hov, hnew, hf4⟩ := hr
    refine stp ?_
    rw [he]
    rw [he] at hov
    exact ⟨v, rfl, hov, fun i hi => by have := hnew i hi; have := F3.n; omega, F3.trans' hf4⟩
theorem Ask_ok {h : Heap} {n ht : Int} : Runs Tryz.prog T0 (.fn fn_zlcQ) [.agg ⟨[.int .i64 n, .int .i64 ht]⟩] h
      (fun r h' => ∃ v, r = .tuple ⟨[v, .int .i64 (askE n ht)]⟩ ∧ Own h' 1 v (bcells (if askE n ht = 0 then askF n ht else [])) (if askE n ht = 0 then askF n ht else []).length ∧ (∀ i, ownedBy v i → h.n ≤ i) ∧ Fr (fun _ => False) h h') (fun _ _ => False) := by
  refine zlcQ_runs ?_
  refine stp ?_
  refine O.call' (bytes_ok (u := .agg ⟨[.int .i64 n, .int .i64 ht]⟩) (fun h' hf => of_ask) (fun h' => write_ask) (fun p h' hf hp hw => askW_ok hw)) (fun r h1 hr => ?_)
  obtain ⟨v, rfl, ho, hn, hf⟩ := hr
  refine stp ?_
  exact ⟨v, rfl, ho, fun i hi => by have := hn i hi; simp at this; omega, Fr.trans (S := fun _ => False) Fr.refl.push hf fun _ _ => id⟩
theorem Answer_ok {h : Heap} {n : Int} {x : Bk} {sv sl : Value} (hb : BkRd h x sv sl) : Runs Tryz.prog T0 (.fn fn_zkcQ) [.agg ⟨.int .i64 n :: x.cells sv sl⟩] h
      (fun r h' => ∃ v, r = .tuple ⟨[v, .int .i64 (ansE n x)]⟩ ∧ Own h' 1 v (bcells (if ansE n x = 0 then ansF n x else [])) (if ansE n x = 0 then ansF n x else []).length ∧ (∀ i, ownedBy v i → h.n ≤ i) ∧ Fr (fun _ => False) h h') (fun _ _ => False) := by
  have hx := hb.hd
  have hch := hb.hash
  haveI := l32 hx.prev
  haveI := l32 hx.vals
  haveI := l32 hx.next
  haveI := l32 hx.app
  haveI := l32 hch
  have hlt : ∀ i, blockOf sv i ∨ blockOf sl i → i < h.n := fun i hi => hi.elim (Rd.block_lt hb.sv) (Rd.block_lt hb.sl)
  obtain ⟨a1, c1, rfl, _, _⟩ := id hb.sv
  obtain ⟨a2, c2, rfl, _, _⟩ := id hb.sl
  have f0 : Fr (fun _ => False) h (h.push (.cells (.int .i64 n :: x.cells (.slice a1 x.c.votes.length c1) (.slice a2 x.vals.length c2)) 0)) := Fr.refl.push
  refine zkcQ_runs ?_
  refine stp ?_
  refine O.call' (bytes_ok (u := .agg ⟨.int .i64 n :: x.cells (.slice a1 x.c.votes.length c1) (.slice a2 x.vals.length c2)⟩) (fun h' hf => of_answer ((hb.keep f0 fun _ _ => id).keep hf fun _ _ => id)) (fun h' => write_answer) (fun p h' hf hp hw => ansW_ok hw ((hb.keep f0 fun _ _ => id).keep hf fun _ _ => id) fun i hi => by have := hlt i hi; simp at hp; omega)) (fun r h1 hr => ?_)
  obtain ⟨v, rfl, ho, hn, hf⟩ := hr
  refine stp ?_
  exact ⟨v, rfl, ho, fun i hi => by have := hn i hi; simp at this; omega, Fr.trans (S := fun _ => False) Fr.refl.push hf fun _ _ => id⟩
set_option maxHeartbeats 4000000 in
theorem RAsk_ok {h : Heap} {n ht : Int} : Runs Tryz.prog T0 (.fn fn_zhcQ) [.agg ⟨[.int .i64 n, .int .i64 ht]⟩] h
      (fun r h' => ∃ v, r = .tuple ⟨[v, .int .i64 (askE n ht)]⟩ ∧ Own h' 1 v (bcells (if askE n ht = 0 then askF n ht else [])) (if askE n ht = 0 then askF n ht else []).length ∧ (∀ i, ownedBy v i → h.n ≤ i) ∧ Fr (fun _ => False) h h') (fun _ _ => False) := by
  refine zhcQ_runs ?_
  refine stp ?_
  have g0 : HGet (h.push (.cells [.int .i64 n, .int .i64 ht] 0)) h.n (.cells [.int .i64 n, .int .i64 ht] 0) := HGet.new
  have n0 : (h.push (.cells [.int .i64 n, .int .i64 ht] 0)).n = h.n + 1 := rfl
  have f0 : Fr (fun _ => False) h (h.push (.cells [.int .i64 n, .int .i64 ht] 0)) := Fr.refl.push
  generalize h.push (.cells [.int .i64 n, .int .i64 ht] 0) = h0 at *
  refine O.call' Rnumber_is (fun r h1 hr => ?_)
  obtain ⟨rfl, rfl⟩ := hr
  cases hid : idOK n with
  | false =>
    refine stp ?_
    have e1 : askE n ht = 3 := by unfold askE; rw [hid]; rfl
    rw [e1]
    exact ⟨_, rfl, .none, fun i hi => hi.elim, f0⟩
  | true =>
    refine stp ?_
    refine O.callT Rheight_is (fun r h2 hr => ?_)
    obtain ⟨rfl, rfl⟩ := hr
    cases hht : htOK ht with
    | false =>
      refine stp ?_
      have e1 : askE n ht = 3 := by unfold askE; rw [hid, hht]; rfl
      rw [e1]
      exact ⟨_, rfl, .none, fun i hi => hi.elim, f0⟩
    | true =>
      have e1 : askE n ht = 0 := by unfold askE; rw [hid, hht]; rfl
      have c1 := idOK_ok hid
      have c2 := htOK_ok hht
      have l1 := numF_len (n := 1) (by omega)
      have l2 := numF_len (n := n.toNat) (by omega)
      have l3 := numF_len (n := ht.toNat) (by omega)
      rw [e1]
      refine stp ?_
      refine O.call' (NewWriter_okD (lim := 65536) (by omega)) (fun r h3 hr => ?_)
      obtain ⟨rfl, hw3, hf3⟩ := hr
      have g3 := hf3.keep g0 (by omega) (fun e => e)
      have n3 := hf3.n
      haveI := g3
      refine stp ?_
      refine O.call' (Num_okD (n := 1) hw3 (by omega) (.inl (by omega))) (fun r h4 hr => ?_)
      obtain ⟨rfl, hw4, hf4⟩ := hr
      rw [decide_eq_true (by omega), show Int.toNat 1 = 1 from rfl, putS_fit (by simp only [List.length_nil]; omega), List.nil_append] at hw4
      have g4 := hf4.keep g3 (by omega) (by omega)
      have n4 := hf4.n
      haveI := g4
      refine stp ?_
      refine O.call' (Num_okD (n := n) hw4 (by omega) (.inl (by omega))) (fun r h5 hr => ?_)
      obtain ⟨rfl, hw5, hf5⟩ := hr
      rw [decide_eq_true (by omega), putS_fit (by show (numF 1).length + _ ≤ _; omega)] at hw5
      have g5 := hf5.keep g4 (by omega) (by omega)
      have n5 := hf5.n
      haveI := g5
      refine stp ?_
      refine O.call' (Num_okD (n := ht) hw5 (by omega) (.inl (by omega))) (fun r h6 hr => ?_)
      obtain ⟨rfl, hw6, hf6⟩ := hr
      rw [decide_eq_true (by omega), putS_fit (by simp only [List.length_append]; omega)] at hw6
      refine stp ?_
      refine O.call' (Done_okD hw6 (by simp only [List.length_append]; omega)) (fun r h7 hr => ?_)
      obtain ⟨v, rfl, ho, hnew, hf7⟩ := hr
      refine stp ?_
      have F6 : Fr (fun _ => False) h h6 := (f0.trans' hf3).trans ((hf4.trans' hf5).trans' hf6) fun i hi e => by have := f0.n; omega
      exact ⟨v, rfl, ho, fun i hi => by have := hnew i hi; have := F6.n; omega, F6.trans' hf7⟩
set_option maxHeartbeats 8000000 in
theorem RAnswer_ok {h : Heap} {n : Int} {x : Bk} {sv sl : Value} (hb : BkRd h x sv sl) (hs : x.h.chain.length < 1048576) (hsl : x.vals.length < 1048576) : Runs Tryz.prog T0 (.fn fn_zgcQ) [.agg ⟨.int .i64 n :: x.cells sv sl⟩] h
      (fun r h' => ∃ v, r = .tuple ⟨[v, .int .i64 (ansE n x)]⟩ ∧ Own h' 1 v (bcells (if ansE n x = 0 then ansF n x else [])) (if ansE n x = 0 then ansF n x else []).length ∧ (∀ i, ownedBy v i → h.n ≤ i) ∧ Fr (fun _ => False) h h') (fun _ _ => False) := by
  have hx := hb.hd
  have hch := hb.hash
  haveI := l32 hx.prev
  haveI := l32 hx.vals
  haveI := l32 hx.next
  haveI := l32 hx.app
  haveI := l32 hch
  obtain ⟨a1, c1, rfl, _, _⟩ := id hb.sv
  obtain ⟨a2, c2, rfl, _, _⟩ := id hb.sl
  refine zgcQ_runs ?_
  refine stp ?_
  have g0 : HGet (h.push (.cells (.int .i64 n :: x.cells (.slice a1 x.c.votes.length c1) (.slice a2 x.vals.length c2)) 0)) h.n (.cells (.int .i64 n :: x.cells (.slice a1 x.c.votes.length c1) (.slice a2 x.vals.length c2)) 0) := HGet.new
  have n0 : (h.push (.cells (.int .i64 n :: x.cells (.slice a1 x.c.votes.length c1) (.slice a2 x.vals.length c2)) 0)).n = h.n + 1 := rfl
  have f0 : Fr (fun _ => False) h (h.push (.cells (.int .i64 n :: x.cells (.slice a1 x.c.votes.length c1) (.slice a2 x.vals.length c2)) 0)) := Fr.refl.push
  generalize h.push (.cells (.int .i64 n :: x.cells (.slice a1 x.c.votes.length c1) (.slice a2 x.vals.length c2)) 0) = h0 at *
  refine O.call' Rnumber_is (fun r h1 hr => ?_)
  obtain ⟨rfl, rfl⟩ := hr
  cases hid : idOK n with
  | false =>
    refine stp ?_
    have e1 : ansE n x = 3 := by unfold ansE; rw [hid]; rfl
    rw [e1]
    exact ⟨_, rfl, .none, fun i hi => hi.elim, f0⟩
  | true =>
    have e1 : ansE n x = partsB x := by unfold ansE; rw [hid]; rfl
    rw [e1]
    refine stp ?_
    refine O.call' (RBEncode_ok (hb.keep f0 fun _ _ => id) hs hsl) (fun r h2 hr => ?_)
    obtain ⟨w, rfl, ho, hnw, hf2⟩ := hr
    have n2 := hf2.n
    have g2 := hf2.keep g0 (by omega) (fun e => e)
    have f2 := f0.trans' hf2
    haveI := g2
    refine stp ?_
    refine C.ifN (fun hz => ?_) (fun hz => ?_)
    · refine stp ?_
      rw [if_neg hz]
      exact ⟨_, rfl, .none, fun i hi => hi.elim, f2⟩
    rw [if_pos hz] at ho ⊢
    have c1 := idOK_ok hid
    obtain ⟨z1, z2, z3⟩ := partsB_ok hz
    have pH := partF_len (encS_lenB hx z1) (by omega)
    have pC := partF_len (encC_len hch z3) (by omega)
    have pV := partF_len (encV_len z2) (by omega)
    have lB : (encB x).length ≤ 2300 := by unfold encB; simp only [List.length_append]; omega
    have pB := partF_len lB (by omega)
    have l1 := numF_len (n := 2) (by omega)
    have l2 := numF_len (n := n.toNat) (by omega)
    refine stp ?_
    refine O.call' (NewWriter_okD (lim := 65536) (by omega)) (fun r h3 hr => ?_)
    obtain ⟨rfl, hw3, hf3⟩ := hr
    have g3 := hf3.keep g2 (by omega) (fun e => e)
    have n3 := hf3.n
    haveI := g3
    refine stp ?_
    refine O.call' (Num_okD (n := 2) hw3 (by omega) (.inl (by omega))) (fun r h4 hr => ?_)
    obtain ⟨rfl, hw4, hf4⟩ := hr
    rw [decide_eq_true (by omega), show Int.toNat 2 = 2 from rfl, putS_fit (by simp only [List.length_nil]; omega), List.nil_append] at hw4
    have g4 := hf4.keep g3 (by omega) (by omega)
    have n4 := hf4.n
    haveI := g4
    refine stp ?_
    refine O.call' (Num_okD (n := n) hw4 (by omega) (.inl (by omega))) (fun r h5 hr => ?_)
    obtain ⟨rfl, hw5, hf5⟩ := hr
    rw [decide_eq_true (by omega), putS_fit (by show (numF 2).length + _ ≤ _; omega)] at hw5
    have n5 := hf5.n
    have ho5 := ((ho.keep hf3 fun _ _ => id).keep hf4 fun b hb e => by have := ho.lt hb; omega).keep hf5 fun b hb e => by have := ho.lt hb; omega
    refine stp ?_
    refine O.call' (WBytes_okD hw5 ho5.rd (by omega) (by omega)) (fun r h6 hr => ?_)
    obtain ⟨rfl, hw6, hf6⟩ := hr
    rw [putS_fit (by simp only [List.length_append]; omega)] at hw6
    refine stp ?_
    refine O.call' (Done_okD hw6 (by simp only [List.length_append]; omega)) (fun r h7 hr => ?_)
    obtain ⟨v, rfl, hov, hnew, hf7⟩ := hr
    refine stp ?_
    have F6 : Fr (fun _ => False) h h6 := (f2.trans' hf3).trans ((hf4.trans' hf5).trans' hf6) fun i hi e => by have := f2.n; omega
    rw [hz]
    exact ⟨v, rfl, hov, fun i hi => by have := hnew i hi; have := F6.n; omega, F6.trans' hf7⟩
end Go.Proofs.YtninaabbojcdpaaGreat.A

namespace Go.Proofs.YtninaabbojcdpaaGreat.A
open Go Go.Vm
set_option maxRecDepth 10000
set_option linter.unusedVariables false
structure Bk.okL (x : Bk) : Prop where
  h : x.h.ok
  hash : x.c.hash.length = 32
  votes : x.c.votes.length ≤ 1000
  vals : x.vals.length ≤ 1000
theorem SameBlock_sameL {h : Heap} {x : Bk} {sv sl sw sm : Value} (hx : Bk.okL x) (hv : Rd h 2 sv (tcells x.c.votes) x.c.votes.length) (hl : Rd h 5 sl (vcells x.vals) x.vals.length) (hw : Rd h 2 sw (tcells x.c.votes) x.c.votes.length) (hm : Rd h 5 sm (vcells x.vals) x.vals.length) :
    Runs Tryz.prog T0 (.fn fn_zcbQ) [.agg ⟨x.cells sv sl⟩, .agg ⟨x.cells sw sm⟩] h (fun r h' => r = .bool true ∧ Fr (fun _ => False) h h') (fun _ _ => False) := by
  haveI := l32 hx.h.prev
  haveI := l32 hx.h.vals
  haveI := l32 hx.h.next
  haveI := l32 hx.h.app
  haveI := l32 hx.hash
  have hvo := hx.votes
  have hva := hx.vals
  refine zcbQ_runs ?_
  refine stp ?_
  generalize hh0 : (h.push (.cells (x.cells sv sl) 0)).push (.cells (x.cells sw sm) 0) = h0
  generalize hb : (h.push (.cells (x.cells sv sl) 0)).n = b
  have hf0 : Fr (fun _ => False) h h0 := by rw [← hh0]; exact Fr.refl.push.push
  have hA : HGet h0 h.n (.cells (x.cells sv sl) 0) := by rw [← hh0]; exact HGet.push (k := BLt.new) (g := HGet.new)
  have hB : HGet h0 b (.cells (x.cells sw sm) 0) := by rw [← hh0, ← hb]; exact HGet.new
  have hb' : b = h.n + 1 := by rw [← hb]; rfl
  have hn0 : h0.n = h.n + 2 := by rw [← hh0]; rfl
  clear hh0 hb
  haveI := hA
  haveI := hB
  rw [same_self]
  refine stp ?_
  refine O.callT (SameCommit_same hx.hash (by omega) (hv.keep hf0 fun _ _ => id) (hw.keep hf0 fun _ _ => id)) (fun r h1 hr => ?_)
  obtain ⟨rfl, hf1⟩ := hr
  haveI := hf1.keep hA (by omega) id
  haveI := hf1.keep hB (by omega) id
  have hf01 := hf0.trans' hf1
  refine stp ?_
  refine O.callT (SameVals_same (hl.keep hf01 fun _ _ => id) (hm.keep hf01 fun _ _ => id) (by omega)) (fun r h2 hr => ?_)
  obtain ⟨rfl, rfl⟩ := hr
  refine stp ?_
  exact ⟨rfl, hf01⟩
theorem LongBlock_ok {h : Heap} {x : Bk} {sv sl : Value} (hb : BkRd h x sv sl) :
    Runs Tryz.prog T0 (.fn fn_zabQ) [.agg ⟨x.cells sv sl⟩] h (fun r h' => (∃ b : Bool, r = .bool b ∧ (b = false → x.vals.length ≤ 70 ∧ x.c.votes.length ≤ 70 ∧ x.h.chain.length ≤ 60)) ∧ Fr (fun _ => False) h h') (fun _ _ => False) := by
  have hx := hb.hd
  have hch := hb.hash
  haveI := l32 hx.prev
  haveI := l32 hx.vals
  haveI := l32 hx.next
  haveI := l32 hx.app
  haveI := l32 hch
  obtain ⟨a1, c1, rfl, _, _⟩ := id hb.sv
  obtain ⟨a2, c2, rfl, _, _⟩ := id hb.sl
  have hsz : (ByteArray.mk ⟨x.h.chain⟩).size = x.h.chain.length := rfl
  refine zabQ_runs ?_
  refine stp ?_
  refine O.dec (fun h1 => ?_) (fun h1 => ?_)
  · refine stp ?_
    exact ⟨⟨true, rfl, fun h => by cases h⟩, Fr.refl.push⟩
  refine stp ?_
  refine O.dec (fun h2 => ?_) (fun h2 => ?_)
  · refine stp ?_
    exact ⟨⟨true, rfl, fun h => by cases h⟩, Fr.refl.push⟩
  refine stp ?_
  exact ⟨⟨_, rfl, fun h => by have := of_decide_eq_false h; omega⟩, Fr.refl.push⟩
theorem tcells_oneE : ∀ l : List Vote, (tcells l).all Value.oneCell' = true
  | [] => rfl
  | v :: l => by rw [tcells_cons, List.all_append, tcells_oneE l]; rfl
theorem appendLitC {P : Program} {T : Table} {ts : List Value} {ds : List Deferred} {h : Heap} {rd : Option Nat} {dst bytes el : Nat} {x y : Operand} {chk : List (Option Nat × AOp × Option (Nat × Bool))} {pan : Bool} {rest : List AOper} {Q : QP} {F : Value → List Value} {w : Value} {l : List Vote} {zero : List Value}
    [e1 : Ev ts x (.slice (some ⟨h.n, 0, none⟩) 0 0)] [e2 : Ev ts y w] [s : LSetF ts dst F] (hv : Rd h 2 w (tcells l) l.length) (hs : l.length < 1048576) (hb : bytes < 1048576)
    (hk : ∀ v' h', Own h' 2 v' (tcells l) l.length → Fr (fun _ => False) h h' → (∀ i, ownedBy v' i → h.n ≤ i) → RunO P T rest ⟨F v', ds, h', rd⟩ Q) :
    RunO P T (⟨some dst, .append el 2 bytes zero false x y, none, chk, pan⟩ :: rest) ⟨ts, ds, h.push (.cells [] 0), rd⟩ Q := by
  have f0 : Fr (fun _ => False) h (h.push (.cells [] 0)) := Fr.refl.push
  have hz : Own (h.push (.cells [] 0)) 2 (.slice (some ⟨h.n, 0, none⟩) 0 0) [] 0 := .lit (by simp) (by rw [Heap.get_push, if_pos rfl])
  have one := tcells_oneE l
  refine O.append hz ((hv.keep f0 fun _ _ => id).new _) (tcells_len l) one (by omega) (by omega) (by omega) (fun v' h' h1 h2 h3 => ?_)
  rw [Nat.zero_add, List.nil_append] at h1
  refine hk v' h' h1 (f0.trans (S := fun _ => False) h2 fun i hi ho => ?_) fun i hi => ?_
  · have : h.n = i := ho
    omega
  · rcases h3 i hi with h4 | h4
    · have : h.n = i := h4
      omega
    · simp at h4; omega
set_option maxHeartbeats 4000000 in
theorem CopyCommit_ok {h : Heap} {ht : Int} {hs : List UInt8} {sv : Value} {l : List Vote} (hl : hs.length = 32) (hv : Rd h 2 sv (tcells l) l.length) (hsm : l.length < 1048576) :
    Runs Tryz.prog T0 (.fn fn_zyQ) [.agg ⟨.int .i64 ht :: (bcells hs ++ [sv])⟩] h
      (fun r h' => ∃ sw, r = .agg ⟨.int .i64 ht :: (bcells hs ++ [sw])⟩ ∧ Own h' 2 sw (tcells l) l.length ∧ (∀ i, ownedBy sw i → h.n ≤ i) ∧ Fr (fun _ => False) h h') (fun _ _ => False) := by
  haveI := l32 hl
  obtain ⟨a1, c1, rfl, _, _⟩ := id hv
  refine zyQ_runs ?_
  refine stp ?_
  have gA : HGet ((h.push (.cells (.int .i64 ht :: (bcells hs ++ [.slice a1 l.length c1])) 0)).push (.cells (.int .i64 0 :: (z32 ++ [.slice none 0 0])) 0)) h.n (.cells (.int .i64 ht :: (bcells hs ++ [.slice a1 l.length c1])) 0) := HGet.push (k := BLt.new) (g := HGet.new)
  have gB : HGet ((h.push (.cells (.int .i64 ht :: (bcells hs ++ [.slice a1 l.length c1])) 0)).push (.cells (.int .i64 0 :: (z32 ++ [.slice none 0 0])) 0)) (h.push (.cells (.int .i64 ht :: (bcells hs ++ [.slice a1 l.length c1])) 0)).n (.cells (.int .i64 0 :: (z32 ++ [.slice none 0 0])) 0) := HGet.new
  have f0 : Fr (fun _ => False) h ((h.push (.cells (.int .i64 ht :: (bcells hs ++ [.slice a1 l.length c1])) 0)).push (.cells (.int .i64 0 :: (z32 ++ [.slice none 0 0])) 0)) := Fr.refl.push.push
  have n0 : ((h.push (.cells (.int .i64 ht :: (bcells hs ++ [.slice a1 l.length c1])) 0)).push (.cells (.int .i64 0 :: (z32 ++ [.slice none 0 0])) 0)).n = h.n + 2 := rfl
  have nb : (h.push (.cells (.int .i64 ht :: (bcells hs ++ [.slice a1 l.length c1])) 0)).n = h.n + 1 := rfl
  generalize (h.push (.cells (.int .i64 ht :: (bcells hs ++ [.slice a1 l.length c1])) 0)).push (.cells (.int .i64 0 :: (z32 ++ [.slice none 0 0])) 0) = h0 at *
  generalize (h.push (.cells (.int .i64 ht :: (bcells hs ++ [.slice a1 l.length c1])) 0)).n = pb at *
  refine appendLitC (hv.keep f0 fun _ _ => id) (by omega) (by omega) (fun v' h1 ho hf1 hnew => ?_)
  have gA1 := hf1.keep gA (by omega) id
  have gB1 := hf1.keep gB (by omega) id
  have n1 := hf1.n
  haveI := gA1
  haveI := gB1
  haveI : BNe pb h.n := ⟨by omega⟩
  haveI : BNe h.n pb := ⟨by omega⟩
  obtain ⟨a2, c2, rfl, _, _⟩ := id ho.rd
  refine stp ?_
  refine ⟨_, rfl, ho.keep (S := fun i => i = h.n ∨ i = pb) ((Fr.refl.set fun _ => .inl rfl).set fun _ => .inr rfl) fun b hb e => by have := hnew b hb; omega, fun i hi => by have := hnew i hi; omega, ((f0.trans' hf1).set fun e => by omega).set fun e => by omega⟩
end Go.Proofs.YtninaabbojcdpaaGreat.A

namespace Go.Proofs.YtninaabbojcdpaaGreat.A
open Go Go.Vm
set_option maxRecDepth 10000
set_option linter.unusedVariables false
set_option maxHeartbeats 8000000 in
theorem CopyBlock_ok {h : Heap} {x : Bk} {sv sl : Value} (hb : BkRd h x sv sl) (h1 : x.c.votes.length < 1048576) (h2 : x.vals.length < 1048576) :
    Runs Tryz.prog T0 (.fn fn_zxQ) [.agg ⟨x.cells sv sl⟩] h
      (fun r h' => ∃ sw sm, r = .agg ⟨x.cells sw sm⟩ ∧ Own h' 2 sw (tcells x.c.votes) x.c.votes.length ∧ Own h' 5 sm (vcells x.vals) x.vals.length ∧ (∀ i, ownedBy sw i → h.n ≤ i) ∧ (∀ i, ownedBy sm i → h.n ≤ i) ∧ Fr (fun _ => False) h h') (fun _ _ => False) := by
  have hx := hb.hd
  have hch := hb.hash
  haveI := l32 hx.prev
  haveI := l32 hx.vals
  haveI := l32 hx.next
  haveI := l32 hx.app
  haveI := l32 hch
  obtain ⟨a1, c1, rfl, _, _⟩ := id hb.sv
  obtain ⟨a2, c2, rfl, _, _⟩ := id hb.sl
  refine zxQ_runs ?_
  refine stp ?_
  have gA : HGet ((h.push (.cells (x.cells (.slice a1 x.c.votes.length c1) (.slice a2 x.vals.length c2)) 0)).push (.cells zBc 0)) h.n (.cells (x.cells (.slice a1 x.c.votes.length c1) (.slice a2 x.vals.length c2)) 0) := HGet.push (k := BLt.new) (g := HGet.new)
  have gB : HGet ((h.push (.cells (x.cells (.slice a1 x.c.votes.length c1) (.slice a2 x.vals.length c2)) 0)).push (.cells zBc 0)) (h.push (.cells (x.cells (.slice a1 x.c.votes.length c1) (.slice a2 x.vals.length c2)) 0)).n (.cells zBc 0) := HGet.new
  have f0 : Fr (fun _ => False) h ((h.push (.cells (x.cells (.slice a1 x.c.votes.length c1) (.slice a2 x.vals.length c2)) 0)).push (.cells zBc 0)) := Fr.refl.push.push
  have n0 : ((h.push (.cells (x.cells (.slice a1 x.c.votes.length c1) (.slice a2 x.vals.length c2)) 0)).push (.cells zBc 0)).n = h.n + 2 := rfl
  have nb : (h.push (.cells (x.cells (.slice a1 x.c.votes.length c1) (.slice a2 x.vals.length c2)) 0)).n = h.n + 1 := rfl
  generalize (h.push (.cells (x.cells (.slice a1 x.c.votes.length c1) (.slice a2 x.vals.length c2)) 0)).push (.cells zBc 0) = h0 at *
  generalize (h.push (.cells (x.cells (.slice a1 x.c.votes.length c1) (.slice a2 x.vals.length c2)) 0)).n = pb at *
  refine O.call' (CopyCommit_ok hch (hb.keep f0 fun _ _ => id).sv h1) (fun r h3 hr => ?_)
  obtain ⟨sw, rfl, ho, hnew, hf3⟩ := hr
  have gA3 := hf3.keep gA (by omega) id
  have gB3 := hf3.keep gB (by omega) id
  have n3 := hf3.n
  obtain ⟨a3, c3, rfl, _, _⟩ := id ho.rd
  haveI := gA3
  haveI : BLt h.n h3 := ⟨by omega⟩
  refine stp ?_
  have gA4 : HGet (h3.set h.n (.cells (x.cells (.slice a3 x.c.votes.length c3) (.slice a2 x.vals.length c2)) 0)) h.n (.cells (x.cells (.slice a3 x.c.votes.length c3) (.slice a2 x.vals.length c2)) 0) := HGet.same
  have gB4 : HGet (h3.set h.n (.cells (x.cells (.slice a3 x.c.votes.length c3) (.slice a2 x.vals.length c2)) 0)) pb (.cells zBc 0) := HGet.set (k := ⟨by omega⟩) (g := gB3)
  have f4 : Fr (fun i => i = h.n) h3 (h3.set h.n (.cells (x.cells (.slice a3 x.c.votes.length c3) (.slice a2 x.vals.length c2)) 0)) := Fr.refl.set fun _ => rfl
  have F4 : Fr (fun _ => False) h (h3.set h.n (.cells (x.cells (.slice a3 x.c.votes.length c3) (.slice a2 x.vals.length c2)) 0)) := (f0.trans' hf3).trans f4 fun i hi e => by omega
  have ho4 := ho.keep f4 fun b hb e => by have := hnew b hb; omega
  have n4 : (h3.set h.n (.cells (x.cells (.slice a3 x.c.votes.length c3) (.slice a2 x.vals.length c2)) 0)).n = h3.n := rfl
  generalize h3.set h.n (.cells (x.cells (.slice a3 x.c.votes.length c3) (.slice a2 x.vals.length c2)) 0) = h4 at *
  refine O.call' (CopyVals_ok (hb.keep F4 fun _ _ => id).sl h2) (fun r h5 hr => ?_)
  obtain ⟨hov, hf5, hnv⟩ := hr
  have gA5 := hf5.keep gA4 (by omega) id
  have gB5 := hf5.keep gB4 (by omega) id
  have n5 := hf5.n
  have ho5 := ho4.keep hf5 fun _ _ => id
  obtain ⟨a4, c4, rfl, _, _⟩ := id hov.rd
  haveI := gA5
  haveI := gB5
  haveI : BNe pb h.n := ⟨by omega⟩
  haveI : BNe h.n pb := ⟨by omega⟩
  refine stp ?_
  have f6 : ∀ {o1 o2 : AObj}, Fr (fun i => i = h.n ∨ i = pb) h5 ((h5.set h.n o1).set pb o2) := fun {o1 o2} => (Fr.refl.set fun _ => .inl rfl).set fun _ => .inr rfl
  refine ⟨_, _, rfl, ho5.keep f6 fun b hb e => by have := hnew b hb; omega, hov.keep f6 fun b hb e => by have := hnv b hb; omega, fun i hi => by have := hnew i hi; omega, fun i hi => by have := hnv i hi; omega, (F4.trans' hf5).trans f6 fun i hi e => by omega⟩
theorem askL (n ht : Int) : (if askE n ht = 0 then askF n ht else []).length < 1048576 := by
  split
  · rename_i hz
    unfold askE at hz
    split at hz
    · rename_i hb
      rw [Bool.and_eq_true] at hb
      have c1 := idOK_ok hb.1
      have c2 := htOK_ok hb.2
      have l1 := numF_len (n := 1) (by omega)
      have l2 := numF_len (n := n.toNat) (by omega)
      have l3 := numF_len (n := ht.toNat) (by omega)
      unfold askF
      simp only [List.length_append]
      omega
    · cases hz
  · simp
theorem ansL {h : Heap} {x : Bk} {sv sl : Value} (n : Int) (hb : BkRd h x sv sl) : (if ansE n x = 0 then ansF n x else []).length < 1048576 := by
  split
  · rename_i hz
    unfold ansE at hz
    split at hz
    · rename_i hid
      have c1 := idOK_ok hid
      obtain ⟨z1, z2, z3⟩ := partsB_ok hz
      have pH := partF_len (encS_lenB hb.hd z1) (by omega)
      have pC := partF_len (encC_len hb.hash z3) (by omega)
      have pV := partF_len (encV_len z2) (by omega)
      have lB : (encB x).length ≤ 2300 := by unfold encB; simp only [List.length_append]; omega
      have pB := partF_len lB (by omega)
      have l1 := numF_len (n := 2) (by omega)
      have l2 := numF_len (n := n.toNat) (by omega)
      unfold ansF
      simp only [List.length_append]
      omega
    · cases hz
  · simp
set_option maxHeartbeats 16000000 in
theorem MsgEncodes_true {h : Heap} {n ht m : Int} {x : Bk} {sv sl : Value} (hb : BkRd h x sv sl) :
    Runs Tryz.prog T0 (.fn fn_zhbQ) [.agg ⟨[.int .i64 n, .int .i64 ht]⟩, .int .i64 m, .agg ⟨x.cells sv sl⟩] h (fun r h' => r = .bool true) (fun _ _ => False) := by
  have hx := hb.hd
  have hch := hb.hash
  haveI := l32 hx.prev
  haveI := l32 hx.vals
  haveI := l32 hx.next
  haveI := l32 hx.app
  haveI := l32 hch
  obtain ⟨a1, c1, rfl, _, _⟩ := id hb.sv
  obtain ⟨a2, c2, rfl, _, _⟩ := id hb.sl
  refine zhbQ_runs ?_
  refine stp ?_
  have n0 : ((h.push (.cells [.int .i64 n, .int .i64 ht] 0)).push (.cells (x.cells (.slice a1 x.c.votes.length c1) (.slice a2 x.vals.length c2)) 0)).n = h.n + 2 := rfl
  have nb : (h.push (.cells [.int .i64 n, .int .i64 ht] 0)).n = h.n + 1 := rfl
  have gA : HGet ((h.push (.cells [.int .i64 n, .int .i64 ht] 0)).push (.cells (x.cells (.slice a1 x.c.votes.length c1) (.slice a2 x.vals.length c2)) 0)) h.n (.cells [.int .i64 n, .int .i64 ht] 0) := HGet.push (k := BLt.new) (g := HGet.new)
  have gB : HGet ((h.push (.cells [.int .i64 n, .int .i64 ht] 0)).push (.cells (x.cells (.slice a1 x.c.votes.length c1) (.slice a2 x.vals.length c2)) 0)) (h.push (.cells [.int .i64 n, .int .i64 ht] 0)).n (.cells (x.cells (.slice a1 x.c.votes.length c1) (.slice a2 x.vals.length c2)) 0) := HGet.new
  have f0 : Fr (fun _ => False) h ((h.push (.cells [.int .i64 n, .int .i64 ht] 0)).push (.cells (x.cells (.slice a1 x.c.votes.length c1) (.slice a2 x.vals.length c2)) 0)) := Fr.refl.push.push
  generalize (h.push (.cells [.int .i64 n, .int .i64 ht] 0)).push (.cells (x.cells (.slice a1 x.c.votes.length c1) (.slice a2 x.vals.length c2)) 0) = h0 at *
  generalize (h.push (.cells [.int .i64 n, .int .i64 ht] 0)).n = pb at *
  refine O.call' (LongBlock_ok (hb.keep f0 fun _ _ => id)) (fun r h1 hr => ?_)
  obtain ⟨⟨b, rfl, hlong⟩, hf1⟩ := hr
  have F1 := f0.trans' hf1
  have n1 := hf1.n
  have gA1 := hf1.keep gA (by omega) id
  have gB1 := hf1.keep gB (by omega) id
  haveI := gA1
  haveI := gB1
  cases b with
  | true =>
    refine stp ?_
    refine O.call' zibQ_known (fun r h2 hr => ?_)
    obtain ⟨rfl, rfl⟩ := hr
    refine stp ?_
    rfl
  | false =>
  obtain ⟨y1, y2, y3⟩ := hlong rfl
  refine stp ?_
  refine O.call' (CopyBlock_ok (hb.keep F1 fun _ _ => id) (by omega) (by omega)) (fun r h2 hr => ?_)
  obtain ⟨sw, sm, rfl, hov, hol, hnv, hnl, hf2⟩ := hr
  have F2 := F1.trans' hf2
  have n2 := hf2.n
  have gA2 := hf2.keep gA1 (by omega) (fun e => e)
  have gB2 := hf2.keep gB1 (by omega) (fun e => e)
  obtain ⟨a3, c3, rfl, _, _⟩ := hov.rd
  obtain ⟨a4, c4, rfl, _, _⟩ := hol.rd
  haveI := gA2
  haveI := gB2
  haveI : BLt h.n h2 := ⟨by omega⟩
  haveI : BLt pb h2 := ⟨by omega⟩
  refine stp ?_
  have gA3 : HGet (h2.push (.cells (x.cells (.slice a3 x.c.votes.length c3) (.slice a4 x.vals.length c4)) 0)) h.n (.cells [.int .i64 n, .int .i64 ht] 0) := HGet.push (g := gA2)
  have gB3 : HGet (h2.push (.cells (x.cells (.slice a3 x.c.votes.length c3) (.slice a4 x.vals.length c4)) 0)) pb (.cells (x.cells (.slice a1 x.c.votes.length c1) (.slice a2 x.vals.length c2)) 0) := HGet.push (g := gB2)
  have gC3 : HGet (h2.push (.cells (x.cells (.slice a3 x.c.votes.length c3) (.slice a4 x.vals.length c4)) 0)) h2.n (.cells (x.cells (.slice a3 x.c.votes.length c3) (.slice a4 x.vals.length c4)) 0) := HGet.new
  have F3 : Fr (fun _ => False) h (h2.push (.cells (x.cells (.slice a3 x.c.votes.length c3) (.slice a4 x.vals.length c4)) 0)) := F2.push
  have n3 : (h2.push (.cells (x.cells (.slice a3 x.c.votes.length c3) (.slice a4 x.vals.length c4)) 0)).n = h2.n + 1 := rfl
  have ov3 := hov.keep (S := fun _ => False) (Fr.refl.push (o := .cells (x.cells (.slice a3 x.c.votes.length c3) (.slice a4 x.vals.length c4)) 0)) fun _ _ => fun e => e
  have ol3 := hol.keep (S := fun _ => False) (Fr.refl.push (o := .cells (x.cells (.slice a3 x.c.votes.length c3) (.slice a4 x.vals.length c4)) 0)) fun _ _ => fun e => e
  generalize h2.push (.cells (x.cells (.slice a3 x.c.votes.length c3) (.slice a4 x.vals.length c4)) 0) = h3 at *
  have bi3 : BkRd h3 x (.slice a3 x.c.votes.length c3) (.slice a4 x.vals.length c4) := ⟨hx, hch, ov3.rd, ol3.rd⟩
  have bo3 := hb.keep F3 fun _ _ => fun e => e
  refine O.call' (Ask_ok (n := n) (ht := ht)) (fun r h4 hr => ?_)
  obtain ⟨w1, rfl, o1, e1, f4⟩ := hr
  have m4 := f4.n
  have gA4 := f4.keep gA3 (by omega) (fun e => e)
  have gB4 := f4.keep gB3 (by omega) (fun e => e)
  have gC4 := f4.keep gC3 (by omega) (fun e => e)
  haveI := gA4
  refine stp ?_
  refine O.call' (RAsk_ok (n := n) (ht := ht)) (fun r h5 hr => ?_)
  obtain ⟨w2, rfl, o2, e2, f5⟩ := hr
  have m5 := f5.n
  have gB5 := f5.keep gB4 (by omega) (fun e => e)
  have gC5 := f5.keep gC4 (by omega) (fun e => e)
  have F35 := f4.trans' f5
  haveI := gC5
  refine stp ?_
  refine O.call' (Answer_ok (n := m) (bi3.keep F35 fun _ _ => fun e => e)) (fun r h6 hr => ?_)
  obtain ⟨w3, rfl, o3, e3, f6⟩ := hr
  have m6 := f6.n
  have gB6 := f6.keep gB5 (by omega) (fun e => e)
  have gC6 := f6.keep gC5 (by omega) (fun e => e)
  have F36 := F35.trans' f6
  haveI := gB6
  refine stp ?_
  refine O.call' (RAnswer_ok (n := m) (bo3.keep F36 fun _ _ => fun e => e) (by omega) (by omega)) (fun r h7 hr => ?_)
  obtain ⟨w4, rfl, o4, e4, f7⟩ := hr
  have m7 := f7.n
  have gB7 := f7.keep gB6 (by omega) (fun e => e)
  have gC7 := f7.keep gC6 (by omega) (fun e => e)
  have F37 := F36.trans' f7
  have p1 := ((o1.keep f5 fun _ _ => fun e => e).keep f6 fun _ _ => fun e => e).keep f7 fun _ _ => fun e => e
  have p2 := (o2.keep f6 fun _ _ => fun e => e).keep f7 fun _ _ => fun e => e
  have p3 := o3.keep f7 fun _ _ => fun e => e
  refine stp ?_
  refine O.call' (SameBytes_ok p1.rd p2.rd) (fun r h8 hr => ?_)
  obtain ⟨rfl, rfl⟩ := hr
  simp only [decide_true]
  refine stp ?_
  simp only [decide_true]
  refine stp ?_
  refine O.callT (SameBytes_ok p3.rd o4.rd) (fun r h8 hr => ?_)
  obtain ⟨rfl, rfl⟩ := hr
  simp only [decide_true]
  refine stp ?_
  simp only [decide_true]
  refine stp ?_
  have F38 : Fr (fun _ => False) h h8 := F3.trans' F37
  have bi7 := bi3.keep F37 fun _ _ => fun e => e
  have bo7 := hb.keep F38 fun _ _ => fun e => e
  refine O.callT (SameBlock_sameL ⟨hx, hch, by omega, by omega⟩ bi7.sv bi7.sl bo7.sv bo7.sl) (fun r h9 hr => ?_)
  obtain ⟨rfl, hf9⟩ := hr
  refine stp ?_
  refine O.call' (OverBytes_ok (p1.keep hf9 fun _ _ => fun e => e) (askL n ht)) (fun r h10 hr => ?_)
  have hf10 := hr
  refine stp ?_
  refine O.call' (OverBytes_ok ((p3.keep hf9 fun _ _ => fun e => e).keep hf10 fun b hb e => by have := e3 b hb; have := o1.lt e; omega) (ansL m hb)) (fun r h11 hr => ?_)
  refine stp ?_
  refine O.callT zibQ_known (fun r h12 hr => ?_)
  obtain ⟨rfl, rfl⟩ := hr
  refine stp ?_
  rfl
end Go.Proofs.YtninaabbojcdpaaGreat.A

namespace Go.Proofs.YtninaabbojcdpaaGreat.A
open Go Go.Vm
set_option maxRecDepth 10000
set_option linter.unusedVariables false
end Go.Proofs.YtninaabbojcdpaaGreat.A

namespace Go.Proofs.YtninaabbojcdpaaGreat.A
open Go Go.Vm
set_option maxRecDepth 10000
set_option linter.unusedVariables false
theorem fits_bytes {h : Heap} {m : Nat} {te : TypeId} {c : List Value} {len : Nat} (hu : Tryz.prog.underlying te = some (.int .u8)) (hs : Tryz.prog.cellsOf te = 1) (hl : c.length = len * Tryz.prog.cellsOf te) (hall : ∀ i, i < len → Fits Tryz.prog h (m + 1) te ((c.drop (i * Tryz.prog.cellsOf te)).take (Tryz.prog.cellsOf te))) : ∃ bs : List UInt8, c = bcells bs ∧ bs.length = len := by
  rw [hs, Nat.mul_one] at hl
  induction c generalizing len with
  | nil => exact ⟨[], rfl, by simpa using hl⟩
  | cons v c ih =>
    cases len with
    | zero => simp at hl
    | succ len =>
      have h0 := hall 0 (by omega)
      rw [hs] at h0
      unfold Fits at h0
      rw [hu] at h0
      simp only [Nat.zero_mul, List.drop_zero, List.take_succ_cons, List.take_zero] at h0
      obtain ⟨x, hx, hwf⟩ := h0
      injection hx with hx _
      obtain ⟨bs, rfl, hb⟩ := ih (len := len) (by simpa using hl) fun i hi => by
        have := hall (i + 1) (by omega)
        rw [hs] at this ⊢
        simpa using this
      have hr : 0 ≤ x ∧ x ≤ 255 := by
        simp [Lit.wf, IntKind.min, IntKind.max, IntKind.signed, IntKind.bits] at hwf
        omega
      refine ⟨UInt8.ofNat x.toNat :: bs, ?_, by simp [hb]⟩
      rw [hx]
      show Value.int .u8 x :: bcells bs = Value.int .u8 ((UInt8.ofNat x.toNat).toNat : Nat) :: bcells bs
      rw [u8nat (by omega)]
      congr 2
      omega
end Go.Proofs.YtninaabbojcdpaaGreat.A

namespace Go.Proofs.YtninaabbojcdpaaGreat.A
open Go Go.Vm
set_option maxRecDepth 10000
set_option linter.unusedVariables false
theorem fits_flat32 {h : Heap} {m : Nat} {t te : TypeId} {c : List Value} (ht : Tryz.prog.underlying t = some (.array 32 te)) (hu : Tryz.prog.underlying te = some (.int .u8)) (hs : Tryz.prog.cellsOf te = 1) (hs32 : Tryz.prog.cellsOf t = 32) (hv : Fits Tryz.prog h (m + 2) t c) : ∃ bs : List UInt8, c = bcells bs ∧ bs.length = 32 := by
  unfold Fits at hv
  rw [ht] at hv
  exact fits_bytes hu hs (by rw [hv.1, hs32, hs]) hv.2
theorem fits_header {h : Heap} {m : Nat} {t ts ti th tb : TypeId} {c : List Value} (f0 : fieldAt Tryz.prog t 0 = some (0, ts)) (f1 : fieldAt Tryz.prog t 1 = some (1, ti)) (f2 : fieldAt Tryz.prog t 2 = some (2, ti)) (f3 : fieldAt Tryz.prog t 3 = some (3, th)) (f4 : fieldAt Tryz.prog t 4 = some (35, th)) (f5 : fieldAt Tryz.prog t 5 = some (67, th)) (f6 : fieldAt Tryz.prog t 6 = some (99, th))
    (us : Tryz.prog.underlying ts = some .string) (ui : Tryz.prog.underlying ti = some (.int .i64)) (uh : Tryz.prog.underlying th = some (.array 32 tb)) (ub : Tryz.prog.underlying tb = some (.int .u8)) (c0 : Tryz.prog.cellsOf ts = 1) (c1 : Tryz.prog.cellsOf ti = 1) (c3 : Tryz.prog.cellsOf th = 32) (cb : Tryz.prog.cellsOf tb = 1) (ct : Tryz.prog.cellsOf t = 131)
    (hv : Fits Tryz.prog h (m + 3) t c) : ∃ x : Hd, x.ok ∧ (-9223372036854775808 ≤ x.height ∧ x.height ≤ 9223372036854775807) ∧ (-9223372036854775808 ≤ x.time ∧ x.time ≤ 9223372036854775807) ∧ c = x.cells := by
  have hl := hv.len f0
  rw [ct] at hl
  obtain ⟨s, g0, _⟩ := (hv.field f0).str us
  obtain ⟨a, g1, w1⟩ := (hv.field f1).int ui
  obtain ⟨b, g2, w2⟩ := (hv.field f2).int ui
  obtain ⟨l3, g3, n3⟩ := fits_flat32 uh ub cb c3 (hv.field f3)
  obtain ⟨l4, g4, n4⟩ := fits_flat32 uh ub cb c3 (hv.field f4)
  obtain ⟨l5, g5, n5⟩ := fits_flat32 uh ub cb c3 (hv.field f5)
  obtain ⟨l6, g6, n6⟩ := fits_flat32 uh ub cb c3 (hv.field f6)
  rw [c0] at g0
  rw [c1] at g1 g2
  rw [c3] at g3 g4 g5 g6
  refine ⟨⟨s.data.toList, a, b, l3, l4, l5, l6⟩, ⟨n3, n4, n5, n6⟩, wf_i64 w1, wf_i64 w2, ?_⟩
  rw [← List.drop_zero (l := c), vsplit c 0 1, g0, vsplit c (0 + 1) 1, g1, vsplit c (0 + 1 + 1) 1, g2, vsplit c (0 + 1 + 1 + 1) 32, g3, vsplit c (0 + 1 + 1 + 1 + 32) 32, g4, vsplit c (0 + 1 + 1 + 1 + 32 + 32) 32, g5, vsplit c (0 + 1 + 1 + 1 + 32 + 32 + 32) 32, g6,
    show c.drop (0 + 1 + 1 + 1 + 32 + 32 + 32 + 32) = [] from List.drop_eq_nil_of_le (by omega), List.append_nil]
  rfl
end Go.Proofs.YtninaabbojcdpaaGreat.A

namespace Go.Proofs.YtninaabbojcdpaaGreat.A
open Go Go.Vm
set_option maxRecDepth 10000
set_option linter.unusedVariables false
theorem four {l : List UInt8} (h : l.length = 4) : ∃ a b c d, l = [a, b, c, d] := by
  match l, h with
  | [a, b, c, d], _ => exact ⟨a, b, c, d, rfl⟩
end Go.Proofs.YtninaabbojcdpaaGreat.A

namespace Go.Proofs.YtninaabbojcdpaaGreat.A
open Go Go.Vm
set_option maxRecDepth 100000
set_option linter.unusedVariables false
theorem i64_fits {h : Heap} {v : Value} (hv : FitsV Tryz.prog h 8 3 v) : ∃ x : Int, v = .int .i64 x ∧ (-9223372036854775808 ≤ x ∧ x ≤ 9223372036854775807) := by
  have u2 : Tryz.prog.underlying 3 = some (.int .i64) := by kernel_rfl
  obtain ⟨x, h1, h2⟩ := hv.int u2
  exact ⟨x, h1, wf_i64 h2⟩
end Go.Proofs.YtninaabbojcdpaaGreat.A

namespace Go.Proofs.YtninaabbojcdpaaGreat.A
open Go Go.Vm
set_option maxRecDepth 100000
set_option linter.unusedVariables false
theorem vals_cells_fit {h : Heap} {m : Nat} {te tk tb ti : TypeId} (f0 : fieldAt Tryz.prog te 0 = some (0, tk)) (f1 : fieldAt Tryz.prog te 1 = some (4, ti)) (uk : Tryz.prog.underlying tk = some (.array 4 tb)) (ub : Tryz.prog.underlying tb = some (.int .u8)) (ui : Tryz.prog.underlying ti = some (.int .i64))
    (ce : Tryz.prog.cellsOf te = 5) (ck : Tryz.prog.cellsOf tk = 4) (cb : Tryz.prog.cellsOf tb = 1) (ci : Tryz.prog.cellsOf ti = 1) : ∀ (len : Nat) (c : List Value), c.length = len * 5 → (∀ i, i < len → Fits Tryz.prog h (m + 3) te ((c.drop (i * 5)).take 5)) →
    ∃ l : List Val, c = vcells l ∧ l.length = len ∧ ∀ v ∈ l, -9223372036854775808 ≤ v.p ∧ v.p ≤ 9223372036854775807
  | 0, c, hl, _ => ⟨[], by rw [vcells_nil]; simpa using hl, rfl, fun v hv => by cases hv⟩
  | len + 1, c, hl, hall => by
    have h0 := hall 0 (by omega)
    rw [Nat.zero_mul, List.drop_zero] at h0
    have hk := h0.field f0
    obtain ⟨p, g1, w1⟩ := (h0.field f1).int ui
    rw [ck] at hk
    rw [ci] at g1
    rw [List.drop_zero] at hk
    have h4 : (c.take 5).take 4 = c.take 4 := by rw [List.take_take]; rfl
    rw [h4] at hk
    have hb : ∃ bs : List UInt8, c.take 4 = bcells bs ∧ bs.length = 4 := by
      unfold Fits at hk
      rw [uk] at hk
      exact fits_bytes ub cb (by rw [hk.1, ck, cb]) hk.2
    obtain ⟨bs, hb1, hb2⟩ := hb
    obtain ⟨a0, a1, a2, a3, rfl⟩ := four hb2
    obtain ⟨l, e1, e2, e3⟩ := vals_cells_fit f0 f1 uk ub ui ce ck cb ci len (c.drop 5) (by rw [List.length_drop]; omega) fun i hi => by
      have := hall (i + 1) (by omega)
      rw [List.drop_drop]
      rw [show (i + 1) * 5 = 5 + i * 5 from by omega] at this
      exact this
    refine ⟨⟨a0, a1, a2, a3, p⟩ :: l, ?_, by simp [e2], fun v hv => ?_⟩
    · rw [vcells_cons, ← e1]
      have e5 : c = c.take 5 ++ c.drop 5 := (List.take_append_drop 5 c).symm
      have e6 : c.take 5 = c.take 4 ++ ((c.take 5).drop 4).take 1 := by
        have h1 : ((c.take 5).drop 4).take 1 = (c.take 5).drop 4 := List.take_of_length_le (by rw [List.length_drop, List.length_take]; omega)
        rw [h1, ← h4, List.take_append_drop]
      conv => lhs; rw [e5, e6, hb1, g1]
      rfl
    · rcases List.mem_cons.1 hv with rfl | hv
      · exact wf_i64 w1
      · exact e3 v hv
end Go.Proofs.YtninaabbojcdpaaGreat.A

namespace Go.Proofs.YtninaabbojcdpaaGreat.A
open Go Go.Vm
set_option maxRecDepth 100000
set_option linter.unusedVariables false
theorem wf_u64 {x : Int} (h : (Lit.int .u64 x).wf = true) : 0 ≤ x ∧ x ≤ 18446744073709551615 := by
  simp [Lit.wf, IntKind.min, IntKind.max, IntKind.signed, IntKind.bits] at h
  omega
theorem votes_cells_fit {h : Heap} {m : Nat} {te ti tu : TypeId} (f0 : fieldAt Tryz.prog te 0 = some (0, ti)) (f1 : fieldAt Tryz.prog te 1 = some (1, tu)) (ui : Tryz.prog.underlying ti = some (.int .i64)) (uu : Tryz.prog.underlying tu = some (.int .u64))
    (ce : Tryz.prog.cellsOf te = 2) (ci : Tryz.prog.cellsOf ti = 1) (cu : Tryz.prog.cellsOf tu = 1) : ∀ (len : Nat) (c : List Value), c.length = len * 2 → (∀ i, i < len → Fits Tryz.prog h (m + 2) te ((c.drop (i * 2)).take 2)) →
    ∃ l : List Vote, c = tcells l ∧ l.length = len
  | 0, c, hl, _ => ⟨[], by rw [tcells_nil]; simpa using hl, rfl⟩
  | len + 1, c, hl, hall => by
    have h0 := hall 0 (by omega)
    rw [Nat.zero_mul, List.drop_zero] at h0
    obtain ⟨a, g0, w0⟩ := (h0.field f0).int ui
    obtain ⟨p, g1, w1⟩ := (h0.field f1).int uu
    rw [ci] at g0
    rw [cu] at g1
    obtain ⟨l, e1, e2⟩ := votes_cells_fit f0 f1 ui uu ce ci cu len (c.drop 2) (by rw [List.length_drop]; omega) fun i hi => by
      have := hall (i + 1) (by omega)
      rw [List.drop_drop]
      rw [show (i + 1) * 2 = 2 + i * 2 from by omega] at this
      exact this
    have hp := wf_u64 w1
    refine ⟨⟨a, p.toNat⟩ :: l, ?_, by simp [e2]⟩
    rw [tcells_cons, ← e1]
    match c, hl with
    | [], hl => simp at hl
    | [u], hl => simp at hl; omega
    | u :: w :: c, hl =>
      have g0 : [u] = [Value.int .i64 a] := g0
      have g1 : [w] = [Value.int .u64 p] := g1
      have g0 : u = Value.int .i64 a := by injection g0
      have g1 : w = Value.int .u64 p := by injection g1
      rw [g0, g1]
      show _ = [Value.int .i64 a, Value.int .u64 ((p.toNat : Nat) : Int)] ++ c
      rw [show ((p.toNat : Nat) : Int) = p from by omega]
      rfl
theorem fits_votes {h : Heap} {m : Nat} {t te ti tu : TypeId} {cs : List Value} (ht : Tryz.prog.underlying t = some (.slice te)) (f0 : fieldAt Tryz.prog te 0 = some (0, ti)) (f1 : fieldAt Tryz.prog te 1 = some (1, tu)) (ui : Tryz.prog.underlying ti = some (.int .i64)) (uu : Tryz.prog.underlying tu = some (.int .u64))
    (ce : Tryz.prog.cellsOf te = 2) (ci : Tryz.prog.cellsOf ti = 1) (cu : Tryz.prog.cellsOf tu = 1) (hv : Fits Tryz.prog h (m + 3) t cs) : ∃ (v : Value) (l : List Vote), cs = [v] ∧ Rd h 2 v (tcells l) l.length := by
  unfold Fits at hv
  rw [ht] at hv
  rcases hv with hv | ⟨b, len, cap, c, hv, hb, hlc, hcap, hro, hl, hall⟩
  · exact ⟨_, [], hv, Rd.nil⟩
  · rw [ce] at hl hall
    obtain ⟨l, rfl, e2⟩ := votes_cells_fit f0 f1 ui uu ce ci cu len c hl hall
    refine ⟨_, l, hv, ⟨_, _, by rw [e2], tcells_len l, fun hn => ⟨b, 0, none, rfl, hb, ?_⟩⟩⟩
    rw [cellsAt_of (c := tcells l) (by rw [hro (by omega)]; rfl) (by rw [tcells_len]; omega), List.drop_zero, List.take_of_length_le (by rw [tcells_len]; omega)]
theorem fits_vals1 {h : Heap} {m : Nat} {t te tk tb ti : TypeId} {cs : List Value} (ht : Tryz.prog.underlying t = some (.slice te)) (f0 : fieldAt Tryz.prog te 0 = some (0, tk)) (f1 : fieldAt Tryz.prog te 1 = some (4, ti)) (uk : Tryz.prog.underlying tk = some (.array 4 tb)) (ub : Tryz.prog.underlying tb = some (.int .u8)) (ui : Tryz.prog.underlying ti = some (.int .i64))
    (ce : Tryz.prog.cellsOf te = 5) (ck : Tryz.prog.cellsOf tk = 4) (cb : Tryz.prog.cellsOf tb = 1) (ci : Tryz.prog.cellsOf ti = 1) (hv : Fits Tryz.prog h (m + 4) t cs) : ∃ (v : Value) (l : List Val), cs = [v] ∧ Rd h 5 v (vcells l) l.length := by
  unfold Fits at hv
  rw [ht] at hv
  rcases hv with hv | ⟨b, len, cap, c, hv, hb, hlc, hcap, hro, hl, hall⟩
  · exact ⟨_, [], hv, Rd.nil⟩
  · rw [ce] at hl hall
    obtain ⟨l, rfl, e2, e3⟩ := vals_cells_fit f0 f1 uk ub ui ce ck cb ci len c hl hall
    refine ⟨_, l, hv, ⟨_, _, by rw [e2], vcells_len l, fun hn => ⟨b, 0, none, rfl, hb, ?_⟩⟩⟩
    rw [cellsAt_of (c := vcells l) (by rw [hro (by omega)]; rfl) (by rw [vcells_len]; omega), List.drop_zero, List.take_of_length_le (by rw [vcells_len]; omega)]
theorem fits_bk {h : Heap} {cs : List Value} (hv : Fits Tryz.prog h 8 36 cs) : ∃ (x : Bk) (sv sl : Value), cs = x.cells sv sl ∧ BkRd h x sv sl := by
  have b0 : fieldAt Tryz.prog 36 0 = some (0, 30) := by kernel_rfl
  have b1 : fieldAt Tryz.prog 36 1 = some (131, 33) := by kernel_rfl
  have b2 : fieldAt Tryz.prog 36 2 = some (165, 34) := by kernel_rfl
  have m0 : fieldAt Tryz.prog 33 0 = some (0, 3) := by kernel_rfl
  have m1 : fieldAt Tryz.prog 33 1 = some (1, 28) := by kernel_rfl
  have m2 : fieldAt Tryz.prog 33 2 = some (33, 31) := by kernel_rfl
  have v0 : fieldAt Tryz.prog 134 0 = some (0, 3) := by kernel_rfl
  have v1 : fieldAt Tryz.prog 134 1 = some (1, 124) := by kernel_rfl
  have l0 : fieldAt Tryz.prog 132 0 = some (0, 130) := by kernel_rfl
  have l1 : fieldAt Tryz.prog 132 1 = some (4, 3) := by kernel_rfl
  have uv : Tryz.prog.underlying 31 = some (.slice 134) := by kernel_rfl
  have ul : Tryz.prog.underlying 34 = some (.slice 132) := by kernel_rfl
  have uk : Tryz.prog.underlying 130 = some (.array 4 5) := by kernel_rfl
  have uu : Tryz.prog.underlying 124 = some (.int .u64) := by kernel_rfl
  have g0 : fieldAt Tryz.prog 30 0 = some (0, 9) := by kernel_rfl
  have g1 : fieldAt Tryz.prog 30 1 = some (1, 3) := by kernel_rfl
  have g2 : fieldAt Tryz.prog 30 2 = some (2, 3) := by kernel_rfl
  have g3 : fieldAt Tryz.prog 30 3 = some (3, 28) := by kernel_rfl
  have g4 : fieldAt Tryz.prog 30 4 = some (35, 28) := by kernel_rfl
  have g5 : fieldAt Tryz.prog 30 5 = some (67, 28) := by kernel_rfl
  have g6 : fieldAt Tryz.prog 30 6 = some (99, 28) := by kernel_rfl
  have u1 : Tryz.prog.underlying 9 = some .string := by kernel_rfl
  have u2 : Tryz.prog.underlying 3 = some (.int .i64) := by kernel_rfl
  have u3 : Tryz.prog.underlying 28 = some (.array 32 5) := by kernel_rfl
  have u4 : Tryz.prog.underlying 5 = some (.int .u8) := by kernel_rfl
  have c1 : Tryz.prog.cellsOf 9 = 1 := by kernel_rfl
  have c2 : Tryz.prog.cellsOf 3 = 1 := by kernel_rfl
  have c3 : Tryz.prog.cellsOf 28 = 32 := by kernel_rfl
  have c4 : Tryz.prog.cellsOf 5 = 1 := by kernel_rfl
  have c5 : Tryz.prog.cellsOf 30 = 131 := by kernel_rfl
  have c6 : Tryz.prog.cellsOf 33 = 34 := by kernel_rfl
  have c7 : Tryz.prog.cellsOf 36 = 166 := by kernel_rfl
  have c8 : Tryz.prog.cellsOf 134 = 2 := by kernel_rfl
  have c9 : Tryz.prog.cellsOf 132 = 5 := by kernel_rfl
  have d1 : Tryz.prog.cellsOf 130 = 4 := by kernel_rfl
  have d2 : Tryz.prog.cellsOf 124 = 1 := by kernel_rfl
  have d3 : Tryz.prog.cellsOf 31 = 1 := by kernel_rfl
  have d4 : Tryz.prog.cellsOf 34 = 1 := by kernel_rfl
  have hlen := hv.len b0
  rw [c7] at hlen
  obtain ⟨x, hx, _, _, hh⟩ := fits_header (m := 4) g0 g1 g2 g3 g4 g5 g6 u1 u2 u3 u4 c1 c2 c3 c4 c5 (hv.field b0)
  rw [c5] at hh
  have hc := hv.field b1
  rw [c6] at hc
  obtain ⟨ht, k0, _⟩ := (hc.field m0).int u2
  obtain ⟨hs, k1, k1l⟩ := fits_flat32 (m := 4) u3 u4 c4 c3 (hc.field m1)
  obtain ⟨sv, vs, k2, k2r⟩ := fits_votes (m := 3) uv v0 v1 u2 uu c8 c2 d2 (hc.field m2)
  obtain ⟨sl, ls, k3, k3r⟩ := fits_vals1 (m := 3) ul l0 l1 uk u4 u2 c9 d1 c4 c2 (hv.field b2)
  rw [c2] at k0
  rw [c3] at k1
  rw [d3] at k2
  rw [d4] at k3
  refine ⟨⟨x, ⟨ht, hs, vs⟩, ls⟩, sv, sl, ?_, ⟨hx, k1l, k2r, k3r⟩⟩
  have hcc : (cs.drop 131).take 34 = .int .i64 ht :: (bcells hs ++ [sv]) := by
    have hl2 : ((cs.drop 131).take 34).length = 34 := by rw [List.length_take, List.length_drop]; omega
    generalize (cs.drop 131).take 34 = c at *
    rw [← List.drop_zero (l := c), vsplit c 0 1, k0, vsplit c (0 + 1) 32, k1, vsplit c (0 + 1 + 32) 1, k2, show c.drop (0 + 1 + 32 + 1) = [] from List.drop_eq_nil_of_le (by omega), List.append_nil]
    rfl
  rw [← List.drop_zero (l := cs), vsplit cs 0 131, hh, vsplit cs (0 + 131) 34, hcc, vsplit cs (0 + 131 + 34) 1, k3, show cs.drop (0 + 131 + 34 + 1) = [] from List.drop_eq_nil_of_le (by omega), List.append_nil]
  simp only [Bk.cells, Hd.cells, List.cons_append, List.append_assoc, List.nil_append]
theorem MsgEncodes_run (h : Heap) (vs : List Value) (hf : FitsAll Tryz.prog h 8 [26, 3, 36] vs) : Runs Tryz.prog T0 (.fn fn_zhbQ) vs h (fun r _ => r = .bool true) (fun _ _ => False) := by
  obtain ⟨v1, _, rfl, h1, hf⟩ := hf.cons
  obtain ⟨v2, _, rfl, h2, hf⟩ := hf.cons
  obtain ⟨v3, _, rfl, h3, hf⟩ := hf.cons
  obtain rfl := hf.nil
  have a0 : fieldAt Tryz.prog 26 0 = some (0, 3) := by kernel_rfl
  have a1 : fieldAt Tryz.prog 26 1 = some (1, 3) := by kernel_rfl
  have u2 : Tryz.prog.underlying 3 = some (.int .i64) := by kernel_rfl
  have c2 : Tryz.prog.cellsOf 3 = 1 := by kernel_rfl
  have c0 : Tryz.prog.cellsOf 26 = 2 := by kernel_rfl
  have b0 : fieldAt Tryz.prog 36 0 = some (0, 30) := by kernel_rfl
  obtain ⟨cs, rfl, hc⟩ := FitsV.agg h1 a0
  have hl := hc.len a0
  rw [c0] at hl
  obtain ⟨n, k0, _⟩ := (hc.field a0).int u2
  obtain ⟨ht, k1, _⟩ := (hc.field a1).int u2
  rw [c2] at k0 k1
  obtain ⟨m, rfl, _⟩ := i64_fits h2
  obtain ⟨ds, rfl, hd⟩ := FitsV.agg h3 b0
  obtain ⟨x, sv, sl, rfl, hb⟩ := fits_bk hd
  have e : cs = [.int .i64 n, .int .i64 ht] := by
    match cs, hl with
    | [u, w], _ =>
      have k0 : [u] = [Value.int .i64 n] := k0
      have k1 : [w] = [Value.int .i64 ht] := k1
      have k0 : u = Value.int .i64 n := by injection k0
      have k1 : w = Value.int .i64 ht := by injection k1
      rw [k0, k1]
  subst e
  exact MsgEncodes_true hb
end Go.Proofs.YtninaabbojcdpaaGreat.A

namespace Go.Proofs.YtninaabbojcdpaaGreat.A
open Go Go.Vm
set_option maxRecDepth 100000
theorem ran_9 : allTrue (xcall Tryz.prog (tableOf Tryz.prog) 1000 60 (.fn 9) [] Heap.init) = true := by kernel_rfl
theorem has_9 : (tableOf Tryz.prog 9).isSome = true := by kernel_rfl
theorem known : KnownAll Tryz.prog prims := ⟨⟨Option.isSome_iff_exists.1 has_9, fun w => known_calls (Checked.mixed Tryz.checked) tableOf_ok ran_9 w⟩, trivial⟩
theorem T0_ok : TableOK Tryz.prog T0 := withKept_ok (withTrue_ok known) fun k hk => by simp at hk
end Go.Proofs.YtninaabbojcdpaaGreat.A
