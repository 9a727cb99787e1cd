/- Contracts of functions, over the machine. -/
import Derived.Test.YtbmpalbdbcjieaaGreatQBlockLinks3
import Derived.Test.YtbmpalbdbcjieaaGreatVK
import Derived.Test.YtbmpalbdbcjieaaGreatVJ
noncomputable section
namespace Go.Proofs.YtbmpalbdbcjieaaGreat.A
open Go.Proofs.YtbmpalbdbcjieaaGreat.K
open Go Go.Vm
set_option maxRecDepth 10000
set_option linter.unusedVariables false
theorem VHash_ok {h : Heap} {v : Value} {l : List Val} (hv : Rd h 5 v (vcells l) l.length) : Runs Tryz.prog T0 (.fn fn_zydQ) [v] h
    (fun r h' => r = .tuple ⟨[.agg ⟨bcells (if checkV l = 0 then sumS (encV l) else zb32)⟩, .int .i64 (checkV l)]⟩ ∧ Fr (fun _ => False) h h') (fun _ _ => False) := by
  have k1 := VEncode_ok (hv.keep (S := fun _ => False) (Fr.refl.push (o := .cells z32 0)) fun _ _ => id)
  obtain ⟨a, cap, rfl, hlen, hc⟩ := hv
  refine zydQ_runs ?_
  refine stp ?_
  refine O.call' k1 (fun r h1 hr => ?_)
  obtain ⟨w, rfl, ho, hnew, hf⟩ := hr
  have hn1 := hf.n
  simp only [Heap.n_push] at hn1
  have hf1 : Fr (fun _ => False) h h1 := Fr.trans (S := fun _ => False) Fr.refl.push hf fun _ _ h => h
  haveI gO : HGet h1 h.n (.cells z32 0) := hf.keep (b := h.n) HGet.new (by simp) id
  haveI : BLt h.n h1 := ⟨by omega⟩
  refine stp ?_
  refine C.ifN (fun he => ?_) (fun he => ?_)
  · refine stp ?_
    rw [if_neg he]
    exact ⟨rfl, Fr.set hf1 fun h => by omega⟩
  · rw [if_pos he] at ho ⊢
    have hel := encV_len he
    have hpos : 0 < (encV l).length := by simp [encV, numF]
    refine stp ?_
    refine O.call' (Sum_ok ho.rd hpos (by omega)) (fun r h3 hr => ?_)
    obtain ⟨rfl, hf3⟩ := hr
    have hn3 := hf3.n
    have hsl := sumS_len (encV l)
    haveI : L32 (bcells (sumS (encV l))) := ⟨by rw [bcells_len, hsl]⟩
    haveI := hf3.keep gO (by omega) id
    haveI : BLt h.n h3 := ⟨by omega⟩
    rw [he]
    refine stp ?_
    exact ⟨rfl, Fr.set (Fr.trans (S := fun _ => False) hf1 hf3 fun _ _ h => h) fun h => by omega⟩
theorem RVHash_ok {h : Heap} {v : Value} {l : List Val} (hv : Rd h 5 v (vcells l) l.length) (hs : l.length < 1048576) : Runs Tryz.prog T0 (.fn fn_zadQ) [v] h
    (fun r h' => r = .tuple ⟨[.agg ⟨bcells (if checkV l = 0 then sumS (encV l) else zb32)⟩, .int .i64 (checkV l)]⟩ ∧ Fr (fun _ => False) h h') (fun _ _ => False) := by
  have k1 := RVEncode_ok (hv.keep (S := fun _ => False) (Fr.refl.push (o := .cells z32 0)) fun _ _ => id) hs
  obtain ⟨a, cap, rfl, hlen, hc⟩ := hv
  refine zadQ_runs ?_
  refine stp ?_
  refine O.call' k1 (fun r h1 hr => ?_)
  obtain ⟨w, rfl, ho, hnew, hf⟩ := hr
  have hn1 := hf.n
  simp only [Heap.n_push] at hn1
  have hf1 : Fr (fun _ => False) h h1 := Fr.trans (S := fun _ => False) Fr.refl.push hf fun _ _ h => h
  haveI gO : HGet h1 h.n (.cells z32 0) := hf.keep (b := h.n) HGet.new (by simp) id
  haveI : BLt h.n h1 := ⟨by omega⟩
  refine stp ?_
  refine C.ifN (fun he => ?_) (fun he => ?_)
  · refine stp ?_
    rw [if_neg he]
    exact ⟨rfl, Fr.set hf1 fun h => by omega⟩
  · rw [if_pos he] at ho ⊢
    have hel := encV_len he
    have hpos : 0 < (encV l).length := by simp [encV, numF]
    refine stp ?_
    refine O.call' (Sum_okD ho.rd hpos (by omega)) (fun r h3 hr => ?_)
    obtain ⟨rfl, hf3⟩ := hr
    have hn3 := hf3.n
    have hsl := sumS_len (encV l)
    haveI : L32 (bcells (sumS (encV l))) := ⟨by rw [bcells_len, hsl]⟩
    haveI := hf3.keep gO (by omega) id
    haveI : BLt h.n h3 := ⟨by omega⟩
    rw [he]
    refine stp ?_
    exact ⟨rfl, Fr.set (Fr.trans (S := fun _ => False) hf1 hf3 fun _ _ h => h) fun h => by omega⟩
end Go.Proofs.YtbmpalbdbcjieaaGreat.A

namespace Go.Proofs.YtbmpalbdbcjieaaGreat.A
open Go.Proofs.YtbmpalbdbcjieaaGreat.K
open Go Go.Vm
set_option maxRecDepth 10000
set_option linter.unusedVariables false
theorem mkStoreN {P : Program} {ts : List Value} {h : Heap} {a x : Operand} {v : Value} {o r n es : Nat} {sp : Option Nat} {xs c : List Value} (ho : o + xs.length ≤ c.length) (h1 : xs.all Value.oneCell' = true) (hn : n = xs.length) [e : Ev ts a (.pointer (some ⟨r, o, sp⟩))] [f : Ev ts x v] [k : CellsOf v xs] [g : HGet h r (.cells c es)] :
    xop P (eval ts) h (.store n a x) = .ok undef (h.set r (.cells (over c o xs) es)) := by
  have hp : putAt h r o xs = some (h.set r (.cells (over c o xs) es)) := by
    unfold putAt
    rw [g.eq]
    show (if o + xs.length ≤ c.length ∧ xs.all Value.oneCell' = true then some (h.set r (.cells (over c o xs) es)) else none) = _
    rw [if_pos ⟨ho, h1⟩]
  subst hn
  simp only [xop, e.eq, f.eq, k.eq, k.len, hp, if_true]
theorem Rd.block_lt {h : Heap} {size n : Nat} {v : Value} {c : List Value} (hv : Rd h size v c n) {i : Nat} (hi : blockOf v i) : i < h.n := by
  obtain ⟨a, cap, rfl, _, hc⟩ := hv
  cases a with
  | none => exact hi.elim
  | some a =>
    obtain ⟨h1, h2⟩ := hi
    obtain ⟨b, o, sp, e, hb, _⟩ := hc h2
    cases e
    subst h1
    exact hb
end Go.Proofs.YtbmpalbdbcjieaaGreat.A

namespace Go.Proofs.YtbmpalbdbcjieaaGreat.A
open Go.Proofs.YtbmpalbdbcjieaaGreat.K
open Go Go.Vm
set_option maxRecDepth 10000
set_option linter.unusedVariables false
structure Vote where
  at' : Int
  sig : Nat
abbrev Vote.cells (v : Vote) : List Value := [.int .i64 v.at', .int .u64 v.sig]
abbrev zVote : Vote := ⟨0, 0⟩
def tcells (l : List Vote) : List Value := l.flatMap Vote.cells
theorem tcells_nil : tcells [] = [] := rfl
theorem tcells_cons (v : Vote) (l : List Vote) : tcells (v :: l) = v.cells ++ tcells l := rfl
theorem tcells_len : ∀ l : List Vote, (tcells l).length = l.length * 2
  | [] => rfl
  | v :: l => by rw [tcells_cons, List.length_append, tcells_len l]; simp; omega
theorem tcells_at : ∀ {l : List Vote} {k : Nat}, k < l.length → ((tcells l).drop (k * 2)).take 2 = (l.getD k zVote).cells
  | v :: l, 0, _ => by rw [tcells_cons]; rfl
  | v :: l, k + 1, h => by
    have := tcells_at (l := l) (k := k) (by simpa using h)
    rw [tcells_cons, show (k + 1) * 2 = v.cells.length + k * 2 from by simp; omega, ← List.drop_drop, List.drop_left]
    exact this
theorem vote_cells {h : Heap} {b o n k : Nat} {l : List Vote} (hc : cellsAt h b o (n * 2) = some (tcells l)) (hn : l.length = n) (hk : k < n) : Cells h b (o + k * 2) 2 (l.getD k zVote).cells := ⟨by
  rw [cellsAt_sub hc (by omega), tcells_at (by omega)]⟩
theorem vote_at {h : Heap} {b o n k : Nat} {l : List Vote} (hc : cellsAt h b o (n * 2) = some (tcells l)) (hn : l.length = n) (hk : k < n) : Cell h b (o + k * 2) (.int .i64 (l.getD k zVote).at') := ⟨by
  have h5 := (vote_cells hc hn hk).eq
  have := cellsAt_sub (k := 0) (m := 1) h5 (by omega)
  simpa using this⟩
def voteS (last : Int) (v : Vote) : Int := if v.at' < 0 ∨ 64 ≤ v.at' then 3 else if v.at' ≤ last then 9 else 0
def stepsC : Int → List Vote → Int
  | _, [] => 0
  | last, v :: l => if voteS last v = 0 then stepsC v.at' l else voteS last v
def checkC (ht : Int) (l : List Vote) : Int := if ht < 1 ∨ 1073741824 < ht then 3 else if 64 < l.length then 4 else stepsC (-1) l
def lastC (l : List Vote) (k : Nat) : Int := if k = 0 then -1 else (l.getD (k - 1) zVote).at'
theorem dropC {l : List Vote} {k : Nat} (hk : k < l.length) : l.drop k = l.getD k zVote :: l.drop (k + 1) := by
  rw [List.drop_eq_getElem_cons hk]
  simp [List.getD, hk]
theorem stepsC_at {l : List Vote} {k : Nat} (hk : k < l.length) : stepsC (lastC l k) (l.drop k) = if voteS (lastC l k) (l.getD k zVote) = 0 then stepsC (lastC l (k + 1)) (l.drop (k + 1)) else voteS (lastC l k) (l.getD k zVote) := by
  rw [dropC hk]
  rfl
theorem rises1_ok {h : Heap} {a : Nat} {v : Vote} {last : Int} (hg : h.get a = .cells [.int .i64 last] 0) (ha : a < h.n) :
    Runs Tryz.prog T0 (.fn fn_zgbQ) [.agg ⟨v.cells⟩, .pointer (some ⟨a, 0, none⟩)] h
      (fun r h' => r = .int .i64 (voteS last v) ∧ (voteS last v = 0 → h'.get a = .cells [.int .i64 v.at'] 0) ∧ Fr (fun i => i = a) h h') (fun _ _ => False) := by
  haveI : HGet h a _ := ⟨hg⟩
  haveI : BLt a h := ⟨ha⟩
  refine zgbQ_runs ?_
  refine stpP ?_
  unfold voteS
  refine O.dec (fun h0 => ?_) (fun h0 => ?_)
  · refine stpP ?_
    rw [if_pos (show v.at' < 0 ∨ 64 ≤ v.at' from .inl h0)]
    exact ⟨rfl, fun h => absurd h (by decide), Fr.refl.push⟩
  · refine stpP ?_
    refine C.if (fun h1 => ?_) (fun h1 => ?_)
    · refine stpP ?_
      rw [if_pos (show v.at' < 0 ∨ 64 ≤ v.at' from .inr h1)]
      exact ⟨rfl, fun h => absurd h (by decide), Fr.refl.push⟩
    · rw [if_neg (show ¬ (v.at' < 0 ∨ 64 ≤ v.at') by omega)]
      refine stpP ?_
      refine C.if (fun h2 => ?_) (fun h2 => ?_)
      · refine stpP ?_
        rw [if_pos h2]
        exact ⟨rfl, fun h => absurd h (by decide), Fr.refl.push⟩
      · refine stpP ?_
        rw [if_neg h2]
        exact ⟨rfl, fun _ => by rw [Heap.get_set, if_pos rfl], Fr.refl.push.set fun _ => rfl⟩
theorem rises_ok {h : Heap} : Runs Tryz.prog T0 (.fn fn_zfbQ) [] h (fun r h' => r = .func (.func fn_zgbQ) ⟨[]⟩ ⟨[.pointer (some ⟨h.n, 0, none⟩)]⟩ ∧ h' = h.push (.cells [.int .i64 (-1)] 0)) (fun _ _ => False) := by
  refine zfbQ_runs (v := undef) ?_
  refine stpP ?_
  exact ⟨rfl, rfl⟩
theorem CCheck_ok {h : Heap} {ht : Int} {hs : List UInt8} {sv : Value} {l : List Vote} (hl : hs.length = 32) (hv : Rd h 2 sv (tcells l) l.length) :
    Runs Tryz.prog T0 (.fn fn_zcbQ) [.agg ⟨.int .i64 ht :: (bcells hs ++ [sv])⟩] h (fun r h' => r = .int .i64 (checkC ht l) ∧ Fr (fun _ => False) h h') (fun _ _ => False) := by
  obtain ⟨a, cap, rfl, hlen, hc⟩ := hv
  haveI := l32 hl
  refine zcbQ_runs ?_
  refine stpP ?_
  unfold checkC
  refine O.dec (fun h0 => ?_) (fun h0 => ?_)
  · refine stpP ?_
    rw [if_pos (show ht < 1 ∨ 1073741824 < ht from .inl h0)]
    exact ⟨rfl, Fr.refl.push⟩
  refine stpP ?_
  refine C.if (fun h1 => ?_) (fun h1 => ?_)
  · refine stpP ?_
    rw [if_pos (show ht < 1 ∨ 1073741824 < ht from .inr h1)]
    exact ⟨rfl, Fr.refl.push⟩
  rw [if_neg (show ¬ (ht < 1 ∨ 1073741824 < ht) by omega)]
  refine stpP ?_
  refine C.if (fun h2 => ?_) (fun h2 => ?_)
  · refine stpP ?_
    rw [if_pos (by omega)]
    exact ⟨rfl, Fr.refl.push⟩
  rw [if_neg (by omega)]
  refine stpP ?_
  refine O.call' rises_ok (fun r h3 hr => ?_)
  obtain ⟨rfl, rfl⟩ := hr
  refine stpP ?_
  refine loop1 zcbQ_l0_M 25 (fun m v25 h' => ∃ k : Nat, k ≤ l.length ∧ m = l.length - k ∧ v25 = .int .i64 k ∧ h'.get (h.n + 1) = .cells [.int .i64 (lastC l k)] 0 ∧ h.n + 1 < h'.n ∧ Fr (fun _ => False) h h' ∧ stepsC (-1) l = stepsC (lastC l k) (l.drop k)) ?_ l.length ⟨0, by omega, rfl, rfl, ?_, by simp, Fr.refl.push.push, rfl⟩
  · rintro m v25 h' x2 x5 x6 x26 x27 x28 x29 x30 x31 x32 x33 x34 x35 ⟨k, hk, rfl, rfl, hg, hn, hf, hst⟩
    refine stpP ?_
    refine C.if (fun hlt => ?_) (fun hge => ?_)
    · have hlt : k < l.length := by omega
      obtain ⟨b, o, sp, rfl, hb, hcc⟩ := hc (by omega)
      have hcc' : cellsAt h' b o (l.length * 2) = some (tcells l) := by rw [cellsAt_keep hf hb id]; exact hcc
      haveI := vote_cells hcc' rfl hlt
      refine stpP ?_
      refine O.call' (rises1_ok (v := l.getD k zVote) (last := lastC l k) (a := h.n + 1) (by rw [Heap.get_push, if_neg (by omega), hg]) (by simp; omega)) (fun r h2 hr => ?_)
      obtain ⟨rfl, hg2, hf2⟩ := hr
      have hn2 := hf2.n
      simp only [Heap.n_push] at hn2
      have hfh : Fr (fun _ => False) h h2 := Fr.trans (S := fun _ => False) hf (Fr.trans (S := fun i => i = h.n + 1) Fr.refl.push hf2 fun i _ hi => hi) fun i hi ho => by omega
      refine stpP ?_
      refine C.ifN (fun he => ?_) (fun he => ?_)
      · refine stpP ?_
        rw [hst, stepsC_at hlt, if_neg he]
        exact ⟨rfl, hfh⟩
      · refine stpP ?_
        refine loop1a 25 (l.length - (k + 1)) (by omega) ⟨k + 1, by omega, rfl, rfl, by rw [hg2 he]; rfl, by omega, hfh, ?_⟩
        rw [hst, stepsC_at hlt, if_pos he]
    · obtain rfl : k = l.length := by omega
      refine stpP ?_
      rw [hst, List.drop_length]
      exact ⟨rfl, hf⟩
  · rw [Heap.get_push, if_pos (by simp)]
    rfl
end Go.Proofs.YtbmpalbdbcjieaaGreat.A

namespace Go.Proofs.YtbmpalbdbcjieaaGreat.A
open Go.Proofs.YtbmpalbdbcjieaaGreat.K
open Go Go.Vm
set_option maxRecDepth 10000
set_option linter.unusedVariables false
structure Cm where
  height : Int
  hash : List UInt8
  votes : List Vote
abbrev Cm.cells (x : Cm) (sv : Value) : List Value := .int .i64 x.height :: (bcells x.hash ++ [sv])
end Go.Proofs.YtbmpalbdbcjieaaGreat.A

namespace Go.Proofs.YtbmpalbdbcjieaaGreat.A
open Go.Proofs.YtbmpalbdbcjieaaGreat.K
open Go Go.Vm
set_option maxRecDepth 10000
set_option linter.unusedVariables false
end Go.Proofs.YtbmpalbdbcjieaaGreat.A

namespace Go.Proofs.YtbmpalbdbcjieaaGreat.A
open Go.Proofs.YtbmpalbdbcjieaaGreat.K
open Go Go.Vm
set_option maxRecDepth 10000
set_option linter.unusedVariables false
structure Bk where
  h : Hd
  c : Cm
  vals : List Val
structure Bk.ok (x : Bk) : Prop where
  h : x.h.ok
  hash : x.c.hash.length = 32
  votes : x.c.votes.length ≤ 64
  vals : x.vals.length ≤ 64
abbrev Bk.cells (x : Bk) (sv sl : Value) : List Value := .string ⟨⟨x.h.chain⟩⟩ :: .int .i64 x.h.height :: .int .i64 x.h.time :: (bcells x.h.prev ++ (bcells x.h.vals ++ (bcells x.h.next ++ (bcells x.h.app ++ (.int .i64 x.c.height :: (bcells x.c.hash ++ [sv, sl]))))))
abbrev zBc : List Value := .string ⟨⟨[]⟩⟩ :: .int .i64 0 :: .int .i64 0 :: (z32 ++ (z32 ++ (z32 ++ (z32 ++ (.int .i64 0 :: (z32 ++ [.slice none 0 0, .slice none 0 0]))))))
end Go.Proofs.YtbmpalbdbcjieaaGreat.A

namespace Go.Proofs.YtbmpalbdbcjieaaGreat.A
open Go.Proofs.YtbmpalbdbcjieaaGreat.K
open Go Go.Vm
set_option maxRecDepth 10000
set_option linter.unusedVariables false
theorem appendLitV {P : Program} {T : Table} {ts : List Value} {ds : List Deferred} {h : Heap} {rd : Option Nat} {dst bytes el : Nat} {x y : Operand} {chk : List (Option Nat × AOp × Option (Nat × Bool))} {pan : Bool} {rest : List AOper} {Q : QP} {F : Value → List Value} {w : Value} {l : List Val}
    [e1 : Ev ts x (.slice (some ⟨h.n, 0, none⟩) 0 0)] [e2 : Ev ts y w] [s : LSetF ts dst F] (hv : Rd h 5 w (vcells l) l.length) (hs : l.length < 1048576) (hb : bytes < 1048576)
    (hk : ∀ v' h', Own h' 5 v' (vcells l) l.length → Fr (fun _ => False) h h' → (∀ i, ownedBy v' i → h.n ≤ i) → RunO P T rest ⟨F v', ds, h', rd⟩ Q) :
    RunO P T (⟨some dst, .append el 5 bytes [.int .u8 0, .int .u8 0, .int .u8 0, .int .u8 0, .int .i64 0] false x y, none, chk, pan⟩ :: rest) ⟨ts, ds, h.push (.cells [] 0), rd⟩ Q := by
  have f0 : Fr (fun _ => False) h (h.push (.cells [] 0)) := Fr.refl.push
  have hz : Own (h.push (.cells [] 0)) 5 (.slice (some ⟨h.n, 0, none⟩) 0 0) [] 0 := .lit (by simp) (by rw [Heap.get_push, if_pos rfl])
  refine O.append hz ((hv.keep f0 fun _ _ => id).new _) (vcells_len l) (vcells_one l) (by omega) (by omega) (by omega) (fun v' h' h1 h2 h3 => ?_)
  rw [Nat.zero_add, List.nil_append] at h1
  refine hk v' h' h1 (f0.trans (S := fun _ => False) h2 fun i hi ho => ?_) fun i hi => ?_
  · have : h.n = i := ho
    omega
  · rcases h3 i hi with h4 | h4
    · have : h.n = i := h4
      omega
    · simp at h4; omega
theorem CopyVals_ok {h : Heap} {v : Value} {l : List Val} (hr : Rd h 5 v (vcells l) l.length) (hs : l.length < 1048576) :
    Runs Tryz.prog T0 (.fn fn_zwbQ) [v] h
      (fun r h' => Own h' 5 r (vcells l) l.length ∧ Fr (fun _ => False) h h' ∧ ∀ i, ownedBy r i → h.n ≤ i) (fun _ _ => False) := by
  have hr0 := hr
  obtain ⟨a, cap, rfl, hlen, hc⟩ := hr
  refine zwbQ_runs ?_
  refine stp ?_
  refine appendLitV hr0 hs (by omega) (fun v' h' h1 h2 h3 => ?_)
  refine stp ?_
  exact ⟨h1, h2, h3⟩
end Go.Proofs.YtbmpalbdbcjieaaGreat.A

namespace Go.Proofs.YtbmpalbdbcjieaaGreat.A
open Go.Proofs.YtbmpalbdbcjieaaGreat.K
open Go Go.Vm
set_option maxRecDepth 10000
set_option linter.unusedVariables false
set_option maxHeartbeats 4000000 in
theorem RCCheck_ok {h : Heap} {ht : Int} {hs : List UInt8} {sv : Value} {l : List Vote} (hl : hs.length = 32) (hv : Rd h 2 sv (tcells l) l.length) :
    Runs Tryz.prog T0 (.fn fn_zhdQ) [.agg ⟨.int .i64 ht :: (bcells hs ++ [sv])⟩] h (fun r h' => r = .int .i64 (checkC ht l) ∧ Fr (fun _ => False) h h') (fun _ _ => False) := by
  obtain ⟨a, cap, rfl, hlen, hc⟩ := hv
  haveI := l32 hl
  refine zhdQ_runs ?_
  refine stpP ?_
  unfold checkC
  refine O.dec (fun h0 => ?_) (fun h0 => ?_)
  · refine stpP ?_
    rw [if_pos (show ht < 1 ∨ 1073741824 < ht from .inl h0)]
    exact ⟨rfl, Fr.refl.push⟩
  refine stpP ?_
  refine C.if (fun h1 => ?_) (fun h1 => ?_)
  · refine stpP ?_
    rw [if_pos (show ht < 1 ∨ 1073741824 < ht from .inr h1)]
    exact ⟨rfl, Fr.refl.push⟩
  rw [if_neg (show ¬ (ht < 1 ∨ 1073741824 < ht) by omega)]
  refine stpP ?_
  refine C.if (fun h2 => ?_) (fun h2 => ?_)
  · refine stpP ?_
    rw [if_pos (by omega)]
    exact ⟨rfl, Fr.refl.push⟩
  rw [if_neg (by omega)]
  refine stpP ?_
  generalize hh0 : h.push (.cells (.int .i64 ht :: (bcells hs ++ [.slice a l.length cap])) 0) = h0
  have hf : Fr (fun _ => False) h h0 := by rw [← hh0]; exact Fr.refl.push
  haveI hA : HGet h0 h.n (.cells (.int .i64 ht :: (bcells hs ++ [.slice a l.length cap])) 0) := by rw [← hh0]; exact HGet.new
  clear hh0
  refine loop1 zhdQ_l0_M 3 (fun m v3 h' => ∃ k : Nat, k ≤ l.length ∧ m = l.length - k ∧ v3 = .int .i64 k ∧ h' = h0 ∧ stepsC (-1) l = stepsC (lastC l k) (l.drop k)) ?_ l.length ⟨0, by omega, rfl, rfl, rfl, rfl⟩
  rintro m v3 h' x2 x18 x19 x20 x21 x22 x23 x24 x25 x26 x27 x28 x29 x30 x31 x32 x33 x34 x35 x36 x37 x38 x39 x40 x41 x42 x43 x44 x45 x46 x47 x48 x49 x50 x51 x52 x53 x54 x55 x56 x57 x58 x59 x60 ⟨k, hk, rfl, rfl, rfl, hst⟩
  refine stpP ?_
  refine C.if (fun hlt => ?_) (fun hge => ?_)
  · have hlt : k < l.length := by omega
    obtain ⟨b, o, sp, rfl, hb, hcc⟩ := hc (by omega)
    have hcc' : cellsAt h' b o (l.length * 2) = some (tcells l) := by rw [cellsAt_keep hf hb id]; exact hcc
    haveI := vote_at hcc' rfl hlt
    rw [stepsC_at hlt] at hst
    refine stpP ?_
    refine O.dec (fun h0 => ?_) (fun h0 => ?_)
    · refine stpP ?_
      have hv : voteS (lastC l k) (l.getD k zVote) = 3 := by unfold voteS; rw [if_pos (.inl h0)]
      rw [hst, hv, if_neg (by decide)]
      exact ⟨rfl, hf⟩
    refine stpP ?_
    refine C.if (fun h1 => ?_) (fun h1 => ?_)
    · refine stpP ?_
      have hv : voteS (lastC l k) (l.getD k zVote) = 3 := by unfold voteS; rw [if_pos (.inr h1)]
      rw [hst, hv, if_neg (by decide)]
      exact ⟨rfl, hf⟩
    refine stpP ?_
    refine D.dec (fun h2 => ?_) (fun h2 => ?_)
    · obtain ⟨j, rfl⟩ : ∃ j, k = j + 1 := ⟨k - 1, by omega⟩
      have hlast : lastC l (j + 1) = (l.getD j zVote).at' := rfl
      haveI := vote_at (k := j) hcc' rfl (by omega)
      refine stpP ?_
      refine D.howT (XOp.mkIndexSl (by omega)) rfl ?_
      refine stpP ?_
      rw [show ((j + 1 : Nat) : Int) - 1 = (j : Nat) from by omega]
      refine D.howT (XOp.mkIndexSl (by omega)) rfl ?_
      refine stpP ?_
      refine C.if (fun h3 => ?_) (fun h3 => ?_)
      · refine stpP ?_
        have hv : voteS (lastC l (j + 1)) (l.getD (j + 1) zVote) = 9 := by unfold voteS; rw [hlast, if_neg (by omega), if_pos h3]
        rw [hst, hv, if_neg (by decide)]
        exact ⟨rfl, hf⟩
      · refine stpP ?_
        have hv : voteS (lastC l (j + 1)) (l.getD (j + 1) zVote) = 0 := by unfold voteS; rw [hlast, if_neg (by omega), if_neg h3]
        rw [hv, if_pos rfl] at hst
        exact loop1a 3 (l.length - (j + 1 + 1)) (by omega) ⟨j + 1 + 1, by omega, rfl, rfl, rfl, hst⟩
    · obtain rfl : k = 0 := by omega
      refine stpP ?_
      have hlast : lastC l 0 = -1 := rfl
      have hv : voteS (lastC l 0) (l.getD 0 zVote) = 0 := by unfold voteS; rw [hlast, if_neg (by omega), if_neg (by omega)]
      rw [hv, if_pos rfl] at hst
      exact loop1a 3 (l.length - (0 + 1)) (by omega) ⟨0 + 1, by omega, rfl, rfl, rfl, hst⟩
  · obtain rfl : k = l.length := by omega
    refine stpP ?_
    rw [hst, List.drop_length]
    exact ⟨rfl, hf⟩
end Go.Proofs.YtbmpalbdbcjieaaGreat.A

namespace Go.Proofs.YtbmpalbdbcjieaaGreat.A
open Go.Proofs.YtbmpalbdbcjieaaGreat.K
open Go Go.Vm
set_option maxRecDepth 10000
set_option linter.unusedVariables false
theorem SameBytes_ok {h : Heap} {v w : Value} {a b : List UInt8} (hv : Rd h 1 v (bcells a) a.length) (hw : Rd h 1 w (bcells b) b.length) :
    Runs Tryz.prog T0 (.fn fn_zacQ) [v, w] h (fun r h' => r = .bool (decide (a = b)) ∧ h' = h) (fun _ _ => False) := by
  refine zacQ_runs ?_
  refine stp ?_
  refine O.how (XOp.mkStr hv) ?_
  refine stp ?_
  refine O.how (XOp.mkStr hw) ?_
  refine stp ?_
  refine ⟨?_, rfl⟩
  congr 1
  rw [ByteArray.toList_eq, ByteArray.toList_eq]
  show (a == b) = decide (a = b)
  by_cases e : a = b
  · subst e; simp
  · simp [e]
end Go.Proofs.YtbmpalbdbcjieaaGreat.A

namespace Go.Proofs.YtbmpalbdbcjieaaGreat.A
open Go.Proofs.YtbmpalbdbcjieaaGreat.K
open Go Go.Vm
set_option maxRecDepth 10000
set_option linter.unusedVariables false
def byteAt (n k : Nat) : UInt8 := UInt8.ofNat (n / 2 ^ (8 * k) % 256)
def word8 (n : Nat) : List UInt8 := [byteAt n 7, byteAt n 6, byteAt n 5, byteAt n 4, byteAt n 3, byteAt n 2, byteAt n 1, byteAt n 0]
theorem word8_len (n : Nat) : (word8 n).length = 8 := rfl
theorem shrU {P : Program} {ts : List Value} {h : Heap} {x y : Operand} {t t' ty : TypeId} {N s : Nat} {q : Int} {J : IntKind} (hq : q = s) (hs : s < 64) [e1 : Ev ts x (.int .u64 (N : Nat))] [e2 : Ev ts y (.int J q)] :
    XOp P ts h (.bin .shr (so (.binOp .shr t x y t') ty) x y) (.int .u64 ((N / 2 ^ s : Nat) : Int)) h := by
  have := XOp.shr (P := P) (ts := ts) (h := h) (x := x) (y := y) (t := t) (t' := t') (ty := ty) (K := .u64) (J := J) (p := (N : Int)) (q := q) (by omega)
  rw [show min q.toNat IntKind.u64.bits = s from by rw [hq, show IntKind.u64.bits = 64 from rfl]; omega, Int.fdiv_eq_ediv_of_nonneg _ (by exact_mod_cast Nat.zero_le _)] at this
  rw [show ((N / 2 ^ s : Nat) : Int) = (N : Int) / 2 ^ s from by rw [Int.natCast_ediv, Int.natCast_pow]; rfl]
  exact this
theorem byte_wrap (N : Nat) : IntKind.wrap .u8 ((N : Nat) : Int) = (((UInt8.ofNat (N % 256)).toNat : Nat) : Int) := by
  rw [wrap_u8, u8nat (Nat.mod_lt _ (by omega))]
  omega
def wk (n k : Nat) : List Value := bcells (List.replicate (8 - k) 0 ++ (word8 n).drop (8 - k))
set_option maxHeartbeats 4000000 in
theorem word_ok {h : Heap} {n : Nat} : Runs Tryz.prog T0 (.fn fn_zkeQ) [.int .u64 n] h (fun r h' => r = .agg ⟨bcells (word8 n)⟩ ∧ Fr (fun _ => False) h h') (fun _ _ => False) := by
  refine zkeQ_runs ?_
  refine stp ?_
  refine loop1 zkeQ_l0_M 5 (fun m v5 h' => ∃ k : Nat, k ≤ 8 ∧ m = 8 - k ∧ v5 = .int .i64 k ∧ h'.get (h.n + 1) = .cells (wk n k) 0 ∧ h'.get h.n = .cells [.int .u8 0, .int .u8 0, .int .u8 0, .int .u8 0, .int .u8 0, .int .u8 0, .int .u8 0, .int .u8 0] 0 ∧ h.n + 1 < h'.n ∧ Fr (fun _ => False) h h') ?_ 8 ⟨0, by omega, rfl, rfl, HGet.new.eq, by rw [Heap.get_push, if_neg (by simp), Heap.get_push, if_pos rfl], by simp, Fr.refl.push.push⟩
  rintro m v5 h' x4 x6 x7 x8 x9 x10 x11 x12 x13 x14 x15 x16 ⟨k, hk, rfl, rfl, hg, hg0, hn, hf⟩
  have hst : ∀ {k : Nat} {b : UInt8}, k < 8 → b = byteAt n k → over (wk n k) (7 - k) [.int .u8 (b.toNat : Nat)] = wk n (k + 1) := by
    intro k b hk hb
    subst hb
    rcases (show k = 0 ∨ k = 1 ∨ k = 2 ∨ k = 3 ∨ k = 4 ∨ k = 5 ∨ k = 6 ∨ k = 7 by omega) with rfl | rfl | rfl | rfl | rfl | rfl | rfl | rfl <;> rfl
  haveI : HGet h' (h.push (.cells [.int .u8 0, .int .u8 0, .int .u8 0, .int .u8 0, .int .u8 0, .int .u8 0, .int .u8 0, .int .u8 0] 0)).n _ := ⟨hg⟩
  haveI : BNe h.n (h.push (.cells [.int .u8 0, .int .u8 0, .int .u8 0, .int .u8 0, .int .u8 0, .int .u8 0, .int .u8 0, .int .u8 0] 0)).n := ⟨by simp⟩
  haveI : HGet h' h.n _ := ⟨hg0⟩
  refine stp ?_
  refine C.if (fun hlt => ?_) (fun hge => ?_)
  · refine stp ?_
    refine O.how (shrU (N := n) (s := 8 * k) (by rw [mul_in (by omega)]; omega) (by omega)) ?_
    refine stp ?_
    rw [byte_wrap]
    have h8 : (7 - (k : Int)).toNat = 7 - k := by omega
    simp only [h8, Nat.zero_add, Nat.mul_one]
    refine O.by0 (mkStoreN (P := Tryz.prog) (h := h') (xs := [.int .u8 (byteAt n k).toNat]) (c := wk n k) (r := h.n + 1) (o := 7 - k) (sp := none) (es := 0) (by simp [wk, bcells_len, word8_len]) rfl rfl (g := ⟨hg⟩)) rfl ?_
    rw [hst (by omega) rfl]
    refine stp ?_
    exact loop1a 5 (8 - (k + 1)) (by omega) ⟨k + 1, by omega, rfl, rfl, by rw [Heap.get_set, if_pos rfl], by rw [Heap.get_set, if_neg (by omega)]; exact hg0, by simpa using hn, hf.set fun e => absurd e (by omega)⟩
  · obtain rfl : k = 8 := by omega
    have e8 : wk n 8 = [.int .u8 (byteAt n 7).toNat, .int .u8 (byteAt n 6).toNat, .int .u8 (byteAt n 5).toNat, .int .u8 (byteAt n 4).toNat, .int .u8 (byteAt n 3).toNat, .int .u8 (byteAt n 2).toNat, .int .u8 (byteAt n 1).toNat, .int .u8 (byteAt n 0).toNat] := rfl
    rw [e8] at hg
    haveI : HGet h' (h.push (.cells [.int .u8 0, .int .u8 0, .int .u8 0, .int .u8 0, .int .u8 0, .int .u8 0, .int .u8 0, .int .u8 0] 0)).n _ := ⟨hg⟩
    refine stp ?_
    exact ⟨rfl, hf.set fun e => absurd e (by omega)⟩
theorem WWord_okV {h : Heap} {S : Nat → Prop} {p lim : Nat} {st : WSt} {n : Nat} (hw : PVs h S p lim st) (hS : ∀ i, h.n ≤ i → S i) (hs : st.bs.length + 8 < 1048576) :
    Runs Tryz.prog T0 (.fn fn_zheQ) [.pointer (some ⟨p, 0, none⟩), .int .u64 n] h (WritesV h S p lim (putS lim true (word8 n) st)) (fun _ _ => False) := by
  refine zheQ_runs ?_
  refine stp ?_
  refine O.call' (word_ok (n := n)) (fun r h1 hr => ?_)
  obtain ⟨rfl, hf⟩ := hr
  have hw1 := hw.none hf
  have n1 := hf.n
  rw [show bcells (word8 n) = [.int .u8 (byteAt n 7).toNat, .int .u8 (byteAt n 6).toNat, .int .u8 (byteAt n 5).toNat, .int .u8 (byteAt n 4).toNat, .int .u8 (byteAt n 3).toNat, .int .u8 (byteAt n 2).toNat, .int .u8 (byteAt n 1).toNat, .int .u8 (byteAt n 0).toNat] from rfl]
  refine stp ?_
  refine O.call' (put_okV (ls := [(.slice (some ⟨h1.n, 0, none⟩) 8 8, word8 n)]) (hw1.none Fr.refl.push.push) (fun i hi => hS i (by simp at hi; omega)) (rd_lit rfl) ?_ (by simp) (by simp [flat, word8_len]; omega)) (fun r h2 hr => ?_)
  · intro q hq
    simp at hq
    subst hq
    exact (rd_lit (h := h1) (c := bcells (word8 n)) (es := 0) (n := 8) rfl).keep (S := fun _ => False) Fr.refl.push fun _ _ => id
  · refine stp ?_
    rw [show flat [(Value.slice (some ⟨h1.n, 0, none⟩) 8 8, word8 n)] = word8 n from by simp [flat]] at hr
    exact ⟨hr.1, hr.2.1, Fr.trans (S := S) (hf.mono fun _ _ h => h.elim) (Fr.trans (S := S) Fr.refl.push.push hr.2.2 fun _ _ h => h) fun _ _ h => h⟩
theorem div_step (n k : Nat) : n / 2 ^ (8 * k) / 256 = n / 2 ^ (8 * (k + 1)) := by
  rw [Nat.div_div_eq_div_mul, show 8 * (k + 1) = 8 * k + 8 from by omega, Nat.pow_add]
theorem word8_end (n k : Nat) (hk : k < 8) : byteAt n k :: (word8 n).drop (8 - k) = (word8 n).drop (8 - (k + 1)) := by
  rcases (show k = 0 ∨ k = 1 ∨ k = 2 ∨ k = 3 ∨ k = 4 ∨ k = 5 ∨ k = 6 ∨ k = 7 by omega) with rfl | rfl | rfl | rfl | rfl | rfl | rfl | rfl <;> rfl
set_option maxHeartbeats 4000000 in
theorem RWord8_ok {h : Heap} {n : Nat} : Runs Tryz.prog T0 (.fn fn_zpcQ) [.int .u64 n] h (fun r h' => Rd h' 1 r (bcells (word8 n)) 8 ∧ Fr (fun _ => False) h h') (fun _ _ => False) := by
  refine zpcQ_runs ?_
  refine stp ?_
  refine loop3 zpcQ_l0_M 0 3 4 (fun m v0 v3 v4 h' => ∃ k : Nat, k ≤ 8 ∧ m = 8 - k ∧ v4 = .int .i64 k ∧ v0 = .int .u64 (n / 2 ^ (8 * k) : Nat) ∧ Rd h' 1 v3 (bcells ((word8 n).drop (8 - k))) k ∧ Fr (fun _ => False) h h') ?_ 8 ⟨0, by omega, rfl, rfl, by simp, Rd.nil, Fr.refl⟩
  rintro m v0 v3 v4 h' x5 x6 x7 x8 x9 x10 x11 x12 x13 x14 x15 ⟨k, hk, rfl, rfl, rfl, hr3, hf⟩
  refine stp ?_
  refine C.if (fun hlt => ?_) (fun hge => ?_)
  · refine stp ?_
    rw [byte_wrap]
    refine O.appendL (n := 1) (m := k) (c := [.int .u8 (byteAt n k).toNat]) (.lit (q := h'.n) (es := 0) (by simp) HGet.new.eq rfl) ((hr3.keep (S := fun _ => False) Fr.refl.push fun _ _ => id).new _) (by rw [bcells_len, List.length_drop, word8_len]; omega) (bcells_one _) (by omega) (by omega) (by omega) (fun v' h2 ho2 hf2 hn2 => ?_)
    refine stp ?_
    refine O.how XOp.shr8 ?_
    refine stp ?_
    rw [show (((n / 2 ^ (8 * k) : Nat) : Int) / 256) = ((n / 2 ^ (8 * (k + 1)) : Nat) : Int) from by rw [← div_step]; rfl]
    refine loop3a 0 3 4 (8 - (k + 1)) (by omega) ⟨k + 1, by omega, rfl, by rfl, rfl, ?_, hf.push.trans hf2 fun i hi e => by have : h'.n = i := e; have := hf.n; omega⟩
    rw [← word8_end n k (by omega), Nat.add_comm k 1]
    exact ho2.rd
  · obtain rfl : k = 8 := by omega
    obtain ⟨a, c, rfl, _⟩ := id hr3
    refine stp ?_
    exact ⟨hr3, hf⟩
theorem Word_okD {h : Heap} {lo p lim : Nat} {st : WSt} {n : Nat} (hw : DWs h lo p lim st) (hlim : lim < 1048576 ∨ st.bs.length + 8 < 1048576) :
    Runs Tryz.prog T0 (.fn fn_zxcQ) [.pointer (some ⟨p, 0, none⟩), .int .u64 n] h (DWrites h lo p lim (putS lim true (word8 n) st)) (fun _ _ => False) := by
  refine zxcQ_runs ?_
  refine stp ?_
  refine O.call' (RWord8_ok (n := n)) (fun r h1 hr => ?_)
  obtain ⟨hrd, f1⟩ := hr
  refine stp ?_
  refine O.call' (Put_okD (l := word8 n) (hw.none f1) hrd (by rw [word8_len]; exact hlim) (by simp [word8_len])) (fun r h2 hr => ?_)
  obtain ⟨rfl, hw2, hf2⟩ := hr
  refine stp ?_
  exact ⟨rfl, hw2, Fr.trans' (f1.mono fun _ _ h => h.elim) hf2⟩
end Go.Proofs.YtbmpalbdbcjieaaGreat.A

namespace Go.Proofs.YtbmpalbdbcjieaaGreat.A
open Go.Proofs.YtbmpalbdbcjieaaGreat.K
open Go Go.Vm
set_option maxRecDepth 10000
set_option linter.unusedVariables false
def voteF (v : Vote) : List UInt8 := numF v.at'.toNat ++ word8 v.sig
def bodyC (l : List Vote) : List UInt8 := l.flatMap voteF
def encC (ht : Int) (hs : List UInt8) (l : List Vote) : List UInt8 := numF ht.toNat ++ hs ++ numF l.length ++ bodyC l
theorem stepsC_range : ∀ {l : List Vote} {o : Int}, stepsC o l = 0 → ∀ v ∈ l, 0 ≤ v.at' ∧ v.at' < 64
  | [], _, _, _, h => by cases h
  | v :: l, o, h, w, hw => by
    rw [stepsC] at h
    by_cases hA : voteS o v = 0
    · rw [if_pos hA] at h
      have hv : 0 ≤ v.at' ∧ v.at' < 64 := by
        unfold voteS at hA
        split at hA
        · cases hA
        · omega
      rcases List.mem_cons.1 hw with rfl | hw
      · exact hv
      · exact stepsC_range h w hw
    · rw [if_neg hA] at h; exact absurd h hA
theorem checkC_ok {ht : Int} {l : List Vote} (h : checkC ht l = 0) : (1 ≤ ht ∧ ht ≤ 1073741824) ∧ l.length ≤ 64 ∧ stepsC (-1) l = 0 ∧ ∀ v ∈ l, 0 ≤ v.at' ∧ v.at' < 64 := by
  unfold checkC at h
  split at h
  · cases h
  · split at h
    · cases h
    · exact ⟨by omega, by omega, h, stepsC_range h⟩
theorem bodyC_len : ∀ {l : List Vote}, (∀ v ∈ l, 0 ≤ v.at' ∧ v.at' < 64) → (bodyC l).length ≤ l.length * 17
  | [], _ => by simp [bodyC]
  | v :: l, h => by
    have h1 := bodyC_len (l := l) fun w hw => h w (by simp [hw])
    have h2 := h v (by simp)
    have h3 := numF_len (n := v.at'.toNat) (by omega)
    simp only [bodyC, voteF, List.flatMap_cons, List.length_append, List.length_cons, word8_len] at h1 ⊢
    omega
theorem bodyC_take {l : List Vote} {k : Nat} (hk : k < l.length) : bodyC (l.take (k + 1)) = bodyC (l.take k) ++ (numF (l.getD k zVote).at'.toNat ++ word8 (l.getD k zVote).sig) := by
  have : l.take (k + 1) = l.take k ++ [l.getD k zVote] := by
    rw [List.take_succ_eq_append_getElem hk]
    simp [List.getD, hk]
  rw [this]
  simp [bodyC, voteF]
theorem getD_memC {l : List Vote} {k : Nat} (hk : k < l.length) : l.getD k zVote ∈ l := by
  simp [List.getD, hk]
theorem encC_len {ht : Int} {hs : List UInt8} {l : List Vote} (hh : hs.length = 32) (h : checkC ht l = 0) : (encC ht hs l).length ≤ 1138 := by
  obtain ⟨h1, h2, _, h3⟩ := checkC_ok h
  have h4 := bodyC_len h3
  have h5 := numF_len (n := l.length) (by omega)
  have h6 := numF_len (n := ht.toNat) (by omega)
  unfold encC
  simp only [List.length_append]
  omega
set_option maxHeartbeats 8000000 in
theorem CEncode_ok {h : Heap} {ht : Int} {hs : List UInt8} {sv : Value} {l : List Vote} (hl : hs.length = 32) (hv : Rd h 2 sv (tcells l) l.length) :
    Runs Tryz.prog T0 (.fn fn_zdbQ) [.agg ⟨.int .i64 ht :: (bcells hs ++ [sv])⟩] h
      (fun r h' => ∃ w, r = .tuple ⟨[w, .int .i64 (checkC ht l)]⟩ ∧ Own h' 1 w (bcells (if checkC ht l = 0 then encC ht hs l else [])) (if checkC ht l = 0 then encC ht hs l else []).length ∧ (∀ i, ownedBy w i → h.n ≤ i) ∧ Fr (fun _ => False) h h') (fun _ _ => False) := by
  have hv0 := hv
  obtain ⟨a, cap, rfl, hlen, hc⟩ := hv
  haveI := l32 hl
  refine zdbQ_runs ?_
  refine stp ?_
  refine O.call' (CCheck_ok hl (hv0.keep (S := fun _ => False) Fr.refl.push fun _ _ => id)) (fun r h1 hr => ?_)
  obtain ⟨rfl, hf1⟩ := hr
  have hn1 := hf1.n
  simp only [Heap.n_push] at hn1
  have g1 : HGet h1 h.n (.cells (.int .i64 ht :: (bcells hs ++ [.slice a l.length cap])) 0) := hf1.keep (b := h.n) HGet.new (by simp) id
  have f01 : Fr (fun _ => False) h h1 := Fr.trans (S := fun _ => False) Fr.refl.push hf1 fun _ _ => id
  haveI := g1
  refine stp ?_
  refine C.ifN (fun hc => ?_) (fun hz => ?_)
  · refine stp ?_
    rw [if_neg hc]
    exact ⟨_, rfl, .none, fun i h => h.elim, f01⟩
  obtain ⟨c1, c2, c3, c4⟩ := checkC_ok hz
  have hnl := numF_len (n := l.length) (by omega)
  have hnh := numF_len (n := ht.toNat) (by omega)
  refine stp ?_
  refine O.call' (NewWriter_ok (lim := 1048576) (by omega)) (fun r h2 hr => ?_)
  obtain ⟨rfl, hw2, hf2⟩ := hr
  have hn2 := hf2.n
  have g2 := hf2.keep g1 (by omega) id
  haveI := g2
  refine stp ?_
  refine O.call' (WNum_ok hw2 (by omega) (by simp only [List.length_nil]; omega)) (fun r h3 hr => ?_)
  obtain ⟨rfl, hw3, hf3⟩ := hr
  have hn3 := hf3.n
  rw [decide_eq_true (by omega), putS_fit (by simp only [List.length_nil]; omega), List.nil_append] at hw3
  have g3 := hf3.keep g2 (by omega) (by omega)
  haveI := g3
  refine stp ?_
  refine O.call' (WHash_ok hw3 hl (by show (numF ht.toNat).length + 32 < _; omega)) (fun r h4 hr => ?_)
  obtain ⟨rfl, hw4, hf4⟩ := hr
  have hn4 := hf4.n
  rw [putS_fit (by show (numF ht.toNat).length + _ ≤ _; omega)] at hw4
  have g4 := hf4.keep g3 (by omega) (by omega)
  haveI := g4
  refine stp ?_
  refine O.call' (WNum_ok hw4 (by omega) (by simp only [List.length_append]; omega)) (fun r h5 hr => ?_)
  obtain ⟨rfl, hw5, hf5⟩ := hr
  have hn5 := hf5.n
  rw [decide_eq_true (by omega), putS_fit (by simp only [List.length_append, Int.toNat_natCast]; omega), Int.toNat_natCast] at hw5
  have g5 := hf5.keep g4 (by omega) (by omega)
  haveI := g5
  have f15 : Fr (fun i => h1.n ≤ i) h1 h5 := (((hf2.mono fun _ _ h => h.elim).trans' hf3).trans' hf4).trans' hf5
  have f05 : Fr (fun i => h1.n ≤ i) h h5 := Fr.trans (S := fun i => h1.n ≤ i) (f01.mono fun _ _ h => h.elim) f15 fun _ _ h => h
  generalize hB : numF ht.toNat ++ hs ++ numF l.length = bb at *
  have hbb : bb.length ≤ 50 := by rw [← hB]; simp only [List.length_append]; omega
  refine stp ?_
  refine loop1 zdbQ_l0_M 34 (fun m v34 h' => ∃ k : Nat, k ≤ l.length ∧ m = l.length - k ∧ v34 = .int .i64 k ∧ PVs h' (fun i => h1.n ≤ i) h1.n 1048576 ⟨bb ++ bodyC (l.take k), 0⟩ ∧ Fr (fun i => h1.n ≤ i) h h') ?_ l.length ⟨0, by omega, rfl, rfl, by simpa [bodyC] using PVs.of hw5, f05⟩
  rintro m v34 h' x8 x35 x36 x37 x38 x39 x40 x41 x42 x43 x44 x45 x46 ⟨k, hk, rfl, rfl, hw, hf⟩
  refine stp ?_
  refine C.if (fun hlt => ?_) (fun hge => ?_)
  · have hlt : k < l.length := by omega
    obtain ⟨b, o, sp, rfl, hb, hcc⟩ := hc (by omega)
    have hcc' : cellsAt h' b o (l.length * 2) = some (tcells l) := by rw [cellsAt_keep hf hb (by omega)]; exact hcc
    haveI := vote_cells hcc' rfl hlt
    have hr := c4 _ (getD_memC hlt)
    have hbl := bodyC_len (l := l.take k) fun v hv => c4 v (List.mem_of_mem_take hv)
    rw [List.length_take] at hbl
    have hmin : min k l.length = k := by omega
    rw [hmin] at hbl
    have hpl := numF_len (n := (l.getD k zVote).at'.toNat) (by omega)
    refine stp ?_
    have hlt' := hw.lt
    have hS : ∀ i, (h'.push (.cells (l.getD k zVote).cells 0)).n ≤ i → h1.n ≤ i ∧ i ≠ h'.n := fun i hi => by simp at hi; omega
    have hw0 : PVs (h'.push (.cells (l.getD k zVote).cells 0)) (fun i => h1.n ≤ i ∧ i ≠ h'.n) h1.n 1048576 ⟨bb ++ bodyC (l.take k), 0⟩ := (hw.mono fun i hi hs => ⟨hs, by omega⟩).none Fr.refl.push
    refine O.call' (WNum_okV hw0 hS (by omega) (by simp only [List.length_append]; omega)) (fun r h6 hr => ?_)
    obtain ⟨rfl, hw6, hf6⟩ := hr
    rw [decide_eq_true (by omega), putS_fit (by simp only [List.length_append]; omega)] at hw6
    have hn6 := hf6.n
    have hq6 : HGet h6 h'.n (.cells (l.getD k zVote).cells 0) := hf6.keep HGet.new (by simp) (by simp)
    haveI := hq6
    simp only [Heap.n_push] at hn6
    refine stp ?_
    refine O.call' (WWord_okV (n := (l.getD k zVote).sig) hw6 (fun i hi => by omega) (by simp only [List.length_append]; omega)) (fun r h7 hr => ?_)
    obtain ⟨rfl, hw7, hf7⟩ := hr
    rw [putS_fit (by simp only [List.length_append, word8_len]; omega)] at hw7
    refine stp ?_
    refine loop1a 34 (l.length - (k + 1)) (by omega) ⟨k + 1, by omega, rfl, rfl, ?_, ?_⟩
    · rw [bodyC_take hlt, ← List.append_assoc, ← List.append_assoc]
      exact hw7.mono fun i _ hs => hs.1
    · exact Fr.trans (S := fun i => h1.n ≤ i) hf ((Fr.trans (S := fun i => h1.n ≤ i ∧ i ≠ h'.n) Fr.refl.push (hf6.trans' hf7) fun _ _ h => h).mono fun _ _ h => h.1) fun _ _ h => h
  · obtain rfl : k = l.length := by omega
    rw [List.take_length] at hw
    refine stp ?_
    refine O.call' (Done_ok hw.to) (fun r h6 hr => ?_)
    obtain ⟨w, rfl, ho, hnew, hf6⟩ := hr
    refine stp ?_
    rw [hz] at *
    rw [if_pos rfl]
    refine ⟨w, rfl, by rw [if_pos rfl] at ho; unfold encC; rw [hB]; exact ho, fun i hi => ?_, Fr.trans (S := fun _ => False) (S' := fun i => h1.n ≤ i) Fr.refl (hf.trans' (hf6.mono fun _ _ h => h.elim)) fun i hi h => by omega⟩
    have := hnew i hi
    have := hf.n
    omega
end Go.Proofs.YtbmpalbdbcjieaaGreat.A

namespace Go.Proofs.YtbmpalbdbcjieaaGreat.A
open Go.Proofs.YtbmpalbdbcjieaaGreat.K
open Go Go.Vm
set_option maxRecDepth 10000
set_option linter.unusedVariables false
set_option maxHeartbeats 8000000 in
theorem RCEncode_ok {h : Heap} {ht : Int} {hs : List UInt8} {sv : Value} {l : List Vote} (hl : hs.length = 32) (hv : Rd h 2 sv (tcells l) l.length) :
    Runs Tryz.prog T0 (.fn fn_zidQ) [.agg ⟨.int .i64 ht :: (bcells hs ++ [sv])⟩] h
      (fun r h' => ∃ w, r = .tuple ⟨[w, .int .i64 (checkC ht l)]⟩ ∧ Own h' 1 w (bcells (if checkC ht l = 0 then encC ht hs l else [])) (if checkC ht l = 0 then encC ht hs l else []).length ∧ (∀ i, ownedBy w i → h.n ≤ i) ∧ Fr (fun _ => False) h h') (fun _ _ => False) := by
  have hv0 := hv
  obtain ⟨a, cap, rfl, hlen, hc⟩ := hv
  haveI := l32 hl
  refine zidQ_runs ?_
  refine stp ?_
  refine O.call' (RCCheck_ok hl (hv0.keep (S := fun _ => False) Fr.refl.push fun _ _ => id)) (fun r h1 hr => ?_)
  obtain ⟨rfl, hf1⟩ := hr
  have hn1 := hf1.n
  simp only [Heap.n_push] at hn1
  have g1 : HGet h1 h.n (.cells (.int .i64 ht :: (bcells hs ++ [.slice a l.length cap])) 0) := hf1.keep (b := h.n) HGet.new (by simp) id
  have f01 : Fr (fun _ => False) h h1 := Fr.trans (S := fun _ => False) Fr.refl.push hf1 fun _ _ => id
  haveI := g1
  refine stp ?_
  refine C.ifN (fun hc => ?_) (fun hz => ?_)
  · refine stp ?_
    rw [if_neg hc]
    exact ⟨_, rfl, .none, fun i h => h.elim, f01⟩
  obtain ⟨c1, c2, c3, c4⟩ := checkC_ok hz
  have hnl := numF_len (n := l.length) (by omega)
  have hnh := numF_len (n := ht.toNat) (by omega)
  refine stp ?_
  refine O.call' (NewWriter_okD (lim := 65536) (by omega)) (fun r h2 hr => ?_)
  obtain ⟨rfl, hw2, hf2⟩ := hr
  have hn2 := hf2.n
  have g2 := hf2.keep g1 (by omega) id
  haveI := g2
  refine stp ?_
  refine O.call' (Num_okD hw2 (by omega) (.inl (by omega))) (fun r h3 hr => ?_)
  obtain ⟨rfl, hw3, hf3⟩ := hr
  have hn3 := hf3.n
  rw [decide_eq_true (by omega), putS_fit (by simp only [List.length_nil]; omega), List.nil_append] at hw3
  have g3 := hf3.keep g2 (by omega) (by omega)
  haveI := g3
  refine stp ?_
  refine O.call' (Hash_okD hw3 hl (.inl (by omega))) (fun r h4 hr => ?_)
  obtain ⟨rfl, hw4, hf4⟩ := hr
  have hn4 := hf4.n
  rw [putS_fit (by show (numF ht.toNat).length + _ ≤ _; omega)] at hw4
  have g4 := hf4.keep g3 (by omega) (by omega)
  haveI := g4
  refine stp ?_
  refine O.call' (Num_okD hw4 (by omega) (.inl (by omega))) (fun r h5 hr => ?_)
  obtain ⟨rfl, hw5, hf5⟩ := hr
  have hn5 := hf5.n
  rw [decide_eq_true (by omega), putS_fit (by simp only [List.length_append, Int.toNat_natCast]; omega), Int.toNat_natCast] at hw5
  have g5 := hf5.keep g4 (by omega) (by omega)
  haveI := g5
  have f15 : Fr (fun i => h1.n ≤ i) h1 h5 := Fr.trans (S := fun i => h1.n ≤ i) (hf2.mono fun _ _ h => h.elim) ((hf3.trans' hf4).trans' hf5) fun i _ e => by omega
  have f05 : Fr (fun i => h1.n ≤ i) h h5 := Fr.trans (S := fun i => h1.n ≤ i) (f01.mono fun _ _ h => h.elim) f15 fun _ _ h => h
  generalize hB : numF ht.toNat ++ hs ++ numF l.length = bb at *
  have hbb : bb.length ≤ 50 := by rw [← hB]; simp only [List.length_append]; omega
  refine stp ?_
  refine loop1 zidQ_l0_M 7 (fun m v7 h' => ∃ k : Nat, k ≤ l.length ∧ m = l.length - k ∧ v7 = .int .i64 k ∧ DWs h' h1.n h1.n 65536 ⟨bb ++ bodyC (l.take k), 0⟩ ∧ Fr (fun i => h1.n ≤ i) h1 h') ?_ l.length ⟨0, by omega, rfl, rfl, by simpa [bodyC] using hw5, f15⟩
  rintro m v7 h' x30 x31 x32 x33 x34 x35 x36 x37 x38 x39 x40 x41 x42 x43 x44 x45 x46 x47 x48 x49 x50 x51 x52 ⟨k, hk, rfl, rfl, hw, hf⟩
  have g' := hf.keep g1 (by omega) (by omega)
  haveI := g'
  refine stp ?_
  refine C.if (fun hlt => ?_) (fun hge => ?_)
  · have hlt : k < l.length := by omega
    obtain ⟨b, o, sp, rfl, hb, hcc⟩ := hc (by omega)
    have hcc1 : cellsAt h1 b o (l.length * 2) = some (tcells l) := by rw [cellsAt_keep f01 hb id]; exact hcc
    have hb1 : b < h1.n := by omega
    have hcc' : cellsAt h' b o (l.length * 2) = some (tcells l) := by rw [cellsAt_keep hf hb1 (by omega)]; exact hcc1
    haveI := vote_cells hcc' rfl hlt
    haveI := vote_at hcc' rfl hlt
    have hr := c4 _ (getD_memC hlt)
    have hbl := bodyC_len (l := l.take k) fun v hv => c4 v (List.mem_of_mem_take hv)
    rw [List.length_take] at hbl
    have hmin : min k l.length = k := by omega
    rw [hmin] at hbl
    have hpl := numF_len (n := (l.getD k zVote).at'.toNat) (by omega)
    refine stp ?_
    refine O.call' (Num_okD hw (by omega) (.inl (by omega))) (fun r h6 hr => ?_)
    obtain ⟨rfl, hw6, hf6⟩ := hr
    rw [decide_eq_true (by omega), putS_fit (by simp only [List.length_append]; omega)] at hw6
    have hn6 := hf6.n
    have f6 : Fr (fun i => h1.n ≤ i) h1 h6 := Fr.trans (S := fun i => h1.n ≤ i) hf hf6 fun i _ e => by omega
    have g6 := f6.keep g1 (by omega) (by omega)
    haveI := g6
    have hcc6 : cellsAt h6 b o (l.length * 2) = some (tcells l) := by rw [cellsAt_keep f6 hb1 (by omega)]; exact hcc1
    haveI := vote_cells hcc6 rfl hlt
    haveI : Cell h6 b (o + k * 2 + 1) (.int .u64 (l.getD k zVote).sig) := ⟨by
      have h5 := (vote_cells hcc6 rfl hlt).eq
      have := cellsAt_sub (k := 1) (m := 1) h5 (by omega)
      simpa using this⟩
    refine stp ?_
    refine O.call' (Word_okD (n := (l.getD k zVote).sig) hw6 (.inl (by omega))) (fun r h7 hr => ?_)
    obtain ⟨rfl, hw7, hf7⟩ := hr
    rw [putS_fit (by simp only [List.length_append, word8_len]; omega)] at hw7
    refine stp ?_
    refine loop1a 7 (l.length - (k + 1)) (by omega) ⟨k + 1, by omega, rfl, rfl, ?_, Fr.trans (S := fun i => h1.n ≤ i) f6 hf7 fun i _ e => by omega⟩
    rw [bodyC_take hlt, ← List.append_assoc, ← List.append_assoc]
    exact hw7
  · obtain rfl : k = l.length := by omega
    rw [List.take_length] at hw
    have hel := encC_len hl hz
    have hbc := bodyC_len c4
    refine stp ?_
    refine O.call' (Done_okD hw (by simp only [List.length_append]; omega)) (fun r h6 hr => ?_)
    obtain ⟨w, rfl, ho, hnew, hf6⟩ := hr
    refine stp ?_
    rw [hz] at *
    rw [if_pos rfl]
    refine ⟨w, rfl, by rw [if_pos rfl] at ho; unfold encC; rw [hB]; exact ho, fun i hi => ?_, Fr.trans (S := fun _ => False) (S' := fun i => h1.n ≤ i) f01 (hf.trans' (hf6.mono fun _ _ h => h.elim)) fun i hi h => by omega⟩
    have := hnew i hi
    have := hf.n
    omega
end Go.Proofs.YtbmpalbdbcjieaaGreat.A

namespace Go.Proofs.YtbmpalbdbcjieaaGreat.A
open Go.Proofs.YtbmpalbdbcjieaaGreat.K
open Go Go.Vm
set_option maxRecDepth 10000
set_option linter.unusedVariables false
def firstE : List Int → Int
  | [] => 0
  | e :: es => if e = 0 then firstE es else e
theorem firstE_drop {es : List Int} {k : Nat} (hk : k < es.length) : firstE (es.drop k) = if es.getD k 0 = 0 then firstE (es.drop (k + 1)) else es.getD k 0 := by
  have : es.drop k = es.getD k 0 :: es.drop (k + 1) := by
    rw [List.drop_eq_getElem_cons hk]
    simp [List.getD, hk]
  rw [this]
  rfl
def Holds (h0 : Heap) (f : Value) (e : Int) : Prop :=
  ∃ fid cap, f = .func (.func fid) ⟨[]⟩ ⟨cap⟩ ∧ ∀ h, Fr (fun i => h0.n ≤ i) h0 h → Runs Tryz.prog T0 (.fn fid) cap h (fun r h' => r = .int .i64 e ∧ Fr (fun _ => False) h h') (fun _ _ => False)
theorem Holds.keep {h0 h1 : Heap} {f : Value} {e : Int} (hh : Holds h0 f e) (hf : Fr (fun _ => False) h0 h1) : Holds h1 f e :=
  let ⟨fid, cap, h1', h2⟩ := hh
  ⟨fid, cap, h1', fun h hf2 => h2 h (Fr.trans (S := fun i => h0.n ≤ i) (hf.mono fun _ _ h => h.elim) hf2 fun i hi e => by have := hf.n; omega)⟩
theorem first_round {h : Heap} {lp pe : Nat} {e : Int} {f0 f1 f3 f4 f5 f6 f7 f8 : Value} (hlp : h.get lp = .loop .ready none [f0, f1, .pointer (some ⟨pe, 0, none⟩), f3, f4, f5, f6, f7, f8] [5] zrQ_ra0 zrQ_rb0)
    (hpe : h.get pe = .cells [.int .i64 0] 0) (hl : lp < h.n) (hp : pe < h.n) (hne : pe ≠ lp) :
    Runs Tryz.prog T0 (.yield lp) [.int .i64 e] h (fun r h2 => (e = 0 ∧ r = .bool true ∧ h2.get lp = .loop .ready none [f0, f1, .pointer (some ⟨pe, 0, none⟩), f3, f4, f5, f6, f7, f8] [5] zrQ_ra0 zrQ_rb0 ∧ Fr (fun i => i = lp) h h2) ∨
      (e ≠ 0 ∧ r = .bool false ∧ h2.get lp = .loop .done (some .ret) [f0, f1, .pointer (some ⟨pe, 0, none⟩), f3, f4, f5, f6, f7, f8] [5] zrQ_ra0 zrQ_rb0 ∧ h2.get pe = .cells [.int .i64 e] 0 ∧ Fr (fun i => i = lp ∨ i = pe) h h2)) (fun _ _ => False) := by
  haveI : HGet h lp _ := ⟨hlp⟩
  haveI : HGet h pe _ := ⟨hpe⟩
  haveI : BLt lp h := ⟨hl⟩
  haveI : BLt pe h := ⟨hp⟩
  haveI : BNe pe lp := ⟨hne⟩
  haveI : BNe lp pe := ⟨fun e => hne e.symm⟩
  refine Runs.round hlp put_one rfl zrQ_na0 zrQ_nb0 zrQ_ca0 zrQ_cb0 ?_
  refine stp ?_
  refine A.go ?_
  refine stp ?_
  refine C.ifN (fun he => ?_) (fun he => ?_)
  · refine stp ?_
    refine A.ret ?_
    refine .inr ⟨he, rfl, by rw [Heap.get_set, if_pos rfl], by rw [Heap.get_set, if_neg hne, Heap.get_set, if_pos rfl], ?_⟩
    exact ((Fr.refl.set fun _ => .inl rfl).set fun _ => .inr rfl).set fun _ => .inl rfl
  · refine stp ?_
    refine A.on ?_
    exact .inl ⟨he, rfl, by rw [Heap.get_set, if_pos rfl], ((Fr.refl (S := fun i => i = lp)).set fun _ => rfl).set fun _ => rfl⟩
noncomputable abbrev frec (pb pe : Nat) (st : LoopState) (pend : Option Code) : AObj := .loop st pend [.func (.func fn_zqQ) ⟨[]⟩ ⟨[.pointer (some ⟨pb, 0, none⟩)]⟩, undef, .pointer (some ⟨pe, 0, none⟩), undef, .func (.func fn_zqQ) ⟨[]⟩ ⟨[.pointer (some ⟨pb, 0, none⟩)]⟩, undef, undef, undef, undef] [5] zrQ_ra0 zrQ_rb0
set_option maxHeartbeats 4000000 in
theorem first_ok {h : Heap} {pb : Nat} {sv : Value} {fs : List Value} {es : List Int} (hg : h.get pb = .cells [sv] 0) (hpb : pb < h.n) (hr : Rd h 1 sv fs fs.length) (hs : fs.length < 1000) (hle : es.length = fs.length)
    (hh : ∀ i, i < fs.length → Holds h (fs.getD i undef) (es.getD i 0)) :
    Runs Tryz.prog T0 (.fn fn_zrQ) [.func (.func fn_zqQ) ⟨[]⟩ ⟨[.pointer (some ⟨pb, 0, none⟩)]⟩] h
      (fun r h' => r = .int .i64 (firstE es) ∧ Fr (fun _ => False) h h') (fun _ _ => False) := by
  obtain ⟨a, cap, rfl, hlen, hc⟩ := hr
  refine zrQ_runs ?_
  refine stp ?_
  have na : (h.push (.cells [.int .i64 0] 0)).n = h.n + 1 := rfl
  have gpb : (h.push (.cells [.int .i64 0] 0)).get pb = .cells [.slice a fs.length cap] 0 := by rw [Heap.get_push, if_neg (by omega)]; exact hg
  have gpe : (h.push (.cells [.int .i64 0] 0)).get h.n = .cells [.int .i64 0] 0 := HGet.new.eq
  have hfa : Fr (fun _ => False) h (h.push (.cells [.int .i64 0] 0)) := Fr.refl.push
  generalize h.push (.cells [.int .i64 0] 0) = ha at *
  refine range_ret (J := fun hx => firstE es = 0 ∧ Fr (fun i => i = ha.n + 1) (ha.push (.defs false)) hx) (K := fun hx => hx.get h.n = .cells [.int .i64 (firstE es)] 0 ∧ Fr (fun i => i = ha.n + 1 ∨ i = h.n) (ha.push (.defs false)) hx) ?_ (fun hx hJ => ?_) (fun hx hK => ?_)
  · refine zqQ_runs ?_
    have nL : ((ha.push (.defs false)).push (frec pb h.n .ready none)).n = ha.n + 2 := rfl
    haveI : HGet ((ha.push (.defs false)).push (frec pb h.n .ready none)) pb (.cells [.slice a fs.length cap] 0) := ⟨by rw [Heap.get_push, if_neg (by simp; omega), Heap.get_push, if_neg (by omega)]; exact gpb⟩
    refine stp ?_
    refine loop1 zqQ_l0_M 7 (fun m v7 h' => ∃ k : Nat, k ≤ fs.length ∧ m = fs.length - k ∧ v7 = .int .i64 k ∧ h'.get (ha.n + 1) = frec pb h.n .ready none ∧ firstE es = firstE (es.drop k) ∧ Fr (fun i => i = ha.n + 1) (ha.push (.defs false)) h' ∧ ha.n + 1 < h'.n) ?_ fs.length ⟨0, by omega, rfl, rfl, HGet.new.eq, rfl, Fr.refl.push, by rw [nL]; omega⟩
    rintro m v7 h' x4 x8 x9 x10 x11 x12 x13 x14 x15 x16 ⟨k, hk, rfl, rfl, hlp, hst, hf, hn⟩
    have f0 : Fr (fun i => ha.n ≤ i) h h' := Fr.trans (S := fun i => ha.n ≤ i) (hfa.push.mono fun _ _ h => h.elim) hf fun i hi e => by omega
    have f0' : Fr (fun i => h.n ≤ i) h h' := f0.mono fun i _ e => by omega
    refine stp ?_
    refine C.if (fun hlt => ?_) (fun hge => ?_)
    · have hlt : k < fs.length := by omega
      obtain ⟨b, o, sp, rfl, hb, hcc⟩ := hc (by omega)
      obtain ⟨fid, cap', hfe, hrun⟩ := hh k hlt
      have hcc' : cellsAt h' b o (fs.length * 1) = some fs := by rw [cellsAt_keep f0' hb (by omega)]; exact hcc
      haveI : Cell h' b (o + k) (.func (.func fid) ⟨[]⟩ ⟨cap'⟩) := ⟨by
        have := cellsAt_sub (k := k) (m := 1) hcc' (by omega)
        have e : fs.drop k = fs.getD k undef :: fs.drop (k + 1) := by
          rw [List.drop_eq_getElem_cons hlt]
          simp only [List.getD, List.getElem?_eq_getElem hlt, Option.getD_some]
        rw [this, ← hfe, e]
        rfl⟩
      refine stp ?_
      refine O.call' (hrun h' f0') (fun r h2 hr => ?_)
      obtain ⟨rfl, hf2⟩ := hr
      have n2 := hf2.n
      have gpe2 : h2.get h.n = .cells [.int .i64 0] 0 := by rw [hf2.get _ (by omega) id, hf.get _ (by simp; omega) (by omega), Heap.get_push, if_neg (by omega)]; exact gpe
      refine stp ?_
      refine O.yield (first_round (e := es.getD k 0) (by rw [hf2.get _ hn id]; exact hlp) gpe2 (by omega) (by omega) (by omega)) (fun r h3 hr => ?_)
      rw [firstE_drop (by omega)] at hst
      rcases hr with ⟨he, rfl, hlp3, hf3⟩ | ⟨he, rfl, hlp3, hpe3, hf3⟩
      · rw [if_pos he] at hst
        refine stp ?_
        exact loop1a 7 (fs.length - (k + 1)) (by omega) ⟨k + 1, by omega, rfl, rfl, hlp3, hst, (hf.trans (S := fun i => i = ha.n + 1) hf2 fun _ _ h => h.elim).trans' hf3, by have := hf3.n; omega⟩
      · rw [if_neg he] at hst
        refine stp ?_
        refine .inr ⟨hlp3, by rw [hst]; exact hpe3, ?_⟩
        exact ((hf.trans (S := fun i => i = ha.n + 1) hf2 fun _ _ h => h.elim).mono fun i _ e => .inl e).trans' hf3
    · obtain rfl : k = fs.length := by omega
      rw [List.drop_eq_nil_of_le (by omega)] at hst
      refine stp ?_
      exact .inl ⟨hlp, hst, hf⟩
  · obtain ⟨h0, hf⟩ := hJ
    have gpe2 : hx.get h.n = .cells [.int .i64 0] 0 := by rw [hf.get _ (by simp; omega) (by omega), Heap.get_push, if_neg (by omega)]; exact gpe
    have gdf : hx.get ha.n = .defs false := by rw [hf.get _ (by simp) (by omega)]; exact HGet.new.eq
    have hfx : Fr (fun _ => False) h hx := hfa.push.trans hf fun i hi e => by omega
    haveI : HGet hx h.n _ := ⟨gpe2⟩
    haveI : HGet hx ha.n _ := ⟨gdf⟩
    haveI : BNe h.n (ha.n + 1) := ⟨by omega⟩
    haveI : BNe ha.n (ha.n + 1) := ⟨by omega⟩
    haveI : BNe ha.n h.n := ⟨by omega⟩
    haveI : BNe h.n ha.n := ⟨by omega⟩
    refine stp ?_
    refine B.retC ?_
    rw [h0]
    exact ⟨rfl, (((hfx.set fun e => by omega).set fun e => by omega).set fun e => by omega).set fun e => by omega⟩
  · obtain ⟨gpe2, hf⟩ := hK
    have gdf : hx.get ha.n = .defs false := by rw [hf.get _ (by simp) (by omega)]; exact HGet.new.eq
    have hfx : Fr (fun _ => False) h hx := hfa.push.trans hf fun i hi e => by omega
    haveI : HGet hx h.n _ := ⟨gpe2⟩
    haveI : HGet hx ha.n _ := ⟨gdf⟩
    haveI : BNe h.n (ha.n + 1) := ⟨by omega⟩
    haveI : BNe ha.n (ha.n + 1) := ⟨by omega⟩
    haveI : BNe ha.n h.n := ⟨by omega⟩
    haveI : BNe h.n ha.n := ⟨by omega⟩
    refine stp ?_
    refine B.retC ?_
    exact ⟨rfl, ((hfx.set fun e => by omega).set fun e => by omega).set fun e => by omega⟩
end Go.Proofs.YtbmpalbdbcjieaaGreat.A

namespace Go.Proofs.YtbmpalbdbcjieaaGreat.A
open Go.Proofs.YtbmpalbdbcjieaaGreat.K
open Go Go.Vm
set_option maxRecDepth 10000
set_option linter.unusedVariables false
structure BkRd (h : Heap) (x : Bk) (sv sl : Value) : Prop where
  hd : x.h.ok
  hash : x.c.hash.length = 32
  sv : Rd h 2 sv (tcells x.c.votes) x.c.votes.length
  sl : Rd h 5 sl (vcells x.vals) x.vals.length
theorem BkRd.keep {S : Nat → Prop} {h h' : Heap} {x : Bk} {sv sl : Value} (hb : BkRd h x sv sl) (hf : Fr S h h') (hs : ∀ i, i < h.n → ¬ S i) : BkRd h' x sv sl :=
  ⟨hb.hd, hb.hash, hb.sv.keep hf fun i hi => hs i (Rd.block_lt hb.sv hi), hb.sl.keep hf fun i hi => hs i (Rd.block_lt hb.sl hi)⟩
theorem parts_ok {h : Heap} {x : Bk} {a1 a2 : Option Addr} {n1 c1 n2 c2 : Nat} (hx : x.h.ok) (hc : x.c.hash.length = 32) :
    Runs Tryz.prog T0 (.fn fn_zwQ) [.agg ⟨x.cells (.slice a1 n1 c1) (.slice a2 n2 c2)⟩] h
      (fun r h' => r = .slice (some ⟨h.n + 1, 0, none⟩) 3 3 ∧ h'.n = h.n + 2 ∧ h'.get h.n = .cells (x.cells (.slice a1 n1 c1) (.slice a2 n2 c2)) 0 ∧ h'.get (h.n + 1) = .cells [.func (.func fn_zxQ) ⟨[]⟩ ⟨[.pointer (some ⟨h.n, 0, none⟩)]⟩, .func (.func fn_zyQ) ⟨[]⟩ ⟨[.pointer (some ⟨h.n, 0, none⟩)]⟩, .func (.func fn_zzQ) ⟨[]⟩ ⟨[.pointer (some ⟨h.n, 0, none⟩)]⟩] 0 ∧ Fr (fun _ => False) h h') (fun _ _ => False) := by
  haveI := l32 hx.prev
  haveI := l32 hx.vals
  haveI := l32 hx.next
  haveI := l32 hx.app
  haveI := l32 hc
  refine zwQ_runs ?_
  refine stp ?_
  exact ⟨rfl, rfl, by rw [Heap.get_push, if_neg (by simp)]; exact HGet.new.eq, HGet.new.eq, Fr.refl.push.push⟩
theorem parts1_ok {h : Heap} {pb : Nat} {x : Bk} {sv sl : Value} (hg : h.get pb = .cells (x.cells sv sl) 0) (hx : x.h.ok) (hc : x.c.hash.length = 32) :
    Runs Tryz.prog T0 (.fn fn_zxQ) [.pointer (some ⟨pb, 0, none⟩)] h (fun r h' => r = .int .i64 (checkS x.h) ∧ Fr (fun _ => False) h h') (fun _ _ => False) := by
  haveI := l32 hx.prev
  haveI := l32 hx.vals
  haveI := l32 hx.next
  haveI := l32 hx.app
  haveI := l32 hc
  haveI : HGet h pb _ := ⟨hg⟩
  refine zxQ_runs ?_
  refine stp ?_
  refine O.call' (Check_ok hx) (fun r h1 hr => ?_)
  obtain ⟨rfl, hf1⟩ := hr
  refine stp ?_
  exact ⟨rfl, hf1⟩
theorem parts2_ok {h : Heap} {pb : Nat} {x : Bk} {sv sl : Value} (hg : h.get pb = .cells (x.cells sv sl) 0) (hx : x.h.ok) (hc : x.c.hash.length = 32) (hl : Rd h 5 sl (vcells x.vals) x.vals.length) :
    Runs Tryz.prog T0 (.fn fn_zyQ) [.pointer (some ⟨pb, 0, none⟩)] h (fun r h' => r = .int .i64 (checkV x.vals) ∧ Fr (fun _ => False) h h') (fun _ _ => False) := by
  haveI := l32 hx.prev
  haveI := l32 hx.vals
  haveI := l32 hx.next
  haveI := l32 hx.app
  haveI := l32 hc
  haveI : HGet h pb _ := ⟨hg⟩
  refine zyQ_runs ?_
  refine stp ?_
  refine O.call' (VCheck_ok hl) (fun r h1 hr => ?_)
  obtain ⟨rfl, hf1⟩ := hr
  refine stp ?_
  exact ⟨rfl, hf1⟩
theorem parts3_ok {h : Heap} {pb : Nat} {x : Bk} {sv sl : Value} (hg : h.get pb = .cells (x.cells sv sl) 0) (hx : x.h.ok) (hc : x.c.hash.length = 32) (hl : Rd h 2 sv (tcells x.c.votes) x.c.votes.length) :
    Runs Tryz.prog T0 (.fn fn_zzQ) [.pointer (some ⟨pb, 0, none⟩)] h (fun r h' => r = .int .i64 (checkC x.c.height x.c.votes) ∧ Fr (fun _ => False) h h') (fun _ _ => False) := by
  haveI := l32 hx.prev
  haveI := l32 hx.vals
  haveI := l32 hx.next
  haveI := l32 hx.app
  haveI := l32 hc
  haveI : HGet h pb _ := ⟨hg⟩
  refine zzQ_runs ?_
  refine stp ?_
  refine O.call' (CCheck_ok hc hl) (fun r h1 hr => ?_)
  obtain ⟨rfl, hf1⟩ := hr
  refine stp ?_
  exact ⟨rfl, hf1⟩
theorem errors_ok {h : Heap} {a : Option Addr} {n c : Nat} : Runs Tryz.prog T0 (.fn fn_zpQ) [.slice a n c] h
    (fun r h' => r = .func (.func fn_zqQ) ⟨[]⟩ ⟨[.pointer (some ⟨h.n, 0, none⟩)]⟩ ∧ h'.n = h.n + 1 ∧ h'.get h.n = .cells [.slice a n c] 0 ∧ Fr (fun _ => False) h h') (fun _ _ => False) := by
  refine zpQ_runs ?_
  refine stp ?_
  exact ⟨rfl, rfl, HGet.new.eq, Fr.refl.push⟩
def partsB (x : Bk) : Int := firstE [checkS x.h, checkV x.vals, checkC x.c.height x.c.votes]
theorem partsB_ok {x : Bk} (h : partsB x = 0) : checkS x.h = 0 ∧ checkV x.vals = 0 ∧ checkC x.c.height x.c.votes = 0 := by
  unfold partsB at h
  simp only [firstE] at h
  split at h
  · rename_i h1
    split at h
    · rename_i h2
      split at h
      · rename_i h3; exact ⟨h1, h2, h3⟩
      · exact absurd h ‹_›
    · exact absurd h ‹_›
  · exact absurd h ‹_›
def partF (l : List UInt8) : List UInt8 := numF l.length ++ l
def encB (x : Bk) : List UInt8 := partF (encS x.h) ++ partF (encC x.c.height x.c.hash x.c.votes) ++ partF (encV x.vals)
theorem encS_lenB {x : Hd} (hx : x.ok) (h : checkS x = 0) : (encS x).length ≤ 200 := by
  obtain ⟨c1, c2, c3⟩ := checkS_ok h
  obtain ⟨d1, d2, d3⟩ := nameS_len c1
  have l1 := numF_len (n := x.chain.length) (by omega)
  have l2 := numF_len (n := x.height.toNat) (by omega)
  have l3 := numF_len (n := x.time.toNat) (by omega)
  have l4 := hx.prev
  have l5 := hx.vals
  have l6 := hx.next
  have l7 := hx.app
  unfold encS
  simp only [List.length_append]
  omega
theorem partF_len {l : List UInt8} {n : Nat} (h : l.length ≤ n) (hn : n < 100000) : (partF l).length ≤ n + 9 := by
  have := numF_len (n := l.length) (by omega)
  unfold partF
  rw [List.length_append]
  omega
set_option maxHeartbeats 16000000 in
theorem BEncode_ok {h : Heap} {x : Bk} {sv sl : Value} (hb : BkRd h x sv sl) :
    Runs Tryz.prog T0 (.fn fn_zlQ) [.agg ⟨x.cells sv sl⟩] h
      (fun r h' => ∃ w, r = .tuple ⟨[w, .int .i64 (partsB x)]⟩ ∧ Own h' 1 w (bcells (if partsB x = 0 then encB x else [])) (if partsB x = 0 then encB x else []).length ∧ (∀ i, ownedBy w i → h.n ≤ i) ∧ Fr (fun _ => False) h h') (fun _ _ => False) := by
  have hx := hb.hd
  have hch := hb.hash
  haveI := l32 hx.prev
  haveI := l32 hx.vals
  haveI := l32 hx.next
  haveI := l32 hx.app
  haveI := l32 hch
  obtain ⟨a1, c1, rfl, _, _⟩ := id hb.sv
  obtain ⟨a2, c2, rfl, _, _⟩ := id hb.sl
  refine zlQ_runs ?_
  refine stp ?_
  have n0 : (h.push (.cells (x.cells (.slice a1 x.c.votes.length c1) (.slice a2 x.vals.length c2)) 0)).n = h.n + 1 := rfl
  have gB : HGet (h.push (.cells (x.cells (.slice a1 x.c.votes.length c1) (.slice a2 x.vals.length c2)) 0)) h.n (.cells (x.cells (.slice a1 x.c.votes.length c1) (.slice a2 x.vals.length c2)) 0) := HGet.new
  have hf0 : Fr (fun _ => False) h (h.push (.cells (x.cells (.slice a1 x.c.votes.length c1) (.slice a2 x.vals.length c2)) 0)) := Fr.refl.push
  generalize h.push (.cells (x.cells (.slice a1 x.c.votes.length c1) (.slice a2 x.vals.length c2)) 0) = h0 at *
  refine O.call' (parts_ok hx hch) (fun r h1 hr => ?_)
  obtain ⟨rfl, n1, gC, gF, hf1⟩ := hr
  refine stp ?_
  refine O.call' errors_ok (fun r h2 hr => ?_)
  obtain ⟨rfl, n2, gE, hf2⟩ := hr
  have hf02 := (hf0.trans' hf1).trans' hf2
  have gC2 : h2.get h0.n = .cells (x.cells (.slice a1 x.c.votes.length c1) (.slice a2 x.vals.length c2)) 0 := by rw [hf2.get _ (by omega) id]; exact gC
  have hk : ∀ {h9 : Heap}, Fr (fun i => h2.n ≤ i) h2 h9 → h9.get h0.n = .cells (x.cells (.slice a1 x.c.votes.length c1) (.slice a2 x.vals.length c2)) 0 ∧ BkRd h9 x (.slice a1 x.c.votes.length c1) (.slice a2 x.vals.length c2) := fun {h9} hf9 =>
    ⟨by rw [hf9.get _ (by omega) (by omega)]; exact gC2, (hb.keep hf02 fun _ _ => id).keep hf9 fun i hi e => by omega⟩
  have hcl : ∀ i, i < 3 → Holds h2 ([.func (.func fn_zxQ) ⟨[]⟩ ⟨[.pointer (some ⟨h0.n, 0, none⟩)]⟩, .func (.func fn_zyQ) ⟨[]⟩ ⟨[.pointer (some ⟨h0.n, 0, none⟩)]⟩, .func (.func fn_zzQ) ⟨[]⟩ ⟨[.pointer (some ⟨h0.n, 0, none⟩)]⟩].getD i undef) ([checkS x.h, checkV x.vals, checkC x.c.height x.c.votes].getD i 0) := fun i hi => by
    rcases (show i = 0 ∨ i = 1 ∨ i = 2 by omega) with rfl | rfl | rfl
    · exact ⟨_, _, rfl, fun h9 hf9 => parts1_ok (hk hf9).1 hx hch⟩
    · exact ⟨_, _, rfl, fun h9 hf9 => parts2_ok (hk hf9).1 hx hch (hk hf9).2.sl⟩
    · exact ⟨_, _, rfl, fun h9 hf9 => parts3_ok (hk hf9).1 hx hch (hk hf9).2.sv⟩
  refine stp ?_
  refine O.call' (first_ok (fs := [.func (.func fn_zxQ) ⟨[]⟩ ⟨[.pointer (some ⟨h0.n, 0, none⟩)]⟩, .func (.func fn_zyQ) ⟨[]⟩ ⟨[.pointer (some ⟨h0.n, 0, none⟩)]⟩, .func (.func fn_zzQ) ⟨[]⟩ ⟨[.pointer (some ⟨h0.n, 0, none⟩)]⟩]) (es := [checkS x.h, checkV x.vals, checkC x.c.height x.c.votes]) gE (by omega) (Rd.mk (by omega) (by rw [cellsAt_of (by rw [hf2.get _ (by omega) id, gF]; rfl) (by simp)]; rfl)) (by simp) rfl hcl) (fun r h3 hr => ?_)
  obtain ⟨rfl, hf3⟩ := hr
  have hf03 := hf02.trans' hf3
  have gB3 := (hf1.trans' hf2).trans' hf3 |>.keep gB (by omega) id
  haveI := gB3
  rw [show firstE [checkS x.h, checkV x.vals, checkC x.c.height x.c.votes] = partsB x from rfl]
  refine stp ?_
  refine C.ifN (fun hc => ?_) (fun hz => ?_)
  · refine stp ?_
    rw [if_neg hc]
    exact ⟨_, rfl, .none, fun i h => h.elim, hf03⟩
  obtain ⟨z1, z2, z3⟩ := partsB_ok hz
  have lH := encS_lenB hx z1
  have lC := encC_len hch z3
  have lV := encV_len z2
  have pH := partF_len lH (by omega)
  have pC := partF_len lC (by omega)
  have pV := partF_len lV (by omega)
  refine stp ?_
  refine O.call' (NewWriter_ok (lim := 65536) (by omega)) (fun r h4 hr => ?_)
  obtain ⟨rfl, hw4, hf4⟩ := hr
  have n3 := hf3.n
  have n4 := hf4.n
  have gB4 := hf4.keep gB3 (by omega) id
  haveI := gB4
  have hb4 := hb.keep (hf03.trans' hf4) fun _ _ => id
  refine stp ?_
  refine O.call' (Encode_ok hx) (fun r h5 hr => ?_)
  obtain ⟨w1, rfl, ho1, hn1, hf5⟩ := hr
  rw [if_pos z1] at ho1
  have n5 := hf5.n
  have gB5 := hf5.keep gB4 (by omega) id
  haveI := gB5
  have hb5 := hb4.keep hf5 fun _ _ => id
  refine stp ?_
  refine O.call' (CEncode_ok hch hb5.sv) (fun r h6 hr => ?_)
  obtain ⟨w2, rfl, ho2, hn2, hf6⟩ := hr
  rw [if_pos z3] at ho2
  have n6 := hf6.n
  have gB6 := hf6.keep gB5 (by omega) id
  haveI := gB6
  have hb6 := hb5.keep hf6 fun _ _ => id
  refine stp ?_
  refine O.call' (VEncode_ok hb6.sl) (fun r h7 hr => ?_)
  obtain ⟨w3, rfl, ho3, hn3, hf7⟩ := hr
  rw [if_pos z2] at ho3
  have n7 := hf7.n
  obtain ⟨b1, d1, rfl, _, _⟩ := id ho1.rd
  obtain ⟨b2, d2, rfl, _, _⟩ := id ho2.rd
  obtain ⟨b3, d3, rfl, _, _⟩ := id ho3.rd
  have o1 := (ho1.keep hf6 fun _ _ => id).keep hf7 fun _ _ => id
  have o2 := ho2.keep hf7 fun _ _ => id
  have o3 := ho3
  have e1 : ∀ i, ownedBy (.slice b1 (encS x.h).length d1) i → ¬ ((h3.n ≤ i ∧ i < h4.n) ∨ h7.n ≤ i) := fun i hi => by have := hn1 i hi; have := o1.lt hi; omega
  have e2 : ∀ i, ownedBy (.slice b2 (encC x.c.height x.c.hash x.c.votes).length d2) i → ¬ ((h3.n ≤ i ∧ i < h4.n) ∨ h7.n ≤ i) := fun i hi => by have := hn2 i hi; have := o2.lt hi; omega
  have e3 : ∀ i, ownedBy (.slice b3 (encV x.vals).length d3) i → ¬ ((h3.n ≤ i ∧ i < h4.n) ∨ h7.n ≤ i) := fun i hi => by have := hn3 i hi; have := o3.lt hi; omega
  have hw7 : PVs h7 (fun i => (h3.n ≤ i ∧ i < h4.n) ∨ h7.n ≤ i) h3.n 65536 ⟨[], 0⟩ := ((((PVs.of hw4).mono (S' := fun i => (h3.n ≤ i ∧ i < h4.n) ∨ h7.n ≤ i) fun i hi hs => .inl ⟨hs, hi⟩).none hf5).none hf6).none hf7
  have f07 : Fr (fun _ => False) h h7 := (((hf03.trans' hf4).trans' hf5).trans' hf6).trans' hf7
  refine stp ?_
  refine loop1 zlQ_l0_M 48 (fun m v48 h' => ∃ (k : Nat) (bs : List UInt8), k ≤ 3 ∧ m = 3 - k ∧ v48 = .int .i64 k ∧ bs = ([partF (encS x.h), partF (encC x.c.height x.c.hash x.c.votes), partF (encV x.vals)].take k).flatten ∧ PVs h' (fun i => (h3.n ≤ i ∧ i < h4.n) ∨ h7.n ≤ i) h3.n 65536 ⟨bs, 0⟩ ∧ Fr (fun i => (h3.n ≤ i ∧ i < h4.n) ∨ h7.n ≤ i) h7 h') ?_ 3 ⟨0, [], by omega, rfl, rfl, rfl, hw7, Fr.refl⟩
  · rintro m v48 h' x14 x49 x50 x51 x52 x53 x54 ⟨k, bs, hk, rfl, rfl, hbs, hw, hf⟩
    have V1 := o1.keep hf e1
    have V2 := o2.keep hf e2
    have V3 := o3.keep hf e3
    have hS : ∀ i, h'.n ≤ i → (h3.n ≤ i ∧ i < h4.n) ∨ h7.n ≤ i := fun i hi => .inr (by have := hf.n; omega)
    rcases (show k = 0 ∨ k = 1 ∨ k = 2 ∨ k = 3 by omega) with rfl | rfl | rfl | rfl
    · have hbl : bs.length ≤ 2500 := by rw [hbs]; first | (simp; done) | (simp; omega)
      refine stp ?_
      refine O.how (XOp.mkIndex1 (m := 0) 0 rfl (by omega) rfl) ?_
      refine stp ?_
      refine O.call' (WBytes_okV hw hS V1.rd (by show bs.length + _ + 9 < _; omega)) (fun r h9 hr => ?_)
      obtain ⟨rfl, hw9, hf9⟩ := hr
      rw [putS_fit (by show bs.length + (partF (encS x.h)).length ≤ _; omega)] at hw9
      refine stp ?_
      exact loop1a 48 2 (by omega) ⟨1, bs ++ partF (encS x.h), by omega, rfl, rfl, by rw [hbs]; simp, hw9, hf.trans' hf9⟩
    · have hbl : bs.length ≤ 2500 := by rw [hbs]; first | (simp; done) | (simp; omega)
      refine stp ?_
      refine O.how (XOp.mkIndex1 (m := 1) 1 rfl (by omega) rfl) ?_
      refine stp ?_
      refine O.call' (WBytes_okV hw hS V2.rd (by show bs.length + _ + 9 < _; omega)) (fun r h9 hr => ?_)
      obtain ⟨rfl, hw9, hf9⟩ := hr
      rw [putS_fit (by show bs.length + (partF (encC x.c.height x.c.hash x.c.votes)).length ≤ _; omega)] at hw9
      refine stp ?_
      exact loop1a 48 1 (by omega) ⟨2, bs ++ partF (encC x.c.height x.c.hash x.c.votes), by omega, rfl, rfl, by rw [hbs]; simp, hw9, hf.trans' hf9⟩
    · have hbl : bs.length ≤ 2500 := by rw [hbs]; first | (simp; done) | (simp; omega)
      refine stp ?_
      refine O.how (XOp.mkIndex1 (m := 2) 2 rfl (by omega) rfl) ?_
      refine stp ?_
      refine O.call' (WBytes_okV hw hS V3.rd (by show bs.length + _ + 9 < _; omega)) (fun r h9 hr => ?_)
      obtain ⟨rfl, hw9, hf9⟩ := hr
      rw [putS_fit (by show bs.length + (partF (encV x.vals)).length ≤ _; omega)] at hw9
      refine stp ?_
      exact loop1a 48 0 (by omega) ⟨3, bs ++ partF (encV x.vals), by omega, rfl, rfl, by rw [hbs]; simp, hw9, hf.trans' hf9⟩
    · refine stp ?_
      refine O.call' (Done_ok (hw.mono fun i hi hs => (show h3.n ≤ i by omega)).to) (fun r h9 hr => ?_)
      obtain ⟨w, rfl, ho, hnew, hf9⟩ := hr
      refine stp ?_
      rw [hz] at *
      rw [if_pos rfl]
      rw [if_pos rfl] at ho
      have eB : encB x = bs := by rw [hbs]; simp [encB]
      refine ⟨w, rfl, by rw [eB]; exact ho, fun i hi => ?_, Fr.trans (S := fun _ => False) f07 (hf.trans' (hf9.mono fun _ _ h => h.elim)) fun i hi h => by have := hf03.n; omega⟩
      have := hnew i hi
      have := hf.n
      have := f07.n
      omega
end Go.Proofs.YtbmpalbdbcjieaaGreat.A

namespace Go.Proofs.YtbmpalbdbcjieaaGreat.A
open Go.Proofs.YtbmpalbdbcjieaaGreat.K
open Go Go.Vm
set_option maxRecDepth 10000
set_option linter.unusedVariables false
theorem WBytes_okD {h : Heap} {lo p lim : Nat} {st : WSt} {v : Value} {l : List UInt8} (hw : DWs h lo p lim st) (hv : Rd h 1 v (bcells l) l.length) (hs : l.length + 9 < 1000000) (hlim : lim < 1048576) :
    Runs Tryz.prog T0 (.fn fn_zqcQ) [.pointer (some ⟨p, 0, none⟩), v] h (DWrites h lo p lim (putS lim true (partF l) st)) (fun _ _ => False) := by
  have hfl := numF_len (n := l.length) (by omega)
  refine zqcQ_runs ?_
  refine stp ?_
  refine O.call' (Counted_okD (l := l) hv (by omega)) (fun r h1 hr => ?_)
  obtain ⟨hrd, hf⟩ := hr
  refine stp ?_
  refine O.call' (Put_okD (l := partF l) (hw.none hf) hrd (.inl hlim) (by unfold partF; rw [List.length_append]; omega)) (fun r h2 hr => ?_)
  obtain ⟨rfl, hw2, hf2⟩ := hr
  refine stp ?_
  exact ⟨rfl, hw2, Fr.trans' (hf.mono fun _ _ h => h.elim) hf2⟩
set_option maxHeartbeats 4000000 in
theorem RParts_ok {h : Heap} {x : Bk} {sv sl : Value} (hb : BkRd h x sv sl) (hs : x.h.chain.length < 1048576) :
    Runs Tryz.prog T0 (.fn fn_zmdQ) [.agg ⟨x.cells sv sl⟩] h (fun r h' => r = .int .i64 (partsB x) ∧ Fr (fun _ => False) h h') (fun _ _ => False) := by
  have hx := hb.hd
  have hch := hb.hash
  haveI := l32 hx.prev
  haveI := l32 hx.vals
  haveI := l32 hx.next
  haveI := l32 hx.app
  haveI := l32 hch
  obtain ⟨a1, c1, rfl, _, _⟩ := id hb.sv
  obtain ⟨a2, c2, rfl, _, _⟩ := id hb.sl
  refine zmdQ_runs ?_
  refine stp ?_
  have gB : HGet (h.push (.cells (x.cells (.slice a1 x.c.votes.length c1) (.slice a2 x.vals.length c2)) 0)) h.n (.cells (x.cells (.slice a1 x.c.votes.length c1) (.slice a2 x.vals.length c2)) 0) := HGet.new
  have hf0 : Fr (fun _ => False) h (h.push (.cells (x.cells (.slice a1 x.c.votes.length c1) (.slice a2 x.vals.length c2)) 0)) := Fr.refl.push
  have n0 : (h.push (.cells (x.cells (.slice a1 x.c.votes.length c1) (.slice a2 x.vals.length c2)) 0)).n = h.n + 1 := rfl
  generalize h.push (.cells (x.cells (.slice a1 x.c.votes.length c1) (.slice a2 x.vals.length c2)) 0) = h0 at *
  refine O.call' (RCheck_ok hx hs) (fun r h1 hr => ?_)
  obtain ⟨rfl, hf1⟩ := hr
  have gB1 := hf1.keep gB (by omega) id
  have F1 := hf0.trans' hf1
  have n1 := hf1.n
  haveI := gB1
  refine stp ?_
  unfold partsB
  simp only [firstE]
  refine C.if (fun z1 => ?_) (fun z1 => ?_)
  · rw [if_pos z1]
    refine stp ?_
    refine O.call' (RVCheck_ok (hb.keep F1 fun _ _ => id).sl) (fun r h2 hr => ?_)
    obtain ⟨rfl, hf2⟩ := hr
    have gB2 := hf2.keep gB1 (by omega) id
    have F2 := F1.trans' hf2
    haveI := gB2
    refine stp ?_
    refine C.if (fun z2 => ?_) (fun z2 => ?_)
    · rw [if_pos z2]
      refine stp ?_
      refine O.call' (RCCheck_ok hch (hb.keep F2 fun _ _ => id).sv) (fun r h3 hr => ?_)
      obtain ⟨rfl, hf3⟩ := hr
      refine stp ?_
      refine ⟨?_, F2.trans' hf3⟩
      split
      · rename_i z3; rw [z3]
      · rfl
    · rw [if_neg z2]
      refine stp ?_
      exact ⟨rfl, F2⟩
  · rw [if_neg z1]
    refine stp ?_
    rw [decide_eq_false z1]
    refine stp ?_
    exact ⟨rfl, F1⟩
set_option maxHeartbeats 16000000 in
theorem RBEncode_ok {h : Heap} {x : Bk} {sv sl : Value} (hb : BkRd h x sv sl) (hs : x.h.chain.length < 1048576) (hsl : x.vals.length < 1048576) :
    Runs Tryz.prog T0 (.fn fn_zjdQ) [.agg ⟨x.cells sv sl⟩] h
      (fun r h' => ∃ w, r = .tuple ⟨[w, .int .i64 (partsB x)]⟩ ∧ Own h' 1 w (bcells (if partsB x = 0 then encB x else [])) (if partsB x = 0 then encB x else []).length ∧ (∀ i, ownedBy w i → h.n ≤ i) ∧ Fr (fun _ => False) h h') (fun _ _ => False) := by
  have hx := hb.hd
  have hch := hb.hash
  haveI := l32 hx.prev
  haveI := l32 hx.vals
  haveI := l32 hx.next
  haveI := l32 hx.app
  haveI := l32 hch
  obtain ⟨a1, c1, rfl, _, _⟩ := id hb.sv
  obtain ⟨a2, c2, rfl, _, _⟩ := id hb.sl
  refine zjdQ_runs ?_
  refine stp ?_
  have n0 : (h.push (.cells (x.cells (.slice a1 x.c.votes.length c1) (.slice a2 x.vals.length c2)) 0)).n = h.n + 1 := rfl
  have gB : HGet (h.push (.cells (x.cells (.slice a1 x.c.votes.length c1) (.slice a2 x.vals.length c2)) 0)) h.n (.cells (x.cells (.slice a1 x.c.votes.length c1) (.slice a2 x.vals.length c2)) 0) := HGet.new
  have hf0 : Fr (fun _ => False) h (h.push (.cells (x.cells (.slice a1 x.c.votes.length c1) (.slice a2 x.vals.length c2)) 0)) := Fr.refl.push
  generalize h.push (.cells (x.cells (.slice a1 x.c.votes.length c1) (.slice a2 x.vals.length c2)) 0) = h0 at *
  refine O.call' (RParts_ok (hb.keep hf0 fun _ _ => id) hs) (fun r h1 hr => ?_)
  obtain ⟨rfl, hf1⟩ := hr
  have gB1 := hf1.keep gB (by omega) id
  have F1 := hf0.trans' hf1
  have n1 := hf1.n
  haveI := gB1
  refine stp ?_
  refine C.ifN (fun hc => ?_) (fun hz => ?_)
  · refine stp ?_
    rw [if_neg hc]
    exact ⟨_, rfl, .none, fun i h => h.elim, F1⟩
  obtain ⟨z1, z2, z3⟩ := partsB_ok hz
  have lH := encS_lenB hx z1
  have lC := encC_len hch z3
  have lV := encV_len z2
  have pH := partF_len lH (by omega)
  have pC := partF_len lC (by omega)
  have pV := partF_len lV (by omega)
  refine stp ?_
  refine O.call' (REncode_ok hx hs) (fun r h2 hr => ?_)
  obtain ⟨w1, rfl, ho1, hn1, hf2⟩ := hr
  rw [if_pos z1] at ho1
  have n2 := hf2.n
  have gB2 := hf2.keep gB1 (by omega) id
  have F2 := F1.trans' hf2
  haveI := gB2
  refine stp ?_
  refine O.call' (RCEncode_ok hch (hb.keep F2 fun _ _ => id).sv) (fun r h3 hr => ?_)
  obtain ⟨w2, rfl, ho2, hn2, hf3⟩ := hr
  rw [if_pos z3] at ho2
  have n3 := hf3.n
  have gB3 := hf3.keep gB2 (by omega) id
  have F3 := F2.trans' hf3
  haveI := gB3
  refine stp ?_
  refine O.call' (RVEncode_ok (hb.keep F3 fun _ _ => id).sl hsl) (fun r h4 hr => ?_)
  obtain ⟨w3, rfl, ho3, hn3, hf4⟩ := hr
  rw [if_pos z2] at ho3
  have n4 := hf4.n
  have F4 := F3.trans' hf4
  have o1 := ((ho1.keep hf3 fun _ _ => id).keep hf4 fun _ _ => id)
  have o2 := ho2.keep hf4 fun _ _ => id
  refine stp ?_
  refine O.call' (NewWriter_okD (lim := 65536) (by omega)) (fun r h5 hr => ?_)
  obtain ⟨rfl, hw5, hf5⟩ := hr
  have n5 := hf5.n
  refine stp ?_
  refine O.call' (WBytes_okD hw5 (o1.keep hf5 fun _ _ => id).rd (by omega) (by omega)) (fun r h6 hr => ?_)
  obtain ⟨rfl, hw6, hf6⟩ := hr
  rw [putS_fit (by simp only [List.length_nil]; omega), List.nil_append] at hw6
  refine stp ?_
  refine O.call' (WBytes_okD hw6 ((o2.keep hf5 fun _ _ => id).keep hf6 fun b hb e => by have := o2.lt hb; omega).rd (by omega) (by omega)) (fun r h7 hr => ?_)
  obtain ⟨rfl, hw7, hf7⟩ := hr
  rw [putS_fit (by show (partF (encS x.h)).length + _ ≤ _; omega)] at hw7
  refine stp ?_
  refine O.call' (WBytes_okD hw7 (((ho3.keep hf5 fun _ _ => id).keep hf6 fun b hb e => by have := ho3.lt hb; omega).keep hf7 fun b hb e => by have := ho3.lt hb; omega).rd (by omega) (by omega)) (fun r h8 hr => ?_)
  obtain ⟨rfl, hw8, hf8⟩ := hr
  rw [putS_fit (by simp only [List.length_append]; omega)] at hw8
  refine stp ?_
  refine O.call' (Done_okD hw8 (by simp only [List.length_append]; omega)) (fun r h9 hr => ?_)
  obtain ⟨w, rfl, ho, hnew, hf9⟩ := hr
  refine stp ?_
  have F8 : Fr (fun _ => False) h h8 := (F4.trans' hf5).trans ((hf6.trans' hf7).trans' hf8) fun i hi e => by have := F4.n; omega
  rw [hz] at *
  rw [if_pos rfl]
  rw [if_pos rfl] at ho
  exact ⟨w, rfl, ho, fun i hi => by have := hnew i hi; have := F8.n; omega, F8.trans' hf9⟩
end Go.Proofs.YtbmpalbdbcjieaaGreat.A

namespace Go.Proofs.YtbmpalbdbcjieaaGreat.A
open Go.Proofs.YtbmpalbdbcjieaaGreat.K
open Go Go.Vm
set_option maxRecDepth 10000
set_option linter.unusedVariables false
theorem LongBlock_ok {h : Heap} {x : Bk} {sv sl : Value} (hb : BkRd h x sv sl) :
    Runs Tryz.prog T0 (.fn fn_zxbQ) [.agg ⟨x.cells sv sl⟩] h (fun r h' => (∃ b : Bool, r = .bool b ∧ (b = false → x.vals.length ≤ 70 ∧ x.c.votes.length ≤ 70 ∧ x.h.chain.length ≤ 60)) ∧ Fr (fun _ => False) h h') (fun _ _ => False) := by
  have hx := hb.hd
  have hch := hb.hash
  haveI := l32 hx.prev
  haveI := l32 hx.vals
  haveI := l32 hx.next
  haveI := l32 hx.app
  haveI := l32 hch
  obtain ⟨a1, c1, rfl, _, _⟩ := id hb.sv
  obtain ⟨a2, c2, rfl, _, _⟩ := id hb.sl
  have hsz : (ByteArray.mk ⟨x.h.chain⟩).size = x.h.chain.length := rfl
  refine zxbQ_runs ?_
  refine stp ?_
  refine O.dec (fun h1 => ?_) (fun h1 => ?_)
  · refine stp ?_
    exact ⟨⟨true, rfl, fun h => by cases h⟩, Fr.refl.push⟩
  refine stp ?_
  refine O.dec (fun h2 => ?_) (fun h2 => ?_)
  · refine stp ?_
    exact ⟨⟨true, rfl, fun h => by cases h⟩, Fr.refl.push⟩
  refine stp ?_
  exact ⟨⟨_, rfl, fun h => by have := of_decide_eq_false h; omega⟩, Fr.refl.push⟩
theorem tcells_oneE : ∀ l : List Vote, (tcells l).all Value.oneCell' = true
  | [] => rfl
  | v :: l => by rw [tcells_cons, List.all_append, tcells_oneE l]; rfl
theorem appendLitC {P : Program} {T : Table} {ts : List Value} {ds : List Deferred} {h : Heap} {rd : Option Nat} {dst bytes el : Nat} {x y : Operand} {chk : List (Option Nat × AOp × Option (Nat × Bool))} {pan : Bool} {rest : List AOper} {Q : QP} {F : Value → List Value} {w : Value} {l : List Vote} {zero : List Value}
    [e1 : Ev ts x (.slice (some ⟨h.n, 0, none⟩) 0 0)] [e2 : Ev ts y w] [s : LSetF ts dst F] (hv : Rd h 2 w (tcells l) l.length) (hs : l.length < 1048576) (hb : bytes < 1048576)
    (hk : ∀ v' h', Own h' 2 v' (tcells l) l.length → Fr (fun _ => False) h h' → (∀ i, ownedBy v' i → h.n ≤ i) → RunO P T rest ⟨F v', ds, h', rd⟩ Q) :
    RunO P T (⟨some dst, .append el 2 bytes zero false x y, none, chk, pan⟩ :: rest) ⟨ts, ds, h.push (.cells [] 0), rd⟩ Q := by
  have f0 : Fr (fun _ => False) h (h.push (.cells [] 0)) := Fr.refl.push
  have hz : Own (h.push (.cells [] 0)) 2 (.slice (some ⟨h.n, 0, none⟩) 0 0) [] 0 := .lit (by simp) (by rw [Heap.get_push, if_pos rfl])
  have one := tcells_oneE l
  refine O.append hz ((hv.keep f0 fun _ _ => id).new _) (tcells_len l) one (by omega) (by omega) (by omega) (fun v' h' h1 h2 h3 => ?_)
  rw [Nat.zero_add, List.nil_append] at h1
  refine hk v' h' h1 (f0.trans (S := fun _ => False) h2 fun i hi ho => ?_) fun i hi => ?_
  · have : h.n = i := ho
    omega
  · rcases h3 i hi with h4 | h4
    · have : h.n = i := h4
      omega
    · simp at h4; omega
set_option maxHeartbeats 4000000 in
theorem CopyCommit_ok {h : Heap} {ht : Int} {hs : List UInt8} {sv : Value} {l : List Vote} (hl : hs.length = 32) (hv : Rd h 2 sv (tcells l) l.length) (hsm : l.length < 1048576) :
    Runs Tryz.prog T0 (.fn fn_zvbQ) [.agg ⟨.int .i64 ht :: (bcells hs ++ [sv])⟩] h
      (fun r h' => ∃ sw, r = .agg ⟨.int .i64 ht :: (bcells hs ++ [sw])⟩ ∧ Own h' 2 sw (tcells l) l.length ∧ (∀ i, ownedBy sw i → h.n ≤ i) ∧ Fr (fun _ => False) h h') (fun _ _ => False) := by
  haveI := l32 hl
  obtain ⟨a1, c1, rfl, _, _⟩ := id hv
  refine zvbQ_runs ?_
  refine stp ?_
  have gA : HGet ((h.push (.cells (.int .i64 ht :: (bcells hs ++ [.slice a1 l.length c1])) 0)).push (.cells (.int .i64 0 :: (z32 ++ [.slice none 0 0])) 0)) h.n (.cells (.int .i64 ht :: (bcells hs ++ [.slice a1 l.length c1])) 0) := HGet.push (k := BLt.new) (g := HGet.new)
  have gB : HGet ((h.push (.cells (.int .i64 ht :: (bcells hs ++ [.slice a1 l.length c1])) 0)).push (.cells (.int .i64 0 :: (z32 ++ [.slice none 0 0])) 0)) (h.push (.cells (.int .i64 ht :: (bcells hs ++ [.slice a1 l.length c1])) 0)).n (.cells (.int .i64 0 :: (z32 ++ [.slice none 0 0])) 0) := HGet.new
  have f0 : Fr (fun _ => False) h ((h.push (.cells (.int .i64 ht :: (bcells hs ++ [.slice a1 l.length c1])) 0)).push (.cells (.int .i64 0 :: (z32 ++ [.slice none 0 0])) 0)) := Fr.refl.push.push
  have n0 : ((h.push (.cells (.int .i64 ht :: (bcells hs ++ [.slice a1 l.length c1])) 0)).push (.cells (.int .i64 0 :: (z32 ++ [.slice none 0 0])) 0)).n = h.n + 2 := rfl
  have nb : (h.push (.cells (.int .i64 ht :: (bcells hs ++ [.slice a1 l.length c1])) 0)).n = h.n + 1 := rfl
  generalize (h.push (.cells (.int .i64 ht :: (bcells hs ++ [.slice a1 l.length c1])) 0)).push (.cells (.int .i64 0 :: (z32 ++ [.slice none 0 0])) 0) = h0 at *
  generalize (h.push (.cells (.int .i64 ht :: (bcells hs ++ [.slice a1 l.length c1])) 0)).n = pb at *
  refine appendLitC (hv.keep f0 fun _ _ => id) (by omega) (by omega) (fun v' h1 ho hf1 hnew => ?_)
  have gA1 := hf1.keep gA (by omega) id
  have gB1 := hf1.keep gB (by omega) id
  have n1 := hf1.n
  haveI := gA1
  haveI := gB1
  haveI : BNe pb h.n := ⟨by omega⟩
  haveI : BNe h.n pb := ⟨by omega⟩
  obtain ⟨a2, c2, rfl, _, _⟩ := id ho.rd
  refine stp ?_
  refine ⟨_, rfl, ho.keep (S := fun i => i = h.n ∨ i = pb) ((Fr.refl.set fun _ => .inl rfl).set fun _ => .inr rfl) fun b hb e => by have := hnew b hb; omega, fun i hi => by have := hnew i hi; omega, ((f0.trans' hf1).set fun e => by omega).set fun e => by omega⟩
end Go.Proofs.YtbmpalbdbcjieaaGreat.A

namespace Go.Proofs.YtbmpalbdbcjieaaGreat.A
open Go.Proofs.YtbmpalbdbcjieaaGreat.K
open Go Go.Vm
set_option maxRecDepth 10000
set_option linter.unusedVariables false
set_option maxHeartbeats 8000000 in
theorem CopyBlock_ok {h : Heap} {x : Bk} {sv sl : Value} (hb : BkRd h x sv sl) (h1 : x.c.votes.length < 1048576) (h2 : x.vals.length < 1048576) :
    Runs Tryz.prog T0 (.fn fn_zubQ) [.agg ⟨x.cells sv sl⟩] h
      (fun r h' => ∃ sw sm, r = .agg ⟨x.cells sw sm⟩ ∧ Own h' 2 sw (tcells x.c.votes) x.c.votes.length ∧ Own h' 5 sm (vcells x.vals) x.vals.length ∧ (∀ i, ownedBy sw i → h.n ≤ i) ∧ (∀ i, ownedBy sm i → h.n ≤ i) ∧ Fr (fun _ => False) h h') (fun _ _ => False) := by
  have hx := hb.hd
  have hch := hb.hash
  haveI := l32 hx.prev
  haveI := l32 hx.vals
  haveI := l32 hx.next
  haveI := l32 hx.app
  haveI := l32 hch
  obtain ⟨a1, c1, rfl, _, _⟩ := id hb.sv
  obtain ⟨a2, c2, rfl, _, _⟩ := id hb.sl
  refine zubQ_runs ?_
  refine stp ?_
  have gA : HGet ((h.push (.cells (x.cells (.slice a1 x.c.votes.length c1) (.slice a2 x.vals.length c2)) 0)).push (.cells zBc 0)) h.n (.cells (x.cells (.slice a1 x.c.votes.length c1) (.slice a2 x.vals.length c2)) 0) := HGet.push (k := BLt.new) (g := HGet.new)
  have gB : HGet ((h.push (.cells (x.cells (.slice a1 x.c.votes.length c1) (.slice a2 x.vals.length c2)) 0)).push (.cells zBc 0)) (h.push (.cells (x.cells (.slice a1 x.c.votes.length c1) (.slice a2 x.vals.length c2)) 0)).n (.cells zBc 0) := HGet.new
  have f0 : Fr (fun _ => False) h ((h.push (.cells (x.cells (.slice a1 x.c.votes.length c1) (.slice a2 x.vals.length c2)) 0)).push (.cells zBc 0)) := Fr.refl.push.push
  have n0 : ((h.push (.cells (x.cells (.slice a1 x.c.votes.length c1) (.slice a2 x.vals.length c2)) 0)).push (.cells zBc 0)).n = h.n + 2 := rfl
  have nb : (h.push (.cells (x.cells (.slice a1 x.c.votes.length c1) (.slice a2 x.vals.length c2)) 0)).n = h.n + 1 := rfl
  generalize (h.push (.cells (x.cells (.slice a1 x.c.votes.length c1) (.slice a2 x.vals.length c2)) 0)).push (.cells zBc 0) = h0 at *
  generalize (h.push (.cells (x.cells (.slice a1 x.c.votes.length c1) (.slice a2 x.vals.length c2)) 0)).n = pb at *
  refine O.call' (CopyCommit_ok hch (hb.keep f0 fun _ _ => id).sv h1) (fun r h3 hr => ?_)
  obtain ⟨sw, rfl, ho, hnew, hf3⟩ := hr
  have gA3 := hf3.keep gA (by omega) id
  have gB3 := hf3.keep gB (by omega) id
  have n3 := hf3.n
  obtain ⟨a3, c3, rfl, _, _⟩ := id ho.rd
  haveI := gA3
  haveI : BLt h.n h3 := ⟨by omega⟩
  refine stp ?_
  have gA4 : HGet (h3.set h.n (.cells (x.cells (.slice a3 x.c.votes.length c3) (.slice a2 x.vals.length c2)) 0)) h.n (.cells (x.cells (.slice a3 x.c.votes.length c3) (.slice a2 x.vals.length c2)) 0) := HGet.same
  have gB4 : HGet (h3.set h.n (.cells (x.cells (.slice a3 x.c.votes.length c3) (.slice a2 x.vals.length c2)) 0)) pb (.cells zBc 0) := HGet.set (k := ⟨by omega⟩) (g := gB3)
  have f4 : Fr (fun i => i = h.n) h3 (h3.set h.n (.cells (x.cells (.slice a3 x.c.votes.length c3) (.slice a2 x.vals.length c2)) 0)) := Fr.refl.set fun _ => rfl
  have F4 : Fr (fun _ => False) h (h3.set h.n (.cells (x.cells (.slice a3 x.c.votes.length c3) (.slice a2 x.vals.length c2)) 0)) := (f0.trans' hf3).trans f4 fun i hi e => by omega
  have ho4 := ho.keep f4 fun b hb e => by have := hnew b hb; omega
  have n4 : (h3.set h.n (.cells (x.cells (.slice a3 x.c.votes.length c3) (.slice a2 x.vals.length c2)) 0)).n = h3.n := rfl
  generalize h3.set h.n (.cells (x.cells (.slice a3 x.c.votes.length c3) (.slice a2 x.vals.length c2)) 0) = h4 at *
  refine O.call' (CopyVals_ok (hb.keep F4 fun _ _ => id).sl h2) (fun r h5 hr => ?_)
  obtain ⟨hov, hf5, hnv⟩ := hr
  have gA5 := hf5.keep gA4 (by omega) id
  have gB5 := hf5.keep gB4 (by omega) id
  have n5 := hf5.n
  have ho5 := ho4.keep hf5 fun _ _ => id
  obtain ⟨a4, c4, rfl, _, _⟩ := id hov.rd
  haveI := gA5
  haveI := gB5
  haveI : BNe pb h.n := ⟨by omega⟩
  haveI : BNe h.n pb := ⟨by omega⟩
  refine stp ?_
  have f6 : ∀ {o1 o2 : AObj}, Fr (fun i => i = h.n ∨ i = pb) h5 ((h5.set h.n o1).set pb o2) := fun {o1 o2} => (Fr.refl.set fun _ => .inl rfl).set fun _ => .inr rfl
  refine ⟨_, _, rfl, ho5.keep f6 fun b hb e => by have := hnew b hb; omega, hov.keep f6 fun b hb e => by have := hnv b hb; omega, fun i hi => by have := hnew i hi; omega, fun i hi => by have := hnv i hi; omega, (F4.trans' hf5).trans f6 fun i hi e => by omega⟩
end Go.Proofs.YtbmpalbdbcjieaaGreat.A

namespace Go.Proofs.YtbmpalbdbcjieaaGreat.A
open Go.Proofs.YtbmpalbdbcjieaaGreat.K
open Go Go.Vm
set_option maxRecDepth 10000
set_option linter.unusedVariables false
instance : DecidableEq Vote := fun ⟨a, s⟩ ⟨b, t⟩ => if h : a = b ∧ s = t then .isTrue (by rw [h.1, h.2]) else .isFalse (fun e => h (by injection e with e1 e2; exact ⟨e1, e2⟩))
theorem same_vote {v w : Vote} : same v.cells w.cells = decide (v = w) := by
  by_cases h : v = w
  · rw [h, same_self, decide_eq_true rfl]
  · rw [decide_eq_false h, same_ne]
    intro e
    apply h
    obtain ⟨a, s⟩ := v
    obtain ⟨b, t⟩ := w
    simp only [Vote.cells, List.cons.injEq, Value.int.injEq, true_and, and_true] at e
    obtain ⟨e1, e2⟩ := e
    rw [e1, show s = t from by omega]
theorem take_next {α : Type} {l m : List α} {z : α} {k : Nat} (h1 : k < l.length) (h2 : k < m.length) : l.take (k + 1) = m.take (k + 1) ↔ l.take k = m.take k ∧ l.getD k z = m.getD k z := by
  have g1 : l.getD k z = l[k] := by simp [List.getD_eq_getElem?_getD, h1]
  have g2 : m.getD k z = m[k] := by simp [List.getD_eq_getElem?_getD, h2]
  rw [List.take_succ_eq_append_getElem h1, List.take_succ_eq_append_getElem h2, g1, g2]
  constructor
  · intro h
    have h3 := List.append_inj h (by simp; omega)
    exact ⟨h3.1, by simpa using h3.2⟩
  · rintro ⟨e1, e2⟩
    rw [e1, e2]
theorem SameVotes_ok {h : Heap} {v w : Value} {l m : List Vote} (hv : Rd h 2 v (tcells l) l.length) (hw : Rd h 2 w (tcells m) m.length) (hs : l.length < 1048576) (ht : m.length < 1048576) :
    Runs Tryz.prog T0 (.fn fn_zdcQ) [v, w] h (fun r h' => r = .bool (decide (l = m)) ∧ h' = h) (fun _ _ => False) := by
  obtain ⟨a, cap, rfl, hlen, hc⟩ := hv
  obtain ⟨a', cap', rfl, hlen', hc'⟩ := hw
  refine zdcQ_runs ?_
  refine stp ?_
  refine loop2 zdcQ_l0_M 5 6 (fun q v5 v6 h' => ∃ (k : Nat) (B : Bool), k ≤ l.length ∧ q = l.length - k ∧ v6 = .int .i64 k ∧ v5 = .bool B ∧ (B = true ↔ l.length = m.length ∧ l.take k = m.take k) ∧ h' = h) ?_ l.length ⟨0, _, by omega, rfl, rfl, rfl, by simp; omega, rfl⟩
  rintro m v5 v6 h' x12 x13 x14 x15 x16 x17 x18 x19 x20 x21 x22 x23 x24 x25 x26 x27 x28 x29 ⟨k, B, hk, rfl, rfl, rfl, hB, rfl⟩
  cases B with
  | false =>
    refine stp ?_
    have hne : l ≠ m := fun e => by have := hB.2 ⟨by rw [e], by rw [e]⟩; cases this
    rw [decide_eq_false hne]
    exact ⟨rfl, rfl⟩
  | true =>
    obtain ⟨hl1, hl2⟩ := hB.1 rfl
    refine stp ?_
    refine C.if (fun hlt => ?_) (fun hge => ?_)
    · have hlt : k < l.length := by omega
      obtain ⟨b, o, sp, rfl, hb, hcc⟩ := hc (by omega)
      obtain ⟨b', o', sp', rfl, hb', hcc'⟩ := hc' (by omega)
      haveI := vote_cells hcc rfl hlt
      haveI := vote_cells hcc' rfl (show k < m.length by omega)
      refine stp ?_
      rw [same_vote]
      exact loop2a 5 6 (l.length - (k + 1)) (by omega) ⟨k + 1, _, by omega, rfl, rfl, rfl, by rw [decide_eq_true_eq, take_next (z := zVote) hlt (by omega)]; exact ⟨fun e => ⟨hl1, hl2, e⟩, fun e => e.2.2⟩, rfl⟩
    · refine stp ?_
      have e : l = m := by
        have h1 : l.take l.length = m.take l.length := by rw [show l.length = k by omega]; exact hl2
        rwa [List.take_length, hl1, List.take_length] at h1
      rw [decide_eq_true e]
      exact ⟨rfl, rfl⟩
end Go.Proofs.YtbmpalbdbcjieaaGreat.A

namespace Go.Proofs.YtbmpalbdbcjieaaGreat.A
open Go.Proofs.YtbmpalbdbcjieaaGreat.K
open Go Go.Vm
set_option maxRecDepth 10000
set_option linter.unusedVariables false
theorem u8_of {a b : UInt8} (h : (a.toNat : Int) = (b.toNat : Int)) : a = b := by
  apply UInt8.toNat_inj.1
  omega
theorem same_val {v w : Val} : same v.cells w.cells = decide (v = w) := by
  by_cases h : v = w
  · rw [h, same_self, decide_eq_true rfl]
  · rw [decide_eq_false h, same_ne]
    intro e
    apply h
    obtain ⟨a0, a1, a2, a3, p⟩ := v
    obtain ⟨b0, b1, b2, b3, q⟩ := w
    simp only [Val.cells, List.cons.injEq, Value.int.injEq, true_and, and_true] at e
    obtain ⟨e0, e1, e2, e3, e4⟩ := e
    rw [u8_of e0, u8_of e1, u8_of e2, u8_of e3, e4]
theorem SameVals_ok {h : Heap} {v w : Value} {l m : List Val} (hv : Rd h 5 v (vcells l) l.length) (hw : Rd h 5 w (vcells m) m.length) (hs : l.length < 1048576) (ht : m.length < 1048576) :
    Runs Tryz.prog T0 (.fn fn_zccQ) [v, w] h (fun r h' => r = .bool (decide (l = m)) ∧ h' = h) (fun _ _ => False) := by
  obtain ⟨a, cap, rfl, hlen, hc⟩ := hv
  obtain ⟨a', cap', rfl, hlen', hc'⟩ := hw
  refine zccQ_runs ?_
  refine stp ?_
  refine loop2 zccQ_l0_M 5 6 (fun q v5 v6 h' => ∃ (k : Nat) (B : Bool), k ≤ l.length ∧ q = l.length - k ∧ v6 = .int .i64 k ∧ v5 = .bool B ∧ (B = true ↔ l.length = m.length ∧ l.take k = m.take k) ∧ h' = h) ?_ l.length ⟨0, _, by omega, rfl, rfl, rfl, by simp; omega, rfl⟩
  rintro m v5 v6 h' x12 x13 x14 x15 x16 x17 x18 x19 x20 x21 x22 x23 x24 x25 x26 x27 x28 x29 ⟨k, B, hk, rfl, rfl, rfl, hB, rfl⟩
  cases B with
  | false =>
    refine stp ?_
    have hne : l ≠ m := fun e => by have := hB.2 ⟨by rw [e], by rw [e]⟩; cases this
    rw [decide_eq_false hne]
    exact ⟨rfl, rfl⟩
  | true =>
    obtain ⟨hl1, hl2⟩ := hB.1 rfl
    refine stp ?_
    refine C.if (fun hlt => ?_) (fun hge => ?_)
    · have hlt : k < l.length := by omega
      obtain ⟨b, o, sp, rfl, hb, hcc⟩ := hc (by omega)
      obtain ⟨b', o', sp', rfl, hb', hcc'⟩ := hc' (by omega)
      haveI := val_cells hcc rfl hlt
      haveI := val_cells hcc' rfl (show k < m.length by omega)
      refine stp ?_
      rw [same_val]
      exact loop2a 5 6 (l.length - (k + 1)) (by omega) ⟨k + 1, _, by omega, rfl, rfl, rfl, by rw [decide_eq_true_eq, take_next (z := zVal) hlt (by omega)]; exact ⟨fun e => ⟨hl1, hl2, e⟩, fun e => e.2.2⟩, rfl⟩
    · refine stp ?_
      have e : l = m := by
        have h1 : l.take l.length = m.take l.length := by rw [show l.length = k by omega]; exact hl2
        rwa [List.take_length, hl1, List.take_length] at h1
      rw [decide_eq_true e]
      exact ⟨rfl, rfl⟩
end Go.Proofs.YtbmpalbdbcjieaaGreat.A

namespace Go.Proofs.YtbmpalbdbcjieaaGreat.A
open Go.Proofs.YtbmpalbdbcjieaaGreat.K
open Go Go.Vm
set_option maxRecDepth 10000
set_option linter.unusedVariables false
theorem bcells_eq : ∀ {l m : List UInt8}, bcells l = bcells m → l = m
  | [], [], _ => rfl
  | [], _ :: _, h => by simp [bcells] at h
  | _ :: _, [], h => by simp [bcells] at h
  | a :: l, b :: m, h => by
    simp only [bcells, List.map_cons, List.cons.injEq, Value.int.injEq, true_and] at h
    rw [u8_of h.1, bcells_eq (l := l) (m := m) h.2]
theorem same_bytes {l m : List UInt8} : same (bcells l) (bcells m) = decide (l = m) := by
  by_cases h : l = m
  · rw [h, same_self, decide_eq_true rfl]
  · rw [decide_eq_false h, same_ne]
    exact fun e => h (bcells_eq e)
theorem SameCommit_ok {h : Heap} {x y : Cm} {sv sw : Value} (hx : x.hash.length = 32) (hy : y.hash.length = 32) (hs : x.votes.length < 1048576) (ht : y.votes.length < 1048576) (hv : Rd h 2 sv (tcells x.votes) x.votes.length) (hw : Rd h 2 sw (tcells y.votes) y.votes.length) :
    Runs Tryz.prog T0 (.fn fn_zbcQ) [.agg ⟨x.cells sv⟩, .agg ⟨y.cells sw⟩] h (fun r h' => r = .bool (decide (x.height = y.height ∧ x.hash = y.hash ∧ x.votes = y.votes)) ∧ Fr (fun _ => False) h h') (fun _ _ => False) := by
  haveI := l32 hx
  haveI := l32 hy
  refine zbcQ_runs ?_
  refine stp ?_
  refine O.dec (fun e1 => ?_) (fun e1 => ?_)
  · refine stp ?_
    rw [same_bytes]
    refine stp ?_
    refine O.dec (fun e2 => ?_) (fun e2 => ?_)
    · refine stp ?_
      refine O.callT (SameVotes_ok (hv.keep (S := fun _ => False) Fr.refl.push.push fun _ _ => id) (hw.keep (S := fun _ => False) Fr.refl.push.push fun _ _ => id) hs ht) (fun r h1 hr => ?_)
      obtain ⟨rfl, rfl⟩ := hr
      refine stp ?_
      exact ⟨by simp [e1, e2], Fr.refl.push.push⟩
    · refine stp ?_
      exact ⟨by simp [e2], Fr.refl.push.push⟩
  · refine stp ?_
    exact ⟨by simp [e1], Fr.refl.push.push⟩
end Go.Proofs.YtbmpalbdbcjieaaGreat.A

namespace Go.Proofs.YtbmpalbdbcjieaaGreat.A
open Go.Proofs.YtbmpalbdbcjieaaGreat.K
open Go Go.Vm
set_option maxRecDepth 10000
set_option linter.unusedVariables false
def sameB (x y : Bk) : Bool := same x.h.cells y.h.cells && (decide (x.c.height = y.c.height ∧ x.c.hash = y.c.hash ∧ x.c.votes = y.c.votes) && decide (x.vals = y.vals))
set_option maxHeartbeats 4000000 in
theorem SameBlock_ok {h : Heap} {x y : Bk} {sv sl sw sm : Value} (hx : BkRd h x sv sl) (hy : BkRd h y sw sm) (h1 : x.c.votes.length < 1048576) (h2 : x.vals.length < 1048576) (h3 : y.c.votes.length < 1048576) (h4 : y.vals.length < 1048576) :
    Runs Tryz.prog T0 (.fn fn_zzbQ) [.agg ⟨x.cells sv sl⟩, .agg ⟨y.cells sw sm⟩] h (fun r h' => r = .bool (sameB x y) ∧ Fr (fun _ => False) h h') (fun _ _ => False) := by
  haveI := l32 hx.hd.prev
  haveI := l32 hx.hd.vals
  haveI := l32 hx.hd.next
  haveI := l32 hx.hd.app
  haveI := l32 hx.hash
  haveI := l32 hy.hd.prev
  haveI := l32 hy.hd.vals
  haveI := l32 hy.hd.next
  haveI := l32 hy.hd.app
  haveI := l32 hy.hash
  obtain ⟨a1, c1, rfl, _, _⟩ := id hx.sv
  obtain ⟨a2, c2, rfl, _, _⟩ := id hx.sl
  obtain ⟨a3, c3, rfl, _, _⟩ := id hy.sv
  obtain ⟨a4, c4, rfl, _, _⟩ := id hy.sl
  refine zzbQ_runs ?_
  refine stp ?_
  generalize hh0 : (h.push (.cells (x.cells (.slice a1 x.c.votes.length c1) (.slice a2 x.vals.length c2)) 0)).push (.cells (y.cells (.slice a3 y.c.votes.length c3) (.slice a4 y.vals.length c4)) 0) = h0
  generalize hb : (h.push (.cells (x.cells (.slice a1 x.c.votes.length c1) (.slice a2 x.vals.length c2)) 0)).n = b
  have hf0 : Fr (fun _ => False) h h0 := by rw [← hh0]; exact Fr.refl.push.push
  have hA : HGet h0 h.n (.cells (x.cells (.slice a1 x.c.votes.length c1) (.slice a2 x.vals.length c2)) 0) := by rw [← hh0]; exact HGet.push (k := BLt.new) (g := HGet.new)
  have hB : HGet h0 b (.cells (y.cells (.slice a3 y.c.votes.length c3) (.slice a4 y.vals.length c4)) 0) := by rw [← hh0, ← hb]; exact HGet.new
  have hb' : b = h.n + 1 := by rw [← hb]; rfl
  have hn0 : h0.n = h.n + 2 := by rw [← hh0]; rfl
  clear hh0 hb
  haveI := hA
  haveI := hB
  refine stp ?_
  unfold sameB
  generalize hS : same x.h.cells y.h.cells = S
  have hS' := hS
  simp only [Hd.cells] at hS'
  try rw [hS']
  cases S with
  | false =>
    refine stp ?_
    exact ⟨rfl, hf0⟩
  | true =>
    refine stp ?_
    refine O.callT (SameCommit_ok hx.hash hy.hash h1 h3 (hx.sv.keep hf0 fun _ _ => id) (hy.sv.keep hf0 fun _ _ => id)) (fun r h5 hr => ?_)
    obtain ⟨rfl, hf5⟩ := hr
    haveI := hf5.keep hA (by omega) id
    haveI := hf5.keep hB (by omega) id
    have hf05 := hf0.trans' hf5
    refine stp ?_
    refine O.dec (fun e1 => ?_) (fun e1 => ?_)
    · refine stp ?_
      refine O.callT (SameVals_ok (hx.sl.keep hf05 fun _ _ => id) (hy.sl.keep hf05 fun _ _ => id) h2 h4) (fun r h6 hr => ?_)
      obtain ⟨rfl, rfl⟩ := hr
      refine stp ?_
      exact ⟨by simp [e1], hf05⟩
    · refine stp ?_
      exact ⟨by rw [decide_eq_false e1]; rfl, hf05⟩
end Go.Proofs.YtbmpalbdbcjieaaGreat.A

namespace Go.Proofs.YtbmpalbdbcjieaaGreat.A
open Go.Proofs.YtbmpalbdbcjieaaGreat.K
open Go Go.Vm
set_option maxRecDepth 10000
set_option linter.unusedVariables false
def whoE (ht : Int) (l : List Vote) (n : Nat) : Int := if checkC ht l ≠ 0 then checkC ht l else if ∀ v ∈ l, v.at' < (n : Int) then 0 else 3
theorem who_take {l : List Vote} {n k : Nat} (hk : k < l.length) : (∀ v ∈ l.take (k + 1), v.at' < (n : Int)) ↔ (∀ v ∈ l.take k, v.at' < (n : Int)) ∧ (l.getD k zVote).at' < (n : Int) := by
  have g : l.getD k zVote = l[k] := by simp [List.getD_eq_getElem?_getD, hk]
  rw [List.take_succ_eq_append_getElem hk, g]
  constructor
  · exact fun h => ⟨fun v hv => h v (List.mem_append.2 (.inl hv)), h _ (List.mem_append.2 (.inr (List.mem_singleton.2 rfl)))⟩
  · rintro ⟨h1, h2⟩ v hv
    rw [List.mem_append, List.mem_singleton] at hv
    rcases hv with hv | rfl
    · exact h1 v hv
    · exact h2
theorem one_key {h : Heap} {c : List Value} {es : Nat} (hc : c.length = 4) : newCells (h.push (.cells c es)) 4 [.int .u8 0, .int .u8 0, .int .u8 0, .int .u8 0] false (.slice (some ⟨h.n, 0, none⟩) 1 1) = some (1, c) :=
  (Rd.mk (size := 4) (n := 1) (cap := 1) (sp := none) (o := 0) (b := h.n) (c := c) (by simp) (by rw [cellsAt_of (c := c) (by rw [Heap.get_push, if_pos rfl]; rfl) (by omega), List.drop_zero, List.take_of_length_le (by omega)])).new _
set_option maxHeartbeats 4000000 in
theorem Who_ok {h : Heap} {ht : Int} {hs : List UInt8} {sv sl : Value} {l : List Vote} {m : List Val} (hl : hs.length = 32) (hv : Rd h 2 sv (tcells l) l.length) (hm : Rd h 5 sl (vcells m) m.length) :
    Runs Tryz.prog T0 (.fn fn_zebQ) [.agg ⟨.int .i64 ht :: (bcells hs ++ [sv])⟩, sl] h (fun r h' => (∃ w, r = .tuple ⟨[w, .int .i64 (whoE ht l m.length)]⟩) ∧ Fr (fun _ => False) h h') (fun _ _ => False) := by
  have hv0 := hv
  obtain ⟨a, cap, rfl, hlen, hc⟩ := hv
  obtain ⟨a2, cap2, rfl, hlen2, hc2⟩ := hm
  haveI := l32 hl
  refine zebQ_runs ?_
  refine stp ?_
  have gA : HGet (h.push (.cells (.int .i64 ht :: (bcells hs ++ [.slice a l.length cap])) 0)) h.n (.cells (.int .i64 ht :: (bcells hs ++ [.slice a l.length cap])) 0) := HGet.new
  have f0 : Fr (fun _ => False) h (h.push (.cells (.int .i64 ht :: (bcells hs ++ [.slice a l.length cap])) 0)) := Fr.refl.push
  have n0 : (h.push (.cells (.int .i64 ht :: (bcells hs ++ [.slice a l.length cap])) 0)).n = h.n + 1 := rfl
  generalize h.push (.cells (.int .i64 ht :: (bcells hs ++ [.slice a l.length cap])) 0) = h0 at *
  refine O.call' (CCheck_ok hl (hv0.keep f0 fun _ _ => id)) (fun r h1 hr => ?_)
  obtain ⟨rfl, hf1⟩ := hr
  have gA1 := hf1.keep gA (by omega) id
  have F1 := f0.trans' hf1
  have n1 := hf1.n
  haveI := gA1
  unfold whoE
  refine stp ?_
  refine C.ifN (fun hz => ?_) (fun hz => ?_)
  · refine stp ?_
    rw [if_pos hz]
    exact ⟨⟨_, rfl⟩, F1⟩
  rw [if_neg (fun e => e hz)]
  obtain ⟨_, hl64, _, hat⟩ := checkC_ok hz
  refine stp ?_
  refine loop2 zebQ_l0_M 4 17 (fun q v4 v17 h' => ∃ (k : Nat) (c : List Value), k ≤ l.length ∧ q = l.length - k ∧ v17 = .int .i64 k ∧ Own h' 4 v4 c k ∧ (∀ i, ownedBy v4 i → h1.n ≤ i) ∧ (∀ v ∈ l.take k, v.at' < (m.length : Int)) ∧ Fr (fun _ => False) h1 h') ?_ l.length ⟨0, [], by omega, rfl, rfl, .none, fun i hi => hi.elim, by simp, Fr.refl⟩
  rintro m v4 v17 h' x5 x8 x18 x19 x20 x21 x22 x23 x24 x25 x26 x27 x28 x29 x30 x31 x32 x33 x34 x35 ⟨k, c, hk, rfl, rfl, ho, hnew, hall, hf⟩
  have F2 := F1.trans' hf
  refine stp ?_
  refine C.if (fun hlt => ?_) (fun hge => ?_)
  · have hlt : k < l.length := by omega
    obtain ⟨b, o, sp, rfl, hb, hcc⟩ := hc (by omega)
    have hcc' : cellsAt h' b o (l.length * 2) = some (tcells l) := by rw [cellsAt_keep F2 hb id]; exact hcc
    haveI := vote_cells hcc' rfl hlt
    have hz0 := hat _ (getD_memC hlt)
    have hwt := who_take (n := m.length) hlt
    generalize l.getD k zVote = v at *
    refine stp ?_
    refine C.if (fun hbig => ?_) (fun hsm => ?_)
    · refine stp ?_
      have hno : ¬ ∀ v ∈ l, v.at' < (m.length : Int) := fun e => by
        have := hwt.1 fun w hw => e w (List.mem_of_mem_take hw)
        omega
      rw [if_neg hno]
      exact ⟨⟨_, rfl⟩, F2.push⟩
    · have him : v.at'.toNat < m.length := by omega
      obtain ⟨b', o', sp', rfl, hb', hcc2⟩ := hc2 (by omega)
      have hcc3 : cellsAt (h'.push (.cells v.cells 0)) b' o' (m.length * 5) = some (vcells m) := by rw [cellsAt_keep (S := fun _ => False) (F2.push) hb' id]; exact hcc2
      haveI := val_key (k := v.at'.toNat) hcc3 rfl him
      refine stp ?_
      have hol := fun {i : Nat} (hi : ownedBy v4 i) => ho.lt hi
      refine O.append ((ho.keep (S := fun _ => False) Fr.refl.push fun _ _ => id).keep (S := fun _ => False) Fr.refl.push fun _ _ => id) (one_key rfl) rfl rfl (by omega) (by omega) (by omega) (fun v6 h6 ho6 hf6 hn6 => ?_)
      refine stp ?_
      refine loop2a 4 17 (l.length - (k + 1)) (by omega) ⟨k + 1, _, by omega, rfl, rfl, ho6, fun i hi => ?_, hwt.2 ⟨hall, by omega⟩, hf.trans (Fr.trans (S := ownedBy v4) Fr.refl.push.push hf6 fun _ _ h => h) fun i hi h => by have := hnew i h; omega⟩
      rcases hn6 i hi with h7 | h7
      · exact hnew i h7
      · have := hf.n
        simp at h7; omega
  · refine stp ?_
    have hall' : ∀ v ∈ l, v.at' < (m.length : Int) := fun v hv => hall v (by rw [List.take_of_length_le (by omega)]; exact hv)
    rw [if_pos hall']
    exact ⟨⟨_, rfl⟩, F2⟩
end Go.Proofs.YtbmpalbdbcjieaaGreat.A

namespace Go.Proofs.YtbmpalbdbcjieaaGreat.A
open Go.Proofs.YtbmpalbdbcjieaaGreat.K
open Go Go.Vm
set_option maxRecDepth 10000
set_option linter.unusedVariables false
def hashV (l : List Val) : List UInt8 := if checkV l = 0 then sumS (encV l) else zb32
def hashH (x : Hd) : List UInt8 := if checkS x = 0 then sumS (72 :: encS x) else zb32
theorem hashV_len (l : List Val) : (hashV l).length = 32 := by
  unfold hashV
  split
  · exact sumS_len _
  · rfl
theorem hashH_len (x : Hd) : (hashH x).length = 32 := by
  unfold hashH
  split
  · exact sumS_len _
  · rfl
def link1 (x : Bk) : Bool := !decide (x.h.vals = hashV x.vals) || !decide (x.c.hash = hashH x.h)
def whenE (b : Bool) (e : Int) : Int := if b then e else 0
def linkL (x : Bk) : List Int := [checkS x.h, checkV x.vals, checkC x.c.height x.c.votes, whenE (link1 x) 12, whenE (!decide (x.c.height = x.h.height)) 13, whoE x.c.height x.c.votes x.vals.length]
def linkE (x : Bk) : Int := firstE (linkL x)
theorem when_ok {h : Heap} {b : Bool} {e : Int} : Runs Tryz.prog T0 (.fn fn_zabQ) [.bool b, .int .i64 e] h (fun r h' => r = .int .i64 (whenE b e) ∧ h' = h) (fun _ _ => False) := by
  refine zabQ_runs ?_
  refine stp ?_
  unfold whenE
  refine C.ifB (fun hb => ?_) (fun hb => ?_)
  · subst hb
    refine stp ?_
    exact ⟨rfl, rfl⟩
  · subst hb
    refine stp ?_
    exact ⟨rfl, rfl⟩
theorem links_ok {h : Heap} {x : Bk} {a1 a2 : Option Addr} {n1 c1 n2 c2 : Nat} (hx : x.h.ok) (hc : x.c.hash.length = 32) :
    Runs Tryz.prog T0 (.fn fn_zsQ) [.agg ⟨x.cells (.slice a1 n1 c1) (.slice a2 n2 c2)⟩] h
      (fun r h' => r = .slice (some ⟨h.n + 1, 0, none⟩) 3 3 ∧ h'.n = h.n + 2 ∧ h'.get h.n = .cells (x.cells (.slice a1 n1 c1) (.slice a2 n2 c2)) 0 ∧ h'.get (h.n + 1) = .cells [.func (.func fn_ztQ) ⟨[]⟩ ⟨[.pointer (some ⟨h.n, 0, none⟩)]⟩, .func (.func fn_zuQ) ⟨[]⟩ ⟨[.pointer (some ⟨h.n, 0, none⟩)]⟩, .func (.func fn_zvQ) ⟨[]⟩ ⟨[.pointer (some ⟨h.n, 0, none⟩)]⟩] 0 ∧ Fr (fun _ => False) h h') (fun _ _ => False) := by
  haveI := l32 hx.prev
  haveI := l32 hx.vals
  haveI := l32 hx.next
  haveI := l32 hx.app
  haveI := l32 hc
  refine zsQ_runs ?_
  refine stp ?_
  exact ⟨rfl, rfl, by rw [Heap.get_push, if_neg (by simp)]; exact HGet.new.eq, HGet.new.eq, Fr.refl.push.push⟩
set_option maxHeartbeats 4000000 in
theorem links1_ok {h : Heap} {pb : Nat} {x : Bk} {sv sl : Value} (hg : h.get pb = .cells (x.cells sv sl) 0) (hp : pb < h.n) (hx : x.h.ok) (hc : x.c.hash.length = 32) (hl : Rd h 5 sl (vcells x.vals) x.vals.length) :
    Runs Tryz.prog T0 (.fn fn_ztQ) [.pointer (some ⟨pb, 0, none⟩)] h (fun r h' => r = .int .i64 (whenE (link1 x) 12) ∧ Fr (fun _ => False) h h') (fun _ _ => False) := by
  haveI := l32 hx.prev
  haveI := l32 hx.vals
  haveI := l32 hx.next
  haveI := l32 hx.app
  haveI := l32 hc
  have gP : HGet h pb (.cells (x.cells sv sl) 0) := ⟨hg⟩
  haveI := gP
  refine ztQ_runs ?_
  refine stp ?_
  refine O.call' (VHash_ok hl) (fun r h1 hr => ?_)
  obtain ⟨rfl, hf1⟩ := hr
  have n1 := hf1.n
  have gP1 := hf1.keep gP hp id
  rw [show (if checkV x.vals = 0 then sumS (encV x.vals) else zb32) = hashV x.vals from rfl]
  haveI := l32 (hashV_len x.vals)
  haveI := gP1
  haveI : BLt pb h1 := ⟨by omega⟩
  refine stp ?_
  have gP2 : HGet (h1.push (.cells (bcells (hashV x.vals)) 0)) pb (.cells (x.cells sv sl) 0) := HGet.push (g := gP1)
  have gV2 : HGet (h1.push (.cells (bcells (hashV x.vals)) 0)) h1.n (.cells (bcells (hashV x.vals)) 0) := HGet.new
  have F2 : Fr (fun _ => False) h (h1.push (.cells (bcells (hashV x.vals)) 0)) := hf1.push
  have n2 : (h1.push (.cells (bcells (hashV x.vals)) 0)).n = h1.n + 1 := rfl
  generalize h1.push (.cells (bcells (hashV x.vals)) 0) = h2 at *
  haveI := gP2
  refine stp ?_
  refine O.call' (HHash_ok hx) (fun r h3 hr => ?_)
  obtain ⟨rfl, hf3⟩ := hr
  have n3 := hf3.n
  have gP3 := hf3.keep gP2 (by omega) id
  have gV3 := hf3.keep gV2 (by omega) id
  rw [show (if checkS x.h = 0 then sumS (72 :: encS x.h) else zb32) = hashH x.h from rfl]
  haveI := l32 (hashH_len x.h)
  haveI := gP3
  haveI := gV3
  haveI : BLt pb h3 := ⟨by omega⟩
  haveI : BLt h1.n h3 := ⟨by omega⟩
  refine stp ?_
  rw [same_bytes]
  have F4 : Fr (fun _ => False) h (h3.push (.cells (bcells (hashH x.h)) 0)) := (F2.trans' hf3).push
  unfold link1
  refine O.decN (fun e1 => ?_) (fun e1 => ?_)
  · refine stp ?_
    refine O.call' when_ok (fun r h5 hr => ?_)
    obtain ⟨rfl, rfl⟩ := hr
    refine stp ?_
    exact ⟨by rw [decide_eq_false e1]; rfl, F4⟩
  · refine stp ?_
    rw [same_bytes]
    refine stp ?_
    refine O.call' when_ok (fun r h5 hr => ?_)
    obtain ⟨rfl, rfl⟩ := hr
    refine stp ?_
    exact ⟨by rw [decide_eq_true e1]; simp, F4⟩
theorem links2_ok {h : Heap} {pb : Nat} {x : Bk} {sv sl : Value} (hg : h.get pb = .cells (x.cells sv sl) 0) (hx : x.h.ok) (hc : x.c.hash.length = 32) :
    Runs Tryz.prog T0 (.fn fn_zuQ) [.pointer (some ⟨pb, 0, none⟩)] h (fun r h' => r = .int .i64 (whenE (!decide (x.c.height = x.h.height)) 13) ∧ Fr (fun _ => False) h h') (fun _ _ => False) := by
  haveI := l32 hx.prev
  haveI := l32 hx.vals
  haveI := l32 hx.next
  haveI := l32 hx.app
  haveI := l32 hc
  haveI : HGet h pb _ := ⟨hg⟩
  refine zuQ_runs ?_
  refine stp ?_
  refine O.call' when_ok (fun r h5 hr => ?_)
  obtain ⟨rfl, rfl⟩ := hr
  refine stp ?_
  exact ⟨rfl, Fr.refl⟩
theorem links3_ok {h : Heap} {pb : Nat} {x : Bk} {sv sl : Value} (hg : h.get pb = .cells (x.cells sv sl) 0) (hx : x.h.ok) (hc : x.c.hash.length = 32) (hv : Rd h 2 sv (tcells x.c.votes) x.c.votes.length) (hl : Rd h 5 sl (vcells x.vals) x.vals.length) :
    Runs Tryz.prog T0 (.fn fn_zvQ) [.pointer (some ⟨pb, 0, none⟩)] h (fun r h' => r = .int .i64 (whoE x.c.height x.c.votes x.vals.length) ∧ Fr (fun _ => False) h h') (fun _ _ => False) := by
  haveI := l32 hx.prev
  haveI := l32 hx.vals
  haveI := l32 hx.next
  haveI := l32 hx.app
  haveI := l32 hc
  haveI : HGet h pb _ := ⟨hg⟩
  refine zvQ_runs ?_
  refine stp ?_
  refine O.call' (Who_ok hc hv hl) (fun r h1 hr => ?_)
  obtain ⟨⟨w, rfl⟩, hf1⟩ := hr
  refine stp ?_
  exact ⟨rfl, hf1⟩
end Go.Proofs.YtbmpalbdbcjieaaGreat.A

namespace Go.Proofs.YtbmpalbdbcjieaaGreat.A
open Go.Proofs.YtbmpalbdbcjieaaGreat.K
open Go Go.Vm
set_option maxRecDepth 10000
set_option linter.unusedVariables false
section
variable {P : Program} {T : Table} {ts : List Value} {ds : List Deferred} {h : Heap} {rd : Option Nat} {v w : Value} {dst size bytes n m el q : Nat} {zero c d : List Value} {zeros : Bool} {x y : Operand} {pan : Bool} {rest : List AOper} {Q : QP} {F : Value → List Value}
theorem D.appendLit [e1 : Ev ts x (.slice (some ⟨q, 0, none⟩) n n)] [e2 : Ev ts y w] [s : LSetF ts dst F] (hc : cellsAt h q 0 (n * size) = some c) (hx : newCells h size zero zeros w = some (m, d)) (hd : d.length = m * size) (hs : size ≠ 0) (hb : bytes < 1048576) (hsm : n + m < 1048576) (hm : 0 < m)
    (hk : ∀ h', Own h' size (.slice (some ⟨h.n, 0, some 0⟩) (n + m) (n + m)) (c ++ d) (n + m) → Fr (fun _ => False) h h' → h'.n = h.n + 1 → RunD P T rest ⟨F (.slice (some ⟨h.n, 0, some 0⟩) (n + m) (n + m)), ds, h', rd⟩ Q) :
    RunD P T (⟨some dst, .append el size bytes zero zeros x y, none, [], pan⟩ :: rest) ⟨ts, ds, h, rd⟩ Q := by
  have hcl := cellsAt_length hc
  have ho : Own (h.push (.cells (c ++ d) size)) size (.slice (some ⟨h.n, 0, some 0⟩) (n + m) (n + m)) (c ++ d) (n + m) := .grown (j := []) (by simp) (by omega) (Nat.le_refl _) (by rw [List.length_append, hcl, hd, Nat.add_mul]) (by rw [List.append_nil, List.length_append, hcl, hd, Nat.add_mul]) (by rw [Heap.get_push, if_pos rfl, List.append_nil])
  have hop : XOp P ts h (.append el size bytes zero zeros x y) (.slice (some ⟨h.n, 0, some 0⟩) (n + m) (n + m)) (h.push (.cells (c ++ d) size)) := by
    refine ⟨rfl, ?_⟩
    simp only [xop, e1.eq, e2.eq]
    unfold appendOf
    rw [if_neg hs, hx]
    simp only
    rw [if_neg (by omega), if_neg (by omega), hc]
  haveI : LSet ts dst (.slice (some ⟨h.n, 0, some 0⟩) (n + m) (n + m)) (F (.slice (some ⟨h.n, 0, some 0⟩) (n + m) (n + m))) := ⟨s.eq _⟩
  exact D.how hop rfl (hk _ ho Fr.refl.push (by simp))
end
abbrev clo (f b : Nat) : Value := .func (.func f) ⟨[]⟩ ⟨[.pointer (some ⟨b, 0, none⟩)]⟩
set_option maxHeartbeats 8000000 in
theorem Linked_ok {h : Heap} {x : Bk} {sv sl : Value} (hb : BkRd h x sv sl) :
    Runs Tryz.prog T0 (.fn fn_znQ) [.agg ⟨x.cells sv sl⟩] h (fun r h' => r = .int .i64 (linkE x) ∧ Fr (fun _ => False) h h') (fun _ _ => False) := by
  have hx := hb.hd
  have hch := hb.hash
  haveI := l32 hx.prev
  haveI := l32 hx.vals
  haveI := l32 hx.next
  haveI := l32 hx.app
  haveI := l32 hch
  obtain ⟨a1, c1, rfl, _, _⟩ := id hb.sv
  obtain ⟨a2, c2, rfl, _, _⟩ := id hb.sl
  refine znQ_runs ?_
  refine stp ?_
  have n0 : (h.push (.cells (x.cells (.slice a1 x.c.votes.length c1) (.slice a2 x.vals.length c2)) 0)).n = h.n + 1 := rfl
  have gB : HGet (h.push (.cells (x.cells (.slice a1 x.c.votes.length c1) (.slice a2 x.vals.length c2)) 0)) h.n (.cells (x.cells (.slice a1 x.c.votes.length c1) (.slice a2 x.vals.length c2)) 0) := HGet.new
  have hf0 : Fr (fun _ => False) h (h.push (.cells (x.cells (.slice a1 x.c.votes.length c1) (.slice a2 x.vals.length c2)) 0)) := Fr.refl.push
  generalize h.push (.cells (x.cells (.slice a1 x.c.votes.length c1) (.slice a2 x.vals.length c2)) 0) = h0 at *
  haveI := gB
  refine stp ?_
  refine D.callX (parts_ok hx hch) (fun r h1 hr => ?_) (fun r h1 hr => ?_) (fun _ _ hx => hx.elim)
  · obtain ⟨rfl, n1, gC, gF, hf1⟩ := hr
    haveI := hf1.keep gB (by omega) id
    exact StabL.ok
  obtain ⟨rfl, n1, gC, gF, hf1⟩ := hr
  refine stp ?_
  refine D.callX (links_ok hx hch) (fun r h2 hr => rfl) (fun r h2 hr => ?_) (fun _ _ hx => hx.elim)
  obtain ⟨rfl, n2, gD, gG, hf2⟩ := hr
  refine stp ?_
  have r1 : cellsAt h2 (h0.n + 1) 0 (3 * 1) = some [clo fn_zxQ h0.n, clo fn_zyQ h0.n, clo fn_zzQ h0.n] := by
    rw [cellsAt_of (by rw [hf2.get _ (by omega) id, gF]; rfl) (by simp)]; rfl
  have r2 : Rd h2 1 (.slice (some ⟨h1.n + 1, 0, none⟩) 3 3) [clo fn_ztQ h1.n, clo fn_zuQ h1.n, clo fn_zvQ h1.n] 3 := Rd.mk (by omega) (by rw [cellsAt_of (by rw [gG]; rfl) (by simp)]; rfl)
  refine D.appendLit r1 (r2.new _) rfl (by omega) (by omega) (by omega) (by omega) (fun h3 ho3 hf3 n3 => ?_)
  refine stp ?_
  refine D.callX errors_ok (fun r h4 hr => rfl) (fun r h4 hr => ?_) (fun _ _ hx => hx.elim)
  obtain ⟨rfl, n4, gE, hf4⟩ := hr
  have hf12 := hf1.trans' hf2
  have hf24 := hf3.trans' hf4
  have hf04 := (hf0.trans' hf12).trans' hf24
  have gC4 : h4.get h0.n = .cells (x.cells (.slice a1 x.c.votes.length c1) (.slice a2 x.vals.length c2)) 0 := by rw [(hf2.trans' hf24).get _ (by omega) id]; exact gC
  have gD4 : h4.get h1.n = .cells (x.cells (.slice a1 x.c.votes.length c1) (.slice a2 x.vals.length c2)) 0 := by rw [hf24.get _ (by omega) id]; exact gD
  have hk : ∀ {h9 : Heap}, Fr (fun i => h4.n ≤ i) h4 h9 → h9.get h0.n = .cells (x.cells (.slice a1 x.c.votes.length c1) (.slice a2 x.vals.length c2)) 0 ∧ h9.get h1.n = .cells (x.cells (.slice a1 x.c.votes.length c1) (.slice a2 x.vals.length c2)) 0 ∧ BkRd h9 x (.slice a1 x.c.votes.length c1) (.slice a2 x.vals.length c2) ∧ h1.n < h9.n := fun {h9} hf9 =>
    ⟨by rw [hf9.get _ (by omega) (by omega)]; exact gC4, by rw [hf9.get _ (by omega) (by omega)]; exact gD4, (hb.keep hf04 fun _ _ => id).keep hf9 fun i hi e => by omega, by have := hf9.n; omega⟩
  have hcl : ∀ i, i < 6 → Holds h4 ([clo fn_zxQ h0.n, clo fn_zyQ h0.n, clo fn_zzQ h0.n, clo fn_ztQ h1.n, clo fn_zuQ h1.n, clo fn_zvQ h1.n].getD i undef) ((linkL x).getD i 0) := fun i hi => by
    rcases (show i = 0 ∨ i = 1 ∨ i = 2 ∨ i = 3 ∨ i = 4 ∨ i = 5 by omega) with rfl | rfl | rfl | rfl | rfl | rfl
    · exact ⟨_, _, rfl, fun h9 hf9 => parts1_ok (hk hf9).1 hx hch⟩
    · exact ⟨_, _, rfl, fun h9 hf9 => parts2_ok (hk hf9).1 hx hch (hk hf9).2.2.1.sl⟩
    · exact ⟨_, _, rfl, fun h9 hf9 => parts3_ok (hk hf9).1 hx hch (hk hf9).2.2.1.sv⟩
    · exact ⟨_, _, rfl, fun h9 hf9 => links1_ok (hk hf9).2.1 (hk hf9).2.2.2 hx hch (hk hf9).2.2.1.sl⟩
    · exact ⟨_, _, rfl, fun h9 hf9 => links2_ok (hk hf9).2.1 hx hch⟩
    · exact ⟨_, _, rfl, fun h9 hf9 => links3_ok (hk hf9).2.1 hx hch (hk hf9).2.2.1.sv (hk hf9).2.2.1.sl⟩
  refine stp ?_
  refine D.callX (first_ok (fs := [clo fn_zxQ h0.n, clo fn_zyQ h0.n, clo fn_zzQ h0.n, clo fn_ztQ h1.n, clo fn_zuQ h1.n, clo fn_zvQ h1.n]) (es := linkL x) gE (by omega) ((ho3.keep hf4 fun _ _ => id).rd) (by simp) rfl hcl) (fun r h5 hr => rfl) (fun r h5 hr => ?_) (fun _ _ hx => hx.elim)
  obtain ⟨rfl, hf5⟩ := hr
  refine stp ?_
  exact ⟨rfl, hf04.trans' hf5⟩
end Go.Proofs.YtbmpalbdbcjieaaGreat.A

namespace Go.Proofs.YtbmpalbdbcjieaaGreat.A
open Go.Proofs.YtbmpalbdbcjieaaGreat.K
open Go Go.Vm
set_option maxRecDepth 10000
set_option linter.unusedVariables false
theorem linkE_eq (x : Bk) : linkE x = if partsB x ≠ 0 then partsB x else if link1 x = true then 12 else if x.c.height ≠ x.h.height then 13 else if ∀ v ∈ x.c.votes, v.at' < (x.vals.length : Int) then 0 else 3 := by
  unfold linkE linkL
  by_cases h : partsB x = 0
  · rw [if_neg (fun e => e h)]
    obtain ⟨h1, h2, h3⟩ := partsB_ok h
    simp only [firstE, h1, h2, h3, if_true]
    unfold whenE whoE
    rw [h3]
    by_cases e1 : link1 x = true
    · rw [if_pos e1]; simp [e1]
    · have e1 : link1 x = false := by simpa using e1
      rw [e1]
      simp only [Bool.false_eq_true, if_false, if_true]
      by_cases e2 : x.c.height = x.h.height
      · simp only [e2, decide_true, Bool.not_true, Bool.false_eq_true, if_false, if_true, ne_eq, not_true_eq_false]
        split <;> simp
      · simp [e2]
  · rw [if_pos h]
    unfold partsB at h ⊢
    simp only [firstE] at h ⊢
    by_cases h1 : checkS x.h = 0
    · simp only [h1, if_true] at h ⊢
      by_cases h2 : checkV x.vals = 0
      · simp only [h2, if_true] at h ⊢
        by_cases h3 : checkC x.c.height x.c.votes = 0
        · simp [h3] at h
        · simp [h3]
      · simp [h2]
    · simp [h1]
set_option maxHeartbeats 8000000 in
theorem RLinked_ok {h : Heap} {x : Bk} {sv sl : Value} (hb : BkRd h x sv sl) (hs : x.h.chain.length < 1048576) (hsl : x.vals.length < 1048576) :
    Runs Tryz.prog T0 (.fn fn_zldQ) [.agg ⟨x.cells sv sl⟩] h (fun r h' => r = .int .i64 (linkE x) ∧ Fr (fun _ => False) h h') (fun _ _ => False) := by
  have hx := hb.hd
  have hch := hb.hash
  haveI := l32 hx.prev
  haveI := l32 hx.vals
  haveI := l32 hx.next
  haveI := l32 hx.app
  haveI := l32 hch
  obtain ⟨a1, c1, rfl, _, hc1⟩ := id hb.sv
  obtain ⟨a2, c2, rfl, _, _⟩ := id hb.sl
  rw [linkE_eq]
  refine zldQ_runs ?_
  refine stp ?_
  have n0 : (h.push (.cells (x.cells (.slice a1 x.c.votes.length c1) (.slice a2 x.vals.length c2)) 0)).n = h.n + 1 := rfl
  have gB : HGet (h.push (.cells (x.cells (.slice a1 x.c.votes.length c1) (.slice a2 x.vals.length c2)) 0)) h.n (.cells (x.cells (.slice a1 x.c.votes.length c1) (.slice a2 x.vals.length c2)) 0) := HGet.new
  have hf0 : Fr (fun _ => False) h (h.push (.cells (x.cells (.slice a1 x.c.votes.length c1) (.slice a2 x.vals.length c2)) 0)) := Fr.refl.push
  generalize h.push (.cells (x.cells (.slice a1 x.c.votes.length c1) (.slice a2 x.vals.length c2)) 0) = h0 at *
  refine O.call' (RParts_ok (hb.keep hf0 fun _ _ => id) hs) (fun r h1 hr => ?_)
  obtain ⟨rfl, hf1⟩ := hr
  have gB1 := hf1.keep gB (by omega) id
  have F1 := hf0.trans' hf1
  have n1 := hf1.n
  haveI := gB1
  refine stp ?_
  refine C.ifN (fun hc => ?_) (fun hz => ?_)
  · refine stp ?_
    rw [if_pos hc]
    exact ⟨rfl, F1⟩
  rw [if_neg (fun e => e hz)]
  have hl64 : x.c.votes.length ≤ 64 := (checkC_ok (partsB_ok hz).2.2).2.1
  refine stp ?_
  refine O.call' (RHash6_ok hx hs) (fun r h2 hr => ?_)
  obtain ⟨rfl, hf2⟩ := hr
  have n2 := hf2.n
  have gB2 := hf2.keep gB1 (by omega) id
  rw [show (if checkS x.h = 0 then sumS (72 :: encS x.h) else zb32) = hashH x.h from rfl]
  haveI := l32 (hashH_len x.h)
  haveI := gB2
  haveI : BLt h.n h2 := ⟨by omega⟩
  refine stp ?_
  have gB3 : HGet (h2.push (.cells (bcells (hashH x.h)) 0)) h.n (.cells (x.cells (.slice a1 x.c.votes.length c1) (.slice a2 x.vals.length c2)) 0) := HGet.push (g := gB2)
  have gH3 : HGet (h2.push (.cells (bcells (hashH x.h)) 0)) h2.n (.cells (bcells (hashH x.h)) 0) := HGet.new
  have F3 : Fr (fun _ => False) h (h2.push (.cells (bcells (hashH x.h)) 0)) := (F1.trans' hf2).push
  have n3 : (h2.push (.cells (bcells (hashH x.h)) 0)).n = h2.n + 1 := rfl
  generalize h2.push (.cells (bcells (hashH x.h)) 0) = h3 at *
  haveI := gB3
  refine stp ?_
  refine O.call' (RVHash_ok (hb.keep F3 fun _ _ => id).sl hsl) (fun r h4 hr => ?_)
  obtain ⟨rfl, hf4⟩ := hr
  have n4 := hf4.n
  have gB4 := hf4.keep gB3 (by omega) id
  have gH4 := hf4.keep gH3 (by omega) id
  rw [show (if checkV x.vals = 0 then sumS (encV x.vals) else zb32) = hashV x.vals from rfl]
  haveI := l32 (hashV_len x.vals)
  haveI := gB4
  haveI := gH4
  haveI : BLt h.n h4 := ⟨by omega⟩
  haveI : BLt h2.n h4 := ⟨by omega⟩
  refine stp ?_
  have gB5 : HGet (h4.push (.cells (bcells (hashV x.vals)) 0)) h.n (.cells (x.cells (.slice a1 x.c.votes.length c1) (.slice a2 x.vals.length c2)) 0) := HGet.push (g := gB4)
  have gH5 : HGet (h4.push (.cells (bcells (hashV x.vals)) 0)) h2.n (.cells (bcells (hashH x.h)) 0) := HGet.push (g := gH4)
  have gV5 : HGet (h4.push (.cells (bcells (hashV x.vals)) 0)) h4.n (.cells (bcells (hashV x.vals)) 0) := HGet.new
  have F5 : Fr (fun _ => False) h (h4.push (.cells (bcells (hashV x.vals)) 0)) := (F3.trans' hf4).push
  have n5 : (h4.push (.cells (bcells (hashV x.vals)) 0)).n = h4.n + 1 := rfl
  generalize h4.push (.cells (bcells (hashV x.vals)) 0) = h5 at *
  haveI := gB5
  haveI := gH5
  haveI := gV5
  refine stp ?_
  rw [same_bytes]
  refine O.decN (fun e1 => ?_) (fun e1 => ?_)
  · refine stp ?_
    rw [if_pos (by unfold link1; rw [decide_eq_false e1]; rfl)]
    exact ⟨rfl, F5⟩
  refine stp ?_
  rw [same_bytes]
  refine stp ?_
  refine C.ifN (fun e2 => ?_) (fun e2 => ?_)
  · refine stp ?_
    rw [if_pos (by unfold link1; rw [decide_eq_false e2, Bool.not_false, Bool.or_true])]
    exact ⟨rfl, F5⟩
  rw [if_neg (by unfold link1; rw [decide_eq_true e1, decide_eq_true e2]; simp)]
  refine stp ?_
  refine C.ifN (fun e3 => ?_) (fun e3 => ?_)
  · refine stp ?_
    rw [if_pos e3]
    exact ⟨rfl, F5⟩
  rw [if_neg (fun e => e e3)]
  refine stp ?_
  refine loop1 zldQ_l0_M 8 (fun q v8 h' => ∃ k : Nat, k ≤ x.c.votes.length ∧ q = x.c.votes.length - k ∧ v8 = .int .i64 k ∧ (∀ v ∈ x.c.votes.take k, v.at' < (x.vals.length : Int)) ∧ h' = h5) ?_ x.c.votes.length ⟨0, by omega, rfl, rfl, by simp, rfl⟩
  rintro m v8 h' x2 x47 x48 x49 x50 x51 x52 x53 x54 x55 x56 x57 x58 x59 x60 x61 x62 x63 x64 x65 ⟨k, hk, rfl, rfl, hall, rfl⟩
  refine stp ?_
  refine C.if (fun hlt => ?_) (fun hge => ?_)
  · have hlt : k < x.c.votes.length := by omega
    obtain ⟨b, o, sp, rfl, hb1, hcc⟩ := hc1 (by omega)
    have hcc' : cellsAt h' b o (x.c.votes.length * 2) = some (tcells x.c.votes) := by rw [cellsAt_keep F5 hb1 id]; exact hcc
    haveI := vote_at hcc' rfl hlt
    have hwt := who_take (n := x.vals.length) hlt
    refine stp ?_
    refine C.if (fun hbig => ?_) (fun hsm => ?_)
    · refine stp ?_
      have hno : ¬ ∀ v ∈ x.c.votes, v.at' < (x.vals.length : Int) := fun e => by
        have := hwt.1 fun w hw => e w (List.mem_of_mem_take hw)
        omega
      rw [if_neg hno]
      exact ⟨rfl, F5⟩
    · refine stp ?_
      exact loop1a 8 (x.c.votes.length - (k + 1)) (by omega) ⟨k + 1, by omega, rfl, rfl, hwt.2 ⟨hall, by omega⟩, rfl⟩
  · refine stp ?_
    have hall' : ∀ v ∈ x.c.votes, v.at' < (x.vals.length : Int) := fun v hv => hall v (by rw [List.take_of_length_le (by omega)]; exact hv)
    rw [if_pos hall']
    exact ⟨rfl, F5⟩
end Go.Proofs.YtbmpalbdbcjieaaGreat.A

namespace Go.Proofs.YtbmpalbdbcjieaaGreat.A
open Go.Proofs.YtbmpalbdbcjieaaGreat.K
open Go Go.Vm
set_option maxRecDepth 10000
set_option linter.unusedVariables false
theorem BHash_ok {h : Heap} {x : Bk} {sv sl : Value} (hb : BkRd h x sv sl) :
    Runs Tryz.prog T0 (.fn fn_zmQ) [.agg ⟨x.cells sv sl⟩] h (fun r h' => r = .tuple ⟨[.agg ⟨bcells (hashH x.h)⟩, .int .i64 (checkS x.h)]⟩ ∧ Fr (fun _ => False) h h') (fun _ _ => False) := by
  have hx := hb.hd
  have hch := hb.hash
  haveI := l32 hx.prev
  haveI := l32 hx.vals
  haveI := l32 hx.next
  haveI := l32 hx.app
  haveI := l32 hch
  haveI := l32 (hashH_len x.h)
  obtain ⟨a1, c1, rfl, _, _⟩ := id hb.sv
  obtain ⟨a2, c2, rfl, _, _⟩ := id hb.sl
  refine zmQ_runs ?_
  refine stp ?_
  refine O.call' (HHash_ok hx) (fun r h2 hr => ?_)
  obtain ⟨rfl, hf2⟩ := hr
  have n2 := hf2.n
  simp only [Heap.n_push] at n2
  rw [show (if checkS x.h = 0 then sumS (72 :: encS x.h) else zb32) = hashH x.h from rfl]
  haveI gZ : HGet h2 (h.n + 1) (.cells z32 0) := hf2.keep (b := h.n + 1) (HGet.new (h := h.push _)) (by simp) id
  haveI : BLt (h.n + 1) h2 := ⟨by omega⟩
  simp only [Heap.n_push]
  refine stp ?_
  exact ⟨rfl, Fr.set (Fr.trans (S := fun _ => False) Fr.refl.push.push hf2 fun _ _ h => h) fun e => by omega⟩
theorem RBHash_ok {h : Heap} {x : Bk} {sv sl : Value} (hb : BkRd h x sv sl) (hs : x.h.chain.length < 1048576) :
    Runs Tryz.prog T0 (.fn fn_zkdQ) [.agg ⟨x.cells sv sl⟩] h (fun r h' => r = .tuple ⟨[.agg ⟨bcells (hashH x.h)⟩, .int .i64 (checkS x.h)]⟩ ∧ Fr (fun _ => False) h h') (fun _ _ => False) := by
  have hx := hb.hd
  have hch := hb.hash
  haveI := l32 hx.prev
  haveI := l32 hx.vals
  haveI := l32 hx.next
  haveI := l32 hx.app
  haveI := l32 hch
  haveI := l32 (hashH_len x.h)
  obtain ⟨a1, c1, rfl, _, _⟩ := id hb.sv
  obtain ⟨a2, c2, rfl, _, _⟩ := id hb.sl
  refine zkdQ_runs ?_
  refine stp ?_
  refine O.call' (RHash6_ok hx hs) (fun r h2 hr => ?_)
  obtain ⟨rfl, hf2⟩ := hr
  have n2 := hf2.n
  simp only [Heap.n_push] at n2
  rw [show (if checkS x.h = 0 then sumS (72 :: encS x.h) else zb32) = hashH x.h from rfl]
  haveI gZ : HGet h2 (h.n + 1) (.cells z32 0) := hf2.keep (b := h.n + 1) (HGet.new (h := h.push _)) (by simp) id
  haveI : BLt (h.n + 1) h2 := ⟨by omega⟩
  simp only [Heap.n_push]
  refine stp ?_
  exact ⟨rfl, Fr.set (Fr.trans (S := fun _ => False) Fr.refl.push.push hf2 fun _ _ h => h) fun e => by omega⟩
theorem EqualVotes_ok {h : Heap} {v w : Value} {l m : List Vote} (hv : Rd h 2 v (tcells l) l.length) (hw : Rd h 2 w (tcells m) m.length) (hs : l.length < 1048576) (ht : m.length < 1048576) :
    Runs Tryz.prog T0 (.fn fn_zrdQ) [v, w] h (fun r h' => r = .bool (decide (l = m)) ∧ h' = h) (fun _ _ => False) := by
  obtain ⟨a, cap, rfl, hlen, hc⟩ := hv
  obtain ⟨a', cap', rfl, hlen', hc'⟩ := hw
  refine zrdQ_runs ?_
  refine stp ?_
  refine C.ifN (fun hne => ?_) (fun heq => ?_)
  · refine stp ?_
    rw [decide_eq_false (fun e : l = m => hne (by rw [e]))]
    exact ⟨rfl, rfl⟩
  have heq : l.length = m.length := by omega
  refine stp ?_
  refine loop1 zrdQ_l0_M 13 (fun q v13 h' => ∃ k : Nat, k ≤ l.length ∧ q = l.length - k ∧ v13 = .int .i64 k ∧ l.take k = m.take k ∧ h' = h) ?_ l.length ⟨0, by omega, rfl, rfl, by simp, rfl⟩
  rintro m v13 h' x4 x5 x14 x15 x16 x17 x18 x19 x20 x21 x22 x23 x24 x25 ⟨k, hk, rfl, rfl, hB, rfl⟩
  refine stp ?_
  refine C.if (fun hlt => ?_) (fun hge => ?_)
  · have hlt : k < l.length := by omega
    obtain ⟨b, o, sp, rfl, hb, hcc⟩ := hc (by omega)
    obtain ⟨b', o', sp', rfl, hb', hcc'⟩ := hc' (by omega)
    haveI := vote_cells hcc rfl hlt
    haveI := vote_cells hcc' rfl (show k < m.length by omega)
    refine stp ?_
    rw [same_vote]
    refine C.ifN (fun e => ?_) (fun e => ?_)
    · refine stp ?_
      rw [decide_eq_false (fun e' : l = m => e (by rw [e']))]
      exact ⟨rfl, rfl⟩
    · refine stp ?_
      exact loop1a 13 (l.length - (k + 1)) (by omega) ⟨k + 1, by omega, rfl, rfl, (take_next (z := zVote) hlt (by omega)).2 ⟨hB, e⟩, rfl⟩
  · refine stp ?_
    have e : l = m := by
      have h1 : l.take l.length = m.take l.length := by rw [show l.length = k by omega]; exact hB
      rwa [List.take_length, heq, List.take_length] at h1
    rw [decide_eq_true e]
    exact ⟨rfl, rfl⟩
theorem EqualVals_ok {h : Heap} {v w : Value} {l m : List Val} (hv : Rd h 5 v (vcells l) l.length) (hw : Rd h 5 w (vcells m) m.length) (hs : l.length < 1048576) (ht : m.length < 1048576) :
    Runs Tryz.prog T0 (.fn fn_zqdQ) [v, w] h (fun r h' => r = .bool (decide (l = m)) ∧ h' = h) (fun _ _ => False) := by
  obtain ⟨a, cap, rfl, hlen, hc⟩ := hv
  obtain ⟨a', cap', rfl, hlen', hc'⟩ := hw
  refine zqdQ_runs ?_
  refine stp ?_
  refine C.ifN (fun hne => ?_) (fun heq => ?_)
  · refine stp ?_
    rw [decide_eq_false (fun e : l = m => hne (by rw [e]))]
    exact ⟨rfl, rfl⟩
  have heq : l.length = m.length := by omega
  refine stp ?_
  refine loop1 zqdQ_l0_M 13 (fun q v13 h' => ∃ k : Nat, k ≤ l.length ∧ q = l.length - k ∧ v13 = .int .i64 k ∧ l.take k = m.take k ∧ h' = h) ?_ l.length ⟨0, by omega, rfl, rfl, by simp, rfl⟩
  rintro m v13 h' x4 x5 x14 x15 x16 x17 x18 x19 x20 x21 x22 x23 x24 x25 ⟨k, hk, rfl, rfl, hB, rfl⟩
  refine stp ?_
  refine C.if (fun hlt => ?_) (fun hge => ?_)
  · have hlt : k < l.length := by omega
    obtain ⟨b, o, sp, rfl, hb, hcc⟩ := hc (by omega)
    obtain ⟨b', o', sp', rfl, hb', hcc'⟩ := hc' (by omega)
    haveI := val_cells hcc rfl hlt
    haveI := val_cells hcc' rfl (show k < m.length by omega)
    refine stp ?_
    rw [same_val]
    refine C.ifN (fun e => ?_) (fun e => ?_)
    · refine stp ?_
      rw [decide_eq_false (fun e' : l = m => e (by rw [e']))]
      exact ⟨rfl, rfl⟩
    · refine stp ?_
      exact loop1a 13 (l.length - (k + 1)) (by omega) ⟨k + 1, by omega, rfl, rfl, (take_next (z := zVal) hlt (by omega)).2 ⟨hB, e⟩, rfl⟩
  · refine stp ?_
    have e : l = m := by
      have h1 : l.take l.length = m.take l.length := by rw [show l.length = k by omega]; exact hB
      rwa [List.take_length, heq, List.take_length] at h1
    rw [decide_eq_true e]
    exact ⟨rfl, rfl⟩
set_option maxHeartbeats 8000000 in
theorem BSame_ok {h : Heap} {x y : Bk} {sv sl sw sm : Value} (hx : BkRd h x sv sl) (hy : BkRd h y sw sm) (h1 : x.c.votes.length < 1048576) (h2 : x.vals.length < 1048576) (h3 : y.c.votes.length < 1048576) (h4 : y.vals.length < 1048576) :
    Runs Tryz.prog T0 (.fn fn_zoQ) [.agg ⟨x.cells sv sl⟩, .agg ⟨y.cells sw sm⟩] h (fun r h' => r = .bool (sameB x y) ∧ Fr (fun _ => False) h h') (fun _ _ => False) := by
  haveI := l32 hx.hd.prev
  haveI := l32 hx.hd.vals
  haveI := l32 hx.hd.next
  haveI := l32 hx.hd.app
  haveI := l32 hx.hash
  haveI := l32 hy.hd.prev
  haveI := l32 hy.hd.vals
  haveI := l32 hy.hd.next
  haveI := l32 hy.hd.app
  haveI := l32 hy.hash
  obtain ⟨a1, c1, rfl, _, _⟩ := id hx.sv
  obtain ⟨a2, c2, rfl, _, _⟩ := id hx.sl
  obtain ⟨a3, c3, rfl, _, _⟩ := id hy.sv
  obtain ⟨a4, c4, rfl, _, _⟩ := id hy.sl
  refine zoQ_runs ?_
  refine stp ?_
  generalize hh0 : (h.push (.cells (x.cells (.slice a1 x.c.votes.length c1) (.slice a2 x.vals.length c2)) 0)).push (.cells (y.cells (.slice a3 y.c.votes.length c3) (.slice a4 y.vals.length c4)) 0) = h0
  generalize hb : (h.push (.cells (x.cells (.slice a1 x.c.votes.length c1) (.slice a2 x.vals.length c2)) 0)).n = b
  have hf0 : Fr (fun _ => False) h h0 := by rw [← hh0]; exact Fr.refl.push.push
  have hA : HGet h0 h.n (.cells (x.cells (.slice a1 x.c.votes.length c1) (.slice a2 x.vals.length c2)) 0) := by rw [← hh0]; exact HGet.push (k := BLt.new) (g := HGet.new)
  have hB : HGet h0 b (.cells (y.cells (.slice a3 y.c.votes.length c3) (.slice a4 y.vals.length c4)) 0) := by rw [← hh0, ← hb]; exact HGet.new
  have hb' : b = h.n + 1 := by rw [← hb]; rfl
  have hn0 : h0.n = h.n + 2 := by rw [← hh0]; rfl
  clear hh0 hb
  haveI := hA
  haveI := hB
  refine stp ?_
  unfold sameB
  generalize hS : same x.h.cells y.h.cells = S
  have hS' := hS
  simp only [Hd.cells] at hS'
  try rw [hS']
  cases S with
  | false =>
    refine stp ?_
    exact ⟨rfl, hf0⟩
  | true =>
    refine stp ?_
    refine O.dec (fun e1 => ?_) (fun e1 => ?_)
    · refine stp ?_
      rw [same_bytes]
      refine stp ?_
      refine O.dec (fun e2 => ?_) (fun e2 => ?_)
      · refine stp ?_
        refine O.callT (EqualVotes_ok (hx.sv.keep hf0 fun _ _ => id) (hy.sv.keep hf0 fun _ _ => id) h1 h3) (fun r h5 hr => ?_)
        obtain ⟨rfl, rfl⟩ := hr
        refine stp ?_
        refine O.dec (fun e3 => ?_) (fun e3 => ?_)
        · refine stp ?_
          refine O.callT (EqualVals_ok (hx.sl.keep hf0 fun _ _ => id) (hy.sl.keep hf0 fun _ _ => id) h2 h4) (fun r h6 hr => ?_)
          obtain ⟨rfl, rfl⟩ := hr
          refine stp ?_
          exact ⟨by simp [e1, e2, e3], hf0⟩
        · refine stp ?_
          exact ⟨by simp [e3], hf0⟩
      · refine stp ?_
        exact ⟨by simp [e2], hf0⟩
    · refine stp ?_
      exact ⟨by simp [e1], hf0⟩
end Go.Proofs.YtbmpalbdbcjieaaGreat.A

namespace Go.Proofs.YtbmpalbdbcjieaaGreat.A
open Go.Proofs.YtbmpalbdbcjieaaGreat.K
open Go Go.Vm
set_option maxRecDepth 10000
set_option linter.unusedVariables false
section
variable {P : Program} {T : Table} {ts : List Value} {ds : List Deferred} {h : Heap} {rd : Option Nat} {d el : Nat} {z : List Value} {chk : List (Option Nat × AOp × Option (Nat × Bool))} {pan : Bool} {rest : List AOper} {Q : QP} {F : Value → List Value}
theorem D.allocC [s : LSetF ts d F] (hc : ∀ g, Fr (fun _ => False) h g → chk.all (stable P (F (.pointer (some ⟨h.n, 0, none⟩))) g) = true)
    (hk : ∀ g p, p = h.n → g.n = h.n + 1 → HGet g p (.cells z 0) → Fr (fun _ => False) h g → RunD P T rest ⟨F (.pointer (some ⟨p, 0, none⟩)), ds, g, rd⟩ Q) :
    RunD P T (⟨some d, .alloc el z, none, chk, pan⟩ :: rest) ⟨ts, ds, h, rd⟩ Q := by
  haveI : LSet ts d (.pointer (some ⟨h.n, 0, none⟩)) (F (.pointer (some ⟨h.n, 0, none⟩))) := ⟨s.eq _⟩
  exact D.one (h' := h.push (.cells z 0)) (v := .pointer (some ⟨h.n, 0, none⟩)) (hc _ Fr.refl.push) (hk _ _ rfl rfl HGet.new Fr.refl.push)
end
theorem sameB_self (x : Bk) : sameB x x = true := by
  unfold sameB
  rw [same_self]
  simp
theorem encL {h : Heap} {x : Bk} {sv sl : Value} (hb : BkRd h x sv sl) : (if partsB x = 0 then encB x else []).length < 1048576 := by
  split
  · rename_i hz
    obtain ⟨z1, z2, z3⟩ := partsB_ok hz
    have pH := partF_len (encS_lenB hb.hd z1) (by omega)
    have pC := partF_len (encC_len hb.hash z3) (by omega)
    have pV := partF_len (encV_len z2) (by omega)
    unfold encB
    simp only [List.length_append]
    omega
  · simp
set_option maxHeartbeats 16000000 in
theorem BlockLinks_true {h : Heap} {x y : Bk} {sv sl tv tl : Value} (hb : BkRd h x sv sl) (hd : BkRd h y tv tl) :
    Runs Tryz.prog T0 (.fn fn_zecQ) [.agg ⟨x.cells sv sl⟩, .agg ⟨y.cells tv tl⟩] h (fun r h' => r = .bool true) (fun _ _ => False) := by
  have hx := hb.hd
  have hch := hb.hash
  have hy := hd.hd
  have hdh := hd.hash
  haveI := l32 hx.prev
  haveI := l32 hx.vals
  haveI := l32 hx.next
  haveI := l32 hx.app
  haveI := l32 hch
  haveI := l32 hy.prev
  haveI := l32 hy.vals
  haveI := l32 hy.next
  haveI := l32 hy.app
  haveI := l32 hdh
  obtain ⟨a1, c1, rfl, _, _⟩ := id hb.sv
  obtain ⟨a2, c2, rfl, _, _⟩ := id hb.sl
  obtain ⟨b1, d1, rfl, _, _⟩ := id hd.sv
  obtain ⟨b2, d2, rfl, _, _⟩ := id hd.sl
  refine zecQ_runs ?_
  refine stp ?_
  generalize hX : Value.slice a1 x.c.votes.length c1 = xv at *
  generalize hX' : Value.slice a2 x.vals.length c2 = xl at *
  generalize hY : Value.slice b1 y.c.votes.length d1 = yv at *
  generalize hY' : Value.slice b2 y.vals.length d2 = yl at *
  have n0 : ((h.push (.cells (x.cells xv xl) 0)).push (.cells (y.cells yv yl) 0)).n = h.n + 2 := rfl
  have nb : (h.push (.cells (x.cells xv xl) 0)).n = h.n + 1 := rfl
  have gA : HGet ((h.push (.cells (x.cells xv xl) 0)).push (.cells (y.cells yv yl) 0)) h.n (.cells (x.cells xv xl) 0) := HGet.push (k := BLt.new) (g := HGet.new)
  have gB : HGet ((h.push (.cells (x.cells xv xl) 0)).push (.cells (y.cells yv yl) 0)) (h.push (.cells (x.cells xv xl) 0)).n (.cells (y.cells yv yl) 0) := HGet.new
  have F0 : Fr (fun _ => False) h ((h.push (.cells (x.cells xv xl) 0)).push (.cells (y.cells yv yl) 0)) := Fr.refl.push.push
  generalize (h.push (.cells (x.cells xv xl) 0)).push (.cells (y.cells yv yl) 0) = h0 at *
  generalize (h.push (.cells (x.cells xv xl) 0)).n = pb at *
  have G0 := hb.keep F0 fun _ _ => id
  have G0' := hd.keep F0 fun _ _ => id
  refine O.call' (LongBlock_ok G0) (fun r h1 hr => ?_)
  obtain ⟨⟨b, rfl, hlong⟩, hf1⟩ := hr
  have F1 := F0.trans' hf1
  have n1 := hf1.n
  have gA1 := hf1.keep gA (by omega) id
  have gB1 := hf1.keep gB (by omega) id
  haveI := gA1
  haveI := gB1
  cases b with
  | true =>
    refine stp ?_
    refine O.call' zfcQ_known (fun r h2 hr => ?_)
    obtain ⟨rfl, rfl⟩ := hr
    refine stp ?_
    rfl
  | false =>
  obtain ⟨y1, y2, y3⟩ := hlong rfl
  refine stp ?_
  refine O.callT (LongBlock_ok (hd.keep F1 fun _ _ => id)) (fun r h2 hr => ?_)
  obtain ⟨⟨b, rfl, hlong⟩, hf2⟩ := hr
  have F2 := F1.trans' hf2
  have n2 := hf2.n
  have gA2 := hf2.keep gA1 (by omega) id
  have gB2 := hf2.keep gB1 (by omega) id
  haveI := gA2
  haveI := gB2
  cases b with
  | true =>
    refine stp ?_
    refine O.call' zfcQ_known (fun r h2 hr => ?_)
    obtain ⟨rfl, rfl⟩ := hr
    refine stp ?_
    rfl
  | false =>
  obtain ⟨w1, w2, w3⟩ := hlong rfl
  refine stp ?_
  have n2h := F2.n
  refine RunC.mono (Q := fun e s => e = .normal ∧ ∃ (g : Heap) (p5 p6 : Nat) (sw sm tw tm : Value), s = ⟨.agg ⟨x.cells xv xl⟩ :: .agg ⟨y.cells yv yl⟩ :: .pointer (some ⟨h.n, 0, none⟩) :: .pointer (some ⟨pb, 0, none⟩) :: .bool false :: .pointer (some ⟨p5, 0, none⟩) :: .pointer (some ⟨p6, 0, none⟩) :: undef :: undef :: undef :: undef :: undef :: undef :: undef :: undef :: undef :: .agg ⟨x.cells xv xl⟩ :: .bool false :: .bool false :: .agg ⟨y.cells yv yl⟩ :: .bool false :: .bool false :: undef :: .agg ⟨x.cells xv xl⟩ :: .agg ⟨x.cells sw sm⟩ :: .agg ⟨y.cells yv yl⟩ :: .agg ⟨y.cells tw tm⟩ :: undef :: undef :: undef :: undef :: undef :: undef :: undef :: undef :: undef :: undef :: undef :: undef :: undef :: undef :: undef :: undef :: undef :: undef :: undef :: undef :: undef :: undef :: undef :: undef :: undef :: undef :: undef :: undef :: undef :: undef :: undef :: undef :: undef :: undef :: undef :: undef :: undef :: undef :: undef :: undef :: undef :: undef :: undef :: undef :: undef :: undef :: undef :: undef :: undef :: undef :: undef :: undef :: undef :: undef :: undef :: undef :: undef :: undef :: undef :: undef :: undef :: undef :: undef :: undef :: undef :: undef :: undef :: undef :: undef :: undef :: [], [], g, none⟩ ∧ Fr (fun _ => False) h g ∧ HGet g h.n (.cells (x.cells xv xl) 0) ∧ HGet g pb (.cells (y.cells yv yl) 0) ∧ HGet g p5 (.cells (x.cells sw sm) 0) ∧ HGet g p6 (.cells (y.cells tw tm) 0) ∧ (h.n < g.n ∧ pb < g.n ∧ p5 < g.n ∧ p6 < g.n) ∧ BkRd g x sw sm ∧ BkRd g y tw tm) ?_ ?_
  · have bA : BkRd h2 x xv xl := hb.keep F2 fun _ _ => id
    have bB : BkRd h2 y yv yl := hd.keep F2 fun _ _ => id
    have gA := gA2
    have gB := gB2
    have F : Fr (fun _ => False) h2 h2 := Fr.refl
    refine RunC.regionM ?_ (RunC.regionM ?_ (RunC.regionM ?_ (RunC.regionM ?_ (RunC.regionM ?_ (RunC.regionM ?_ (RunC.regionM ?_ (RunC.regionM ?_ (RunC.regionM ?_ (RunC.regionM ?_ (RunC.regionM ?_ (RunC.regionM ?_ (RunC.regionM0))))))))))))
    all_goals
      refine D.oneS ?_
      refine D.oneS ?_
      iterate 4
        first
        | refine D.allocC (d := 5) (fun g hf => ?_) (fun g p5 hp hn g5 hf => ?_)
          · haveI := hf.keep gA (by omega) id
            haveI := hf.keep gB (by omega) id
            exact StabL.ok
          have l5 : p5 < g.n := by omega
          have u5 := F.n
          have gA := hf.keep gA (by omega) id
          have gB := hf.keep gB (by omega) id
          try have g6 := hf.keep g6 (by omega) id
          try have o1 := o1.keep hf fun _ _ e => e
          try have o2 := o2.keep hf fun _ _ e => e
          try have o3 := o3.keep hf fun _ _ e => e
          try have o4 := o4.keep hf fun _ _ e => e
          have F := F.trans' hf
          have := F.n
        | refine D.allocC (d := 6) (fun g hf => ?_) (fun g p6 hp hn g6 hf => ?_)
          · haveI := hf.keep gA (by omega) id
            haveI := hf.keep gB (by omega) id
            exact StabL.ok
          have l6 : p6 < g.n := by omega
          have u6 := F.n
          have gA := hf.keep gA (by omega) id
          have gB := hf.keep gB (by omega) id
          try have g5 := hf.keep g5 (by omega) id
          try have o1 := o1.keep hf fun _ _ e => e
          try have o2 := o2.keep hf fun _ _ e => e
          try have o3 := o3.keep hf fun _ _ e => e
          try have o4 := o4.keep hf fun _ _ e => e
          have F := F.trans' hf
          have := F.n
        | refine D.callX (CopyBlock_ok (bA.keep F fun _ _ => id) (by omega) (by omega)) (fun r g hr => ?_) (fun r g hr => ?_) (fun _ _ hx => hx.elim)
          · obtain ⟨sw, sm, rfl, _, _, _, _, hf⟩ := hr
            have := F.n
            haveI := hf.keep gA (by omega) id
            haveI := hf.keep gB (by omega) id
            exact StabL.ok
          obtain ⟨sw, sm, rfl, o1, o2, m1, m2, hf⟩ := hr
          have := F.n
          have := hf.n
          have k1 := fun i hi => o1.lt (b := i) hi
          have k2 := fun i hi => o2.lt (b := i) hi
          have gA := hf.keep gA (by omega) id
          have gB := hf.keep gB (by omega) id
          try have g5 := hf.keep g5 (by omega) id
          try have g6 := hf.keep g6 (by omega) id
          try have o3 := o3.keep hf fun _ _ e => e
          try have o4 := o4.keep hf fun _ _ e => e
          have F := F.trans' hf
          have := F.n
        | refine D.callX (CopyBlock_ok (bB.keep F fun _ _ => id) (by omega) (by omega)) (fun r g hr => ?_) (fun r g hr => ?_) (fun _ _ hx => hx.elim)
          · obtain ⟨sw, sm, rfl, _, _, _, _, hf⟩ := hr
            have := F.n
            haveI := hf.keep gA (by omega) id
            haveI := hf.keep gB (by omega) id
            exact StabL.ok
          obtain ⟨tw, tm, rfl, o3, o4, m3, m4, hf⟩ := hr
          have := F.n
          have := hf.n
          have k3 := fun i hi => o3.lt (b := i) hi
          have k4 := fun i hi => o4.lt (b := i) hi
          have gA := hf.keep gA (by omega) id
          have gB := hf.keep gB (by omega) id
          try have g5 := hf.keep g5 (by omega) id
          try have g6 := hf.keep g6 (by omega) id
          try have o1 := o1.keep hf fun _ _ e => e
          try have o2 := o2.keep hf fun _ _ e => e
          have F := F.trans' hf
          have := F.n
      haveI := g5
      haveI := g6
      haveI : BLt p5 g := ⟨by omega⟩
      haveI : BLt p6 g := ⟨by omega⟩
      haveI : BNe p5 p6 := ⟨by omega⟩
      haveI : BNe p6 p5 := ⟨by omega⟩
      haveI : BNe p5 h.n := ⟨by omega⟩
      haveI : BNe p6 h.n := ⟨by omega⟩
      haveI : BNe p5 pb := ⟨by omega⟩
      haveI : BNe p6 pb := ⟨by omega⟩
      haveI : BNe h.n p5 := ⟨by omega⟩
      haveI : BNe h.n p6 := ⟨by omega⟩
      haveI : BNe pb p5 := ⟨by omega⟩
      haveI : BNe pb p6 := ⟨by omega⟩
      haveI := gA
      haveI := gB
      obtain ⟨e1, f1, rfl, _, _⟩ := id o1.rd
      obtain ⟨e2, f2, rfl, _, _⟩ := id o2.rd
      obtain ⟨e3, f3, rfl, _, _⟩ := id o3.rd
      obtain ⟨e4, f4, rfl, _, _⟩ := id o4.rd
      refine stp ?_
      have fS : ∀ {A B : AObj}, Fr (fun i => i = p5 ∨ i = p6) g ((g.set p5 A).set p6 B) := fun {A B} => (Fr.refl.set fun _ => .inl rfl).set fun _ => .inr rfl
      refine ⟨rfl, _, p5, p6, _, _, _, _, rfl, (F2.trans' F).trans fS fun i hi e => by omega, inferInstance, inferInstance, inferInstance, inferInstance, ⟨by simp; omega, by simp; omega, by simp; omega, by simp; omega⟩, ⟨hx, hch, (o1.keep fS fun b hb e => ?_).rd, (o2.keep fS fun b hb e => ?_).rd⟩, ⟨hy, hdh, (o3.keep fS fun b hb e => ?_).rd, (o4.keep fS fun b hb e => ?_).rd⟩⟩
      · have := m1 b hb
        have := k1 b hb
        omega
      · have := m2 b hb
        have := k2 b hb
        omega
      · have := m3 b hb
        have := k3 b hb
        omega
      · have := m4 b hb
        have := k4 b hb
        omega
  rintro _ _ ⟨rfl, g, p5, p6, sw, sm, tw, tm, rfl, F3, gA3, gB3, g53, g63, ⟨l1, l2, l3, l4⟩, bi, bj⟩
  simp only [thenQ]
  obtain ⟨e1, f1, rfl, _, _⟩ := id bi.sv
  obtain ⟨e2, f2, rfl, _, _⟩ := id bi.sl
  obtain ⟨e3, f3, rfl, _, _⟩ := id bj.sv
  obtain ⟨e4, f4, rfl, _, _⟩ := id bj.sl
  haveI := gA3
  haveI := gB3
  haveI := g53
  haveI := g63
  refine stp ?_
  refine O.call' (BHash_ok bi) (fun r g1 hr => ?_)
  obtain ⟨rfl, k1⟩ := hr
  have m1 := k1.n
  have gA4 := k1.keep gA3 l1 id
  have gB4 := k1.keep gB3 l2 id
  have g54 := k1.keep g53 l3 id
  have g64 := k1.keep g63 l4 id
  haveI := l32 (hashH_len x.h)
  haveI := gA4
  haveI : BLt h.n g1 := ⟨by omega⟩
  refine stp ?_
  have K2 : Fr (fun _ => False) g (g1.push (.cells (bcells (hashH x.h)) 0)) := k1.push
  have gA5 : HGet (g1.push (.cells (bcells (hashH x.h)) 0)) h.n (.cells (x.cells xv xl) 0) := K2.keep gA3 l1 id
  have gB5 : HGet (g1.push (.cells (bcells (hashH x.h)) 0)) pb (.cells (y.cells yv yl) 0) := K2.keep gB3 l2 id
  have g55 := K2.keep g53 l3 id
  have g65 := K2.keep g63 l4 id
  have gP5 : HGet (g1.push (.cells (bcells (hashH x.h)) 0)) g1.n (.cells (bcells (hashH x.h)) 0) := HGet.new
  have m2 : (g1.push (.cells (bcells (hashH x.h)) 0)).n = g1.n + 1 := rfl
  generalize g1.push (.cells (bcells (hashH x.h)) 0) = g2 at *
  haveI := gA5
  refine stp ?_
  refine O.call' (RBHash_ok (hb.keep (F3.trans' K2) fun _ _ => id) (by omega)) (fun r g3 hr => ?_)
  obtain ⟨rfl, k3⟩ := hr
  have m3 := k3.n
  have K3 := K2.trans' k3
  have g56 := K3.keep g53 l3 id
  haveI := g56
  haveI : BLt p5 g3 := ⟨by omega⟩
  refine stp ?_
  have K4 : Fr (fun _ => False) g (g3.push (.cells (bcells (hashH x.h)) 0)) := K3.push
  have gA7 := K4.keep gA3 l1 id
  have gB7 := K4.keep gB3 l2 id
  have g57 := K4.keep g53 l3 id
  have g67 := K4.keep g63 l4 id
  have gP7 : HGet (g3.push (.cells (bcells (hashH x.h)) 0)) g1.n (.cells (bcells (hashH x.h)) 0) := k3.push.keep gP5 (by omega) id
  have gQ7 : HGet (g3.push (.cells (bcells (hashH x.h)) 0)) g3.n (.cells (bcells (hashH x.h)) 0) := HGet.new
  have m4 : (g3.push (.cells (bcells (hashH x.h)) 0)).n = g3.n + 1 := rfl
  generalize g3.push (.cells (bcells (hashH x.h)) 0) = g4 at *
  haveI := g57
  refine stp ?_
  refine O.call' (BEncode_ok (bi.keep K4 fun _ _ => id)) (fun r g5 hr => ?_)
  obtain ⟨w1, rfl, o1, u1, k5⟩ := hr
  have m5 := k5.n
  have K5 := K4.trans' k5
  have gA8 := K5.keep gA3 l1 id
  haveI := gA8
  refine stp ?_
  refine O.call' (RBEncode_ok (hb.keep (F3.trans' K5) fun _ _ => id) (by omega) (by omega)) (fun r g6 hr => ?_)
  obtain ⟨w2, rfl, o2, u2, k6⟩ := hr
  have m6 := k6.n
  have K6 := K5.trans' k6
  have k46 := k5.trans' k6
  have gA9 := K6.keep gA3 l1 id
  have gB9 := K6.keep gB3 l2 id
  have g59 := K6.keep g53 l3 id
  have g69 := K6.keep g63 l4 id
  have gP9 := k46.keep gP7 (by omega) id
  have gQ9 := k46.keep gQ7 (by omega) id
  have o16 := o1.keep k6 fun _ _ e => e
  haveI := gA9
  haveI := g59
  refine stp ?_
  refine D.callX (Linked_ok (bi.keep K6 fun _ _ => id)) (fun r g7 hr => ?_) (fun r g7 hr => ?_) (fun _ _ hx => hx.elim)
  · obtain ⟨rfl, k7⟩ := hr
    haveI := k7.keep gA9 (by omega) id
    exact StabL.ok
  obtain ⟨rfl, k7⟩ := hr
  have m7 := k7.n
  have K7 := K6.trans' k7
  refine D.callX (RLinked_ok (hb.keep (F3.trans' K7) fun _ _ => id) (by omega) (by omega)) (fun r g8 hr => rfl) (fun r g8 hr => ?_) (fun _ _ hx => hx.elim)
  obtain ⟨rfl, k8⟩ := hr
  have m8 := k8.n
  have k68 := k7.trans' k8
  have K8 := K7.trans' k8
  have gA10 := K8.keep gA3 l1 id
  have gB10 := K8.keep gB3 l2 id
  have g510 := K8.keep g53 l3 id
  have g610 := K8.keep g63 l4 id
  haveI := k68.keep gP9 (by omega) id
  haveI := k68.keep gQ9 (by omega) id
  have o18 := o16.keep k68 fun _ _ e => e
  have o28 := o2.keep k68 fun _ _ e => e
  refine stp ?_
  simp only [eq_self, decide_true]
  refine stp ?_
  rw [same_self]
  refine stp ?_
  simp only [eq_self, decide_true]
  refine stp ?_
  refine D.callT (SameBytes_ok o18.rd o28.rd) (fun r g9 hr => rfl) (fun r g9 hr => ?_)
  obtain ⟨rfl, rfl⟩ := hr
  simp only [eq_self, decide_true]
  refine stp ?_
  simp only [eq_self, decide_true]
  haveI := gA10
  haveI := gB10
  haveI := g510
  haveI := g610
  refine stp ?_
  refine D.callT (BSame_ok (bi.keep K8 fun _ _ => id) (bj.keep K8 fun _ _ => id) (by omega) (by omega) (by omega) (by omega)) (fun r g10 hr => ?_) (fun r g10 hr => ?_)
  · obtain ⟨rfl, k10⟩ := hr
    haveI := k10.keep gA10 (by omega) id
    haveI := k10.keep gB10 (by omega) id
    exact StabL.ok
  obtain ⟨rfl, k10⟩ := hr
  have m10 := k10.n
  have K10 := K8.trans' k10
  refine stp ?_
  refine D.callT (SameBlock_ok (hb.keep (F3.trans' K10) fun _ _ => id) (hd.keep (F3.trans' K10) fun _ _ => id) (by omega) (by omega) (by omega) (by omega)) (fun r g11 hr => rfl) (fun r g11 hr => ?_)
  obtain ⟨rfl, k11⟩ := hr
  have m11 := k11.n
  have K11 := K10.trans' k11
  refine stp ?_
  simp only [beq_self_eq_true]
  refine O.call' (OverBytes_ok (((o18.keep k10 fun _ _ e => e).keep k11 fun _ _ e => e)) (encL hb)) (fun r g12 hr => ?_)
  have k12 := hr
  have m12 := k12.n
  have K12 : Fr (fun i => g4.n ≤ i) g g12 := (K11.mono fun _ _ e => e.elim).trans k12 fun i hi e => u1 i e
  haveI := K12.keep gA3 l1 (by omega)
  haveI := K12.keep gB3 l2 (by omega)
  haveI := K12.keep g53 l3 (by omega)
  haveI := K12.keep g63 l4 (by omega)
  have F13 : Fr (fun i => g4.n ≤ i) h g12 := (F3.mono fun _ _ e => e.elim).trans' K12
  refine stp ?_
  refine O.callT (SameBlock_ok (bi.keep K12 fun i hi => by omega) (hb.keep F13 fun i hi => by omega) (by omega) (by omega) (by omega) (by omega)) (fun r g13 hr => ?_)
  obtain ⟨rfl, k13⟩ := hr
  rw [sameB_self]
  have m13 := k13.n
  have K13 : Fr (fun i => g4.n ≤ i) g g13 := K12.trans' (k13.mono fun _ _ e => e.elim)
  haveI := K13.keep gB3 l2 (by omega)
  haveI := K13.keep g63 l4 (by omega)
  have F14 : Fr (fun i => g4.n ≤ i) h g13 := (F3.mono fun _ _ e => e.elim).trans' K13
  refine stp ?_
  refine O.callT (SameBlock_ok (bj.keep K13 fun i hi => by omega) (hd.keep F14 fun i hi => by omega) (by omega) (by omega) (by omega) (by omega)) (fun r g14 hr => ?_)
  obtain ⟨rfl, k14⟩ := hr
  rw [sameB_self]
  refine stp ?_
  refine O.callT zfcQ_known (fun r g15 hr => ?_)
  obtain ⟨rfl, rfl⟩ := hr
  refine stp ?_
  rfl
end Go.Proofs.YtbmpalbdbcjieaaGreat.A

namespace Go.Proofs.YtbmpalbdbcjieaaGreat.A
open Go.Proofs.YtbmpalbdbcjieaaGreat.K
open Go Go.Vm
set_option maxRecDepth 10000
set_option linter.unusedVariables false
end Go.Proofs.YtbmpalbdbcjieaaGreat.A

namespace Go.Proofs.YtbmpalbdbcjieaaGreat.A
open Go.Proofs.YtbmpalbdbcjieaaGreat.K
open Go Go.Vm
set_option maxRecDepth 10000
set_option linter.unusedVariables false
theorem fits_bytes {h : Heap} {m : Nat} {te : TypeId} {c : List Value} {len : Nat} (hu : Tryz.prog.underlying te = some (.int .u8)) (hs : Tryz.prog.cellsOf te = 1) (hl : c.length = len * Tryz.prog.cellsOf te) (hall : ∀ i, i < len → Fits Tryz.prog h (m + 1) te ((c.drop (i * Tryz.prog.cellsOf te)).take (Tryz.prog.cellsOf te))) : ∃ bs : List UInt8, c = bcells bs ∧ bs.length = len := by
  rw [hs, Nat.mul_one] at hl
  induction c generalizing len with
  | nil => exact ⟨[], rfl, by simpa using hl⟩
  | cons v c ih =>
    cases len with
    | zero => simp at hl
    | succ len =>
      have h0 := hall 0 (by omega)
      rw [hs] at h0
      unfold Fits at h0
      rw [hu] at h0
      simp only [Nat.zero_mul, List.drop_zero, List.take_succ_cons, List.take_zero] at h0
      obtain ⟨x, hx, hwf⟩ := h0
      injection hx with hx _
      obtain ⟨bs, rfl, hb⟩ := ih (len := len) (by simpa using hl) fun i hi => by
        have := hall (i + 1) (by omega)
        rw [hs] at this ⊢
        simpa using this
      have hr : 0 ≤ x ∧ x ≤ 255 := by
        simp [Lit.wf, IntKind.min, IntKind.max, IntKind.signed, IntKind.bits] at hwf
        omega
      refine ⟨UInt8.ofNat x.toNat :: bs, ?_, by simp [hb]⟩
      rw [hx]
      show Value.int .u8 x :: bcells bs = Value.int .u8 ((UInt8.ofNat x.toNat).toNat : Nat) :: bcells bs
      rw [u8nat (by omega)]
      congr 2
      omega
end Go.Proofs.YtbmpalbdbcjieaaGreat.A

namespace Go.Proofs.YtbmpalbdbcjieaaGreat.A
open Go.Proofs.YtbmpalbdbcjieaaGreat.K
open Go Go.Vm
set_option maxRecDepth 10000
set_option linter.unusedVariables false
theorem fits_flat32 {h : Heap} {m : Nat} {t te : TypeId} {c : List Value} (ht : Tryz.prog.underlying t = some (.array 32 te)) (hu : Tryz.prog.underlying te = some (.int .u8)) (hs : Tryz.prog.cellsOf te = 1) (hs32 : Tryz.prog.cellsOf t = 32) (hv : Fits Tryz.prog h (m + 2) t c) : ∃ bs : List UInt8, c = bcells bs ∧ bs.length = 32 := by
  unfold Fits at hv
  rw [ht] at hv
  exact fits_bytes hu hs (by rw [hv.1, hs32, hs]) hv.2
theorem fits_header {h : Heap} {m : Nat} {t ts ti th tb : TypeId} {c : List Value} (f0 : fieldAt Tryz.prog t 0 = some (0, ts)) (f1 : fieldAt Tryz.prog t 1 = some (1, ti)) (f2 : fieldAt Tryz.prog t 2 = some (2, ti)) (f3 : fieldAt Tryz.prog t 3 = some (3, th)) (f4 : fieldAt Tryz.prog t 4 = some (35, th)) (f5 : fieldAt Tryz.prog t 5 = some (67, th)) (f6 : fieldAt Tryz.prog t 6 = some (99, th))
    (us : Tryz.prog.underlying ts = some .string) (ui : Tryz.prog.underlying ti = some (.int .i64)) (uh : Tryz.prog.underlying th = some (.array 32 tb)) (ub : Tryz.prog.underlying tb = some (.int .u8)) (c0 : Tryz.prog.cellsOf ts = 1) (c1 : Tryz.prog.cellsOf ti = 1) (c3 : Tryz.prog.cellsOf th = 32) (cb : Tryz.prog.cellsOf tb = 1) (ct : Tryz.prog.cellsOf t = 131)
    (hv : Fits Tryz.prog h (m + 3) t c) : ∃ x : Hd, x.ok ∧ (-9223372036854775808 ≤ x.height ∧ x.height ≤ 9223372036854775807) ∧ (-9223372036854775808 ≤ x.time ∧ x.time ≤ 9223372036854775807) ∧ c = x.cells := by
  have hl := hv.len f0
  rw [ct] at hl
  obtain ⟨s, g0, _⟩ := (hv.field f0).str us
  obtain ⟨a, g1, w1⟩ := (hv.field f1).int ui
  obtain ⟨b, g2, w2⟩ := (hv.field f2).int ui
  obtain ⟨l3, g3, n3⟩ := fits_flat32 uh ub cb c3 (hv.field f3)
  obtain ⟨l4, g4, n4⟩ := fits_flat32 uh ub cb c3 (hv.field f4)
  obtain ⟨l5, g5, n5⟩ := fits_flat32 uh ub cb c3 (hv.field f5)
  obtain ⟨l6, g6, n6⟩ := fits_flat32 uh ub cb c3 (hv.field f6)
  rw [c0] at g0
  rw [c1] at g1 g2
  rw [c3] at g3 g4 g5 g6
  refine ⟨⟨s.data.toList, a, b, l3, l4, l5, l6⟩, ⟨n3, n4, n5, n6⟩, wf_i64 w1, wf_i64 w2, ?_⟩
  rw [← List.drop_zero (l := c), vsplit c 0 1, g0, vsplit c (0 + 1) 1, g1, vsplit c (0 + 1 + 1) 1, g2, vsplit c (0 + 1 + 1 + 1) 32, g3, vsplit c (0 + 1 + 1 + 1 + 32) 32, g4, vsplit c (0 + 1 + 1 + 1 + 32 + 32) 32, g5, vsplit c (0 + 1 + 1 + 1 + 32 + 32 + 32) 32, g6,
    show c.drop (0 + 1 + 1 + 1 + 32 + 32 + 32 + 32) = [] from List.drop_eq_nil_of_le (by omega), List.append_nil]
  rfl
end Go.Proofs.YtbmpalbdbcjieaaGreat.A

namespace Go.Proofs.YtbmpalbdbcjieaaGreat.A
open Go.Proofs.YtbmpalbdbcjieaaGreat.K
open Go Go.Vm
set_option maxRecDepth 10000
set_option linter.unusedVariables false
theorem four {l : List UInt8} (h : l.length = 4) : ∃ a b c d, l = [a, b, c, d] := by
  match l, h with
  | [a, b, c, d], _ => exact ⟨a, b, c, d, rfl⟩
end Go.Proofs.YtbmpalbdbcjieaaGreat.A

namespace Go.Proofs.YtbmpalbdbcjieaaGreat.A
open Go.Proofs.YtbmpalbdbcjieaaGreat.K
open Go Go.Vm
set_option maxRecDepth 100000
set_option linter.unusedVariables false
theorem vals_cells_fit {h : Heap} {m : Nat} {te tk tb ti : TypeId} (f0 : fieldAt Tryz.prog te 0 = some (0, tk)) (f1 : fieldAt Tryz.prog te 1 = some (4, ti)) (uk : Tryz.prog.underlying tk = some (.array 4 tb)) (ub : Tryz.prog.underlying tb = some (.int .u8)) (ui : Tryz.prog.underlying ti = some (.int .i64))
    (ce : Tryz.prog.cellsOf te = 5) (ck : Tryz.prog.cellsOf tk = 4) (cb : Tryz.prog.cellsOf tb = 1) (ci : Tryz.prog.cellsOf ti = 1) : ∀ (len : Nat) (c : List Value), c.length = len * 5 → (∀ i, i < len → Fits Tryz.prog h (m + 3) te ((c.drop (i * 5)).take 5)) →
    ∃ l : List Val, c = vcells l ∧ l.length = len ∧ ∀ v ∈ l, -9223372036854775808 ≤ v.p ∧ v.p ≤ 9223372036854775807
  | 0, c, hl, _ => ⟨[], by rw [vcells_nil]; simpa using hl, rfl, fun v hv => by cases hv⟩
  | len + 1, c, hl, hall => by
    have h0 := hall 0 (by omega)
    rw [Nat.zero_mul, List.drop_zero] at h0
    have hk := h0.field f0
    obtain ⟨p, g1, w1⟩ := (h0.field f1).int ui
    rw [ck] at hk
    rw [ci] at g1
    rw [List.drop_zero] at hk
    have h4 : (c.take 5).take 4 = c.take 4 := by rw [List.take_take]; rfl
    rw [h4] at hk
    have hb : ∃ bs : List UInt8, c.take 4 = bcells bs ∧ bs.length = 4 := by
      unfold Fits at hk
      rw [uk] at hk
      exact fits_bytes ub cb (by rw [hk.1, ck, cb]) hk.2
    obtain ⟨bs, hb1, hb2⟩ := hb
    obtain ⟨a0, a1, a2, a3, rfl⟩ := four hb2
    obtain ⟨l, e1, e2, e3⟩ := vals_cells_fit f0 f1 uk ub ui ce ck cb ci len (c.drop 5) (by rw [List.length_drop]; omega) fun i hi => by
      have := hall (i + 1) (by omega)
      rw [List.drop_drop]
      rw [show (i + 1) * 5 = 5 + i * 5 from by omega] at this
      exact this
    refine ⟨⟨a0, a1, a2, a3, p⟩ :: l, ?_, by simp [e2], fun v hv => ?_⟩
    · rw [vcells_cons, ← e1]
      have e5 : c = c.take 5 ++ c.drop 5 := (List.take_append_drop 5 c).symm
      have e6 : c.take 5 = c.take 4 ++ ((c.take 5).drop 4).take 1 := by
        have h1 : ((c.take 5).drop 4).take 1 = (c.take 5).drop 4 := List.take_of_length_le (by rw [List.length_drop, List.length_take]; omega)
        rw [h1, ← h4, List.take_append_drop]
      conv => lhs; rw [e5, e6, hb1, g1]
      rfl
    · rcases List.mem_cons.1 hv with rfl | hv
      · exact wf_i64 w1
      · exact e3 v hv
end Go.Proofs.YtbmpalbdbcjieaaGreat.A

namespace Go.Proofs.YtbmpalbdbcjieaaGreat.A
open Go.Proofs.YtbmpalbdbcjieaaGreat.K
open Go Go.Vm
set_option maxRecDepth 100000
set_option linter.unusedVariables false
theorem wf_u64 {x : Int} (h : (Lit.int .u64 x).wf = true) : 0 ≤ x ∧ x ≤ 18446744073709551615 := by
  simp [Lit.wf, IntKind.min, IntKind.max, IntKind.signed, IntKind.bits] at h
  omega
theorem votes_cells_fit {h : Heap} {m : Nat} {te ti tu : TypeId} (f0 : fieldAt Tryz.prog te 0 = some (0, ti)) (f1 : fieldAt Tryz.prog te 1 = some (1, tu)) (ui : Tryz.prog.underlying ti = some (.int .i64)) (uu : Tryz.prog.underlying tu = some (.int .u64))
    (ce : Tryz.prog.cellsOf te = 2) (ci : Tryz.prog.cellsOf ti = 1) (cu : Tryz.prog.cellsOf tu = 1) : ∀ (len : Nat) (c : List Value), c.length = len * 2 → (∀ i, i < len → Fits Tryz.prog h (m + 2) te ((c.drop (i * 2)).take 2)) →
    ∃ l : List Vote, c = tcells l ∧ l.length = len
  | 0, c, hl, _ => ⟨[], by rw [tcells_nil]; simpa using hl, rfl⟩
  | len + 1, c, hl, hall => by
    have h0 := hall 0 (by omega)
    rw [Nat.zero_mul, List.drop_zero] at h0
    obtain ⟨a, g0, w0⟩ := (h0.field f0).int ui
    obtain ⟨p, g1, w1⟩ := (h0.field f1).int uu
    rw [ci] at g0
    rw [cu] at g1
    obtain ⟨l, e1, e2⟩ := votes_cells_fit f0 f1 ui uu ce ci cu len (c.drop 2) (by rw [List.length_drop]; omega) fun i hi => by
      have := hall (i + 1) (by omega)
      rw [List.drop_drop]
      rw [show (i + 1) * 2 = 2 + i * 2 from by omega] at this
      exact this
    have hp := wf_u64 w1
    refine ⟨⟨a, p.toNat⟩ :: l, ?_, by simp [e2]⟩
    rw [tcells_cons, ← e1]
    match c, hl with
    | [], hl => simp at hl
    | [u], hl => simp at hl; omega
    | u :: w :: c, hl =>
      have g0 : [u] = [Value.int .i64 a] := g0
      have g1 : [w] = [Value.int .u64 p] := g1
      have g0 : u = Value.int .i64 a := by injection g0
      have g1 : w = Value.int .u64 p := by injection g1
      rw [g0, g1]
      show _ = [Value.int .i64 a, Value.int .u64 ((p.toNat : Nat) : Int)] ++ c
      rw [show ((p.toNat : Nat) : Int) = p from by omega]
      rfl
theorem fits_votes {h : Heap} {m : Nat} {t te ti tu : TypeId} {cs : List Value} (ht : Tryz.prog.underlying t = some (.slice te)) (f0 : fieldAt Tryz.prog te 0 = some (0, ti)) (f1 : fieldAt Tryz.prog te 1 = some (1, tu)) (ui : Tryz.prog.underlying ti = some (.int .i64)) (uu : Tryz.prog.underlying tu = some (.int .u64))
    (ce : Tryz.prog.cellsOf te = 2) (ci : Tryz.prog.cellsOf ti = 1) (cu : Tryz.prog.cellsOf tu = 1) (hv : Fits Tryz.prog h (m + 3) t cs) : ∃ (v : Value) (l : List Vote), cs = [v] ∧ Rd h 2 v (tcells l) l.length := by
  unfold Fits at hv
  rw [ht] at hv
  rcases hv with hv | ⟨b, len, cap, c, hv, hb, hlc, hcap, hro, hl, hall⟩
  · exact ⟨_, [], hv, Rd.nil⟩
  · rw [ce] at hl hall
    obtain ⟨l, rfl, e2⟩ := votes_cells_fit f0 f1 ui uu ce ci cu len c hl hall
    refine ⟨_, l, hv, ⟨_, _, by rw [e2], tcells_len l, fun hn => ⟨b, 0, none, rfl, hb, ?_⟩⟩⟩
    rw [cellsAt_of (c := tcells l) (by rw [hro (by omega)]; rfl) (by rw [tcells_len]; omega), List.drop_zero, List.take_of_length_le (by rw [tcells_len]; omega)]
theorem fits_vals1 {h : Heap} {m : Nat} {t te tk tb ti : TypeId} {cs : List Value} (ht : Tryz.prog.underlying t = some (.slice te)) (f0 : fieldAt Tryz.prog te 0 = some (0, tk)) (f1 : fieldAt Tryz.prog te 1 = some (4, ti)) (uk : Tryz.prog.underlying tk = some (.array 4 tb)) (ub : Tryz.prog.underlying tb = some (.int .u8)) (ui : Tryz.prog.underlying ti = some (.int .i64))
    (ce : Tryz.prog.cellsOf te = 5) (ck : Tryz.prog.cellsOf tk = 4) (cb : Tryz.prog.cellsOf tb = 1) (ci : Tryz.prog.cellsOf ti = 1) (hv : Fits Tryz.prog h (m + 4) t cs) : ∃ (v : Value) (l : List Val), cs = [v] ∧ Rd h 5 v (vcells l) l.length := by
  unfold Fits at hv
  rw [ht] at hv
  rcases hv with hv | ⟨b, len, cap, c, hv, hb, hlc, hcap, hro, hl, hall⟩
  · exact ⟨_, [], hv, Rd.nil⟩
  · rw [ce] at hl hall
    obtain ⟨l, rfl, e2, e3⟩ := vals_cells_fit f0 f1 uk ub ui ce ck cb ci len c hl hall
    refine ⟨_, l, hv, ⟨_, _, by rw [e2], vcells_len l, fun hn => ⟨b, 0, none, rfl, hb, ?_⟩⟩⟩
    rw [cellsAt_of (c := vcells l) (by rw [hro (by omega)]; rfl) (by rw [vcells_len]; omega), List.drop_zero, List.take_of_length_le (by rw [vcells_len]; omega)]
theorem fits_bk {h : Heap} {cs : List Value} (hv : Fits Tryz.prog h 8 33 cs) : ∃ (x : Bk) (sv sl : Value), cs = x.cells sv sl ∧ BkRd h x sv sl := by
  have b0 : fieldAt Tryz.prog 33 0 = some (0, 25) := by kernel_rfl
  have b1 : fieldAt Tryz.prog 33 1 = some (131, 31) := by kernel_rfl
  have b2 : fieldAt Tryz.prog 33 2 = some (165, 26) := by kernel_rfl
  have m0 : fieldAt Tryz.prog 31 0 = some (0, 3) := by kernel_rfl
  have m1 : fieldAt Tryz.prog 31 1 = some (1, 23) := by kernel_rfl
  have m2 : fieldAt Tryz.prog 31 2 = some (33, 29) := by kernel_rfl
  have v0 : fieldAt Tryz.prog 109 0 = some (0, 3) := by kernel_rfl
  have v1 : fieldAt Tryz.prog 109 1 = some (1, 107) := by kernel_rfl
  have l0 : fieldAt Tryz.prog 66 0 = some (0, 64) := by kernel_rfl
  have l1 : fieldAt Tryz.prog 66 1 = some (4, 3) := by kernel_rfl
  have uv : Tryz.prog.underlying 29 = some (.slice 109) := by kernel_rfl
  have ul : Tryz.prog.underlying 26 = some (.slice 66) := by kernel_rfl
  have uk : Tryz.prog.underlying 64 = some (.array 4 5) := by kernel_rfl
  have uu : Tryz.prog.underlying 107 = some (.int .u64) := by kernel_rfl
  have g0 : fieldAt Tryz.prog 25 0 = some (0, 9) := by kernel_rfl
  have g1 : fieldAt Tryz.prog 25 1 = some (1, 3) := by kernel_rfl
  have g2 : fieldAt Tryz.prog 25 2 = some (2, 3) := by kernel_rfl
  have g3 : fieldAt Tryz.prog 25 3 = some (3, 23) := by kernel_rfl
  have g4 : fieldAt Tryz.prog 25 4 = some (35, 23) := by kernel_rfl
  have g5 : fieldAt Tryz.prog 25 5 = some (67, 23) := by kernel_rfl
  have g6 : fieldAt Tryz.prog 25 6 = some (99, 23) := by kernel_rfl
  have u1 : Tryz.prog.underlying 9 = some .string := by kernel_rfl
  have u2 : Tryz.prog.underlying 3 = some (.int .i64) := by kernel_rfl
  have u3 : Tryz.prog.underlying 23 = some (.array 32 5) := by kernel_rfl
  have u4 : Tryz.prog.underlying 5 = some (.int .u8) := by kernel_rfl
  have c1 : Tryz.prog.cellsOf 9 = 1 := by kernel_rfl
  have c2 : Tryz.prog.cellsOf 3 = 1 := by kernel_rfl
  have c3 : Tryz.prog.cellsOf 23 = 32 := by kernel_rfl
  have c4 : Tryz.prog.cellsOf 5 = 1 := by kernel_rfl
  have c5 : Tryz.prog.cellsOf 25 = 131 := by kernel_rfl
  have c6 : Tryz.prog.cellsOf 31 = 34 := by kernel_rfl
  have c7 : Tryz.prog.cellsOf 33 = 166 := by kernel_rfl
  have c8 : Tryz.prog.cellsOf 109 = 2 := by kernel_rfl
  have c9 : Tryz.prog.cellsOf 66 = 5 := by kernel_rfl
  have d1 : Tryz.prog.cellsOf 64 = 4 := by kernel_rfl
  have d2 : Tryz.prog.cellsOf 107 = 1 := by kernel_rfl
  have d3 : Tryz.prog.cellsOf 29 = 1 := by kernel_rfl
  have d4 : Tryz.prog.cellsOf 26 = 1 := by kernel_rfl
  have hlen := hv.len b0
  rw [c7] at hlen
  obtain ⟨x, hx, _, _, hh⟩ := fits_header (m := 4) g0 g1 g2 g3 g4 g5 g6 u1 u2 u3 u4 c1 c2 c3 c4 c5 (hv.field b0)
  rw [c5] at hh
  have hc := hv.field b1
  rw [c6] at hc
  obtain ⟨ht, k0, _⟩ := (hc.field m0).int u2
  obtain ⟨hs, k1, k1l⟩ := fits_flat32 (m := 4) u3 u4 c4 c3 (hc.field m1)
  obtain ⟨sv, vs, k2, k2r⟩ := fits_votes (m := 3) uv v0 v1 u2 uu c8 c2 d2 (hc.field m2)
  obtain ⟨sl, ls, k3, k3r⟩ := fits_vals1 (m := 3) ul l0 l1 uk u4 u2 c9 d1 c4 c2 (hv.field b2)
  rw [c2] at k0
  rw [c3] at k1
  rw [d3] at k2
  rw [d4] at k3
  refine ⟨⟨x, ⟨ht, hs, vs⟩, ls⟩, sv, sl, ?_, ⟨hx, k1l, k2r, k3r⟩⟩
  have hcc : (cs.drop 131).take 34 = .int .i64 ht :: (bcells hs ++ [sv]) := by
    have hl2 : ((cs.drop 131).take 34).length = 34 := by rw [List.length_take, List.length_drop]; omega
    generalize (cs.drop 131).take 34 = c at *
    rw [← List.drop_zero (l := c), vsplit c 0 1, k0, vsplit c (0 + 1) 32, k1, vsplit c (0 + 1 + 32) 1, k2, show c.drop (0 + 1 + 32 + 1) = [] from List.drop_eq_nil_of_le (by omega), List.append_nil]
    rfl
  rw [← List.drop_zero (l := cs), vsplit cs 0 131, hh, vsplit cs (0 + 131) 34, hcc, vsplit cs (0 + 131 + 34) 1, k3, show cs.drop (0 + 131 + 34 + 1) = [] from List.drop_eq_nil_of_le (by omega), List.append_nil]
  simp only [Bk.cells, Hd.cells, List.cons_append, List.append_assoc, List.nil_append]
theorem BlockLinks_run (h : Heap) (vs : List Value) (hf : FitsAll Tryz.prog h 8 [33, 33] vs) : Runs Tryz.prog T0 (.fn fn_zecQ) vs h (fun r _ => r = .bool true) (fun _ _ => False) := by
  obtain ⟨v1, _, rfl, h1, hf⟩ := hf.cons
  obtain ⟨v2, _, rfl, h2, hf⟩ := hf.cons
  obtain rfl := hf.nil
  have b0 : fieldAt Tryz.prog 33 0 = some (0, 25) := by kernel_rfl
  obtain ⟨cs, rfl, hc⟩ := FitsV.agg h1 b0
  obtain ⟨ds, rfl, hd⟩ := FitsV.agg h2 b0
  obtain ⟨x, sv, sl, rfl, hx⟩ := fits_bk hc
  obtain ⟨y, tv, tl, rfl, hy⟩ := fits_bk hd
  exact BlockLinks_true hx hy
end Go.Proofs.YtbmpalbdbcjieaaGreat.A

namespace Go.Proofs.YtbmpalbdbcjieaaGreat.A
open Go Go.Vm
set_option maxRecDepth 100000
theorem ran_7 : allTrue (xcall Tryz.prog R.tab 1000 60 (.fn 7) [] Heap.init) = true := by kernel_rfl
theorem has_7 : (tableOf Tryz.prog 7).isSome = true := by kernel_rfl
theorem known : KnownAll Tryz.prog prims := ⟨⟨Option.isSome_iff_exists.1 has_7, fun w => known_calls (Checked.mixed Tryz.checked) R.tab_ok ran_7 w⟩, trivial⟩
theorem T0_ok : TableOK Tryz.prog T0 := withKept_ok (withTrue_ok known) fun k hk => by simp at hk
end Go.Proofs.YtbmpalbdbcjieaaGreat.A
