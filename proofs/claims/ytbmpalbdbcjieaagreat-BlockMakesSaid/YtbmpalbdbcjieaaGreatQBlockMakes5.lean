/- Contracts of functions, over the machine. -/
import Derived.Test.YtbmpalbdbcjieaaGreatQBlockMakes4
import Derived.Test.YtbmpalbdbcjieaaGreatVK
import Derived.Test.YtbmpalbdbcjieaaGreatVJ
noncomputable section
namespace Go.Proofs.YtbmpalbdbcjieaaGreat.A
open Go.Proofs.YtbmpalbdbcjieaaGreat.K
open Go Go.Vm
set_option maxRecDepth 10000
set_option linter.unusedVariables false
theorem mkStoreN {P : Program} {ts : List Value} {h : Heap} {a x : Operand} {v : Value} {o r n es : Nat} {sp : Option Nat} {xs c : List Value} (ho : o + xs.length ≤ c.length) (h1 : xs.all Value.oneCell' = true) (hn : n = xs.length) [e : Ev ts a (.pointer (some ⟨r, o, sp⟩))] [f : Ev ts x v] [k : CellsOf v xs] [g : HGet h r (.cells c es)] :
    xop P (eval ts) h (.store n a x) = .ok undef (h.set r (.cells (over c o xs) es)) := by
  have hp : putAt h r o xs = some (h.set r (.cells (over c o xs) es)) := by
    unfold putAt
    rw [g.eq]
    show (if o + xs.length ≤ c.length ∧ xs.all Value.oneCell' = true then some (h.set r (.cells (over c o xs) es)) else none) = _
    rw [if_pos ⟨ho, h1⟩]
  subst hn
  simp only [xop, e.eq, f.eq, k.eq, k.len, hp, if_true]
theorem SameVals_same {h : Heap} {v w : Value} {l : List Val} (hv : Rd h 5 v (vcells l) l.length) (hw : Rd h 5 w (vcells l) l.length) (hs : l.length < 1048576) :
    Runs Tryz.prog T0 (.fn fn_zgbQ) [v, w] h (fun r h' => r = .bool true ∧ h' = h) (fun _ _ => False) := by
  obtain ⟨a, cap, rfl, hlen, hc⟩ := hv
  obtain ⟨a', cap', rfl, hlen', hc'⟩ := hw
  refine zgbQ_runs ?_
  refine stpP ?_
  refine zgbQ_l0_rule (fun m v5 v6 h' => ∃ k : Nat, k ≤ l.length ∧ m = l.length - k ∧ v6 = .int .i64 k ∧ v5 = .bool true ∧ h' = h) ?_ l.length ⟨0, by omega, rfl, rfl, by simp, rfl⟩
  rintro m v5 v6 h' x12 x13 x14 x15 x16 x17 x18 x19 x20 x21 x22 x23 x24 x25 x26 x27 x28 x29 ⟨k, hk, rfl, rfl, rfl, rfl⟩
  refine stpP ?_
  refine C.if (fun hlt => ?_) (fun hge => ?_)
  · have hlt : k < l.length := by omega
    obtain ⟨b, o, sp, rfl, hb, hcc⟩ := hc (by omega)
    obtain ⟨b', o', sp', rfl, hb', hcc'⟩ := hc' (by omega)
    haveI := val_cells hcc rfl hlt
    haveI := val_cells hcc' rfl hlt
    refine stpP ?_
    rw [same_self]
    exact zgbQ_l0_again (l.length - (k + 1)) (by omega) ⟨k + 1, by omega, rfl, rfl, rfl, rfl⟩
  · refine stpP ?_
    exact ⟨rfl, rfl⟩
theorem Rd.block_lt {h : Heap} {size n : Nat} {v : Value} {c : List Value} (hv : Rd h size v c n) {i : Nat} (hi : blockOf v i) : i < h.n := by
  obtain ⟨a, cap, rfl, _, hc⟩ := hv
  cases a with
  | none => exact hi.elim
  | some a =>
    obtain ⟨h1, h2⟩ := hi
    obtain ⟨b, o, sp, e, hb, _⟩ := hc h2
    cases e
    subst h1
    exact hb
theorem OverVals_ok {h : Heap} {v : Value} {c : List Value} {n : Nat} (ho : Own h 5 v c n) (hs : n < 1048576) :
    Runs Tryz.prog T0 (.fn fn_zdbQ) [v] h (fun r h' => Fr (ownedBy v) h h') (fun _ _ => False) := by
  refine zdbQ_runs ?_
  cases ho with
  | none =>
    refine stpP ?_
    refine zdbQ_l0_rule (fun m v2 h' => v2 = .int .i64 0 ∧ h' = h) ?_ 0 ⟨rfl, rfl⟩
    rintro m v2 h' x3 x4 x5 x6 x7 x8 x9 x10 x11 x12 ⟨rfl, rfl⟩
    refine stpP ?_
    exact Fr.refl
  | lit hq hg =>
    refine stpP ?_
    refine zdbQ_l0_rule (fun m v2 h' => v2 = .int .i64 0 ∧ h' = h) ?_ 0 ⟨rfl, rfl⟩
    rintro m v2 h' x3 x4 x5 x6 x7 x8 x9 x10 x11 x12 ⟨rfl, rfl⟩
    refine stpP ?_
    exact Fr.refl
  | grown hq hn hle hl hl2 hg =>
    rename_i q kk cap j
    refine stpP ?_
    refine zdbQ_l0_rule (fun m v2 h' => ∃ k : Nat, k ≤ n ∧ m = n - k ∧ v2 = .int .i64 k ∧ (∃ cs, h'.get q = .cells cs 5 ∧ cs.length = cap * 5) ∧ Fr (ownedBy (.slice (some ⟨q, 0, some kk⟩) n cap)) h h') ?_ n ⟨0, by omega, rfl, rfl, ⟨_, hg, hl2⟩, Fr.refl⟩
    rintro m v2 h' x3 x4 x5 x6 x7 x8 x9 x10 x11 x12 ⟨k, hk, rfl, rfl, ⟨cs, hg', hcs⟩, hf⟩
    haveI : HGet h' q _ := ⟨hg'⟩
    refine stpP ?_
    refine C.if (fun hlt => ?_) (fun hge => ?_)
    · refine stpP ?_
      refine O.by0 (mkStoreN (xs := [.int .u8 0, .int .u8 0, .int .u8 0, .int .u8 0, .int .i64 (-7)]) (c := cs) (r := q) (es := 5) (by simp; omega) rfl rfl) rfl ?_
      refine stpP ?_
      refine zdbQ_l0_again (n - (k + 1)) (by omega) ⟨k + 1, by omega, rfl, rfl, ⟨_, by rw [Heap.get_set, if_pos rfl], ?_⟩, Fr.set hf fun _ => rfl⟩
      rw [over_length _ _ _ (by simp; omega), hcs]
    · refine stpP ?_
      exact hf
end Go.Proofs.YtbmpalbdbcjieaaGreat.A

namespace Go.Proofs.YtbmpalbdbcjieaaGreat.A
open Go.Proofs.YtbmpalbdbcjieaaGreat.K
open Go Go.Vm
set_option maxRecDepth 10000
set_option linter.unusedVariables false
structure Vote where
  at' : Int
  sig : Nat
abbrev Vote.cells (v : Vote) : List Value := [.int .i64 v.at', .int .u64 v.sig]
abbrev zVote : Vote := ⟨0, 0⟩
def tcells (l : List Vote) : List Value := l.flatMap Vote.cells
theorem tcells_cons (v : Vote) (l : List Vote) : tcells (v :: l) = v.cells ++ tcells l := rfl
theorem tcells_at : ∀ {l : List Vote} {k : Nat}, k < l.length → ((tcells l).drop (k * 2)).take 2 = (l.getD k zVote).cells
  | v :: l, 0, _ => by rw [tcells_cons]; rfl
  | v :: l, k + 1, h => by
    have := tcells_at (l := l) (k := k) (by simpa using h)
    rw [tcells_cons, show (k + 1) * 2 = v.cells.length + k * 2 from by simp; omega, ← List.drop_drop, List.drop_left]
    exact this
theorem vote_cells {h : Heap} {b o n k : Nat} {l : List Vote} (hc : cellsAt h b o (n * 2) = some (tcells l)) (hn : l.length = n) (hk : k < n) : Cells h b (o + k * 2) 2 (l.getD k zVote).cells := ⟨by
  rw [cellsAt_sub hc (by omega), tcells_at (by omega)]⟩
end Go.Proofs.YtbmpalbdbcjieaaGreat.A

namespace Go.Proofs.YtbmpalbdbcjieaaGreat.A
open Go.Proofs.YtbmpalbdbcjieaaGreat.K
open Go Go.Vm
set_option maxRecDepth 10000
set_option linter.unusedVariables false
structure Cm where
  height : Int
  hash : List UInt8
  votes : List Vote
abbrev Cm.cells (x : Cm) (sv : Value) : List Value := .int .i64 x.height :: (bcells x.hash ++ [sv])
abbrev zCm : Cm := ⟨0, zb32, []⟩
end Go.Proofs.YtbmpalbdbcjieaaGreat.A

namespace Go.Proofs.YtbmpalbdbcjieaaGreat.A
open Go.Proofs.YtbmpalbdbcjieaaGreat.K
open Go Go.Vm
set_option maxRecDepth 10000
set_option linter.unusedVariables false
def zeroHd : Hd := ⟨[], 0, 0, zb32, zb32, zb32, zb32⟩
theorem zeroHd_ok : zeroHd.ok := ⟨rfl, rfl, rfl, rfl⟩
end Go.Proofs.YtbmpalbdbcjieaaGreat.A

namespace Go.Proofs.YtbmpalbdbcjieaaGreat.A
open Go.Proofs.YtbmpalbdbcjieaaGreat.K
open Go Go.Vm
set_option maxRecDepth 10000
set_option linter.unusedVariables false
structure Bk where
  h : Hd
  c : Cm
  vals : List Val
abbrev zBk : Bk := ⟨zeroHd, zCm, []⟩
structure Bk.ok (x : Bk) : Prop where
  h : x.h.ok
  hash : x.c.hash.length = 32
  votes : x.c.votes.length ≤ 64
  vals : x.vals.length ≤ 64
abbrev Bk.cells (x : Bk) (sv sl : Value) : List Value := .string ⟨⟨x.h.chain⟩⟩ :: .int .i64 x.h.height :: .int .i64 x.h.time :: (bcells x.h.prev ++ (bcells x.h.vals ++ (bcells x.h.next ++ (bcells x.h.app ++ (.int .i64 x.c.height :: (bcells x.c.hash ++ [sv, sl]))))))
abbrev zBc : List Value := .string ⟨⟨[]⟩⟩ :: .int .i64 0 :: .int .i64 0 :: (z32 ++ (z32 ++ (z32 ++ (z32 ++ (.int .i64 0 :: (z32 ++ [.slice none 0 0, .slice none 0 0]))))))
structure BkOwn (h : Heap) (lo : Nat) (x : Bk) (sv sl : Value) : Prop where
  votes : Own h 2 sv (tcells x.c.votes) x.c.votes.length
  vals : Own h 5 sl (vcells x.vals) x.vals.length
  vnew : ∀ i, ownedBy sv i → lo ≤ i
  lnew : ∀ i, ownedBy sl i → lo ≤ i
  apart : ∀ i, ownedBy sv i → ¬ ownedBy sl i
theorem BkOwn.keep {S : Nat → Prop} {h h' : Heap} {lo : Nat} {x : Bk} {sv sl : Value} (hb : BkOwn h lo x sv sl) (hf : Fr S h h') (hs : ∀ i, S i → i < lo ∨ h.n ≤ i) : BkOwn h' lo x sv sl :=
  ⟨hb.votes.keep hf fun i hi h => (by have := hb.vnew i hi; have := hb.votes.lt hi; have := hs i h; omega), hb.vals.keep hf fun i hi h => (by have := hb.lnew i hi; have := hb.vals.lt hi; have := hs i h; omega), hb.vnew, hb.lnew, hb.apart⟩
theorem BkOwn.zero {h : Heap} {lo : Nat} : BkOwn h lo zBk (.slice none 0 0) (.slice none 0 0) := ⟨.none, .none, fun i hi => hi.elim, fun i hi => hi.elim, fun i hi => hi.elim⟩
end Go.Proofs.YtbmpalbdbcjieaaGreat.A

namespace Go.Proofs.YtbmpalbdbcjieaaGreat.A
open Go.Proofs.YtbmpalbdbcjieaaGreat.K
open Go Go.Vm
set_option maxRecDepth 10000
set_option linter.unusedVariables false
theorem SameVotes_same {h : Heap} {v w : Value} {l : List Vote} (hv : Rd h 2 v (tcells l) l.length) (hw : Rd h 2 w (tcells l) l.length) (hs : l.length < 1048576) :
    Runs Tryz.prog T0 (.fn fn_zhbQ) [v, w] h (fun r h' => r = .bool true ∧ h' = h) (fun _ _ => False) := by
  obtain ⟨a, cap, rfl, hlen, hc⟩ := hv
  obtain ⟨a', cap', rfl, hlen', hc'⟩ := hw
  refine zhbQ_runs ?_
  refine stpP ?_
  refine zhbQ_l0_rule (fun m v5 v6 h' => ∃ k : Nat, k ≤ l.length ∧ m = l.length - k ∧ v6 = .int .i64 k ∧ v5 = .bool true ∧ h' = h) ?_ l.length ⟨0, by omega, rfl, rfl, by simp, rfl⟩
  rintro m v5 v6 h' x12 x13 x14 x15 x16 x17 x18 x19 x20 x21 x22 x23 x24 x25 x26 x27 x28 x29 ⟨k, hk, rfl, rfl, rfl, rfl⟩
  refine stpP ?_
  refine C.if (fun hlt => ?_) (fun hge => ?_)
  · have hlt : k < l.length := by omega
    obtain ⟨b, o, sp, rfl, hb, hcc⟩ := hc (by omega)
    obtain ⟨b', o', sp', rfl, hb', hcc'⟩ := hc' (by omega)
    haveI := vote_cells hcc rfl hlt
    haveI := vote_cells hcc' rfl hlt
    refine stpP ?_
    rw [same_self]
    exact zhbQ_l0_again (l.length - (k + 1)) (by omega) ⟨k + 1, by omega, rfl, rfl, rfl, rfl⟩
  · refine stpP ?_
    exact ⟨rfl, rfl⟩
theorem SameCommit_same {h : Heap} {x : Cm} {sv sw : Value} (hl : x.hash.length = 32) (hs : x.votes.length < 1048576) (hv : Rd h 2 sv (tcells x.votes) x.votes.length) (hw : Rd h 2 sw (tcells x.votes) x.votes.length) :
    Runs Tryz.prog T0 (.fn fn_zfbQ) [.agg ⟨x.cells sv⟩, .agg ⟨x.cells sw⟩] h (fun r h' => r = .bool true ∧ Fr (fun _ => False) h h') (fun _ _ => False) := by
  haveI := l32 hl
  refine zfbQ_runs ?_
  refine stpP ?_
  refine O.dec (fun _ => ?_) (fun hh => absurd rfl hh)
  refine stpP ?_
  rw [same_self]
  refine stpP ?_
  refine O.callT (SameVotes_same (hv.keep (S := fun _ => False) Fr.refl.push.push fun _ _ => id) (hw.keep (S := fun _ => False) Fr.refl.push.push fun _ _ => id) hs) (fun r h1 hr => ?_)
  obtain ⟨rfl, rfl⟩ := hr
  refine stpP ?_
  exact ⟨rfl, Fr.refl.push.push⟩
theorem SameBlock_same {h : Heap} {x : Bk} {sv sl sw sm : Value} (hx : x.ok) (hv : Rd h 2 sv (tcells x.c.votes) x.c.votes.length) (hl : Rd h 5 sl (vcells x.vals) x.vals.length) (hw : Rd h 2 sw (tcells x.c.votes) x.c.votes.length) (hm : Rd h 5 sm (vcells x.vals) x.vals.length) :
    Runs Tryz.prog T0 (.fn fn_zebQ) [.agg ⟨x.cells sv sl⟩, .agg ⟨x.cells sw sm⟩] h (fun r h' => r = .bool true ∧ Fr (fun _ => False) h h') (fun _ _ => False) := by
  haveI := l32 hx.h.prev
  haveI := l32 hx.h.vals
  haveI := l32 hx.h.next
  haveI := l32 hx.h.app
  haveI := l32 hx.hash
  have hvo := hx.votes
  have hva := hx.vals
  refine zebQ_runs ?_
  refine stpP ?_
  generalize hh0 : (h.push (.cells (x.cells sv sl) 0)).push (.cells (x.cells sw sm) 0) = h0
  generalize hb : (h.push (.cells (x.cells sv sl) 0)).n = b
  have hf0 : Fr (fun _ => False) h h0 := by rw [← hh0]; exact Fr.refl.push.push
  have hA : HGet h0 h.n (.cells (x.cells sv sl) 0) := by rw [← hh0]; exact HGet.push (k := BLt.new) (g := HGet.new)
  have hB : HGet h0 b (.cells (x.cells sw sm) 0) := by rw [← hh0, ← hb]; exact HGet.new
  have hb' : b = h.n + 1 := by rw [← hb]; rfl
  have hn0 : h0.n = h.n + 2 := by rw [← hh0]; rfl
  clear hh0 hb
  haveI := hA
  haveI := hB
  rw [same_self]
  refine stpP ?_
  refine O.callT (SameCommit_same hx.hash (by omega) (hv.keep hf0 fun _ _ => id) (hw.keep hf0 fun _ _ => id)) (fun r h1 hr => ?_)
  obtain ⟨rfl, hf1⟩ := hr
  haveI := hf1.keep hA (by omega) id
  haveI := hf1.keep hB (by omega) id
  have hf01 := hf0.trans' hf1
  refine stpP ?_
  refine O.callT (SameVals_same (hl.keep hf01 fun _ _ => id) (hm.keep hf01 fun _ _ => id) (by omega)) (fun r h2 hr => ?_)
  obtain ⟨rfl, rfl⟩ := hr
  refine stpP ?_
  exact ⟨rfl, hf01⟩
theorem OverCommit_ok {h : Heap} {x : Cm} {sv : Value} {c : List Value} {n : Nat} (hl : x.hash.length = 32) (ho : Own h 2 sv c n) (hs : n < 1048576) :
    Runs Tryz.prog T0 (.fn fn_zcbQ) [.agg ⟨x.cells sv⟩] h (fun r h' => Fr (ownedBy sv) h h') (fun _ _ => False) := by
  haveI := l32 hl
  refine zcbQ_runs ?_
  cases ho with
  | none =>
    refine stpP ?_
    refine zcbQ_l0_rule (fun m v2 h' => v2 = .int .i64 0 ∧ h' = h.push (.cells (x.cells (.slice none 0 0)) 0)) ?_ 0 ⟨rfl, rfl⟩
    rintro m v2 h' x3 x4 x5 x6 x7 x8 x9 x10 x11 x12 x13 x14 ⟨rfl, rfl⟩
    refine stpP ?_
    exact Fr.refl.push
  | lit hq hg =>
    rename_i q es
    refine stpP ?_
    refine zcbQ_l0_rule (fun m v2 h' => v2 = .int .i64 0 ∧ h' = h.push (.cells (x.cells (.slice (some ⟨q, 0, none⟩) 0 0)) 0)) ?_ 0 ⟨rfl, rfl⟩
    rintro m v2 h' x3 x4 x5 x6 x7 x8 x9 x10 x11 x12 x13 x14 ⟨rfl, rfl⟩
    refine stpP ?_
    exact Fr.refl.push
  | grown hq hn hle hl2 hl3 hg =>
    rename_i q kk cap j
    refine stpP ?_
    refine zcbQ_l0_rule (fun m v2 h' => ∃ k : Nat, k ≤ n ∧ m = n - k ∧ v2 = .int .i64 k ∧ (∃ cs, h'.get q = .cells cs 2 ∧ cs.length = cap * 2) ∧ h'.get h.n = .cells (x.cells (.slice (some ⟨q, 0, some kk⟩) n cap)) 0 ∧ Fr (ownedBy (.slice (some ⟨q, 0, some kk⟩) n cap)) h h') ?_ n ⟨0, by omega, rfl, rfl, ⟨_, by rw [Heap.get_push, if_neg (by omega), hg], hl3⟩, by rw [Heap.get_push, if_pos rfl], Fr.refl.push⟩
    rintro m v2 h' x3 x4 x5 x6 x7 x8 x9 x10 x11 x12 x13 x14 ⟨k, hk, rfl, rfl, ⟨cs, hg', hcs⟩, hgb, hf⟩
    haveI : HGet h' q _ := ⟨hg'⟩
    haveI : HGet h' h.n _ := ⟨hgb⟩
    refine stpP ?_
    refine C.if (fun hlt => ?_) (fun hge => ?_)
    · refine stpP ?_
      refine O.by0 (mkStoreN (xs := [.int .i64 (-7), .int .u64 0]) (c := cs) (r := q) (es := 2) (by simp; omega) rfl rfl) rfl ?_
      refine stpP ?_
      refine zcbQ_l0_again (n - (k + 1)) (by omega) ⟨k + 1, by omega, rfl, rfl, ⟨_, by rw [Heap.get_set, if_pos rfl], ?_⟩, by rw [Heap.get_set, if_neg (by omega), hgb], Fr.set hf fun _ => rfl⟩
      rw [over_length _ _ _ (by simp; omega), hcs]
    · refine stpP ?_
      exact hf
theorem OverBlock_ok {h : Heap} {lo : Nat} {x : Bk} {sv sl : Value} (hx : x.ok) (hb : BkOwn h lo x sv sl) :
    Runs Tryz.prog T0 (.fn fn_zbbQ) [.agg ⟨x.cells sv sl⟩] h (fun r h' => Fr (fun i => lo ≤ i) h h') (fun _ _ => False) := by
  haveI := l32 hx.h.prev
  haveI := l32 hx.h.vals
  haveI := l32 hx.h.next
  haveI := l32 hx.h.app
  haveI := l32 hx.hash
  have hvo := hx.votes
  have hva := hx.vals
  have hlv := fun {i : Nat} (hi : ownedBy sv i) => hb.votes.lt hi
  have hll := fun {i : Nat} (hi : ownedBy sl i) => hb.vals.lt hi
  refine zbbQ_runs ?_
  refine stpP ?_
  refine O.call' (OverVals_ok (hb.vals.keep (S := fun _ => False) Fr.refl.push fun _ _ => id) (by omega)) (fun r h1 hr => ?_)
  have hf1 := hr
  have hn1 := hf1.n
  simp only [Heap.n_push] at hn1
  haveI hA := hf1.keep (b := h.n) (HGet.new (h := h) (o := .cells (x.cells sv sl) 0)) (by simp) (fun hi => by have := hll hi; omega)
  refine stpP ?_
  refine O.call' (OverCommit_ok hx.hash ((hb.votes.keep (S := fun _ => False) Fr.refl.push fun _ _ => id).keep hf1 hb.apart) (by omega)) (fun r h2 hr => ?_)
  have hf2 := hr
  refine stpP ?_
  refine Fr.trans (S := fun i => lo ≤ i) (Fr.trans (S := fun i => lo ≤ i) Fr.refl.push hf1 fun i _ hi => hb.lnew i hi) hf2 fun i _ hi => hb.vnew i hi
end Go.Proofs.YtbmpalbdbcjieaaGreat.A

namespace Go.Proofs.YtbmpalbdbcjieaaGreat.A
open Go.Proofs.YtbmpalbdbcjieaaGreat.K
open Go Go.Vm
set_option maxRecDepth 10000
set_option linter.unusedVariables false
theorem appendLitV {P : Program} {T : Table} {ts : List Value} {ds : List Deferred} {h : Heap} {rd : Option Nat} {dst bytes el : Nat} {x y : Operand} {chk : List (Option Nat × AOp × Option (Nat × Bool))} {pan : Bool} {rest : List AOper} {Q : QP} {F : Value → List Value} {w : Value} {l : List Val}
    [e1 : Ev ts x (.slice (some ⟨h.n, 0, none⟩) 0 0)] [e2 : Ev ts y w] [s : LSetF ts dst F] (hv : Rd h 5 w (vcells l) l.length) (hs : l.length < 1048576) (hb : bytes < 1048576)
    (hk : ∀ v' h', Own h' 5 v' (vcells l) l.length → Fr (fun _ => False) h h' → (∀ i, ownedBy v' i → h.n ≤ i) → RunO P T rest ⟨F v', ds, h', rd⟩ Q) :
    RunO P T (⟨some dst, .append el 5 bytes [.int .u8 0, .int .u8 0, .int .u8 0, .int .u8 0, .int .i64 0] false x y, none, chk, pan⟩ :: rest) ⟨ts, ds, h.push (.cells [] 0), rd⟩ Q := by
  have f0 : Fr (fun _ => False) h (h.push (.cells [] 0)) := Fr.refl.push
  have hz : Own (h.push (.cells [] 0)) 5 (.slice (some ⟨h.n, 0, none⟩) 0 0) [] 0 := .lit (by simp) (by rw [Heap.get_push, if_pos rfl])
  refine O.append hz ((hv.keep f0 fun _ _ => id).new _) (vcells_len l) (vcells_one l) (by omega) (by omega) (by omega) (fun v' h' h1 h2 h3 => ?_)
  rw [Nat.zero_add, List.nil_append] at h1
  refine hk v' h' h1 (f0.trans (S := fun _ => False) h2 fun i hi ho => ?_) fun i hi => ?_
  · have : h.n = i := ho
    omega
  · rcases h3 i hi with h4 | h4
    · have : h.n = i := h4
      omega
    · simp at h4; omega
theorem CloneV_ok {h : Heap} {v : Value} {l : List Val} (hr : Rd h 5 v (vcells l) l.length) (hs : l.length < 1048576) :
    Runs Tryz.prog T0 (.fn fn_zkcQ) [v] h
      (fun r h' => Own h' 5 r (vcells l) l.length ∧ Fr (fun _ => False) h h' ∧ ∀ i, ownedBy r i → h.n ≤ i) (fun _ _ => False) := by
  have hr0 := hr
  obtain ⟨a, cap, rfl, hlen, hc⟩ := hr
  refine zkcQ_runs ?_
  cases a with
  | none =>
    have hl : l = [] := by
      cases l with
      | nil => rfl
      | cons b l => obtain ⟨_, _, _, h1, _⟩ := hc (by simp); cases h1
    subst hl
    refine stp ?_
    exact ⟨.none, Fr.refl, fun i hi => hi.elim⟩
  | some a =>
    refine stp ?_
    refine appendLitV hr0 hs (by omega) (fun v' h' h1 h2 h3 => ?_)
    refine stp ?_
    exact ⟨h1, h2, h3⟩
theorem CopyVals_ok {h : Heap} {v : Value} {l : List Val} (hr : Rd h 5 v (vcells l) l.length) (hs : l.length < 1048576) :
    Runs Tryz.prog T0 (.fn fn_zabQ) [v] h
      (fun r h' => Own h' 5 r (vcells l) l.length ∧ Fr (fun _ => False) h h' ∧ ∀ i, ownedBy r i → h.n ≤ i) (fun _ _ => False) := by
  have hr0 := hr
  obtain ⟨a, cap, rfl, hlen, hc⟩ := hr
  refine zabQ_runs ?_
  refine stp ?_
  refine appendLitV hr0 hs (by omega) (fun v' h' h1 h2 h3 => ?_)
  refine stp ?_
  exact ⟨h1, h2, h3⟩
end Go.Proofs.YtbmpalbdbcjieaaGreat.A

namespace Go.Proofs.YtbmpalbdbcjieaaGreat.A
open Go.Proofs.YtbmpalbdbcjieaaGreat.K
open Go Go.Vm
set_option maxRecDepth 10000
set_option linter.unusedVariables false
def makeS (x : Hd) (l : List Val) : Bk × Int :=
  if checkV l ≠ 0 then (zBk, checkV l) else
  if checkS { x with vals := sumS (encV l) } ≠ 0 then (zBk, checkS { x with vals := sumS (encV l) }) else
  (⟨{ x with vals := sumS (encV l) }, ⟨x.height, sumS (72 :: encS { x with vals := sumS (encV l) }), []⟩, l⟩, 0)
theorem Make_ok {h : Heap} {x : Hd} {v : Value} {l : List Val} (hx : x.ok) (hv : Rd h 5 v (vcells l) l.length) (hs : l.length < 1048576) :
    Runs Tryz.prog T0 (.fn fn_zlQ) [.agg ⟨x.cells⟩, v] h
    (fun r h' => ∃ sl, r = .tuple ⟨[.agg ⟨(makeS x l).1.cells (.slice none 0 0) sl⟩, .int .i64 (makeS x l).2]⟩ ∧ BkOwn h' h.n (makeS x l).1 (.slice none 0 0) sl ∧ Fr (fun _ => False) h h') (fun _ _ => False) := by
  haveI := l32 hx.prev
  haveI := l32 hx.vals
  haveI := l32 hx.next
  haveI := l32 hx.app
  have hv0 := hv
  obtain ⟨a, cap, rfl, hlen, hc⟩ := hv
  refine zlQ_runs ?_
  refine stp ?_
  generalize hb1 : (h.push (.cells x.cells 0)).n = b1
  have hb1' : b1 = h.n + 1 := by rw [← hb1]; rfl
  clear hb1
  generalize hh0 : (h.push (.cells x.cells 0)).push (.cells zBc 0) = h0
  have f0 : Fr (fun _ => False) h h0 := by rw [← hh0]; exact Fr.refl.push.push
  have n0 : h0.n = h.n + 2 := by rw [← hh0]; rfl
  have gA0 : HGet h0 h.n (.cells x.cells 0) := by rw [← hh0]; exact HGet.push (k := BLt.new) (g := HGet.new)
  have gB0 : HGet h0 b1 (.cells zBc 0) := ⟨by rw [← hh0, Heap.get_push, if_pos (by simp; omega)]⟩
  clear hh0
  unfold makeS
  refine O.call' (VHash_ok (hv0.keep f0 fun _ _ => id)) (fun r h1 hr => ?_)
  obtain ⟨rfl, hf1⟩ := hr
  have n1 := hf1.n
  have gA1 := hf1.keep gA0 (by omega) id
  have gB1 := hf1.keep gB0 (by omega) id
  have f1 := f0.trans' hf1
  haveI := gA1
  haveI := gB1
  have hvl : (if checkV l = 0 then sumS (encV l) else zb32).length = 32 := by
    split
    · exact sumS_len _
    · rfl
  haveI := l32 hvl
  haveI : BLt h.n h1 := ⟨by omega⟩
  haveI : BLt b1 h1 := ⟨by omega⟩
  haveI : BNe h.n b1 := ⟨by omega⟩
  haveI : BNe b1 h.n := ⟨by omega⟩
  refine stp ?_
  refine C.ifN (fun hz => ?_) (fun hz => ?_)
  · refine stp ?_
    rw [if_pos hz]
    exact ⟨.slice none 0 0, rfl, BkOwn.zero, Fr.set f1.push fun h => by omega⟩
  · rw [if_pos hz] at *
    rw [if_neg (fun h => h hz)]
    refine stp ?_
    obtain ⟨y, hy⟩ : ∃ y : Hd, y = { x with vals := sumS (encV l) } := ⟨_, rfl⟩
    have hyo : y.ok := by rw [hy]; exact ⟨hx.prev, sumS_len _, hx.next, hx.app⟩
    rw [show (Value.string { data := { toList := x.chain } } :: Value.int IntKind.i64 x.height :: Value.int IntKind.i64 x.time :: (bcells x.prev ++ (bcells (sumS (encV l)) ++ (bcells x.next ++ bcells x.app)))) = y.cells from by rw [hy], ← hy]
    generalize hh2 : (h1.push (.cells (bcells (sumS (encV l))) 0)).set h.n (.cells y.cells 0) = h2
    have f2 : Fr (fun _ => False) h h2 := by rw [← hh2]; exact Fr.set f1.push fun h => by omega
    have n2 : h2.n = h1.n + 1 := by rw [← hh2]; simp
    have gA2 : HGet h2 h.n (.cells y.cells 0) := ⟨by rw [← hh2, Heap.get_set, if_pos rfl]⟩
    have gB2 : HGet h2 b1 (.cells zBc 0) := ⟨by rw [← hh2, Heap.get_set, if_neg (by omega), Heap.get_push, if_neg (by omega), gB1.eq]⟩
    clear hh2
    haveI := l32 hyo.prev
    haveI := l32 hyo.vals
    haveI := l32 hyo.next
    haveI := l32 hyo.app
    refine O.call' (HHash_ok hyo) (fun r h3 hr => ?_)
    obtain ⟨rfl, hf3⟩ := hr
    have n3 := hf3.n
    have gA3 := hf3.keep gA2 (by omega) id
    have gB3 := hf3.keep gB2 (by omega) id
    have f3 := f2.trans' hf3
    haveI := gA3
    haveI := gB3
    have hwl : (if checkS y = 0 then sumS (72 :: encS y) else zb32).length = 32 := by
      split
      · exact sumS_len _
      · rfl
    haveI := l32 hwl
    haveI : BLt h.n h3 := ⟨by omega⟩
    haveI : BLt b1 h3 := ⟨by omega⟩
    refine stp ?_
    refine C.ifN (fun hc => ?_) (fun hc => ?_)
    · refine stp ?_
      rw [if_pos hc]
      exact ⟨.slice none 0 0, rfl, BkOwn.zero, Fr.set f3.push fun h => by omega⟩
    · rw [if_pos hc] at *
      rw [if_neg (fun h => h hc)]
      refine stp ?_
      have hrd : Rd (h3.push (.cells (bcells (sumS (72 :: encS y))) 0)) 5 (.slice a l.length cap) (vcells l) l.length := (hv0.keep f3 fun _ _ => id).keep (S := fun _ => False) Fr.refl.push fun _ _ => id
      have gC3 : HGet (h3.push (.cells (bcells (sumS (72 :: encS y))) 0)) h3.n (.cells (bcells (sumS (72 :: encS y))) 0) := HGet.new
      have gA3' : HGet (h3.push (.cells (bcells (sumS (72 :: encS y))) 0)) h.n (.cells y.cells 0) := inferInstance
      have gB3' : HGet (h3.push (.cells (bcells (sumS (72 :: encS y))) 0)) b1 (.cells zBc 0) := inferInstance
      refine D.callX (CloneV_ok hrd hs) (fun r h4 hr => ?_) (fun r h4 hr => ?_) (fun _ _ hx => hx.elim)
      · obtain ⟨ho, hf4, hnew⟩ := hr
        haveI := hf4.keep gA3' (by simp; omega) id
        haveI := hf4.keep gB3' (by simp; omega) id
        haveI := hf4.keep gC3 (by simp) id
        exact StabL.ok
      · obtain ⟨ho, hf4, hnew⟩ := hr
        have n4 := hf4.n
        simp only [Heap.n_push] at n4
        haveI := hf4.keep gA3' (by simp; omega) id
        haveI := hf4.keep gB3' (by simp; omega) id
        haveI := hf4.keep gC3 (by simp) id
        haveI : BLt b1 h4 := ⟨by omega⟩
        obtain ⟨a4, cap4, rfl, hl4, _⟩ := ho.rd
        refine stp ?_
        have hh : y.height = x.height := by rw [hy]
        have f4 : Fr (fun _ => False) h h4 := Fr.trans (S := fun _ => False) f3 (Fr.trans (S := fun _ => False) Fr.refl.push hf4 fun _ _ h => h) fun _ _ h => h
        rw [← hh]
        refine ⟨.slice a4 l.length cap4, rfl, ⟨.none, ho.keep (S := fun i => i = b1) (Fr.refl.set fun _ => rfl) fun i hi e => ?_, fun i hi => hi.elim, fun i hi => ?_, fun i hi => hi.elim⟩, Fr.set f4 fun h => by omega⟩
        · have := hnew i hi; simp at this; omega
        · have := hnew i hi; simp at this; omega
end Go.Proofs.YtbmpalbdbcjieaaGreat.A

namespace Go.Proofs.YtbmpalbdbcjieaaGreat.A
open Go.Proofs.YtbmpalbdbcjieaaGreat.K
open Go Go.Vm
set_option maxRecDepth 10000
set_option linter.unusedVariables false
theorem RMake_ok {h : Heap} {x : Hd} {v : Value} {l : List Val} (hx : x.ok) (hv : Rd h 5 v (vcells l) l.length) (hs : l.length < 1048576) (hch : x.chain.length < 1048576) :
    Runs Tryz.prog T0 (.fn fn_zicQ) [.agg ⟨x.cells⟩, v] h
    (fun r h' => ∃ sl, r = .tuple ⟨[.agg ⟨(makeS x l).1.cells (.slice none 0 0) sl⟩, .int .i64 (makeS x l).2]⟩ ∧ BkOwn h' h.n (makeS x l).1 (.slice none 0 0) sl ∧ Fr (fun _ => False) h h') (fun _ _ => False) := by
  haveI := l32 hx.prev
  haveI := l32 hx.vals
  haveI := l32 hx.next
  haveI := l32 hx.app
  have hv0 := hv
  obtain ⟨a, cap, rfl, hlen, hc⟩ := hv
  refine zicQ_runs ?_
  refine stp ?_
  generalize hb1 : (h.push (.cells x.cells 0)).n = b1
  have hb1' : b1 = h.n + 1 := by rw [← hb1]; rfl
  clear hb1
  generalize hh0 : (h.push (.cells x.cells 0)).push (.cells zBc 0) = h0
  have f0 : Fr (fun _ => False) h h0 := by rw [← hh0]; exact Fr.refl.push.push
  have n0 : h0.n = h.n + 2 := by rw [← hh0]; rfl
  have gA0 : HGet h0 h.n (.cells x.cells 0) := by rw [← hh0]; exact HGet.push (k := BLt.new) (g := HGet.new)
  have gB0 : HGet h0 b1 (.cells zBc 0) := ⟨by rw [← hh0, Heap.get_push, if_pos (by simp; omega)]⟩
  clear hh0
  unfold makeS
  refine O.call' (RVHash_ok (hv0.keep f0 fun _ _ => id) hs) (fun r h1 hr => ?_)
  obtain ⟨rfl, hf1⟩ := hr
  have n1 := hf1.n
  have gA1 := hf1.keep gA0 (by omega) id
  have gB1 := hf1.keep gB0 (by omega) id
  have f1 := f0.trans' hf1
  haveI := gA1
  haveI := gB1
  have hvl : (if checkV l = 0 then sumS (encV l) else zb32).length = 32 := by
    split
    · exact sumS_len _
    · rfl
  haveI := l32 hvl
  haveI : BLt h.n h1 := ⟨by omega⟩
  haveI : BLt b1 h1 := ⟨by omega⟩
  haveI : BNe h.n b1 := ⟨by omega⟩
  haveI : BNe b1 h.n := ⟨by omega⟩
  refine stp ?_
  refine C.ifN (fun hz => ?_) (fun hz => ?_)
  · refine stp ?_
    rw [if_pos hz]
    exact ⟨.slice none 0 0, rfl, BkOwn.zero, Fr.set f1.push fun h => by omega⟩
  · rw [if_pos hz] at *
    rw [if_neg (fun h => h hz)]
    refine stp ?_
    obtain ⟨y, hy⟩ : ∃ y : Hd, y = { x with vals := sumS (encV l) } := ⟨_, rfl⟩
    have hyo : y.ok := by rw [hy]; exact ⟨hx.prev, sumS_len _, hx.next, hx.app⟩
    rw [show (Value.string { data := { toList := x.chain } } :: Value.int IntKind.i64 x.height :: Value.int IntKind.i64 x.time :: (bcells x.prev ++ (bcells (sumS (encV l)) ++ (bcells x.next ++ bcells x.app)))) = y.cells from by rw [hy], ← hy]
    generalize hh2 : (h1.push (.cells (bcells (sumS (encV l))) 0)).set h.n (.cells y.cells 0) = h2
    have f2 : Fr (fun _ => False) h h2 := by rw [← hh2]; exact Fr.set f1.push fun h => by omega
    have n2 : h2.n = h1.n + 1 := by rw [← hh2]; simp
    have gA2 : HGet h2 h.n (.cells y.cells 0) := ⟨by rw [← hh2, Heap.get_set, if_pos rfl]⟩
    have gB2 : HGet h2 b1 (.cells zBc 0) := ⟨by rw [← hh2, Heap.get_set, if_neg (by omega), Heap.get_push, if_neg (by omega), gB1.eq]⟩
    clear hh2
    haveI := l32 hyo.prev
    haveI := l32 hyo.vals
    haveI := l32 hyo.next
    haveI := l32 hyo.app
    refine O.call' (RHash6_ok hyo (by rw [hy]; exact hch)) (fun r h3 hr => ?_)
    obtain ⟨rfl, hf3⟩ := hr
    have n3 := hf3.n
    have gA3 := hf3.keep gA2 (by omega) id
    have gB3 := hf3.keep gB2 (by omega) id
    have f3 := f2.trans' hf3
    haveI := gA3
    haveI := gB3
    have hwl : (if checkS y = 0 then sumS (72 :: encS y) else zb32).length = 32 := by
      split
      · exact sumS_len _
      · rfl
    haveI := l32 hwl
    haveI : BLt h.n h3 := ⟨by omega⟩
    haveI : BLt b1 h3 := ⟨by omega⟩
    refine stp ?_
    refine C.ifN (fun hc => ?_) (fun hc => ?_)
    · refine stp ?_
      rw [if_pos hc]
      exact ⟨.slice none 0 0, rfl, BkOwn.zero, Fr.set f3.push fun h => by omega⟩
    · rw [if_pos hc] at *
      rw [if_neg (fun h => h hc)]
      refine stp ?_
      have hrd : Rd (h3.push (.cells (bcells (sumS (72 :: encS y))) 0)) 5 (.slice a l.length cap) (vcells l) l.length := (hv0.keep f3 fun _ _ => id).keep (S := fun _ => False) Fr.refl.push fun _ _ => id
      have gC3 : HGet (h3.push (.cells (bcells (sumS (72 :: encS y))) 0)) h3.n (.cells (bcells (sumS (72 :: encS y))) 0) := HGet.new
      have gA3' : HGet (h3.push (.cells (bcells (sumS (72 :: encS y))) 0)) h.n (.cells y.cells 0) := inferInstance
      have gB3' : HGet (h3.push (.cells (bcells (sumS (72 :: encS y))) 0)) b1 (.cells zBc 0) := inferInstance
      refine D.callX (CopyVals_ok hrd hs) (fun r h4 hr => ?_) (fun r h4 hr => ?_) (fun _ _ hx => hx.elim)
      · obtain ⟨ho, hf4, hnew⟩ := hr
        haveI := hf4.keep gA3' (by simp; omega) id
        haveI := hf4.keep gB3' (by simp; omega) id
        haveI := hf4.keep gC3 (by simp) id
        exact StabL.ok
      · obtain ⟨ho, hf4, hnew⟩ := hr
        have n4 := hf4.n
        simp only [Heap.n_push] at n4
        haveI := hf4.keep gA3' (by simp; omega) id
        haveI := hf4.keep gB3' (by simp; omega) id
        haveI := hf4.keep gC3 (by simp) id
        haveI : BLt b1 h4 := ⟨by omega⟩
        obtain ⟨a4, cap4, rfl, hl4, _⟩ := ho.rd
        refine stp ?_
        have hh : y.height = x.height := by rw [hy]
        have f4 : Fr (fun _ => False) h h4 := Fr.trans (S := fun _ => False) f3 (Fr.trans (S := fun _ => False) Fr.refl.push hf4 fun _ _ h => h) fun _ _ h => h
        rw [← hh]
        refine ⟨.slice a4 l.length cap4, rfl, ⟨.none, ho.keep (S := fun i => i = b1) (Fr.refl.set fun _ => rfl) fun i hi e => ?_, fun i hi => hi.elim, fun i hi => ?_, fun i hi => hi.elim⟩, Fr.set f4 fun h => by omega⟩
        · have := hnew i hi; simp at this; omega
        · have := hnew i hi; simp at this; omega
end Go.Proofs.YtbmpalbdbcjieaaGreat.A

namespace Go.Proofs.YtbmpalbdbcjieaaGreat.A
open Go.Proofs.YtbmpalbdbcjieaaGreat.K
open Go Go.Vm
set_option maxRecDepth 10000
set_option linter.unusedVariables false
theorem makeS_ok {x : Hd} {l : List Val} (hx : x.ok) : (makeS x l).1.ok := by
  have hz : zBk.ok := ⟨zeroHd_ok, rfl, by simp, by simp⟩
  unfold makeS
  by_cases h1 : checkV l = 0
  · rw [if_neg (fun h => h h1)]
    by_cases h2 : checkS { x with vals := sumS (encV l) } = 0
    · rw [if_neg (fun h => h h2)]
      exact ⟨⟨hx.prev, sumS_len _, hx.next, hx.app⟩, sumS_len _, by simp, (checkV_ok h1).2.1⟩
    · rw [if_pos h2]; exact hz
  · rw [if_pos h1]; exact hz
set_option maxHeartbeats 4000000 in
theorem BlockMakes_true {h : Heap} {x : Hd} {v : Value} {l : List Val} (hx : x.ok) (hv : Rd h 5 v (vcells l) l.length) :
    Runs Tryz.prog T0 (.fn fn_zibQ) [.agg ⟨x.cells⟩, v] h (fun r h' => r = .bool true) (fun _ _ => False) := by
  haveI := l32 hx.prev
  haveI := l32 hx.vals
  haveI := l32 hx.next
  haveI := l32 hx.app
  have hv0 := hv
  obtain ⟨a, cap, rfl, hlen, _⟩ := hv
  have hsz : (ByteArray.mk ⟨x.chain⟩).size = x.chain.length := rfl
  refine zibQ_runs ?_
  refine stp ?_
  have aw : ∀ {ts : List Value} {hh : Heap}, True := trivial
  refine O.dec (fun h1 => ?_) (fun h1 => ?_)
  · refine stp ?_
    refine O.call' zjbQ_known (fun r h1 hr => ?_)
    obtain ⟨rfl, rfl⟩ := hr
    refine stp ?_
    rfl
  refine stp ?_
  refine C.if (fun h2 => ?_) (fun h2 => ?_)
  · refine stp ?_
    refine O.call' zjbQ_known (fun r h1 hr => ?_)
    obtain ⟨rfl, rfl⟩ := hr
    refine stp ?_
    rfl
  refine stp ?_
  have f0 : Fr (fun _ => False) h (h.push (.cells x.cells 0)) := Fr.refl.push
  have gA0 : HGet (h.push (.cells x.cells 0)) h.n (.cells x.cells 0) := HGet.new
  have n0 : (h.push (.cells x.cells 0)).n = h.n + 1 := rfl
  generalize h.push (.cells x.cells 0) = h0 at *
  refine O.call' (CopyVals_ok (hv0.keep f0 fun _ _ => id) (by omega)) (fun r h1 hr => ?_)
  obtain ⟨ho1, hf1, hnew1⟩ := hr
  have n1 := hf1.n
  have gA1 := hf1.keep gA0 (by omega) id
  have f1 := f0.trans' hf1
  haveI := gA1
  obtain ⟨a1, cap1, rfl, hl1, _⟩ := id ho1.rd
  refine stp ?_
  refine O.call' (Make_ok hx ho1.rd (by omega)) (fun r h2 hr => ?_)
  obtain ⟨sl, rfl, hb2, hf2⟩ := hr
  have k5 := fun {hh : Heap} (hr : Rd hh 5 (.slice a l.length cap) (vcells l) l.length) => RMake_ok (h := hh) hx hr (by omega) (by omega)
  have hok := makeS_ok (l := l) hx
  generalize makeS x l = D at *
  obtain ⟨X, e⟩ := D
  simp only at hb2 k5 hok ⊢
  have n2 := hf2.n
  obtain ⟨al, cl, rfl, _, _⟩ := hb2.vals.rd
  haveI := l32 hok.h.prev
  haveI := l32 hok.h.vals
  haveI := l32 hok.h.next
  haveI := l32 hok.h.app
  haveI := l32 hok.hash
  have gA2 := hf2.keep gA1 (by omega) id
  haveI := gA2
  refine stp ?_
  have f23 : Fr (fun _ => False) h2 (h2.push (.cells (X.cells (.slice none 0 0) (.slice al X.vals.length cl)) 0)) := Fr.refl.push
  have gA3 : HGet (h2.push (.cells (X.cells (.slice none 0 0) (.slice al X.vals.length cl)) 0)) h.n (.cells x.cells 0) := f23.keep gA2 (by omega) id
  have gX3 : HGet (h2.push (.cells (X.cells (.slice none 0 0) (.slice al X.vals.length cl)) 0)) h2.n (.cells (X.cells (.slice none 0 0) (.slice al X.vals.length cl)) 0) := HGet.new
  have n3 : (h2.push (.cells (X.cells (.slice none 0 0) (.slice al X.vals.length cl)) 0)).n = h2.n + 1 := rfl
  generalize (h2.push (.cells (X.cells (.slice none 0 0) (.slice al X.vals.length cl)) 0)) = h3 at *
  haveI := gA3
  refine stp ?_
  refine O.call' (k5 (((hv0.keep f1 fun _ _ => id).keep hf2 fun _ _ => id).keep f23 fun _ _ => id)) (fun r h4 hr => ?_)
  obtain ⟨sm, rfl, hb4, hf4⟩ := hr
  have n4 := hf4.n
  obtain ⟨am, cm, rfl, _, _⟩ := hb4.vals.rd
  have gX4 := hf4.keep gX3 (by omega) id
  haveI := gX4
  refine stp ?_
  have f45 : Fr (fun _ => False) h4 (h4.push (.cells (X.cells (.slice none 0 0) (.slice am X.vals.length cm)) 0)) := Fr.refl.push
  have gX5 : HGet (h4.push (.cells (X.cells (.slice none 0 0) (.slice am X.vals.length cm)) 0)) h2.n (.cells (X.cells (.slice none 0 0) (.slice al X.vals.length cl)) 0) := f45.keep gX4 (by omega) id
  have gY5 : HGet (h4.push (.cells (X.cells (.slice none 0 0) (.slice am X.vals.length cm)) 0)) h4.n (.cells (X.cells (.slice none 0 0) (.slice am X.vals.length cm)) 0) := HGet.new
  have n5 : (h4.push (.cells (X.cells (.slice none 0 0) (.slice am X.vals.length cm)) 0)).n = h4.n + 1 := rfl
  generalize (h4.push (.cells (X.cells (.slice none 0 0) (.slice am X.vals.length cm)) 0)) = h5 at *
  haveI := gX5
  haveI := gY5
  refine stp ?_
  have f25 := (f23.trans' hf4).trans' f45
  have hb25 := hb2.keep f25 fun i h => h.elim
  have hb45 := hb4.keep f45 fun i h => h.elim
  refine O.call' (SameBlock_same hok hb25.votes.rd hb25.vals.rd hb45.votes.rd hb45.vals.rd) (fun r h6 hr => ?_)
  obtain ⟨rfl, hf6⟩ := hr
  have n6 := hf6.n
  have gX6 := hf6.keep gX5 (by omega) id
  haveI := gX6
  refine stp ?_
  simp only [eq_self, decide_true]
  refine O.call' (OverBlock_ok hok (hb25.keep hf6 fun i h => h.elim)) (fun r h7 hr => ?_)
  have hf7 := hr
  have n7 := hf7.n
  refine stp ?_
  have f17 : Fr (fun i => h1.n ≤ i) h1 h7 := Fr.trans (S := fun i => h1.n ≤ i) (((hf2.trans' f25).trans' hf6).mono fun _ _ h => h.elim) hf7 fun _ _ h => h
  refine O.callT (SameVals_same (ho1.rd.keep f17 fun i hi h => ?_) ((hv0.keep f1 fun _ _ => id).keep f17 fun i hi h => ?_) (by omega)) (fun r h8 hr => ?_)
  · have := Rd.block_lt ho1.rd hi; omega
  · have := Rd.block_lt (hv0.keep f1 fun _ _ => id) hi; omega
  obtain ⟨rfl, rfl⟩ := hr
  refine stp ?_
  refine O.callT zjbQ_known (fun r5 h9 hr => ?_)
  obtain ⟨rfl, rfl⟩ := hr
  refine stp ?_
  rfl
end Go.Proofs.YtbmpalbdbcjieaaGreat.A

namespace Go.Proofs.YtbmpalbdbcjieaaGreat.A
open Go.Proofs.YtbmpalbdbcjieaaGreat.K
open Go Go.Vm
set_option maxRecDepth 10000
set_option linter.unusedVariables false
theorem fits_bytes {h : Heap} {m : Nat} {te : TypeId} {c : List Value} {len : Nat} (hu : Tryz.prog.underlying te = some (.int .u8)) (hs : Tryz.prog.cellsOf te = 1) (hl : c.length = len * Tryz.prog.cellsOf te) (hall : ∀ i, i < len → Fits Tryz.prog h (m + 1) te ((c.drop (i * Tryz.prog.cellsOf te)).take (Tryz.prog.cellsOf te))) : ∃ bs : List UInt8, c = bcells bs ∧ bs.length = len := by
  rw [hs, Nat.mul_one] at hl
  induction c generalizing len with
  | nil => exact ⟨[], rfl, by simpa using hl⟩
  | cons v c ih =>
    cases len with
    | zero => simp at hl
    | succ len =>
      have h0 := hall 0 (by omega)
      rw [hs] at h0
      unfold Fits at h0
      rw [hu] at h0
      simp only [Nat.zero_mul, List.drop_zero, List.take_succ_cons, List.take_zero] at h0
      obtain ⟨x, hx, hwf⟩ := h0
      injection hx with hx _
      obtain ⟨bs, rfl, hb⟩ := ih (len := len) (by simpa using hl) fun i hi => by
        have := hall (i + 1) (by omega)
        rw [hs] at this ⊢
        simpa using this
      have hr : 0 ≤ x ∧ x ≤ 255 := by
        simp [Lit.wf, IntKind.min, IntKind.max, IntKind.signed, IntKind.bits] at hwf
        omega
      refine ⟨UInt8.ofNat x.toNat :: bs, ?_, by simp [hb]⟩
      rw [hx]
      show Value.int .u8 x :: bcells bs = Value.int .u8 ((UInt8.ofNat x.toNat).toNat : Nat) :: bcells bs
      rw [u8nat (by omega)]
      congr 2
      omega
end Go.Proofs.YtbmpalbdbcjieaaGreat.A

namespace Go.Proofs.YtbmpalbdbcjieaaGreat.A
open Go.Proofs.YtbmpalbdbcjieaaGreat.K
open Go Go.Vm
set_option maxRecDepth 10000
set_option linter.unusedVariables false
theorem fits_flat32 {h : Heap} {m : Nat} {t te : TypeId} {c : List Value} (ht : Tryz.prog.underlying t = some (.array 32 te)) (hu : Tryz.prog.underlying te = some (.int .u8)) (hs : Tryz.prog.cellsOf te = 1) (hs32 : Tryz.prog.cellsOf t = 32) (hv : Fits Tryz.prog h (m + 2) t c) : ∃ bs : List UInt8, c = bcells bs ∧ bs.length = 32 := by
  unfold Fits at hv
  rw [ht] at hv
  exact fits_bytes hu hs (by rw [hv.1, hs32, hs]) hv.2
theorem fits_header {h : Heap} {m : Nat} {t ts ti th tb : TypeId} {c : List Value} (f0 : fieldAt Tryz.prog t 0 = some (0, ts)) (f1 : fieldAt Tryz.prog t 1 = some (1, ti)) (f2 : fieldAt Tryz.prog t 2 = some (2, ti)) (f3 : fieldAt Tryz.prog t 3 = some (3, th)) (f4 : fieldAt Tryz.prog t 4 = some (35, th)) (f5 : fieldAt Tryz.prog t 5 = some (67, th)) (f6 : fieldAt Tryz.prog t 6 = some (99, th))
    (us : Tryz.prog.underlying ts = some .string) (ui : Tryz.prog.underlying ti = some (.int .i64)) (uh : Tryz.prog.underlying th = some (.array 32 tb)) (ub : Tryz.prog.underlying tb = some (.int .u8)) (c0 : Tryz.prog.cellsOf ts = 1) (c1 : Tryz.prog.cellsOf ti = 1) (c3 : Tryz.prog.cellsOf th = 32) (cb : Tryz.prog.cellsOf tb = 1) (ct : Tryz.prog.cellsOf t = 131)
    (hv : Fits Tryz.prog h (m + 3) t c) : ∃ x : Hd, x.ok ∧ (-9223372036854775808 ≤ x.height ∧ x.height ≤ 9223372036854775807) ∧ (-9223372036854775808 ≤ x.time ∧ x.time ≤ 9223372036854775807) ∧ c = x.cells := by
  have hl := hv.len f0
  rw [ct] at hl
  obtain ⟨s, g0, _⟩ := (hv.field f0).str us
  obtain ⟨a, g1, w1⟩ := (hv.field f1).int ui
  obtain ⟨b, g2, w2⟩ := (hv.field f2).int ui
  obtain ⟨l3, g3, n3⟩ := fits_flat32 uh ub cb c3 (hv.field f3)
  obtain ⟨l4, g4, n4⟩ := fits_flat32 uh ub cb c3 (hv.field f4)
  obtain ⟨l5, g5, n5⟩ := fits_flat32 uh ub cb c3 (hv.field f5)
  obtain ⟨l6, g6, n6⟩ := fits_flat32 uh ub cb c3 (hv.field f6)
  rw [c0] at g0
  rw [c1] at g1 g2
  rw [c3] at g3 g4 g5 g6
  refine ⟨⟨s.data.toList, a, b, l3, l4, l5, l6⟩, ⟨n3, n4, n5, n6⟩, wf_i64 w1, wf_i64 w2, ?_⟩
  rw [← List.drop_zero (l := c), vsplit c 0 1, g0, vsplit c (0 + 1) 1, g1, vsplit c (0 + 1 + 1) 1, g2, vsplit c (0 + 1 + 1 + 1) 32, g3, vsplit c (0 + 1 + 1 + 1 + 32) 32, g4, vsplit c (0 + 1 + 1 + 1 + 32 + 32) 32, g5, vsplit c (0 + 1 + 1 + 1 + 32 + 32 + 32) 32, g6,
    show c.drop (0 + 1 + 1 + 1 + 32 + 32 + 32 + 32) = [] from List.drop_eq_nil_of_le (by omega), List.append_nil]
  rfl
end Go.Proofs.YtbmpalbdbcjieaaGreat.A

namespace Go.Proofs.YtbmpalbdbcjieaaGreat.A
open Go.Proofs.YtbmpalbdbcjieaaGreat.K
open Go Go.Vm
set_option maxRecDepth 10000
set_option linter.unusedVariables false
theorem four {l : List UInt8} (h : l.length = 4) : ∃ a b c d, l = [a, b, c, d] := by
  match l, h with
  | [a, b, c, d], _ => exact ⟨a, b, c, d, rfl⟩
end Go.Proofs.YtbmpalbdbcjieaaGreat.A

namespace Go.Proofs.YtbmpalbdbcjieaaGreat.A
open Go.Proofs.YtbmpalbdbcjieaaGreat.K
open Go Go.Vm
set_option maxRecDepth 100000
set_option linter.unusedVariables false
theorem vals_cells_fit {h : Heap} {m : Nat} {te tk tb ti : TypeId} (f0 : fieldAt Tryz.prog te 0 = some (0, tk)) (f1 : fieldAt Tryz.prog te 1 = some (4, ti)) (uk : Tryz.prog.underlying tk = some (.array 4 tb)) (ub : Tryz.prog.underlying tb = some (.int .u8)) (ui : Tryz.prog.underlying ti = some (.int .i64))
    (ce : Tryz.prog.cellsOf te = 5) (ck : Tryz.prog.cellsOf tk = 4) (cb : Tryz.prog.cellsOf tb = 1) (ci : Tryz.prog.cellsOf ti = 1) : ∀ (len : Nat) (c : List Value), c.length = len * 5 → (∀ i, i < len → Fits Tryz.prog h (m + 3) te ((c.drop (i * 5)).take 5)) →
    ∃ l : List Val, c = vcells l ∧ l.length = len ∧ ∀ v ∈ l, -9223372036854775808 ≤ v.p ∧ v.p ≤ 9223372036854775807
  | 0, c, hl, _ => ⟨[], by rw [vcells_nil]; simpa using hl, rfl, fun v hv => by cases hv⟩
  | len + 1, c, hl, hall => by
    have h0 := hall 0 (by omega)
    rw [Nat.zero_mul, List.drop_zero] at h0
    have hk := h0.field f0
    obtain ⟨p, g1, w1⟩ := (h0.field f1).int ui
    rw [ck] at hk
    rw [ci] at g1
    rw [List.drop_zero] at hk
    have h4 : (c.take 5).take 4 = c.take 4 := by rw [List.take_take]; rfl
    rw [h4] at hk
    have hb : ∃ bs : List UInt8, c.take 4 = bcells bs ∧ bs.length = 4 := by
      unfold Fits at hk
      rw [uk] at hk
      exact fits_bytes ub cb (by rw [hk.1, ck, cb]) hk.2
    obtain ⟨bs, hb1, hb2⟩ := hb
    obtain ⟨a0, a1, a2, a3, rfl⟩ := four hb2
    obtain ⟨l, e1, e2, e3⟩ := vals_cells_fit f0 f1 uk ub ui ce ck cb ci len (c.drop 5) (by rw [List.length_drop]; omega) fun i hi => by
      have := hall (i + 1) (by omega)
      rw [List.drop_drop]
      rw [show (i + 1) * 5 = 5 + i * 5 from by omega] at this
      exact this
    refine ⟨⟨a0, a1, a2, a3, p⟩ :: l, ?_, by simp [e2], fun v hv => ?_⟩
    · rw [vcells_cons, ← e1]
      have e5 : c = c.take 5 ++ c.drop 5 := (List.take_append_drop 5 c).symm
      have e6 : c.take 5 = c.take 4 ++ ((c.take 5).drop 4).take 1 := by
        have h1 : ((c.take 5).drop 4).take 1 = (c.take 5).drop 4 := List.take_of_length_le (by rw [List.length_drop, List.length_take]; omega)
        rw [h1, ← h4, List.take_append_drop]
      conv => lhs; rw [e5, e6, hb1, g1]
      rfl
    · rcases List.mem_cons.1 hv with rfl | hv
      · exact wf_i64 w1
      · exact e3 v hv
theorem fits_vlist {h : Heap} {m : Nat} {t te tk tb ti : TypeId} {v : Value} (ht : Tryz.prog.underlying t = some (.slice te)) (f0 : fieldAt Tryz.prog te 0 = some (0, tk)) (f1 : fieldAt Tryz.prog te 1 = some (4, ti)) (uk : Tryz.prog.underlying tk = some (.array 4 tb)) (ub : Tryz.prog.underlying tb = some (.int .u8)) (ui : Tryz.prog.underlying ti = some (.int .i64))
    (ce : Tryz.prog.cellsOf te = 5) (ck : Tryz.prog.cellsOf tk = 4) (cb : Tryz.prog.cellsOf tb = 1) (ci : Tryz.prog.cellsOf ti = 1) (hv : FitsV Tryz.prog h (m + 4) t v) : ∃ l : List Val, Rd h 5 v (vcells l) l.length ∧ ∀ v ∈ l, -9223372036854775808 ≤ v.p ∧ v.p ≤ 9223372036854775807 := by
  unfold FitsV at hv
  rw [ht] at hv
  unfold Fits at hv
  rw [ht] at hv
  rcases hv with hv | ⟨b, len, cap, c, hv, hb, hlc, hcap, hro, hl, hall⟩
  · injection hv with hv
    subst hv
    exact ⟨[], Rd.nil, fun v hv => by cases hv⟩
  · injection hv with hv
    subst hv
    rw [ce] at hl hall
    obtain ⟨l, rfl, e2, e3⟩ := vals_cells_fit f0 f1 uk ub ui ce ck cb ci len c hl hall
    refine ⟨l, ⟨_, _, by rw [e2], vcells_len l, fun hn => ⟨b, 0, none, rfl, hb, ?_⟩⟩, e3⟩
    rw [cellsAt_of (c := vcells l) (by rw [hro (by omega)]; rfl) (by rw [vcells_len]; omega), List.drop_zero, List.take_of_length_le (by rw [vcells_len]; omega)]
end Go.Proofs.YtbmpalbdbcjieaaGreat.A

namespace Go.Proofs.YtbmpalbdbcjieaaGreat.A
open Go.Proofs.YtbmpalbdbcjieaaGreat.K
open Go Go.Vm
set_option maxRecDepth 100000
set_option linter.unusedVariables false
theorem hd_fits' {h : Heap} {v : Value} (hv : FitsV Tryz.prog h 8 25 v) : ∃ x : Hd, x.ok ∧ (-9223372036854775808 ≤ x.height ∧ x.height ≤ 9223372036854775807) ∧ v = .agg ⟨x.cells⟩ := by
  have g0 : fieldAt Tryz.prog 25 0 = some (0, 9) := by kernel_rfl
  obtain ⟨cs, rfl, hc⟩ := FitsV.agg hv g0
  have g1 : fieldAt Tryz.prog 25 1 = some (1, 3) := by kernel_rfl
  have g2 : fieldAt Tryz.prog 25 2 = some (2, 3) := by kernel_rfl
  have g3 : fieldAt Tryz.prog 25 3 = some (3, 23) := by kernel_rfl
  have g4 : fieldAt Tryz.prog 25 4 = some (35, 23) := by kernel_rfl
  have g5 : fieldAt Tryz.prog 25 5 = some (67, 23) := by kernel_rfl
  have g6 : fieldAt Tryz.prog 25 6 = some (99, 23) := by kernel_rfl
  have u1 : Tryz.prog.underlying 9 = some .string := by kernel_rfl
  have u2 : Tryz.prog.underlying 3 = some (.int .i64) := by kernel_rfl
  have u3 : Tryz.prog.underlying 23 = some (.array 32 5) := by kernel_rfl
  have u4 : Tryz.prog.underlying 5 = some (.int .u8) := by kernel_rfl
  have c1 : Tryz.prog.cellsOf 9 = 1 := by kernel_rfl
  have c2 : Tryz.prog.cellsOf 3 = 1 := by kernel_rfl
  have c3 : Tryz.prog.cellsOf 23 = 32 := by kernel_rfl
  have c4 : Tryz.prog.cellsOf 5 = 1 := by kernel_rfl
  have c5 : Tryz.prog.cellsOf 25 = 131 := by kernel_rfl
  obtain ⟨x, hx, hh, _, hcs⟩ := fits_header (m := 5) g0 g1 g2 g3 g4 g5 g6 u1 u2 u3 u4 c1 c2 c3 c4 c5 hc
  exact ⟨x, hx, hh, by rw [hcs]⟩
end Go.Proofs.YtbmpalbdbcjieaaGreat.A

namespace Go.Proofs.YtbmpalbdbcjieaaGreat.A
open Go.Proofs.YtbmpalbdbcjieaaGreat.K
open Go Go.Vm
set_option maxRecDepth 100000
set_option linter.unusedVariables false
theorem BlockMakes_run (h : Heap) (vs : List Value) (hf : FitsAll Tryz.prog h 8 [25, 26] vs) : Runs Tryz.prog T0 (.fn fn_zibQ) vs h (fun r _ => r = .bool true) (fun _ _ => False) := by
  obtain ⟨v1, _, rfl, h1, hf⟩ := hf.cons
  obtain ⟨v2, _, rfl, h2, hf⟩ := hf.cons
  obtain rfl := hf.nil
  obtain ⟨x, hx, _, rfl⟩ := hd_fits' h1
  obtain ⟨l, hl, _⟩ := fits_vlist (m := 4) (te := 66) (tk := 64) (tb := 5) (ti := 3) (by kernel_rfl) (by kernel_rfl) (by kernel_rfl) (by kernel_rfl) (by kernel_rfl) (by kernel_rfl) (by kernel_rfl) (by kernel_rfl) (by kernel_rfl) (by kernel_rfl) h2
  exact BlockMakes_true hx hl
end Go.Proofs.YtbmpalbdbcjieaaGreat.A

namespace Go.Proofs.YtbmpalbdbcjieaaGreat.A
open Go Go.Vm
set_option maxRecDepth 100000
theorem ran_7 : allTrue (xcall Tryz.prog R.tab 1000 60 (.fn 7) [] Heap.init) = true := by kernel_rfl
theorem has_7 : (tableOf Tryz.prog 7).isSome = true := by kernel_rfl
theorem known : KnownAll Tryz.prog prims := ⟨⟨Option.isSome_iff_exists.1 has_7, fun w => known_calls (Checked.mixed Tryz.checked) R.tab_ok ran_7 w⟩, trivial⟩
theorem T0_ok : TableOK Tryz.prog T0 := withKept_ok (withTrue_ok known) fun k hk => by simp at hk
end Go.Proofs.YtbmpalbdbcjieaaGreat.A
