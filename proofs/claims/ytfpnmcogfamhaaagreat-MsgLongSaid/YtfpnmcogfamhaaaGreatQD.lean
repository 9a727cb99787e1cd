/- Contracts of functions, over the machine. -/
import Derived.Test.YtfpnmcogfamhaaaGreatQB
namespace Go.Proofs.YtfpnmcogfamhaaaGreat.A
open Go Go.Vm
set_option maxRecDepth 10000
set_option linter.unusedVariables false

theorem RWord_run {h : Heap} {p : Nat} {sv : Value} {bs : List UInt8} {st : RSt} (hp : RRs h p sv bs st) :
    Runs Tryz.prog T0 (.fn fn_lr04_Reader_Word) [.pointer (some ⟨p, 0, none⟩)] h (RReads h p sv bs (rd (wordS bs) 0 st) fun n r _ => r = .int .u64 (n : Nat)) (fun _ _ => False) := by
  obtain ⟨st1, e, fa⟩ := st
  obtain ⟨pl, h1, h2⟩ := hp.ex
  haveI : HGet h p _ := ⟨h2.get⟩
  refine lr04_Reader_Word_runs ?_
  repeat (first | refine O.one ?_ | refine O.nil ?_ | refine C.next ?_ | refine RunC.seq ?_ | refine RunC.region ?_)
  by_cases he : e = 0
  · subst he
    obtain ⟨rfl, h3⟩ := h1 rfl
    have h3 : fa = 0 := h3
    subst h3
    refine O.call' (Rtake_ok (n := 8) (a := pl) h2) (fun r h3 hq => ?_)
    obtain ⟨hf3, ⟨hle, ho, hnew, hr3⟩ | ⟨hlt3, rfl, hr3⟩⟩ := hq
    · generalize hd : (bs.drop pl).take 8 = d at ho
      have hdl : d.length = 8 := by rw [← hd, List.length_take, List.length_drop]; omega
      obtain ⟨a, cap, rfl, hl, hc⟩ := ho.rd
      obtain ⟨b, o, sp, rfl, hb, hcc⟩ := hc (by omega)
      rw [Nat.mul_one] at hcc
      repeat (first | refine O.one ?_ | refine O.nil ?_ | refine C.next ?_ | refine RunC.seq ?_ | refine RunC.region ?_ | refine RunC.block ?_)
      refine lr04_Reader_Word_l0_rule (fun m v3 v5 h' => ∃ i : Nat, i ≤ 8 ∧ m = 8 - i ∧ v5 = .int .i64 i ∧ v3 = .int .u64 (bigN (d.take i)) ∧ h3 = h') ?_ 8 ⟨0, by omega, rfl, rfl, rfl, rfl⟩
      rintro m v3 v5 h4 x12 x13 x14 x15 x16 x17 x18 x19 x20 x21 x22 x23 x24 x25 ⟨i, hi, rfl, rfl, rfl, rfl⟩
      repeat (first | refine O.one ?_ | refine O.nil ?_ | refine C.next ?_ | refine RunC.seq ?_ | refine RunC.region ?_)
      refine C.if (fun hlt => ?_) (fun hge => ?_)
      · haveI := byte_cell (k := i) hcc (by omega)
        have h8' := bigN_take_lt (l := d) (k := i) (by omega)
        have hbt2 := (d.getD i 0).toNat_lt
        have hs := bigN_take (l := d) (k := i) (by omega)
        repeat (first | refine O.one ?_ | refine C.next ?_ | refine RunC.seq ?_ | refine RunC.region ?_ | refine RunC.block ?_ | refine RunC.skip ?_)
        refine O.how (XOp.shl8 ⟨by omega, by omega⟩) ?_
        repeat (first | refine O.how (XOp.convU64 (by omega)) ?_ | refine O.one ?_ | refine O.how (XOp.mkIndexSl (by omega)) ?_)
        refine O.how (XOp.orByte (by omega) (by omega)) ?_
        repeat (first | refine O.how (XOp.addI (by omega)) ?_ | refine O.one ?_ | refine O.nil ?_ | refine C.next ?_ | refine RunC.region ?_ | refine C.nextB ?_)
        exact lr04_Reader_Word_l0_again (8 - (i + 1)) (by omega) ⟨i + 1, by omega, rfl, rfl, by rw [hs], rfl⟩
      · obtain rfl : i = 8 := by omega
        rw [List.take_of_length_le (by omega)]
        repeat (first | refine O.one ?_ | refine O.nil ?_ | refine C.next ?_ | refine RunC.seq ?_ | refine RunC.region ?_ | refine RunC.exit ?_ | refine RunC.ret ?_ | refine C.exit2 ?_ | refine C.exitB ?_ | refine loopQ.exit ?_ | refine B.ret ?_)
        refine rrd_ok (a := bigN d) (pl' := pl + 8) ?_ hf3 rfl hr3
        unfold wordS
        rw [if_neg (by omega), hd]
    · repeat (first | refine O.one ?_ | refine O.nil ?_ | refine C.next ?_ | refine RunC.seq ?_ | refine RunC.region ?_ | refine RunC.block ?_)
      refine lr04_Reader_Word_l0_rule (fun m v3 v5 h' => v5 = .int .i64 0 ∧ v3 = .int .u64 0 ∧ h3 = h') ?_ 0 ⟨rfl, rfl, rfl⟩
      rintro m v3 v5 h4 x12 x13 x14 x15 x16 x17 x18 x19 x20 x21 x22 x23 x24 x25 ⟨rfl, rfl, rfl⟩
      repeat (first | refine O.one ?_ | refine O.nil ?_ | refine C.next ?_ | refine RunC.seq ?_ | refine RunC.region ?_ | refine RunC.exit ?_ | refine RunC.ret ?_ | refine C.exit2 ?_ | refine C.exitB ?_ | refine loopQ.exit ?_ | refine C.ifF ?_ | refine B.ret ?_)
      refine rrd_err (e := 6) ?_ (by omega) hf3 rfl hr3
      unfold wordS
      rw [if_pos (by omega)]
  · refine O.call' (Rtake_bad h2 he) (fun r h3 hq => ?_)
    obtain ⟨rfl, rfl⟩ := hq
    repeat (first | refine O.one ?_ | refine O.nil ?_ | refine C.next ?_ | refine RunC.seq ?_ | refine RunC.region ?_ | refine RunC.block ?_)
    refine lr04_Reader_Word_l0_rule (fun m v3 v5 h' => v5 = .int .i64 0 ∧ v3 = .int .u64 0 ∧ h3 = h') ?_ 0 ⟨rfl, rfl, rfl⟩
    rintro m v3 v5 h4 x12 x13 x14 x15 x16 x17 x18 x19 x20 x21 x22 x23 x24 x25 ⟨rfl, rfl, rfl⟩
    repeat (first | refine O.one ?_ | refine O.nil ?_ | refine C.next ?_ | refine RunC.seq ?_ | refine RunC.region ?_ | refine RunC.exit ?_ | refine RunC.ret ?_ | refine C.exit2 ?_ | refine C.exitB ?_ | refine loopQ.exit ?_ | refine C.ifF ?_ | refine B.ret ?_)
    exact rrd_bad he Fr.refl rfl hp

theorem RRest_run {h : Heap} {p : Nat} {sv : Value} {bs : List UInt8} {st : RSt} (hp : RRs h p sv bs st) :
    Runs Tryz.prog T0 (.fn fn_lr04_Reader_Rest) [.pointer (some ⟨p, 0, none⟩)] h (fun r h' => r = .int .i64 (restS bs st) ∧ h' = h) (fun _ _ => False) := by
  obtain ⟨pl, h1, hr⟩ := hp.ex
  have hsm := hr.small
  have hle := hr.at_le
  obtain ⟨a, cap, rfl, hlen, _⟩ := hr.own.rd
  haveI : HGet h p _ := ⟨hr.get⟩
  haveI : BLt p h := ⟨hr.lt⟩
  refine lr04_Reader_Rest_runs ?_
  repeat (first | refine O.one ?_ | refine O.nil ?_ | refine C.next ?_ | refine RunC.seq ?_ | refine RunC.region ?_)
  refine C.ifN (fun he => ?_) (fun he => ?_)
  · repeat (first | refine O.one ?_ | refine O.nil ?_ | refine C.next ?_ | refine RunC.seq ?_ | refine RunC.region ?_ | refine RunC.ret ?_ | refine C.ret2 ?_ | refine B.ret ?_)
    unfold restS
    rw [if_neg he]
    exact ⟨rfl, rfl⟩
  · repeat (first | refine C.next ?_ | refine RunC.seq ?_ | refine RunC.skip ?_ | refine RunC.ret ?_ | refine RunC.regionD ?_ | refine D.how (XOp.subI (by omega)) rfl ?_ | refine D.one rfl ?_ | refine D.nil ?_ | refine B.ret ?_)
    unfold restS
    rw [if_pos he, ← (h1 he).1]
    exact ⟨rfl, rfl⟩
theorem RRs.le {h : Heap} {p : Nat} {sv : Value} {bs : List UInt8} {st : RSt} (hp : RRs h p sv bs st) (he : st.e = 0) : st.pl ≤ bs.length := let ⟨_, h1, h2⟩ := hp.ex; (h1 he).1 ▸ h2.at_le

set_option maxHeartbeats 4000000 in
theorem RCCheck_ok {h : Heap} {ht : Int} {hs : List UInt8} {sv : Value} {l : List Vote} (hl : hs.length = 32) (hv : Rd h 2 sv (tcells l) l.length) :
    Runs Tryz.prog T0 (.fn fn_lr07_Check) [.agg ⟨.int .i64 ht :: (bcells hs ++ [sv])⟩] h (fun r h' => r = .int .i64 (checkC ht l) ∧ Fr (fun _ => False) h h') (fun _ _ => False) := by
  obtain ⟨a, cap, rfl, hlen, hc⟩ := hv
  haveI := l32 hl
  refine lr07_Check_runs ?_
  repeat (first | refine O.one ?_ | refine O.nil ?_ | refine C.next ?_ | refine RunC.seq ?_ | refine RunC.region ?_ | refine RunC.block ?_)
  unfold checkC
  refine O.dec (fun h0 => ?_) (fun h0 => ?_)
  · repeat (first | refine O.one ?_ | refine O.nil ?_ | refine C.next ?_ | refine RunC.seq ?_ | refine RunC.region ?_ | refine RunC.ret ?_ | refine C.retB ?_ | refine C.ret2 ?_ | refine O.skF ?_ | refine C.ifT ?_ | refine B.ret ?_)
    rw [if_pos (show ht < 1 ∨ 1073741824 < ht from .inl h0)]
    exact ⟨rfl, Fr.refl.push⟩
  repeat (first | refine O.one ?_ | refine O.nil ?_ | refine C.next ?_ | refine O.oneT ?_)
  refine C.if (fun h1 => ?_) (fun h1 => ?_)
  · repeat (first | refine O.one ?_ | refine O.nil ?_ | refine C.next ?_ | refine RunC.seq ?_ | refine RunC.region ?_ | refine RunC.ret ?_ | refine C.retB ?_ | refine C.ret2 ?_ | refine B.ret ?_)
    rw [if_pos (show ht < 1 ∨ 1073741824 < ht from .inr h1)]
    exact ⟨rfl, Fr.refl.push⟩
  rw [if_neg (show ¬ (ht < 1 ∨ 1073741824 < ht) by omega)]
  repeat (first | refine O.one ?_ | refine O.nil ?_ | refine C.next ?_ | refine RunC.seq ?_ | refine RunC.region ?_)
  refine C.if (fun h2 => ?_) (fun h2 => ?_)
  · repeat (first | refine O.one ?_ | refine O.nil ?_ | refine C.next ?_ | refine RunC.seq ?_ | refine RunC.region ?_ | refine RunC.ret ?_ | refine C.retB ?_ | refine C.ret2 ?_ | refine B.ret ?_)
    rw [if_pos (by omega)]
    exact ⟨rfl, Fr.refl.push⟩
  rw [if_neg (by omega)]
  repeat (first | refine O.one ?_ | refine O.nil ?_ | refine C.next ?_ | refine RunC.seq ?_ | refine RunC.region ?_ | refine RunC.block ?_ | refine RunC.skip ?_ | refine C.nextB ?_)
  generalize hh0 : h.push (.cells (.int .i64 ht :: (bcells hs ++ [.slice a l.length cap])) 0) = h0
  have hf : Fr (fun _ => False) h h0 := by rw [← hh0]; exact Fr.refl.push
  haveI hA : HGet h0 h.n (.cells (.int .i64 ht :: (bcells hs ++ [.slice a l.length cap])) 0) := by rw [← hh0]; exact HGet.new
  clear hh0
  refine lr07_Check_l0_rule (fun m v3 h' => ∃ k : Nat, k ≤ l.length ∧ m = l.length - k ∧ v3 = .int .i64 k ∧ h' = h0 ∧ stepsC (-1) l = stepsC (lastC l k) (l.drop k)) ?_ l.length ⟨0, by omega, rfl, rfl, rfl, rfl⟩
  rintro m v3 h' x2 x18 x19 x20 x21 x22 x23 x24 x25 x26 x27 x28 x29 x30 x31 x32 x33 x34 x35 x36 x37 x38 x39 x40 x41 x42 x43 x44 x45 x46 x47 x48 x49 x50 x51 x52 x53 x54 x55 x56 x57 x58 x59 x60 ⟨k, hk, rfl, rfl, rfl, hst⟩
  repeat (first | refine O.one ?_ | refine O.nil ?_ | refine C.next ?_ | refine RunC.seq ?_ | refine RunC.region ?_)
  refine C.if (fun hlt => ?_) (fun hge => ?_)
  · have hlt : k < l.length := by omega
    obtain ⟨b, o, sp, rfl, hb, hcc⟩ := hc (by omega)
    have hcc' : cellsAt h' b o (l.length * 2) = some (tcells l) := by rw [cellsAt_keep hf hb id]; exact hcc
    haveI := vote_at hcc' rfl hlt
    rw [stepsC_at hlt] at hst
    repeat (first | refine O.one ?_ | refine C.next ?_ | refine RunC.seq ?_ | refine RunC.region ?_ | refine RunC.block ?_ | refine RunC.skip ?_ | refine O.how (XOp.mkIndexSl (by omega)) ?_)
    refine O.dec (fun h0 => ?_) (fun h0 => ?_)
    · repeat (first | refine O.one ?_ | refine O.nil ?_ | refine C.next ?_ | refine RunC.seq ?_ | refine RunC.region ?_ | refine RunC.ret ?_ | refine C.retB ?_ | refine C.ret2 ?_ | refine loopQ.ret ?_ | refine O.skF ?_ | refine C.ifT ?_ | refine B.ret ?_)
      have hv : voteS (lastC l k) (l.getD k zVote) = 3 := by unfold voteS; rw [if_pos (.inl h0)]
      rw [hst, hv, if_neg (by decide)]
      exact ⟨rfl, hf⟩
    repeat (first | refine O.one ?_ | refine O.nil ?_ | refine C.next ?_ | refine O.howT (XOp.mkIndexSl (by omega)) ?_ | refine O.oneT ?_)
    refine C.if (fun h1 => ?_) (fun h1 => ?_)
    · repeat (first | refine O.one ?_ | refine O.nil ?_ | refine C.next ?_ | refine RunC.seq ?_ | refine RunC.region ?_ | refine RunC.ret ?_ | refine C.retB ?_ | refine C.ret2 ?_ | refine loopQ.ret ?_ | refine B.ret ?_)
      have hv : voteS (lastC l k) (l.getD k zVote) = 3 := by unfold voteS; rw [if_pos (.inr h1)]
      rw [hst, hv, if_neg (by decide)]
      exact ⟨rfl, hf⟩
    repeat (first | refine RunC.seq ?_ | refine RunC.regionD ?_ | refine D.one rfl ?_)
    refine D.dec (fun h2 => ?_) (fun h2 => ?_)
    · obtain ⟨j, rfl⟩ : ∃ j, k = j + 1 := ⟨k - 1, by omega⟩
      have hlast : lastC l (j + 1) = (l.getD j zVote).at' := rfl
      haveI := vote_at (k := j) hcc' rfl (by omega)
      repeat (first | refine D.oneT rfl ?_)
      refine D.howT (XOp.mkIndexSl (by omega)) rfl ?_
      repeat (first | refine D.howT (XOp.subI (by omega)) rfl ?_ | refine D.oneT rfl ?_)
      rw [show ((j + 1 : Nat) : Int) - 1 = (j : Nat) from by omega]
      refine D.howT (XOp.mkIndexSl (by omega)) rfl ?_
      repeat (first | refine C.next ?_ | refine D.one rfl ?_ | refine D.nil ?_ | refine D.oneT rfl ?_)
      refine C.if (fun h3 => ?_) (fun h3 => ?_)
      · repeat (first | refine O.one ?_ | refine O.nil ?_ | refine C.next ?_ | refine RunC.seq ?_ | refine RunC.region ?_ | refine RunC.ret ?_ | refine C.retB ?_ | refine C.ret2 ?_ | refine loopQ.ret ?_ | refine B.ret ?_)
        have hv : voteS (lastC l (j + 1)) (l.getD (j + 1) zVote) = 9 := by unfold voteS; rw [hlast, if_neg (by omega), if_pos h3]
        rw [hst, hv, if_neg (by decide)]
        exact ⟨rfl, hf⟩
      · repeat (first | refine O.how (XOp.addI (by omega)) ?_ | refine O.one ?_ | refine O.nil ?_ | refine C.next ?_ | refine RunC.region ?_ | refine RunC.skip ?_ | refine C.nextB ?_)
        have hv : voteS (lastC l (j + 1)) (l.getD (j + 1) zVote) = 0 := by unfold voteS; rw [hlast, if_neg (by omega), if_neg h3]
        rw [hv, if_pos rfl] at hst
        exact lr07_Check_l0_again (l.length - (j + 1 + 1)) (by omega) ⟨j + 1 + 1, by omega, rfl, rfl, rfl, hst⟩
    · obtain rfl : k = 0 := by omega
      repeat (first | refine O.how (XOp.addI (by omega)) ?_ | refine O.one ?_ | refine O.nil ?_ | refine C.next ?_ | refine RunC.region ?_ | refine RunC.skip ?_ | refine D.one rfl ?_ | refine D.nil ?_ | refine C.nextB ?_ | refine D.skT rfl ?_ | refine C.ifF ?_)
      have hlast : lastC l 0 = -1 := rfl
      have hv : voteS (lastC l 0) (l.getD 0 zVote) = 0 := by unfold voteS; rw [hlast, if_neg (by omega), if_neg (by omega)]
      rw [hv, if_pos rfl] at hst
      exact lr07_Check_l0_again (l.length - (0 + 1)) (by omega) ⟨0 + 1, by omega, rfl, rfl, rfl, hst⟩
  · obtain rfl : k = l.length := by omega
    repeat (first | refine O.one ?_ | refine O.nil ?_ | refine C.next ?_ | refine RunC.seq ?_ | refine RunC.region ?_ | refine RunC.exit ?_ | refine RunC.ret ?_ | refine C.exit2 ?_ | refine C.exitB ?_ | refine loopQ.exit ?_ | refine B.ret ?_)
    rw [hst, List.drop_length]
    exact ⟨rfl, hf⟩
end Go.Proofs.YtfpnmcogfamhaaaGreat.A

namespace Go.Proofs.YtfpnmcogfamhaaaGreat.A
open Go Go.Vm
set_option maxRecDepth 10000
set_option linter.unusedVariables false

set_option maxHeartbeats 4000000 in
theorem RCDecode_ok {h : Heap} {v : Value} {bs : List UInt8} (hv : Rd h 1 v (bcells bs) bs.length) (hs : bs.length < 1048576) : Runs Tryz.prog T0 (.fn fn_lr07_Decode) [v] h
    (fun r h' => ∃ sl, r = .tuple ⟨[.agg ⟨(decC bs).1.cells sl⟩, .agg ⟨[.int .i64 (decC bs).2.1, .int .i64 (decC bs).2.2]⟩]⟩ ∧ Own h' 2 sl (tcells (decC bs).1.votes) (decC bs).1.votes.length ∧ (∀ i, ownedBy sl i → h.n ≤ i) ∧ Fr (fun _ => False) h h') (fun _ _ => False) := by
  have hv' := hv
  obtain ⟨a0, cap0, rfl, hl0, _⟩ := hv
  refine lr07_Decode_runs ?_
  repeat (first | refine O.one ?_ | refine O.nil ?_ | refine C.next ?_ | refine RunC.seq ?_ | refine RunC.region ?_)
  generalize hh0 : ((h.push (.cells (.int .i64 0 :: (z32 ++ [.slice none 0 0])) 0)).push (.cells [.int .i64 0, .int .i64 0] 0)) = h0
  have hf0 : Fr (fun _ => False) h h0 := by rw [← hh0]; exact Fr.refl.push.push
  have hn0 : h0.n = h.n + 2 := by rw [← hh0]; rfl
  have hA0 : HGet h0 h.n (.cells (.int .i64 0 :: (z32 ++ [.slice none 0 0])) 0) := by rw [← hh0]; exact HGet.push (k := BLt.new) (g := HGet.new)
  generalize hb3 : (h.push (.cells (.int .i64 0 :: (z32 ++ [.slice none 0 0])) 0)).n = b3
  have hb3' : b3 = h.n + 1 := by rw [← hb3]; rfl
  have hB0 : HGet h0 b3 (.cells [.int .i64 0, .int .i64 0] 0) := by rw [← hh0, ← hb3]; exact HGet.new
  clear hh0 hb3
  refine O.call' (RNew_ok (hv'.keep hf0 fun _ _ => id) hs) (fun r h1' hr => ?_)
  obtain ⟨p, sv, rfl, hp1, hsv, hr1', hf1'⟩ := hr
  have hlt1' := hr1'.lt
  have hn1' := hf1'.n
  have hA1' : HGet h1' h.n _ := hf1'.keep hA0 (by omega) id
  have hB1' : HGet h1' b3 _ := hf1'.keep hB0 (by omega) id
  repeat (first | refine O.one ?_ | refine O.nil ?_ | refine C.next ?_ | refine RunC.seq ?_ | refine RunC.region ?_)
  generalize hx : h1'.n = x
  generalize hh1 : h1'.push (.cells (.int .i64 0 :: (z32 ++ [.slice none 0 0])) 0) = h1
  have hf1x : Fr (fun _ => False) h1' h1 := by rw [← hh1]; exact Fr.refl.push
  have hn1 : h1.n = x + 1 := by rw [← hh1, ← hx]; rfl
  have hC1 : HGet h1 x (.cells (.int .i64 0 :: (z32 ++ [.slice none 0 0])) 0) := by rw [← hh1, ← hx]; exact HGet.new
  clear hh1
  have hA1 := hf1x.keep hA1' (by omega) id
  have hB1 := hf1x.keep hB1' (by omega) id
  have hr1 := hr1'.none hf1x
  have hf1 := hf1'.trans' hf1x
  have hlt1 := hr1.lt
  have hown1 : ∀ i, ownedBy sv i → h0.n ≤ i ∧ i < x := fun i hi => ⟨hsv i hi, by have := hr1'.own_lt hi; omega⟩
  have k1 := RNum_run hr1
  have hdec : decC bs = (if 64 < (rd (numS bs) 0 (rd (partS 32 bs) zb32 (rd (numS bs) 0 ⟨0, 0, 0⟩).2).2).1 then (zCm, (4, (bs.length : Int) - restS bs (rd (partS 32 bs) zb32 (rd (numS bs) 0 ⟨0, 0, 0⟩).2).2)) else
    let y := stepW bs (rd (numS bs) 0 (rd (partS 32 bs) zb32 (rd (numS bs) 0 ⟨0, 0, 0⟩).2).2).1 ([], (rd (numS bs) 0 (rd (partS 32 bs) zb32 (rd (numS bs) 0 ⟨0, 0, 0⟩).2).2).2)
    let f := endS bs y.2
    let g := if f = (0, 0) then (checkC ((rd (numS bs) 0 ⟨0, 0, 0⟩).1 : Nat) y.1, 0) else f
    if g = (0, 0) then (⟨((rd (numS bs) 0 ⟨0, 0, 0⟩).1 : Nat), (rd (partS 32 bs) zb32 (rd (numS bs) 0 ⟨0, 0, 0⟩).2).1, y.1⟩, (0, 0)) else (zCm, g)) := rfl
  rw [hdec]
  clear hdec
  generalize rd (numS bs) 0 ⟨0, 0, 0⟩ = a at *
  obtain ⟨a, st1⟩ := a
  refine O.call' k1 (fun r h2 hr => ?_)
  obtain ⟨hf2, rfl, hr2⟩ := hr
  simp only at hr2 ⊢
  have hn2 := hf2.n
  haveI hA2 : HGet h2 h.n _ := hf2.keep hA1 (by omega) (by omega)
  have hB2 : HGet h2 b3 _ := hf2.keep hB1 (by omega) (by omega)
  haveI hC2 : HGet h2 x _ := hf2.keep hC1 (by omega) (by omega)
  repeat (first | refine O.one ?_ | refine O.nil ?_ | refine C.next ?_ | refine RunC.seq ?_ | refine RunC.region ?_ | refine O.one0 ?_)
  have hset : ∀ {hh : Heap} {c : List Value} {st : RSt}, RRs hh p sv bs st → RRs (hh.set x (.cells c 0)) p sv bs st := fun hr => hr.keep (S := fun j => j = x) (Fr.refl.set fun _ => rfl) (by omega) fun i hi hn => by have := (hown1 i hi).2; omega
  have k2 := RHash_run (hset (c := .int .i64 (a : Nat) :: (z32 ++ [.slice none 0 0])) hr2)
  generalize rd (partS 32 bs) zb32 st1 = b at *
  obtain ⟨hs32, st2⟩ := b
  refine O.call' k2 (fun r h3 hr => ?_)
  obtain ⟨hf3, ⟨rfl, hl3⟩, hr3⟩ := hr
  simp only at hr3 hl3 ⊢
  haveI := l32 hl3
  have hn3 := hf3.n
  simp only [Heap.n_set] at hn3
  have hf23 : Fr (fun i => i = p ∨ i = x) h2 h3 := (Fr.refl.set fun _ => .inr rfl).trans' (hf3.mono fun _ _ h => .inl h)
  have hA3 : HGet h3 h.n _ := hf23.keep hA2 (by omega) (by omega)
  have hB3 : HGet h3 b3 _ := hf23.keep hB2 (by omega) (by omega)
  haveI hC3 : HGet h3 x _ := hf3.keep (b := x) .same (by simp; omega) (by omega)
  repeat (first | refine O.one ?_ | refine O.nil ?_ | refine C.next ?_ | refine RunC.seq ?_ | refine RunC.region ?_ | refine O.one0 ?_)
  have k3 := RRest_run (hset (c := .int .i64 (a : Nat) :: (bcells hs32 ++ [.slice none 0 0])) hr3)
  have hrest : 0 ≤ (bs.length : Int) - restS bs st2 ∧ (bs.length : Int) - restS bs st2 ≤ bs.length := by
    unfold restS
    by_cases he : st2.e = 0
    · have := hr3.le he
      rw [if_pos he]; omega
    · rw [if_neg he]; omega
  generalize restS bs st2 = rest at *
  refine O.call' k3 (fun r h4 hr => ?_)
  obtain ⟨rfl, rfl⟩ := hr
  repeat (first | refine O.how (XOp.subI (by omega)) ?_ | refine O.one ?_ | refine O.nil ?_ | refine C.next ?_ | refine RunC.seq ?_ | refine RunC.region ?_)
  have k4 := RNum_run (hset (c := .int .i64 (a : Nat) :: (bcells hs32 ++ [.slice none 0 0])) hr3)
  generalize rd (numS bs) 0 st2 = n at *
  obtain ⟨n, st3⟩ := n
  refine O.call' k4 (fun r h4 hr => ?_)
  obtain ⟨hf4, rfl, hr4⟩ := hr
  simp only at hr4 ⊢
  have hn4 := hf4.n
  simp only [Heap.n_set] at hn4
  have hf34 : Fr (fun i => i = p ∨ i = x) h3 h4 := (Fr.refl.set fun _ => .inr rfl).trans' (hf4.mono fun _ _ h => .inl h)
  haveI hA4 : HGet h4 h.n _ := hf34.keep hA3 (by omega) (by omega)
  haveI hB4 : HGet h4 b3 _ := hf34.keep hB3 (by omega) (by omega)
  haveI hC4 : HGet h4 x _ := hf4.keep (b := x) .same (by simp; omega) (by omega)
  haveI : BLt h.n h4 := ⟨by omega⟩
  haveI : BLt b3 h4 := ⟨by omega⟩
  haveI : BLt x h4 := ⟨by omega⟩
  haveI : BNe h.n b3 := ⟨by omega⟩
  haveI : BNe b3 h.n := ⟨by omega⟩
  have hfh4 : Fr (fun _ => False) h h4 := Fr.trans (S := fun _ => False) (hf0.trans' hf1) ((hf2.mono fun _ _ h => .inl h).trans' (hf23.trans' hf34)) fun i hi ho => by omega
  repeat (first | refine O.one ?_ | refine O.nil ?_ | refine C.next ?_ | refine RunC.seq ?_ | refine RunC.region ?_)
  refine C.if (fun hbig => ?_) (fun hsm => ?_)
  · repeat (first | refine O.one ?_ | refine O.nil ?_ | refine C.next ?_ | refine RunC.seq ?_ | refine RunC.region ?_ | refine RunC.ret ?_ | refine O.one0 ?_ | refine C.ret2 ?_ | refine B.ret ?_)
    rw [if_pos (by omega)]
    exact ⟨_, rfl, .none, fun i hi => hi.elim, Fr.set (Fr.set hfh4 fun hlt => by omega) fun hlt => by omega⟩
  rw [if_neg (by omega)]
  repeat (first | refine O.one ?_ | refine O.nil ?_ | refine C.next ?_ | refine RunC.seq ?_ | refine RunC.region ?_ | refine RunC.block ?_ | refine RunC.skip ?_)
  refine lr07_Decode_l0_rule (fun m v8 h' => ∃ k : Nat, k ≤ n ∧ m = n - k ∧ v8 = .int .i64 k ∧ (∃ sl, h'.get x = .cells (.int .i64 (a : Nat) :: (bcells hs32 ++ [sl])) 0 ∧ Own h' 2 sl (tcells (stepW bs k ([], st3)).1) k ∧ (∀ i, ownedBy sl i → h4.n ≤ i)) ∧ RRs h' p sv bs (stepW bs k ([], st3)).2 ∧ Fr (fun i => i = p ∨ i = x) h4 h') ?_ n ⟨0, by omega, rfl, rfl, ⟨_, hC4.eq, .none, fun i hi => hi.elim⟩, hr4, Fr.refl⟩
  rintro m v8 h5 x9 x31 x32 x33 x34 x35 x36 x37 x38 x39 x40 x41 x42 x43 x44 x45 x46 x47 ⟨k, hk, rfl, rfl, ⟨sl, hg5, ho, hnew⟩, hr5, hf5⟩
  obtain ⟨asl, csl, rfl, _, _⟩ := ho.rd
  have hstep : stepW bs (k + 1) ([], st3) = ((stepW bs k ([], st3)).1 ++ [⟨((rd (numS bs) 0 (stepW bs k ([], st3)).2).1 : Nat), (rd (wordS bs) 0 (rd (numS bs) 0 (stepW bs k ([], st3)).2).2).1⟩], (rd (wordS bs) 0 (rd (numS bs) 0 (stepW bs k ([], st3)).2).2).2) := rfl
  have hlenk : (stepW bs k ([], st3)).1.length = k := by rw [stepW_len]; simp
  have hn45 := hf5.n
  repeat (first | refine O.one ?_ | refine O.nil ?_ | refine C.next ?_ | refine RunC.seq ?_ | refine RunC.region ?_)
  refine C.if (fun hlt => ?_) (fun hge => ?_)
  · generalize stepW bs k ([], st3) = z at *
    obtain ⟨L, st⟩ := z
    simp only at ho hr5 hstep hlenk
    repeat (first | refine O.one ?_ | refine C.next ?_ | refine RunC.seq ?_ | refine RunC.region ?_ | refine RunC.block ?_ | refine RunC.skip ?_)
    have k5 := RNum_run hr5
    generalize rd (numS bs) 0 st = c at *
    obtain ⟨c, st5⟩ := c
    refine O.call' k5 (fun r h6 hq => ?_)
    obtain ⟨hf6, rfl, hr6⟩ := hq
    simp only at hr6 hstep
    have hn56 := hf6.n
    repeat (first | refine O.one ?_ | refine O.nil ?_ | refine C.next ?_ | refine RunC.seq ?_ | refine RunC.region ?_ | refine O.one0 ?_)
    have k6 := RWord_run (hr6.none (Fr.refl.push (o := .cells [.int .i64 (c : Nat), .int .u64 0] 0)))
    generalize rd (wordS bs) 0 st5 = d at *
    obtain ⟨d, st6⟩ := d
    refine O.call' k6 (fun r h7 hq => ?_)
    obtain ⟨hf7, rfl, hr7⟩ := hq
    simp only at hr7 hstep
    have hn67 := hf7.n
    simp only [Heap.n_push] at hn67
    have hp6 := hr6.lt
    haveI : HGet h7 h6.n _ := hf7.keep (b := h6.n) HGet.new (by simp) (by omega)
    have hf57 : Fr (fun i => i = p) h5 h7 := Fr.trans (S := fun i => i = p) hf6 (Fr.trans (S := fun i => i = p) Fr.refl.push hf7 fun _ _ h => h) fun _ _ h => h
    haveI hC7 : HGet h7 x _ := hf57.keep (b := x) ⟨hg5⟩ (by omega) (by omega)
    haveI : BLt x h7 := ⟨by omega⟩
    haveI : BLt h6.n h7 := ⟨by omega⟩
    haveI : BNe h6.n x := ⟨by omega⟩
    haveI : BNe x h6.n := ⟨by omega⟩
    repeat (first | refine O.one ?_ | refine O.nil ?_ | refine C.next ?_ | refine RunC.region ?_ | refine O.one0 ?_)
    have hol := fun {i : Nat} (hi : ownedBy (.slice asl k csl) i) => ho.lt hi
    have ho7 : Own h7 2 (.slice asl k csl) (tcells L) k := ho.keep hf57 fun i hi h => by have := hnew i hi; omega
    refine O.append ((ho7.keep (S := fun i => i = h6.n) (Fr.refl.set fun _ => rfl) fun i hi h => by have := hol hi; omega).keep (S := fun _ => False) Fr.refl.push fun _ _ => id) (one_vote rfl) rfl rfl (by omega) (by omega) (by omega) (fun v8 h8 ho8 hf8 hn8 => ?_)
    have hf78 : Fr (fun i => i = h6.n ∨ ownedBy (.slice asl k csl) i) h7 h8 := Fr.trans (S := fun i => i = h6.n ∨ ownedBy (.slice asl k csl) i) (Fr.refl.set fun _ => .inl rfl).push hf8 fun i _ hi => .inr hi
    have hn78 := hf78.n
    haveI hC8 : HGet h8 x _ := hf78.keep hC7 (by omega) (fun h => by
      rcases h with h | h
      · omega
      · have := hnew _ h; omega)
    haveI : BLt x h8 := ⟨by omega⟩
    obtain ⟨a8, c8, rfl, _, _⟩ := ho8.rd
    have hnew8 : ∀ i, ownedBy (.slice a8 (k + 1) c8) i → h4.n ≤ i := fun i hi => by
      rcases hn8 i hi with h9 | h9
      · exact hnew i h9
      · simp at h9; omega
    repeat (first | refine O.how (XOp.addI (by omega)) ?_ | refine O.one ?_ | refine O.nil ?_ | refine C.next ?_ | refine RunC.region ?_ | refine O.one0 ?_ | refine C.nextB ?_)
    refine lr07_Decode_l0_again (n - (k + 1)) (by omega) ⟨k + 1, by omega, rfl, rfl, ⟨_, by rw [Heap.get_set, if_pos rfl], ?_, hnew8⟩, ?_, ?_⟩
    · rw [hstep]
      simp only
      rw [tcells_append]
      exact ho8.keep (S := fun i => i = x) (Fr.refl.set fun _ => rfl) fun i hi h => by have := hnew8 i hi; omega
    · rw [hstep]
      refine hset (hr7.keep hf78 (fun h => ?_) fun i hi h => ?_)
      · rcases h with h | h
        · omega
        · have := hnew p h; omega
      · have := (hown1 i hi).2
        rcases h with h | h
        · omega
        · have := hnew i h; omega
    · refine Fr.set ?_ fun _ => .inr rfl
      refine Fr.trans (S := fun i => i = p ∨ i = x) hf5 (Fr.trans (S := fun i => i = p ∨ ownedBy (.slice asl k csl) i) (hf57.mono fun _ _ h => .inl h) hf78 fun i hi h => ?_) fun i hi h => ?_
      · rcases h with h | h
        · omega
        · exact .inr h
      · rcases h with h | h
        · exact .inl h
        · have := hnew i h; omega
  · obtain rfl : k = n := by omega
    have hp5 := hr5.lt
    have hC5 : HGet h5 x _ := ⟨hg5⟩
    have hA5 : HGet h5 h.n _ := hf5.keep hA4 (by omega) (by omega)
    have hB5 : HGet h5 b3 _ := hf5.keep hB4 (by omega) (by omega)
    have hfh5 : Fr (fun _ => False) h h5 := Fr.trans (S := fun _ => False) hfh4 hf5 fun i hi ho => by omega
    generalize stepW bs k ([], st3) = z at *
    obtain ⟨L, st⟩ := z
    simp only at ho hr5 hlenk ⊢
    repeat (first | refine O.one ?_ | refine C.next ?_ | refine RunC.seq ?_ | refine RunC.region ?_ | refine RunC.exit ?_ | refine C.exit2 ?_ | refine C.exitB ?_ | refine loopQ.exit ?_)
    have k7 := REnd_run hr5
    have hz0 := hr5.zero
    generalize endS bs st = F at *
    obtain ⟨e, f⟩ := F
    refine O.call' k7 (fun r h6 hr => ?_)
    obtain ⟨rfl, hf6⟩ := hr
    simp only at hz0
    have hn56 := hf6.n
    haveI hA6 : HGet h6 h.n _ := hf6.keep hA5 (by omega) id
    haveI hB6 : HGet h6 b3 _ := hf6.keep hB5 (by omega) id
    haveI hC6 : HGet h6 x _ := hf6.keep hC5 (by omega) id
    haveI : BLt h.n h6 := ⟨by omega⟩
    haveI : BLt b3 h6 := ⟨by omega⟩
    haveI : BLt x h6 := ⟨by omega⟩
    haveI : BNe x h6.n := ⟨by omega⟩
    haveI : BNe h.n h6.n := ⟨by omega⟩
    haveI : BNe b3 h6.n := ⟨by omega⟩
    haveI : BNe h6.n h.n := ⟨by omega⟩
    haveI : BNe h6.n b3 := ⟨by omega⟩
    haveI : BNe h6.n x := ⟨by omega⟩
    haveI : BNe x h.n := ⟨by omega⟩
    have hfh6 : Fr (fun _ => False) h h6 := hfh5.trans' hf6
    have ho6 : ∀ {o : AObj}, Own (h6.push o) 2 (.slice asl k csl) (tcells L) k := fun {o} => (ho.keep hf6 fun _ _ => id).keep (S := fun _ => False) Fr.refl.push fun _ _ => id
    repeat (first | refine O.one ?_ | refine O.nil ?_ | refine C.next ?_ | refine RunC.seq ?_ | refine RunC.region ?_ | refine O.one0 ?_)
    refine C.if (fun he => ?_) (fun he => ?_)
    · subst he
      obtain rfl := hz0 rfl
      repeat (first | refine O.one ?_ | refine RunC.region ?_)
      refine O.call' (RCCheck_ok (l := L) hl3 (by rw [hlenk]; exact ho6.rd)) (fun r h7 hr => ?_)
      obtain ⟨rfl, hf7⟩ := hr
      have hn67 := hf7.n
      simp only [Heap.n_push] at hn67
      haveI : HGet h7 h6.n _ := hf7.keep (b := h6.n) HGet.new (by simp) id
      haveI : HGet h7 h.n _ := hf7.keep (b := h.n) (HGet.push (g := hA6)) (by simp; omega) id
      haveI : HGet h7 b3 _ := hf7.keep (b := b3) (HGet.push (g := hB6)) (by simp; omega) id
      haveI : HGet h7 x _ := hf7.keep (b := x) (HGet.push (g := hC6)) (by simp; omega) id
      haveI : BLt h.n h7 := ⟨by omega⟩
      haveI : BLt b3 h7 := ⟨by omega⟩
      haveI : BLt x h7 := ⟨by omega⟩
      haveI : BLt h6.n h7 := ⟨by omega⟩
      have hfh7 : Fr (fun _ => False) h h7 := hfh6.trans' (Fr.trans (S := fun _ => False) Fr.refl.push hf7 fun _ _ h => h)
      have ho7 : Own h7 2 (.slice asl k csl) (tcells L) k := ho6.keep hf7 fun _ _ => id
      have hol := fun {i : Nat} (hi : ownedBy (.slice asl k csl) i) => ho.lt hi
      repeat (first | refine O.one ?_ | refine O.nil ?_ | refine C.next ?_ | refine RunC.seq ?_ | refine RunC.region ?_ | refine O.one0 ?_)
      simp only [if_true]
      refine C.ifN (fun hc => ?_) (fun hc => ?_)
      · repeat (first | refine C.next ?_ | refine RunC.seq ?_ | refine RunC.ret ?_ | refine RunC.regionD ?_ | refine D.one rfl ?_ | refine D.nil ?_ | refine D.one0 rfl ?_ | refine D.one0s ?_ | refine C.ret2 ?_ | refine B.ret ?_)
        rw [if_neg (fun h => hc (by injection h))]
        exact ⟨_, rfl, .none, fun i hi => hi.elim, Fr.set (Fr.set (Fr.set hfh7 fun hlt => by omega) fun hlt => by omega) fun hlt => by omega⟩
      · rw [hc]
        repeat (first | refine C.next ?_ | refine RunC.seq ?_ | refine RunC.skip ?_ | refine RunC.ret ?_ | refine RunC.regionD ?_ | refine D.one rfl ?_ | refine D.nil ?_ | refine D.one0 rfl ?_ | refine D.one0s ?_ | refine B.ret ?_)
        rw [if_pos rfl]
        refine ⟨_, rfl, ?_, fun i hi => ?_, Fr.set (Fr.set (Fr.set hfh7 fun hlt => by omega) fun hlt => by omega) fun hlt => by omega⟩
        · rw [hlenk]
          exact ((ho7.keep (S := fun i => i = h6.n) (Fr.refl.set fun _ => rfl) fun i hi h => by have := hol hi; omega).keep (S := fun i => i = h.n) (Fr.refl.set fun _ => rfl) fun i hi h => by have := hnew i hi; omega).keep (S := fun i => i = b3) (Fr.refl.set fun _ => rfl) fun i hi h => by have := hnew i hi; omega
        · have := hnew i hi
          omega
    · have hne : ¬ ((e, f) : Int × Int) = (0, 0) := fun h => he (by injection h)
      repeat (first | refine O.one ?_ | refine O.nil ?_ | refine C.next ?_ | refine RunC.seq ?_ | refine RunC.region ?_ | refine RunC.skip ?_)
      refine C.ifN (fun hc => ?_) (fun hc => absurd hc he)
      repeat (first | refine C.next ?_ | refine RunC.seq ?_ | refine RunC.ret ?_ | refine RunC.regionD ?_ | refine D.one rfl ?_ | refine D.nil ?_ | refine D.one0 rfl ?_ | refine D.one0s ?_ | refine C.ret2 ?_ | refine B.ret ?_)
      simp only [if_neg hne]
      exact ⟨_, rfl, .none, fun i hi => hi.elim, Fr.set (Fr.set hfh6.push fun hlt => by omega) fun hlt => by omega⟩
end Go.Proofs.YtfpnmcogfamhaaaGreat.A

namespace Go.Proofs.YtfpnmcogfamhaaaGreat.A
open Go Go.Vm
set_option maxRecDepth 10000
set_option linter.unusedVariables false
def partB {α : Type} (dec : List UInt8 → α × Int × Int) (zero : α) (bs : List UInt8) (y : (Int × Int) × RSt) : α × (Int × Int) × RSt :=
  if y.1 = (0, 0) then
    let b := rd (bytesS bs 65536) [] y.2
    if b.2.e = 0 then
      let d := dec b.1
      if d.2 = (0, 0) then (d.1, (0, 0), b.2) else (zero, (5, (y.2.pl : Int)), b.2)
    else (zero, (b.2.e, b.2.fa), b.2)
  else (zero, y)
theorem partB_e {α : Type} {dec : List UInt8 → α × Int × Int} {zero : α} {bs : List UInt8} {y : (Int × Int) × RSt} (hy : y.1 = (0, 0) → y.2.e = 0) : (partB dec zero bs y).2.1 = (0, 0) → (partB dec zero bs y).2.2.e = 0 := by
  unfold partB
  split
  · simp only
    split
    · rename_i h
      split
      · exact fun _ => h
      · intro h2; cases h2
    · rename_i h
      intro h2
      exact absurd (Prod.mk.inj h2).1 h
  · rename_i h
    exact fun h2 => absurd h2 h
theorem rd_bytes_len {bs : List UInt8} {m : Nat} {st : RSt} : (rd (bytesS bs m) [] st).1.length ≤ bs.length := by
  unfold rd
  split
  · split
    · rename_i a pl h
      unfold bytesS at h
      split at h
      · cases h
      · split at h
        · cases h
        · split at h
          · cases h
          · cases h
            simp only [List.length_take, List.length_drop]
            omega
    · simp
  · simp

set_option maxHeartbeats 4000000 in
theorem partH_ok {h : Heap} {p q : Nat} {sv : Value} {bs : List UInt8} {st : RSt} {e a : Int} (hp : PRs h p sv bs st) (hq : h.get q = .cells [.int .i64 e, .int .i64 a] 0) (hqn : q < h.n) (hqp : q ≠ p) (hqs : ¬ ownedBy sv q) (hst : (e, a) = ((0, 0) : Int × Int) → st.e = 0) :
    Runs Tryz.prog T0 (.fn fn_block_part_api_Header_) [.pointer (some ⟨p, 0, none⟩), .int .i64 bs.length, .pointer (some ⟨q, 0, none⟩), .func (.func fn_header_Decode) ⟨[]⟩ ⟨[]⟩] h
      (fun r h' => r = .agg ⟨(partB decS zeroHd bs ((e, a), st)).1.cells⟩ ∧ h'.get q = .cells [.int .i64 (partB decS zeroHd bs ((e, a), st)).2.1.1, .int .i64 (partB decS zeroHd bs ((e, a), st)).2.1.2] 0 ∧ PRs h' p sv bs (partB decS zeroHd bs ((e, a), st)).2.2 ∧ Fr (fun i => i = p ∨ i = q) h h') (fun _ _ => False) := by
  have hpl := hp.lt
  have hown := fun {i : Nat} (hi : ownedBy sv i) => hp.own_lt hi
  haveI hQ : HGet h q _ := ⟨hq⟩
  haveI : BLt q h := ⟨hqn⟩
  refine block_part_api_Header__runs ?_
  repeat (first | refine O.one ?_ | refine O.nil ?_ | refine C.next ?_ | refine RunC.seq ?_ | refine RunC.region ?_)
  rw [same_fault]
  refine C.ifN (fun hz => ?_) (fun hz => ?_)
  · repeat (first | refine O.one ?_ | refine O.nil ?_ | refine C.next ?_ | refine RunC.seq ?_ | refine RunC.region ?_ | refine RunC.ret ?_ | refine O.one0 ?_ | refine C.ret2 ?_ | refine B.ret ?_)
    unfold partB
    rw [if_neg hz]
    exact ⟨rfl, (HGet.push (k := ⟨hqn⟩) (g := hQ)).eq, hp.none Fr.refl.push, Fr.refl.push⟩
  obtain ⟨rfl, rfl⟩ := Prod.mk.inj hz
  have hse := hst rfl
  have hple := hp.le hse
  have hsm := hp.small
  repeat (first | refine O.one ?_ | refine C.next ?_ | refine RunC.seq ?_ | refine RunC.region ?_ | refine RunC.skip ?_)
  generalize hh1 : h.push (.cells (.string ⟨⟨[]⟩⟩ :: .int .i64 0 :: .int .i64 0 :: (z32 ++ (z32 ++ (z32 ++ z32)))) 0) = h1
  have hf1 : Fr (fun _ => False) h h1 := by rw [← hh1]; exact Fr.refl.push
  have hp1 := hp.none hf1
  have hQ1 := hf1.keep hQ hqn id
  have hO1 : HGet h1 h.n (.cells (.string ⟨⟨[]⟩⟩ :: .int .i64 0 :: .int .i64 0 :: (z32 ++ (z32 ++ (z32 ++ z32)))) 0) := by rw [← hh1]; exact HGet.new
  have hn1' : h.n < h1.n := by rw [← hh1]; simp
  clear hh1
  refine O.call' (Rest_run hp1) (fun r h1' hr => ?_)
  obtain ⟨rfl, hh1'⟩ := hr
  obtain rfl := hh1'.symm
  have hrest : restS bs st = (bs.length : Int) - st.pl := by unfold restS; rw [if_pos hse]
  rw [hrest]
  repeat (first | refine O.how (XOp.subI (by omega)) ?_ | refine O.one ?_ | refine O.nil ?_ | refine C.next ?_ | refine RunC.seq ?_ | refine RunC.region ?_)
  have hat : (bs.length : Int) - ((bs.length : Int) - st.pl) = st.pl := by omega
  rw [hat]
  have k2 := Bytes_run (most := 65536) hp1 (by omega)
  have hpart : partB decS zeroHd bs ((0, 0), st) = (if (rd (bytesS bs 65536) [] st).2.e = 0 then (if (decS (rd (bytesS bs 65536) [] st).1).2 = (0, 0) then ((decS (rd (bytesS bs 65536) [] st).1).1, (0, 0), (rd (bytesS bs 65536) [] st).2) else (zeroHd, (5, (st.pl : Int)), (rd (bytesS bs 65536) [] st).2)) else (zeroHd, ((rd (bytesS bs 65536) [] st).2.e, (rd (bytesS bs 65536) [] st).2.fa), (rd (bytesS bs 65536) [] st).2)) := by unfold partB; rw [if_pos rfl]
  rw [hpart]
  clear hpart
  have hbl : (rd (bytesS bs 65536) [] st).1.length ≤ bs.length := rd_bytes_len
  generalize rd (bytesS bs 65536) [] st = b at *
  obtain ⟨l, st1⟩ := b
  refine O.call' k2 (fun r h2 hr => ?_)
  obtain ⟨hf2, ⟨ho, hnew⟩, hr2⟩ := hr
  simp only at ho hr2 hbl hnew ⊢
  have hn1 := hf1.n
  have hn2 := hf2.n
  have hQ2 := hf2.keep hQ1 (by omega) hqp
  have hO2 := hf2.keep hO1 hn1' (by omega)
  have hfa : st1.e = 0 → st1.fa = 0 := fun h0 => (let ⟨_, h1, _⟩ := hr2.ex; (h1 h0).2)
  have hle1 : st1.e = 0 → st1.pl ≤ bs.length := fun h0 => hr2.le h0
  repeat (first | refine O.one ?_ | refine O.nil ?_ | refine C.next ?_ | refine RunC.seq ?_ | refine RunC.region ?_)
  refine O.call' (Rest_run hr2) (fun r h2' hr => ?_)
  obtain ⟨rfl, hh2⟩ := hr
  obtain rfl := hh2.symm
  repeat (first | refine O.one ?_)
  have fin : ∀ {H : Heap}, Fr (fun i => i = q ∨ i = h.n) h2 H → PRs H p sv bs st1 ∧ Fr (fun i => i = p ∨ i = q) h H := fun hf => ⟨hr2.keep hf (by omega) fun i hi hs => by
    have := hown hi
    rcases hs with h | h
    · exact hqs (h ▸ hi)
    · omega, Fr.trans (S := fun i => i = p ∨ i = q) (hf1.mono fun _ _ h => h.elim) (Fr.trans (S := fun i => i = p ∨ i = q ∨ i = h.n) (hf2.mono fun _ _ h => .inl h) hf fun i _ h => .inr h) fun i hi h => by
    rcases h with h | h | h
    · exact .inl h
    · exact .inr h
    · omega⟩
  refine O.dec (fun h0' => ?_) (fun h0' => ?_)
  · repeat (first | refine O.oneT ?_)
    refine O.callT (End_run hr2) (fun r h3 hr => ?_)
    obtain ⟨rfl, hf3⟩ := hr
    have hn3' := hf3.n
    repeat (first | refine O.one ?_ | refine O.nil ?_ | refine C.next ?_ | refine O.oneT ?_)
    rw [same_fault]
    skip
    refine C.ifN (fun hc => ?_) (fun hc => ?_)
    · have herr : st1.e ≠ 0 := fun h0 => hc (by
        unfold restS at h0'
        rw [if_pos h0] at h0'
        unfold endS
        rw [if_neg (by omega), h0, hfa h0])
      have hend : endS bs st1 = (st1.e, st1.fa) := by
        unfold endS
        rw [if_neg (fun h => herr h.1)]
      rw [if_neg herr]
      haveI hQ3 := hf3.keep hQ2 (by omega) id
      haveI hO3 := hf3.keep hO2 (by omega) id
      have hn3 := hf3.n
      repeat (first | refine O.one ?_ | refine RunC.seq ?_ | refine RunC.region ?_)
      refine O.call' (End_run (hr2.none hf3)) (fun r h4 hr => ?_)
      obtain ⟨rfl, hf4⟩ := hr
      rw [hend]
      have hn4 := hf4.n
      have hf24 := hf3.trans' hf4
      haveI hQ4 := hf4.keep hQ3 (by omega) id
      haveI hO4 := hf4.keep hO3 (by omega) id
      haveI : BLt h.n h4 := ⟨by omega⟩
      haveI : BNe h.n q := ⟨by omega⟩
      haveI : BNe q h.n := ⟨by omega⟩
      haveI : BLt q h4 := ⟨by omega⟩
      repeat (first | refine O.one ?_ | refine O.nil ?_ | refine C.next ?_ | refine RunC.seq ?_ | refine RunC.region ?_ | refine RunC.ret ?_ | refine O.one0 ?_ | refine C.ret2 ?_ | refine B.ret ?_)
      refine ⟨rfl, HGet.eq, fin ?_⟩
      exact Fr.set (Fr.set (hf24.mono fun _ _ h => h.elim) fun _ => .inl rfl) fun _ => .inr rfl
    · have hok1 : st1.e = 0 := by
          unfold endS at hc
          split at hc
          · cases hc
          · exact (Prod.mk.inj hc).1
      rw [if_pos hok1]
      repeat (first | refine O.one ?_ | refine C.next ?_ | refine RunC.seq ?_ | refine RunC.region ?_ | refine RunC.skip ?_)
      haveI hQ3 := (hf3).keep hQ2 (by omega) id
      haveI hO3 := (hf3).keep hO2 (by omega) id
      have hn3 := (hf3).n
      refine O.call' (Decode_ok (bs := l) ((ho.keep (hf3) fun _ _ => id).rd) (by omega)) (fun r h4 hr => ?_)
      obtain ⟨rfl, hf4⟩ := hr
      have hok := decS_ok l
      generalize decS l = D at *
      obtain ⟨X, e', a'⟩ := D
      simp only at hok ⊢
      haveI := l32 hok.prev
      haveI := l32 hok.vals
      haveI := l32 hok.next
      haveI := l32 hok.app
      have hn4 := hf4.n
      have hf24 := (hf3).trans' hf4
      haveI hQ4 := hf4.keep hQ3 (by omega) id
      haveI hO4 := hf4.keep hO3 (by omega) id
      haveI : BLt h.n h4 := ⟨by omega⟩
      haveI : BNe h.n q := ⟨by omega⟩
      haveI : BNe q h.n := ⟨by omega⟩
      haveI : BLt q h4 := ⟨by omega⟩
      repeat (first | refine O.one ?_ | refine O.nil ?_ | refine C.next ?_ | refine RunC.seq ?_ | refine RunC.region ?_ | refine O.one0 ?_)
      rw [same_fault]
      refine C.ifN (fun hc => ?_) (fun hc => ?_)
      · repeat (first | refine O.one ?_ | refine O.nil ?_ | refine C.next ?_ | refine RunC.seq ?_ | refine RunC.region ?_ | refine RunC.ret ?_ | refine O.one0 ?_ | refine C.ret2 ?_ | refine B.ret ?_)
        rw [if_neg hc]
        refine ⟨rfl, HGet.eq, fin ?_⟩
        have hn24 := hf24.n
        exact Fr.set (Fr.set (Fr.set (Fr.set (hf24.mono fun _ _ h => h.elim).push.push fun hlt => by omega) fun hlt => by simp at hlt; omega) fun _ => .inl rfl) fun _ => .inr rfl
      · repeat (first | refine O.one ?_ | refine O.nil ?_ | refine C.next ?_ | refine RunC.seq ?_ | refine RunC.region ?_ | refine RunC.skip ?_ | refine RunC.ret ?_ | refine O.one0 ?_ | refine B.ret ?_)
        rw [if_pos hc]
        refine ⟨rfl, HGet.eq, fin ?_⟩
        have hn24 := hf24.n
        exact Fr.set (Fr.set (Fr.set (hf24.mono fun _ _ h => h.elim).push.push fun hlt => by omega) fun hlt => by simp at hlt; omega) fun _ => .inr rfl
  · repeat (first | refine O.one ?_ | refine O.nil ?_ | refine C.next ?_ | refine RunC.seq ?_ | refine RunC.region ?_ | refine RunC.skip ?_ | refine O.skT ?_ | refine C.ifF ?_)
    have hok1 : st1.e = 0 := by
      by_cases h : st1.e = 0
      · exact h
      · exact absurd (by unfold restS; rw [if_neg h]) h0'
    rw [if_pos hok1]
    skip
    haveI hQ3 := ((Fr.refl : Fr (fun _ => False) h2 h2)).keep hQ2 (by omega) id
    haveI hO3 := ((Fr.refl : Fr (fun _ => False) h2 h2)).keep hO2 (by omega) id
    have hn3 := ((Fr.refl : Fr (fun _ => False) h2 h2)).n
    refine O.call' (Decode_ok (bs := l) ((ho.keep ((Fr.refl : Fr (fun _ => False) h2 h2)) fun _ _ => id).rd) (by omega)) (fun r h4 hr => ?_)
    obtain ⟨rfl, hf4⟩ := hr
    have hok := decS_ok l
    generalize decS l = D at *
    obtain ⟨X, e', a'⟩ := D
    simp only at hok ⊢
    haveI := l32 hok.prev
    haveI := l32 hok.vals
    haveI := l32 hok.next
    haveI := l32 hok.app
    have hn4 := hf4.n
    have hf24 := ((Fr.refl : Fr (fun _ => False) h2 h2)).trans' hf4
    haveI hQ4 := hf4.keep hQ3 (by omega) id
    haveI hO4 := hf4.keep hO3 (by omega) id
    haveI : BLt h.n h4 := ⟨by omega⟩
    haveI : BNe h.n q := ⟨by omega⟩
    haveI : BNe q h.n := ⟨by omega⟩
    haveI : BLt q h4 := ⟨by omega⟩
    repeat (first | refine O.one ?_ | refine O.nil ?_ | refine C.next ?_ | refine RunC.seq ?_ | refine RunC.region ?_ | refine O.one0 ?_)
    rw [same_fault]
    refine C.ifN (fun hc => ?_) (fun hc => ?_)
    · repeat (first | refine O.one ?_ | refine O.nil ?_ | refine C.next ?_ | refine RunC.seq ?_ | refine RunC.region ?_ | refine RunC.ret ?_ | refine O.one0 ?_ | refine C.ret2 ?_ | refine B.ret ?_)
      rw [if_neg hc]
      refine ⟨rfl, HGet.eq, fin ?_⟩
      have hn24 := hf24.n
      exact Fr.set (Fr.set (Fr.set (Fr.set (hf24.mono fun _ _ h => h.elim).push.push fun hlt => by omega) fun hlt => by simp at hlt; omega) fun _ => .inl rfl) fun _ => .inr rfl
    · repeat (first | refine O.one ?_ | refine O.nil ?_ | refine C.next ?_ | refine RunC.seq ?_ | refine RunC.region ?_ | refine RunC.skip ?_ | refine RunC.ret ?_ | refine O.one0 ?_ | refine B.ret ?_)
      rw [if_pos hc]
      refine ⟨rfl, HGet.eq, fin ?_⟩
      have hn24 := hf24.n
      exact Fr.set (Fr.set (Fr.set (hf24.mono fun _ _ h => h.elim).push.push fun hlt => by omega) fun hlt => by simp at hlt; omega) fun _ => .inr rfl

set_option maxHeartbeats 4000000 in
theorem partC_ok {h : Heap} {p q : Nat} {sv : Value} {bs : List UInt8} {st : RSt} {e a : Int} (hp : PRs h p sv bs st) (hq : h.get q = .cells [.int .i64 e, .int .i64 a] 0) (hqn : q < h.n) (hqp : q ≠ p) (hqs : ¬ ownedBy sv q) (hst : (e, a) = ((0, 0) : Int × Int) → st.e = 0) :
    Runs Tryz.prog T0 (.fn fn_block_part_api_Commit_) [.pointer (some ⟨p, 0, none⟩), .int .i64 bs.length, .pointer (some ⟨q, 0, none⟩), .func (.func fn_commit_Decode) ⟨[]⟩ ⟨[]⟩] h
      (fun r h' => (∃ sl, r = .agg ⟨(partB decC zCm bs ((e, a), st)).1.cells sl⟩ ∧ Own h' 2 sl (tcells (partB decC zCm bs ((e, a), st)).1.votes) (partB decC zCm bs ((e, a), st)).1.votes.length ∧ ∀ i, ownedBy sl i → h.n ≤ i) ∧ h'.get q = .cells [.int .i64 (partB decC zCm bs ((e, a), st)).2.1.1, .int .i64 (partB decC zCm bs ((e, a), st)).2.1.2] 0 ∧ PRs h' p sv bs (partB decC zCm bs ((e, a), st)).2.2 ∧ Fr (fun i => i = p ∨ i = q) h h') (fun _ _ => False) := by
  have hpl := hp.lt
  have hown := fun {i : Nat} (hi : ownedBy sv i) => hp.own_lt hi
  haveI hQ : HGet h q _ := ⟨hq⟩
  haveI : BLt q h := ⟨hqn⟩
  refine block_part_api_Commit__runs ?_
  repeat (first | refine O.one ?_ | refine O.nil ?_ | refine C.next ?_ | refine RunC.seq ?_ | refine RunC.region ?_)
  rw [same_fault]
  refine C.ifN (fun hz => ?_) (fun hz => ?_)
  · repeat (first | refine O.one ?_ | refine O.nil ?_ | refine C.next ?_ | refine RunC.seq ?_ | refine RunC.region ?_ | refine RunC.ret ?_ | refine O.one0 ?_ | refine C.ret2 ?_ | refine B.ret ?_)
    unfold partB
    rw [if_neg hz]
    exact ⟨⟨_, rfl, .none, fun i hi => hi.elim⟩, (HGet.push (k := ⟨hqn⟩) (g := hQ)).eq, hp.none Fr.refl.push, Fr.refl.push⟩
  obtain ⟨rfl, rfl⟩ := Prod.mk.inj hz
  have hse := hst rfl
  have hple := hp.le hse
  have hsm := hp.small
  repeat (first | refine O.one ?_ | refine C.next ?_ | refine RunC.seq ?_ | refine RunC.region ?_ | refine RunC.skip ?_)
  generalize hh1 : h.push (.cells (.int .i64 0 :: (z32 ++ [.slice none 0 0])) 0) = h1
  have hf1 : Fr (fun _ => False) h h1 := by rw [← hh1]; exact Fr.refl.push
  have hp1 := hp.none hf1
  have hQ1 := hf1.keep hQ hqn id
  have hO1 : HGet h1 h.n (.cells (.int .i64 0 :: (z32 ++ [.slice none 0 0])) 0) := by rw [← hh1]; exact HGet.new
  have hn1' : h.n < h1.n := by rw [← hh1]; simp
  clear hh1
  refine O.call' (Rest_run hp1) (fun r h1' hr => ?_)
  obtain ⟨rfl, hh1'⟩ := hr
  obtain rfl := hh1'.symm
  have hrest : restS bs st = (bs.length : Int) - st.pl := by unfold restS; rw [if_pos hse]
  rw [hrest]
  repeat (first | refine O.how (XOp.subI (by omega)) ?_ | refine O.one ?_ | refine O.nil ?_ | refine C.next ?_ | refine RunC.seq ?_ | refine RunC.region ?_)
  have hat : (bs.length : Int) - ((bs.length : Int) - st.pl) = st.pl := by omega
  rw [hat]
  have k2 := Bytes_run (most := 65536) hp1 (by omega)
  have hpart : partB decC zCm bs ((0, 0), st) = (if (rd (bytesS bs 65536) [] st).2.e = 0 then (if (decC (rd (bytesS bs 65536) [] st).1).2 = (0, 0) then ((decC (rd (bytesS bs 65536) [] st).1).1, (0, 0), (rd (bytesS bs 65536) [] st).2) else (zCm, (5, (st.pl : Int)), (rd (bytesS bs 65536) [] st).2)) else (zCm, ((rd (bytesS bs 65536) [] st).2.e, (rd (bytesS bs 65536) [] st).2.fa), (rd (bytesS bs 65536) [] st).2)) := by unfold partB; rw [if_pos rfl]
  rw [hpart]
  clear hpart
  have hbl : (rd (bytesS bs 65536) [] st).1.length ≤ bs.length := rd_bytes_len
  generalize rd (bytesS bs 65536) [] st = b at *
  obtain ⟨l, st1⟩ := b
  refine O.call' k2 (fun r h2 hr => ?_)
  obtain ⟨hf2, ⟨ho, hnew⟩, hr2⟩ := hr
  simp only at ho hr2 hbl hnew ⊢
  have hn1 := hf1.n
  have hn2 := hf2.n
  have hQ2 := hf2.keep hQ1 (by omega) hqp
  have hO2 := hf2.keep hO1 hn1' (by omega)
  have hfa : st1.e = 0 → st1.fa = 0 := fun h0 => (let ⟨_, h1, _⟩ := hr2.ex; (h1 h0).2)
  have hle1 : st1.e = 0 → st1.pl ≤ bs.length := fun h0 => hr2.le h0
  repeat (first | refine O.one ?_ | refine O.nil ?_ | refine C.next ?_ | refine RunC.seq ?_ | refine RunC.region ?_)
  refine O.call' (Rest_run hr2) (fun r h2' hr => ?_)
  obtain ⟨rfl, hh2⟩ := hr
  obtain rfl := hh2.symm
  repeat (first | refine O.one ?_)
  have fin : ∀ {H : Heap}, Fr (fun i => i = q ∨ i = h.n) h2 H → PRs H p sv bs st1 ∧ Fr (fun i => i = p ∨ i = q) h H := fun hf => ⟨hr2.keep hf (by omega) fun i hi hs => by
    have := hown hi
    rcases hs with h | h
    · exact hqs (h ▸ hi)
    · omega, Fr.trans (S := fun i => i = p ∨ i = q) (hf1.mono fun _ _ h => h.elim) (Fr.trans (S := fun i => i = p ∨ i = q ∨ i = h.n) (hf2.mono fun _ _ h => .inl h) hf fun i _ h => .inr h) fun i hi h => by
    rcases h with h | h | h
    · exact .inl h
    · exact .inr h
    · omega⟩
  refine O.dec (fun h0' => ?_) (fun h0' => ?_)
  · repeat (first | refine O.oneT ?_)
    refine O.callT (End_run hr2) (fun r h3 hr => ?_)
    obtain ⟨rfl, hf3⟩ := hr
    have hn3' := hf3.n
    repeat (first | refine O.one ?_ | refine O.nil ?_ | refine C.next ?_ | refine O.oneT ?_)
    rw [same_fault]
    skip
    refine C.ifN (fun hc => ?_) (fun hc => ?_)
    · have herr : st1.e ≠ 0 := fun h0 => hc (by
        unfold restS at h0'
        rw [if_pos h0] at h0'
        unfold endS
        rw [if_neg (by omega), h0, hfa h0])
      have hend : endS bs st1 = (st1.e, st1.fa) := by
        unfold endS
        rw [if_neg (fun h => herr h.1)]
      rw [if_neg herr]
      haveI hQ3 := hf3.keep hQ2 (by omega) id
      haveI hO3 := hf3.keep hO2 (by omega) id
      have hn3 := hf3.n
      repeat (first | refine O.one ?_ | refine RunC.seq ?_ | refine RunC.region ?_)
      refine O.call' (End_run (hr2.none hf3)) (fun r h4 hr => ?_)
      obtain ⟨rfl, hf4⟩ := hr
      rw [hend]
      have hn4 := hf4.n
      have hf24 := hf3.trans' hf4
      haveI hQ4 := hf4.keep hQ3 (by omega) id
      haveI hO4 := hf4.keep hO3 (by omega) id
      haveI : BLt h.n h4 := ⟨by omega⟩
      haveI : BNe h.n q := ⟨by omega⟩
      haveI : BNe q h.n := ⟨by omega⟩
      haveI : BLt q h4 := ⟨by omega⟩
      repeat (first | refine O.one ?_ | refine O.nil ?_ | refine C.next ?_ | refine RunC.seq ?_ | refine RunC.region ?_ | refine RunC.ret ?_ | refine O.one0 ?_ | refine C.ret2 ?_ | refine B.ret ?_)
      refine ⟨⟨_, rfl, .none, fun i hi => hi.elim⟩, HGet.eq, fin ?_⟩
      exact Fr.set (Fr.set (hf24.mono fun _ _ h => h.elim) fun _ => .inl rfl) fun _ => .inr rfl
    · have hok1 : st1.e = 0 := by
          unfold endS at hc
          split at hc
          · cases hc
          · exact (Prod.mk.inj hc).1
      rw [if_pos hok1]
      repeat (first | refine O.one ?_ | refine C.next ?_ | refine RunC.seq ?_ | refine RunC.region ?_ | refine RunC.skip ?_)
      haveI hQ3 := (hf3).keep hQ2 (by omega) id
      haveI hO3 := (hf3).keep hO2 (by omega) id
      have hn3 := (hf3).n
      refine O.call' (CDecode_ok (bs := l) ((ho.keep (hf3) fun _ _ => id).rd) (by omega)) (fun r h4 hr => ?_)
      obtain ⟨sl, rfl, ho4, hnew4, hf4⟩ := hr
      have hok := decC_ok l
      generalize decC l = D at *
      obtain ⟨X, e', a'⟩ := D
      simp only at hok ho4 ⊢
      obtain ⟨asl, csl, rfl, _, _⟩ := ho4.rd
      haveI := l32 hok.1
      have hn4 := hf4.n
      have hf24 := (hf3).trans' hf4
      haveI hQ4 := hf4.keep hQ3 (by omega) id
      haveI hO4 := hf4.keep hO3 (by omega) id
      haveI : BLt h.n h4 := ⟨by omega⟩
      haveI : BNe h.n q := ⟨by omega⟩
      haveI : BNe q h.n := ⟨by omega⟩
      haveI : BLt q h4 := ⟨by omega⟩
      repeat (first | refine O.one ?_ | refine O.nil ?_ | refine C.next ?_ | refine RunC.seq ?_ | refine RunC.region ?_ | refine O.one0 ?_)
      rw [same_fault]
      refine C.ifN (fun hc => ?_) (fun hc => ?_)
      · repeat (first | refine O.one ?_ | refine O.nil ?_ | refine C.next ?_ | refine RunC.seq ?_ | refine RunC.region ?_ | refine RunC.ret ?_ | refine O.one0 ?_ | refine C.ret2 ?_ | refine B.ret ?_)
        rw [if_neg hc]
        refine ⟨⟨_, rfl, .none, fun i hi => hi.elim⟩, HGet.eq, fin ?_⟩
        have hn24 := hf24.n
        exact Fr.set (Fr.set (Fr.set (Fr.set (hf24.mono fun _ _ h => h.elim).push.push fun hlt => by omega) fun hlt => by simp at hlt; omega) fun _ => .inl rfl) fun _ => .inr rfl
      · repeat (first | refine O.one ?_ | refine O.nil ?_ | refine C.next ?_ | refine RunC.seq ?_ | refine RunC.region ?_ | refine RunC.skip ?_ | refine RunC.ret ?_ | refine O.one0 ?_ | refine B.ret ?_)
        rw [if_pos hc]
        refine ⟨⟨_, rfl, ho4.keep (S := fun i => i = h.n) (Fr.set (Fr.set (Fr.set Fr.refl.push.push fun hlt => by omega) fun hlt => by simp at hlt; omega) fun _ => rfl) fun i hi h => (by have := hnew4 i hi; omega), fun i hi => (by have := hnew4 i hi; omega)⟩, HGet.eq, fin ?_⟩
        have hn24 := hf24.n
        exact Fr.set (Fr.set (Fr.set (hf24.mono fun _ _ h => h.elim).push.push fun hlt => by omega) fun hlt => by simp at hlt; omega) fun _ => .inr rfl
  · repeat (first | refine O.one ?_ | refine O.nil ?_ | refine C.next ?_ | refine RunC.seq ?_ | refine RunC.region ?_ | refine RunC.skip ?_ | refine O.skT ?_ | refine C.ifF ?_)
    have hok1 : st1.e = 0 := by
      by_cases h : st1.e = 0
      · exact h
      · exact absurd (by unfold restS; rw [if_neg h]) h0'
    rw [if_pos hok1]
    skip
    haveI hQ3 := ((Fr.refl : Fr (fun _ => False) h2 h2)).keep hQ2 (by omega) id
    haveI hO3 := ((Fr.refl : Fr (fun _ => False) h2 h2)).keep hO2 (by omega) id
    have hn3 := ((Fr.refl : Fr (fun _ => False) h2 h2)).n
    refine O.call' (CDecode_ok (bs := l) ((ho.keep ((Fr.refl : Fr (fun _ => False) h2 h2)) fun _ _ => id).rd) (by omega)) (fun r h4 hr => ?_)
    obtain ⟨sl, rfl, ho4, hnew4, hf4⟩ := hr
    have hok := decC_ok l
    generalize decC l = D at *
    obtain ⟨X, e', a'⟩ := D
    simp only at hok ho4 ⊢
    obtain ⟨asl, csl, rfl, _, _⟩ := ho4.rd
    haveI := l32 hok.1
    have hn4 := hf4.n
    have hf24 := ((Fr.refl : Fr (fun _ => False) h2 h2)).trans' hf4
    haveI hQ4 := hf4.keep hQ3 (by omega) id
    haveI hO4 := hf4.keep hO3 (by omega) id
    haveI : BLt h.n h4 := ⟨by omega⟩
    haveI : BNe h.n q := ⟨by omega⟩
    haveI : BNe q h.n := ⟨by omega⟩
    haveI : BLt q h4 := ⟨by omega⟩
    repeat (first | refine O.one ?_ | refine O.nil ?_ | refine C.next ?_ | refine RunC.seq ?_ | refine RunC.region ?_ | refine O.one0 ?_)
    rw [same_fault]
    refine C.ifN (fun hc => ?_) (fun hc => ?_)
    · repeat (first | refine O.one ?_ | refine O.nil ?_ | refine C.next ?_ | refine RunC.seq ?_ | refine RunC.region ?_ | refine RunC.ret ?_ | refine O.one0 ?_ | refine C.ret2 ?_ | refine B.ret ?_)
      rw [if_neg hc]
      refine ⟨⟨_, rfl, .none, fun i hi => hi.elim⟩, HGet.eq, fin ?_⟩
      have hn24 := hf24.n
      exact Fr.set (Fr.set (Fr.set (Fr.set (hf24.mono fun _ _ h => h.elim).push.push fun hlt => by omega) fun hlt => by simp at hlt; omega) fun _ => .inl rfl) fun _ => .inr rfl
    · repeat (first | refine O.one ?_ | refine O.nil ?_ | refine C.next ?_ | refine RunC.seq ?_ | refine RunC.region ?_ | refine RunC.skip ?_ | refine RunC.ret ?_ | refine O.one0 ?_ | refine B.ret ?_)
      rw [if_pos hc]
      refine ⟨⟨_, rfl, ho4.keep (S := fun i => i = h.n) (Fr.set (Fr.set (Fr.set Fr.refl.push.push fun hlt => by omega) fun hlt => by simp at hlt; omega) fun _ => rfl) fun i hi h => (by have := hnew4 i hi; omega), fun i hi => (by have := hnew4 i hi; omega)⟩, HGet.eq, fin ?_⟩
      have hn24 := hf24.n
      exact Fr.set (Fr.set (Fr.set (hf24.mono fun _ _ h => h.elim).push.push fun hlt => by omega) fun hlt => by simp at hlt; omega) fun _ => .inr rfl

set_option maxHeartbeats 4000000 in
theorem partV_ok {h : Heap} {p q : Nat} {sv : Value} {bs : List UInt8} {st : RSt} {e a : Int} (hp : PRs h p sv bs st) (hq : h.get q = .cells [.int .i64 e, .int .i64 a] 0) (hqn : q < h.n) (hqp : q ≠ p) (hqs : ¬ ownedBy sv q) (hst : (e, a) = ((0, 0) : Int × Int) → st.e = 0) :
    Runs Tryz.prog T0 (.fn fn_block_part___api_Validator_) [.pointer (some ⟨p, 0, none⟩), .int .i64 bs.length, .pointer (some ⟨q, 0, none⟩), .func (.func fn_vals_Decode) ⟨[]⟩ ⟨[]⟩] h
      (fun r h' => (∃ sl, r = sl ∧ Own h' 5 sl (vcells (partB decV [] bs ((e, a), st)).1) (partB decV [] bs ((e, a), st)).1.length ∧ ∀ i, ownedBy sl i → h.n ≤ i) ∧ h'.get q = .cells [.int .i64 (partB decV [] bs ((e, a), st)).2.1.1, .int .i64 (partB decV [] bs ((e, a), st)).2.1.2] 0 ∧ PRs h' p sv bs (partB decV [] bs ((e, a), st)).2.2 ∧ Fr (fun i => i = p ∨ i = q) h h') (fun _ _ => False) := by
  have hpl := hp.lt
  have hown := fun {i : Nat} (hi : ownedBy sv i) => hp.own_lt hi
  haveI hQ : HGet h q _ := ⟨hq⟩
  haveI : BLt q h := ⟨hqn⟩
  refine block_part___api_Validator__runs ?_
  repeat (first | refine O.one ?_ | refine O.nil ?_ | refine C.next ?_ | refine RunC.seq ?_ | refine RunC.region ?_)
  rw [same_fault]
  refine C.ifN (fun hz => ?_) (fun hz => ?_)
  · repeat (first | refine O.one ?_ | refine O.nil ?_ | refine C.next ?_ | refine RunC.seq ?_ | refine RunC.region ?_ | refine RunC.ret ?_ | refine C.ret2 ?_ | refine B.ret ?_)
    unfold partB
    rw [if_neg hz]
    exact ⟨⟨_, rfl, .none, fun i hi => hi.elim⟩, hq, hp, Fr.refl⟩
  obtain ⟨rfl, rfl⟩ := Prod.mk.inj hz
  have hse := hst rfl
  have hple := hp.le hse
  have hsm := hp.small
  repeat (first | refine O.one ?_ | refine C.next ?_ | refine RunC.seq ?_ | refine RunC.region ?_ | refine RunC.skip ?_)
  have hf1 : Fr (fun _ => False) h h := Fr.refl
  have hp1 := hp
  have hQ1 := hQ
  refine O.call' (Rest_run hp1) (fun r h1' hr => ?_)
  obtain ⟨rfl, hh1'⟩ := hr
  obtain rfl := hh1'.symm
  have hrest : restS bs st = (bs.length : Int) - st.pl := by unfold restS; rw [if_pos hse]
  rw [hrest]
  repeat (first | refine O.how (XOp.subI (by omega)) ?_ | refine O.one ?_ | refine O.nil ?_ | refine C.next ?_ | refine RunC.seq ?_ | refine RunC.region ?_)
  have hat : (bs.length : Int) - ((bs.length : Int) - st.pl) = st.pl := by omega
  rw [hat]
  have k2 := Bytes_run (most := 65536) hp1 (by omega)
  have hpart : partB decV [] bs ((0, 0), st) = (if (rd (bytesS bs 65536) [] st).2.e = 0 then (if (decV (rd (bytesS bs 65536) [] st).1).2 = (0, 0) then ((decV (rd (bytesS bs 65536) [] st).1).1, (0, 0), (rd (bytesS bs 65536) [] st).2) else ([], (5, (st.pl : Int)), (rd (bytesS bs 65536) [] st).2)) else ([], ((rd (bytesS bs 65536) [] st).2.e, (rd (bytesS bs 65536) [] st).2.fa), (rd (bytesS bs 65536) [] st).2)) := by unfold partB; rw [if_pos rfl]
  rw [hpart]
  clear hpart
  have hbl : (rd (bytesS bs 65536) [] st).1.length ≤ bs.length := rd_bytes_len
  generalize rd (bytesS bs 65536) [] st = b at *
  obtain ⟨l, st1⟩ := b
  refine O.call' k2 (fun r h2 hr => ?_)
  obtain ⟨hf2, ⟨ho, hnew⟩, hr2⟩ := hr
  simp only at ho hr2 hbl hnew ⊢
  have hn1 := hf1.n
  have hn2 := hf2.n
  have hQ2 := hf2.keep hQ1 (by omega) hqp
  have hfa : st1.e = 0 → st1.fa = 0 := fun h0 => (let ⟨_, h1, _⟩ := hr2.ex; (h1 h0).2)
  have hle1 : st1.e = 0 → st1.pl ≤ bs.length := fun h0 => hr2.le h0
  repeat (first | refine O.one ?_ | refine O.nil ?_ | refine C.next ?_ | refine RunC.seq ?_ | refine RunC.region ?_)
  refine O.call' (Rest_run hr2) (fun r h2' hr => ?_)
  obtain ⟨rfl, hh2⟩ := hr
  obtain rfl := hh2.symm
  repeat (first | refine O.one ?_)
  have fin : ∀ {H : Heap}, Fr (fun i => i = q) h2 H → PRs H p sv bs st1 ∧ Fr (fun i => i = p ∨ i = q) h H := fun hf => ⟨hr2.keep hf (by omega) fun i hi hs => hqs (hs ▸ hi), Fr.trans (S := fun i => i = p ∨ i = q) (hf1.mono fun _ _ h => h.elim) (Fr.trans (S := fun i => i = p ∨ i = q) (hf2.mono fun _ _ h => .inl h) hf fun i _ h => .inr h) fun i hi h => h⟩
  refine O.dec (fun h0' => ?_) (fun h0' => ?_)
  · repeat (first | refine O.oneT ?_)
    refine O.callT (End_run hr2) (fun r h3 hr => ?_)
    obtain ⟨rfl, hf3⟩ := hr
    have hn3' := hf3.n
    repeat (first | refine O.one ?_ | refine O.nil ?_ | refine C.next ?_ | refine O.oneT ?_)
    rw [same_fault]
    skip
    refine C.ifN (fun hc => ?_) (fun hc => ?_)
    · have herr : st1.e ≠ 0 := fun h0 => hc (by
        unfold restS at h0'
        rw [if_pos h0] at h0'
        unfold endS
        rw [if_neg (by omega), h0, hfa h0])
      have hend : endS bs st1 = (st1.e, st1.fa) := by
        unfold endS
        rw [if_neg (fun h => herr h.1)]
      rw [if_neg herr]
      haveI hQ3 := hf3.keep hQ2 (by omega) id
      have hn3 := hf3.n
      repeat (first | refine O.one ?_ | refine RunC.seq ?_ | refine RunC.region ?_)
      refine O.call' (End_run (hr2.none hf3)) (fun r h4 hr => ?_)
      obtain ⟨rfl, hf4⟩ := hr
      rw [hend]
      have hn4 := hf4.n
      have hf24 := hf3.trans' hf4
      haveI hQ4 := hf4.keep hQ3 (by omega) id
      haveI : BLt q h4 := ⟨by omega⟩
      repeat (first | refine O.one ?_ | refine O.nil ?_ | refine C.next ?_ | refine RunC.seq ?_ | refine RunC.region ?_ | refine RunC.ret ?_ | refine O.one0 ?_ | refine C.ret2 ?_ | refine B.ret ?_)
      refine ⟨⟨_, rfl, .none, fun i hi => hi.elim⟩, HGet.eq, fin ?_⟩
      exact Fr.set (hf24.mono fun _ _ h => h.elim) fun _ => rfl
    · have hok1 : st1.e = 0 := by
          unfold endS at hc
          split at hc
          · cases hc
          · exact (Prod.mk.inj hc).1
      rw [if_pos hok1]
      repeat (first | refine O.one ?_ | refine C.next ?_ | refine RunC.seq ?_ | refine RunC.region ?_ | refine RunC.skip ?_)
      haveI hQ3 := (hf3).keep hQ2 (by omega) id
      have hn3 := (hf3).n
      refine O.call' (VDecode_ok (bs := l) ((ho.keep (hf3) fun _ _ => id).rd) (by omega)) (fun r h4 hr => ?_)
      obtain ⟨sl, rfl, ho4, hnew4, hf4⟩ := hr
      generalize decV l = D at *
      obtain ⟨X, e', a'⟩ := D
      simp only at ho4 ⊢
      have hn4 := hf4.n
      have hf24 := (hf3).trans' hf4
      haveI hQ4 := hf4.keep hQ3 (by omega) id
      haveI : BLt q h4 := ⟨by omega⟩
      repeat (first | refine O.one ?_ | refine O.nil ?_ | refine C.next ?_ | refine RunC.seq ?_ | refine RunC.region ?_ | refine O.one0 ?_)
      rw [same_fault]
      refine C.ifN (fun hc => ?_) (fun hc => ?_)
      · repeat (first | refine O.one ?_ | refine O.nil ?_ | refine C.next ?_ | refine RunC.seq ?_ | refine RunC.region ?_ | refine RunC.ret ?_ | refine O.one0 ?_ | refine C.ret2 ?_ | refine B.ret ?_)
        rw [if_neg hc]
        refine ⟨⟨_, rfl, .none, fun i hi => hi.elim⟩, HGet.eq, fin ?_⟩
        exact Fr.set (hf24.mono fun _ _ h => h.elim).push fun _ => rfl
      · repeat (first | refine O.one ?_ | refine O.nil ?_ | refine C.next ?_ | refine RunC.seq ?_ | refine RunC.region ?_ | refine RunC.skip ?_ | refine RunC.ret ?_ | refine B.ret ?_)
        rw [if_pos hc]
        refine ⟨⟨_, rfl, ho4.keep (S := fun _ => False) Fr.refl.push fun _ _ => id, fun i hi => (by have := hnew4 i hi; omega)⟩, HGet.eq, fin ?_⟩
        exact (hf24.mono fun _ _ h => h.elim).push
  · repeat (first | refine O.one ?_ | refine O.nil ?_ | refine C.next ?_ | refine RunC.seq ?_ | refine RunC.region ?_ | refine RunC.skip ?_ | refine O.skT ?_ | refine C.ifF ?_)
    have hok1 : st1.e = 0 := by
      by_cases h : st1.e = 0
      · exact h
      · exact absurd (by unfold restS; rw [if_neg h]) h0'
    rw [if_pos hok1]
    skip
    haveI hQ3 := ((Fr.refl : Fr (fun _ => False) h2 h2)).keep hQ2 (by omega) id
    have hn3 := ((Fr.refl : Fr (fun _ => False) h2 h2)).n
    refine O.call' (VDecode_ok (bs := l) ((ho.keep ((Fr.refl : Fr (fun _ => False) h2 h2)) fun _ _ => id).rd) (by omega)) (fun r h4 hr => ?_)
    obtain ⟨sl, rfl, ho4, hnew4, hf4⟩ := hr
    generalize decV l = D at *
    obtain ⟨X, e', a'⟩ := D
    simp only at ho4 ⊢
    have hn4 := hf4.n
    have hf24 := ((Fr.refl : Fr (fun _ => False) h2 h2)).trans' hf4
    haveI hQ4 := hf4.keep hQ3 (by omega) id
    haveI : BLt q h4 := ⟨by omega⟩
    repeat (first | refine O.one ?_ | refine O.nil ?_ | refine C.next ?_ | refine RunC.seq ?_ | refine RunC.region ?_ | refine O.one0 ?_)
    rw [same_fault]
    refine C.ifN (fun hc => ?_) (fun hc => ?_)
    · repeat (first | refine O.one ?_ | refine O.nil ?_ | refine C.next ?_ | refine RunC.seq ?_ | refine RunC.region ?_ | refine RunC.ret ?_ | refine O.one0 ?_ | refine C.ret2 ?_ | refine B.ret ?_)
      rw [if_neg hc]
      refine ⟨⟨_, rfl, .none, fun i hi => hi.elim⟩, HGet.eq, fin ?_⟩
      exact Fr.set (hf24.mono fun _ _ h => h.elim).push fun _ => rfl
    · repeat (first | refine O.one ?_ | refine O.nil ?_ | refine C.next ?_ | refine RunC.seq ?_ | refine RunC.region ?_ | refine RunC.skip ?_ | refine RunC.ret ?_ | refine B.ret ?_)
      rw [if_pos hc]
      refine ⟨⟨_, rfl, ho4.keep (S := fun _ => False) Fr.refl.push fun _ _ => id, fun i hi => (by have := hnew4 i hi; omega)⟩, HGet.eq, fin ?_⟩
      exact (hf24.mono fun _ _ h => h.elim).push
end Go.Proofs.YtfpnmcogfamhaaaGreat.A

namespace Go.Proofs.YtfpnmcogfamhaaaGreat.A
open Go Go.Vm
set_option maxRecDepth 10000
set_option linter.unusedVariables false
structure Bk where
  h : Hd
  c : Cm
  vals : List Val
abbrev zBk : Bk := ⟨zeroHd, zCm, []⟩
structure Bk.ok (x : Bk) : Prop where
  h : x.h.ok
  hash : x.c.hash.length = 32
  votes : x.c.votes.length ≤ 64
  vals : x.vals.length ≤ 64
abbrev Bk.cells (x : Bk) (sv sl : Value) : List Value := .string ⟨⟨x.h.chain⟩⟩ :: .int .i64 x.h.height :: .int .i64 x.h.time :: (bcells x.h.prev ++ (bcells x.h.vals ++ (bcells x.h.next ++ (bcells x.h.app ++ (.int .i64 x.c.height :: (bcells x.c.hash ++ [sv, sl]))))))
abbrev zBc : List Value := .string ⟨⟨[]⟩⟩ :: .int .i64 0 :: .int .i64 0 :: (z32 ++ (z32 ++ (z32 ++ (z32 ++ (.int .i64 0 :: (z32 ++ [.slice none 0 0, .slice none 0 0]))))))
def decB (bs : List UInt8) : Bk × Int × Int :=
  let y1 := partB decS zeroHd bs ((0, 0), ⟨0, 0, 0⟩)
  let y2 := partB decC zCm bs y1.2
  let y3 := partB decV [] bs y2.2
  let f := if y3.2.1 = (0, 0) then endS bs y3.2.2 else y3.2.1
  if f = (0, 0) then (⟨y1.1, y2.1, y3.1⟩, f) else (zBk, f)
theorem partB_prop {α : Type} {dec : List UInt8 → α × Int × Int} {zero : α} {P : α → Prop} (hd : ∀ l, P (dec l).1) (hz : P zero) (bs : List UInt8) (y : (Int × Int) × RSt) : P (partB dec zero bs y).1 := by
  unfold partB
  split
  · simp only
    split
    · split
      · exact hd _
      · exact hz
    · exact hz
  · exact hz
theorem decB_ok (bs : List UInt8) : (decB bs).1.ok := by
  have h1 := partB_prop (P := Hd.ok) decS_ok zeroHd_ok bs ((0, 0), ⟨0, 0, 0⟩)
  have h2 := partB_prop (P := fun c : Cm => c.hash.length = 32 ∧ c.votes.length ≤ 64) (zero := zCm) decC_ok ⟨rfl, Nat.zero_le 64⟩ bs (partB decS zeroHd bs ((0, 0), ⟨0, 0, 0⟩)).2
  have h3 := partB_prop (P := fun l : List Val => l.length ≤ 64) (zero := []) decV_len (Nat.zero_le 64) bs (partB decC zCm bs (partB decS zeroHd bs ((0, 0), ⟨0, 0, 0⟩)).2).2
  have key : ∀ f : Int × Int, (if f = (0, 0) then ((⟨(partB decS zeroHd bs ((0, 0), ⟨0, 0, 0⟩)).1, (partB decC zCm bs (partB decS zeroHd bs ((0, 0), ⟨0, 0, 0⟩)).2).1, (partB decV [] bs (partB decC zCm bs (partB decS zeroHd bs ((0, 0), ⟨0, 0, 0⟩)).2).2).1⟩ : Bk), f) else (zBk, f)).1.ok := fun f => by
    split
    · exact ⟨h1, h2.1, h2.2, h3⟩
    · exact ⟨zeroHd_ok, rfl, by simp, by simp⟩
  exact key _
structure BkOwn (h : Heap) (lo : Nat) (x : Bk) (sv sl : Value) : Prop where
  votes : Own h 2 sv (tcells x.c.votes) x.c.votes.length
  vals : Own h 5 sl (vcells x.vals) x.vals.length
  vnew : ∀ i, ownedBy sv i → lo ≤ i
  lnew : ∀ i, ownedBy sl i → lo ≤ i
  apart : ∀ i, ownedBy sv i → ¬ ownedBy sl i
theorem BkOwn.keep {S : Nat → Prop} {h h' : Heap} {lo : Nat} {x : Bk} {sv sl : Value} (hb : BkOwn h lo x sv sl) (hf : Fr S h h') (hs : ∀ i, S i → i < lo ∨ h.n ≤ i) : BkOwn h' lo x sv sl :=
  ⟨hb.votes.keep hf fun i hi h => (by have := hb.vnew i hi; have := hb.votes.lt hi; have := hs i h; omega), hb.vals.keep hf fun i hi h => (by have := hb.lnew i hi; have := hb.vals.lt hi; have := hs i h; omega), hb.vnew, hb.lnew, hb.apart⟩
theorem BkOwn.zero {h : Heap} {lo : Nat} : BkOwn h lo zBk (.slice none 0 0) (.slice none 0 0) := ⟨.none, .none, fun i hi => hi.elim, fun i hi => hi.elim, fun i hi => hi.elim⟩

set_option maxHeartbeats 8000000 in
theorem BDecode_ok {h : Heap} {v : Value} {bs : List UInt8} (hv : Rd h 1 v (bcells bs) bs.length) (hs : bs.length < 1048576) : Runs Tryz.prog T0 (.fn fn_block_Decode) [v] h
    (fun r h' => ∃ sv sl, r = .tuple ⟨[.agg ⟨(decB bs).1.cells sv sl⟩, .agg ⟨[.int .i64 (decB bs).2.1, .int .i64 (decB bs).2.2]⟩]⟩ ∧ BkOwn h' h.n (decB bs).1 sv sl ∧ Fr (fun _ => False) h h') (fun _ _ => False) := by
  have hv' := hv
  obtain ⟨a0, cap0, rfl, hl0, _⟩ := hv
  refine block_Decode_runs ?_
  repeat (first | refine O.one ?_ | refine O.nil ?_ | refine C.next ?_ | refine RunC.seq ?_ | refine RunC.region ?_)
  generalize hh0 : ((h.push (.cells zBc 0)).push (.cells [.int .i64 0, .int .i64 0] 0)) = h0
  have hf0 : Fr (fun _ => False) h h0 := by rw [← hh0]; exact Fr.refl.push.push
  have hn0 : h0.n = h.n + 2 := by rw [← hh0]; rfl
  have hA0 : HGet h0 h.n (.cells zBc 0) := by rw [← hh0]; exact HGet.push (k := BLt.new) (g := HGet.new)
  generalize hb3 : (h.push (.cells zBc 0)).n = b3
  have hb3' : b3 = h.n + 1 := by rw [← hb3]; rfl
  have hB0 : HGet h0 b3 (.cells [.int .i64 0, .int .i64 0] 0) := by rw [← hh0, ← hb3]; exact HGet.new
  clear hh0 hb3
  refine O.call' (NewReader_ok (hv'.keep hf0 fun _ _ => id) hs) (fun r h1' hr => ?_)
  obtain ⟨p, sv, rfl, hp1, hsv, hr1', hf1'⟩ := hr
  have hlt1' := hr1'.lt
  have hn1' := hf1'.n
  have hA1' : HGet h1' h.n _ := hf1'.keep hA0 (by omega) id
  have hB1' : HGet h1' b3 _ := hf1'.keep hB0 (by omega) id
  repeat (first | refine O.one ?_ | refine O.nil ?_ | refine C.next ?_ | refine RunC.seq ?_ | refine RunC.region ?_)
  generalize hx : h1'.n = q
  generalize hh1 : h1'.push (.cells [.int .i64 0, .int .i64 0] 0) = h1
  have hf1x : Fr (fun _ => False) h1' h1 := by rw [← hh1]; exact Fr.refl.push
  have hn1 : h1.n = q + 1 := by rw [← hh1, ← hx]; rfl
  have hq1 : h1.get q = .cells [.int .i64 0, .int .i64 0] 0 := by rw [← hh1, ← hx, Heap.get_push, if_pos rfl]
  clear hh1
  have hA1 := hf1x.keep hA1' (by omega) id
  have hB1 := hf1x.keep hB1' (by omega) id
  have hr1 := hr1'.none hf1x
  have hf1 := hf1'.trans' hf1x
  have hlt1 := hr1.lt
  have hown1 : ∀ i, ownedBy sv i → h0.n ≤ i ∧ i < q := fun i hi => ⟨hsv i hi, by have := hr1'.own_lt hi; omega⟩
  have hqs : ¬ ownedBy sv q := fun hi => by have := (hown1 q hi).2; omega
  have hok := decB_ok bs
  have hdec : decB bs = (let f := if (partB decV [] bs (partB decC zCm bs (partB decS zeroHd bs ((0, 0), ⟨0, 0, 0⟩)).2).2).2.1 = (0, 0) then endS bs (partB decV [] bs (partB decC zCm bs (partB decS zeroHd bs ((0, 0), ⟨0, 0, 0⟩)).2).2).2.2 else (partB decV [] bs (partB decC zCm bs (partB decS zeroHd bs ((0, 0), ⟨0, 0, 0⟩)).2).2).2.1; if f = (0, 0) then (⟨(partB decS zeroHd bs ((0, 0), ⟨0, 0, 0⟩)).1, (partB decC zCm bs (partB decS zeroHd bs ((0, 0), ⟨0, 0, 0⟩)).2).1, (partB decV [] bs (partB decC zCm bs (partB decS zeroHd bs ((0, 0), ⟨0, 0, 0⟩)).2).2).1⟩, f) else (zBk, f)) := rfl
  rw [hdec]
  clear hdec hok
  have k1 := partH_ok hr1 hq1 (by omega) (by omega) hqs (fun _ => rfl)
  have e1 := partB_e (dec := decS) (zero := zeroHd) (bs := bs) (y := ((0, 0), ⟨0, 0, 0⟩)) (fun _ => rfl)
  have hH := partB_prop (P := Hd.ok) decS_ok zeroHd_ok bs ((0, 0), ⟨0, 0, 0⟩)
  generalize partB decS zeroHd bs ((0, 0), ⟨0, 0, 0⟩) = y1 at *
  obtain ⟨X, ⟨f1, g1⟩, st1⟩ := y1
  simp only at k1 e1 hH ⊢
  refine O.call' k1 (fun r h2 hr => ?_)
  obtain ⟨rfl, hq2, hr2, hf2⟩ := hr
  have hn2 := hf2.n
  have hA2 := hf2.keep hA1 (by omega) (by omega)
  have hB2 := hf2.keep hB1 (by omega) (by omega)
  haveI := l32 hH.prev
  haveI := l32 hH.vals
  haveI := l32 hH.next
  haveI := l32 hH.app
  repeat (first | refine O.one ?_ | refine O.nil ?_ | refine C.next ?_ | refine RunC.seq ?_ | refine RunC.region ?_ | refine O.one0 ?_)
  generalize hx6 : h2.n = x6
  generalize hh3 : h2.push _ = h3
  have hf3 : Fr (fun _ => False) h2 h3 := by rw [← hh3]; exact Fr.refl.push
  have hn3 : h3.n = x6 + 1 := by rw [← hh3, ← hx6]; rfl
  have hC3 := (by rw [← hh3, ← hx6]; exact HGet.new : HGet h3 x6 (.cells (.string ⟨⟨X.chain⟩⟩ :: .int .i64 X.height :: .int .i64 X.time :: (bcells X.prev ++ (bcells X.vals ++ (bcells X.next ++ (bcells X.app ++ (.int .i64 0 :: (z32 ++ [.slice none 0 0, .slice none 0 0]))))))) 0))
  clear hh3
  have hA3 := hf3.keep hA2 (by omega) id
  have hB3 := hf3.keep hB2 (by omega) id
  have hr3 := hr2.none hf3
  have hq3 : h3.get q = .cells [.int .i64 f1, .int .i64 g1] 0 := by rw [hf3.get q (by omega) id, hq2]
  have k2 := partC_ok hr3 hq3 (by omega) (by omega) hqs e1
  have e2 := partB_e (dec := decC) (zero := zCm) (bs := bs) (y := ((f1, g1), st1)) e1
  have hCo := partB_prop (P := fun c : Cm => c.hash.length = 32 ∧ c.votes.length ≤ 64) (zero := zCm) decC_ok ⟨rfl, Nat.zero_le 64⟩ bs ((f1, g1), st1)
  generalize partB decC zCm bs ((f1, g1), st1) = y2 at *
  obtain ⟨Y, ⟨f2, g2⟩, st2⟩ := y2
  simp only at k2 e2 hCo ⊢
  refine O.call' k2 (fun r h4 hr => ?_)
  obtain ⟨⟨sv4, rfl, hov4, hnv4⟩, hq4, hr4, hf4⟩ := hr
  obtain ⟨av4, cv4, rfl, _, _⟩ := hov4.rd
  have hn4 := hf4.n
  have hA4 := hf4.keep hA3 (by omega) (by omega)
  have hB4 := hf4.keep hB3 (by omega) (by omega)
  haveI hC4 := hf4.keep hC3 (by omega) (by omega)
  haveI := l32 hCo.1
  haveI : BLt x6 h4 := ⟨by omega⟩
  repeat (first | refine O.one ?_ | refine O.nil ?_ | refine C.next ?_ | refine RunC.seq ?_ | refine RunC.region ?_ | refine O.one0 ?_)
  generalize hh5 : h4.set x6 _ = h5
  have hf5 : Fr (fun i => i = x6) h4 h5 := by rw [← hh5]; exact Fr.refl.set fun _ => rfl
  have hn5 : h5.n = h4.n := by rw [← hh5]; simp
  have hC5 := (by rw [← hh5]; exact HGet.same : HGet h5 x6 (.cells (.string ⟨⟨X.chain⟩⟩ :: .int .i64 X.height :: .int .i64 X.time :: (bcells X.prev ++ (bcells X.vals ++ (bcells X.next ++ (bcells X.app ++ (.int .i64 Y.height :: (bcells Y.hash ++ [(.slice av4 Y.votes.length cv4), .slice none 0 0]))))))) 0))
  clear hh5
  have hA5 := hf5.keep hA4 (by omega) (by omega)
  have hB5 := hf5.keep hB4 (by omega) (by omega)
  have hr5 := hr4.keep hf5 (by omega) fun i hi h => by have := (hown1 i hi).2; omega
  have hq5 : h5.get q = .cells [.int .i64 f2, .int .i64 g2] 0 := by rw [hf5.get q (by omega) (by omega), hq4]
  have hov5 := hov4.keep hf5 fun i hi h => by have := hnv4 i hi; omega
  have hlv4 := fun {i : Nat} (hi : ownedBy (.slice av4 Y.votes.length cv4) i) => hov4.lt hi
  have k3 := partV_ok hr5 hq5 (by omega) (by omega) hqs e2
  have e3 := partB_e (dec := decV) (zero := []) (bs := bs) (y := ((f2, g2), st2)) e2
  have hVo := partB_prop (P := fun l : List Val => l.length ≤ 64) (zero := []) decV_len (Nat.zero_le 64) bs ((f2, g2), st2)
  generalize partB decV [] bs ((f2, g2), st2) = y3 at *
  obtain ⟨Z, ⟨f3, g3⟩, st3⟩ := y3
  simp only at k3 e3 hVo ⊢
  refine O.call' k3 (fun r h6 hr => ?_)
  obtain ⟨⟨sl6, rfl, hol6, hnl6⟩, hq6, hr6, hf6⟩ := hr
  obtain ⟨al6, cl6, rfl, _, _⟩ := hol6.rd
  have hn6 := hf6.n
  have hA6 := hf6.keep hA5 (by omega) (by omega)
  have hB6 := hf6.keep hB5 (by omega) (by omega)
  haveI hC6 := hf6.keep hC5 (by omega) (by omega)
  haveI : BLt x6 h6 := ⟨by omega⟩
  have hov6 := hov5.keep hf6 fun i hi h => by have := hnv4 i hi; omega
  haveI hQ6 : HGet h6 q _ := ⟨hq6⟩
  haveI : BNe q x6 := ⟨by omega⟩
  haveI : BNe x6 q := ⟨by omega⟩
  repeat (first | refine O.one ?_ | refine O.nil ?_ | refine C.next ?_ | refine RunC.seq ?_ | refine RunC.region ?_ | refine O.one0 ?_)
  generalize hh7 : h6.set x6 _ = h7
  have hf7 : Fr (fun i => i = x6) h6 h7 := by rw [← hh7]; exact Fr.refl.set fun _ => rfl
  have hn7 : h7.n = h6.n := by rw [← hh7]; simp
  haveI hC7 := (by rw [← hh7]; exact HGet.same : HGet h7 x6 (.cells (Bk.cells ⟨X, Y, Z⟩ (.slice av4 Y.votes.length cv4) (.slice al6 Z.length cl6)) 0))
  clear hh7
  haveI hA7 := hf7.keep hA6 (by omega) (by omega)
  haveI hB7 := hf7.keep hB6 (by omega) (by omega)
  haveI hQ7 := hf7.keep hQ6 (by omega) (by omega)
  have hr7 := hr6.keep hf7 (by omega) fun i hi h => by have := (hown1 i hi).2; omega
  have hO7 : BkOwn h7 h.n ⟨X, Y, Z⟩ (.slice av4 Y.votes.length cv4) (.slice al6 Z.length cl6) := ⟨hov6.keep hf7 fun i hi h => (by have := hnv4 i hi; have := hlv4 hi; omega), hol6.keep hf7 fun i hi h => (by have := hnl6 i hi; omega), fun i hi => (by have := hnv4 i hi; omega), fun i hi => (by have := hnl6 i hi; omega), fun i hi hl => (by have := hlv4 hi; have := hnl6 i hl; omega)⟩
  have hfh7 : Fr (fun _ => False) h h7 := by
    refine Fr.trans (S := fun _ => False) (hf0.trans' hf1) (S' := fun i => i = p ∨ i = q ∨ i = x6) ?_ fun i hi ho => by omega
    exact Fr.trans' (Fr.trans' (Fr.trans' (Fr.trans' (Fr.trans' (hf2.mono fun _ _ h => by rcases h with h | h <;> omega) (hf3.mono fun _ _ h => h.elim)) (hf4.mono fun _ _ h => by rcases h with h | h <;> omega)) (hf5.mono fun _ _ h => by omega)) (hf6.mono fun _ _ h => by rcases h with h | h <;> omega)) (hf7.mono fun _ _ h => by omega)
  haveI : BLt h.n h7 := ⟨by omega⟩
  haveI : BLt b3 h7 := ⟨by omega⟩
  haveI : BLt q h7 := ⟨by omega⟩
  haveI : BNe h.n b3 := ⟨by omega⟩
  haveI : BNe b3 h.n := ⟨by omega⟩
  haveI : BNe h.n q := ⟨by omega⟩
  haveI : BNe q h.n := ⟨by omega⟩
  haveI : BNe b3 q := ⟨by omega⟩
  haveI : BNe q b3 := ⟨by omega⟩
  haveI : BNe x6 h.n := ⟨by omega⟩
  haveI : BNe x6 b3 := ⟨by omega⟩
  skip
  rw [same_fault]
  refine C.if (fun hz => ?_) (fun hz => ?_)
  · obtain ⟨rfl, rfl⟩ := Prod.mk.inj hz
    repeat (first | refine O.one ?_ | refine RunC.region ?_)
    have k4 := End_run hr7
    generalize endS bs st3 = F at *
    obtain ⟨e, a⟩ := F
    refine O.call' k4 (fun r h8 hr => ?_)
    obtain ⟨rfl, hf8⟩ := hr
    have hn8 := hf8.n
    haveI hA8 := hf8.keep hA7 (by omega) id
    haveI hB8 := hf8.keep hB7 (by omega) id
    haveI hC8 := hf8.keep hC7 (by omega) id
    haveI hQ8 := hf8.keep hQ7 (by omega) id
    haveI : BLt h.n h8 := ⟨by omega⟩
    haveI : BLt b3 h8 := ⟨by omega⟩
    haveI : BLt q h8 := ⟨by omega⟩
    haveI : BLt x6 h8 := ⟨by omega⟩
    have hfh8 := hfh7.trans' hf8
    have hO8 := hO7.keep hf8 fun i h => h.elim
    repeat (first | refine O.one ?_ | refine O.nil ?_ | refine C.next ?_ | refine RunC.seq ?_ | refine RunC.region ?_ | refine O.one0 ?_)
    rw [same_fault]
    refine C.ifN (fun hc => ?_) (fun hc => ?_)
    · repeat (first | refine C.next ?_ | refine RunC.seq ?_ | refine RunC.ret ?_ | refine RunC.regionD ?_ | refine D.one rfl ?_ | refine D.nil ?_ | refine D.one0 rfl ?_ | refine D.one0s ?_ | refine C.ret2 ?_ | refine B.ret ?_)
      simp only [if_true]
      rw [if_neg hc]
      exact ⟨_, _, rfl, .zero, Fr.set (Fr.set (Fr.set hfh8 fun hlt => by omega) fun hlt => by omega) fun hlt => by omega⟩
    · repeat (first | refine C.next ?_ | refine RunC.seq ?_ | refine RunC.skip ?_ | refine RunC.ret ?_ | refine RunC.regionD ?_ | refine D.one rfl ?_ | refine D.nil ?_ | refine D.one0 rfl ?_ | refine D.one0s ?_ | refine B.ret ?_)
      simp only [if_true]
      rw [if_pos hc]
      have hfs : ∀ {c1 c2 c3 : AObj}, Fr (fun i => i = h.n ∨ i = b3 ∨ i = q) h8 (((h8.set q c1).set h.n c2).set b3 c3) := fun {c1 c2 c3} => Fr.set (Fr.set (Fr.set Fr.refl fun _ => .inr (.inr rfl)) fun _ => .inl rfl) fun _ => .inr (.inl rfl)
      exact ⟨_, _, rfl, ⟨hO8.votes.keep hfs fun i hi h => (by have := hnv4 i hi; omega), hO8.vals.keep hfs fun i hi h => (by have := hnl6 i hi; omega), hO8.vnew, hO8.lnew, hO8.apart⟩, Fr.set (Fr.set (Fr.set hfh8 fun hlt => by omega) fun hlt => by omega) fun hlt => by omega⟩
  · repeat (first | refine O.one ?_ | refine O.nil ?_ | refine C.next ?_ | refine RunC.seq ?_ | refine RunC.region ?_ | refine RunC.skip ?_)
    rw [same_fault]
    refine C.ifN (fun hc => ?_) (fun hc => absurd hc hz)
    repeat (first | refine C.next ?_ | refine RunC.seq ?_ | refine RunC.ret ?_ | refine RunC.regionD ?_ | refine D.one rfl ?_ | refine D.nil ?_ | refine D.one0 rfl ?_ | refine D.one0s ?_ | refine C.ret2 ?_ | refine B.ret ?_)
    simp only [if_neg hz]
    exact ⟨_, _, rfl, .zero, Fr.set (Fr.set hfh7 fun hlt => by omega) fun hlt => by omega⟩
end Go.Proofs.YtfpnmcogfamhaaaGreat.A

namespace Go.Proofs.YtfpnmcogfamhaaaGreat.A
open Go Go.Vm
set_option maxRecDepth 10000
set_option linter.unusedVariables false
def thrownM (e a : Int) : List PanicEntry := [{ v := .iface ty_msg_wrong (.agg ⟨[.int .i64 e, .int .i64 a]⟩), recovered := false }]

theorem mustM_yes {h : Heap} {e a : Int} : Runs Tryz.prog T0 (.fn fn_msg_must) [.bool true, .int .i64 e, .int .i64 a] h (fun r h' => h' = h) (fun _ _ => False) := by
  refine msg_must_runs ?_
  repeat (first | refine O.one ?_ | refine O.nil ?_ | refine C.next ?_ | refine RunC.seq ?_ | refine RunC.region ?_ | refine RunC.skip ?_ | refine C.ifF ?_ | refine B.end ?_)
  rfl
theorem mustM_no {h : Heap} {e a : Int} : Runs Tryz.prog T0 (.fn fn_msg_must) [.bool false, .int .i64 e, .int .i64 a] h (fun r h' => False) (fun c h' => c = thrownM e a ∧ h' = h) := by
  refine msg_must_runs ?_
  repeat (first | refine O.one ?_ | refine O.nil ?_ | refine C.next ?_ | refine RunC.seq ?_ | refine RunC.region ?_ | refine C.ifT ?_ | refine O.panic ?_ | refine B.panic ?_)
  exact ⟨rfl, rfl⟩
theorem mustM_ok {h : Heap} {b : Bool} {e a : Int} : Runs Tryz.prog T0 (.fn fn_msg_must) [.bool b, .int .i64 e, .int .i64 a] h (fun r h' => b = true ∧ h' = h) (fun c h' => b = false ∧ c = thrownM e a ∧ h' = h) := by
  cases b with
  | true => exact mustM_yes.mono (fun _ _ h => ⟨rfl, h⟩) (fun _ _ h => h.elim)
  | false => exact mustM_no.mono (fun _ _ h => h.elim) (fun _ _ h => ⟨rfl, h⟩)

def numM (n : Int) : Prop := 1 ≤ n ∧ n ≤ 1099511627776
def heiM (n : Int) : Prop := 1 ≤ n ∧ n ≤ 1073741824
instance (n : Int) : Decidable (numM n) := by unfold numM; infer_instance
instance (n : Int) : Decidable (heiM n) := by unfold heiM; infer_instance

theorem number_okM {h : Heap} {n : Int} : Runs Tryz.prog T0 (.fn fn_msg_number) [.int .i64 n] h (fun r h' => r = .bool (decide (numM n)) ∧ h' = h) (fun _ _ => False) := by
  refine msg_number_runs ?_
  repeat (first | refine O.one ?_ | refine O.nil ?_ | refine C.next ?_ | refine RunC.seq ?_ | refine RunC.region ?_)
  refine O.dec (fun h1 => ?_) (fun h1 => ?_)
  · repeat (first | refine O.one ?_ | refine O.nil ?_ | refine C.next ?_ | refine RunC.ret ?_ | refine O.oneT ?_ | refine B.ret ?_)
    exact ⟨by congr 1; exact decide_eq_decide.2 ⟨fun h => ⟨h1, h⟩, fun h => h.2⟩, rfl⟩
  · repeat (first | refine O.one ?_ | refine O.nil ?_ | refine C.next ?_ | refine RunC.ret ?_ | refine O.skT ?_ | refine B.ret ?_)
    exact ⟨by congr 1; exact (decide_eq_false fun h => h1 h.1).symm, rfl⟩
theorem height_okM {h : Heap} {n : Int} : Runs Tryz.prog T0 (.fn fn_msg_height) [.int .i64 n] h (fun r h' => r = .bool (decide (heiM n)) ∧ h' = h) (fun _ _ => False) := by
  refine msg_height_runs ?_
  repeat (first | refine O.one ?_ | refine O.nil ?_ | refine C.next ?_ | refine RunC.seq ?_ | refine RunC.region ?_)
  refine O.dec (fun h1 => ?_) (fun h1 => ?_)
  · repeat (first | refine O.one ?_ | refine O.nil ?_ | refine C.next ?_ | refine RunC.ret ?_ | refine O.oneT ?_ | refine B.ret ?_)
    exact ⟨by congr 1; exact decide_eq_decide.2 ⟨fun h => ⟨h1, h⟩, fun h => h.2⟩, rfl⟩
  · repeat (first | refine O.one ?_ | refine O.nil ?_ | refine C.next ?_ | refine RunC.ret ?_ | refine O.skT ?_ | refine B.ret ?_)
    exact ⟨by congr 1; exact (decide_eq_false fun h => h1 h.1).symm, rfl⟩
theorem Rnumber_okM {h : Heap} {n : Int} : Runs Tryz.prog T0 (.fn fn_lr14_number) [.int .i64 n] h (fun r h' => r = .bool (decide (numM n)) ∧ h' = h) (fun _ _ => False) := by
  refine lr14_number_runs ?_
  repeat (first | refine O.one ?_ | refine O.nil ?_ | refine C.next ?_ | refine RunC.seq ?_ | refine RunC.region ?_)
  refine O.dec (fun h1 => ?_) (fun h1 => ?_)
  · repeat (first | refine O.one ?_ | refine O.nil ?_ | refine C.next ?_ | refine RunC.ret ?_ | refine O.oneT ?_ | refine B.ret ?_)
    exact ⟨by congr 1; exact decide_eq_decide.2 ⟨fun h => ⟨h1, h⟩, fun h => h.2⟩, rfl⟩
  · repeat (first | refine O.one ?_ | refine O.nil ?_ | refine C.next ?_ | refine RunC.ret ?_ | refine O.skT ?_ | refine B.ret ?_)
    exact ⟨by congr 1; exact (decide_eq_false fun h => h1 h.1).symm, rfl⟩
theorem Rheight_okM {h : Heap} {n : Int} : Runs Tryz.prog T0 (.fn fn_lr14_height) [.int .i64 n] h (fun r h' => r = .bool (decide (heiM n)) ∧ h' = h) (fun _ _ => False) := by
  refine lr14_height_runs ?_
  repeat (first | refine O.one ?_ | refine O.nil ?_ | refine C.next ?_ | refine RunC.seq ?_ | refine RunC.region ?_)
  refine O.dec (fun h1 => ?_) (fun h1 => ?_)
  · repeat (first | refine O.one ?_ | refine O.nil ?_ | refine C.next ?_ | refine RunC.ret ?_ | refine O.oneT ?_ | refine B.ret ?_)
    exact ⟨by congr 1; exact decide_eq_decide.2 ⟨fun h => ⟨h1, h⟩, fun h => h.2⟩, rfl⟩
  · repeat (first | refine O.one ?_ | refine O.nil ?_ | refine C.next ?_ | refine RunC.ret ?_ | refine O.skT ?_ | refine B.ret ?_)
    exact ⟨by congr 1; exact (decide_eq_false fun h => h1 h.1).symm, rfl⟩

theorem PRs.rest {h : Heap} {p : Nat} {sv : Value} {bs : List UInt8} {st : RSt} (hp : PRs h p sv bs st) : 0 ≤ restS bs st ∧ restS bs st ≤ bs.length := by
  unfold restS
  by_cases he : st.e = 0
  · have := hp.le he
    rw [if_pos he]; omega
  · rw [if_neg he]; omega
theorem at_okM {h : Heap} {p : Nat} {sv : Value} {bs : List UInt8} {st : RSt} (hp : PRs h p sv bs st) :
    Runs Tryz.prog T0 (.fn fn_msg_reader_at) [.agg ⟨[.pointer (some ⟨p, 0, none⟩), .int .i64 bs.length]⟩] h (fun r h' => r = .int .i64 ((bs.length : Int) - restS bs st) ∧ Fr (fun _ => False) h h') (fun _ _ => False) := by
  have hrest := hp.rest
  have hsm := hp.small
  have k := Rest_run (hp.none (Fr.refl.push (o := .cells [.pointer (some ⟨p, 0, none⟩), .int .i64 bs.length] 0)))
  generalize restS bs st = rest at *
  refine msg_reader_at_runs ?_
  repeat (first | refine O.one ?_ | refine O.nil ?_ | refine C.next ?_ | refine RunC.seq ?_ | refine RunC.region ?_ | refine RunC.regionD ?_ | refine D.one rfl ?_)
  refine D.callX k (fun r h1 hr => ?_) (fun r h1 hr => ?_) (fun _ _ hx => hx.elim)
  · obtain ⟨rfl, rfl⟩ := hr
    exact StabL.ok
  obtain ⟨rfl, rfl⟩ := hr
  repeat (first | refine C.next ?_ | refine RunC.ret ?_ | refine D.how (XOp.subI (by omega)) rfl ?_ | refine D.one rfl ?_ | refine D.nil ?_ | refine B.ret ?_)
  exact ⟨rfl, Fr.refl.push⟩

theorem endS_fst {bs : List UInt8} {st : RSt} (h : (endS bs st).1 = 0) : st.e = 0 := by
  unfold endS at h
  split at h
  · cases h
  · exact h
theorem fine_ok {h : Heap} {p : Nat} {sv : Value} {bs : List UInt8} {st : RSt} (hp : PRs h p sv bs st) :
    Runs Tryz.prog T0 (.fn fn_msg_reader_fine) [.agg ⟨[.pointer (some ⟨p, 0, none⟩), .int .i64 bs.length]⟩] h (fun r h' => st.e = 0 ∧ Fr (fun _ => False) h h') (fun c h' => st.e ≠ 0 ∧ c = thrownM st.e st.fa ∧ Fr (fun _ => False) h h') := by
  have hrest := hp.rest
  have hfst := endS_fst (bs := bs) (st := st)
  have hE : st.e ≠ 0 → endS bs st = (st.e, st.fa) := fun he => by
    unfold endS
    rw [if_neg (fun h => he h.1)]
  have hR : st.e ≠ 0 → restS bs st = 0 := fun he => by
    unfold restS
    rw [if_neg he]
  have hR0 : st.e = 0 → (endS bs st).1 ≠ 0 → 0 < restS bs st := fun he h => by
    unfold endS at h
    split at h
    · rename_i h2
      unfold restS
      rw [if_pos he]
      omega
    · exact absurd he h
  have hp1 := hp.none (Fr.refl.push (o := .cells [.pointer (some ⟨p, 0, none⟩), .int .i64 bs.length] 0))
  have k1 := End_run hp1
  refine msg_reader_fine_runs ?_
  repeat (first | refine O.one ?_ | refine O.nil ?_ | refine C.next ?_ | refine RunC.seq ?_ | refine RunC.region ?_)
  refine O.call' k1 (fun r h1 hr => ?_)
  obtain ⟨rfl, hf1⟩ := hr
  have hn1 := hf1.n
  simp only [Heap.n_push] at hn1
  haveI hA1 : HGet h1 h.n _ := hf1.keep (b := h.n) HGet.new (by simp) id
  have hfh1 : Fr (fun _ => False) h h1 := Fr.trans (S := fun _ => False) Fr.refl.push hf1 fun _ _ h => h
  haveI : BLt h.n h1 := ⟨by omega⟩
  haveI : BNe h.n h1.n := ⟨by omega⟩
  haveI : BNe h1.n h.n := ⟨by omega⟩
  generalize hF : endS bs st = F at *
  obtain ⟨E, A⟩ := F
  simp only at hfst hE hR0 ⊢
  repeat (first | refine O.one ?_ | refine O.nil ?_ | refine C.next ?_ | refine RunC.regionD ?_ | refine D.one rfl ?_ | refine O.one0 ?_)
  refine D.dec (fun he => ?_) (fun he => ?_)
  · repeat (first | refine D.one rfl ?_ | refine D.skF rfl ?_)
    refine D.skF ?_ ?_
    · exact StabL.ok
    repeat (first | refine D.one rfl ?_ | refine D.skF rfl ?_)
    refine D.callX mustM_ok (fun _ _ _ => rfl) (fun r h2 hr => ?_) (fun c h2 hx => ⟨rfl, ?_⟩)
    · obtain ⟨_, rfl⟩ := hr
      repeat (first | refine D.nil ?_ | refine B.end ?_)
      exact ⟨hfst he, hfh1.push⟩
    · exact absurd hx.1 (by simp)
  · repeat (first | refine D.one rfl ?_ | refine D.oneT rfl ?_)
    refine D.callT (Rest_run ((hp1.none hf1).none Fr.refl.push)) (fun r h2 hr => ?_) (fun r h2 hr => ?_)
    · obtain ⟨rfl, rfl⟩ := hr
      exact StabL.ok
    obtain ⟨rfl, rfl⟩ := hr
    repeat (first | refine D.one rfl ?_ | refine D.oneT rfl ?_)
    refine D.callX mustM_ok (fun _ _ _ => rfl) (fun r h2 hr => ?_) (fun c h2 hx => ⟨rfl, ?_⟩)
    · obtain ⟨hb, rfl⟩ := hr
      have hb := of_decide_eq_true hb
      repeat (first | refine D.nil ?_ | refine B.end ?_)
      refine ⟨?_, hfh1.push⟩
      by_cases h0 : st.e = 0
      · exact h0
      · have := hR h0; omega
    · obtain ⟨hb, rfl, rfl⟩ := hx
      have hb := of_decide_eq_false hb
      repeat (first | refine B.panic ?_)
      have h0 : st.e ≠ 0 := fun h0 => hb (hR0 h0 he)
      obtain ⟨rfl, rfl⟩ := Prod.mk.inj (hE h0)
      exact ⟨h0, rfl, hfh1.push⟩
theorem numr_ok {h : Heap} {p : Nat} {sv : Value} {bs : List UInt8} {st : RSt} {fid : FuncId} {M : Int → Prop} [∀ n, Decidable (M n)] (hp : PRs h p sv bs st)
    (hm : ∀ {h : Heap} {n : Int}, Runs Tryz.prog T0 (.fn fid) [.int .i64 n] h (fun r h' => r = .bool (decide (M n)) ∧ h' = h) (fun _ _ => False)) :
    Runs Tryz.prog T0 (.fn fn_msg_reader_num) [.agg ⟨[.pointer (some ⟨p, 0, none⟩), .int .i64 bs.length]⟩, .func (.func fid) ⟨[]⟩ ⟨[]⟩] h
      (fun r h' => (rd (numS bs) 0 st).2.e = 0 ∧ M (rd (numS bs) 0 st).1 ∧ r = .int .i64 ((rd (numS bs) 0 st).1 : Nat) ∧ PRs h' p sv bs (rd (numS bs) 0 st).2 ∧ Fr (fun i => i = p) h h')
      (fun c h' => ∃ e a, c = thrownM e a ∧ Fr (fun i => i = p) h h' ∧ (((rd (numS bs) 0 st).2.e ≠ 0 ∧ e = (rd (numS bs) 0 st).2.e ∧ a = (rd (numS bs) 0 st).2.fa) ∨ ((rd (numS bs) 0 st).2.e = 0 ∧ ¬ M (rd (numS bs) 0 st).1 ∧ e = 3 ∧ a = (bs.length : Int) - restS bs st))) := by
  have hpl := hp.lt
  have hp1 := hp.none (Fr.refl.push (o := .cells [.pointer (some ⟨p, 0, none⟩), .int .i64 bs.length] 0))
  refine msg_reader_num_runs ?_
  repeat (first | refine O.one ?_ | refine O.nil ?_ | refine C.next ?_ | refine RunC.seq ?_ | refine RunC.region ?_)
  refine O.call' (at_okM hp1) (fun r h1 hr => ?_)
  obtain ⟨rfl, hf1⟩ := hr
  generalize restS bs st = rest at *
  have hn1 := hf1.n
  simp only [Heap.n_push] at hn1
  haveI hA1 : HGet h1 h.n _ := hf1.keep (b := h.n) HGet.new (by simp) id
  have hfh1 : Fr (fun _ => False) h h1 := Fr.trans (S := fun _ => False) Fr.refl.push hf1 fun _ _ h => h
  repeat (first | refine O.one ?_ | refine O.nil ?_ | refine C.next ?_ | refine RunC.seq ?_ | refine RunC.region ?_)
  have k2 := Num_run (hp1.none hf1)
  generalize rd (numS bs) 0 st = y at *
  obtain ⟨n, st1⟩ := y
  refine O.call' k2 (fun r h2 hr => ?_)
  obtain ⟨hf2, rfl, hr2⟩ := hr
  simp only at hr2 ⊢
  have hn2 := hf2.n
  haveI hA2 : HGet h2 h.n _ := hf2.keep hA1 (by omega) (by omega)
  have hfh2 : Fr (fun i => i = p) h h2 := (hfh1.mono fun _ _ h => h.elim).trans' hf2
  repeat (first | refine O.one ?_ | refine O.nil ?_ | refine C.next ?_ | refine RunC.seq ?_ | refine RunC.region ?_)
  refine O.callX (fine_ok hr2) (fun r h3 hr => ?_) (fun c h3 hx => ?_)
  · obtain ⟨he, hf3⟩ := hr
    have hfh3 : Fr (fun i => i = p) h h3 := hfh2.trans' (hf3.mono fun _ _ h => h.elim)
    repeat (first | refine O.one ?_ | refine O.nil ?_ | refine C.next ?_ | refine RunC.seq ?_ | refine RunC.region ?_)
    refine O.call' (hm (n := (n : Nat))) (fun r h4 hr => ?_)
    obtain ⟨rfl, rfl⟩ := hr
    repeat (first | refine O.one ?_)
    refine O.callX mustM_ok (fun r h5 hr => ?_) (fun c h5 hx => ?_)
    · obtain ⟨hb, rfl⟩ := hr
      repeat (first | refine O.one ?_ | refine O.nil ?_ | refine C.next ?_ | refine RunC.seq ?_ | refine RunC.region ?_ | refine RunC.ret ?_ | refine B.ret ?_)
      exact ⟨he, of_decide_eq_true hb, rfl, hr2.none hf3, hfh3⟩
    · obtain ⟨hb, rfl, rfl⟩ := hx
      repeat (first | refine C.pan2 ?_ | refine B.panic ?_)
      exact ⟨3, _, rfl, hfh3, .inr ⟨he, of_decide_eq_false hb, rfl, rfl⟩⟩
  · obtain ⟨he, rfl, hf3⟩ := hx
    repeat (first | refine C.pan2 ?_ | refine B.panic ?_)
    exact ⟨_, _, rfl, hfh2.trans' (hf3.mono fun _ _ h => h.elim), .inl ⟨he, rfl, rfl⟩⟩
end Go.Proofs.YtfpnmcogfamhaaaGreat.A

namespace Go.Proofs.YtfpnmcogfamhaaaGreat.A
open Go Go.Vm
set_option maxRecDepth 10000
set_option linter.unusedVariables false
structure Ms where
  kind : Int
  id : Int
  ht : Int
  aid : Int
  b : Bk
abbrev Ms.cells (x : Ms) (sv sl : Value) : List Value := .int .i64 x.kind :: .int .i64 x.id :: .int .i64 x.ht :: .int .i64 x.aid :: x.b.cells sv sl
abbrev zMs : Ms := ⟨0, 0, 0, 0, zBk⟩
abbrev zMc : List Value := .int .i64 0 :: .int .i64 0 :: .int .i64 0 :: .int .i64 0 :: zBc
def endM (bs : List UInt8) (st : RSt) (x : Ms) : Ms × Int × Int := if endS bs st = (0, 0) then (x, (0, 0)) else (zMs, endS bs st)
def decM (bs : List UInt8) : Ms × Int × Int :=
  if 65536 < bs.length then (zMs, (4, 65536)) else
  let k := rd (numS bs) 0 ⟨0, 0, 0⟩
  if k.2.e = 0 then
    if k.1 = 1 ∨ k.1 = 2 then
      let i := rd (numS bs) 0 k.2
      if i.2.e = 0 then
        if numM (i.1 : Nat) then
          if k.1 = 1 then
            let t := rd (numS bs) 0 i.2
            if t.2.e = 0 then
              if heiM (t.1 : Nat) then endM bs t.2 ⟨1, (i.1 : Nat), (t.1 : Nat), 0, zBk⟩ else (zMs, (3, (i.2.pl : Int)))
            else (zMs, (t.2.e, t.2.fa))
          else
            let b := rd (bytesS bs 65536) [] i.2
            if b.2.e = 0 then
              if (decB b.1).2 = (0, 0) then endM bs b.2 ⟨2, 0, 0, (i.1 : Nat), (decB b.1).1⟩ else (zMs, (5, (i.2.pl : Int)))
            else (zMs, (b.2.e, b.2.fa))
        else (zMs, (3, (k.2.pl : Int)))
      else (zMs, (i.2.e, i.2.fa))
    else (zMs, (5, 0))
  else (zMs, (k.2.e, k.2.fa))
theorem zBk_ok : zBk.ok := ⟨zeroHd_ok, rfl, by simp, by simp⟩
theorem endM_ok {bs : List UInt8} {st : RSt} {x : Ms} (hx : x.b.ok) : (endM bs st x).1.b.ok := by
  unfold endM
  split
  · exact hx
  · exact zBk_ok
theorem decM_ok (bs : List UInt8) : (decM bs).1.b.ok := by
  unfold decM
  simp only
  split
  · exact zBk_ok
  split
  · split
    · split
      · split
        · split
          · split
            · split
              · exact endM_ok zBk_ok
              · exact zBk_ok
            · exact zBk_ok
          · split
            · split
              · exact endM_ok (decB_ok _)
              · exact zBk_ok
            · exact zBk_ok
        · exact zBk_ok
      · exact zBk_ok
    · exact zBk_ok
  · exact zBk_ok

theorem mcaught_none {h : Heap} {v w : Value} : RunDf Tryz.prog T0 fn_msg_Decode_1 [v, w] .returning h (fun u h' => u = .returning ∧ h' = h) (fun _ _ _ => False) := by
  refine msg_Decode_1_df ?_
  repeat (first | refine S.one ?_ | refine S.nil ?_ | refine S.next ?_ | refine RunT.seq ?_ | refine RunT.region ?_ | refine RunT.skip ?_ | refine S.rec rfl ?_ | refine S.ifF ?_ | refine S.end ?_)
  exact ⟨rfl, rfl⟩
theorem mcaught_ok {h : Heap} {m f : Nat} {c : List Value} {e a g d : Int} (hm : h.get m = .cells c 0) (hov : Over c 0 zMc zMc) (hf : h.get f = .cells [.int .i64 g, .int .i64 d] 0) (hml : m < h.n) (hfl : f < h.n) (hne : m ≠ f) :
    RunDf Tryz.prog T0 fn_msg_Decode_1 [.pointer (some ⟨m, 0, none⟩), .pointer (some ⟨f, 0, none⟩)] (.panicking (thrownM e a)) h
      (fun u h' => settle u = .returning ∧ h'.get m = .cells zMc 0 ∧ h'.get f = .cells [.int .i64 e, .int .i64 a] 0 ∧ Fr (fun i => i = m ∨ i = f) h h') (fun _ _ _ => False) := by
  haveI : HGet h m _ := ⟨hm⟩
  haveI : HGet h f _ := ⟨hf⟩
  haveI : BLt m h := ⟨hml⟩
  haveI : BLt f h := ⟨hfl⟩
  haveI : BNe m f := ⟨hne⟩
  haveI : BNe f m := ⟨Ne.symm hne⟩
  haveI := hov
  refine msg_Decode_1_df ?_
  repeat (first | refine S.one ?_ | refine S.nil ?_ | refine S.next ?_ | refine RunT.seq ?_ | refine RunT.region ?_ | refine RunT.skip ?_ | refine S.one0 ?_ | refine S.rec rfl ?_ | refine S.ifT ?_ | refine S.ifF ?_)
  refine RunT.drawn ?_ (by simp)
  repeat (first | refine D.one rfl ?_)
  refine D.one0S ?_
  repeat (first | refine D.nil ?_ | refine D.one0 rfl ?_)
  repeat (first | refine S.end ?_)
  refine ⟨rfl, HGet.eq, HGet.eq, ?_⟩
  exact Fr.set (Fr.set Fr.refl.push fun _ => .inl rfl) fun _ => .inr rfl
end Go.Proofs.YtfpnmcogfamhaaaGreat.A

namespace Go.Proofs.YtfpnmcogfamhaaaGreat.A
open Go Go.Vm
set_option maxRecDepth 10000
set_option linter.unusedVariables false
structure MSt (h H : Heap) (p q : Nat) (svr : Value) (bs : List UInt8) (c : List Value) (st : RSt) : Prop where
  gm : H.get h.n = .cells c 0
  gf : H.get (h.n + 1) = .cells [.int .i64 0, .int .i64 0] 0
  gq : H.get q = .cells [.pointer (some ⟨p, 0, none⟩), .int .i64 bs.length] 0
  rr : PRs H p svr bs st
  fr : Fr (fun _ => False) h H
  lo : h.n + 2 ≤ p
  hi : p < q
  lt : q < H.n
  own : ∀ i, ownedBy svr i → h.n + 2 ≤ i ∧ i < q
theorem MSt.step {h H H' : Heap} {p q : Nat} {svr : Value} {bs : List UInt8} {c : List Value} {st st' : RSt} (hs : MSt h H p q svr bs c st) (hf : Fr (fun i => i = p) H H') (hr : PRs H' p svr bs st') : MSt h H' p q svr bs c st' := by
  have h1 := hs.lo
  have h2 := hs.hi
  have h3 := hs.lt
  have h4 := hf.n
  exact ⟨by rw [hf.get _ (by omega) (by omega)]; exact hs.gm, by rw [hf.get _ (by omega) (by omega)]; exact hs.gf, by rw [hf.get _ (by omega) (by omega)]; exact hs.gq, hr, Fr.trans (S := fun _ => False) hs.fr hf fun i hi h => by omega, h1, h2, by omega, hs.own⟩
theorem MSt.none {h H H' : Heap} {p q : Nat} {svr : Value} {bs : List UInt8} {c : List Value} {st : RSt} (hs : MSt h H p q svr bs c st) (hf : Fr (fun _ => False) H H') : MSt h H' p q svr bs c st := hs.step (hf.mono fun _ _ h => h.elim) (hs.rr.none hf)
theorem MSt.setm {h H : Heap} {p q : Nat} {svr : Value} {bs : List UInt8} {c c' : List Value} {st : RSt} (hs : MSt h H p q svr bs c st) : MSt h (H.set h.n (.cells c' 0)) p q svr bs c' st := by
  have h1 := hs.lo
  have h2 := hs.hi
  have h3 := hs.lt
  exact ⟨by rw [Heap.get_set, if_pos rfl], by rw [Heap.get_set, if_neg (by omega)]; exact hs.gf, by rw [Heap.get_set, if_neg (by omega)]; exact hs.gq, hs.rr.keep (S := fun i => i = h.n) (Fr.refl.set fun _ => rfl) (by omega) fun i hi h => (by have := (hs.own i hi).1; omega), Fr.set hs.fr fun hlt => by omega, h1, h2, by simpa using h3, hs.own⟩
theorem BkOwn.lower {h : Heap} {lo lo' : Nat} {x : Bk} {sv sl : Value} (hb : BkOwn h lo x sv sl) (hl : lo' ≤ lo) : BkOwn h lo' x sv sl :=
  ⟨hb.votes, hb.vals, fun i hi => Nat.le_trans hl (hb.vnew i hi), fun i hi => Nat.le_trans hl (hb.lnew i hi), hb.apart⟩
theorem restS_pos {bs : List UInt8} {st : RSt} (he : st.e = 0) : (bs.length : Int) - restS bs st = st.pl := by
  unfold restS
  rw [if_pos he]
  omega

set_option maxHeartbeats 16000000 in
theorem MDecode_ok {h : Heap} {v : Value} {bs : List UInt8} (hv : Rd h 1 v (bcells bs) bs.length) (hs : bs.length < 1048576) : Runs Tryz.prog T0 (.fn fn_msg_Decode) [v] h
    (fun r h' => ∃ sv sl, r = .tuple ⟨[.agg ⟨(decM bs).1.cells sv sl⟩, .agg ⟨[.int .i64 (decM bs).2.1, .int .i64 (decM bs).2.2]⟩]⟩ ∧ BkOwn h' h.n (decM bs).1.b sv sl ∧ Fr (fun _ => False) h h') (fun _ _ => False) := by
  have hv' := hv
  obtain ⟨a0, cap0, rfl, hl0, _⟩ := hv
  refine msg_Decode_runs ?_
  repeat (first | refine O.one ?_ | refine O.nil ?_ | refine C.next ?_ | refine RunC.seq ?_ | refine RunC.region ?_ | refine O.defer0 ?_)
  generalize hb3 : (h.push (.cells zMc 0)).n = b3
  have hb3' : b3 = h.n + 1 := by rw [← hb3]; rfl
  clear hb3
  subst hb3'
  generalize hh0 : ((h.push (.cells zMc 0)).push (.cells [.int .i64 0, .int .i64 0] 0)) = h0
  have hf0 : Fr (fun _ => False) h h0 := by rw [← hh0]; exact Fr.refl.push.push
  have hn0 : h0.n = h.n + 2 := by rw [← hh0]; rfl
  have hm0 : h0.get h.n = .cells zMc 0 := by rw [← hh0, Heap.get_push, if_neg (by simp), Heap.get_push, if_pos rfl]
  have hff0 : h0.get (h.n + 1) = .cells [.int .i64 0, .int .i64 0] 0 := by rw [← hh0, Heap.get_push, if_pos (by simp)]
  clear hh0
  haveI : BNe h.n (h.n + 1) := ⟨by omega⟩
  haveI : BNe (h.n + 1) h.n := ⟨by omega⟩
  have hdec : decM bs = (if 65536 < bs.length then (zMs, ((4 : Int), (65536 : Int))) else if (rd (numS bs) 0 ⟨0, 0, 0⟩).2.e = 0 then (if (rd (numS bs) 0 ⟨0, 0, 0⟩).1 = 1 ∨ (rd (numS bs) 0 ⟨0, 0, 0⟩).1 = 2 then (if (rd (numS bs) 0 (rd (numS bs) 0 ⟨0, 0, 0⟩).2).2.e = 0 then (if numM ((rd (numS bs) 0 (rd (numS bs) 0 ⟨0, 0, 0⟩).2).1 : Nat) then (if (rd (numS bs) 0 ⟨0, 0, 0⟩).1 = 1 then (if (rd (numS bs) 0 (rd (numS bs) 0 (rd (numS bs) 0 ⟨0, 0, 0⟩).2).2).2.e = 0 then (if heiM ((rd (numS bs) 0 (rd (numS bs) 0 (rd (numS bs) 0 ⟨0, 0, 0⟩).2).2).1 : Nat) then endM bs (rd (numS bs) 0 (rd (numS bs) 0 (rd (numS bs) 0 ⟨0, 0, 0⟩).2).2).2 ⟨1, ((rd (numS bs) 0 (rd (numS bs) 0 ⟨0, 0, 0⟩).2).1 : Nat), ((rd (numS bs) 0 (rd (numS bs) 0 (rd (numS bs) 0 ⟨0, 0, 0⟩).2).2).1 : Nat), 0, zBk⟩ else (zMs, (3, ((rd (numS bs) 0 (rd (numS bs) 0 ⟨0, 0, 0⟩).2).2.pl : Int)))) else (zMs, ((rd (numS bs) 0 (rd (numS bs) 0 (rd (numS bs) 0 ⟨0, 0, 0⟩).2).2).2.e, (rd (numS bs) 0 (rd (numS bs) 0 (rd (numS bs) 0 ⟨0, 0, 0⟩).2).2).2.fa))) else (if (rd (bytesS bs 65536) [] (rd (numS bs) 0 (rd (numS bs) 0 ⟨0, 0, 0⟩).2).2).2.e = 0 then (if (decB (rd (bytesS bs 65536) [] (rd (numS bs) 0 (rd (numS bs) 0 ⟨0, 0, 0⟩).2).2).1).2 = (0, 0) then endM bs (rd (bytesS bs 65536) [] (rd (numS bs) 0 (rd (numS bs) 0 ⟨0, 0, 0⟩).2).2).2 ⟨2, 0, 0, ((rd (numS bs) 0 (rd (numS bs) 0 ⟨0, 0, 0⟩).2).1 : Nat), (decB (rd (bytesS bs 65536) [] (rd (numS bs) 0 (rd (numS bs) 0 ⟨0, 0, 0⟩).2).2).1).1⟩ else (zMs, (5, ((rd (numS bs) 0 (rd (numS bs) 0 ⟨0, 0, 0⟩).2).2.pl : Int)))) else (zMs, ((rd (bytesS bs 65536) [] (rd (numS bs) 0 (rd (numS bs) 0 ⟨0, 0, 0⟩).2).2).2.e, (rd (bytesS bs 65536) [] (rd (numS bs) 0 (rd (numS bs) 0 ⟨0, 0, 0⟩).2).2).2.fa)))) else (zMs, (3, ((rd (numS bs) 0 ⟨0, 0, 0⟩).2.pl : Int)))) else (zMs, ((rd (numS bs) 0 (rd (numS bs) 0 ⟨0, 0, 0⟩).2).2.e, (rd (numS bs) 0 (rd (numS bs) 0 ⟨0, 0, 0⟩).2).2.fa))) else (zMs, (5, 0))) else (zMs, ((rd (numS bs) 0 ⟨0, 0, 0⟩).2.e, (rd (numS bs) 0 ⟨0, 0, 0⟩).2.fa))) := rfl
  rw [hdec]
  clear hdec
  refine O.callX mustM_ok (fun r h0' hr => ?_) (fun c h0' hx => ?_)
  rotate_left
  · obtain ⟨hb, rfl, rfl⟩ := hx
    have hb := of_decide_eq_false hb
    rw [if_pos (by omega)]
    repeat (first | refine B.deferredP ?_ | refine C.pan2 ?_)
    refine (mcaught_ok hm0 inferInstance hff0 (by omega) (by omega) (by omega)).mono (fun u' h' hu => ?_) (fun _ _ _ hx => hx.elim)
    obtain ⟨hs', hm', hf', hfr'⟩ := hu
    rw [hs']
    haveI : HGet h' h.n _ := ⟨hm'⟩
    haveI : HGet h' (h.n + 1) _ := ⟨hf'⟩
    exact L.nil ⟨_, _, rfl, .zero, Fr.trans (S := fun _ => False) hf0 hfr' fun i hi ho => by rcases ho with ho | ho <;> omega⟩
  obtain ⟨hb, rfl⟩ := hr
  have hb := of_decide_eq_true hb
  rw [if_neg (by omega)]
  repeat (first | refine O.one ?_ | refine O.nil ?_ | refine C.next ?_ | refine RunC.seq ?_ | refine RunC.region ?_)
  refine O.call' (NewReader_ok (hv'.keep hf0 fun _ _ => id) hs) (fun r h1' hr => ?_)
  obtain ⟨p, svr, rfl, hp1, hsv, hr1', hf1'⟩ := hr
  have hlt1' := hr1'.lt
  have hn1' := hf1'.n
  repeat (first | refine O.one ?_ | refine O.nil ?_ | refine C.next ?_ | refine RunC.seq ?_ | refine RunC.region ?_ | refine O.one0 ?_)
  generalize hx : h1'.n = q
  generalize hh1 : h1'.push (.cells [.pointer (some ⟨p, 0, none⟩), .int .i64 bs.length] 0) = h1
  have s1 : MSt h h1 p q svr bs zMc ⟨0, 0, 0⟩ := by
    rw [← hh1, ← hx]
    exact ⟨by rw [Heap.get_push, if_neg (by omega), hf1'.get _ (by omega) id, hm0], by rw [Heap.get_push, if_neg (by omega), hf1'.get _ (by omega) id, hff0], by rw [Heap.get_push, if_pos rfl], hr1'.none Fr.refl.push, (hf0.trans' hf1').push, by omega, by omega, by simp, fun i hi => ⟨by have := hsv i hi; omega, hr1'.own_lt hi⟩⟩
  clear hh1 hx
  have hlo := s1.lo
  have hhi := s1.hi
  haveI : BNe h.n q := ⟨by omega⟩
  haveI : BNe q h.n := ⟨by omega⟩
  haveI : BNe (h.n + 1) q := ⟨by omega⟩
  haveI : BNe q (h.n + 1) := ⟨by omega⟩
  have k1 := Num_run s1.rr
  generalize (rd (numS bs) 0 ⟨0, 0, 0⟩) = k at *
  obtain ⟨k, stk⟩ := k
  refine O.call' k1 (fun r h2 hr => ?_)
  obtain ⟨hf2, rfl, hr2⟩ := hr
  simp only at hr2 ⊢
  have s2 := s1.step hf2 hr2
  have hlt_h2 := s2.lt
  haveI : HGet h2 h.n _ := ⟨s2.gm⟩
  haveI : HGet h2 (h.n + 1) _ := ⟨s2.gf⟩
  haveI : HGet h2 q _ := ⟨s2.gq⟩
  haveI : BLt h.n h2 := ⟨by omega⟩
  haveI : BLt (h.n + 1) h2 := ⟨by omega⟩
  haveI : BLt q h2 := ⟨by omega⟩
  repeat (first | refine O.one ?_ | refine O.nil ?_ | refine C.next ?_ | refine RunC.seq ?_ | refine RunC.region ?_ | refine O.one0 ?_)
  have s2' := s2.setm (c' := .int .i64 (k : Nat) :: .int .i64 0 :: .int .i64 0 :: .int .i64 0 :: zBc)
  refine O.callX (fine_ok s2'.rr) (fun r h3 hr => ?_) (fun c h3 hx => ?_)
  rotate_left
  · obtain ⟨he, rfl, hf3⟩ := hx
    have s3 := s2'.none hf3
    rw [if_neg he]
    repeat (first | refine B.deferredP ?_ | refine C.pan2 ?_)
    refine (mcaught_ok s3.gm inferInstance s3.gf (by have := s3.lt; omega) (by have := s3.lt; omega) (by omega)).mono (fun u' h' hu => ?_) (fun _ _ _ hx => hx.elim)
    obtain ⟨hs', hm', hf', hfr'⟩ := hu
    rw [hs']
    haveI : HGet h' h.n _ := ⟨hm'⟩
    haveI : HGet h' (h.n + 1) _ := ⟨hf'⟩
    exact L.nil ⟨_, _, rfl, .zero, Fr.trans (S := fun _ => False) s3.fr hfr' fun i hi ho => by rcases ho with ho | ho <;> omega⟩
  obtain ⟨he, hf3⟩ := hr
  rw [if_pos he]
  have s3 := s2'.none hf3
  have hlt_h3 := s3.lt
  haveI : HGet h3 h.n _ := ⟨s3.gm⟩
  haveI : HGet h3 (h.n + 1) _ := ⟨s3.gf⟩
  haveI : HGet h3 q _ := ⟨s3.gq⟩
  haveI : BLt h.n h3 := ⟨by omega⟩
  haveI : BLt (h.n + 1) h3 := ⟨by omega⟩
  haveI : BLt q h3 := ⟨by omega⟩
  by_cases hk : k = 1 ∨ k = 2
  rotate_left
  · rw [if_neg hk]
    repeat (first | refine O.one ?_ | refine O.nil ?_ | refine C.next ?_ | refine RunC.seq ?_ | refine RunC.region ?_)
    refine O.dec (fun h => ?_) (fun _ => ?_)
    · exact (hk (.inl (by omega))).elim
    repeat (first | refine O.one ?_ | refine O.oneT ?_)
    refine O.callX mustM_ok (fun r h4 hr => ?_) (fun c h4 hx => ?_)
    · exact (hk (.inr (by have := of_decide_eq_true hr.1; omega))).elim
    obtain ⟨_, rfl, rfl⟩ := hx
    repeat (first | refine B.deferredP ?_ | refine C.pan2 ?_)
    refine (mcaught_ok s3.gm inferInstance s3.gf (by have := s3.lt; omega) (by have := s3.lt; omega) (by omega)).mono (fun u' h' hu => ?_) (fun _ _ _ hx => hx.elim)
    obtain ⟨hs', hm', hf', hfr'⟩ := hu
    rw [hs']
    haveI : HGet h' h.n _ := ⟨hm'⟩
    haveI : HGet h' (h.n + 1) _ := ⟨hf'⟩
    exact L.nil ⟨_, _, rfl, .zero, Fr.trans (S := fun _ => False) s3.fr hfr' fun i hi ho => by rcases ho with ho | ho <;> omega⟩
  rw [if_pos hk]
  have hpos := restS_pos (bs := bs) he
  rcases hk with rfl | rfl
  · repeat (first | refine O.one ?_ | refine O.nil ?_ | refine C.next ?_ | refine RunC.seq ?_ | refine RunC.region ?_ | refine O.skF ?_)
    simp only [show decide (((1 : Nat) : Int) = 1) = true from rfl, eq_self, if_true]
    refine O.callX mustM_ok (fun r h3' hr => ?_) (fun c h3' hx => by cases hx.1)
    obtain ⟨_, rfl⟩ := hr
    repeat (first | refine O.one ?_ | refine O.nil ?_ | refine C.next ?_ | refine RunC.seq ?_ | refine RunC.region ?_)
    have k4 := numr_ok (M := numM) s3.rr number_okM
    generalize (rd (numS bs) 0 stk) = i4 at *
    obtain ⟨i4, st4⟩ := i4
    refine O.callX k4 (fun r h4 hr => ?_) (fun c h4 hx => ?_)
    rotate_left
    · obtain ⟨e, a, rfl, hf, hor⟩ := hx
      have hnn := hf.n
      simp only at hor ⊢
      rcases hor with ⟨h1, rfl, rfl⟩ | ⟨h1, h2, rfl, rfl⟩
      · rw [if_neg h1]
        repeat (first | refine B.deferredP ?_ | refine C.pan2 ?_)
        refine (mcaught_ok (by rw [hf.get _ (by omega) (by omega)]; exact s3.gm) inferInstance (by rw [hf.get _ (by omega) (by omega)]; exact s3.gf) (by have := s3.lt; omega) (by have := s3.lt; omega) (by omega)).mono (fun u' h' hu => ?_) (fun _ _ _ hx => hx.elim)
        obtain ⟨hs', hm', hf', hfr'⟩ := hu
        rw [hs']
        haveI : HGet h' h.n _ := ⟨hm'⟩
        haveI : HGet h' (h.n + 1) _ := ⟨hf'⟩
        exact L.nil ⟨_, _, rfl, .zero, Fr.trans (S := fun _ => False) (Fr.trans (S := fun _ => False) s3.fr hf fun i hi h => by omega) hfr' fun i hi ho => by rcases ho with ho | ho <;> omega⟩
      · rw [if_pos h1, if_neg h2, hpos]
        repeat (first | refine B.deferredP ?_ | refine C.pan2 ?_)
        refine (mcaught_ok (by rw [hf.get _ (by omega) (by omega)]; exact s3.gm) inferInstance (by rw [hf.get _ (by omega) (by omega)]; exact s3.gf) (by have := s3.lt; omega) (by have := s3.lt; omega) (by omega)).mono (fun u' h' hu => ?_) (fun _ _ _ hx => hx.elim)
        obtain ⟨hs', hm', hf', hfr'⟩ := hu
        rw [hs']
        haveI : HGet h' h.n _ := ⟨hm'⟩
        haveI : HGet h' (h.n + 1) _ := ⟨hf'⟩
        exact L.nil ⟨_, _, rfl, .zero, Fr.trans (S := fun _ => False) (Fr.trans (S := fun _ => False) s3.fr hf fun i hi h => by omega) hfr' fun i hi ho => by rcases ho with ho | ho <;> omega⟩
    obtain ⟨he4, hM4, rfl, hr4, hf4⟩ := hr
    simp only at he4 hM4 hr4 ⊢
    rw [if_pos he4, if_pos hM4]
    have s4 := s3.step hf4 hr4
    have hlt_h4 := s4.lt
    haveI : HGet h4 h.n _ := ⟨s4.gm⟩
    haveI : HGet h4 (h.n + 1) _ := ⟨s4.gf⟩
    haveI : HGet h4 q _ := ⟨s4.gq⟩
    haveI : BLt h.n h4 := ⟨by omega⟩
    haveI : BLt (h.n + 1) h4 := ⟨by omega⟩
    haveI : BLt q h4 := ⟨by omega⟩
    have hpos4 := restS_pos (bs := bs) he4
    try rw [if_pos rfl]
    repeat (first | refine O.one ?_ | refine O.nil ?_ | refine C.next ?_ | refine RunC.seq ?_ | refine RunC.region ?_ | refine C.ifT ?_)
    try refine C.if (fun _ => ?_) (fun h => absurd rfl h)
    skip
    have k5 := numr_ok (M := heiM) s4.rr height_okM
    generalize (rd (numS bs) 0 st4) = i5 at *
    obtain ⟨i5, st5⟩ := i5
    refine O.callX k5 (fun r h5 hr => ?_) (fun c h5 hx => ?_)
    rotate_left
    · obtain ⟨e, a, rfl, hf, hor⟩ := hx
      have hnn := hf.n
      simp only at hor ⊢
      rcases hor with ⟨h1, rfl, rfl⟩ | ⟨h1, h2, rfl, rfl⟩
      · rw [if_neg h1]
        repeat (first | refine B.deferredP ?_ | refine C.pan2 ?_)
        refine (mcaught_ok (by rw [hf.get _ (by omega) (by omega)]; exact s4.gm) inferInstance (by rw [hf.get _ (by omega) (by omega)]; exact s4.gf) (by have := s4.lt; omega) (by have := s4.lt; omega) (by omega)).mono (fun u' h' hu => ?_) (fun _ _ _ hx => hx.elim)
        obtain ⟨hs', hm', hf', hfr'⟩ := hu
        rw [hs']
        haveI : HGet h' h.n _ := ⟨hm'⟩
        haveI : HGet h' (h.n + 1) _ := ⟨hf'⟩
        exact L.nil ⟨_, _, rfl, .zero, Fr.trans (S := fun _ => False) (Fr.trans (S := fun _ => False) s4.fr hf fun i hi h => by omega) hfr' fun i hi ho => by rcases ho with ho | ho <;> omega⟩
      · rw [if_pos h1, if_neg h2, hpos4]
        repeat (first | refine B.deferredP ?_ | refine C.pan2 ?_)
        refine (mcaught_ok (by rw [hf.get _ (by omega) (by omega)]; exact s4.gm) inferInstance (by rw [hf.get _ (by omega) (by omega)]; exact s4.gf) (by have := s4.lt; omega) (by have := s4.lt; omega) (by omega)).mono (fun u' h' hu => ?_) (fun _ _ _ hx => hx.elim)
        obtain ⟨hs', hm', hf', hfr'⟩ := hu
        rw [hs']
        haveI : HGet h' h.n _ := ⟨hm'⟩
        haveI : HGet h' (h.n + 1) _ := ⟨hf'⟩
        exact L.nil ⟨_, _, rfl, .zero, Fr.trans (S := fun _ => False) (Fr.trans (S := fun _ => False) s4.fr hf fun i hi h => by omega) hfr' fun i hi ho => by rcases ho with ho | ho <;> omega⟩
    obtain ⟨he5, hM5, rfl, hr5, hf5⟩ := hr
    simp only at he5 hM5 hr5 ⊢
    rw [if_pos he5, if_pos hM5]
    have s5 := s4.step hf5 hr5
    have hlt_h5 := s5.lt
    haveI : HGet h5 h.n _ := ⟨s5.gm⟩
    haveI : HGet h5 (h.n + 1) _ := ⟨s5.gf⟩
    haveI : HGet h5 q _ := ⟨s5.gq⟩
    haveI : BLt h.n h5 := ⟨by omega⟩
    haveI : BLt (h.n + 1) h5 := ⟨by omega⟩
    haveI : BLt q h5 := ⟨by omega⟩
    have hpos5 := restS_pos (bs := bs) he5
    repeat (first | refine O.one ?_ | refine O.nil ?_ | refine C.next ?_ | refine RunC.seq ?_ | refine RunC.region ?_ | refine O.one0 ?_)
    have s5' := s5.setm (c' := .int .i64 ((1 : Nat) : Int) :: .int .i64 (i4 : Nat) :: .int .i64 (i5 : Nat) :: .int .i64 0 :: zBc)
    unfold endM
    have kE := End_run s5'.rr
    generalize endS bs _ = F at *
    obtain ⟨E, A⟩ := F
    refine O.call' kE (fun r hE hr => ?_)
    obtain ⟨rfl, hfE⟩ := hr
    have sE := s5'.none hfE
    have hlt_hE := sE.lt
    haveI : HGet hE h.n _ := ⟨sE.gm⟩
    haveI : HGet hE (h.n + 1) _ := ⟨sE.gf⟩
    haveI : HGet hE q _ := ⟨sE.gq⟩
    haveI : BLt h.n hE := ⟨by omega⟩
    haveI : BLt (h.n + 1) hE := ⟨by omega⟩
    haveI : BLt q hE := ⟨by omega⟩
    repeat (first | refine O.nil ?_ | refine C.next ?_ | refine RunC.seq ?_ | refine RunC.regionD ?_ | refine D.one rfl ?_ | refine O.one0 ?_)
    rw [same_fault]
    refine D.callX mustM_ok (fun _ _ _ => rfl) (fun r hG hr => ?_) (fun c hG hx => ⟨rfl, ?_⟩)
    · obtain ⟨hb, rfl⟩ := hr
      obtain ⟨rfl, rfl⟩ := Prod.mk.inj (of_decide_eq_true hb)
      rw [if_pos rfl]
      repeat (first | refine C.next ?_ | refine RunC.seq ?_ | refine RunC.ret ?_ | refine RunC.regionD ?_ | refine D.one rfl ?_ | refine D.nil ?_ | refine D.one0 rfl ?_ | refine D.one0s ?_ | refine B.deferred ?_)
      refine mcaught_none.mono (fun u' h' hu => ?_) (fun _ _ _ hx => hx.elim)
      obtain ⟨rfl, rfl⟩ := hu
      refine L.nil ⟨_, _, rfl, .zero, ?_⟩
      exact Fr.set (Fr.set (Fr.set sE.fr fun hlt => by omega) fun hlt => by omega) fun hlt => by omega
    · obtain ⟨hb, rfl, rfl⟩ := hx
      rw [if_neg (of_decide_eq_false hb)]
      repeat (first | refine B.deferredP ?_ | refine C.pan2 ?_)
      refine (mcaught_ok (by rw [Heap.get_set, if_neg (by omega)]; exact sE.gm) inferInstance (by rw [Heap.get_set, if_pos rfl]) (by have := sE.lt; simp only [Heap.n_set]; omega) (by have := sE.lt; simp only [Heap.n_set]; omega) (by omega)).mono (fun u' h' hu => ?_) (fun _ _ _ hx => hx.elim)
      obtain ⟨hs', hm', hf', hfr'⟩ := hu
      rw [hs']
      haveI : HGet h' h.n _ := ⟨hm'⟩
      haveI : HGet h' (h.n + 1) _ := ⟨hf'⟩
      exact L.nil ⟨_, _, rfl, .zero, Fr.trans (S := fun _ => False) (Fr.set sE.fr fun hlt => by omega) hfr' fun i hi ho => by rcases ho with ho | ho <;> omega⟩
  · repeat (first | refine O.one ?_ | refine O.nil ?_ | refine C.next ?_ | refine RunC.seq ?_ | refine RunC.region ?_ | refine O.oneT ?_)
    simp only [show decide (((2 : Nat) : Int) = 1) = false from rfl, Bool.false_eq_true, if_false]
    refine O.callX mustM_ok (fun r h3' hr => ?_) (fun c h3' hx => ?_)
    rotate_left
    · exact absurd hx.1 (by decide)
    obtain ⟨_, rfl⟩ := hr
    repeat (first | refine O.one ?_ | refine O.nil ?_ | refine C.next ?_ | refine RunC.seq ?_ | refine RunC.region ?_)
    have k4 := numr_ok (M := numM) s3.rr number_okM
    generalize (rd (numS bs) 0 stk) = i4 at *
    obtain ⟨i4, st4⟩ := i4
    refine O.callX k4 (fun r h4 hr => ?_) (fun c h4 hx => ?_)
    rotate_left
    · obtain ⟨e, a, rfl, hf, hor⟩ := hx
      have hnn := hf.n
      simp only at hor ⊢
      rcases hor with ⟨h1, rfl, rfl⟩ | ⟨h1, h2, rfl, rfl⟩
      · rw [if_neg h1]
        repeat (first | refine B.deferredP ?_ | refine C.pan2 ?_)
        refine (mcaught_ok (by rw [hf.get _ (by omega) (by omega)]; exact s3.gm) inferInstance (by rw [hf.get _ (by omega) (by omega)]; exact s3.gf) (by have := s3.lt; omega) (by have := s3.lt; omega) (by omega)).mono (fun u' h' hu => ?_) (fun _ _ _ hx => hx.elim)
        obtain ⟨hs', hm', hf', hfr'⟩ := hu
        rw [hs']
        haveI : HGet h' h.n _ := ⟨hm'⟩
        haveI : HGet h' (h.n + 1) _ := ⟨hf'⟩
        exact L.nil ⟨_, _, rfl, .zero, Fr.trans (S := fun _ => False) (Fr.trans (S := fun _ => False) s3.fr hf fun i hi h => by omega) hfr' fun i hi ho => by rcases ho with ho | ho <;> omega⟩
      · rw [if_pos h1, if_neg h2, hpos]
        repeat (first | refine B.deferredP ?_ | refine C.pan2 ?_)
        refine (mcaught_ok (by rw [hf.get _ (by omega) (by omega)]; exact s3.gm) inferInstance (by rw [hf.get _ (by omega) (by omega)]; exact s3.gf) (by have := s3.lt; omega) (by have := s3.lt; omega) (by omega)).mono (fun u' h' hu => ?_) (fun _ _ _ hx => hx.elim)
        obtain ⟨hs', hm', hf', hfr'⟩ := hu
        rw [hs']
        haveI : HGet h' h.n _ := ⟨hm'⟩
        haveI : HGet h' (h.n + 1) _ := ⟨hf'⟩
        exact L.nil ⟨_, _, rfl, .zero, Fr.trans (S := fun _ => False) (Fr.trans (S := fun _ => False) s3.fr hf fun i hi h => by omega) hfr' fun i hi ho => by rcases ho with ho | ho <;> omega⟩
    obtain ⟨he4, hM4, rfl, hr4, hf4⟩ := hr
    simp only at he4 hM4 hr4 ⊢
    rw [if_pos he4, if_pos hM4]
    have s4 := s3.step hf4 hr4
    have hlt_h4 := s4.lt
    haveI : HGet h4 h.n _ := ⟨s4.gm⟩
    haveI : HGet h4 (h.n + 1) _ := ⟨s4.gf⟩
    haveI : HGet h4 q _ := ⟨s4.gq⟩
    haveI : BLt h.n h4 := ⟨by omega⟩
    haveI : BLt (h.n + 1) h4 := ⟨by omega⟩
    haveI : BLt q h4 := ⟨by omega⟩
    have hpos4 := restS_pos (bs := bs) he4
    rw [if_neg (show ¬ ((2 : Nat) = 1) by omega)]
    repeat (first | refine O.one ?_ | refine O.nil ?_ | refine C.next ?_ | refine RunC.seq ?_ | refine RunC.region ?_ | refine C.ifF ?_)
    try refine C.if (fun h => absurd h (by decide)) (fun _ => ?_)
    skip
    refine O.call' (at_okM s4.rr) (fun r h5 hr => ?_)
    obtain ⟨rfl, hf5⟩ := hr
    rw [hpos4]
    have s5 := s4.none hf5
    have hlt_h5 := s5.lt
    haveI : HGet h5 h.n _ := ⟨s5.gm⟩
    haveI : HGet h5 (h.n + 1) _ := ⟨s5.gf⟩
    haveI : HGet h5 q _ := ⟨s5.gq⟩
    haveI : BLt h.n h5 := ⟨by omega⟩
    haveI : BLt (h.n + 1) h5 := ⟨by omega⟩
    haveI : BLt q h5 := ⟨by omega⟩
    repeat (first | refine O.one ?_ | refine O.nil ?_ | refine C.next ?_ | refine RunC.seq ?_ | refine RunC.region ?_)
    have k6 := Bytes_run (most := 65536) s5.rr (by omega)
    have hbl : (rd (bytesS bs 65536) [] st4).1.length ≤ bs.length := rd_bytes_len
    generalize (rd (bytesS bs 65536) [] st4) = b at *
    obtain ⟨l, stb⟩ := b
    refine O.call' k6 (fun r h6 hr => ?_)
    obtain ⟨hf6, ⟨ho6, hnew6⟩, hr6⟩ := hr
    simp only at ho6 hr6 hbl ⊢
    have s6 := s5.step hf6 hr6
    have hlt_h6 := s6.lt
    haveI : HGet h6 h.n _ := ⟨s6.gm⟩
    haveI : HGet h6 (h.n + 1) _ := ⟨s6.gf⟩
    haveI : HGet h6 q _ := ⟨s6.gq⟩
    haveI : BLt h.n h6 := ⟨by omega⟩
    haveI : BLt (h.n + 1) h6 := ⟨by omega⟩
    haveI : BLt q h6 := ⟨by omega⟩
    repeat (first | refine O.one ?_ | refine O.nil ?_ | refine C.next ?_ | refine RunC.seq ?_ | refine RunC.region ?_)
    refine O.callX (fine_ok s6.rr) (fun r h7 hr => ?_) (fun c h7 hx => ?_)
    rotate_left
    · obtain ⟨heb, rfl, hf7⟩ := hx
      have s7 := s6.none hf7
      rw [if_neg heb]
      repeat (first | refine B.deferredP ?_ | refine C.pan2 ?_)
      refine (mcaught_ok s7.gm inferInstance s7.gf (by have := s7.lt; omega) (by have := s7.lt; omega) (by omega)).mono (fun u' h' hu => ?_) (fun _ _ _ hx => hx.elim)
      obtain ⟨hs', hm', hf', hfr'⟩ := hu
      rw [hs']
      haveI : HGet h' h.n _ := ⟨hm'⟩
      haveI : HGet h' (h.n + 1) _ := ⟨hf'⟩
      exact L.nil ⟨_, _, rfl, .zero, Fr.trans (S := fun _ => False) s7.fr hfr' fun i hi ho => by rcases ho with ho | ho <;> omega⟩
    obtain ⟨heb, hf7⟩ := hr
    rw [if_pos heb]
    have s7 := s6.none hf7
    have hlt_h7 := s7.lt
    haveI : HGet h7 h.n _ := ⟨s7.gm⟩
    haveI : HGet h7 (h.n + 1) _ := ⟨s7.gf⟩
    haveI : HGet h7 q _ := ⟨s7.gq⟩
    haveI : BLt h.n h7 := ⟨by omega⟩
    haveI : BLt (h.n + 1) h7 := ⟨by omega⟩
    haveI : BLt q h7 := ⟨by omega⟩
    repeat (first | refine O.one ?_ | refine O.nil ?_ | refine C.next ?_ | refine RunC.seq ?_ | refine RunC.region ?_)
    refine O.call' (BDecode_ok (ho6.keep hf7 fun _ _ => id).rd (by omega)) (fun r h8 hr => ?_)
    obtain ⟨sv, sl, rfl, hO, hf8⟩ := hr
    have hokb := decB_ok l
    generalize decB l = D at *
    obtain ⟨X, E', A'⟩ := D
    simp only at hO hokb ⊢
    obtain ⟨av, cv, rfl, _, _⟩ := hO.votes.rd
    obtain ⟨al, cl, rfl, _, _⟩ := hO.vals.rd
    haveI := l32 hokb.h.prev
    haveI := l32 hokb.h.vals
    haveI := l32 hokb.h.next
    haveI := l32 hokb.h.app
    haveI := l32 hokb.hash
    have s8 := s7.none hf8
    have hlt_h8 := s8.lt
    haveI : HGet h8 h.n _ := ⟨s8.gm⟩
    haveI : HGet h8 (h.n + 1) _ := ⟨s8.gf⟩
    haveI : HGet h8 q _ := ⟨s8.gq⟩
    haveI : BLt h.n h8 := ⟨by omega⟩
    haveI : BLt (h.n + 1) h8 := ⟨by omega⟩
    haveI : BLt q h8 := ⟨by omega⟩
    repeat (first | refine O.one ?_ | refine O.nil ?_ | refine C.next ?_ | refine RunC.seq ?_ | refine RunC.region ?_ | refine O.one0 ?_)
    rw [same_fault]
    generalize hh9 : (((h8.push (.cells zBc 0)).push (.cells [.int .i64 0, .int .i64 0] 0)).set h8.n (.cells (X.cells (.slice av X.c.votes.length cv) (.slice al X.vals.length cl)) 0)).set (h8.push (.cells zBc 0)).n (.cells [.int .i64 E', .int .i64 A'] 0) = h9
    have hf89 : Fr (fun _ => False) h8 h9 := by rw [← hh9]; exact Fr.set (Fr.set Fr.refl.push.push fun hlt => by omega) fun hlt => by simp at hlt; omega
    haveI hX9 : HGet h9 h8.n (.cells (X.cells (.slice av X.c.votes.length cv) (.slice al X.vals.length cl)) 0) := ⟨by rw [← hh9, Heap.get_set, if_neg (by simp), Heap.get_set, if_pos rfl]⟩
    clear hh9
    have s9 := s8.none hf89
    have hlt_h9 := s9.lt
    haveI : HGet h9 h.n _ := ⟨s9.gm⟩
    haveI : HGet h9 (h.n + 1) _ := ⟨s9.gf⟩
    haveI : HGet h9 q _ := ⟨s9.gq⟩
    haveI : BLt h.n h9 := ⟨by omega⟩
    haveI : BLt (h.n + 1) h9 := ⟨by omega⟩
    haveI : BLt q h9 := ⟨by omega⟩
    haveI : BNe h8.n h.n := ⟨by omega⟩
    haveI : BNe h.n h8.n := ⟨by omega⟩
    refine O.callX mustM_ok (fun r h9x hr => ?_) (fun c h9x hx => ?_)
    rotate_left
    · obtain ⟨hb9, rfl, hh9⟩ := hx
      obtain rfl := hh9.symm
      rw [if_neg (of_decide_eq_false hb9)]
      repeat (first | refine B.deferredP ?_ | refine C.pan2 ?_)
      refine (mcaught_ok s9.gm inferInstance s9.gf (by have := s9.lt; omega) (by have := s9.lt; omega) (by omega)).mono (fun u' h' hu => ?_) (fun _ _ _ hx => hx.elim)
      obtain ⟨hs', hm', hf', hfr'⟩ := hu
      rw [hs']
      haveI : HGet h' h.n _ := ⟨hm'⟩
      haveI : HGet h' (h.n + 1) _ := ⟨hf'⟩
      exact L.nil ⟨_, _, rfl, .zero, Fr.trans (S := fun _ => False) s9.fr hfr' fun i hi ho => by rcases ho with ho | ho <;> omega⟩
    obtain ⟨hb9, hh9⟩ := hr
    obtain rfl := hh9.symm
    rw [if_pos (of_decide_eq_true hb9)]
    repeat (first | refine O.one ?_ | refine O.nil ?_ | refine C.next ?_ | refine RunC.seq ?_ | refine RunC.region ?_ | refine O.one0 ?_)
    have s9' := s9.setm (c' := .int .i64 ((2 : Nat) : Int) :: .int .i64 0 :: .int .i64 0 :: .int .i64 (i4 : Nat) :: X.cells (.slice av X.c.votes.length cv) (.slice al X.vals.length cl))
    unfold endM
    have kE := End_run s9'.rr
    generalize endS bs _ = F at *
    obtain ⟨E, A⟩ := F
    refine O.call' kE (fun r hE hr => ?_)
    obtain ⟨rfl, hfE⟩ := hr
    have sE := s9'.none hfE
    have hlt_hE := sE.lt
    haveI : HGet hE h.n _ := ⟨sE.gm⟩
    haveI : HGet hE (h.n + 1) _ := ⟨sE.gf⟩
    haveI : HGet hE q _ := ⟨sE.gq⟩
    haveI : BLt h.n hE := ⟨by omega⟩
    haveI : BLt (h.n + 1) hE := ⟨by omega⟩
    haveI : BLt q hE := ⟨by omega⟩
    repeat (first | refine O.nil ?_ | refine C.next ?_ | refine RunC.seq ?_ | refine RunC.regionD ?_ | refine D.one rfl ?_ | refine O.one0 ?_)
    rw [same_fault]
    refine D.callX mustM_ok (fun _ _ _ => rfl) (fun r hG hr => ?_) (fun c hG hx => ⟨rfl, ?_⟩)
    · obtain ⟨hb, rfl⟩ := hr
      obtain ⟨rfl, rfl⟩ := Prod.mk.inj (of_decide_eq_true hb)
      rw [if_pos rfl]
      repeat (first | refine C.next ?_ | refine RunC.seq ?_ | refine RunC.ret ?_ | refine RunC.regionD ?_ | refine D.one rfl ?_ | refine D.nil ?_ | refine D.one0 rfl ?_ | refine D.one0s ?_ | refine B.deferred ?_)
      refine mcaught_none.mono (fun u' h' hu => ?_) (fun _ _ _ hx => hx.elim)
      obtain ⟨rfl, rfl⟩ := hu
      refine L.nil ⟨_, _, rfl, BkOwn.lower (hO.keep (S := fun i => i = h.n ∨ i = h.n + 1) (Fr.set (Fr.set (Fr.set (Fr.trans (S := fun i => i = h.n ∨ i = h.n + 1) ((hf89.mono fun _ _ h => h.elim).set fun _ => .inl rfl) hfE fun _ _ h => h.elim) fun _ => .inr rfl) fun _ => .inl rfl) fun _ => .inr rfl) fun i hi => by omega) (by omega), ?_⟩
      exact Fr.set (Fr.set (Fr.set sE.fr fun hlt => by omega) fun hlt => by omega) fun hlt => by omega
    · obtain ⟨hb, rfl, rfl⟩ := hx
      rw [if_neg (of_decide_eq_false hb)]
      repeat (first | refine B.deferredP ?_ | refine C.pan2 ?_)
      refine (mcaught_ok (by rw [Heap.get_set, if_neg (by omega)]; exact sE.gm) inferInstance (by rw [Heap.get_set, if_pos rfl]) (by have := sE.lt; simp only [Heap.n_set]; omega) (by have := sE.lt; simp only [Heap.n_set]; omega) (by omega)).mono (fun u' h' hu => ?_) (fun _ _ _ hx => hx.elim)
      obtain ⟨hs', hm', hf', hfr'⟩ := hu
      rw [hs']
      haveI : HGet h' h.n _ := ⟨hm'⟩
      haveI : HGet h' (h.n + 1) _ := ⟨hf'⟩
      exact L.nil ⟨_, _, rfl, .zero, Fr.trans (S := fun _ => False) (Fr.set sE.fr fun hlt => by omega) hfr' fun i hi ho => by rcases ho with ho | ho <;> omega⟩
end Go.Proofs.YtfpnmcogfamhaaaGreat.A

namespace Go.Proofs.YtfpnmcogfamhaaaGreat.A
open Go Go.Vm
set_option maxRecDepth 10000
set_option linter.unusedVariables false

def okSt (st : RSt) : Prop := st.e = 0 → st.fa = 0
theorem rd_okSt {α : Type} {S : Nat → Except Int (α × Nat)} {z : α} {st : RSt} (hS : ∀ pl e, S pl = .error e → e ≠ 0) (h : okSt st) : okSt (rd S z st).2 := by
  unfold rd
  split
  · split
    · exact fun _ => rfl
    · rename_i e he
      exact fun h0 => absurd h0 (hS _ _ he)
  · exact h
theorem numS_ne {bs : List UInt8} (pl : Nat) (e : Int) (h : numS bs pl = .error e) : e ≠ 0 := by
  rcases numS_err h with rfl | rfl <;> decide
theorem bytesS_ne {bs : List UInt8} {m : Nat} (pl : Nat) (e : Int) (h : bytesS bs m pl = .error e) : e ≠ 0 := by
  unfold bytesS at h
  split at h
  · rename_i e' h'
    cases h
    exact numS_ne _ _ h'
  · split at h
    · cases h; decide
    · split at h
      · cases h; decide
      · cases h
theorem partS_ne {bs : List UInt8} {k : Nat} (pl : Nat) (e : Int) (h : partS k bs pl = .error e) : e ≠ 0 := by
  unfold partS at h
  split at h
  · cases h; decide
  · cases h
theorem wordS_ne {bs : List UInt8} (pl : Nat) (e : Int) (h : wordS bs pl = .error e) : e ≠ 0 := by
  unfold wordS at h
  split at h
  · cases h; decide
  · cases h
theorem stepD_okSt {bs : List UInt8} {y : Hd × RSt} (h : okSt y.2) : ∀ k, okSt (stepD bs k y).2
  | 0 => h
  | k + 1 => rd_okSt partS_ne (stepD_okSt h k)
theorem stepV_okSt {bs : List UInt8} {y : List Val × RSt} (h : okSt y.2) : ∀ k, okSt (stepV bs k y).2
  | 0 => h
  | k + 1 => rd_okSt numS_ne (rd_okSt partS_ne (stepV_okSt h k))
theorem stepW_okSt {bs : List UInt8} {y : List Vote × RSt} (h : okSt y.2) : ∀ k, okSt (stepW bs k y).2
  | 0 => h
  | k + 1 => rd_okSt wordS_ne (rd_okSt numS_ne (stepW_okSt h k))
theorem endS_zero {bs : List UInt8} {st : RSt} (h : okSt st) : (endS bs st).1 = 0 → (endS bs st).2 = 0 := by
  unfold endS
  split
  · intro h0; cases h0
  · exact h
theorem fault_zero {α : Type} {f : Int × Int} {c : Int} {x z : α} (hf : f.1 = 0 → f.2 = 0) :
    (if (if f = (0, 0) then (c, 0) else f) = (0, 0) then (x, ((0 : Int), (0 : Int))) else (z, if f = (0, 0) then (c, 0) else f)).2.1 = 0 → (if (if f = (0, 0) then (c, 0) else f) = (0, 0) then (x, ((0 : Int), (0 : Int))) else (z, if f = (0, 0) then (c, 0) else f)).2.2 = 0 := by
  by_cases hff : f = (0, 0)
  · rw [if_pos hff]
    split
    · exact fun _ => rfl
    · exact fun _ => rfl
  · rw [if_neg hff, if_neg hff]
    exact hf
theorem decS_zero (bs : List UInt8) : (decS bs).2.1 = 0 → (decS bs).2.2 = 0 := by
  have h0 : okSt (headD bs).2 := rd_okSt numS_ne (rd_okSt numS_ne (rd_okSt bytesS_ne fun _ => rfl))
  exact fault_zero (f := endS bs (stepD bs 4 (headD bs)).2) (c := checkS (stepD bs 4 (headD bs)).1) (x := (stepD bs 4 (headD bs)).1) (z := zeroHd) (endS_zero (stepD_okSt h0 4))
theorem decV_zero (bs : List UInt8) : (decV bs).2.1 = 0 → (decV bs).2.2 = 0 := by
  unfold decV
  simp only
  split
  · intro h; cases h
  · exact fault_zero (endS_zero (stepV_okSt (y := ([], (rd (numS bs) 0 ⟨0, 0, 0⟩).2)) (rd_okSt numS_ne fun _ => rfl) _))
theorem decC_zero (bs : List UInt8) : (decC bs).2.1 = 0 → (decC bs).2.2 = 0 := by
  unfold decC
  simp only
  split
  · intro h; cases h
  · exact fault_zero (endS_zero (stepW_okSt (y := ([], (rd (numS bs) 0 (rd (partS 32 bs) zb32 (rd (numS bs) 0 ⟨0, 0, 0⟩).2).2).2)) (rd_okSt numS_ne (rd_okSt partS_ne (rd_okSt numS_ne fun _ => rfl))) _))
theorem partB_zero {α : Type} {dec : List UInt8 → α × Int × Int} {zero : α} {bs : List UInt8} {y : (Int × Int) × RSt} (h1 : y.1.1 = 0 → y.1.2 = 0) (h2 : okSt y.2) :
    ((partB dec zero bs y).2.1.1 = 0 → (partB dec zero bs y).2.1.2 = 0) ∧ okSt (partB dec zero bs y).2.2 := by
  have hb : okSt (rd (bytesS bs 65536) [] y.2).2 := rd_okSt bytesS_ne h2
  unfold partB
  split
  · simp only
    split
    · split
      · exact ⟨fun _ => rfl, hb⟩
      · exact ⟨fun h => (by cases h), hb⟩
    · rename_i he
      exact ⟨fun h => absurd h he, hb⟩
  · exact ⟨h1, h2⟩
theorem decB_zero (bs : List UInt8) : (decB bs).2.1 = 0 → (decB bs).2.2 = 0 := by
  have h1 := partB_zero (dec := decS) (zero := zeroHd) (bs := bs) (y := ((0, 0), ⟨0, 0, 0⟩)) (fun _ => rfl) (fun _ => rfl)
  have h2 := partB_zero (dec := decC) (zero := zCm) (bs := bs) h1.1 h1.2
  have h3 := partB_zero (dec := decV) (zero := []) (bs := bs) h2.1 h2.2
  have h4 := endS_zero (bs := bs) h3.2
  unfold decB
  simp only
  generalize partB decS zeroHd bs ((0, 0), ⟨0, 0, 0⟩) = y1 at *
  generalize partB decC zCm bs y1.2 = y2 at *
  generalize partB decV [] bs y2.2 = y3 at *
  by_cases h : y3.2.1 = (0, 0)
  · rw [if_pos h]
    split
    · exact h4
    · exact h4
  · rw [if_neg h]
    split
    · exact h3.1
    · exact h3.1

theorem partB_bad {α : Type} {dec : List UInt8 → α × Int × Int} {zero : α} {bs : List UInt8} {st : RSt} (h : (rd (bytesS bs 65536) [] st).2.e ≠ 0) : partB dec zero bs ((0, 0), st) = (zero, ((rd (bytesS bs 65536) [] st).2.e, (rd (bytesS bs 65536) [] st).2.fa), (rd (bytesS bs 65536) [] st).2) := by
  unfold partB
  rw [if_pos rfl]
  simp only
  rw [if_neg h]
theorem partB_form {α : Type} {dec : List UInt8 → α × Int × Int} {zero : α} {bs : List UInt8} {st : RSt} (h : (rd (bytesS bs 65536) [] st).2.e = 0) (hd : (dec (rd (bytesS bs 65536) [] st).1).2 ≠ (0, 0)) : partB dec zero bs ((0, 0), st) = (zero, (5, (st.pl : Int)), (rd (bytesS bs 65536) [] st).2) := by
  unfold partB
  rw [if_pos rfl]
  simp only
  rw [if_pos h, if_neg hd]
theorem partB_good {α : Type} {dec : List UInt8 → α × Int × Int} {zero : α} {bs : List UInt8} {st : RSt} (h : (rd (bytesS bs 65536) [] st).2.e = 0) (hd : (dec (rd (bytesS bs 65536) [] st).1).2 = (0, 0)) : partB dec zero bs ((0, 0), st) = ((dec (rd (bytesS bs 65536) [] st).1).1, (0, 0), (rd (bytesS bs 65536) [] st).2) := by
  unfold partB
  rw [if_pos rfl]
  simp only
  rw [if_pos h, if_pos hd]
theorem partB_stop {α : Type} {dec : List UInt8 → α × Int × Int} {zero : α} {bs : List UInt8} {y : (Int × Int) × RSt} (h : y.1 ≠ (0, 0)) : partB dec zero bs y = (zero, y) := by
  unfold partB
  rw [if_neg h]
theorem decB_parts {bs : List UInt8} {y1 : Hd × (Int × Int) × RSt} {y2 : Cm × (Int × Int) × RSt} {y3 : List Val × (Int × Int) × RSt} (h1 : partB decS zeroHd bs ((0, 0), ⟨0, 0, 0⟩) = y1) (h2 : partB decC zCm bs y1.2 = y2) (h3 : partB decV [] bs y2.2 = y3) :
    decB bs = if (if y3.2.1 = (0, 0) then endS bs y3.2.2 else y3.2.1) = (0, 0) then (⟨y1.1, y2.1, y3.1⟩, if y3.2.1 = (0, 0) then endS bs y3.2.2 else y3.2.1) else (zBk, if y3.2.1 = (0, 0) then endS bs y3.2.2 else y3.2.1) := by
  unfold decB
  simp only
  rw [h1, h2, h3]
theorem decB_stop3 {bs : List UInt8} {y1 : Hd × (Int × Int) × RSt} {y2 : Cm × (Int × Int) × RSt} {y3 : List Val × (Int × Int) × RSt} (h1 : partB decS zeroHd bs ((0, 0), ⟨0, 0, 0⟩) = y1) (h2 : partB decC zCm bs y1.2 = y2) (h3 : partB decV [] bs y2.2 = y3) (h : y3.2.1 ≠ (0, 0)) : decB bs = (zBk, y3.2.1) := by
  rw [decB_parts h1 h2 h3, if_neg h, if_neg h]
theorem decB_stop2 {bs : List UInt8} {y1 : Hd × (Int × Int) × RSt} {y2 : Cm × (Int × Int) × RSt} (h1 : partB decS zeroHd bs ((0, 0), ⟨0, 0, 0⟩) = y1) (h2 : partB decC zCm bs y1.2 = y2) (h : y2.2.1 ≠ (0, 0)) : decB bs = (zBk, y2.2.1) :=
  decB_stop3 h1 h2 (partB_stop h) h
theorem decB_stop1 {bs : List UInt8} {y1 : Hd × (Int × Int) × RSt} (h1 : partB decS zeroHd bs ((0, 0), ⟨0, 0, 0⟩) = y1) (h : y1.2.1 ≠ (0, 0)) : decB bs = (zBk, y1.2.1) :=
  decB_stop2 h1 (partB_stop h) h
theorem decB_fin {bs : List UInt8} {y1 : Hd × (Int × Int) × RSt} {y2 : Cm × (Int × Int) × RSt} {y3 : List Val × (Int × Int) × RSt} (h1 : partB decS zeroHd bs ((0, 0), ⟨0, 0, 0⟩) = y1) (h2 : partB decC zCm bs y1.2 = y2) (h3 : partB decV [] bs y2.2 = y3) (h : y3.2.1 = (0, 0)) :
    decB bs = if endS bs y3.2.2 = (0, 0) then (⟨y1.1, y2.1, y3.1⟩, endS bs y3.2.2) else (zBk, endS bs y3.2.2) := by
  rw [decB_parts h1 h2 h3, if_pos h]
end Go.Proofs.YtfpnmcogfamhaaaGreat.A
