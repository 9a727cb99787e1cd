/- Contracts of functions, over the machine. -/
import Derived.Test.YtfpnmcogfamhaaaGreatQD
namespace Go.Proofs.YtfpnmcogfamhaaaGreat.A
open Go Go.Vm
set_option maxRecDepth 10000
set_option linter.unusedVariables false
structure BSt (h H : Heap) (p x : Nat) (svr : Value) (bs : List UInt8) (c : List Value) (st : RSt) : Prop where
  ga : H.get h.n = .cells zBc 0
  gb : H.get (h.n + 1) = .cells [.int .i64 0, .int .i64 0] 0
  gx : H.get x = .cells c 0
  rr : RRs H p svr bs st
  fr : Fr (fun _ => False) h H
  lo : h.n + 2 ≤ p
  hi : p < x
  lt : x < H.n
  own : ∀ i, ownedBy svr i → h.n + 2 ≤ i ∧ i < x
theorem BSt.step {h H H' : Heap} {p x : Nat} {svr : Value} {bs : List UInt8} {c : List Value} {st st' : RSt} (hs : BSt h H p x svr bs c st) (hf : Fr (fun i => i = p) H H') (hr : RRs H' p svr bs st') : BSt h H' p x svr bs c st' := by
  have h1 := hs.lo
  have h2 := hs.hi
  have h3 := hs.lt
  have h4 := hf.n
  exact ⟨by rw [hf.get _ (by omega) (by omega)]; exact hs.ga, by rw [hf.get _ (by omega) (by omega)]; exact hs.gb, by rw [hf.get _ (by omega) (by omega)]; exact hs.gx, hr, Fr.trans (S := fun _ => False) hs.fr hf fun i hi h => by omega, h1, h2, by omega, hs.own⟩
theorem BSt.none {h H H' : Heap} {p x : Nat} {svr : Value} {bs : List UInt8} {c : List Value} {st : RSt} (hs : BSt h H p x svr bs c st) (hf : Fr (fun _ => False) H H') : BSt h H' p x svr bs c st := hs.step (hf.mono fun _ _ h => h.elim) (hs.rr.none hf)
theorem BSt.move {h H H' : Heap} {p x f : Nat} {svr : Value} {bs : List UInt8} {c c' : List Value} {st : RSt} (hs : BSt h H p x svr bs c st) (hf : Fr (fun i => i = x ∨ i = f) H H') (hfl : x < f) (hx : H'.get x = .cells c' 0) : BSt h H' p x svr bs c' st := by
  have h1 := hs.lo
  have h2 := hs.hi
  have h3 := hs.lt
  have h4 := hf.n
  exact ⟨by rw [hf.get _ (by omega) (by omega)]; exact hs.ga, by rw [hf.get _ (by omega) (by omega)]; exact hs.gb, hx, hs.rr.keep hf (by omega) fun i hi h => (by have := (hs.own i hi).2; omega), Fr.trans (S := fun _ => False) hs.fr hf fun i hi h => by omega, h1, h2, by omega, hs.own⟩
abbrev HB (X : Hd) (rest : List Value) : List Value := .string ⟨⟨X.chain⟩⟩ :: .int .i64 X.height :: .int .i64 X.time :: (bcells X.prev ++ (bcells X.vals ++ (bcells X.next ++ (bcells X.app ++ rest))))
abbrev rest0 : List Value := .int .i64 0 :: (z32 ++ [.slice none 0 0, .slice none 0 0])
theorem five_ne {a : Int} : ((5 : Int), a) ≠ ((0 : Int), (0 : Int)) := fun h => by cases (Prod.mk.inj h).1

theorem BkOwn.lower' {h : Heap} {lo lo' : Nat} {x : Bk} {sv sl : Value} (hb : BkOwn h lo x sv sl) (hl : lo' ≤ lo) : BkOwn h lo' x sv sl :=
  ⟨hb.votes, hb.vals, fun i hi => Nat.le_trans hl (hb.vnew i hi), fun i hi => Nat.le_trans hl (hb.lnew i hi), hb.apart⟩
set_option maxHeartbeats 16000000 in
theorem RBDecode_ok {h : Heap} {v : Value} {bs : List UInt8} (hv : Rd h 1 v (bcells bs) bs.length) (hs : bs.length < 1048576) : Runs Tryz.prog T0 (.fn fn_lr09_Decode) [v] h
    (fun r h' => ∃ sv sl, r = .tuple ⟨[.agg ⟨(decB bs).1.cells sv sl⟩, .agg ⟨[.int .i64 (decB bs).2.1, .int .i64 (decB bs).2.2]⟩]⟩ ∧ BkOwn h' h.n (decB bs).1 sv sl ∧ Fr (fun _ => False) h h') (fun _ _ => False) := by
  have hv' := hv
  obtain ⟨a0, cap0, rfl, hl0, _⟩ := hv
  refine lr09_Decode_runs ?_
  repeat (first | refine O.one ?_ | refine O.nil ?_ | refine C.next ?_ | refine RunC.seq ?_ | refine RunC.region ?_)
  generalize hb3 : (h.push (.cells zBc 0)).n = b3
  have hb3' : b3 = h.n + 1 := by rw [← hb3]; rfl
  clear hb3
  subst hb3'
  generalize hh0 : ((h.push (.cells zBc 0)).push (.cells [.int .i64 0, .int .i64 0] 0)) = h0
  have hf0 : Fr (fun _ => False) h h0 := by rw [← hh0]; exact Fr.refl.push.push
  have hn0 : h0.n = h.n + 2 := by rw [← hh0]; rfl
  have hm0 : h0.get h.n = .cells zBc 0 := by rw [← hh0, Heap.get_push, if_neg (by simp), Heap.get_push, if_pos rfl]
  have hff0 : h0.get (h.n + 1) = .cells [.int .i64 0, .int .i64 0] 0 := by rw [← hh0, Heap.get_push, if_pos (by simp)]
  clear hh0
  refine O.call' (RNew_ok (hv'.keep hf0 fun _ _ => id) hs) (fun r h1' hr => ?_)
  obtain ⟨p, svr, rfl, hp1, hsv, hr1', hf1'⟩ := hr
  have hlt1' := hr1'.lt
  have hn1' := hf1'.n
  repeat (first | refine O.one ?_ | refine O.nil ?_ | refine C.next ?_ | refine RunC.seq ?_ | refine RunC.region ?_ | refine RunC.block ?_)
  generalize hx : h1'.n = x
  generalize hh1 : h1'.push (.cells zBc 0) = h1
  have s1 : BSt h h1 p x svr bs zBc ⟨0, 0, 0⟩ := by
    rw [← hh1, ← hx]
    exact ⟨by rw [Heap.get_push, if_neg (by omega), hf1'.get _ (by omega) id, hm0], by rw [Heap.get_push, if_neg (by omega), hf1'.get _ (by omega) id, hff0], by rw [Heap.get_push, if_pos rfl], hr1'.none Fr.refl.push, (hf0.trans' hf1').push, by omega, by omega, by simp, fun i hi => ⟨by have := hsv i hi; omega, hr1'.own_lt hi⟩⟩
  clear hh1 hx
  have hlo := s1.lo
  have hhi := s1.hi
  haveI : BNe h.n x := ⟨by omega⟩
  haveI : BNe x h.n := ⟨by omega⟩
  haveI : BNe (h.n + 1) x := ⟨by omega⟩
  haveI : BNe x (h.n + 1) := ⟨by omega⟩
  haveI : BNe h.n (h.n + 1) := ⟨by omega⟩
  haveI : BNe (h.n + 1) h.n := ⟨by omega⟩
  haveI : BNe h.n p := ⟨by omega⟩
  haveI : BNe p h.n := ⟨by omega⟩
  haveI : BNe (h.n + 1) p := ⟨by omega⟩
  haveI : BNe p (h.n + 1) := ⟨by omega⟩
  have e1z := partB_e (dec := decS) (zero := zeroHd) (bs := bs) (y := ((0, 0), ⟨0, 0, 0⟩)) (fun _ => rfl)
  have hX1 := partB_prop (P := Hd.ok) decS_ok zeroHd_ok bs ((0, 0), ⟨0, 0, 0⟩)
  obtain ⟨y1, hy1⟩ : ∃ y, partB decS zeroHd bs ((0, 0), ⟨0, 0, 0⟩) = y := ⟨_, rfl⟩
  rw [hy1] at e1z hX1
  have e2z := partB_e (dec := decC) (zero := zCm) (bs := bs) e1z
  have hX2 := partB_prop (P := fun c : Cm => c.hash.length = 32 ∧ c.votes.length ≤ 64) (zero := zCm) decC_ok ⟨rfl, Nat.zero_le 64⟩ bs y1.2
  obtain ⟨y2, hy2⟩ : ∃ y, partB decC zCm bs y1.2 = y := ⟨_, rfl⟩
  have hy2' : y1.2.1 = (0, 0) → partB decC zCm bs ((0, 0), y1.2.2) = y2 := fun h => by rw [← h]; exact hy2
  rw [hy2] at e2z hX2
  have e3z := partB_e (dec := decV) (zero := []) (bs := bs) e2z
  obtain ⟨y3, hy3⟩ : ∃ y, partB decV [] bs y2.2 = y := ⟨_, rfl⟩
  have hy3' : y2.2.1 = (0, 0) → partB decV [] bs ((0, 0), y2.2.2) = y3 := fun h => by rw [← h]; exact hy3
  rw [hy3] at e3z
  haveI := l32 hX1.prev
  haveI := l32 hX1.vals
  haveI := l32 hX1.next
  haveI := l32 hX1.app
  haveI := l32 hX2.1
  refine lr09_Decode_l0_rule (fun m v6 H => (v6 = .int .i64 0 ∧ m = 3 ∧ BSt h H p x svr bs zBc ⟨0, 0, 0⟩) ∨ (v6 = .int .i64 1 ∧ m = 2 ∧ y1.2.1 = (0, 0) ∧ BSt h H p x svr bs (HB y1.1 rest0) y1.2.2) ∨
    (v6 = .int .i64 2 ∧ m = 1 ∧ y2.2.1 = (0, 0) ∧ ∃ sv, Own H 2 sv (tcells y2.1.votes) y2.1.votes.length ∧ (∀ i, ownedBy sv i → x < i) ∧ BSt h H p x svr bs (HB y1.1 (.int .i64 y2.1.height :: (bcells y2.1.hash ++ [sv, .slice none 0 0]))) y2.2.2) ∨
    (v6 = .int .i64 3 ∧ m = 0 ∧ y3.2.1 = (0, 0) ∧ ∃ sv sl, BkOwn H (x + 1) ⟨y1.1, y2.1, y3.1⟩ sv sl ∧ BSt h H p x svr bs (Bk.cells ⟨y1.1, y2.1, y3.1⟩ sv sl) y3.2.2)) ?_ 3 (.inl ⟨rfl, rfl, s1⟩)
  rintro m v6 H x7 x8 x9 x10 x11 x12 x13 x14 x15 x19 x20 x21 x22 x23 x24 x25 x26 x27 x28 x29 x30 x31 x32 x33 x34 x35 x36 x37 x38 x39 x40 x41 x42 x43 x44 x45 x46 x47 x48 x49 x50 x51 x52 x53 x54 x55 x56 x57 x58 x59 x60 x61 x62 x63 x64 x65 x66 x67 x68 x69 x70 x71 x72 x73 x74 (⟨rfl, rfl, hB⟩ | ⟨rfl, rfl, hz, hB⟩ | ⟨rfl, rfl, hz, sv, hov, hnv, hB⟩ | ⟨rfl, rfl, hz, sv, sl, hO, hB⟩)
  · have hse : (⟨0, 0, 0⟩ : RSt).e = 0 := rfl
    obtain ⟨pl, hpl, hrr⟩ := hB.rr.ex
    obtain ⟨rfl, _⟩ := hpl hse
    haveI : HGet H p _ := ⟨hrr.get⟩
    have hlt_H := hB.lt
    haveI : HGet H h.n _ := ⟨hB.ga⟩
    haveI : HGet H (h.n + 1) _ := ⟨hB.gb⟩
    haveI : HGet H x _ := ⟨hB.gx⟩
    haveI : BLt h.n H := ⟨by omega⟩
    haveI : BLt (h.n + 1) H := ⟨by omega⟩
    haveI : BLt x H := ⟨by omega⟩
    repeat (first | refine O.one ?_ | refine O.nil ?_ | refine C.next ?_ | refine RunC.seq ?_ | refine RunC.region ?_ | refine RunC.block ?_ | refine RunC.skip ?_ | refine C.ifT ?_)
    have kb := RBytes_run (most := 65536) hB.rr
    have pb : (rd (bytesS bs 65536) [] (⟨0, 0, 0⟩ : RSt)).2.e ≠ 0 → y1 = (zeroHd, ((rd (bytesS bs 65536) [] (⟨0, 0, 0⟩ : RSt)).2.e, (rd (bytesS bs 65536) [] (⟨0, 0, 0⟩ : RSt)).2.fa), (rd (bytesS bs 65536) [] (⟨0, 0, 0⟩ : RSt)).2) := fun he => hy1.symm.trans (partB_bad he)
    have pf : (rd (bytesS bs 65536) [] (⟨0, 0, 0⟩ : RSt)).2.e = 0 → (decS (rd (bytesS bs 65536) [] (⟨0, 0, 0⟩ : RSt)).1).2 ≠ (0, 0) → y1 = (zeroHd, (5, ((⟨0, 0, 0⟩ : RSt).pl : Int)), (rd (bytesS bs 65536) [] (⟨0, 0, 0⟩ : RSt)).2) := fun he hd => hy1.symm.trans (partB_form he hd)
    have pg : (rd (bytesS bs 65536) [] (⟨0, 0, 0⟩ : RSt)).2.e = 0 → (decS (rd (bytesS bs 65536) [] (⟨0, 0, 0⟩ : RSt)).1).2 = (0, 0) → y1 = ((decS (rd (bytesS bs 65536) [] (⟨0, 0, 0⟩ : RSt)).1).1, (0, 0), (rd (bytesS bs 65536) [] (⟨0, 0, 0⟩ : RSt)).2) := fun he hd => hy1.symm.trans (partB_good he hd)
    have hbl : (rd (bytesS bs 65536) [] (⟨0, 0, 0⟩ : RSt)).1.length ≤ bs.length := rd_bytes_len
    generalize (rd (bytesS bs 65536) [] (⟨0, 0, 0⟩ : RSt)) = b at *
    obtain ⟨l, stb⟩ := b
    refine O.call' kb (fun r H1 hr => ?_)
    obtain ⟨hf1, ⟨ho, hnew⟩, hr1⟩ := hr
    simp only at ho hr1 hbl pb pf pg
    have B1 := hB.step hf1 hr1
    have hlt_H1 := B1.lt
    haveI : HGet H1 h.n _ := ⟨B1.ga⟩
    haveI : HGet H1 (h.n + 1) _ := ⟨B1.gb⟩
    haveI : HGet H1 x _ := ⟨B1.gx⟩
    haveI : BLt h.n H1 := ⟨by omega⟩
    haveI : BLt (h.n + 1) H1 := ⟨by omega⟩
    haveI : BLt x H1 := ⟨by omega⟩
    obtain ⟨pl1, _, hrr1⟩ := hr1.ex
    haveI : HGet H1 p _ := ⟨hrr1.get⟩
    repeat (first | refine O.one ?_ | refine O.nil ?_ | refine C.next ?_ | refine RunC.seq ?_ | refine RunC.region ?_)
    refine C.ifN (fun he => ?_) (fun he => ?_)
    · repeat (first | refine RunC.seq ?_ | refine RunC.regionD ?_ | refine D.one rfl ?_)
      refine D.one0S ?_
      repeat (first | refine C.next ?_ | refine RunC.ret ?_ | refine D.nil ?_ | refine D.one0 rfl ?_ | refine C.retB ?_ | refine C.ret2 ?_ | refine loopQ.ret ?_ | refine B.ret ?_)
      rw [decB_stop1 hy1 (by rw [pb he]; exact fun h => he (Prod.mk.inj h).1), pb he]
      exact ⟨_, _, rfl, .zero, Fr.set (Fr.set B1.fr fun hlt => by omega) fun hlt => by omega⟩
    repeat (first | refine O.one ?_ | refine O.nil ?_ | refine C.next ?_ | refine RunC.seq ?_ | refine RunC.region ?_ | refine RunC.block ?_ | refine RunC.skip ?_ | refine C.ifT ?_)
    refine O.call' (RDecode_ok ((ho.keep (S := fun _ => False) Fr.refl.push fun _ _ => id).rd) (by omega)) (fun r H2 hr => ?_)
    obtain ⟨rfl, hf2⟩ := hr
    have hok := decS_ok l
    have hz0 := decS_zero l
    generalize decS l = D at *
    obtain ⟨Xh, E, A⟩ := D
    simp only at hok hz0 pf pg ⊢
    haveI := l32 hok.prev
    haveI := l32 hok.vals
    haveI := l32 hok.next
    haveI := l32 hok.app
    have hn12 := hf2.n
    simp only [Heap.n_push] at hn12
    have B2 := (B1.none (Fr.refl.push (o := .cells [.int .i64 0, .int .i64 0] 0))).none hf2
    have hlt_H2 := B2.lt
    haveI : HGet H2 h.n _ := ⟨B2.ga⟩
    haveI : HGet H2 (h.n + 1) _ := ⟨B2.gb⟩
    haveI : HGet H2 x _ := ⟨B2.gx⟩
    haveI : BLt h.n H2 := ⟨by omega⟩
    haveI : BLt (h.n + 1) H2 := ⟨by omega⟩
    haveI : BLt x H2 := ⟨by omega⟩
    haveI hF2 : HGet H2 H1.n _ := hf2.keep (b := H1.n) HGet.new (by simp) id
    haveI : BLt H1.n H2 := ⟨by omega⟩
    haveI : BNe H1.n x := ⟨by omega⟩
    haveI : BNe x H1.n := ⟨by omega⟩
    haveI : BNe H1.n h.n := ⟨by omega⟩
    haveI : BNe h.n H1.n := ⟨by omega⟩
    haveI : BNe H1.n (h.n + 1) := ⟨by omega⟩
    haveI : BNe (h.n + 1) H1.n := ⟨by omega⟩
    haveI : BNe H2.n x := ⟨by omega⟩
    haveI : BNe H2.n H1.n := ⟨by omega⟩
    haveI : BNe x H2.n := ⟨by omega⟩
    haveI : BNe H1.n H2.n := ⟨by omega⟩
    repeat (first | refine O.one ?_ | refine O.nil ?_ | refine C.next ?_ | refine RunC.seq ?_ | refine RunC.region ?_ | refine O.one0 ?_ | refine C.nextB ?_)
    generalize hHF : ((((((H2.push (.cells (.string ⟨⟨[]⟩⟩ :: .int .i64 0 :: .int .i64 0 :: (z32 ++ (z32 ++ (z32 ++ z32)))) 0)).push (.cells [.int .i64 0, .int .i64 0] 0)).set H2.n (.cells Xh.cells 0)).set (H2.push (.cells (.string ⟨⟨[]⟩⟩ :: .int .i64 0 :: .int .i64 0 :: (z32 ++ (z32 ++ (z32 ++ z32)))) 0)).n (.cells [.int .i64 E, .int .i64 A] 0)).set x (.cells (HB Xh rest0) 0)).set H1.n (.cells [.int .i64 E, .int .i64 A] 0)) = HF
    have hmv : Fr (fun i => i = x ∨ i = H1.n) H2 HF := by
      rw [← hHF]
      exact Fr.set (Fr.set (Fr.set (Fr.set Fr.refl.push.push fun hlt => by omega) fun hlt => by simp at hlt; omega) fun _ => .inl rfl) fun _ => .inr rfl
    have hgx : HF.get x = .cells (HB Xh rest0) 0 := by rw [← hHF, Heap.get_set, if_neg (by omega), Heap.get_set, if_pos rfl]
    have hgf : HF.get H1.n = .cells [.int .i64 E, .int .i64 A] 0 := by rw [← hHF, Heap.get_set, if_pos rfl]
    clear hHF
    have B3 := B2.move hmv (by omega) hgx
    have hnHF := hmv.n
    have hlt_HF := B3.lt
    haveI : HGet HF h.n _ := ⟨B3.ga⟩
    haveI : HGet HF (h.n + 1) _ := ⟨B3.gb⟩
    haveI : HGet HF x _ := ⟨B3.gx⟩
    haveI : BLt h.n HF := ⟨by omega⟩
    haveI : BLt (h.n + 1) HF := ⟨by omega⟩
    haveI : BLt x HF := ⟨by omega⟩
    haveI : HGet HF H1.n _ := ⟨hgf⟩
    skip
    refine C.ifN (fun hc => ?_) (fun hc => ?_)
    · repeat (first | refine O.one ?_ | refine O.nil ?_ | refine C.next ?_ | refine RunC.seq ?_ | refine RunC.region ?_ | refine RunC.ret ?_ | refine O.one0 ?_ | refine C.retB ?_ | refine C.ret2 ?_ | refine loopQ.ret ?_ | refine B.ret ?_)
      have hne : ((E, A) : Int × Int) ≠ (0, 0) := fun h => hc (Prod.mk.inj h).1
      rw [decB_stop1 hy1 (by rw [pf he hne]; exact five_ne), pf he hne]
      exact ⟨_, _, rfl, .zero, Fr.set (Fr.set B3.fr fun hlt => by omega) fun hlt => by omega⟩
    · repeat (first | refine O.how (XOp.addI (by omega)) ?_ | refine O.one ?_ | refine O.nil ?_ | refine C.next ?_ | refine RunC.region ?_ | refine RunC.skip ?_ | refine C.nextB ?_)
      have hEA : ((E, A) : Int × Int) = (0, 0) := by rw [hc, hz0 hc]
      have e1 := pg he hEA
      try simp only at e1
      subst e1
      exact lr09_Decode_l0_again 2 (by omega) (.inr (.inl ⟨rfl, rfl, rfl, B3⟩))
  · have hse : y1.2.2.e = 0 := e1z hz
    obtain ⟨pl, hpl, hrr⟩ := hB.rr.ex
    obtain ⟨rfl, _⟩ := hpl hse
    haveI : HGet H p _ := ⟨hrr.get⟩
    have hlt_H := hB.lt
    haveI : HGet H h.n _ := ⟨hB.ga⟩
    haveI : HGet H (h.n + 1) _ := ⟨hB.gb⟩
    haveI : HGet H x _ := ⟨hB.gx⟩
    haveI : BLt h.n H := ⟨by omega⟩
    haveI : BLt (h.n + 1) H := ⟨by omega⟩
    haveI : BLt x H := ⟨by omega⟩
    repeat (first | refine O.one ?_ | refine O.nil ?_ | refine C.next ?_ | refine RunC.seq ?_ | refine RunC.region ?_ | refine RunC.block ?_ | refine RunC.skip ?_ | refine C.ifT ?_)
    have kb := RBytes_run (most := 65536) hB.rr
    have pb : (rd (bytesS bs 65536) [] y1.2.2).2.e ≠ 0 → y2 = (zCm, ((rd (bytesS bs 65536) [] y1.2.2).2.e, (rd (bytesS bs 65536) [] y1.2.2).2.fa), (rd (bytesS bs 65536) [] y1.2.2).2) := fun he => (hy2' hz).symm.trans (partB_bad he)
    have pf : (rd (bytesS bs 65536) [] y1.2.2).2.e = 0 → (decC (rd (bytesS bs 65536) [] y1.2.2).1).2 ≠ (0, 0) → y2 = (zCm, (5, (y1.2.2.pl : Int)), (rd (bytesS bs 65536) [] y1.2.2).2) := fun he hd => (hy2' hz).symm.trans (partB_form he hd)
    have pg : (rd (bytesS bs 65536) [] y1.2.2).2.e = 0 → (decC (rd (bytesS bs 65536) [] y1.2.2).1).2 = (0, 0) → y2 = ((decC (rd (bytesS bs 65536) [] y1.2.2).1).1, (0, 0), (rd (bytesS bs 65536) [] y1.2.2).2) := fun he hd => (hy2' hz).symm.trans (partB_good he hd)
    have hbl : (rd (bytesS bs 65536) [] y1.2.2).1.length ≤ bs.length := rd_bytes_len
    generalize (rd (bytesS bs 65536) [] y1.2.2) = b at *
    obtain ⟨l, stb⟩ := b
    refine O.call' kb (fun r H1 hr => ?_)
    obtain ⟨hf1, ⟨ho, hnew⟩, hr1⟩ := hr
    simp only at ho hr1 hbl pb pf pg
    have B1 := hB.step hf1 hr1
    have hlt_H1 := B1.lt
    haveI : HGet H1 h.n _ := ⟨B1.ga⟩
    haveI : HGet H1 (h.n + 1) _ := ⟨B1.gb⟩
    haveI : HGet H1 x _ := ⟨B1.gx⟩
    haveI : BLt h.n H1 := ⟨by omega⟩
    haveI : BLt (h.n + 1) H1 := ⟨by omega⟩
    haveI : BLt x H1 := ⟨by omega⟩
    obtain ⟨pl1, _, hrr1⟩ := hr1.ex
    haveI : HGet H1 p _ := ⟨hrr1.get⟩
    repeat (first | refine O.one ?_ | refine O.nil ?_ | refine C.next ?_ | refine RunC.seq ?_ | refine RunC.region ?_)
    refine C.ifN (fun he => ?_) (fun he => ?_)
    · repeat (first | refine RunC.seq ?_ | refine RunC.regionD ?_ | refine D.one rfl ?_)
      refine D.one0S ?_
      repeat (first | refine C.next ?_ | refine RunC.ret ?_ | refine D.nil ?_ | refine D.one0 rfl ?_ | refine C.retB ?_ | refine C.ret2 ?_ | refine loopQ.ret ?_ | refine B.ret ?_)
      rw [decB_stop2 hy1 hy2 (by rw [pb he]; exact fun h => he (Prod.mk.inj h).1), pb he]
      exact ⟨_, _, rfl, .zero, Fr.set (Fr.set B1.fr fun hlt => by omega) fun hlt => by omega⟩
    repeat (first | refine O.one ?_ | refine O.nil ?_ | refine C.next ?_ | refine RunC.seq ?_ | refine RunC.region ?_ | refine RunC.block ?_ | refine RunC.skip ?_ | refine C.ifT ?_ | refine C.ifF ?_)
    refine O.call' (RCDecode_ok ((ho.keep (S := fun _ => False) Fr.refl.push fun _ _ => id).rd) (by omega)) (fun r H2 hr => ?_)
    obtain ⟨sl, rfl, hos, hns, hf2⟩ := hr
    have hok := decC_ok l
    have hz0 := decC_zero l
    generalize decC l = D at *
    obtain ⟨Xh, E, A⟩ := D
    simp only at hok hz0 pf pg hos ⊢
    obtain ⟨asl, csl, rfl, _, _⟩ := hos.rd
    simp only [Heap.n_push] at hns
    haveI := l32 hok.1
    have hn12 := hf2.n
    simp only [Heap.n_push] at hn12
    have B2 := (B1.none (Fr.refl.push (o := .cells [.int .i64 0, .int .i64 0] 0))).none hf2
    have hlt_H2 := B2.lt
    haveI : HGet H2 h.n _ := ⟨B2.ga⟩
    haveI : HGet H2 (h.n + 1) _ := ⟨B2.gb⟩
    haveI : HGet H2 x _ := ⟨B2.gx⟩
    haveI : BLt h.n H2 := ⟨by omega⟩
    haveI : BLt (h.n + 1) H2 := ⟨by omega⟩
    haveI : BLt x H2 := ⟨by omega⟩
    haveI hF2 : HGet H2 H1.n _ := hf2.keep (b := H1.n) HGet.new (by simp) id
    haveI : BLt H1.n H2 := ⟨by omega⟩
    haveI : BNe H1.n x := ⟨by omega⟩
    haveI : BNe x H1.n := ⟨by omega⟩
    haveI : BNe H1.n h.n := ⟨by omega⟩
    haveI : BNe h.n H1.n := ⟨by omega⟩
    haveI : BNe H1.n (h.n + 1) := ⟨by omega⟩
    haveI : BNe (h.n + 1) H1.n := ⟨by omega⟩
    haveI : BNe H2.n x := ⟨by omega⟩
    haveI : BNe H2.n H1.n := ⟨by omega⟩
    haveI : BNe x H2.n := ⟨by omega⟩
    haveI : BNe H1.n H2.n := ⟨by omega⟩
    repeat (first | refine O.one ?_ | refine O.nil ?_ | refine C.next ?_ | refine RunC.seq ?_ | refine RunC.region ?_ | refine O.one0 ?_ | refine C.nextB ?_)
    generalize hHF : ((((((H2.push (.cells (.int .i64 0 :: (z32 ++ [.slice none 0 0])) 0)).push (.cells [.int .i64 0, .int .i64 0] 0)).set H2.n (.cells (Xh.cells (.slice asl Xh.votes.length csl)) 0)).set (H2.push (.cells (.int .i64 0 :: (z32 ++ [.slice none 0 0])) 0)).n (.cells [.int .i64 E, .int .i64 A] 0)).set x (.cells (HB y1.1 (.int .i64 Xh.height :: (bcells Xh.hash ++ [.slice asl Xh.votes.length csl, .slice none 0 0]))) 0)).set H1.n (.cells [.int .i64 E, .int .i64 A] 0)) = HF
    have hmv : Fr (fun i => i = x ∨ i = H1.n) H2 HF := by
      rw [← hHF]
      exact Fr.set (Fr.set (Fr.set (Fr.set Fr.refl.push.push fun hlt => by omega) fun hlt => by simp at hlt; omega) fun _ => .inl rfl) fun _ => .inr rfl
    have hgx : HF.get x = .cells (HB y1.1 (.int .i64 Xh.height :: (bcells Xh.hash ++ [.slice asl Xh.votes.length csl, .slice none 0 0]))) 0 := by rw [← hHF, Heap.get_set, if_neg (by omega), Heap.get_set, if_pos rfl]
    have hgf : HF.get H1.n = .cells [.int .i64 E, .int .i64 A] 0 := by rw [← hHF, Heap.get_set, if_pos rfl]
    clear hHF
    have B3 := B2.move hmv (by omega) hgx
    have hnHF := hmv.n
    have hlt_HF := B3.lt
    haveI : HGet HF h.n _ := ⟨B3.ga⟩
    haveI : HGet HF (h.n + 1) _ := ⟨B3.gb⟩
    haveI : HGet HF x _ := ⟨B3.gx⟩
    haveI : BLt h.n HF := ⟨by omega⟩
    haveI : BLt (h.n + 1) HF := ⟨by omega⟩
    haveI : BLt x HF := ⟨by omega⟩
    haveI : HGet HF H1.n _ := ⟨hgf⟩
    skip
    refine C.ifN (fun hc => ?_) (fun hc => ?_)
    · repeat (first | refine O.one ?_ | refine O.nil ?_ | refine C.next ?_ | refine RunC.seq ?_ | refine RunC.region ?_ | refine RunC.ret ?_ | refine O.one0 ?_ | refine C.retB ?_ | refine C.ret2 ?_ | refine loopQ.ret ?_ | refine B.ret ?_)
      have hne : ((E, A) : Int × Int) ≠ (0, 0) := fun h => hc (Prod.mk.inj h).1
      rw [decB_stop2 hy1 hy2 (by rw [pf he hne]; exact five_ne), pf he hne]
      exact ⟨_, _, rfl, .zero, Fr.set (Fr.set B3.fr fun hlt => by omega) fun hlt => by omega⟩
    · repeat (first | refine O.how (XOp.addI (by omega)) ?_ | refine O.one ?_ | refine O.nil ?_ | refine C.next ?_ | refine RunC.region ?_ | refine RunC.skip ?_ | refine C.nextB ?_)
      have hEA : ((E, A) : Int × Int) = (0, 0) := by rw [hc, hz0 hc]
      have e1 := pg he hEA
      try simp only at e1
      subst e1
      exact lr09_Decode_l0_again 1 (by omega) (.inr (.inr (.inl ⟨rfl, rfl, rfl, _, hos.keep hmv fun i hi h => (by have := hns i hi; omega), fun i hi => (by have := hns i hi; omega), B3⟩)))
  · obtain ⟨av, cv, rfl, _, _⟩ := hov.rd
    have hse : y2.2.2.e = 0 := e2z hz
    obtain ⟨pl, hpl, hrr⟩ := hB.rr.ex
    obtain ⟨rfl, _⟩ := hpl hse
    haveI : HGet H p _ := ⟨hrr.get⟩
    have hlt_H := hB.lt
    haveI : HGet H h.n _ := ⟨hB.ga⟩
    haveI : HGet H (h.n + 1) _ := ⟨hB.gb⟩
    haveI : HGet H x _ := ⟨hB.gx⟩
    haveI : BLt h.n H := ⟨by omega⟩
    haveI : BLt (h.n + 1) H := ⟨by omega⟩
    haveI : BLt x H := ⟨by omega⟩
    repeat (first | refine O.one ?_ | refine O.nil ?_ | refine C.next ?_ | refine RunC.seq ?_ | refine RunC.region ?_ | refine RunC.block ?_ | refine RunC.skip ?_ | refine C.ifT ?_)
    have kb := RBytes_run (most := 65536) hB.rr
    have pb : (rd (bytesS bs 65536) [] y2.2.2).2.e ≠ 0 → y3 = ([], ((rd (bytesS bs 65536) [] y2.2.2).2.e, (rd (bytesS bs 65536) [] y2.2.2).2.fa), (rd (bytesS bs 65536) [] y2.2.2).2) := fun he => (hy3' hz).symm.trans (partB_bad he)
    have pf : (rd (bytesS bs 65536) [] y2.2.2).2.e = 0 → (decV (rd (bytesS bs 65536) [] y2.2.2).1).2 ≠ (0, 0) → y3 = ([], (5, (y2.2.2.pl : Int)), (rd (bytesS bs 65536) [] y2.2.2).2) := fun he hd => (hy3' hz).symm.trans (partB_form he hd)
    have pg : (rd (bytesS bs 65536) [] y2.2.2).2.e = 0 → (decV (rd (bytesS bs 65536) [] y2.2.2).1).2 = (0, 0) → y3 = ((decV (rd (bytesS bs 65536) [] y2.2.2).1).1, (0, 0), (rd (bytesS bs 65536) [] y2.2.2).2) := fun he hd => (hy3' hz).symm.trans (partB_good he hd)
    have hbl : (rd (bytesS bs 65536) [] y2.2.2).1.length ≤ bs.length := rd_bytes_len
    generalize (rd (bytesS bs 65536) [] y2.2.2) = b at *
    obtain ⟨l, stb⟩ := b
    refine O.call' kb (fun r H1 hr => ?_)
    obtain ⟨hf1, ⟨ho, hnew⟩, hr1⟩ := hr
    simp only at ho hr1 hbl pb pf pg
    have B1 := hB.step hf1 hr1
    have hlt_H1 := B1.lt
    haveI : HGet H1 h.n _ := ⟨B1.ga⟩
    haveI : HGet H1 (h.n + 1) _ := ⟨B1.gb⟩
    haveI : HGet H1 x _ := ⟨B1.gx⟩
    haveI : BLt h.n H1 := ⟨by omega⟩
    haveI : BLt (h.n + 1) H1 := ⟨by omega⟩
    haveI : BLt x H1 := ⟨by omega⟩
    obtain ⟨pl1, _, hrr1⟩ := hr1.ex
    haveI : HGet H1 p _ := ⟨hrr1.get⟩
    repeat (first | refine O.one ?_ | refine O.nil ?_ | refine C.next ?_ | refine RunC.seq ?_ | refine RunC.region ?_)
    refine C.ifN (fun he => ?_) (fun he => ?_)
    · repeat (first | refine RunC.seq ?_ | refine RunC.regionD ?_ | refine D.one rfl ?_)
      refine D.one0S ?_
      repeat (first | refine C.next ?_ | refine RunC.ret ?_ | refine D.nil ?_ | refine D.one0 rfl ?_ | refine C.retB ?_ | refine C.ret2 ?_ | refine loopQ.ret ?_ | refine B.ret ?_)
      rw [decB_stop3 hy1 hy2 hy3 (by rw [pb he]; exact fun h => he (Prod.mk.inj h).1), pb he]
      exact ⟨_, _, rfl, .zero, Fr.set (Fr.set B1.fr fun hlt => by omega) fun hlt => by omega⟩
    repeat (first | refine O.one ?_ | refine O.nil ?_ | refine C.next ?_ | refine RunC.seq ?_ | refine RunC.region ?_ | refine RunC.block ?_ | refine RunC.skip ?_ | refine C.ifF ?_)
    refine O.call' (RVDecode_ok ((ho.keep (S := fun _ => False) Fr.refl.push fun _ _ => id).rd) (by omega)) (fun r H2 hr => ?_)
    obtain ⟨sl, rfl, hos, hns, hf2⟩ := hr
    have hok := decV_len l
    have hz0 := decV_zero l
    generalize decV l = D at *
    obtain ⟨Xh, E, A⟩ := D
    simp only at hok hz0 pf pg hos ⊢
    obtain ⟨asl, csl, rfl, _, _⟩ := hos.rd
    simp only [Heap.n_push] at hns
    have hn12 := hf2.n
    simp only [Heap.n_push] at hn12
    have B2 := (B1.none (Fr.refl.push (o := .cells [.int .i64 0, .int .i64 0] 0))).none hf2
    have hlt_H2 := B2.lt
    haveI : HGet H2 h.n _ := ⟨B2.ga⟩
    haveI : HGet H2 (h.n + 1) _ := ⟨B2.gb⟩
    haveI : HGet H2 x _ := ⟨B2.gx⟩
    haveI : BLt h.n H2 := ⟨by omega⟩
    haveI : BLt (h.n + 1) H2 := ⟨by omega⟩
    haveI : BLt x H2 := ⟨by omega⟩
    haveI hF2 : HGet H2 H1.n _ := hf2.keep (b := H1.n) HGet.new (by simp) id
    haveI : BLt H1.n H2 := ⟨by omega⟩
    haveI : BNe H1.n x := ⟨by omega⟩
    haveI : BNe x H1.n := ⟨by omega⟩
    haveI : BNe H1.n h.n := ⟨by omega⟩
    haveI : BNe h.n H1.n := ⟨by omega⟩
    haveI : BNe H1.n (h.n + 1) := ⟨by omega⟩
    haveI : BNe (h.n + 1) H1.n := ⟨by omega⟩
    haveI : BNe H2.n x := ⟨by omega⟩
    haveI : BNe H2.n H1.n := ⟨by omega⟩
    haveI : BNe x H2.n := ⟨by omega⟩
    haveI : BNe H1.n H2.n := ⟨by omega⟩
    repeat (first | refine O.one ?_ | refine O.nil ?_ | refine C.next ?_ | refine RunC.seq ?_ | refine RunC.region ?_ | refine O.one0 ?_ | refine C.nextB ?_)
    generalize hHF : (((H2.push (.cells [.int .i64 E, .int .i64 A] 0)).set x (.cells (Bk.cells ⟨y1.1, y2.1, Xh⟩ (.slice av y2.1.votes.length cv) (.slice asl Xh.length csl)) 0)).set H1.n (.cells [.int .i64 E, .int .i64 A] 0)) = HF
    have hmv : Fr (fun i => i = x ∨ i = H1.n) H2 HF := by
      rw [← hHF]
      exact Fr.set (Fr.set Fr.refl.push fun _ => .inl rfl) fun _ => .inr rfl
    have hgx : HF.get x = .cells (Bk.cells ⟨y1.1, y2.1, Xh⟩ (.slice av y2.1.votes.length cv) (.slice asl Xh.length csl)) 0 := by rw [← hHF, Heap.get_set, if_neg (by omega), Heap.get_set, if_pos rfl]
    have hgf : HF.get H1.n = .cells [.int .i64 E, .int .i64 A] 0 := by rw [← hHF, Heap.get_set, if_pos rfl]
    clear hHF
    have B3 := B2.move hmv (by omega) hgx
    have hnHF := hmv.n
    have hlt_HF := B3.lt
    haveI : HGet HF h.n _ := ⟨B3.ga⟩
    haveI : HGet HF (h.n + 1) _ := ⟨B3.gb⟩
    haveI : HGet HF x _ := ⟨B3.gx⟩
    haveI : BLt h.n HF := ⟨by omega⟩
    haveI : BLt (h.n + 1) HF := ⟨by omega⟩
    haveI : BLt x HF := ⟨by omega⟩
    haveI : HGet HF H1.n _ := ⟨hgf⟩
    skip
    refine C.ifN (fun hc => ?_) (fun hc => ?_)
    · repeat (first | refine O.one ?_ | refine O.nil ?_ | refine C.next ?_ | refine RunC.seq ?_ | refine RunC.region ?_ | refine RunC.ret ?_ | refine O.one0 ?_ | refine C.retB ?_ | refine C.ret2 ?_ | refine loopQ.ret ?_ | refine B.ret ?_)
      have hne : ((E, A) : Int × Int) ≠ (0, 0) := fun h => hc (Prod.mk.inj h).1
      rw [decB_stop3 hy1 hy2 hy3 (by rw [pf he hne]; exact five_ne), pf he hne]
      exact ⟨_, _, rfl, .zero, Fr.set (Fr.set B3.fr fun hlt => by omega) fun hlt => by omega⟩
    · repeat (first | refine O.how (XOp.addI (by omega)) ?_ | refine O.one ?_ | refine O.nil ?_ | refine C.next ?_ | refine RunC.region ?_ | refine RunC.skip ?_ | refine C.nextB ?_)
      have hEA : ((E, A) : Int × Int) = (0, 0) := by rw [hc, hz0 hc]
      have e1 := pg he hEA
      try simp only at e1
      subst e1
      have hov2 : Own H2 2 (.slice av y2.1.votes.length cv) (tcells y2.1.votes) y2.1.votes.length := ((hov.keep hf1 fun i hi h => (by have := hnv i hi; omega)).keep (S := fun _ => False) Fr.refl.push fun _ _ => id).keep hf2 fun _ _ => id
      refine lr09_Decode_l0_again 0 (by omega) (.inr (.inr (.inr ⟨rfl, rfl, rfl, _, _, ⟨hov2.keep hmv fun i hi h => ?_, hos.keep hmv fun i hi h => (by have := hns i hi; omega), fun i hi => (by have := hnv i hi; omega), fun i hi => (by have := hns i hi; omega), fun i hi hl => ?_⟩, B3⟩)))
      · have := hnv i hi
        have := (hov.lt hi)
        have := hf1.n
        omega
      · have := hns i hl
        have := (hov.lt hi)
        have := hf1.n
        omega
  · have hse : y3.2.2.e = 0 := e3z hz
    obtain ⟨av, cv, rfl, _, _⟩ := hO.votes.rd
    obtain ⟨al, cl, rfl, _, _⟩ := hO.vals.rd
    have hlt_H := hB.lt
    haveI : HGet H h.n _ := ⟨hB.ga⟩
    haveI : HGet H (h.n + 1) _ := ⟨hB.gb⟩
    haveI : HGet H x _ := ⟨hB.gx⟩
    haveI : BLt h.n H := ⟨by omega⟩
    haveI : BLt (h.n + 1) H := ⟨by omega⟩
    haveI : BLt x H := ⟨by omega⟩
    repeat (first | refine O.one ?_ | refine O.nil ?_ | refine C.next ?_ | refine RunC.seq ?_ | refine RunC.region ?_ | refine RunC.exit ?_ | refine C.exit2 ?_ | refine C.exitB ?_ | refine loopQ.exit ?_ | refine C.ifF ?_)
    have kE := REnd_run hB.rr
    have hzz := hB.rr.zero
    have hfin := decB_fin hy1 hy2 hy3 hz
    rw [hfin]
    clear hfin
    generalize endS bs y3.2.2 = F at *
    obtain ⟨E, A⟩ := F
    simp only at hzz
    refine O.call' kE (fun r H1 hr => ?_)
    obtain ⟨rfl, hf1⟩ := hr
    have B1 := hB.none hf1
    have hlt_H1 := B1.lt
    haveI : HGet H1 h.n _ := ⟨B1.ga⟩
    haveI : HGet H1 (h.n + 1) _ := ⟨B1.gb⟩
    haveI : HGet H1 x _ := ⟨B1.gx⟩
    haveI : BLt h.n H1 := ⟨by omega⟩
    haveI : BLt (h.n + 1) H1 := ⟨by omega⟩
    haveI : BLt x H1 := ⟨by omega⟩
    haveI : BNe H1.n h.n := ⟨by omega⟩
    haveI : BNe H1.n (h.n + 1) := ⟨by omega⟩
    haveI : BNe H1.n x := ⟨by omega⟩
    haveI : BNe h.n H1.n := ⟨by omega⟩
    haveI : BNe (h.n + 1) H1.n := ⟨by omega⟩
    haveI : BNe x H1.n := ⟨by omega⟩
    repeat (first | refine O.one ?_ | refine O.nil ?_ | refine C.next ?_ | refine RunC.seq ?_ | refine RunC.region ?_ | refine O.one0 ?_)
    refine C.ifN (fun hc => ?_) (fun hc => ?_)
    · repeat (first | refine C.next ?_ | refine RunC.seq ?_ | refine RunC.ret ?_ | refine RunC.regionD ?_ | refine D.one rfl ?_ | refine D.nil ?_ | refine D.one0 rfl ?_ | refine D.one0s ?_ | refine C.ret2 ?_ | refine B.ret ?_)
      rw [if_neg (fun h => hc (Prod.mk.inj h).1)]
      exact ⟨_, _, rfl, .zero, Fr.set (Fr.set B1.fr.push fun hlt => by omega) fun hlt => by omega⟩
    · obtain rfl := hc
      obtain rfl := hzz rfl
      repeat (first | refine C.next ?_ | refine RunC.seq ?_ | refine RunC.skip ?_ | refine RunC.ret ?_ | refine RunC.regionD ?_ | refine D.one rfl ?_ | refine D.nil ?_ | refine D.one0 rfl ?_ | refine D.one0s ?_ | refine B.ret ?_)
      rw [if_pos rfl]
      refine ⟨_, _, rfl, BkOwn.lower' (BkOwn.keep (S := fun i => i = h.n ∨ i = h.n + 1) hO (Fr.set (Fr.set (Fr.trans (S := fun i => i = h.n ∨ i = h.n + 1) (hf1.mono fun _ _ h => h.elim) Fr.refl.push fun _ _ h => h) fun _ => .inl rfl) fun _ => .inr rfl) fun i hi => .inl (by omega)) (by omega), Fr.set (Fr.set B1.fr.push fun hlt => by omega) fun hlt => by omega⟩
end Go.Proofs.YtfpnmcogfamhaaaGreat.A

namespace Go.Proofs.YtfpnmcogfamhaaaGreat.A
open Go Go.Vm
set_option maxRecDepth 10000
set_option linter.unusedVariables false

theorem SameVotes_same {h : Heap} {v w : Value} {l : List Vote} (hv : Rd h 2 v (tcells l) l.length) (hw : Rd h 2 w (tcells l) l.length) (hs : l.length < 1048576) :
    Runs Tryz.prog T0 (.fn fn_lk_SameVotes) [v, w] h (fun r h' => r = .bool true ∧ h' = h) (fun _ _ => False) := by
  obtain ⟨a, cap, rfl, hlen, hc⟩ := hv
  obtain ⟨a', cap', rfl, hlen', hc'⟩ := hw
  refine lk_SameVotes_runs ?_
  repeat (first | refine O.one ?_ | refine O.nil ?_ | refine C.next ?_ | refine RunC.seq ?_ | refine RunC.region ?_ | refine RunC.block ?_)
  refine lk_SameVotes_l0_rule (fun m v5 v6 h' => ∃ k : Nat, k ≤ l.length ∧ m = l.length - k ∧ v6 = .int .i64 k ∧ v5 = .bool true ∧ h' = h) ?_ l.length ⟨0, by omega, rfl, rfl, by simp, rfl⟩
  rintro m v5 v6 h' x12 x13 x14 x15 x16 x17 x18 x19 x20 x21 x22 x23 x24 x25 x26 x27 x28 x29 ⟨k, hk, rfl, rfl, rfl, rfl⟩
  repeat (first | refine O.one ?_ | refine O.nil ?_ | refine C.next ?_ | refine RunC.seq ?_ | refine RunC.region ?_ | refine O.oneT ?_)
  refine C.if (fun hlt => ?_) (fun hge => ?_)
  · have hlt : k < l.length := by omega
    obtain ⟨b, o, sp, rfl, hb, hcc⟩ := hc (by omega)
    obtain ⟨b', o', sp', rfl, hb', hcc'⟩ := hc' (by omega)
    haveI := vote_cells hcc rfl hlt
    haveI := vote_cells hcc' rfl hlt
    repeat (first | refine O.how (XOp.addI (by omega)) ?_ | refine O.one ?_ | refine O.nil ?_ | refine C.next ?_ | refine RunC.seq ?_ | refine RunC.region ?_ | refine RunC.block ?_ | refine RunC.skip ?_ | refine RunC.regionD ?_ | refine D.one rfl ?_ | refine D.nil ?_ | refine C.nextB ?_ | refine D.how (XOp.mkIndexSl (by omega)) rfl ?_)
    rw [same_self]
    exact lk_SameVotes_l0_again (l.length - (k + 1)) (by omega) ⟨k + 1, by omega, rfl, rfl, rfl, rfl⟩
  · repeat (first | refine O.one ?_ | refine O.nil ?_ | refine C.next ?_ | refine RunC.seq ?_ | refine RunC.region ?_ | refine RunC.exit ?_ | refine RunC.ret ?_ | refine C.exit2 ?_ | refine C.exitB ?_ | refine loopQ.exit ?_ | refine B.ret ?_)
    exact ⟨rfl, rfl⟩

theorem SameCommit_same {h : Heap} {x : Cm} {sv sw : Value} (hl : x.hash.length = 32) (hs : x.votes.length < 1048576) (hv : Rd h 2 sv (tcells x.votes) x.votes.length) (hw : Rd h 2 sw (tcells x.votes) x.votes.length) :
    Runs Tryz.prog T0 (.fn fn_lk_SameCommit) [.agg ⟨x.cells sv⟩, .agg ⟨x.cells sw⟩] h (fun r h' => r = .bool true ∧ Fr (fun _ => False) h h') (fun _ _ => False) := by
  haveI := l32 hl
  refine lk_SameCommit_runs ?_
  repeat (first | refine O.one ?_ | refine O.nil ?_ | refine C.next ?_ | refine RunC.seq ?_ | refine RunC.region ?_)
  refine O.dec (fun _ => ?_) (fun hh => absurd rfl hh)
  repeat (first | refine O.one ?_ | refine O.oneT ?_)
  rw [same_self]
  repeat (first | refine O.oneT ?_)
  refine O.callT (SameVotes_same (hv.keep (S := fun _ => False) Fr.refl.push.push fun _ _ => id) (hw.keep (S := fun _ => False) Fr.refl.push.push fun _ _ => id) hs) (fun r h1 hr => ?_)
  obtain ⟨rfl, rfl⟩ := hr
  repeat (first | refine O.one ?_ | refine O.nil ?_ | refine C.next ?_ | refine RunC.ret ?_ | refine B.ret ?_)
  exact ⟨rfl, Fr.refl.push.push⟩

theorem SameBlock_same {h : Heap} {x : Bk} {sv sl sw sm : Value} (hx : x.ok) (hv : Rd h 2 sv (tcells x.c.votes) x.c.votes.length) (hl : Rd h 5 sl (vcells x.vals) x.vals.length) (hw : Rd h 2 sw (tcells x.c.votes) x.c.votes.length) (hm : Rd h 5 sm (vcells x.vals) x.vals.length) :
    Runs Tryz.prog T0 (.fn fn_lk_SameBlock) [.agg ⟨x.cells sv sl⟩, .agg ⟨x.cells sw sm⟩] h (fun r h' => r = .bool true ∧ Fr (fun _ => False) h h') (fun _ _ => False) := by
  haveI := l32 hx.h.prev
  haveI := l32 hx.h.vals
  haveI := l32 hx.h.next
  haveI := l32 hx.h.app
  haveI := l32 hx.hash
  have hvo := hx.votes
  have hva := hx.vals
  refine lk_SameBlock_runs ?_
  repeat (first | refine O.one ?_ | refine O.nil ?_ | refine C.next ?_ | refine RunC.seq ?_ | refine RunC.region ?_)
  generalize hh0 : (h.push (.cells (x.cells sv sl) 0)).push (.cells (x.cells sw sm) 0) = h0
  generalize hb : (h.push (.cells (x.cells sv sl) 0)).n = b
  have hf0 : Fr (fun _ => False) h h0 := by rw [← hh0]; exact Fr.refl.push.push
  have hA : HGet h0 h.n (.cells (x.cells sv sl) 0) := by rw [← hh0]; exact HGet.push (k := BLt.new) (g := HGet.new)
  have hB : HGet h0 b (.cells (x.cells sw sm) 0) := by rw [← hh0, ← hb]; exact HGet.new
  have hb' : b = h.n + 1 := by rw [← hb]; rfl
  have hn0 : h0.n = h.n + 2 := by rw [← hh0]; rfl
  clear hh0 hb
  haveI := hA
  haveI := hB
  rw [same_self]
  repeat (first | refine O.oneT ?_)
  refine O.callT (SameCommit_same hx.hash (by omega) (hv.keep hf0 fun _ _ => id) (hw.keep hf0 fun _ _ => id)) (fun r h1 hr => ?_)
  obtain ⟨rfl, hf1⟩ := hr
  haveI := hf1.keep hA (by omega) id
  haveI := hf1.keep hB (by omega) id
  have hf01 := hf0.trans' hf1
  repeat (first | refine O.one ?_ | refine O.oneT ?_)
  refine O.callT (SameVals_same (hl.keep hf01 fun _ _ => id) (hm.keep hf01 fun _ _ => id) (by omega)) (fun r h2 hr => ?_)
  obtain ⟨rfl, rfl⟩ := hr
  repeat (first | refine O.one ?_ | refine O.nil ?_ | refine C.next ?_ | refine RunC.ret ?_ | refine B.ret ?_)
  exact ⟨rfl, hf01⟩

theorem SameMsg_same {h : Heap} {x : Ms} {sv sl sw sm : Value} (hx : x.b.ok) (hv : Rd h 2 sv (tcells x.b.c.votes) x.b.c.votes.length) (hl : Rd h 5 sl (vcells x.b.vals) x.b.vals.length) (hw : Rd h 2 sw (tcells x.b.c.votes) x.b.c.votes.length) (hm : Rd h 5 sm (vcells x.b.vals) x.b.vals.length) :
    Runs Tryz.prog T0 (.fn fn_lk_SameMsg) [.agg ⟨x.cells sv sl⟩, .agg ⟨x.cells sw sm⟩] h (fun r h' => r = .bool true ∧ Fr (fun _ => False) h h') (fun _ _ => False) := by
  haveI := l32 hx.h.prev
  haveI := l32 hx.h.vals
  haveI := l32 hx.h.next
  haveI := l32 hx.h.app
  haveI := l32 hx.hash
  refine lk_SameMsg_runs ?_
  repeat (first | refine O.one ?_ | refine O.nil ?_ | refine C.next ?_ | refine RunC.seq ?_ | refine RunC.region ?_)
  refine O.dec (fun _ => ?_) (fun hh => absurd rfl hh)
  repeat (first | refine O.one ?_ | refine O.oneT ?_)
  rw [same_self]
  repeat (first | refine O.one ?_ | refine O.oneT ?_)
  refine O.dec (fun _ => ?_) (fun hh => absurd rfl hh)
  repeat (first | refine O.oneT ?_)
  have hf0 : ∀ {o1 o2 : AObj}, Fr (fun _ => False) h ((h.push o1).push o2) := Fr.refl.push.push
  refine O.callT (SameBlock_same hx (hv.keep hf0 fun _ _ => id) (hl.keep hf0 fun _ _ => id) (hw.keep hf0 fun _ _ => id) (hm.keep hf0 fun _ _ => id)) (fun r h1 hr => ?_)
  obtain ⟨rfl, hf1⟩ := hr
  repeat (first | refine O.one ?_ | refine O.nil ?_ | refine C.next ?_ | refine RunC.ret ?_ | refine B.ret ?_)
  exact ⟨rfl, hf0.trans' hf1⟩

theorem OverCommit_ok {h : Heap} {x : Cm} {sv : Value} {c : List Value} {n : Nat} (hl : x.hash.length = 32) (ho : Own h 2 sv c n) (hs : n < 1048576) :
    Runs Tryz.prog T0 (.fn fn_lk_OverCommit) [.agg ⟨x.cells sv⟩] h (fun r h' => Fr (ownedBy sv) h h') (fun _ _ => False) := by
  haveI := l32 hl
  refine lk_OverCommit_runs ?_
  cases ho with
  | none =>
    repeat (first | refine O.one ?_ | refine O.nil ?_ | refine C.next ?_ | refine RunC.seq ?_ | refine RunC.region ?_ | refine RunC.block ?_)
    refine lk_OverCommit_l0_rule (fun m v2 h' => v2 = .int .i64 0 ∧ h' = h.push (.cells (x.cells (.slice none 0 0)) 0)) ?_ 0 ⟨rfl, rfl⟩
    rintro m v2 h' x3 x4 x5 x6 x7 x8 x9 x10 x11 x12 x13 x14 ⟨rfl, rfl⟩
    repeat (first | refine O.one ?_ | refine O.nil ?_ | refine C.next ?_ | refine RunC.seq ?_ | refine RunC.region ?_ | refine RunC.exit ?_ | refine C.exit2 ?_ | refine C.exitB ?_ | refine loopQ.exit ?_ | refine C.ifF ?_ | refine B.end ?_)
    exact Fr.refl.push
  | lit hq hg =>
    rename_i q es
    repeat (first | refine O.one ?_ | refine O.nil ?_ | refine C.next ?_ | refine RunC.seq ?_ | refine RunC.region ?_ | refine RunC.block ?_)
    refine lk_OverCommit_l0_rule (fun m v2 h' => v2 = .int .i64 0 ∧ h' = h.push (.cells (x.cells (.slice (some ⟨q, 0, none⟩) 0 0)) 0)) ?_ 0 ⟨rfl, rfl⟩
    rintro m v2 h' x3 x4 x5 x6 x7 x8 x9 x10 x11 x12 x13 x14 ⟨rfl, rfl⟩
    repeat (first | refine O.one ?_ | refine O.nil ?_ | refine C.next ?_ | refine RunC.seq ?_ | refine RunC.region ?_ | refine RunC.exit ?_ | refine C.exit2 ?_ | refine C.exitB ?_ | refine loopQ.exit ?_ | refine C.ifF ?_ | refine B.end ?_)
    exact Fr.refl.push
  | grown hq hn hle hl2 hl3 hg =>
    rename_i q kk cap j
    repeat (first | refine O.one ?_ | refine O.nil ?_ | refine C.next ?_ | refine RunC.seq ?_ | refine RunC.region ?_ | refine RunC.block ?_)
    refine lk_OverCommit_l0_rule (fun m v2 h' => ∃ k : Nat, k ≤ n ∧ m = n - k ∧ v2 = .int .i64 k ∧ (∃ cs, h'.get q = .cells cs 2 ∧ cs.length = cap * 2) ∧ h'.get h.n = .cells (x.cells (.slice (some ⟨q, 0, some kk⟩) n cap)) 0 ∧ Fr (ownedBy (.slice (some ⟨q, 0, some kk⟩) n cap)) h h') ?_ n ⟨0, by omega, rfl, rfl, ⟨_, by rw [Heap.get_push, if_neg (by omega), hg], hl3⟩, by rw [Heap.get_push, if_pos rfl], Fr.refl.push⟩
    rintro m v2 h' x3 x4 x5 x6 x7 x8 x9 x10 x11 x12 x13 x14 ⟨k, hk, rfl, rfl, ⟨cs, hg', hcs⟩, hgb, hf⟩
    haveI : HGet h' q _ := ⟨hg'⟩
    haveI : HGet h' h.n _ := ⟨hgb⟩
    repeat (first | refine O.one ?_ | refine O.nil ?_ | refine C.next ?_ | refine RunC.seq ?_ | refine RunC.region ?_)
    refine C.if (fun hlt => ?_) (fun hge => ?_)
    · repeat (first | refine O.one ?_ | refine C.next ?_ | refine RunC.seq ?_ | refine RunC.region ?_ | refine RunC.block ?_ | refine RunC.skip ?_ | refine O.how (XOp.mkIndexSl (by omega)) ?_)
      refine O.by0 (mkStoreN (xs := [.int .i64 (-7), .int .u64 0]) (c := cs) (r := q) (es := 2) (by simp; omega) rfl rfl) rfl ?_
      repeat (first | refine O.how (XOp.addI (by omega)) ?_ | refine O.one ?_ | refine O.nil ?_ | refine C.next ?_ | refine RunC.region ?_ | refine C.nextB ?_)
      refine lk_OverCommit_l0_again (n - (k + 1)) (by omega) ⟨k + 1, by omega, rfl, rfl, ⟨_, by rw [Heap.get_set, if_pos rfl], ?_⟩, by rw [Heap.get_set, if_neg (by omega), hgb], Fr.set hf fun _ => rfl⟩
      rw [over_length _ _ _ (by simp; omega), hcs]
    · repeat (first | refine RunC.exit ?_ | refine C.exit2 ?_ | refine C.exitB ?_ | refine loopQ.exit ?_ | refine B.end ?_)
      exact hf

theorem OverBlock_ok {h : Heap} {lo : Nat} {x : Bk} {sv sl : Value} (hx : x.ok) (hb : BkOwn h lo x sv sl) :
    Runs Tryz.prog T0 (.fn fn_lk_OverBlock) [.agg ⟨x.cells sv sl⟩] h (fun r h' => Fr (fun i => lo ≤ i) h h') (fun _ _ => False) := by
  haveI := l32 hx.h.prev
  haveI := l32 hx.h.vals
  haveI := l32 hx.h.next
  haveI := l32 hx.h.app
  haveI := l32 hx.hash
  have hvo := hx.votes
  have hva := hx.vals
  have hlv := fun {i : Nat} (hi : ownedBy sv i) => hb.votes.lt hi
  have hll := fun {i : Nat} (hi : ownedBy sl i) => hb.vals.lt hi
  refine lk_OverBlock_runs ?_
  repeat (first | refine O.one ?_ | refine O.nil ?_ | refine C.next ?_ | refine RunC.seq ?_ | refine RunC.region ?_)
  refine O.call' (OverVals_ok (hb.vals.keep (S := fun _ => False) Fr.refl.push fun _ _ => id) (by omega)) (fun r h1 hr => ?_)
  have hf1 := hr
  have hn1 := hf1.n
  simp only [Heap.n_push] at hn1
  haveI hA := hf1.keep (b := h.n) (HGet.new (h := h) (o := .cells (x.cells sv sl) 0)) (by simp) (fun hi => by have := hll hi; omega)
  repeat (first | refine O.one ?_ | refine O.nil ?_ | refine C.next ?_ | refine RunC.region ?_)
  refine O.call' (OverCommit_ok hx.hash ((hb.votes.keep (S := fun _ => False) Fr.refl.push fun _ _ => id).keep hf1 hb.apart) (by omega)) (fun r h2 hr => ?_)
  have hf2 := hr
  repeat (first | refine O.nil ?_ | refine B.end ?_)
  refine Fr.trans (S := fun i => lo ≤ i) (Fr.trans (S := fun i => lo ≤ i) Fr.refl.push hf1 fun i _ hi => hb.lnew i hi) hf2 fun i _ hi => hb.vnew i hi
end Go.Proofs.YtfpnmcogfamhaaaGreat.A

namespace Go.Proofs.YtfpnmcogfamhaaaGreat.A
open Go Go.Vm
set_option maxRecDepth 10000
set_option linter.unusedVariables false
structure QSt (h H : Heap) (p x : Nat) (svr : Value) (bs : List UInt8) (c : List Value) (st : RSt) : Prop where
  ga : H.get h.n = .cells zMc 0
  gb : H.get (h.n + 1) = .cells [.int .i64 0, .int .i64 0] 0
  gx : H.get x = .cells c 0
  rr : RRs H p svr bs st
  fr : Fr (fun _ => False) h H
  lo : h.n + 2 ≤ p
  hi : p < x
  lt : x < H.n
  own : ∀ i, ownedBy svr i → h.n + 2 ≤ i ∧ i < x
theorem QSt.step {h H H' : Heap} {p x : Nat} {svr : Value} {bs : List UInt8} {c : List Value} {st st' : RSt} (hs : QSt h H p x svr bs c st) (hf : Fr (fun i => i = p) H H') (hr : RRs H' p svr bs st') : QSt h H' p x svr bs c st' := by
  have h1 := hs.lo
  have h2 := hs.hi
  have h3 := hs.lt
  have h4 := hf.n
  exact ⟨by rw [hf.get _ (by omega) (by omega)]; exact hs.ga, by rw [hf.get _ (by omega) (by omega)]; exact hs.gb, by rw [hf.get _ (by omega) (by omega)]; exact hs.gx, hr, Fr.trans (S := fun _ => False) hs.fr hf fun i hi h => by omega, h1, h2, by omega, hs.own⟩
theorem QSt.none {h H H' : Heap} {p x : Nat} {svr : Value} {bs : List UInt8} {c : List Value} {st : RSt} (hs : QSt h H p x svr bs c st) (hf : Fr (fun _ => False) H H') : QSt h H' p x svr bs c st := hs.step (hf.mono fun _ _ h => h.elim) (hs.rr.none hf)
theorem QSt.move {h H H' : Heap} {p x f : Nat} {svr : Value} {bs : List UInt8} {c c' : List Value} {st : RSt} (hs : QSt h H p x svr bs c st) (hf : Fr (fun i => i = x ∨ i = f) H H') (hfl : x < f) (hx : H'.get x = .cells c' 0) : QSt h H' p x svr bs c' st := by
  have h1 := hs.lo
  have h2 := hs.hi
  have h3 := hs.lt
  have h4 := hf.n
  exact ⟨by rw [hf.get _ (by omega) (by omega)]; exact hs.ga, by rw [hf.get _ (by omega) (by omega)]; exact hs.gb, hx, hs.rr.keep hf (by omega) fun i hi h => (by have := (hs.own i hi).2; omega), Fr.trans (S := fun _ => False) hs.fr hf fun i hi h => by omega, h1, h2, by omega, hs.own⟩
theorem QSt.setx {h H : Heap} {p x : Nat} {svr : Value} {bs : List UInt8} {c c' : List Value} {st : RSt} (hs : QSt h H p x svr bs c st) : QSt h (H.set x (.cells c' 0)) p x svr bs c' st :=
  hs.move (f := x + 1) (Fr.refl.set fun _ => .inl rfl) (by omega) (by rw [Heap.get_set, if_pos rfl])
theorem rd_stop {α : Type} {S : Nat → Except Int (α × Nat)} {z : α} {st : RSt} (h : st.e ≠ 0) : rd S z st = (z, st) := by
  unfold rd
  rw [if_neg h]
theorem rd_zero {α : Type} {S : Nat → Except Int (α × Nat)} {z : α} {st : RSt} (h : (rd S z st).2.e ≠ 0) : (rd S z st).1 = z := by
  unfold rd at h ⊢
  by_cases h0 : st.e = 0
  · rw [if_pos h0] at h ⊢
    cases hS : S st.pl with
    | ok x => rw [hS] at h; exact absurd rfl h
    | error e => rfl
  · rw [if_neg h0]
theorem RFails_run {h : Heap} {p : Nat} {svr : Value} {bs : List UInt8} {st : RSt} {e a : Int} (hp : RRs h p svr bs st) (he : st.e = 0) (hx : e ≠ 0) :
    Runs Tryz.prog T0 (.fn fn_lr04_Reader_Fails) [.pointer (some ⟨p, 0, none⟩), .int .i64 e, .int .i64 a] h (fun r h' => RRs h' p svr bs ⟨0, e, a⟩ ∧ Fr (fun i => i = p) h h') (fun _ _ => False) := by
  obtain ⟨pl, h1, hr⟩ := hp.ex
  refine (Fails_ok (x := e) (a := a) hr).imp fun r h' ⟨hq, hf⟩ => ⟨?_, hf⟩
  rw [if_pos he] at hq
  exact ⟨pl, fun h => absurd h hx, hq⟩
theorem endS_bad {bs : List UInt8} {st : RSt} (h : st.e ≠ 0) : endS bs st = (st.e, st.fa) := by
  unfold endS
  rw [if_neg (fun h2 => h h2.1)]

set_option maxHeartbeats 32000000 in
theorem RMDecode_ok {h : Heap} {v : Value} {bs : List UInt8} (hv : Rd h 1 v (bcells bs) bs.length) (hs : bs.length < 1048576) : Runs Tryz.prog T0 (.fn fn_lr14_Decode) [v] h
    (fun r h' => ∃ sv sl, r = .tuple ⟨[.agg ⟨(decM bs).1.cells sv sl⟩, .agg ⟨[.int .i64 (decM bs).2.1, .int .i64 (decM bs).2.2]⟩]⟩ ∧ BkOwn h' h.n (decM bs).1.b sv sl ∧ Fr (fun _ => False) h h') (fun _ _ => False) := by
  have hv' := hv
  obtain ⟨a0, cap0, rfl, hl0, _⟩ := hv
  have hdec : decM bs = (if 65536 < bs.length then (zMs, ((4 : Int), (65536 : Int))) else if (rd (numS bs) 0 ⟨0, 0, 0⟩).2.e = 0 then (if (rd (numS bs) 0 ⟨0, 0, 0⟩).1 = 1 ∨ (rd (numS bs) 0 ⟨0, 0, 0⟩).1 = 2 then (if (rd (numS bs) 0 (rd (numS bs) 0 ⟨0, 0, 0⟩).2).2.e = 0 then (if numM ((rd (numS bs) 0 (rd (numS bs) 0 ⟨0, 0, 0⟩).2).1 : Nat) then (if (rd (numS bs) 0 ⟨0, 0, 0⟩).1 = 1 then (if (rd (numS bs) 0 (rd (numS bs) 0 (rd (numS bs) 0 ⟨0, 0, 0⟩).2).2).2.e = 0 then (if heiM ((rd (numS bs) 0 (rd (numS bs) 0 (rd (numS bs) 0 ⟨0, 0, 0⟩).2).2).1 : Nat) then endM bs (rd (numS bs) 0 (rd (numS bs) 0 (rd (numS bs) 0 ⟨0, 0, 0⟩).2).2).2 ⟨1, ((rd (numS bs) 0 (rd (numS bs) 0 ⟨0, 0, 0⟩).2).1 : Nat), ((rd (numS bs) 0 (rd (numS bs) 0 (rd (numS bs) 0 ⟨0, 0, 0⟩).2).2).1 : Nat), 0, zBk⟩ else (zMs, (3, ((rd (numS bs) 0 (rd (numS bs) 0 ⟨0, 0, 0⟩).2).2.pl : Int)))) else (zMs, ((rd (numS bs) 0 (rd (numS bs) 0 (rd (numS bs) 0 ⟨0, 0, 0⟩).2).2).2.e, (rd (numS bs) 0 (rd (numS bs) 0 (rd (numS bs) 0 ⟨0, 0, 0⟩).2).2).2.fa))) else (if (rd (bytesS bs 65536) [] (rd (numS bs) 0 (rd (numS bs) 0 ⟨0, 0, 0⟩).2).2).2.e = 0 then (if (decB (rd (bytesS bs 65536) [] (rd (numS bs) 0 (rd (numS bs) 0 ⟨0, 0, 0⟩).2).2).1).2 = (0, 0) then endM bs (rd (bytesS bs 65536) [] (rd (numS bs) 0 (rd (numS bs) 0 ⟨0, 0, 0⟩).2).2).2 ⟨2, 0, 0, ((rd (numS bs) 0 (rd (numS bs) 0 ⟨0, 0, 0⟩).2).1 : Nat), (decB (rd (bytesS bs 65536) [] (rd (numS bs) 0 (rd (numS bs) 0 ⟨0, 0, 0⟩).2).2).1).1⟩ else (zMs, (5, ((rd (numS bs) 0 (rd (numS bs) 0 ⟨0, 0, 0⟩).2).2.pl : Int)))) else (zMs, ((rd (bytesS bs 65536) [] (rd (numS bs) 0 (rd (numS bs) 0 ⟨0, 0, 0⟩).2).2).2.e, (rd (bytesS bs 65536) [] (rd (numS bs) 0 (rd (numS bs) 0 ⟨0, 0, 0⟩).2).2).2.fa)))) else (zMs, (3, ((rd (numS bs) 0 ⟨0, 0, 0⟩).2.pl : Int)))) else (zMs, ((rd (numS bs) 0 (rd (numS bs) 0 ⟨0, 0, 0⟩).2).2.e, (rd (numS bs) 0 (rd (numS bs) 0 ⟨0, 0, 0⟩).2).2.fa))) else (zMs, (5, 0))) else (zMs, ((rd (numS bs) 0 ⟨0, 0, 0⟩).2.e, (rd (numS bs) 0 ⟨0, 0, 0⟩).2.fa))) := rfl
  refine lr14_Decode_runs ?_
  repeat (first | refine O.one ?_ | refine O.nil ?_ | refine C.next ?_ | refine RunC.seq ?_ | refine RunC.region ?_)
  generalize hb3 : (h.push (.cells zMc 0)).n = b3
  have hb3' : b3 = h.n + 1 := by rw [← hb3]; rfl
  clear hb3
  subst hb3'
  generalize hh0 : ((h.push (.cells zMc 0)).push (.cells [.int .i64 0, .int .i64 0] 0)) = h0
  have hf0 : Fr (fun _ => False) h h0 := by rw [← hh0]; exact Fr.refl.push.push
  have hn0 : h0.n = h.n + 2 := by rw [← hh0]; rfl
  have hm0 : h0.get h.n = .cells zMc 0 := by rw [← hh0, Heap.get_push, if_neg (by simp), Heap.get_push, if_pos rfl]
  have hff0 : h0.get (h.n + 1) = .cells [.int .i64 0, .int .i64 0] 0 := by rw [← hh0, Heap.get_push, if_pos (by simp)]
  clear hh0
  haveI : HGet h0 h.n _ := ⟨hm0⟩
  haveI : HGet h0 (h.n + 1) _ := ⟨hff0⟩
  haveI : BLt h.n h0 := ⟨by omega⟩
  haveI : BLt (h.n + 1) h0 := ⟨by omega⟩
  haveI : BNe h.n (h.n + 1) := ⟨by omega⟩
  haveI : BNe (h.n + 1) h.n := ⟨by omega⟩
  refine C.if (fun hbig => ?_) (fun hsm => ?_)
  · repeat (first | refine O.one ?_ | refine O.nil ?_ | refine C.next ?_ | refine RunC.seq ?_ | refine RunC.region ?_ | refine RunC.ret ?_ | refine O.one0 ?_ | refine C.ret2 ?_ | refine B.ret ?_)
    rw [hdec, if_pos (by omega)]
    exact ⟨_, _, rfl, .zero, Fr.set (Fr.set hf0 fun hlt => by omega) fun hlt => by omega⟩
  rw [if_neg (by omega)] at hdec
  repeat (first | refine O.one ?_ | refine C.next ?_ | refine RunC.seq ?_ | refine RunC.region ?_ | refine RunC.skip ?_)
  refine O.call' (RNew_ok (hv'.keep hf0 fun _ _ => id) hs) (fun r h1' hr => ?_)
  obtain ⟨p, svr, rfl, hp1, hsv, hr1', hf1'⟩ := hr
  have hlt1' := hr1'.lt
  have hn1' := hf1'.n
  repeat (first | refine O.one ?_ | refine O.nil ?_ | refine C.next ?_ | refine RunC.seq ?_ | refine RunC.region ?_)
  have kk := RNum_run hr1'
  have kz : (rd (numS bs) 0 ⟨0, 0, 0⟩).2.e ≠ 0 → (rd (numS bs) 0 ⟨0, 0, 0⟩).1 = 0 := rd_zero
  have hoi : okSt (rd (numS bs) 0 ⟨0, 0, 0⟩).2 := rd_okSt numS_ne fun _ => rfl
  generalize (rd (numS bs) 0 ⟨0, 0, 0⟩) = k at *
  obtain ⟨k, stk⟩ := k
  refine O.call' kk (fun r h2' hr => ?_)
  obtain ⟨hf2', rfl, hr2'⟩ := hr
  simp only at hr2' kz hdec hoi
  have hn2' := hf2'.n
  repeat (first | refine O.one ?_ | refine O.nil ?_ | refine C.next ?_ | refine RunC.seq ?_ | refine RunC.region ?_ | refine O.one0 ?_)
  generalize hx : h2'.n = x
  generalize hh2 : h2'.push (.cells (.int .i64 (k : Nat) :: .int .i64 0 :: .int .i64 0 :: .int .i64 0 :: zBc) 0) = h2
  have s2 : QSt h h2 p x svr bs (.int .i64 (k : Nat) :: .int .i64 0 :: .int .i64 0 :: .int .i64 0 :: zBc) stk := by
    rw [← hh2, ← hx]
    exact ⟨by rw [Heap.get_push, if_neg (by omega), hf2'.get _ (by omega) (by omega), hf1'.get _ (by omega) id, hm0], by rw [Heap.get_push, if_neg (by omega), hf2'.get _ (by omega) (by omega), hf1'.get _ (by omega) id, hff0], by rw [Heap.get_push, if_pos rfl], hr2'.none Fr.refl.push, (Fr.trans (S := fun _ => False) (hf0.trans' hf1') hf2' fun i hi h => by omega).push, by omega, by omega, by simp, fun i hi => ⟨by have := hsv i hi; omega, by have := hr1'.own_lt hi; omega⟩⟩
  clear hh2 hx
  have hlo := s2.lo
  have hhi := s2.hi
  haveI : BNe h.n x := ⟨by omega⟩
  haveI : BNe x h.n := ⟨by omega⟩
  haveI : BNe (h.n + 1) x := ⟨by omega⟩
  haveI : BNe x (h.n + 1) := ⟨by omega⟩
  haveI : BNe h.n p := ⟨by omega⟩
  haveI : BNe p h.n := ⟨by omega⟩
  haveI : BNe (h.n + 1) p := ⟨by omega⟩
  haveI : BNe p (h.n + 1) := ⟨by omega⟩
  haveI : BNe p x := ⟨by omega⟩
  haveI : BNe x p := ⟨by omega⟩
  have hlt_h2 := s2.lt
  haveI : HGet h2 h.n _ := ⟨s2.ga⟩
  haveI : HGet h2 (h.n + 1) _ := ⟨s2.gb⟩
  haveI : HGet h2 x _ := ⟨s2.gx⟩
  haveI : BLt h.n h2 := ⟨by omega⟩
  haveI : BLt (h.n + 1) h2 := ⟨by omega⟩
  haveI : BLt x h2 := ⟨by omega⟩
  obtain ⟨pl_h2, hpl_h2, hrr_h2⟩ := s2.rr.ex
  haveI : HGet h2 p _ := ⟨hrr_h2.get⟩
  by_cases he : stk.e = 0
  rotate_left
  · have hD : decM bs = (zMs, (stk.e, stk.fa)) := by rw [hdec, if_neg he]
    obtain rfl := kz he
    repeat (first | refine O.one ?_)
    try refine O.dec (fun hh => absurd hh he) (fun _ => ?_)
    repeat (first | refine O.one ?_ | refine O.nil ?_ | refine C.next ?_ | refine RunC.seq ?_ | refine RunC.region ?_ | refine RunC.skip ?_ | refine O.skT ?_ | refine C.ifF ?_)
    have kq := RNum_run s2.rr
    rw [rd_stop he] at kq
    refine O.call' kq (fun r h3 hr => ?_)
    obtain ⟨hfq, rfl, hrq⟩ := hr
    have s3 := s2.step hfq hrq
    have hlt_h3 := s3.lt
    haveI : HGet h3 h.n _ := ⟨s3.ga⟩
    haveI : HGet h3 (h.n + 1) _ := ⟨s3.gb⟩
    haveI : HGet h3 x _ := ⟨s3.gx⟩
    haveI : BLt h.n h3 := ⟨by omega⟩
    haveI : BLt (h.n + 1) h3 := ⟨by omega⟩
    haveI : BLt x h3 := ⟨by omega⟩
    obtain ⟨pl_h3, hpl_h3, hrr_h3⟩ := s3.rr.ex
    haveI : HGet h3 p _ := ⟨hrr_h3.get⟩
    repeat (first | refine O.one ?_ | refine O.nil ?_ | refine C.next ?_ | refine RunC.seq ?_ | refine RunC.region ?_)
    try refine O.dec (fun hh => absurd hh he) (fun _ => ?_)
    repeat (first | refine O.one ?_ | refine O.nil ?_ | refine C.next ?_ | refine RunC.seq ?_ | refine RunC.region ?_ | refine RunC.skip ?_ | refine O.skT ?_ | refine C.ifF ?_)
    try refine C.if (fun hh => absurd hh (by decide)) (fun _ => ?_)
    skip
    try refine C.if (fun hh => absurd hh (by decide)) (fun _ => ?_)
    skip
    have kE := REnd_run s3.rr
    rw [endS_bad he] at kE
    refine O.call' kE (fun r hE hr => ?_)
    obtain ⟨rfl, hfE⟩ := hr
    have sE := s3.none hfE
    have hlt_hE := sE.lt
    haveI : HGet hE h.n _ := ⟨sE.ga⟩
    haveI : HGet hE (h.n + 1) _ := ⟨sE.gb⟩
    haveI : HGet hE x _ := ⟨sE.gx⟩
    haveI : BLt h.n hE := ⟨by omega⟩
    haveI : BLt (h.n + 1) hE := ⟨by omega⟩
    haveI : BLt x hE := ⟨by omega⟩
    obtain ⟨pl_hE, hpl_hE, hrr_hE⟩ := sE.rr.ex
    haveI : HGet hE p _ := ⟨hrr_hE.get⟩
    haveI : BNe hE.n h.n := ⟨by omega⟩
    haveI : BNe h.n hE.n := ⟨by omega⟩
    haveI : BNe hE.n (h.n + 1) := ⟨by omega⟩
    haveI : BNe (h.n + 1) hE.n := ⟨by omega⟩
    haveI : BNe hE.n x := ⟨by omega⟩
    haveI : BNe x hE.n := ⟨by omega⟩
    haveI : BNe hE.n p := ⟨by omega⟩
    haveI : BNe p hE.n := ⟨by omega⟩
    repeat (first | refine O.one ?_ | refine O.nil ?_ | refine C.next ?_ | refine RunC.seq ?_ | refine RunC.region ?_ | refine O.one0 ?_)
    try refine C.ifN (fun hc => ?_) (fun hc => absurd hc he)
    repeat (first | refine C.next ?_ | refine RunC.seq ?_ | refine RunC.ret ?_ | refine RunC.regionD ?_ | refine D.one rfl ?_ | refine D.nil ?_ | refine D.one0 rfl ?_ | refine D.one0s ?_ | refine C.ret2 ?_ | refine B.ret ?_)
    rw [hD]
    exact ⟨_, _, rfl, .zero, Fr.set (Fr.set sE.fr.push fun hlt => by omega) fun hlt => by omega⟩
  rw [if_pos he] at hdec
  obtain rfl := (hpl_h2 he).1
  by_cases hk : k = 1 ∨ k = 2
  rotate_left
  · have hD : decM bs = (zMs, (5, 0)) := by rw [hdec, if_neg hk]
    have h5 : (⟨0, 5, 0⟩ : RSt).e ≠ 0 := by decide
    repeat (first | refine O.one ?_)
    refine O.dec (fun _ => ?_) (fun hh => absurd he hh)
    repeat (first | refine O.one ?_ | refine O.oneT ?_)
    refine O.decN (fun _ => ?_) (fun hh => (hk (.inl (by omega))).elim)
    repeat (first | refine O.one ?_ | refine O.nil ?_ | refine C.next ?_ | refine O.oneT ?_)
    refine C.ifN (fun _ => ?_) (fun hh => (hk (.inr (by omega))).elim)
    repeat (first | refine O.one ?_ | refine RunC.region ?_)
    refine O.call' (RFails_run (e := 5) (a := 0) s2.rr he (by decide)) (fun r h3 hr => ?_)
    obtain ⟨hr3, hf3⟩ := hr
    have s3 := s2.step hf3 hr3
    have hlt_h3 := s3.lt
    haveI : HGet h3 h.n _ := ⟨s3.ga⟩
    haveI : HGet h3 (h.n + 1) _ := ⟨s3.gb⟩
    haveI : HGet h3 x _ := ⟨s3.gx⟩
    haveI : BLt h.n h3 := ⟨by omega⟩
    haveI : BLt (h.n + 1) h3 := ⟨by omega⟩
    haveI : BLt x h3 := ⟨by omega⟩
    obtain ⟨pl_h3, hpl_h3, hrr_h3⟩ := s3.rr.ex
    haveI : HGet h3 p _ := ⟨hrr_h3.get⟩
    repeat (first | refine O.one ?_ | refine O.nil ?_ | refine C.next ?_ | refine RunC.seq ?_ | refine RunC.region ?_)
    have kq := RNum_run s3.rr
    rw [rd_stop h5] at kq
    refine O.call' kq (fun r h4 hr => ?_)
    obtain ⟨hfq, rfl, hrq⟩ := hr
    have s4 := s3.step hfq hrq
    have hlt_h4 := s4.lt
    haveI : HGet h4 h.n _ := ⟨s4.ga⟩
    haveI : HGet h4 (h.n + 1) _ := ⟨s4.gb⟩
    haveI : HGet h4 x _ := ⟨s4.gx⟩
    haveI : BLt h.n h4 := ⟨by omega⟩
    haveI : BLt (h.n + 1) h4 := ⟨by omega⟩
    haveI : BLt x h4 := ⟨by omega⟩
    obtain ⟨pl_h4, hpl_h4, hrr_h4⟩ := s4.rr.ex
    haveI : HGet h4 p _ := ⟨hrr_h4.get⟩
    repeat (first | refine O.one ?_ | refine O.nil ?_ | refine C.next ?_ | refine RunC.seq ?_ | refine RunC.region ?_ | refine RunC.skip ?_ | refine O.skT ?_ | refine C.ifF ?_)
    try refine O.dec (fun hh => absurd hh h5) (fun _ => ?_)
    skip
    refine C.if (fun hh => (hk (.inl (by omega))).elim) (fun _ => ?_)
    repeat (first | refine O.one ?_ | refine O.nil ?_ | refine C.next ?_ | refine RunC.seq ?_ | refine RunC.region ?_ | refine RunC.skip ?_)
    refine C.if (fun hh => (hk (.inr (by omega))).elim) (fun _ => ?_)
    repeat (first | refine O.one ?_ | refine C.next ?_ | refine RunC.seq ?_ | refine RunC.region ?_ | refine RunC.skip ?_)
    have kE := REnd_run s4.rr
    rw [endS_bad h5] at kE
    refine O.call' kE (fun r hE hr => ?_)
    obtain ⟨rfl, hfE⟩ := hr
    have sE := s4.none hfE
    have hlt_hE := sE.lt
    haveI : HGet hE h.n _ := ⟨sE.ga⟩
    haveI : HGet hE (h.n + 1) _ := ⟨sE.gb⟩
    haveI : HGet hE x _ := ⟨sE.gx⟩
    haveI : BLt h.n hE := ⟨by omega⟩
    haveI : BLt (h.n + 1) hE := ⟨by omega⟩
    haveI : BLt x hE := ⟨by omega⟩
    obtain ⟨pl_hE, hpl_hE, hrr_hE⟩ := sE.rr.ex
    haveI : HGet hE p _ := ⟨hrr_hE.get⟩
    haveI : BNe hE.n h.n := ⟨by omega⟩
    haveI : BNe h.n hE.n := ⟨by omega⟩
    haveI : BNe hE.n (h.n + 1) := ⟨by omega⟩
    haveI : BNe (h.n + 1) hE.n := ⟨by omega⟩
    haveI : BNe hE.n x := ⟨by omega⟩
    haveI : BNe x hE.n := ⟨by omega⟩
    haveI : BNe hE.n p := ⟨by omega⟩
    haveI : BNe p hE.n := ⟨by omega⟩
    repeat (first | refine O.one ?_ | refine O.nil ?_ | refine C.next ?_ | refine RunC.seq ?_ | refine RunC.region ?_ | refine RunC.ret ?_ | refine RunC.regionD ?_ | refine D.one rfl ?_ | refine D.nil ?_ | refine O.one0 ?_ | refine D.one0 rfl ?_ | refine D.one0s ?_ | refine C.ret2 ?_ | refine C.ifT ?_ | refine B.ret ?_)
    try refine C.ifN (fun hc => ?_) (fun hc => absurd hc h5)
    skip
    rw [hD]
    exact ⟨_, _, rfl, .zero, Fr.set (Fr.set sE.fr.push fun hlt => by omega) fun hlt => by omega⟩
  rw [if_pos hk] at hdec
  rcases hk with rfl | rfl
  · repeat (first | refine O.one ?_)
    refine O.dec (fun _ => ?_) (fun hh => absurd he hh)
    repeat (first | refine O.one ?_ | refine O.nil ?_ | refine C.next ?_ | refine RunC.seq ?_ | refine RunC.region ?_ | refine RunC.skip ?_ | refine O.oneT ?_ | refine O.skT ?_ | refine C.ifF ?_)
    try simp only [show decide (((1 : Nat) : Int) = 1) = true from rfl, Bool.not_true, Bool.false_eq_true, if_false]
    skip
    have ki := RNum_run s2.rr
    have iz : (rd (numS bs) 0 stk).2.e ≠ 0 → (rd (numS bs) 0 stk).1 = 0 := rd_zero
    generalize (rd (numS bs) 0 stk) = i at *
    obtain ⟨i, sti⟩ := i
    refine O.call' ki (fun r h4 hr => ?_)
    obtain ⟨hf4, rfl, hr4⟩ := hr
    simp only at hr4 iz hdec
    have s4 := s2.step hf4 hr4
    have hlt_h4 := s4.lt
    haveI : HGet h4 h.n _ := ⟨s4.ga⟩
    haveI : HGet h4 (h.n + 1) _ := ⟨s4.gb⟩
    haveI : HGet h4 x _ := ⟨s4.gx⟩
    haveI : BLt h.n h4 := ⟨by omega⟩
    haveI : BLt (h.n + 1) h4 := ⟨by omega⟩
    haveI : BLt x h4 := ⟨by omega⟩
    obtain ⟨pl_h4, hpl_h4, hrr_h4⟩ := s4.rr.ex
    haveI : HGet h4 p _ := ⟨hrr_h4.get⟩
    repeat (first | refine O.one ?_ | refine O.nil ?_ | refine C.next ?_ | refine RunC.seq ?_ | refine RunC.region ?_)
    by_cases hei : sti.e = 0
    rotate_left
    · have hD : decM bs = (zMs, (sti.e, sti.fa)) := by rw [hdec, if_neg hei]
      obtain rfl := iz hei
      try refine O.dec (fun hh => absurd hh hei) (fun _ => ?_)
      repeat (first | refine O.one ?_ | refine O.nil ?_ | refine C.next ?_ | refine RunC.seq ?_ | refine RunC.region ?_ | refine RunC.skip ?_ | refine O.skT ?_ | refine C.ifT ?_ | refine C.ifF ?_)
      try refine C.if (fun _ => ?_) (fun hh => absurd rfl hh)
      skip
      have kq := RNum_run s4.rr
      rw [rd_stop hei] at kq
      refine O.call' kq (fun r h7 hr => ?_)
      obtain ⟨hfq, rfl, hrq⟩ := hr
      have s7 := s4.step hfq hrq
      have hlt_h7 := s7.lt
      haveI : HGet h7 h.n _ := ⟨s7.ga⟩
      haveI : HGet h7 (h.n + 1) _ := ⟨s7.gb⟩
      haveI : HGet h7 x _ := ⟨s7.gx⟩
      haveI : BLt h.n h7 := ⟨by omega⟩
      haveI : BLt (h.n + 1) h7 := ⟨by omega⟩
      haveI : BLt x h7 := ⟨by omega⟩
      obtain ⟨pl_h7, hpl_h7, hrr_h7⟩ := s7.rr.ex
      haveI : HGet h7 p _ := ⟨hrr_h7.get⟩
      repeat (first | refine O.one ?_ | refine O.nil ?_ | refine C.next ?_ | refine RunC.seq ?_ | refine RunC.region ?_ | refine O.one0 ?_)
      have s7' := s7.setx (c' := .int .i64 ((1 : Nat) : Int) :: .int .i64 (0 : Nat) :: .int .i64 ((0 : Nat) : Int) :: .int .i64 0 :: zBc)
      try refine O.dec (fun hh => absurd hh hei) (fun _ => ?_)
      repeat (first | refine O.one ?_ | refine O.nil ?_ | refine C.next ?_ | refine RunC.seq ?_ | refine RunC.region ?_ | refine RunC.skip ?_ | refine O.skT ?_ | refine C.ifF ?_)
      try refine C.if (fun hh => absurd hh (by decide)) (fun _ => ?_)
      skip
      have kE := REnd_run s7'.rr
      rw [endS_bad hei] at kE
      refine O.call' kE (fun r hE hr => ?_)
      obtain ⟨rfl, hfE⟩ := hr
      have sE := s7'.none hfE
      have hlt_hE := sE.lt
      haveI : HGet hE h.n _ := ⟨sE.ga⟩
      haveI : HGet hE (h.n + 1) _ := ⟨sE.gb⟩
      haveI : HGet hE x _ := ⟨sE.gx⟩
      haveI : BLt h.n hE := ⟨by omega⟩
      haveI : BLt (h.n + 1) hE := ⟨by omega⟩
      haveI : BLt x hE := ⟨by omega⟩
      obtain ⟨pl_hE, hpl_hE, hrr_hE⟩ := sE.rr.ex
      haveI : HGet hE p _ := ⟨hrr_hE.get⟩
      haveI : BNe hE.n h.n := ⟨by omega⟩
      haveI : BNe h.n hE.n := ⟨by omega⟩
      haveI : BNe hE.n (h.n + 1) := ⟨by omega⟩
      haveI : BNe (h.n + 1) hE.n := ⟨by omega⟩
      haveI : BNe hE.n x := ⟨by omega⟩
      haveI : BNe x hE.n := ⟨by omega⟩
      haveI : BNe hE.n p := ⟨by omega⟩
      haveI : BNe p hE.n := ⟨by omega⟩
      repeat (first | refine O.one ?_ | refine O.nil ?_ | refine C.next ?_ | refine RunC.seq ?_ | refine RunC.region ?_ | refine O.one0 ?_)
      try refine C.ifN (fun hc => ?_) (fun hc => absurd hc hei)
      repeat (first | refine C.next ?_ | refine RunC.seq ?_ | refine RunC.ret ?_ | refine RunC.regionD ?_ | refine D.one rfl ?_ | refine D.nil ?_ | refine D.one0 rfl ?_ | refine D.one0s ?_ | refine C.ret2 ?_ | refine B.ret ?_)
      rw [hD]
      exact ⟨_, _, rfl, .zero, Fr.set (Fr.set sE.fr.push fun hlt => by omega) fun hlt => by omega⟩
    rw [if_pos hei] at hdec
    obtain rfl := (hpl_h4 hei).1
    refine O.dec (fun _ => ?_) (fun hh => absurd hei hh)
    repeat (first | refine O.oneT ?_)
    refine O.callT Rnumber_okM (fun r h4' hr => ?_)
    obtain ⟨rfl, hh4⟩ := hr
    obtain rfl := hh4.symm
    repeat (first | refine O.one ?_ | refine O.nil ?_ | refine C.next ?_ | refine O.oneT ?_)
    refine C.ifN (fun hM => ?_) (fun hM => ?_)
    · have hD : decM bs = (zMs, (3, (stk.pl : Int))) := by rw [hdec, if_neg hM]
      have h3e : (⟨0, 3, (stk.pl : Int)⟩ : RSt).e ≠ 0 := (show (3 : Int) ≠ 0 by decide)
      repeat (first | refine O.one ?_ | refine RunC.region ?_)
      refine O.call' (RFails_run (e := 3) (a := (stk.pl : Int)) s4.rr hei (by decide)) (fun r h5 hr => ?_)
      obtain ⟨hr5, hf5⟩ := hr
      have s5 := s4.step hf5 hr5
      have hlt_h5 := s5.lt
      haveI : HGet h5 h.n _ := ⟨s5.ga⟩
      haveI : HGet h5 (h.n + 1) _ := ⟨s5.gb⟩
      haveI : HGet h5 x _ := ⟨s5.gx⟩
      haveI : BLt h.n h5 := ⟨by omega⟩
      haveI : BLt (h.n + 1) h5 := ⟨by omega⟩
      haveI : BLt x h5 := ⟨by omega⟩
      obtain ⟨pl_h5, hpl_h5, hrr_h5⟩ := s5.rr.ex
      haveI : HGet h5 p _ := ⟨hrr_h5.get⟩
      repeat (first | refine O.one ?_ | refine O.nil ?_ | refine C.next ?_ | refine RunC.seq ?_ | refine RunC.region ?_ | refine C.ifT ?_)
      try refine C.if (fun _ => ?_) (fun hh => absurd rfl hh)
      skip
      have kq := RNum_run s5.rr
      rw [rd_stop h3e] at kq
      refine O.call' kq (fun r h7 hr => ?_)
      obtain ⟨hfq, rfl, hrq⟩ := hr
      have s7 := s5.step hfq hrq
      have hlt_h7 := s7.lt
      haveI : HGet h7 h.n _ := ⟨s7.ga⟩
      haveI : HGet h7 (h.n + 1) _ := ⟨s7.gb⟩
      haveI : HGet h7 x _ := ⟨s7.gx⟩
      haveI : BLt h.n h7 := ⟨by omega⟩
      haveI : BLt (h.n + 1) h7 := ⟨by omega⟩
      haveI : BLt x h7 := ⟨by omega⟩
      obtain ⟨pl_h7, hpl_h7, hrr_h7⟩ := s7.rr.ex
      haveI : HGet h7 p _ := ⟨hrr_h7.get⟩
      repeat (first | refine O.one ?_ | refine O.nil ?_ | refine C.next ?_ | refine RunC.seq ?_ | refine RunC.region ?_ | refine RunC.skip ?_ | refine O.one0 ?_ | refine O.skT ?_ | refine C.ifF ?_)
      have s7' := s7.setx (c' := .int .i64 ((1 : Nat) : Int) :: .int .i64 (i : Nat) :: .int .i64 ((0 : Nat) : Int) :: .int .i64 0 :: zBc)
      try refine O.dec (fun hh => absurd hh h3e) (fun _ => ?_)
      skip
      try refine C.if (fun hh => absurd hh (by decide)) (fun _ => ?_)
      skip
      have kE := REnd_run s7'.rr
      rw [endS_bad h3e] at kE
      refine O.call' kE (fun r hE hr => ?_)
      obtain ⟨rfl, hfE⟩ := hr
      have sE := s7'.none hfE
      have hlt_hE := sE.lt
      haveI : HGet hE h.n _ := ⟨sE.ga⟩
      haveI : HGet hE (h.n + 1) _ := ⟨sE.gb⟩
      haveI : HGet hE x _ := ⟨sE.gx⟩
      haveI : BLt h.n hE := ⟨by omega⟩
      haveI : BLt (h.n + 1) hE := ⟨by omega⟩
      haveI : BLt x hE := ⟨by omega⟩
      obtain ⟨pl_hE, hpl_hE, hrr_hE⟩ := sE.rr.ex
      haveI : HGet hE p _ := ⟨hrr_hE.get⟩
      haveI : BNe hE.n h.n := ⟨by omega⟩
      haveI : BNe h.n hE.n := ⟨by omega⟩
      haveI : BNe hE.n (h.n + 1) := ⟨by omega⟩
      haveI : BNe (h.n + 1) hE.n := ⟨by omega⟩
      haveI : BNe hE.n x := ⟨by omega⟩
      haveI : BNe x hE.n := ⟨by omega⟩
      haveI : BNe hE.n p := ⟨by omega⟩
      haveI : BNe p hE.n := ⟨by omega⟩
      repeat (first | refine O.one ?_ | refine O.nil ?_ | refine C.next ?_ | refine RunC.seq ?_ | refine RunC.region ?_ | refine RunC.ret ?_ | refine RunC.regionD ?_ | refine D.one rfl ?_ | refine D.nil ?_ | refine O.one0 ?_ | refine D.one0 rfl ?_ | refine D.one0s ?_ | refine C.ret2 ?_ | refine C.ifT ?_ | refine B.ret ?_)
      try refine C.ifN (fun hc => ?_) (fun hc => absurd hc h3e)
      skip
      rw [hD]
      exact ⟨_, _, rfl, .zero, Fr.set (Fr.set sE.fr.push fun hlt => by omega) fun hlt => by omega⟩
    rw [if_pos hM] at hdec
    repeat (first | refine O.one ?_ | refine O.nil ?_ | refine C.next ?_ | refine RunC.seq ?_ | refine RunC.region ?_ | refine RunC.skip ?_ | refine C.ifT ?_)
    try first | rw [if_pos rfl] at hdec | rw [if_pos trivial] at hdec
    try refine C.if (fun _ => ?_) (fun hh => absurd rfl hh)
    skip
    have kt := RNum_run s4.rr
    generalize (rd (numS bs) 0 sti) = t at *
    obtain ⟨t, stt⟩ := t
    refine O.call' kt (fun r h6 hr => ?_)
    obtain ⟨hf6, rfl, hr6⟩ := hr
    simp only at hr6 hdec
    have s6 := s4.step hf6 hr6
    have hlt_h6 := s6.lt
    haveI : HGet h6 h.n _ := ⟨s6.ga⟩
    haveI : HGet h6 (h.n + 1) _ := ⟨s6.gb⟩
    haveI : HGet h6 x _ := ⟨s6.gx⟩
    haveI : BLt h.n h6 := ⟨by omega⟩
    haveI : BLt (h.n + 1) h6 := ⟨by omega⟩
    haveI : BLt x h6 := ⟨by omega⟩
    obtain ⟨pl_h6, hpl_h6, hrr_h6⟩ := s6.rr.ex
    haveI : HGet h6 p _ := ⟨hrr_h6.get⟩
    repeat (first | refine O.one ?_ | refine O.nil ?_ | refine C.next ?_ | refine RunC.seq ?_ | refine RunC.region ?_ | refine O.one0 ?_)
    have s6' := s6.setx (c' := .int .i64 ((1 : Nat) : Int) :: .int .i64 (i : Nat) :: .int .i64 (t : Nat) :: .int .i64 0 :: zBc)
    by_cases het : stt.e = 0
    rotate_left
    · have hD : decM bs = (zMs, (stt.e, stt.fa)) := by rw [hdec, if_neg het]
      try refine O.dec (fun hh => absurd hh het) (fun _ => ?_)
      repeat (first | refine O.one ?_ | refine O.nil ?_ | refine C.next ?_ | refine RunC.seq ?_ | refine RunC.region ?_ | refine RunC.skip ?_ | refine O.skT ?_ | refine C.ifF ?_)
      try refine C.if (fun hh => absurd hh (by decide)) (fun _ => ?_)
      skip
      have kE := REnd_run s6'.rr
      rw [endS_bad het] at kE
      refine O.call' kE (fun r hE hr => ?_)
      obtain ⟨rfl, hfE⟩ := hr
      have sE := s6'.none hfE
      have hlt_hE := sE.lt
      haveI : HGet hE h.n _ := ⟨sE.ga⟩
      haveI : HGet hE (h.n + 1) _ := ⟨sE.gb⟩
      haveI : HGet hE x _ := ⟨sE.gx⟩
      haveI : BLt h.n hE := ⟨by omega⟩
      haveI : BLt (h.n + 1) hE := ⟨by omega⟩
      haveI : BLt x hE := ⟨by omega⟩
      obtain ⟨pl_hE, hpl_hE, hrr_hE⟩ := sE.rr.ex
      haveI : HGet hE p _ := ⟨hrr_hE.get⟩
      haveI : BNe hE.n h.n := ⟨by omega⟩
      haveI : BNe h.n hE.n := ⟨by omega⟩
      haveI : BNe hE.n (h.n + 1) := ⟨by omega⟩
      haveI : BNe (h.n + 1) hE.n := ⟨by omega⟩
      haveI : BNe hE.n x := ⟨by omega⟩
      haveI : BNe x hE.n := ⟨by omega⟩
      haveI : BNe hE.n p := ⟨by omega⟩
      haveI : BNe p hE.n := ⟨by omega⟩
      repeat (first | refine O.one ?_ | refine O.nil ?_ | refine C.next ?_ | refine RunC.seq ?_ | refine RunC.region ?_ | refine O.one0 ?_)
      try refine C.ifN (fun hc => ?_) (fun hc => absurd hc het)
      repeat (first | refine C.next ?_ | refine RunC.seq ?_ | refine RunC.ret ?_ | refine RunC.regionD ?_ | refine D.one rfl ?_ | refine D.nil ?_ | refine D.one0 rfl ?_ | refine D.one0s ?_ | refine C.ret2 ?_ | refine B.ret ?_)
      rw [hD]
      exact ⟨_, _, rfl, .zero, Fr.set (Fr.set sE.fr.push fun hlt => by omega) fun hlt => by omega⟩
    rw [if_pos het] at hdec
    refine O.dec (fun _ => ?_) (fun hh => absurd het hh)
    repeat (first | refine O.oneT ?_)
    refine O.callT Rheight_okM (fun r h6x hr => ?_)
    obtain ⟨rfl, hh6⟩ := hr
    obtain rfl := hh6.symm
    repeat (first | refine O.one ?_ | refine O.nil ?_ | refine C.next ?_ | refine O.oneT ?_)
    refine C.ifN (fun hM2 => ?_) (fun hM2 => ?_)
    · have hD : decM bs = (zMs, (3, (sti.pl : Int))) := by rw [hdec, if_neg hM2]
      have h3e : (⟨0, 3, (sti.pl : Int)⟩ : RSt).e ≠ 0 := (show (3 : Int) ≠ 0 by decide)
      repeat (first | refine O.one ?_ | refine RunC.region ?_)
      refine O.call' (RFails_run (e := 3) (a := (sti.pl : Int)) s6'.rr het (by decide)) (fun r h7 hr => ?_)
      obtain ⟨hr7, hf7⟩ := hr
      have s7 := s6'.step hf7 hr7
      have hlt_h7 := s7.lt
      haveI : HGet h7 h.n _ := ⟨s7.ga⟩
      haveI : HGet h7 (h.n + 1) _ := ⟨s7.gb⟩
      haveI : HGet h7 x _ := ⟨s7.gx⟩
      haveI : BLt h.n h7 := ⟨by omega⟩
      haveI : BLt (h.n + 1) h7 := ⟨by omega⟩
      haveI : BLt x h7 := ⟨by omega⟩
      obtain ⟨pl_h7, hpl_h7, hrr_h7⟩ := s7.rr.ex
      haveI : HGet h7 p _ := ⟨hrr_h7.get⟩
      repeat (first | refine O.one ?_ | refine O.nil ?_ | refine C.next ?_ | refine RunC.seq ?_ | refine RunC.region ?_ | refine RunC.skip ?_ | refine C.ifF ?_)
      try refine C.if (fun hh => absurd hh (by decide)) (fun _ => ?_)
      skip
      have kE := REnd_run s7.rr
      rw [endS_bad h3e] at kE
      refine O.call' kE (fun r hE hr => ?_)
      obtain ⟨rfl, hfE⟩ := hr
      have sE := s7.none hfE
      have hlt_hE := sE.lt
      haveI : HGet hE h.n _ := ⟨sE.ga⟩
      haveI : HGet hE (h.n + 1) _ := ⟨sE.gb⟩
      haveI : HGet hE x _ := ⟨sE.gx⟩
      haveI : BLt h.n hE := ⟨by omega⟩
      haveI : BLt (h.n + 1) hE := ⟨by omega⟩
      haveI : BLt x hE := ⟨by omega⟩
      obtain ⟨pl_hE, hpl_hE, hrr_hE⟩ := sE.rr.ex
      haveI : HGet hE p _ := ⟨hrr_hE.get⟩
      haveI : BNe hE.n h.n := ⟨by omega⟩
      haveI : BNe h.n hE.n := ⟨by omega⟩
      haveI : BNe hE.n (h.n + 1) := ⟨by omega⟩
      haveI : BNe (h.n + 1) hE.n := ⟨by omega⟩
      haveI : BNe hE.n x := ⟨by omega⟩
      haveI : BNe x hE.n := ⟨by omega⟩
      haveI : BNe hE.n p := ⟨by omega⟩
      haveI : BNe p hE.n := ⟨by omega⟩
      repeat (first | refine O.one ?_ | refine O.nil ?_ | refine C.next ?_ | refine RunC.seq ?_ | refine RunC.region ?_ | refine RunC.ret ?_ | refine RunC.regionD ?_ | refine D.one rfl ?_ | refine D.nil ?_ | refine O.one0 ?_ | refine D.one0 rfl ?_ | refine D.one0s ?_ | refine C.ret2 ?_ | refine C.ifT ?_ | refine B.ret ?_)
      try refine C.ifN (fun hc => ?_) (fun hc => absurd hc h3e)
      skip
      rw [hD]
      exact ⟨_, _, rfl, .zero, Fr.set (Fr.set sE.fr.push fun hlt => by omega) fun hlt => by omega⟩
    rw [if_pos hM2] at hdec
    repeat (first | refine O.one ?_ | refine O.nil ?_ | refine C.next ?_ | refine RunC.seq ?_ | refine RunC.region ?_ | refine RunC.skip ?_ | refine C.ifF ?_)
    try refine C.if (fun hh => absurd hh (by decide)) (fun _ => ?_)
    skip
    have kE := REnd_run s6'.rr
    have hzz := s6'.rr.zero
    unfold endM at hdec
    generalize endS bs _ = F at *
    obtain ⟨E, A⟩ := F
    simp only at hzz
    refine O.call' kE (fun r hE hr => ?_)
    obtain ⟨rfl, hfE⟩ := hr
    have sE := s6'.none hfE
    have hlt_hE := sE.lt
    haveI : HGet hE h.n _ := ⟨sE.ga⟩
    haveI : HGet hE (h.n + 1) _ := ⟨sE.gb⟩
    haveI : HGet hE x _ := ⟨sE.gx⟩
    haveI : BLt h.n hE := ⟨by omega⟩
    haveI : BLt (h.n + 1) hE := ⟨by omega⟩
    haveI : BLt x hE := ⟨by omega⟩
    obtain ⟨pl_hE, hpl_hE, hrr_hE⟩ := sE.rr.ex
    haveI : HGet hE p _ := ⟨hrr_hE.get⟩
    haveI : BNe hE.n h.n := ⟨by omega⟩
    haveI : BNe h.n hE.n := ⟨by omega⟩
    haveI : BNe hE.n (h.n + 1) := ⟨by omega⟩
    haveI : BNe (h.n + 1) hE.n := ⟨by omega⟩
    haveI : BNe hE.n x := ⟨by omega⟩
    haveI : BNe x hE.n := ⟨by omega⟩
    haveI : BNe hE.n p := ⟨by omega⟩
    haveI : BNe p hE.n := ⟨by omega⟩
    repeat (first | refine O.one ?_ | refine O.nil ?_ | refine C.next ?_ | refine RunC.seq ?_ | refine RunC.region ?_ | refine O.one0 ?_)
    refine C.ifN (fun hc => ?_) (fun hc => ?_)
    · repeat (first | refine C.next ?_ | refine RunC.seq ?_ | refine RunC.ret ?_ | refine RunC.regionD ?_ | refine D.one rfl ?_ | refine D.nil ?_ | refine D.one0 rfl ?_ | refine D.one0s ?_ | refine C.ret2 ?_ | refine B.ret ?_)
      rw [hdec, if_neg (fun h => hc (Prod.mk.inj h).1)]
      exact ⟨_, _, rfl, .zero, Fr.set (Fr.set sE.fr.push fun hlt => by omega) fun hlt => by omega⟩
    · obtain rfl := hc
      obtain rfl := hzz rfl
      repeat (first | refine C.next ?_ | refine RunC.seq ?_ | refine RunC.skip ?_ | refine RunC.ret ?_ | refine RunC.regionD ?_ | refine D.one rfl ?_ | refine D.nil ?_ | refine D.one0 rfl ?_ | refine D.one0s ?_ | refine B.ret ?_)
      rw [hdec, if_pos rfl]
      exact ⟨_, _, rfl, .zero, Fr.set (Fr.set sE.fr.push fun hlt => by omega) fun hlt => by omega⟩
  · repeat (first | refine O.one ?_)
    refine O.dec (fun _ => ?_) (fun hh => absurd he hh)
    repeat (first | refine O.one ?_ | refine O.nil ?_ | refine C.next ?_ | refine RunC.seq ?_ | refine RunC.region ?_ | refine RunC.skip ?_ | refine O.oneT ?_ | refine C.ifF ?_)
    try simp only [show decide (((2 : Nat) : Int) = 1) = false from rfl, show decide (((2 : Nat) : Int) = 2) = true from rfl, Bool.not_false, Bool.not_true, if_true, Bool.false_eq_true, if_false]
    skip
    have ki := RNum_run s2.rr
    have iz : (rd (numS bs) 0 stk).2.e ≠ 0 → (rd (numS bs) 0 stk).1 = 0 := rd_zero
    generalize (rd (numS bs) 0 stk) = i at *
    obtain ⟨i, sti⟩ := i
    refine O.call' ki (fun r h4 hr => ?_)
    obtain ⟨hf4, rfl, hr4⟩ := hr
    simp only at hr4 iz hdec
    have s4 := s2.step hf4 hr4
    have hlt_h4 := s4.lt
    haveI : HGet h4 h.n _ := ⟨s4.ga⟩
    haveI : HGet h4 (h.n + 1) _ := ⟨s4.gb⟩
    haveI : HGet h4 x _ := ⟨s4.gx⟩
    haveI : BLt h.n h4 := ⟨by omega⟩
    haveI : BLt (h.n + 1) h4 := ⟨by omega⟩
    haveI : BLt x h4 := ⟨by omega⟩
    obtain ⟨pl_h4, hpl_h4, hrr_h4⟩ := s4.rr.ex
    haveI : HGet h4 p _ := ⟨hrr_h4.get⟩
    repeat (first | refine O.one ?_ | refine O.nil ?_ | refine C.next ?_ | refine RunC.seq ?_ | refine RunC.region ?_)
    by_cases hei : sti.e = 0
    rotate_left
    · have hD : decM bs = (zMs, (sti.e, sti.fa)) := by rw [hdec, if_neg hei]
      obtain rfl := iz hei
      try refine O.dec (fun hh => absurd hh hei) (fun _ => ?_)
      repeat (first | refine O.one ?_ | refine O.nil ?_ | refine C.next ?_ | refine RunC.seq ?_ | refine RunC.region ?_ | refine RunC.skip ?_ | refine O.skT ?_ | refine C.ifT ?_ | refine C.ifF ?_)
      try refine C.if (fun hh => absurd hh (by decide)) (fun _ => ?_)
      skip
      try refine C.if (fun _ => ?_) (fun hh => absurd rfl hh)
      skip
      have kb := RBytes_run (most := 65536) s4.rr
      rw [rd_stop hei] at kb
      refine O.call' kb (fun r h7 hr => ?_)
      obtain ⟨hf7, ⟨ho7, hn7⟩, hr7⟩ := hr
      have s7 := s4.step hf7 hr7
      simp only at ho7
      have hlt_h7 := s7.lt
      haveI : HGet h7 h.n _ := ⟨s7.ga⟩
      haveI : HGet h7 (h.n + 1) _ := ⟨s7.gb⟩
      haveI : HGet h7 x _ := ⟨s7.gx⟩
      haveI : BLt h.n h7 := ⟨by omega⟩
      haveI : BLt (h.n + 1) h7 := ⟨by omega⟩
      haveI : BLt x h7 := ⟨by omega⟩
      obtain ⟨pl_h7, hpl_h7, hrr_h7⟩ := s7.rr.ex
      haveI : HGet h7 p _ := ⟨hrr_h7.get⟩
      skip
      refine O.call' (RBDecode_ok (bs := []) ho7.rd (by simp)) (fun r h8 hr => ?_)
      obtain ⟨sv, sl, rfl, hO, hf8⟩ := hr
      have hokb := decB_ok []
      have hzb := decB_zero []
      generalize decB [] = D at *
      obtain ⟨X, E', A'⟩ := D
      simp only at hO hokb hzb hdec ⊢
      obtain ⟨av, cv, rfl, _, _⟩ := hO.votes.rd
      obtain ⟨al, cl, rfl, _, _⟩ := hO.vals.rd
      haveI := l32 hokb.h.prev
      haveI := l32 hokb.h.vals
      haveI := l32 hokb.h.next
      haveI := l32 hokb.h.app
      haveI := l32 hokb.hash
      have s8 := s7.none hf8
      have hlt_h8 := s8.lt
      haveI : HGet h8 h.n _ := ⟨s8.ga⟩
      haveI : HGet h8 (h.n + 1) _ := ⟨s8.gb⟩
      haveI : HGet h8 x _ := ⟨s8.gx⟩
      haveI : BLt h.n h8 := ⟨by omega⟩
      haveI : BLt (h.n + 1) h8 := ⟨by omega⟩
      haveI : BLt x h8 := ⟨by omega⟩
      obtain ⟨pl_h8, hpl_h8, hrr_h8⟩ := s8.rr.ex
      haveI : HGet h8 p _ := ⟨hrr_h8.get⟩
      repeat (first | refine O.one ?_ | refine O.nil ?_ | refine C.next ?_ | refine RunC.seq ?_ | refine RunC.region ?_ | refine O.one0 ?_)
      generalize hh9 : (((h8.push (.cells zBc 0)).push (.cells [.int .i64 0, .int .i64 0] 0)).set h8.n (.cells (X.cells (.slice av X.c.votes.length cv) (.slice al X.vals.length cl)) 0)).set (h8.push (.cells zBc 0)).n (.cells [.int .i64 E', .int .i64 A'] 0) = h9
      generalize hh8 : (h8.push (.cells zBc 0)).n = f8 at *
      have hf8n : f8 = h8.n + 1 := by rw [← hh8]; simp
      have hf89 : Fr (fun _ => False) h8 h9 := by rw [← hh9]; exact Fr.set (Fr.set Fr.refl.push.push fun hlt => by omega) fun hlt => by omega
      haveI hX9 : HGet h9 h8.n (.cells (X.cells (.slice av X.c.votes.length cv) (.slice al X.vals.length cl)) 0) := ⟨by rw [← hh9, Heap.get_set, if_neg (by omega), Heap.get_set, if_pos rfl]⟩
      haveI hF9 : HGet h9 f8 (.cells [.int .i64 E', .int .i64 A'] 0) := ⟨by rw [← hh9, Heap.get_set, if_pos rfl]⟩
      have hn9 : h9.n = h8.n + 2 := by rw [← hh9]; simp
      clear hh9 hh8
      have s9 := s8.none hf89
      have hlt_h9 := s9.lt
      haveI : HGet h9 h.n _ := ⟨s9.ga⟩
      haveI : HGet h9 (h.n + 1) _ := ⟨s9.gb⟩
      haveI : HGet h9 x _ := ⟨s9.gx⟩
      haveI : BLt h.n h9 := ⟨by omega⟩
      haveI : BLt (h.n + 1) h9 := ⟨by omega⟩
      haveI : BLt x h9 := ⟨by omega⟩
      obtain ⟨pl_h9, hpl_h9, hrr_h9⟩ := s9.rr.ex
      haveI : HGet h9 p _ := ⟨hrr_h9.get⟩
      haveI : BNe h8.n h.n := ⟨by omega⟩
      haveI : BNe h.n h8.n := ⟨by omega⟩
      haveI : BNe h8.n (h.n + 1) := ⟨by omega⟩
      haveI : BNe (h.n + 1) h8.n := ⟨by omega⟩
      haveI : BNe h8.n x := ⟨by omega⟩
      haveI : BNe x h8.n := ⟨by omega⟩
      haveI : BNe h8.n p := ⟨by omega⟩
      haveI : BNe p h8.n := ⟨by omega⟩
      haveI : BNe f8 x := ⟨by omega⟩
      haveI : BNe x f8 := ⟨by omega⟩
      haveI : BNe f8 p := ⟨by omega⟩
      haveI : BNe p f8 := ⟨by omega⟩
      haveI : BLt h8.n h9 := ⟨by omega⟩
      haveI : BLt f8 h9 := ⟨by omega⟩
      repeat (first | refine O.one ?_)
      try refine O.dec (fun hh => absurd hh hei) (fun _ => ?_)
      repeat (first | refine O.one ?_ | refine O.nil ?_ | refine C.next ?_ | refine RunC.seq ?_ | refine RunC.region ?_ | refine RunC.skip ?_ | refine O.one0 ?_ | refine O.skT ?_ | refine C.ifF ?_)
      have s9' := s9.setx (c' := .int .i64 ((2 : Nat) : Int) :: .int .i64 0 :: .int .i64 0 :: .int .i64 (0 : Nat) :: X.cells (.slice av X.c.votes.length cv) (.slice al X.vals.length cl))
      have kE := REnd_run s9'.rr
      rw [endS_bad hei] at kE
      refine O.call' kE (fun r hE hr => ?_)
      obtain ⟨rfl, hfE⟩ := hr
      have sE := s9'.none hfE
      have hlt_hE := sE.lt
      haveI : HGet hE h.n _ := ⟨sE.ga⟩
      haveI : HGet hE (h.n + 1) _ := ⟨sE.gb⟩
      haveI : HGet hE x _ := ⟨sE.gx⟩
      haveI : BLt h.n hE := ⟨by omega⟩
      haveI : BLt (h.n + 1) hE := ⟨by omega⟩
      haveI : BLt x hE := ⟨by omega⟩
      obtain ⟨pl_hE, hpl_hE, hrr_hE⟩ := sE.rr.ex
      haveI : HGet hE p _ := ⟨hrr_hE.get⟩
      haveI : BNe hE.n h.n := ⟨by omega⟩
      haveI : BNe h.n hE.n := ⟨by omega⟩
      haveI : BNe hE.n (h.n + 1) := ⟨by omega⟩
      haveI : BNe (h.n + 1) hE.n := ⟨by omega⟩
      haveI : BNe hE.n x := ⟨by omega⟩
      haveI : BNe x hE.n := ⟨by omega⟩
      haveI : BNe hE.n p := ⟨by omega⟩
      haveI : BNe p hE.n := ⟨by omega⟩
      repeat (first | refine O.one ?_ | refine O.nil ?_ | refine C.next ?_ | refine RunC.seq ?_ | refine RunC.region ?_ | refine O.one0 ?_)
      try refine C.ifN (fun hc => ?_) (fun hc => absurd hc hei)
      repeat (first | refine C.next ?_ | refine RunC.seq ?_ | refine RunC.ret ?_ | refine RunC.regionD ?_ | refine D.one rfl ?_ | refine D.nil ?_ | refine D.one0 rfl ?_ | refine D.one0s ?_ | refine C.ret2 ?_ | refine B.ret ?_)
      rw [hD]
      exact ⟨_, _, rfl, .zero, Fr.set (Fr.set sE.fr.push fun hlt => by omega) fun hlt => by omega⟩
    rw [if_pos hei] at hdec
    obtain rfl := (hpl_h4 hei).1
    refine O.dec (fun _ => ?_) (fun hh => absurd hei hh)
    repeat (first | refine O.oneT ?_)
    refine O.callT Rnumber_okM (fun r h4' hr => ?_)
    obtain ⟨rfl, hh4⟩ := hr
    obtain rfl := hh4.symm
    repeat (first | refine O.one ?_ | refine O.nil ?_ | refine C.next ?_ | refine O.oneT ?_)
    refine C.ifN (fun hM => ?_) (fun hM => ?_)
    · have hD : decM bs = (zMs, (3, (stk.pl : Int))) := by rw [hdec, if_neg hM]
      have h3e : (⟨0, 3, (stk.pl : Int)⟩ : RSt).e ≠ 0 := (show (3 : Int) ≠ 0 by decide)
      repeat (first | refine O.one ?_ | refine RunC.region ?_)
      refine O.call' (RFails_run (e := 3) (a := (stk.pl : Int)) s4.rr hei (by decide)) (fun r h5 hr => ?_)
      obtain ⟨hr5, hf5⟩ := hr
      have s5 := s4.step hf5 hr5
      have hlt_h5 := s5.lt
      haveI : HGet h5 h.n _ := ⟨s5.ga⟩
      haveI : HGet h5 (h.n + 1) _ := ⟨s5.gb⟩
      haveI : HGet h5 x _ := ⟨s5.gx⟩
      haveI : BLt h.n h5 := ⟨by omega⟩
      haveI : BLt (h.n + 1) h5 := ⟨by omega⟩
      haveI : BLt x h5 := ⟨by omega⟩
      obtain ⟨pl_h5, hpl_h5, hrr_h5⟩ := s5.rr.ex
      haveI : HGet h5 p _ := ⟨hrr_h5.get⟩
      repeat (first | refine O.one ?_ | refine O.nil ?_ | refine C.next ?_ | refine RunC.seq ?_ | refine RunC.region ?_ | refine RunC.skip ?_ | refine C.ifT ?_ | refine C.ifF ?_)
      try refine C.if (fun hh => absurd hh (by decide)) (fun _ => ?_)
      skip
      try refine C.if (fun _ => ?_) (fun hh => absurd rfl hh)
      skip
      have kb := RBytes_run (most := 65536) s5.rr
      rw [rd_stop h3e] at kb
      refine O.call' kb (fun r h7 hr => ?_)
      obtain ⟨hf7, ⟨ho7, hn7⟩, hr7⟩ := hr
      have s7 := s5.step hf7 hr7
      simp only at ho7
      have hlt_h7 := s7.lt
      haveI : HGet h7 h.n _ := ⟨s7.ga⟩
      haveI : HGet h7 (h.n + 1) _ := ⟨s7.gb⟩
      haveI : HGet h7 x _ := ⟨s7.gx⟩
      haveI : BLt h.n h7 := ⟨by omega⟩
      haveI : BLt (h.n + 1) h7 := ⟨by omega⟩
      haveI : BLt x h7 := ⟨by omega⟩
      obtain ⟨pl_h7, hpl_h7, hrr_h7⟩ := s7.rr.ex
      haveI : HGet h7 p _ := ⟨hrr_h7.get⟩
      skip
      refine O.call' (RBDecode_ok (bs := []) ho7.rd (by simp)) (fun r h8 hr => ?_)
      obtain ⟨sv, sl, rfl, hO, hf8⟩ := hr
      have hokb := decB_ok []
      have hzb := decB_zero []
      generalize decB [] = D at *
      obtain ⟨X, E', A'⟩ := D
      simp only at hO hokb hzb hdec ⊢
      obtain ⟨av, cv, rfl, _, _⟩ := hO.votes.rd
      obtain ⟨al, cl, rfl, _, _⟩ := hO.vals.rd
      haveI := l32 hokb.h.prev
      haveI := l32 hokb.h.vals
      haveI := l32 hokb.h.next
      haveI := l32 hokb.h.app
      haveI := l32 hokb.hash
      have s8 := s7.none hf8
      have hlt_h8 := s8.lt
      haveI : HGet h8 h.n _ := ⟨s8.ga⟩
      haveI : HGet h8 (h.n + 1) _ := ⟨s8.gb⟩
      haveI : HGet h8 x _ := ⟨s8.gx⟩
      haveI : BLt h.n h8 := ⟨by omega⟩
      haveI : BLt (h.n + 1) h8 := ⟨by omega⟩
      haveI : BLt x h8 := ⟨by omega⟩
      obtain ⟨pl_h8, hpl_h8, hrr_h8⟩ := s8.rr.ex
      haveI : HGet h8 p _ := ⟨hrr_h8.get⟩
      repeat (first | refine O.one ?_ | refine O.nil ?_ | refine C.next ?_ | refine RunC.seq ?_ | refine RunC.region ?_ | refine O.one0 ?_)
      generalize hh9 : (((h8.push (.cells zBc 0)).push (.cells [.int .i64 0, .int .i64 0] 0)).set h8.n (.cells (X.cells (.slice av X.c.votes.length cv) (.slice al X.vals.length cl)) 0)).set (h8.push (.cells zBc 0)).n (.cells [.int .i64 E', .int .i64 A'] 0) = h9
      generalize hh8 : (h8.push (.cells zBc 0)).n = f8 at *
      have hf8n : f8 = h8.n + 1 := by rw [← hh8]; simp
      have hf89 : Fr (fun _ => False) h8 h9 := by rw [← hh9]; exact Fr.set (Fr.set Fr.refl.push.push fun hlt => by omega) fun hlt => by omega
      haveI hX9 : HGet h9 h8.n (.cells (X.cells (.slice av X.c.votes.length cv) (.slice al X.vals.length cl)) 0) := ⟨by rw [← hh9, Heap.get_set, if_neg (by omega), Heap.get_set, if_pos rfl]⟩
      haveI hF9 : HGet h9 f8 (.cells [.int .i64 E', .int .i64 A'] 0) := ⟨by rw [← hh9, Heap.get_set, if_pos rfl]⟩
      have hn9 : h9.n = h8.n + 2 := by rw [← hh9]; simp
      clear hh9 hh8
      have s9 := s8.none hf89
      have hlt_h9 := s9.lt
      haveI : HGet h9 h.n _ := ⟨s9.ga⟩
      haveI : HGet h9 (h.n + 1) _ := ⟨s9.gb⟩
      haveI : HGet h9 x _ := ⟨s9.gx⟩
      haveI : BLt h.n h9 := ⟨by omega⟩
      haveI : BLt (h.n + 1) h9 := ⟨by omega⟩
      haveI : BLt x h9 := ⟨by omega⟩
      obtain ⟨pl_h9, hpl_h9, hrr_h9⟩ := s9.rr.ex
      haveI : HGet h9 p _ := ⟨hrr_h9.get⟩
      haveI : BNe h8.n h.n := ⟨by omega⟩
      haveI : BNe h.n h8.n := ⟨by omega⟩
      haveI : BNe h8.n (h.n + 1) := ⟨by omega⟩
      haveI : BNe (h.n + 1) h8.n := ⟨by omega⟩
      haveI : BNe h8.n x := ⟨by omega⟩
      haveI : BNe x h8.n := ⟨by omega⟩
      haveI : BNe h8.n p := ⟨by omega⟩
      haveI : BNe p h8.n := ⟨by omega⟩
      haveI : BNe f8 x := ⟨by omega⟩
      haveI : BNe x f8 := ⟨by omega⟩
      haveI : BNe f8 p := ⟨by omega⟩
      haveI : BNe p f8 := ⟨by omega⟩
      haveI : BLt h8.n h9 := ⟨by omega⟩
      haveI : BLt f8 h9 := ⟨by omega⟩
      repeat (first | refine O.one ?_ | refine O.nil ?_ | refine C.next ?_ | refine RunC.seq ?_ | refine RunC.region ?_ | refine RunC.skip ?_ | refine O.one0 ?_ | refine O.skT ?_ | refine C.ifF ?_)
      try refine O.dec (fun hh => absurd hh h3e) (fun _ => ?_)
      skip
      have s9' := s9.setx (c' := .int .i64 ((2 : Nat) : Int) :: .int .i64 0 :: .int .i64 0 :: .int .i64 (i : Nat) :: X.cells (.slice av X.c.votes.length cv) (.slice al X.vals.length cl))
      have kE := REnd_run s9'.rr
      rw [endS_bad h3e] at kE
      refine O.call' kE (fun r hE hr => ?_)
      obtain ⟨rfl, hfE⟩ := hr
      have sE := s9'.none hfE
      have hlt_hE := sE.lt
      haveI : HGet hE h.n _ := ⟨sE.ga⟩
      haveI : HGet hE (h.n + 1) _ := ⟨sE.gb⟩
      haveI : HGet hE x _ := ⟨sE.gx⟩
      haveI : BLt h.n hE := ⟨by omega⟩
      haveI : BLt (h.n + 1) hE := ⟨by omega⟩
      haveI : BLt x hE := ⟨by omega⟩
      obtain ⟨pl_hE, hpl_hE, hrr_hE⟩ := sE.rr.ex
      haveI : HGet hE p _ := ⟨hrr_hE.get⟩
      haveI : BNe hE.n h.n := ⟨by omega⟩
      haveI : BNe h.n hE.n := ⟨by omega⟩
      haveI : BNe hE.n (h.n + 1) := ⟨by omega⟩
      haveI : BNe (h.n + 1) hE.n := ⟨by omega⟩
      haveI : BNe hE.n x := ⟨by omega⟩
      haveI : BNe x hE.n := ⟨by omega⟩
      haveI : BNe hE.n p := ⟨by omega⟩
      haveI : BNe p hE.n := ⟨by omega⟩
      repeat (first | refine O.one ?_ | refine O.nil ?_ | refine C.next ?_ | refine RunC.seq ?_ | refine RunC.region ?_ | refine RunC.ret ?_ | refine RunC.regionD ?_ | refine D.one rfl ?_ | refine D.nil ?_ | refine O.one0 ?_ | refine D.one0 rfl ?_ | refine D.one0s ?_ | refine C.ret2 ?_ | refine C.ifT ?_ | refine B.ret ?_)
      try refine C.ifN (fun hc => ?_) (fun hc => absurd hc h3e)
      skip
      rw [hD]
      exact ⟨_, _, rfl, .zero, Fr.set (Fr.set sE.fr.push fun hlt => by omega) fun hlt => by omega⟩
    rw [if_pos hM] at hdec
    repeat (first | refine O.one ?_ | refine O.nil ?_ | refine C.next ?_ | refine RunC.seq ?_ | refine RunC.region ?_ | refine RunC.skip ?_ | refine C.ifT ?_ | refine C.ifF ?_)
    try first | rw [if_neg (show ¬ ((2 : Nat) = 1) by omega)] at hdec | rw [if_neg (fun h : False => h)] at hdec
    try refine C.if (fun hh => absurd hh (by decide)) (fun _ => ?_)
    skip
    try refine C.if (fun _ => ?_) (fun hh => absurd rfl hh)
    skip
    have kb := RBytes_run (most := 65536) s4.rr
    have hbl : (rd (bytesS bs 65536) [] sti).1.length ≤ bs.length := rd_bytes_len
    generalize (rd (bytesS bs 65536) [] sti) = b at *
    obtain ⟨l, stb⟩ := b
    refine O.call' kb (fun r h7 hr => ?_)
    obtain ⟨hf7, ⟨ho7, hn7⟩, hr7⟩ := hr
    simp only at ho7 hr7 hbl hdec
    have s7 := s4.step hf7 hr7
    have hlt_h7 := s7.lt
    haveI : HGet h7 h.n _ := ⟨s7.ga⟩
    haveI : HGet h7 (h.n + 1) _ := ⟨s7.gb⟩
    haveI : HGet h7 x _ := ⟨s7.gx⟩
    haveI : BLt h.n h7 := ⟨by omega⟩
    haveI : BLt (h.n + 1) h7 := ⟨by omega⟩
    haveI : BLt x h7 := ⟨by omega⟩
    obtain ⟨pl_h7, hpl_h7, hrr_h7⟩ := s7.rr.ex
    haveI : HGet h7 p _ := ⟨hrr_h7.get⟩
    skip
    refine O.call' (RBDecode_ok (bs := l) ho7.rd (by omega)) (fun r h8 hr => ?_)
    obtain ⟨sv, sl, rfl, hO, hf8⟩ := hr
    have hokb := decB_ok l
    have hzb := decB_zero l
    generalize decB l = D at *
    obtain ⟨X, E', A'⟩ := D
    simp only at hO hokb hzb hdec ⊢
    obtain ⟨av, cv, rfl, _, _⟩ := hO.votes.rd
    obtain ⟨al, cl, rfl, _, _⟩ := hO.vals.rd
    haveI := l32 hokb.h.prev
    haveI := l32 hokb.h.vals
    haveI := l32 hokb.h.next
    haveI := l32 hokb.h.app
    haveI := l32 hokb.hash
    have s8 := s7.none hf8
    have hlt_h8 := s8.lt
    haveI : HGet h8 h.n _ := ⟨s8.ga⟩
    haveI : HGet h8 (h.n + 1) _ := ⟨s8.gb⟩
    haveI : HGet h8 x _ := ⟨s8.gx⟩
    haveI : BLt h.n h8 := ⟨by omega⟩
    haveI : BLt (h.n + 1) h8 := ⟨by omega⟩
    haveI : BLt x h8 := ⟨by omega⟩
    obtain ⟨pl_h8, hpl_h8, hrr_h8⟩ := s8.rr.ex
    haveI : HGet h8 p _ := ⟨hrr_h8.get⟩
    repeat (first | refine O.one ?_ | refine O.nil ?_ | refine C.next ?_ | refine RunC.seq ?_ | refine RunC.region ?_ | refine O.one0 ?_)
    generalize hh9 : (((h8.push (.cells zBc 0)).push (.cells [.int .i64 0, .int .i64 0] 0)).set h8.n (.cells (X.cells (.slice av X.c.votes.length cv) (.slice al X.vals.length cl)) 0)).set (h8.push (.cells zBc 0)).n (.cells [.int .i64 E', .int .i64 A'] 0) = h9
    generalize hh8 : (h8.push (.cells zBc 0)).n = f8 at *
    have hf8n : f8 = h8.n + 1 := by rw [← hh8]; simp
    have hf89 : Fr (fun _ => False) h8 h9 := by rw [← hh9]; exact Fr.set (Fr.set Fr.refl.push.push fun hlt => by omega) fun hlt => by omega
    haveI hX9 : HGet h9 h8.n (.cells (X.cells (.slice av X.c.votes.length cv) (.slice al X.vals.length cl)) 0) := ⟨by rw [← hh9, Heap.get_set, if_neg (by omega), Heap.get_set, if_pos rfl]⟩
    haveI hF9 : HGet h9 f8 (.cells [.int .i64 E', .int .i64 A'] 0) := ⟨by rw [← hh9, Heap.get_set, if_pos rfl]⟩
    have hn9 : h9.n = h8.n + 2 := by rw [← hh9]; simp
    clear hh9 hh8
    have s9 := s8.none hf89
    have hlt_h9 := s9.lt
    haveI : HGet h9 h.n _ := ⟨s9.ga⟩
    haveI : HGet h9 (h.n + 1) _ := ⟨s9.gb⟩
    haveI : HGet h9 x _ := ⟨s9.gx⟩
    haveI : BLt h.n h9 := ⟨by omega⟩
    haveI : BLt (h.n + 1) h9 := ⟨by omega⟩
    haveI : BLt x h9 := ⟨by omega⟩
    obtain ⟨pl_h9, hpl_h9, hrr_h9⟩ := s9.rr.ex
    haveI : HGet h9 p _ := ⟨hrr_h9.get⟩
    haveI : BNe h8.n h.n := ⟨by omega⟩
    haveI : BNe h.n h8.n := ⟨by omega⟩
    haveI : BNe h8.n (h.n + 1) := ⟨by omega⟩
    haveI : BNe (h.n + 1) h8.n := ⟨by omega⟩
    haveI : BNe h8.n x := ⟨by omega⟩
    haveI : BNe x h8.n := ⟨by omega⟩
    haveI : BNe h8.n p := ⟨by omega⟩
    haveI : BNe p h8.n := ⟨by omega⟩
    haveI : BNe f8 x := ⟨by omega⟩
    haveI : BNe x f8 := ⟨by omega⟩
    haveI : BNe f8 p := ⟨by omega⟩
    haveI : BNe p f8 := ⟨by omega⟩
    haveI : BLt h8.n h9 := ⟨by omega⟩
    haveI : BLt f8 h9 := ⟨by omega⟩
    repeat (first | refine O.one ?_)
    by_cases heb : stb.e = 0
    rotate_left
    · have hD : decM bs = (zMs, (stb.e, stb.fa)) := by rw [hdec, if_neg heb]
      try refine O.dec (fun hh => absurd hh heb) (fun _ => ?_)
      repeat (first | refine O.one ?_ | refine O.nil ?_ | refine C.next ?_ | refine RunC.seq ?_ | refine RunC.region ?_ | refine RunC.skip ?_ | refine O.one0 ?_ | refine O.skT ?_ | refine C.ifF ?_)
      have s9' := s9.setx (c' := .int .i64 ((2 : Nat) : Int) :: .int .i64 0 :: .int .i64 0 :: .int .i64 (i : Nat) :: X.cells (.slice av X.c.votes.length cv) (.slice al X.vals.length cl))
      have kE := REnd_run s9'.rr
      rw [endS_bad heb] at kE
      refine O.call' kE (fun r hE hr => ?_)
      obtain ⟨rfl, hfE⟩ := hr
      have sE := s9'.none hfE
      have hlt_hE := sE.lt
      haveI : HGet hE h.n _ := ⟨sE.ga⟩
      haveI : HGet hE (h.n + 1) _ := ⟨sE.gb⟩
      haveI : HGet hE x _ := ⟨sE.gx⟩
      haveI : BLt h.n hE := ⟨by omega⟩
      haveI : BLt (h.n + 1) hE := ⟨by omega⟩
      haveI : BLt x hE := ⟨by omega⟩
      obtain ⟨pl_hE, hpl_hE, hrr_hE⟩ := sE.rr.ex
      haveI : HGet hE p _ := ⟨hrr_hE.get⟩
      haveI : BNe hE.n h.n := ⟨by omega⟩
      haveI : BNe h.n hE.n := ⟨by omega⟩
      haveI : BNe hE.n (h.n + 1) := ⟨by omega⟩
      haveI : BNe (h.n + 1) hE.n := ⟨by omega⟩
      haveI : BNe hE.n x := ⟨by omega⟩
      haveI : BNe x hE.n := ⟨by omega⟩
      haveI : BNe hE.n p := ⟨by omega⟩
      haveI : BNe p hE.n := ⟨by omega⟩
      repeat (first | refine O.one ?_ | refine O.nil ?_ | refine C.next ?_ | refine RunC.seq ?_ | refine RunC.region ?_ | refine O.one0 ?_)
      try refine C.ifN (fun hc => ?_) (fun hc => absurd hc heb)
      repeat (first | refine C.next ?_ | refine RunC.seq ?_ | refine RunC.ret ?_ | refine RunC.regionD ?_ | refine D.one rfl ?_ | refine D.nil ?_ | refine D.one0 rfl ?_ | refine D.one0s ?_ | refine C.ret2 ?_ | refine B.ret ?_)
      rw [hD]
      exact ⟨_, _, rfl, .zero, Fr.set (Fr.set sE.fr.push fun hlt => by omega) fun hlt => by omega⟩
    rw [if_pos heb] at hdec
    refine O.dec (fun _ => ?_) (fun hh => absurd heb hh)
    repeat (first | refine O.one ?_ | refine O.nil ?_ | refine C.next ?_ | refine O.oneT ?_)
    refine C.ifN (fun hE' => ?_) (fun hE' => ?_)
    · have hD : decM bs = (zMs, (5, (sti.pl : Int))) := by rw [hdec, if_neg (fun h => hE' (Prod.mk.inj h).1)]
      have h5e : (⟨0, 5, (sti.pl : Int)⟩ : RSt).e ≠ 0 := (show (5 : Int) ≠ 0 by decide)
      repeat (first | refine O.one ?_ | refine RunC.region ?_)
      refine O.call' (RFails_run (e := 5) (a := (sti.pl : Int)) s9.rr heb (by decide)) (fun r hX hr => ?_)
      obtain ⟨hrX, hfX⟩ := hr
      have sX := s9.step hfX hrX
      have hlt_hX := sX.lt
      haveI : HGet hX h.n _ := ⟨sX.ga⟩
      haveI : HGet hX (h.n + 1) _ := ⟨sX.gb⟩
      haveI : HGet hX x _ := ⟨sX.gx⟩
      haveI : BLt h.n hX := ⟨by omega⟩
      haveI : BLt (h.n + 1) hX := ⟨by omega⟩
      haveI : BLt x hX := ⟨by omega⟩
      obtain ⟨pl_hX, hpl_hX, hrr_hX⟩ := sX.rr.ex
      haveI : HGet hX p _ := ⟨hrr_hX.get⟩
      haveI hXX := hfX.keep hX9 (by omega) (by omega)
      repeat (first | refine O.one ?_ | refine O.nil ?_ | refine C.next ?_ | refine RunC.seq ?_ | refine RunC.region ?_ | refine O.one0 ?_)
      have sX' := sX.setx (c' := .int .i64 ((2 : Nat) : Int) :: .int .i64 0 :: .int .i64 0 :: .int .i64 (i : Nat) :: X.cells (.slice av X.c.votes.length cv) (.slice al X.vals.length cl))
      have kE := REnd_run sX'.rr
      rw [endS_bad h5e] at kE
      refine O.call' kE (fun r hE hr => ?_)
      obtain ⟨rfl, hfE⟩ := hr
      have sE := sX'.none hfE
      have hlt_hE := sE.lt
      haveI : HGet hE h.n _ := ⟨sE.ga⟩
      haveI : HGet hE (h.n + 1) _ := ⟨sE.gb⟩
      haveI : HGet hE x _ := ⟨sE.gx⟩
      haveI : BLt h.n hE := ⟨by omega⟩
      haveI : BLt (h.n + 1) hE := ⟨by omega⟩
      haveI : BLt x hE := ⟨by omega⟩
      obtain ⟨pl_hE, hpl_hE, hrr_hE⟩ := sE.rr.ex
      haveI : HGet hE p _ := ⟨hrr_hE.get⟩
      haveI : BNe hE.n h.n := ⟨by omega⟩
      haveI : BNe h.n hE.n := ⟨by omega⟩
      haveI : BNe hE.n (h.n + 1) := ⟨by omega⟩
      haveI : BNe (h.n + 1) hE.n := ⟨by omega⟩
      haveI : BNe hE.n x := ⟨by omega⟩
      haveI : BNe x hE.n := ⟨by omega⟩
      haveI : BNe hE.n p := ⟨by omega⟩
      haveI : BNe p hE.n := ⟨by omega⟩
      repeat (first | refine O.one ?_ | refine O.nil ?_ | refine C.next ?_ | refine RunC.seq ?_ | refine RunC.region ?_ | refine RunC.ret ?_ | refine RunC.regionD ?_ | refine D.one rfl ?_ | refine D.nil ?_ | refine O.one0 ?_ | refine D.one0 rfl ?_ | refine D.one0s ?_ | refine C.ret2 ?_ | refine C.ifT ?_ | refine B.ret ?_)
      try refine C.ifN (fun hc => ?_) (fun hc => absurd hc h5e)
      skip
      rw [hD]
      exact ⟨_, _, rfl, .zero, Fr.set (Fr.set sE.fr.push fun hlt => by omega) fun hlt => by omega⟩
    obtain rfl := hE'
    obtain rfl := hzb rfl
    rw [if_pos rfl] at hdec
    repeat (first | refine O.one ?_ | refine O.nil ?_ | refine C.next ?_ | refine RunC.seq ?_ | refine RunC.region ?_ | refine RunC.skip ?_ | refine O.one0 ?_)
    have s9' := s9.setx (c' := .int .i64 ((2 : Nat) : Int) :: .int .i64 0 :: .int .i64 0 :: .int .i64 (i : Nat) :: X.cells (.slice av X.c.votes.length cv) (.slice al X.vals.length cl))
    have kE := REnd_run s9'.rr
    have hzz := s9'.rr.zero
    unfold endM at hdec
    generalize endS bs _ = F at *
    obtain ⟨E, A⟩ := F
    simp only at hzz
    refine O.call' kE (fun r hE hr => ?_)
    obtain ⟨rfl, hfE⟩ := hr
    have sE := s9'.none hfE
    have hlt_hE := sE.lt
    haveI : HGet hE h.n _ := ⟨sE.ga⟩
    haveI : HGet hE (h.n + 1) _ := ⟨sE.gb⟩
    haveI : HGet hE x _ := ⟨sE.gx⟩
    haveI : BLt h.n hE := ⟨by omega⟩
    haveI : BLt (h.n + 1) hE := ⟨by omega⟩
    haveI : BLt x hE := ⟨by omega⟩
    obtain ⟨pl_hE, hpl_hE, hrr_hE⟩ := sE.rr.ex
    haveI : HGet hE p _ := ⟨hrr_hE.get⟩
    haveI : BNe hE.n h.n := ⟨by omega⟩
    haveI : BNe h.n hE.n := ⟨by omega⟩
    haveI : BNe hE.n (h.n + 1) := ⟨by omega⟩
    haveI : BNe (h.n + 1) hE.n := ⟨by omega⟩
    haveI : BNe hE.n x := ⟨by omega⟩
    haveI : BNe x hE.n := ⟨by omega⟩
    haveI : BNe hE.n p := ⟨by omega⟩
    haveI : BNe p hE.n := ⟨by omega⟩
    repeat (first | refine O.one ?_ | refine O.nil ?_ | refine C.next ?_ | refine RunC.seq ?_ | refine RunC.region ?_ | refine O.one0 ?_)
    refine C.ifN (fun hc => ?_) (fun hc => ?_)
    · repeat (first | refine C.next ?_ | refine RunC.seq ?_ | refine RunC.ret ?_ | refine RunC.regionD ?_ | refine D.one rfl ?_ | refine D.nil ?_ | refine D.one0 rfl ?_ | refine D.one0s ?_ | refine C.ret2 ?_ | refine B.ret ?_)
      rw [hdec, if_neg (fun h => hc (Prod.mk.inj h).1)]
      exact ⟨_, _, rfl, .zero, Fr.set (Fr.set sE.fr.push fun hlt => by omega) fun hlt => by omega⟩
    · obtain rfl := hc
      obtain rfl := hzz rfl
      repeat (first | refine C.next ?_ | refine RunC.seq ?_ | refine RunC.skip ?_ | refine RunC.ret ?_ | refine RunC.regionD ?_ | refine D.one rfl ?_ | refine D.nil ?_ | refine D.one0 rfl ?_ | refine D.one0s ?_ | refine B.ret ?_)
      rw [hdec, if_pos rfl]
      exact ⟨_, _, rfl, BkOwn.lower' (hO.keep (S := fun i => i = x ∨ i = h.n ∨ i = h.n + 1) (Fr.set (Fr.set (Fr.push (Fr.trans (S := fun i => i = x ∨ i = h.n ∨ i = h.n + 1) ((hf89.mono fun _ _ h => h.elim).set fun _ => .inl rfl) hfE fun _ _ h => h.elim)) fun _ => .inr (.inl rfl)) fun _ => .inr (.inr rfl)) fun i hi => .inl (by omega)) (by omega), Fr.set (Fr.set sE.fr.push fun hlt => by omega) fun hlt => by omega⟩
end Go.Proofs.YtfpnmcogfamhaaaGreat.A

namespace Go.Proofs.YtfpnmcogfamhaaaGreat.A
open Go Go.Vm
set_option maxRecDepth 10000
set_option linter.unusedVariables false
theorem laid2 {h : Heap} {z z' c c' : List Value} {b : Nat} (hb : b = h.n + 1) :
    Fr (fun _ => False) h ((((h.push (.cells z 0)).push (.cells z' 0)).set h.n (.cells c 0)).set b (.cells c' 0)) ∧ HGet ((((h.push (.cells z 0)).push (.cells z' 0)).set h.n (.cells c 0)).set b (.cells c' 0)) h.n (.cells c 0) ∧ HGet ((((h.push (.cells z 0)).push (.cells z' 0)).set h.n (.cells c 0)).set b (.cells c' 0)) b (.cells c' 0) ∧ ((((h.push (.cells z 0)).push (.cells z' 0)).set h.n (.cells c 0)).set b (.cells c' 0)).n = h.n + 2 :=
  ⟨Fr.set (Fr.set Fr.refl.push.push fun hlt => by omega) fun hlt => by omega, ⟨by rw [Heap.get_set, if_neg (by omega), Heap.get_set, if_pos rfl]⟩, ⟨by rw [Heap.get_set, if_pos rfl]⟩, by simp⟩

set_option maxHeartbeats 8000000 in
theorem MsgDecodes_true {h : Heap} {v : Value} {bs : List UInt8} (hv : Rd h 1 v (bcells bs) bs.length) : Runs Tryz.prog T0 (.fn fn_ll14_MsgDecodes) [v] h (fun r h' => r = .bool true) (fun _ _ => False) := by
  have hv' := hv
  obtain ⟨a0, cap0, rfl, hl0, _⟩ := hv
  refine ll14_MsgDecodes_runs ?_
  repeat (first | refine O.one ?_ | refine O.nil ?_ | refine C.next ?_ | refine RunC.seq ?_ | refine RunC.region ?_)
  refine C.if (fun hlong => ?_) (fun hshort => ?_)
  · repeat (first | refine RunC.seq ?_ | refine RunC.region ?_)
    refine O.call' ll14_awake_known (fun r h1 hr => ?_)
    obtain ⟨rfl, rfl⟩ := hr
    repeat (first | refine O.one ?_ | refine O.nil ?_ | refine C.next ?_ | refine RunC.ret ?_ | refine C.ret2 ?_ | refine B.ret ?_)
    rfl
  repeat (first | refine O.one ?_ | refine C.next ?_ | refine RunC.seq ?_ | refine RunC.region ?_ | refine RunC.skip ?_)
  refine O.call' (LentBytes_ok hv' (by omega)) (fun r h1 hr => ?_)
  obtain ⟨hL, hf1⟩ := hr
  repeat (first | refine O.one ?_ | refine O.nil ?_ | refine C.next ?_ | refine RunC.seq ?_ | refine RunC.region ?_)
  refine O.call' (MDecode_ok hL.rd (by omega)) (fun r h2 hr => ?_)
  obtain ⟨sv, sl, rfl, hO2, hf2⟩ := hr
  have k5 := fun {hh : Heap} (hr : Rd hh 1 (.slice a0 bs.length cap0) (bcells bs) bs.length) => RMDecode_ok hr (by omega)
  have hok := decM_ok bs
  generalize decM bs = D at *
  obtain ⟨X, e, a⟩ := D
  simp only at hO2 k5 hok ⊢
  obtain ⟨av, cv, rfl, _, _⟩ := hO2.votes.rd
  obtain ⟨al, cl, rfl, _, _⟩ := hO2.vals.rd
  haveI := l32 hok.h.prev
  haveI := l32 hok.h.vals
  haveI := l32 hok.h.next
  haveI := l32 hok.h.app
  haveI := l32 hok.hash
  have hn12 := hf2.n
  repeat (first | refine O.one ?_ | refine O.nil ?_ | refine C.next ?_ | refine RunC.seq ?_ | refine RunC.region ?_ | refine O.one0 ?_)
  generalize hb5 : (h2.push (.cells zMc 0)).n = b5
  have hb5' : b5 = h2.n + 1 := by rw [← hb5]; rfl
  clear hb5
  obtain ⟨hf23, hA3, hB3, hn3⟩ := laid2 (h := h2) (z := zMc) (z' := [.int .i64 0, .int .i64 0]) (c := X.cells (.slice av X.b.c.votes.length cv) (.slice al X.b.vals.length cl)) (c' := [.int .i64 e, .int .i64 a]) hb5'
  generalize ((((h2.push (.cells zMc 0)).push (.cells [.int .i64 0, .int .i64 0] 0)).set h2.n (.cells (X.cells (.slice av X.b.c.votes.length cv) (.slice al X.b.vals.length cl)) 0)).set b5 (.cells [.int .i64 e, .int .i64 a] 0)) = h3 at *
  have hf13 := hf2.trans' hf23
  refine O.call' (k5 ((hv'.keep hf1 fun _ _ => id).keep hf13 fun _ _ => id)) (fun r h4 hr => ?_)
  obtain ⟨sw, sm, rfl, hO4, hf4⟩ := hr
  obtain ⟨aw, cw, rfl, _, _⟩ := hO4.votes.rd
  obtain ⟨am, cm, rfl, _, _⟩ := hO4.vals.rd
  have hn34 := hf4.n
  have hA4 := hf4.keep hA3 (by omega) id
  have hB4 := hf4.keep hB3 (by omega) id
  repeat (first | refine O.one ?_ | refine O.nil ?_ | refine C.next ?_ | refine RunC.seq ?_ | refine RunC.region ?_ | refine O.one0 ?_)
  generalize hb7 : (h4.push (.cells zMc 0)).n = b7
  have hb7' : b7 = h4.n + 1 := by rw [← hb7]; rfl
  clear hb7
  obtain ⟨hf45, hC5, hD5, hn5⟩ := laid2 (h := h4) (z := zMc) (z' := [.int .i64 0, .int .i64 0]) (c := X.cells (.slice aw X.b.c.votes.length cw) (.slice am X.b.vals.length cm)) (c' := [.int .i64 e, .int .i64 a]) hb7'
  generalize ((((h4.push (.cells zMc 0)).push (.cells [.int .i64 0, .int .i64 0] 0)).set h4.n (.cells (X.cells (.slice aw X.b.c.votes.length cw) (.slice am X.b.vals.length cm)) 0)).set b7 (.cells [.int .i64 e, .int .i64 a] 0)) = h5 at *
  haveI hA5 := hf45.keep hA4 (by omega) id
  haveI hB5 := hf45.keep hB4 (by omega) id
  haveI := hC5
  haveI := hD5
  have hf25 := (hf23.trans' hf4).trans' hf45
  have hO5 := hO2.keep hf25 fun i h => h.elim
  have hP5 := hO4.keep hf45 fun i h => h.elim
  repeat (first | refine O.one ?_)
  refine O.call' (SameMsg_same hok hO5.votes.rd hO5.vals.rd hP5.votes.rd hP5.vals.rd) (fun r h6 hr => ?_)
  obtain ⟨rfl, hf6⟩ := hr
  have hn56 := hf6.n
  haveI hA6 := hf6.keep hA5 (by omega) id
  haveI hB6 := hf6.keep hB5 (by omega) id
  haveI hC6 := hf6.keep hC5 (by omega) id
  haveI hD6 := hf6.keep hD5 (by omega) id
  repeat (first | refine O.one ?_ | refine O.nil ?_ | refine C.next ?_ | refine RunC.seq ?_ | refine RunC.region ?_ | refine O.oneT ?_)
  rw [same_self]
  skip
  refine O.call' (OverBlock_ok hok (hO5.keep hf6 fun i h => h.elim)) (fun r h7 hr => ?_)
  have hf7 := hr
  repeat (first | refine O.one ?_ | refine O.nil ?_ | refine C.next ?_ | refine RunC.seq ?_ | refine RunC.region ?_ | refine O.oneT ?_)
  have hf17 : Fr (fun i => h1.n ≤ i) h1 h7 := Fr.trans (S := fun i => h1.n ≤ i) (((hf2.trans' hf25).trans' hf6).mono fun _ _ h => h.elim) hf7 fun _ _ h => h
  refine O.callT (lk_KeptBytes_kept (Lent.kept (hL.keep hf17 fun i hi => .inr hi) ((hv'.keep hf1 fun _ _ => id).keep hf17 fun i hi h => ?_) (by omega))) (fun r4 h8 hr => ?_)
  · have := Rd.block_lt (hv'.keep hf1 fun _ _ => id) hi
    omega
  obtain ⟨rfl, rfl⟩ := hr
  repeat (first | refine O.one ?_)
  refine O.callT ll14_awake_known (fun r5 h9 hr => ?_)
  obtain ⟨rfl, rfl⟩ := hr
  repeat (first | refine O.one ?_ | refine O.nil ?_ | refine C.next ?_ | refine RunC.ret ?_ | refine B.ret ?_)
  rfl
def pickS (x n : Int) : Int := if n ≤ 0 then 0 else x % n
theorem Pick_ok {h : Heap} {x n : Int} (hn : n ≤ 9223372036854775807) : Runs Tryz.prog T0 (.fn fn_lk_Pick) [.int .i64 x, .int .i64 n] h (fun r h' => r = .int .i64 (pickS x n) ∧ h' = h) (fun _ _ => False) := by
  refine lk_Pick_runs ?_
  repeat (first | refine O.one ?_ | refine O.nil ?_ | refine C.next ?_ | refine RunC.seq ?_ | refine RunC.region ?_)
  unfold pickS
  refine C.if (fun h0 => ?_) (fun h0 => ?_)
  · repeat (first | refine O.one ?_ | refine O.nil ?_ | refine C.next ?_ | refine RunC.seq ?_ | refine RunC.region ?_ | refine RunC.ret ?_ | refine C.ret2 ?_ | refine B.ret ?_)
    rw [if_pos h0]
    exact ⟨rfl, rfl⟩
  · repeat (first | refine O.one ?_ | refine C.next ?_ | refine RunC.seq ?_ | refine RunC.region ?_ | refine RunC.skip ?_)
    refine O.how (XOp.remI (by omega)) ?_
    have h1 := Int.tmod_lt_of_pos x (show 0 < n by omega)
    have h2 : -n < x.tmod n := by
      have := Int.lt_tmod_of_pos x (show 0 < n by omega)
      omega
    have e := Int.tmod_eq_emod (a := x) (b := n)
    have p1 := Int.emod_nonneg x (show n ≠ 0 by omega)
    have p2 := Int.emod_lt_of_pos x (show 0 < n by omega)
    have p3 : (n.natAbs : Int) = n := Int.natAbs_of_nonneg (by omega)
    repeat (first | refine O.one ?_ | refine O.nil ?_ | refine C.next ?_ | refine RunC.seq ?_ | refine RunC.region ?_)
    rw [if_neg h0]
    refine C.if (fun h3 => ?_) (fun h3 => ?_)
    · repeat (first | refine O.how (XOp.addI (by omega)) ?_ | refine O.one ?_ | refine O.nil ?_ | refine C.next ?_ | refine RunC.seq ?_ | refine RunC.region ?_ | refine RunC.ret ?_ | refine B.ret ?_)
      refine ⟨?_, rfl⟩
      congr 1
      split at e <;> omega
    · repeat (first | refine O.one ?_ | refine O.nil ?_ | refine C.next ?_ | refine RunC.seq ?_ | refine RunC.region ?_ | refine RunC.skip ?_ | refine RunC.ret ?_ | refine B.ret ?_)
      refine ⟨?_, rfl⟩
      congr 1
      split at e <;> omega
theorem repeatL_zero : ∀ n : Nat, repeatL [.int .u8 0] n = bcells (List.replicate n 0)
  | 0 => rfl
  | n + 1 => by
    show [.int .u8 0] ++ repeatL [.int .u8 0] n = _
    rw [repeatL_zero n]
    rfl

set_option maxHeartbeats 8000000 in
theorem MsgLong_true {h : Heap} {x : Int} : Runs Tryz.prog T0 (.fn fn_ll14_MsgLong) [.int .i64 x] h (fun r h' => r = .bool true) (fun _ _ => False) := by
  refine ll14_MsgLong_runs ?_
  repeat (first | refine O.one ?_ | refine O.nil ?_ | refine C.next ?_ | refine RunC.seq ?_ | refine RunC.region ?_)
  refine O.call' (Pick_ok (x := x) (n := 11) (by omega)) (fun r h0 hr => ?_)
  obtain ⟨rfl, hh0⟩ := hr
  have hp : 0 ≤ pickS x 11 ∧ pickS x 11 < 11 := by
    unfold pickS
    rw [if_neg (by omega)]
    omega
  obtain ⟨k, hk⟩ : ∃ k : Nat, pickS x 11 = k := ⟨(pickS x 11).toNat, by omega⟩
  rw [hk] at hp ⊢
  have hc0 : cellsAt h0 h.n 0 (2 * 1) = some [.int .u8 1, .int .u8 1] := by
    rw [hh0, cellsAt_of (c := [.int .u8 1, .int .u8 1]) (by rw [Heap.get_push, if_pos rfl]; rfl) (by simp)]
    rfl
  repeat (first | refine O.how (XOp.addI (by omega)) ?_)
  obtain ⟨N, hN⟩ : ∃ N : Nat, N = 65528 + k := ⟨_, rfl⟩
  rw [show (65528 : Int) + (k : Nat) = (N : Nat) from by omega]
  refine O.by (v := .slice (some ⟨h0.n, 0, some 0⟩) (2 + N) (2 + N)) (h' := h0.push (.cells (bcells (1 :: 1 :: List.replicate N 0)) 1)) ?_ rfl ?_
  · show appendOf 1 1 [.int .u8 0] true (.slice (some ⟨h.n, 0, none⟩) 2 2) (.int .i64 (N : Nat)) h0 = _
    have hnew : newCells h0 1 [.int .u8 0] true (.int .i64 (N : Nat)) = some (N, bcells (List.replicate N 0)) := by
      simp only [newCells, Bool.true_and, Int.toNat_natCast, repeatL_zero]
      rw [if_pos (by simp)]
    unfold appendOf
    rw [if_neg (by decide), hnew]
    simp only
    rw [if_neg (by omega), if_neg (by omega), hc0]
    rfl
  have hlen : (1 :: 1 :: List.replicate N 0 : List UInt8).length = 2 + N := by simp; omega
  have hr1 : Rd (h0.push (.cells (bcells (1 :: 1 :: List.replicate N 0)) 1)) 1 (.slice (some ⟨h0.n, 0, some 0⟩) (2 + N) (2 + N)) (bcells (1 :: 1 :: List.replicate N 0)) (2 + N) := by
    refine Rd.mk (by simp) ?_
    rw [cellsAt_of (c := bcells (1 :: 1 :: List.replicate N 0)) (by rw [Heap.get_push, if_pos rfl]; rfl) (by rw [bcells_len, hlen]; omega), List.drop_zero, List.take_of_length_le (by rw [bcells_len, hlen]; omega)]
  generalize h0.push (.cells (bcells (1 :: 1 :: List.replicate N 0)) 1) = h1 at *
  generalize (some ⟨h0.n, 0, some 0⟩ : Option Addr) = a0 at *
  generalize (1 :: 1 :: List.replicate N 0 : List UInt8) = bs at *
  rw [← hlen] at hr1 ⊢
  repeat (first | refine O.one ?_ | refine O.nil ?_ | refine C.next ?_ | refine RunC.seq ?_ | refine RunC.region ?_)
  refine O.call' (MDecode_ok hr1 (by omega)) (fun r h2 hr => ?_)
  obtain ⟨sv, sl, rfl, hO2, hf2⟩ := hr
  have k5 := fun {hh : Heap} (hr : Rd hh 1 (.slice a0 bs.length bs.length) (bcells bs) bs.length) => RMDecode_ok hr (by omega)
  have hok := decM_ok bs
  generalize decM bs = D at *
  obtain ⟨X, e, a⟩ := D
  simp only at hO2 k5 hok ⊢
  obtain ⟨av, cv, rfl, _, _⟩ := hO2.votes.rd
  obtain ⟨al, cl, rfl, _, _⟩ := hO2.vals.rd
  haveI := l32 hok.h.prev
  haveI := l32 hok.h.vals
  haveI := l32 hok.h.next
  haveI := l32 hok.h.app
  haveI := l32 hok.hash
  have hn12 := hf2.n
  repeat (first | refine O.one ?_ | refine O.nil ?_ | refine C.next ?_ | refine RunC.seq ?_ | refine RunC.region ?_ | refine O.one0 ?_)
  generalize hb5 : (h2.push (.cells zMc 0)).n = b5
  have hb5' : b5 = h2.n + 1 := by rw [← hb5]; rfl
  clear hb5
  obtain ⟨hf23, hA3, hB3, hn3⟩ := laid2 (h := h2) (z := zMc) (z' := [.int .i64 0, .int .i64 0]) (c := X.cells (.slice av X.b.c.votes.length cv) (.slice al X.b.vals.length cl)) (c' := [.int .i64 e, .int .i64 a]) hb5'
  generalize ((((h2.push (.cells zMc 0)).push (.cells [.int .i64 0, .int .i64 0] 0)).set h2.n (.cells (X.cells (.slice av X.b.c.votes.length cv) (.slice al X.b.vals.length cl)) 0)).set b5 (.cells [.int .i64 e, .int .i64 a] 0)) = h3 at *
  have hf13 := hf2.trans' hf23
  refine O.call' (k5 (hr1.keep hf13 fun _ _ => id)) (fun r h4 hr => ?_)
  obtain ⟨sw, sm, rfl, hO4, hf4⟩ := hr
  obtain ⟨aw, cw, rfl, _, _⟩ := hO4.votes.rd
  obtain ⟨am, cm, rfl, _, _⟩ := hO4.vals.rd
  have hn34 := hf4.n
  have hA4 := hf4.keep hA3 (by omega) id
  have hB4 := hf4.keep hB3 (by omega) id
  repeat (first | refine O.one ?_ | refine O.nil ?_ | refine C.next ?_ | refine RunC.seq ?_ | refine RunC.region ?_ | refine O.one0 ?_)
  generalize hb7 : (h4.push (.cells zMc 0)).n = b7
  have hb7' : b7 = h4.n + 1 := by rw [← hb7]; rfl
  clear hb7
  obtain ⟨hf45, hC5, hD5, hn5⟩ := laid2 (h := h4) (z := zMc) (z' := [.int .i64 0, .int .i64 0]) (c := X.cells (.slice aw X.b.c.votes.length cw) (.slice am X.b.vals.length cm)) (c' := [.int .i64 e, .int .i64 a]) hb7'
  generalize ((((h4.push (.cells zMc 0)).push (.cells [.int .i64 0, .int .i64 0] 0)).set h4.n (.cells (X.cells (.slice aw X.b.c.votes.length cw) (.slice am X.b.vals.length cm)) 0)).set b7 (.cells [.int .i64 e, .int .i64 a] 0)) = h5 at *
  haveI hA5 := hf45.keep hA4 (by omega) id
  haveI hB5 := hf45.keep hB4 (by omega) id
  haveI := hC5
  haveI := hD5
  have hf25 := (hf23.trans' hf4).trans' hf45
  have hO5 := hO2.keep hf25 fun i h => h.elim
  have hP5 := hO4.keep hf45 fun i h => h.elim
  repeat (first | refine O.one ?_)
  refine O.call' (SameMsg_same hok hO5.votes.rd hO5.vals.rd hP5.votes.rd hP5.vals.rd) (fun r h6 hr => ?_)
  obtain ⟨rfl, hf6⟩ := hr
  have hn56 := hf6.n
  haveI hB6 := hf6.keep hB5 (by omega) id
  haveI hD6 := hf6.keep hD5 (by omega) id
  repeat (first | refine O.one ?_ | refine O.oneT ?_)
  rw [same_self]
  skip
  refine O.callT ll14_awake_known (fun r5 h9 hr => ?_)
  obtain ⟨rfl, rfl⟩ := hr
  repeat (first | refine O.one ?_ | refine O.nil ?_ | refine C.next ?_ | refine RunC.ret ?_ | refine B.ret ?_)
  rfl
end Go.Proofs.YtfpnmcogfamhaaaGreat.A
