/- Contracts of functions, over the machine. -/
import Derived.Test.YtbmpalbdbcjieaaGreatQBlockDecodes5
import Derived.Test.YtbmpalbdbcjieaaGreatVK
noncomputable section
namespace Go.Proofs.YtbmpalbdbcjieaaGreat.A
open Go Go.Vm
set_option maxRecDepth 10000
set_option linter.unusedVariables false
structure BSt (h H : Heap) (p x : Nat) (svr : Value) (bs : List UInt8) (c : List Value) (st : RSt) : Prop where
  ga : H.get h.n = .cells zBc 0
  gb : H.get (h.n + 1) = .cells [.int .i64 0, .int .i64 0] 0
  gx : H.get x = .cells c 0
  rr : RRs H p svr bs st
  fr : Fr (fun _ => False) h H
  lo : h.n + 2 ≤ p
  hi : p < x
  lt : x < H.n
  own : ∀ i, ownedBy svr i → h.n + 2 ≤ i ∧ i < x
theorem BSt.step {h H H' : Heap} {p x : Nat} {svr : Value} {bs : List UInt8} {c : List Value} {st st' : RSt} (hs : BSt h H p x svr bs c st) (hf : Fr (fun i => i = p) H H') (hr : RRs H' p svr bs st') : BSt h H' p x svr bs c st' := by
  have h1 := hs.lo
  have h2 := hs.hi
  have h3 := hs.lt
  have h4 := hf.n
  exact ⟨by rw [hf.get _ (by omega) (by omega)]; exact hs.ga, by rw [hf.get _ (by omega) (by omega)]; exact hs.gb, by rw [hf.get _ (by omega) (by omega)]; exact hs.gx, hr, Fr.trans (S := fun _ => False) hs.fr hf fun i hi h => by omega, h1, h2, by omega, hs.own⟩
theorem BSt.none {h H H' : Heap} {p x : Nat} {svr : Value} {bs : List UInt8} {c : List Value} {st : RSt} (hs : BSt h H p x svr bs c st) (hf : Fr (fun _ => False) H H') : BSt h H' p x svr bs c st := hs.step (hf.mono fun _ _ h => h.elim) (hs.rr.none hf)
theorem BSt.move {h H H' : Heap} {p x f : Nat} {svr : Value} {bs : List UInt8} {c c' : List Value} {st : RSt} (hs : BSt h H p x svr bs c st) (hf : Fr (fun i => i = x ∨ i = f) H H') (hfl : x < f) (hx : H'.get x = .cells c' 0) : BSt h H' p x svr bs c' st := by
  have h1 := hs.lo
  have h2 := hs.hi
  have h3 := hs.lt
  have h4 := hf.n
  exact ⟨by rw [hf.get _ (by omega) (by omega)]; exact hs.ga, by rw [hf.get _ (by omega) (by omega)]; exact hs.gb, hx, hs.rr.keep hf (by omega) fun i hi h => (by have := (hs.own i hi).2; omega), Fr.trans (S := fun _ => False) hs.fr hf fun i hi h => by omega, h1, h2, by omega, hs.own⟩
abbrev HB (X : Hd) (rest : List Value) : List Value := .string ⟨⟨X.chain⟩⟩ :: .int .i64 X.height :: .int .i64 X.time :: (bcells X.prev ++ (bcells X.vals ++ (bcells X.next ++ (bcells X.app ++ rest))))
abbrev rest0 : List Value := .int .i64 0 :: (z32 ++ [.slice none 0 0, .slice none 0 0])
theorem five_ne {a : Int} : ((5 : Int), a) ≠ ((0 : Int), (0 : Int)) := fun h => by cases (Prod.mk.inj h).1
theorem BkOwn.lower' {h : Heap} {lo lo' : Nat} {x : Bk} {sv sl : Value} (hb : BkOwn h lo x sv sl) (hl : lo' ≤ lo) : BkOwn h lo' x sv sl :=
  ⟨hb.votes, hb.vals, fun i hi => Nat.le_trans hl (hb.vnew i hi), fun i hi => Nat.le_trans hl (hb.lnew i hi), hb.apart⟩
set_option maxHeartbeats 16000000 in
theorem RBDecode_ok {h : Heap} {v : Value} {bs : List UInt8} (hv : Rd h 1 v (bcells bs) bs.length) (hs : bs.length < 1048576) : Runs Tryz.prog T0 (.fn fn_zlcQ) [v] h
    (fun r h' => ∃ sv sl, r = .tuple ⟨[.agg ⟨(decB bs).1.cells sv sl⟩, .agg ⟨[.int .i64 (decB bs).2.1, .int .i64 (decB bs).2.2]⟩]⟩ ∧ BkOwn h' h.n (decB bs).1 sv sl ∧ Fr (fun _ => False) h h') (fun _ _ => False) := by
  have hv' := hv
  obtain ⟨a0, cap0, rfl, hl0, _⟩ := hv
  refine zlcQ_runs ?_
  refine stp ?_
  generalize hb3 : (h.push (.cells zBc 0)).n = b3
  have hb3' : b3 = h.n + 1 := by rw [← hb3]; rfl
  clear hb3
  subst hb3'
  generalize hh0 : ((h.push (.cells zBc 0)).push (.cells [.int .i64 0, .int .i64 0] 0)) = h0
  have hf0 : Fr (fun _ => False) h h0 := by rw [← hh0]; exact Fr.refl.push.push
  have hn0 : h0.n = h.n + 2 := by rw [← hh0]; rfl
  have hm0 : h0.get h.n = .cells zBc 0 := by rw [← hh0, Heap.get_push, if_neg (by simp), Heap.get_push, if_pos rfl]
  have hff0 : h0.get (h.n + 1) = .cells [.int .i64 0, .int .i64 0] 0 := by rw [← hh0, Heap.get_push, if_pos (by simp)]
  clear hh0
  refine O.call' (RNew_ok (hv'.keep hf0 fun _ _ => id) hs) (fun r h1' hr => ?_)
  obtain ⟨p, svr, rfl, hp1, hsv, hr1', hf1'⟩ := hr
  have hlt1' := hr1'.lt
  have hn1' := hf1'.n
  refine stp ?_
  generalize hx : h1'.n = x
  generalize hh1 : h1'.push (.cells zBc 0) = h1
  have s1 : BSt h h1 p x svr bs zBc ⟨0, 0, 0⟩ := by
    rw [← hh1, ← hx]
    exact ⟨by rw [Heap.get_push, if_neg (by omega), hf1'.get _ (by omega) id, hm0], by rw [Heap.get_push, if_neg (by omega), hf1'.get _ (by omega) id, hff0], by rw [Heap.get_push, if_pos rfl], hr1'.none Fr.refl.push, (hf0.trans' hf1').push, by omega, by omega, by simp, fun i hi => ⟨by have := hsv i hi; omega, hr1'.own_lt hi⟩⟩
  clear hh1 hx
  have hlo := s1.lo
  have hhi := s1.hi
  haveI : BNe h.n x := ⟨by omega⟩
  haveI : BNe x h.n := ⟨by omega⟩
  haveI : BNe (h.n + 1) x := ⟨by omega⟩
  haveI : BNe x (h.n + 1) := ⟨by omega⟩
  haveI : BNe h.n (h.n + 1) := ⟨by omega⟩
  haveI : BNe (h.n + 1) h.n := ⟨by omega⟩
  haveI : BNe h.n p := ⟨by omega⟩
  haveI : BNe p h.n := ⟨by omega⟩
  haveI : BNe (h.n + 1) p := ⟨by omega⟩
  haveI : BNe p (h.n + 1) := ⟨by omega⟩
  have e1z := partB_e (dec := decS) (zero := zeroHd) (bs := bs) (y := ((0, 0), ⟨0, 0, 0⟩)) (fun _ => rfl)
  have hX1 := partB_prop (P := Hd.ok) decS_ok zeroHd_ok bs ((0, 0), ⟨0, 0, 0⟩)
  obtain ⟨y1, hy1⟩ : ∃ y, partB decS zeroHd bs ((0, 0), ⟨0, 0, 0⟩) = y := ⟨_, rfl⟩
  rw [hy1] at e1z hX1
  have e2z := partB_e (dec := decC) (zero := zCm) (bs := bs) e1z
  have hX2 := partB_prop (P := fun c : Cm => c.hash.length = 32 ∧ c.votes.length ≤ 64) (zero := zCm) decC_ok ⟨rfl, Nat.zero_le 64⟩ bs y1.2
  obtain ⟨y2, hy2⟩ : ∃ y, partB decC zCm bs y1.2 = y := ⟨_, rfl⟩
  have hy2' : y1.2.1 = (0, 0) → partB decC zCm bs ((0, 0), y1.2.2) = y2 := fun h => by rw [← h]; exact hy2
  rw [hy2] at e2z hX2
  have e3z := partB_e (dec := decV) (zero := []) (bs := bs) e2z
  obtain ⟨y3, hy3⟩ : ∃ y, partB decV [] bs y2.2 = y := ⟨_, rfl⟩
  have hy3' : y2.2.1 = (0, 0) → partB decV [] bs ((0, 0), y2.2.2) = y3 := fun h => by rw [← h]; exact hy3
  rw [hy3] at e3z
  haveI := l32 hX1.prev
  haveI := l32 hX1.vals
  haveI := l32 hX1.next
  haveI := l32 hX1.app
  haveI := l32 hX2.1
  refine zlcQ_l0_rule (fun m v6 H => (v6 = .int .i64 0 ∧ m = 3 ∧ BSt h H p x svr bs zBc ⟨0, 0, 0⟩) ∨ (v6 = .int .i64 1 ∧ m = 2 ∧ y1.2.1 = (0, 0) ∧ BSt h H p x svr bs (HB y1.1 rest0) y1.2.2) ∨
    (v6 = .int .i64 2 ∧ m = 1 ∧ y2.2.1 = (0, 0) ∧ ∃ sv, Own H 2 sv (tcells y2.1.votes) y2.1.votes.length ∧ (∀ i, ownedBy sv i → x < i) ∧ BSt h H p x svr bs (HB y1.1 (.int .i64 y2.1.height :: (bcells y2.1.hash ++ [sv, .slice none 0 0]))) y2.2.2) ∨
    (v6 = .int .i64 3 ∧ m = 0 ∧ y3.2.1 = (0, 0) ∧ ∃ sv sl, BkOwn H (x + 1) ⟨y1.1, y2.1, y3.1⟩ sv sl ∧ BSt h H p x svr bs (Bk.cells ⟨y1.1, y2.1, y3.1⟩ sv sl) y3.2.2)) ?_ 3 (.inl ⟨rfl, rfl, s1⟩)
  rintro m v6 H x7 x8 x9 x10 x11 x12 x13 x14 x15 x19 x20 x21 x22 x23 x24 x25 x26 x27 x28 x29 x30 x31 x32 x33 x34 x35 x36 x37 x38 x39 x40 x41 x42 x43 x44 x45 x46 x47 x48 x49 x50 x51 x52 x53 x54 x55 x56 x57 x58 x59 x60 x61 x62 x63 x64 x65 x66 x67 x68 x69 x70 x71 x72 x73 x74 (⟨rfl, rfl, hB⟩ | ⟨rfl, rfl, hz, hB⟩ | ⟨rfl, rfl, hz, sv, hov, hnv, hB⟩ | ⟨rfl, rfl, hz, sv, sl, hO, hB⟩)
  · have hse : (⟨0, 0, 0⟩ : RSt).e = 0 := rfl
    obtain ⟨pl, hpl, hrr⟩ := hB.rr.ex
    obtain ⟨rfl, _⟩ := hpl hse
    haveI : HGet H p _ := ⟨hrr.get⟩
    have hlt_H := hB.lt
    haveI : HGet H h.n _ := ⟨hB.ga⟩
    haveI : HGet H (h.n + 1) _ := ⟨hB.gb⟩
    haveI : HGet H x _ := ⟨hB.gx⟩
    haveI : BLt h.n H := ⟨by omega⟩
    haveI : BLt (h.n + 1) H := ⟨by omega⟩
    haveI : BLt x H := ⟨by omega⟩
    refine stp ?_
    have kb := RBytes_run (most := 65536) hB.rr
    have pb : (rd (bytesS bs 65536) [] (⟨0, 0, 0⟩ : RSt)).2.e ≠ 0 → y1 = (zeroHd, ((rd (bytesS bs 65536) [] (⟨0, 0, 0⟩ : RSt)).2.e, (rd (bytesS bs 65536) [] (⟨0, 0, 0⟩ : RSt)).2.fa), (rd (bytesS bs 65536) [] (⟨0, 0, 0⟩ : RSt)).2) := fun he => hy1.symm.trans (partB_bad he)
    have pf : (rd (bytesS bs 65536) [] (⟨0, 0, 0⟩ : RSt)).2.e = 0 → (decS (rd (bytesS bs 65536) [] (⟨0, 0, 0⟩ : RSt)).1).2 ≠ (0, 0) → y1 = (zeroHd, (5, ((⟨0, 0, 0⟩ : RSt).pl : Int)), (rd (bytesS bs 65536) [] (⟨0, 0, 0⟩ : RSt)).2) := fun he hd => hy1.symm.trans (partB_form he hd)
    have pg : (rd (bytesS bs 65536) [] (⟨0, 0, 0⟩ : RSt)).2.e = 0 → (decS (rd (bytesS bs 65536) [] (⟨0, 0, 0⟩ : RSt)).1).2 = (0, 0) → y1 = ((decS (rd (bytesS bs 65536) [] (⟨0, 0, 0⟩ : RSt)).1).1, (0, 0), (rd (bytesS bs 65536) [] (⟨0, 0, 0⟩ : RSt)).2) := fun he hd => hy1.symm.trans (partB_good he hd)
    have hbl : (rd (bytesS bs 65536) [] (⟨0, 0, 0⟩ : RSt)).1.length ≤ bs.length := rd_bytes_len
    generalize (rd (bytesS bs 65536) [] (⟨0, 0, 0⟩ : RSt)) = b at *
    obtain ⟨l, stb⟩ := b
    refine O.call' kb (fun r H1 hr => ?_)
    obtain ⟨hf1, ⟨ho, hnew⟩, hr1⟩ := hr
    simp only at ho hr1 hbl pb pf pg
    have B1 := hB.step hf1 hr1
    have hlt_H1 := B1.lt
    haveI : HGet H1 h.n _ := ⟨B1.ga⟩
    haveI : HGet H1 (h.n + 1) _ := ⟨B1.gb⟩
    haveI : HGet H1 x _ := ⟨B1.gx⟩
    haveI : BLt h.n H1 := ⟨by omega⟩
    haveI : BLt (h.n + 1) H1 := ⟨by omega⟩
    haveI : BLt x H1 := ⟨by omega⟩
    obtain ⟨pl1, _, hrr1⟩ := hr1.ex
    haveI : HGet H1 p _ := ⟨hrr1.get⟩
    refine stp ?_
    refine C.ifN (fun he => ?_) (fun he => ?_)
    · refine stp ?_
      refine D.one0S ?_
      refine stp ?_
      rw [decB_stop1 hy1 (by rw [pb he]; exact fun h => he (Prod.mk.inj h).1), pb he]
      exact ⟨_, _, rfl, .zero, Fr.set (Fr.set B1.fr fun hlt => by omega) fun hlt => by omega⟩
    refine stp ?_
    refine O.call' (RDecode_ok ((ho.keep (S := fun _ => False) Fr.refl.push fun _ _ => id).rd) (by omega)) (fun r H2 hr => ?_)
    obtain ⟨rfl, hf2⟩ := hr
    have hok := decS_ok l
    have hz0 := decS_zero l
    generalize decS l = D at *
    obtain ⟨Xh, E, A⟩ := D
    simp only at hok hz0 pf pg ⊢
    haveI := l32 hok.prev
    haveI := l32 hok.vals
    haveI := l32 hok.next
    haveI := l32 hok.app
    have hn12 := hf2.n
    simp only [Heap.n_push] at hn12
    have B2 := (B1.none (Fr.refl.push (o := .cells [.int .i64 0, .int .i64 0] 0))).none hf2
    have hlt_H2 := B2.lt
    haveI : HGet H2 h.n _ := ⟨B2.ga⟩
    haveI : HGet H2 (h.n + 1) _ := ⟨B2.gb⟩
    haveI : HGet H2 x _ := ⟨B2.gx⟩
    haveI : BLt h.n H2 := ⟨by omega⟩
    haveI : BLt (h.n + 1) H2 := ⟨by omega⟩
    haveI : BLt x H2 := ⟨by omega⟩
    haveI hF2 : HGet H2 H1.n _ := hf2.keep (b := H1.n) HGet.new (by simp) id
    haveI : BLt H1.n H2 := ⟨by omega⟩
    haveI : BNe H1.n x := ⟨by omega⟩
    haveI : BNe x H1.n := ⟨by omega⟩
    haveI : BNe H1.n h.n := ⟨by omega⟩
    haveI : BNe h.n H1.n := ⟨by omega⟩
    haveI : BNe H1.n (h.n + 1) := ⟨by omega⟩
    haveI : BNe (h.n + 1) H1.n := ⟨by omega⟩
    haveI : BNe H2.n x := ⟨by omega⟩
    haveI : BNe H2.n H1.n := ⟨by omega⟩
    haveI : BNe x H2.n := ⟨by omega⟩
    haveI : BNe H1.n H2.n := ⟨by omega⟩
    refine stp ?_
    generalize hHF : ((((((H2.push (.cells (.string ⟨⟨[]⟩⟩ :: .int .i64 0 :: .int .i64 0 :: (z32 ++ (z32 ++ (z32 ++ z32)))) 0)).push (.cells [.int .i64 0, .int .i64 0] 0)).set H2.n (.cells Xh.cells 0)).set (H2.push (.cells (.string ⟨⟨[]⟩⟩ :: .int .i64 0 :: .int .i64 0 :: (z32 ++ (z32 ++ (z32 ++ z32)))) 0)).n (.cells [.int .i64 E, .int .i64 A] 0)).set x (.cells (HB Xh rest0) 0)).set H1.n (.cells [.int .i64 E, .int .i64 A] 0)) = HF
    have hmv : Fr (fun i => i = x ∨ i = H1.n) H2 HF := by
      rw [← hHF]
      exact Fr.set (Fr.set (Fr.set (Fr.set Fr.refl.push.push fun hlt => by omega) fun hlt => by simp at hlt; omega) fun _ => .inl rfl) fun _ => .inr rfl
    have hgx : HF.get x = .cells (HB Xh rest0) 0 := by rw [← hHF, Heap.get_set, if_neg (by omega), Heap.get_set, if_pos rfl]
    have hgf : HF.get H1.n = .cells [.int .i64 E, .int .i64 A] 0 := by rw [← hHF, Heap.get_set, if_pos rfl]
    clear hHF
    have B3 := B2.move hmv (by omega) hgx
    have hnHF := hmv.n
    have hlt_HF := B3.lt
    haveI : HGet HF h.n _ := ⟨B3.ga⟩
    haveI : HGet HF (h.n + 1) _ := ⟨B3.gb⟩
    haveI : HGet HF x _ := ⟨B3.gx⟩
    haveI : BLt h.n HF := ⟨by omega⟩
    haveI : BLt (h.n + 1) HF := ⟨by omega⟩
    haveI : BLt x HF := ⟨by omega⟩
    haveI : HGet HF H1.n _ := ⟨hgf⟩
    refine stp ?_
    refine C.ifN (fun hc => ?_) (fun hc => ?_)
    · refine stp ?_
      have hne : ((E, A) : Int × Int) ≠ (0, 0) := fun h => hc (Prod.mk.inj h).1
      rw [decB_stop1 hy1 (by rw [pf he hne]; exact five_ne), pf he hne]
      exact ⟨_, _, rfl, .zero, Fr.set (Fr.set B3.fr fun hlt => by omega) fun hlt => by omega⟩
    · refine stp ?_
      have hEA : ((E, A) : Int × Int) = (0, 0) := by rw [hc, hz0 hc]
      have e1 := pg he hEA
      try simp only at e1
      subst e1
      exact zlcQ_l0_again 2 (by omega) (.inr (.inl ⟨rfl, rfl, rfl, B3⟩))
  · have hse : y1.2.2.e = 0 := e1z hz
    obtain ⟨pl, hpl, hrr⟩ := hB.rr.ex
    obtain ⟨rfl, _⟩ := hpl hse
    haveI : HGet H p _ := ⟨hrr.get⟩
    have hlt_H := hB.lt
    haveI : HGet H h.n _ := ⟨hB.ga⟩
    haveI : HGet H (h.n + 1) _ := ⟨hB.gb⟩
    haveI : HGet H x _ := ⟨hB.gx⟩
    haveI : BLt h.n H := ⟨by omega⟩
    haveI : BLt (h.n + 1) H := ⟨by omega⟩
    haveI : BLt x H := ⟨by omega⟩
    refine stp ?_
    have kb := RBytes_run (most := 65536) hB.rr
    have pb : (rd (bytesS bs 65536) [] y1.2.2).2.e ≠ 0 → y2 = (zCm, ((rd (bytesS bs 65536) [] y1.2.2).2.e, (rd (bytesS bs 65536) [] y1.2.2).2.fa), (rd (bytesS bs 65536) [] y1.2.2).2) := fun he => (hy2' hz).symm.trans (partB_bad he)
    have pf : (rd (bytesS bs 65536) [] y1.2.2).2.e = 0 → (decC (rd (bytesS bs 65536) [] y1.2.2).1).2 ≠ (0, 0) → y2 = (zCm, (5, (y1.2.2.pl : Int)), (rd (bytesS bs 65536) [] y1.2.2).2) := fun he hd => (hy2' hz).symm.trans (partB_form he hd)
    have pg : (rd (bytesS bs 65536) [] y1.2.2).2.e = 0 → (decC (rd (bytesS bs 65536) [] y1.2.2).1).2 = (0, 0) → y2 = ((decC (rd (bytesS bs 65536) [] y1.2.2).1).1, (0, 0), (rd (bytesS bs 65536) [] y1.2.2).2) := fun he hd => (hy2' hz).symm.trans (partB_good he hd)
    have hbl : (rd (bytesS bs 65536) [] y1.2.2).1.length ≤ bs.length := rd_bytes_len
    generalize (rd (bytesS bs 65536) [] y1.2.2) = b at *
    obtain ⟨l, stb⟩ := b
    refine O.call' kb (fun r H1 hr => ?_)
    obtain ⟨hf1, ⟨ho, hnew⟩, hr1⟩ := hr
    simp only at ho hr1 hbl pb pf pg
    have B1 := hB.step hf1 hr1
    have hlt_H1 := B1.lt
    haveI : HGet H1 h.n _ := ⟨B1.ga⟩
    haveI : HGet H1 (h.n + 1) _ := ⟨B1.gb⟩
    haveI : HGet H1 x _ := ⟨B1.gx⟩
    haveI : BLt h.n H1 := ⟨by omega⟩
    haveI : BLt (h.n + 1) H1 := ⟨by omega⟩
    haveI : BLt x H1 := ⟨by omega⟩
    obtain ⟨pl1, _, hrr1⟩ := hr1.ex
    haveI : HGet H1 p _ := ⟨hrr1.get⟩
    refine stp ?_
    refine C.ifN (fun he => ?_) (fun he => ?_)
    · refine stp ?_
      refine D.one0S ?_
      refine stp ?_
      rw [decB_stop2 hy1 hy2 (by rw [pb he]; exact fun h => he (Prod.mk.inj h).1), pb he]
      exact ⟨_, _, rfl, .zero, Fr.set (Fr.set B1.fr fun hlt => by omega) fun hlt => by omega⟩
    refine stp ?_
    refine O.call' (RCDecode_ok ((ho.keep (S := fun _ => False) Fr.refl.push fun _ _ => id).rd) (by omega)) (fun r H2 hr => ?_)
    obtain ⟨sl, rfl, hos, hns, hf2⟩ := hr
    have hok := decC_ok l
    have hz0 := decC_zero l
    generalize decC l = D at *
    obtain ⟨Xh, E, A⟩ := D
    simp only at hok hz0 pf pg hos ⊢
    obtain ⟨asl, csl, rfl, _, _⟩ := hos.rd
    simp only [Heap.n_push] at hns
    haveI := l32 hok.1
    have hn12 := hf2.n
    simp only [Heap.n_push] at hn12
    have B2 := (B1.none (Fr.refl.push (o := .cells [.int .i64 0, .int .i64 0] 0))).none hf2
    have hlt_H2 := B2.lt
    haveI : HGet H2 h.n _ := ⟨B2.ga⟩
    haveI : HGet H2 (h.n + 1) _ := ⟨B2.gb⟩
    haveI : HGet H2 x _ := ⟨B2.gx⟩
    haveI : BLt h.n H2 := ⟨by omega⟩
    haveI : BLt (h.n + 1) H2 := ⟨by omega⟩
    haveI : BLt x H2 := ⟨by omega⟩
    haveI hF2 : HGet H2 H1.n _ := hf2.keep (b := H1.n) HGet.new (by simp) id
    haveI : BLt H1.n H2 := ⟨by omega⟩
    haveI : BNe H1.n x := ⟨by omega⟩
    haveI : BNe x H1.n := ⟨by omega⟩
    haveI : BNe H1.n h.n := ⟨by omega⟩
    haveI : BNe h.n H1.n := ⟨by omega⟩
    haveI : BNe H1.n (h.n + 1) := ⟨by omega⟩
    haveI : BNe (h.n + 1) H1.n := ⟨by omega⟩
    haveI : BNe H2.n x := ⟨by omega⟩
    haveI : BNe H2.n H1.n := ⟨by omega⟩
    haveI : BNe x H2.n := ⟨by omega⟩
    haveI : BNe H1.n H2.n := ⟨by omega⟩
    refine stp ?_
    generalize hHF : ((((((H2.push (.cells (.int .i64 0 :: (z32 ++ [.slice none 0 0])) 0)).push (.cells [.int .i64 0, .int .i64 0] 0)).set H2.n (.cells (Xh.cells (.slice asl Xh.votes.length csl)) 0)).set (H2.push (.cells (.int .i64 0 :: (z32 ++ [.slice none 0 0])) 0)).n (.cells [.int .i64 E, .int .i64 A] 0)).set x (.cells (HB y1.1 (.int .i64 Xh.height :: (bcells Xh.hash ++ [.slice asl Xh.votes.length csl, .slice none 0 0]))) 0)).set H1.n (.cells [.int .i64 E, .int .i64 A] 0)) = HF
    have hmv : Fr (fun i => i = x ∨ i = H1.n) H2 HF := by
      rw [← hHF]
      exact Fr.set (Fr.set (Fr.set (Fr.set Fr.refl.push.push fun hlt => by omega) fun hlt => by simp at hlt; omega) fun _ => .inl rfl) fun _ => .inr rfl
    have hgx : HF.get x = .cells (HB y1.1 (.int .i64 Xh.height :: (bcells Xh.hash ++ [.slice asl Xh.votes.length csl, .slice none 0 0]))) 0 := by rw [← hHF, Heap.get_set, if_neg (by omega), Heap.get_set, if_pos rfl]
    have hgf : HF.get H1.n = .cells [.int .i64 E, .int .i64 A] 0 := by rw [← hHF, Heap.get_set, if_pos rfl]
    clear hHF
    have B3 := B2.move hmv (by omega) hgx
    have hnHF := hmv.n
    have hlt_HF := B3.lt
    haveI : HGet HF h.n _ := ⟨B3.ga⟩
    haveI : HGet HF (h.n + 1) _ := ⟨B3.gb⟩
    haveI : HGet HF x _ := ⟨B3.gx⟩
    haveI : BLt h.n HF := ⟨by omega⟩
    haveI : BLt (h.n + 1) HF := ⟨by omega⟩
    haveI : BLt x HF := ⟨by omega⟩
    haveI : HGet HF H1.n _ := ⟨hgf⟩
    refine stp ?_
    refine C.ifN (fun hc => ?_) (fun hc => ?_)
    · refine stp ?_
      have hne : ((E, A) : Int × Int) ≠ (0, 0) := fun h => hc (Prod.mk.inj h).1
      rw [decB_stop2 hy1 hy2 (by rw [pf he hne]; exact five_ne), pf he hne]
      exact ⟨_, _, rfl, .zero, Fr.set (Fr.set B3.fr fun hlt => by omega) fun hlt => by omega⟩
    · refine stp ?_
      have hEA : ((E, A) : Int × Int) = (0, 0) := by rw [hc, hz0 hc]
      have e1 := pg he hEA
      try simp only at e1
      subst e1
      exact zlcQ_l0_again 1 (by omega) (.inr (.inr (.inl ⟨rfl, rfl, rfl, _, hos.keep hmv fun i hi h => (by have := hns i hi; omega), fun i hi => (by have := hns i hi; omega), B3⟩)))
  · obtain ⟨av, cv, rfl, _, _⟩ := hov.rd
    have hse : y2.2.2.e = 0 := e2z hz
    obtain ⟨pl, hpl, hrr⟩ := hB.rr.ex
    obtain ⟨rfl, _⟩ := hpl hse
    haveI : HGet H p _ := ⟨hrr.get⟩
    have hlt_H := hB.lt
    haveI : HGet H h.n _ := ⟨hB.ga⟩
    haveI : HGet H (h.n + 1) _ := ⟨hB.gb⟩
    haveI : HGet H x _ := ⟨hB.gx⟩
    haveI : BLt h.n H := ⟨by omega⟩
    haveI : BLt (h.n + 1) H := ⟨by omega⟩
    haveI : BLt x H := ⟨by omega⟩
    refine stp ?_
    have kb := RBytes_run (most := 65536) hB.rr
    have pb : (rd (bytesS bs 65536) [] y2.2.2).2.e ≠ 0 → y3 = ([], ((rd (bytesS bs 65536) [] y2.2.2).2.e, (rd (bytesS bs 65536) [] y2.2.2).2.fa), (rd (bytesS bs 65536) [] y2.2.2).2) := fun he => (hy3' hz).symm.trans (partB_bad he)
    have pf : (rd (bytesS bs 65536) [] y2.2.2).2.e = 0 → (decV (rd (bytesS bs 65536) [] y2.2.2).1).2 ≠ (0, 0) → y3 = ([], (5, (y2.2.2.pl : Int)), (rd (bytesS bs 65536) [] y2.2.2).2) := fun he hd => (hy3' hz).symm.trans (partB_form he hd)
    have pg : (rd (bytesS bs 65536) [] y2.2.2).2.e = 0 → (decV (rd (bytesS bs 65536) [] y2.2.2).1).2 = (0, 0) → y3 = ((decV (rd (bytesS bs 65536) [] y2.2.2).1).1, (0, 0), (rd (bytesS bs 65536) [] y2.2.2).2) := fun he hd => (hy3' hz).symm.trans (partB_good he hd)
    have hbl : (rd (bytesS bs 65536) [] y2.2.2).1.length ≤ bs.length := rd_bytes_len
    generalize (rd (bytesS bs 65536) [] y2.2.2) = b at *
    obtain ⟨l, stb⟩ := b
    refine O.call' kb (fun r H1 hr => ?_)
    obtain ⟨hf1, ⟨ho, hnew⟩, hr1⟩ := hr
    simp only at ho hr1 hbl pb pf pg
    have B1 := hB.step hf1 hr1
    have hlt_H1 := B1.lt
    haveI : HGet H1 h.n _ := ⟨B1.ga⟩
    haveI : HGet H1 (h.n + 1) _ := ⟨B1.gb⟩
    haveI : HGet H1 x _ := ⟨B1.gx⟩
    haveI : BLt h.n H1 := ⟨by omega⟩
    haveI : BLt (h.n + 1) H1 := ⟨by omega⟩
    haveI : BLt x H1 := ⟨by omega⟩
    obtain ⟨pl1, _, hrr1⟩ := hr1.ex
    haveI : HGet H1 p _ := ⟨hrr1.get⟩
    refine stp ?_
    refine C.ifN (fun he => ?_) (fun he => ?_)
    · refine stp ?_
      refine D.one0S ?_
      refine stp ?_
      rw [decB_stop3 hy1 hy2 hy3 (by rw [pb he]; exact fun h => he (Prod.mk.inj h).1), pb he]
      exact ⟨_, _, rfl, .zero, Fr.set (Fr.set B1.fr fun hlt => by omega) fun hlt => by omega⟩
    refine stp ?_
    refine O.call' (RVDecode_ok ((ho.keep (S := fun _ => False) Fr.refl.push fun _ _ => id).rd) (by omega)) (fun r H2 hr => ?_)
    obtain ⟨sl, rfl, hos, hns, hf2⟩ := hr
    have hok := decV_len l
    have hz0 := decV_zero l
    generalize decV l = D at *
    obtain ⟨Xh, E, A⟩ := D
    simp only at hok hz0 pf pg hos ⊢
    obtain ⟨asl, csl, rfl, _, _⟩ := hos.rd
    simp only [Heap.n_push] at hns
    have hn12 := hf2.n
    simp only [Heap.n_push] at hn12
    have B2 := (B1.none (Fr.refl.push (o := .cells [.int .i64 0, .int .i64 0] 0))).none hf2
    have hlt_H2 := B2.lt
    haveI : HGet H2 h.n _ := ⟨B2.ga⟩
    haveI : HGet H2 (h.n + 1) _ := ⟨B2.gb⟩
    haveI : HGet H2 x _ := ⟨B2.gx⟩
    haveI : BLt h.n H2 := ⟨by omega⟩
    haveI : BLt (h.n + 1) H2 := ⟨by omega⟩
    haveI : BLt x H2 := ⟨by omega⟩
    haveI hF2 : HGet H2 H1.n _ := hf2.keep (b := H1.n) HGet.new (by simp) id
    haveI : BLt H1.n H2 := ⟨by omega⟩
    haveI : BNe H1.n x := ⟨by omega⟩
    haveI : BNe x H1.n := ⟨by omega⟩
    haveI : BNe H1.n h.n := ⟨by omega⟩
    haveI : BNe h.n H1.n := ⟨by omega⟩
    haveI : BNe H1.n (h.n + 1) := ⟨by omega⟩
    haveI : BNe (h.n + 1) H1.n := ⟨by omega⟩
    haveI : BNe H2.n x := ⟨by omega⟩
    haveI : BNe H2.n H1.n := ⟨by omega⟩
    haveI : BNe x H2.n := ⟨by omega⟩
    haveI : BNe H1.n H2.n := ⟨by omega⟩
    refine stp ?_
    generalize hHF : (((H2.push (.cells [.int .i64 E, .int .i64 A] 0)).set x (.cells (Bk.cells ⟨y1.1, y2.1, Xh⟩ (.slice av y2.1.votes.length cv) (.slice asl Xh.length csl)) 0)).set H1.n (.cells [.int .i64 E, .int .i64 A] 0)) = HF
    have hmv : Fr (fun i => i = x ∨ i = H1.n) H2 HF := by
      rw [← hHF]
      exact Fr.set (Fr.set Fr.refl.push fun _ => .inl rfl) fun _ => .inr rfl
    have hgx : HF.get x = .cells (Bk.cells ⟨y1.1, y2.1, Xh⟩ (.slice av y2.1.votes.length cv) (.slice asl Xh.length csl)) 0 := by rw [← hHF, Heap.get_set, if_neg (by omega), Heap.get_set, if_pos rfl]
    have hgf : HF.get H1.n = .cells [.int .i64 E, .int .i64 A] 0 := by rw [← hHF, Heap.get_set, if_pos rfl]
    clear hHF
    have B3 := B2.move hmv (by omega) hgx
    have hnHF := hmv.n
    have hlt_HF := B3.lt
    haveI : HGet HF h.n _ := ⟨B3.ga⟩
    haveI : HGet HF (h.n + 1) _ := ⟨B3.gb⟩
    haveI : HGet HF x _ := ⟨B3.gx⟩
    haveI : BLt h.n HF := ⟨by omega⟩
    haveI : BLt (h.n + 1) HF := ⟨by omega⟩
    haveI : BLt x HF := ⟨by omega⟩
    haveI : HGet HF H1.n _ := ⟨hgf⟩
    refine stp ?_
    refine C.ifN (fun hc => ?_) (fun hc => ?_)
    · refine stp ?_
      have hne : ((E, A) : Int × Int) ≠ (0, 0) := fun h => hc (Prod.mk.inj h).1
      rw [decB_stop3 hy1 hy2 hy3 (by rw [pf he hne]; exact five_ne), pf he hne]
      exact ⟨_, _, rfl, .zero, Fr.set (Fr.set B3.fr fun hlt => by omega) fun hlt => by omega⟩
    · refine stp ?_
      have hEA : ((E, A) : Int × Int) = (0, 0) := by rw [hc, hz0 hc]
      have e1 := pg he hEA
      try simp only at e1
      subst e1
      have hov2 : Own H2 2 (.slice av y2.1.votes.length cv) (tcells y2.1.votes) y2.1.votes.length := ((hov.keep hf1 fun i hi h => (by have := hnv i hi; omega)).keep (S := fun _ => False) Fr.refl.push fun _ _ => id).keep hf2 fun _ _ => id
      refine zlcQ_l0_again 0 (by omega) (.inr (.inr (.inr ⟨rfl, rfl, rfl, _, _, ⟨hov2.keep hmv fun i hi h => ?_, hos.keep hmv fun i hi h => (by have := hns i hi; omega), fun i hi => (by have := hnv i hi; omega), fun i hi => (by have := hns i hi; omega), fun i hi hl => ?_⟩, B3⟩)))
      · have := hnv i hi
        have := (hov.lt hi)
        have := hf1.n
        omega
      · have := hns i hl
        have := (hov.lt hi)
        have := hf1.n
        omega
  · have hse : y3.2.2.e = 0 := e3z hz
    obtain ⟨av, cv, rfl, _, _⟩ := hO.votes.rd
    obtain ⟨al, cl, rfl, _, _⟩ := hO.vals.rd
    have hlt_H := hB.lt
    haveI : HGet H h.n _ := ⟨hB.ga⟩
    haveI : HGet H (h.n + 1) _ := ⟨hB.gb⟩
    haveI : HGet H x _ := ⟨hB.gx⟩
    haveI : BLt h.n H := ⟨by omega⟩
    haveI : BLt (h.n + 1) H := ⟨by omega⟩
    haveI : BLt x H := ⟨by omega⟩
    refine stp ?_
    have kE := REnd_run hB.rr
    have hzz := hB.rr.zero
    have hfin := decB_fin hy1 hy2 hy3 hz
    rw [hfin]
    clear hfin
    generalize endS bs y3.2.2 = F at *
    obtain ⟨E, A⟩ := F
    simp only at hzz
    refine O.call' kE (fun r H1 hr => ?_)
    obtain ⟨rfl, hf1⟩ := hr
    have B1 := hB.none hf1
    have hlt_H1 := B1.lt
    haveI : HGet H1 h.n _ := ⟨B1.ga⟩
    haveI : HGet H1 (h.n + 1) _ := ⟨B1.gb⟩
    haveI : HGet H1 x _ := ⟨B1.gx⟩
    haveI : BLt h.n H1 := ⟨by omega⟩
    haveI : BLt (h.n + 1) H1 := ⟨by omega⟩
    haveI : BLt x H1 := ⟨by omega⟩
    haveI : BNe H1.n h.n := ⟨by omega⟩
    haveI : BNe H1.n (h.n + 1) := ⟨by omega⟩
    haveI : BNe H1.n x := ⟨by omega⟩
    haveI : BNe h.n H1.n := ⟨by omega⟩
    haveI : BNe (h.n + 1) H1.n := ⟨by omega⟩
    haveI : BNe x H1.n := ⟨by omega⟩
    refine stp ?_
    refine C.ifN (fun hc => ?_) (fun hc => ?_)
    · refine stp ?_
      rw [if_neg (fun h => hc (Prod.mk.inj h).1)]
      exact ⟨_, _, rfl, .zero, Fr.set (Fr.set B1.fr.push fun hlt => by omega) fun hlt => by omega⟩
    · obtain rfl := hc
      obtain rfl := hzz rfl
      refine stp ?_
      rw [if_pos rfl]
      refine ⟨_, _, rfl, BkOwn.lower' (BkOwn.keep (S := fun i => i = h.n ∨ i = h.n + 1) hO (Fr.set (Fr.set (Fr.trans (S := fun i => i = h.n ∨ i = h.n + 1) (hf1.mono fun _ _ h => h.elim) Fr.refl.push fun _ _ h => h) fun _ => .inl rfl) fun _ => .inr rfl) fun i hi => .inl (by omega)) (by omega), Fr.set (Fr.set B1.fr.push fun hlt => by omega) fun hlt => by omega⟩
end Go.Proofs.YtbmpalbdbcjieaaGreat.A

namespace Go.Proofs.YtbmpalbdbcjieaaGreat.A
open Go Go.Vm
set_option maxRecDepth 10000
set_option linter.unusedVariables false
theorem SameVotes_same {h : Heap} {v w : Value} {l : List Vote} (hv : Rd h 2 v (tcells l) l.length) (hw : Rd h 2 w (tcells l) l.length) (hs : l.length < 1048576) :
    Runs Tryz.prog T0 (.fn fn_zobQ) [v, w] h (fun r h' => r = .bool true ∧ h' = h) (fun _ _ => False) := by
  obtain ⟨a, cap, rfl, hlen, hc⟩ := hv
  obtain ⟨a', cap', rfl, hlen', hc'⟩ := hw
  refine zobQ_runs ?_
  refine stpP ?_
  refine zobQ_l0_rule (fun m v5 v6 h' => ∃ k : Nat, k ≤ l.length ∧ m = l.length - k ∧ v6 = .int .i64 k ∧ v5 = .bool true ∧ h' = h) ?_ l.length ⟨0, by omega, rfl, rfl, by simp, rfl⟩
  rintro m v5 v6 h' x12 x13 x14 x15 x16 x17 x18 x19 x20 x21 x22 x23 x24 x25 x26 x27 x28 x29 ⟨k, hk, rfl, rfl, rfl, rfl⟩
  refine stpP ?_
  refine C.if (fun hlt => ?_) (fun hge => ?_)
  · have hlt : k < l.length := by omega
    obtain ⟨b, o, sp, rfl, hb, hcc⟩ := hc (by omega)
    obtain ⟨b', o', sp', rfl, hb', hcc'⟩ := hc' (by omega)
    haveI := vote_cells hcc rfl hlt
    haveI := vote_cells hcc' rfl hlt
    refine stpP ?_
    rw [same_self]
    exact zobQ_l0_again (l.length - (k + 1)) (by omega) ⟨k + 1, by omega, rfl, rfl, rfl, rfl⟩
  · refine stpP ?_
    exact ⟨rfl, rfl⟩
theorem SameCommit_same {h : Heap} {x : Cm} {sv sw : Value} (hl : x.hash.length = 32) (hs : x.votes.length < 1048576) (hv : Rd h 2 sv (tcells x.votes) x.votes.length) (hw : Rd h 2 sw (tcells x.votes) x.votes.length) :
    Runs Tryz.prog T0 (.fn fn_zmbQ) [.agg ⟨x.cells sv⟩, .agg ⟨x.cells sw⟩] h (fun r h' => r = .bool true ∧ Fr (fun _ => False) h h') (fun _ _ => False) := by
  haveI := l32 hl
  refine zmbQ_runs ?_
  refine stpP ?_
  refine O.dec (fun _ => ?_) (fun hh => absurd rfl hh)
  refine stpP ?_
  rw [same_self]
  refine stpP ?_
  refine O.callT (SameVotes_same (hv.keep (S := fun _ => False) Fr.refl.push.push fun _ _ => id) (hw.keep (S := fun _ => False) Fr.refl.push.push fun _ _ => id) hs) (fun r h1 hr => ?_)
  obtain ⟨rfl, rfl⟩ := hr
  refine stpP ?_
  exact ⟨rfl, Fr.refl.push.push⟩
theorem SameBlock_same {h : Heap} {x : Bk} {sv sl sw sm : Value} (hx : x.ok) (hv : Rd h 2 sv (tcells x.c.votes) x.c.votes.length) (hl : Rd h 5 sl (vcells x.vals) x.vals.length) (hw : Rd h 2 sw (tcells x.c.votes) x.c.votes.length) (hm : Rd h 5 sm (vcells x.vals) x.vals.length) :
    Runs Tryz.prog T0 (.fn fn_zlbQ) [.agg ⟨x.cells sv sl⟩, .agg ⟨x.cells sw sm⟩] h (fun r h' => r = .bool true ∧ Fr (fun _ => False) h h') (fun _ _ => False) := by
  haveI := l32 hx.h.prev
  haveI := l32 hx.h.vals
  haveI := l32 hx.h.next
  haveI := l32 hx.h.app
  haveI := l32 hx.hash
  have hvo := hx.votes
  have hva := hx.vals
  refine zlbQ_runs ?_
  refine stpP ?_
  generalize hh0 : (h.push (.cells (x.cells sv sl) 0)).push (.cells (x.cells sw sm) 0) = h0
  generalize hb : (h.push (.cells (x.cells sv sl) 0)).n = b
  have hf0 : Fr (fun _ => False) h h0 := by rw [← hh0]; exact Fr.refl.push.push
  have hA : HGet h0 h.n (.cells (x.cells sv sl) 0) := by rw [← hh0]; exact HGet.push (k := BLt.new) (g := HGet.new)
  have hB : HGet h0 b (.cells (x.cells sw sm) 0) := by rw [← hh0, ← hb]; exact HGet.new
  have hb' : b = h.n + 1 := by rw [← hb]; rfl
  have hn0 : h0.n = h.n + 2 := by rw [← hh0]; rfl
  clear hh0 hb
  haveI := hA
  haveI := hB
  rw [same_self]
  refine stpP ?_
  refine O.callT (SameCommit_same hx.hash (by omega) (hv.keep hf0 fun _ _ => id) (hw.keep hf0 fun _ _ => id)) (fun r h1 hr => ?_)
  obtain ⟨rfl, hf1⟩ := hr
  haveI := hf1.keep hA (by omega) id
  haveI := hf1.keep hB (by omega) id
  have hf01 := hf0.trans' hf1
  refine stpP ?_
  refine O.callT (SameVals_same (hl.keep hf01 fun _ _ => id) (hm.keep hf01 fun _ _ => id) (by omega)) (fun r h2 hr => ?_)
  obtain ⟨rfl, rfl⟩ := hr
  refine stpP ?_
  exact ⟨rfl, hf01⟩
theorem OverCommit_ok {h : Heap} {x : Cm} {sv : Value} {c : List Value} {n : Nat} (hl : x.hash.length = 32) (ho : Own h 2 sv c n) (hs : n < 1048576) :
    Runs Tryz.prog T0 (.fn fn_zjbQ) [.agg ⟨x.cells sv⟩] h (fun r h' => Fr (ownedBy sv) h h') (fun _ _ => False) := by
  haveI := l32 hl
  refine zjbQ_runs ?_
  cases ho with
  | none =>
    refine stpP ?_
    refine zjbQ_l0_rule (fun m v2 h' => v2 = .int .i64 0 ∧ h' = h.push (.cells (x.cells (.slice none 0 0)) 0)) ?_ 0 ⟨rfl, rfl⟩
    rintro m v2 h' x3 x4 x5 x6 x7 x8 x9 x10 x11 x12 x13 x14 ⟨rfl, rfl⟩
    refine stpP ?_
    exact Fr.refl.push
  | lit hq hg =>
    rename_i q es
    refine stpP ?_
    refine zjbQ_l0_rule (fun m v2 h' => v2 = .int .i64 0 ∧ h' = h.push (.cells (x.cells (.slice (some ⟨q, 0, none⟩) 0 0)) 0)) ?_ 0 ⟨rfl, rfl⟩
    rintro m v2 h' x3 x4 x5 x6 x7 x8 x9 x10 x11 x12 x13 x14 ⟨rfl, rfl⟩
    refine stpP ?_
    exact Fr.refl.push
  | grown hq hn hle hl2 hl3 hg =>
    rename_i q kk cap j
    refine stpP ?_
    refine zjbQ_l0_rule (fun m v2 h' => ∃ k : Nat, k ≤ n ∧ m = n - k ∧ v2 = .int .i64 k ∧ (∃ cs, h'.get q = .cells cs 2 ∧ cs.length = cap * 2) ∧ h'.get h.n = .cells (x.cells (.slice (some ⟨q, 0, some kk⟩) n cap)) 0 ∧ Fr (ownedBy (.slice (some ⟨q, 0, some kk⟩) n cap)) h h') ?_ n ⟨0, by omega, rfl, rfl, ⟨_, by rw [Heap.get_push, if_neg (by omega), hg], hl3⟩, by rw [Heap.get_push, if_pos rfl], Fr.refl.push⟩
    rintro m v2 h' x3 x4 x5 x6 x7 x8 x9 x10 x11 x12 x13 x14 ⟨k, hk, rfl, rfl, ⟨cs, hg', hcs⟩, hgb, hf⟩
    haveI : HGet h' q _ := ⟨hg'⟩
    haveI : HGet h' h.n _ := ⟨hgb⟩
    refine stpP ?_
    refine C.if (fun hlt => ?_) (fun hge => ?_)
    · refine stpP ?_
      refine O.by0 (mkStoreN (xs := [.int .i64 (-7), .int .u64 0]) (c := cs) (r := q) (es := 2) (by simp; omega) rfl rfl) rfl ?_
      refine stpP ?_
      refine zjbQ_l0_again (n - (k + 1)) (by omega) ⟨k + 1, by omega, rfl, rfl, ⟨_, by rw [Heap.get_set, if_pos rfl], ?_⟩, by rw [Heap.get_set, if_neg (by omega), hgb], Fr.set hf fun _ => rfl⟩
      rw [over_length _ _ _ (by simp; omega), hcs]
    · refine stpP ?_
      exact hf
theorem OverBlock_ok {h : Heap} {lo : Nat} {x : Bk} {sv sl : Value} (hx : x.ok) (hb : BkOwn h lo x sv sl) :
    Runs Tryz.prog T0 (.fn fn_zibQ) [.agg ⟨x.cells sv sl⟩] h (fun r h' => Fr (fun i => lo ≤ i) h h') (fun _ _ => False) := by
  haveI := l32 hx.h.prev
  haveI := l32 hx.h.vals
  haveI := l32 hx.h.next
  haveI := l32 hx.h.app
  haveI := l32 hx.hash
  have hvo := hx.votes
  have hva := hx.vals
  have hlv := fun {i : Nat} (hi : ownedBy sv i) => hb.votes.lt hi
  have hll := fun {i : Nat} (hi : ownedBy sl i) => hb.vals.lt hi
  refine zibQ_runs ?_
  refine stpP ?_
  refine O.call' (OverVals_ok (hb.vals.keep (S := fun _ => False) Fr.refl.push fun _ _ => id) (by omega)) (fun r h1 hr => ?_)
  have hf1 := hr
  have hn1 := hf1.n
  simp only [Heap.n_push] at hn1
  haveI hA := hf1.keep (b := h.n) (HGet.new (h := h) (o := .cells (x.cells sv sl) 0)) (by simp) (fun hi => by have := hll hi; omega)
  refine stpP ?_
  refine O.call' (OverCommit_ok hx.hash ((hb.votes.keep (S := fun _ => False) Fr.refl.push fun _ _ => id).keep hf1 hb.apart) (by omega)) (fun r h2 hr => ?_)
  have hf2 := hr
  refine stpP ?_
  refine Fr.trans (S := fun i => lo ≤ i) (Fr.trans (S := fun i => lo ≤ i) Fr.refl.push hf1 fun i _ hi => hb.lnew i hi) hf2 fun i _ hi => hb.vnew i hi
end Go.Proofs.YtbmpalbdbcjieaaGreat.A

namespace Go.Proofs.YtbmpalbdbcjieaaGreat.A
open Go Go.Vm
set_option maxRecDepth 10000
set_option linter.unusedVariables false
theorem laid2 {h : Heap} {z z' c c' : List Value} {b : Nat} (hb : b = h.n + 1) :
    Fr (fun _ => False) h ((((h.push (.cells z 0)).push (.cells z' 0)).set h.n (.cells c 0)).set b (.cells c' 0)) ∧ HGet ((((h.push (.cells z 0)).push (.cells z' 0)).set h.n (.cells c 0)).set b (.cells c' 0)) h.n (.cells c 0) ∧ HGet ((((h.push (.cells z 0)).push (.cells z' 0)).set h.n (.cells c 0)).set b (.cells c' 0)) b (.cells c' 0) ∧ ((((h.push (.cells z 0)).push (.cells z' 0)).set h.n (.cells c 0)).set b (.cells c' 0)).n = h.n + 2 :=
  ⟨Fr.set (Fr.set Fr.refl.push.push fun hlt => by omega) fun hlt => by omega, ⟨by rw [Heap.get_set, if_neg (by omega), Heap.get_set, if_pos rfl]⟩, ⟨by rw [Heap.get_set, if_pos rfl]⟩, by simp⟩
set_option maxHeartbeats 8000000 in
theorem BlockDecodes_true {h : Heap} {v : Value} {bs : List UInt8} (hv : Rd h 1 v (bcells bs) bs.length) : Runs Tryz.prog T0 (.fn fn_zpbQ) [v] h (fun r h' => r = .bool true) (fun _ _ => False) := by
  have hv' := hv
  obtain ⟨a0, cap0, rfl, hl0, _⟩ := hv
  refine zpbQ_runs ?_
  refine stpP ?_
  refine C.if (fun hlong => ?_) (fun hshort => ?_)
  · refine stpP ?_
    refine O.call' zqbQ_known (fun r h1 hr => ?_)
    obtain ⟨rfl, rfl⟩ := hr
    refine stpP ?_
    rfl
  refine stpP ?_
  refine O.call' (LentBytes_ok hv' (by omega)) (fun r h1 hr => ?_)
  obtain ⟨hL, hf1⟩ := hr
  refine stpP ?_
  refine O.call' (BDecode_ok hL.rd (by omega)) (fun r h2 hr => ?_)
  obtain ⟨sv, sl, rfl, hO2, hf2⟩ := hr
  have k5 := fun {hh : Heap} (hr : Rd hh 1 (.slice a0 bs.length cap0) (bcells bs) bs.length) => RBDecode_ok hr (by omega)
  have hok := decB_ok bs
  generalize decB bs = D at *
  obtain ⟨X, e, a⟩ := D
  simp only at hO2 k5 hok ⊢
  obtain ⟨av, cv, rfl, _, _⟩ := hO2.votes.rd
  obtain ⟨al, cl, rfl, _, _⟩ := hO2.vals.rd
  haveI := l32 hok.h.prev
  haveI := l32 hok.h.vals
  haveI := l32 hok.h.next
  haveI := l32 hok.h.app
  haveI := l32 hok.hash
  have hn12 := hf2.n
  refine stpP ?_
  generalize hb5 : (h2.push (.cells zBc 0)).n = b5
  have hb5' : b5 = h2.n + 1 := by rw [← hb5]; rfl
  clear hb5
  obtain ⟨hf23, hA3, hB3, hn3⟩ := laid2 (h := h2) (z := zBc) (z' := [.int .i64 0, .int .i64 0]) (c := X.cells (.slice av X.c.votes.length cv) (.slice al X.vals.length cl)) (c' := [.int .i64 e, .int .i64 a]) hb5'
  generalize ((((h2.push (.cells zBc 0)).push (.cells [.int .i64 0, .int .i64 0] 0)).set h2.n (.cells (X.cells (.slice av X.c.votes.length cv) (.slice al X.vals.length cl)) 0)).set b5 (.cells [.int .i64 e, .int .i64 a] 0)) = h3 at *
  have hf13 := hf2.trans' hf23
  refine O.call' (k5 ((hv'.keep hf1 fun _ _ => id).keep hf13 fun _ _ => id)) (fun r h4 hr => ?_)
  obtain ⟨sw, sm, rfl, hO4, hf4⟩ := hr
  obtain ⟨aw, cw, rfl, _, _⟩ := hO4.votes.rd
  obtain ⟨am, cm, rfl, _, _⟩ := hO4.vals.rd
  have hn34 := hf4.n
  have hA4 := hf4.keep hA3 (by omega) id
  have hB4 := hf4.keep hB3 (by omega) id
  refine stpP ?_
  generalize hb7 : (h4.push (.cells zBc 0)).n = b7
  have hb7' : b7 = h4.n + 1 := by rw [← hb7]; rfl
  clear hb7
  obtain ⟨hf45, hC5, hD5, hn5⟩ := laid2 (h := h4) (z := zBc) (z' := [.int .i64 0, .int .i64 0]) (c := X.cells (.slice aw X.c.votes.length cw) (.slice am X.vals.length cm)) (c' := [.int .i64 e, .int .i64 a]) hb7'
  generalize ((((h4.push (.cells zBc 0)).push (.cells [.int .i64 0, .int .i64 0] 0)).set h4.n (.cells (X.cells (.slice aw X.c.votes.length cw) (.slice am X.vals.length cm)) 0)).set b7 (.cells [.int .i64 e, .int .i64 a] 0)) = h5 at *
  haveI hA5 := hf45.keep hA4 (by omega) id
  haveI hB5 := hf45.keep hB4 (by omega) id
  haveI := hC5
  haveI := hD5
  have hf25 := (hf23.trans' hf4).trans' hf45
  have hO5 := hO2.keep hf25 fun i h => h.elim
  have hP5 := hO4.keep hf45 fun i h => h.elim
  refine stpP ?_
  refine O.call' (SameBlock_same hok hO5.votes.rd hO5.vals.rd hP5.votes.rd hP5.vals.rd) (fun r h6 hr => ?_)
  obtain ⟨rfl, hf6⟩ := hr
  have hn56 := hf6.n
  haveI hA6 := hf6.keep hA5 (by omega) id
  haveI hB6 := hf6.keep hB5 (by omega) id
  haveI hC6 := hf6.keep hC5 (by omega) id
  haveI hD6 := hf6.keep hD5 (by omega) id
  refine stpP ?_
  rw [same_self]
  refine stpP ?_
  refine O.call' (OverBlock_ok hok (hO5.keep hf6 fun i h => h.elim)) (fun r h7 hr => ?_)
  have hf7 := hr
  refine stpP ?_
  have hf17 : Fr (fun i => h1.n ≤ i) h1 h7 := Fr.trans (S := fun i => h1.n ≤ i) (((hf2.trans' hf25).trans' hf6).mono fun _ _ h => h.elim) hf7 fun _ _ h => h
  refine O.callT (zgbQ_kept (Lent.kept (hL.keep hf17 fun i hi => .inr hi) ((hv'.keep hf1 fun _ _ => id).keep hf17 fun i hi h => ?_) (by omega))) (fun r4 h8 hr => ?_)
  · have := Rd.block_lt (hv'.keep hf1 fun _ _ => id) hi
    omega
  obtain ⟨rfl, rfl⟩ := hr
  refine stpP ?_
  refine O.callT zqbQ_known (fun r5 h9 hr => ?_)
  obtain ⟨rfl, rfl⟩ := hr
  refine stpP ?_
  rfl
end Go.Proofs.YtbmpalbdbcjieaaGreat.A

namespace Go.Proofs.YtbmpalbdbcjieaaGreat.A
open Go Go.Vm
set_option maxRecDepth 100000
theorem ran_7 : allTrue (xcall Tryz.prog R.tab 1000 60 (.fn 7) [] Heap.init) = true := by kernel_rfl
theorem has_7 : (tableOf Tryz.prog 7).isSome = true := by kernel_rfl
theorem known : KnownAll Tryz.prog prims := ⟨⟨Option.isSome_iff_exists.1 has_7, fun w => known_calls (Checked.mixed Tryz.checked) R.tab_ok ran_7 w⟩, trivial⟩
theorem has_17 : (tableOf Tryz.prog 17).isSome = true := by kernel_rfl
theorem T0_ok : TableOK Tryz.prog T0 := withKept_ok (withTrue_ok known) fun k hk args args' g h B w0 w hr hv hp => by
  obtain rfl : k = 17 := by simpa using hk
  obtain ⟨af, haf⟩ := Option.isSome_iff_exists.1 has_17
  exact ⟨fnOK_of haf, kept_ok (Checked.mixed Tryz.checked) (fnOK_of haf) (fun h q c' l u h1 h2 h3 h4 h5 => Kept_code h1 h2 h3 h4 h5) args args' g h B w0 w hr hv hp⟩
end Go.Proofs.YtbmpalbdbcjieaaGreat.A
