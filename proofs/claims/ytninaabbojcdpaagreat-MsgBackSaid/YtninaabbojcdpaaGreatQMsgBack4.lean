/- Contracts of functions, over the machine. -/
import Derived.Test.YtninaabbojcdpaaGreatQMsgBack3
import Derived.Test.YtninaabbojcdpaaGreatVK
import Derived.Test.YtninaabbojcdpaaGreatVJ
noncomputable section
namespace Go.Proofs.YtninaabbojcdpaaGreat.A
open Go Go.Vm
set_option maxRecDepth 10000
set_option linter.unusedVariables false
structure MSt (h H : Heap) (p q : Nat) (svr : Value) (bs : List UInt8) (c : List Value) (st : RSt) : Prop where
  gm : H.get h.n = .cells c 0
  gf : H.get (h.n + 1) = .cells [.int .i64 0, .int .i64 0] 0
  gq : H.get q = .cells [.pointer (some ⟨p, 0, none⟩), .int .i64 bs.length] 0
  rr : PRs H p svr bs st
  fr : Fr (fun _ => False) h H
  lo : h.n + 2 ≤ p
  hi : p < q
  lt : q < H.n
  own : ∀ i, ownedBy svr i → h.n + 2 ≤ i ∧ i < q
theorem MSt.step {h H H' : Heap} {p q : Nat} {svr : Value} {bs : List UInt8} {c : List Value} {st st' : RSt} (hs : MSt h H p q svr bs c st) (hf : Fr (fun i => i = p) H H') (hr : PRs H' p svr bs st') : MSt h H' p q svr bs c st' := by
  have h1 := hs.lo
  have h2 := hs.hi
  have h3 := hs.lt
  have h4 := hf.n
  exact ⟨by rw [hf.get _ (by omega) (by omega)]; exact hs.gm, by rw [hf.get _ (by omega) (by omega)]; exact hs.gf, by rw [hf.get _ (by omega) (by omega)]; exact hs.gq, hr, Fr.trans (S := fun _ => False) hs.fr hf fun i hi h => by omega, h1, h2, by omega, hs.own⟩
theorem MSt.none {h H H' : Heap} {p q : Nat} {svr : Value} {bs : List UInt8} {c : List Value} {st : RSt} (hs : MSt h H p q svr bs c st) (hf : Fr (fun _ => False) H H') : MSt h H' p q svr bs c st := hs.step (hf.mono fun _ _ h => h.elim) (hs.rr.none hf)
theorem MSt.setm {h H : Heap} {p q : Nat} {svr : Value} {bs : List UInt8} {c c' : List Value} {st : RSt} (hs : MSt h H p q svr bs c st) : MSt h (H.set h.n (.cells c' 0)) p q svr bs c' st := by
  have h1 := hs.lo
  have h2 := hs.hi
  have h3 := hs.lt
  exact ⟨by rw [Heap.get_set, if_pos rfl], by rw [Heap.get_set, if_neg (by omega)]; exact hs.gf, by rw [Heap.get_set, if_neg (by omega)]; exact hs.gq, hs.rr.keep (S := fun i => i = h.n) (Fr.refl.set fun _ => rfl) (by omega) fun i hi h => (by have := (hs.own i hi).1; omega), Fr.set hs.fr fun hlt => by omega, h1, h2, by simpa using h3, hs.own⟩
theorem BkOwn.lower {h : Heap} {lo lo' : Nat} {x : Bk} {sv sl : Value} (hb : BkOwn h lo x sv sl) (hl : lo' ≤ lo) : BkOwn h lo' x sv sl :=
  ⟨hb.votes, hb.vals, fun i hi => Nat.le_trans hl (hb.vnew i hi), fun i hi => Nat.le_trans hl (hb.lnew i hi), hb.apart⟩
theorem restS_pos {bs : List UInt8} {st : RSt} (he : st.e = 0) : (bs.length : Int) - restS bs st = st.pl := by
  unfold restS
  rw [if_pos he]
  omega
set_option maxHeartbeats 16000000 in
theorem MDecode_ok {h : Heap} {v : Value} {bs : List UInt8} (hv : Rd h 1 v (bcells bs) bs.length) (hs : bs.length < 1048576) : Runs Tryz.prog T0 (.fn fn_zvbQ) [v] h
    (fun r h' => ∃ sv sl, r = .tuple ⟨[.agg ⟨(decM bs).1.cells sv sl⟩, .agg ⟨[.int .i64 (decM bs).2.1, .int .i64 (decM bs).2.2]⟩]⟩ ∧ BkOwn h' h.n (decM bs).1.b sv sl ∧ Fr (fun _ => False) h h') (fun _ _ => False) := by
  have hv' := hv
  obtain ⟨a0, cap0, rfl, hl0, _⟩ := hv
  refine zvbQ_runs ?_
  refine stp ?_
  generalize hb3 : (h.push (.cells zMc 0)).n = b3
  have hb3' : b3 = h.n + 1 := by rw [← hb3]; rfl
  clear hb3
  subst hb3'
  generalize hh0 : ((h.push (.cells zMc 0)).push (.cells [.int .i64 0, .int .i64 0] 0)) = h0
  have hf0 : Fr (fun _ => False) h h0 := by rw [← hh0]; exact Fr.refl.push.push
  have hn0 : h0.n = h.n + 2 := by rw [← hh0]; rfl
  have hm0 : h0.get h.n = .cells zMc 0 := by rw [← hh0, Heap.get_push, if_neg (by simp), Heap.get_push, if_pos rfl]
  have hff0 : h0.get (h.n + 1) = .cells [.int .i64 0, .int .i64 0] 0 := by rw [← hh0, Heap.get_push, if_pos (by simp)]
  clear hh0
  haveI : BNe h.n (h.n + 1) := ⟨by omega⟩
  haveI : BNe (h.n + 1) h.n := ⟨by omega⟩
  have hdec : decM bs = (if 65536 < bs.length then (zMs, ((4 : Int), (65536 : Int))) else if (rd (numS bs) 0 ⟨0, 0, 0⟩).2.e = 0 then (if (rd (numS bs) 0 ⟨0, 0, 0⟩).1 = 1 ∨ (rd (numS bs) 0 ⟨0, 0, 0⟩).1 = 2 then (if (rd (numS bs) 0 (rd (numS bs) 0 ⟨0, 0, 0⟩).2).2.e = 0 then (if numM ((rd (numS bs) 0 (rd (numS bs) 0 ⟨0, 0, 0⟩).2).1 : Nat) then (if (rd (numS bs) 0 ⟨0, 0, 0⟩).1 = 1 then (if (rd (numS bs) 0 (rd (numS bs) 0 (rd (numS bs) 0 ⟨0, 0, 0⟩).2).2).2.e = 0 then (if heiM ((rd (numS bs) 0 (rd (numS bs) 0 (rd (numS bs) 0 ⟨0, 0, 0⟩).2).2).1 : Nat) then endM bs (rd (numS bs) 0 (rd (numS bs) 0 (rd (numS bs) 0 ⟨0, 0, 0⟩).2).2).2 ⟨1, ((rd (numS bs) 0 (rd (numS bs) 0 ⟨0, 0, 0⟩).2).1 : Nat), ((rd (numS bs) 0 (rd (numS bs) 0 (rd (numS bs) 0 ⟨0, 0, 0⟩).2).2).1 : Nat), 0, zBk⟩ else (zMs, (3, ((rd (numS bs) 0 (rd (numS bs) 0 ⟨0, 0, 0⟩).2).2.pl : Int)))) else (zMs, ((rd (numS bs) 0 (rd (numS bs) 0 (rd (numS bs) 0 ⟨0, 0, 0⟩).2).2).2.e, (rd (numS bs) 0 (rd (numS bs) 0 (rd (numS bs) 0 ⟨0, 0, 0⟩).2).2).2.fa))) else (if (rd (bytesS bs 65536) [] (rd (numS bs) 0 (rd (numS bs) 0 ⟨0, 0, 0⟩).2).2).2.e = 0 then (if (decB (rd (bytesS bs 65536) [] (rd (numS bs) 0 (rd (numS bs) 0 ⟨0, 0, 0⟩).2).2).1).2 = (0, 0) then endM bs (rd (bytesS bs 65536) [] (rd (numS bs) 0 (rd (numS bs) 0 ⟨0, 0, 0⟩).2).2).2 ⟨2, 0, 0, ((rd (numS bs) 0 (rd (numS bs) 0 ⟨0, 0, 0⟩).2).1 : Nat), (decB (rd (bytesS bs 65536) [] (rd (numS bs) 0 (rd (numS bs) 0 ⟨0, 0, 0⟩).2).2).1).1⟩ else (zMs, (5, ((rd (numS bs) 0 (rd (numS bs) 0 ⟨0, 0, 0⟩).2).2.pl : Int)))) else (zMs, ((rd (bytesS bs 65536) [] (rd (numS bs) 0 (rd (numS bs) 0 ⟨0, 0, 0⟩).2).2).2.e, (rd (bytesS bs 65536) [] (rd (numS bs) 0 (rd (numS bs) 0 ⟨0, 0, 0⟩).2).2).2.fa)))) else (zMs, (3, ((rd (numS bs) 0 ⟨0, 0, 0⟩).2.pl : Int)))) else (zMs, ((rd (numS bs) 0 (rd (numS bs) 0 ⟨0, 0, 0⟩).2).2.e, (rd (numS bs) 0 (rd (numS bs) 0 ⟨0, 0, 0⟩).2).2.fa))) else (zMs, (5, 0))) else (zMs, ((rd (numS bs) 0 ⟨0, 0, 0⟩).2.e, (rd (numS bs) 0 ⟨0, 0, 0⟩).2.fa))) := rfl
  rw [hdec]
  clear hdec
  refine O.callX mustM_ok (fun r h0' hr => ?_) (fun c h0' hx => ?_)
  rotate_left
  · obtain ⟨hb, rfl, rfl⟩ := hx
    have hb := of_decide_eq_false hb
    rw [if_pos (by omega)]
    refine stp ?_
    refine (mcaught_ok hm0 inferInstance hff0 (by omega) (by omega) (by omega)).mono (fun u' h' hu => ?_) (fun _ _ _ hx => hx.elim)
    obtain ⟨hs', hm', hf', hfr'⟩ := hu
    rw [hs']
    haveI : HGet h' h.n _ := ⟨hm'⟩
    haveI : HGet h' (h.n + 1) _ := ⟨hf'⟩
    exact L.nil ⟨_, _, rfl, .zero, Fr.trans (S := fun _ => False) hf0 hfr' fun i hi ho => by rcases ho with ho | ho <;> omega⟩
  obtain ⟨hb, rfl⟩ := hr
  have hb := of_decide_eq_true hb
  rw [if_neg (by omega)]
  refine stp ?_
  refine O.call' (NewReader_ok (hv'.keep hf0 fun _ _ => id) hs) (fun r h1' hr => ?_)
  obtain ⟨p, svr, rfl, hp1, hsv, hr1', hf1'⟩ := hr
  have hlt1' := hr1'.lt
  have hn1' := hf1'.n
  refine stp ?_
  generalize hx : h1'.n = q
  generalize hh1 : h1'.push (.cells [.pointer (some ⟨p, 0, none⟩), .int .i64 bs.length] 0) = h1
  have s1 : MSt h h1 p q svr bs zMc ⟨0, 0, 0⟩ := by
    rw [← hh1, ← hx]
    exact ⟨by rw [Heap.get_push, if_neg (by omega), hf1'.get _ (by omega) id, hm0], by rw [Heap.get_push, if_neg (by omega), hf1'.get _ (by omega) id, hff0], by rw [Heap.get_push, if_pos rfl], hr1'.none Fr.refl.push, (hf0.trans' hf1').push, by omega, by omega, by simp, fun i hi => ⟨by have := hsv i hi; omega, hr1'.own_lt hi⟩⟩
  clear hh1 hx
  have hlo := s1.lo
  have hhi := s1.hi
  haveI : BNe h.n q := ⟨by omega⟩
  haveI : BNe q h.n := ⟨by omega⟩
  haveI : BNe (h.n + 1) q := ⟨by omega⟩
  haveI : BNe q (h.n + 1) := ⟨by omega⟩
  have k1 := Num_run s1.rr
  generalize (rd (numS bs) 0 ⟨0, 0, 0⟩) = k at *
  obtain ⟨k, stk⟩ := k
  refine O.call' k1 (fun r h2 hr => ?_)
  obtain ⟨hf2, rfl, hr2⟩ := hr
  simp only at hr2 ⊢
  have s2 := s1.step hf2 hr2
  have hlt_h2 := s2.lt
  haveI : HGet h2 h.n _ := ⟨s2.gm⟩
  haveI : HGet h2 (h.n + 1) _ := ⟨s2.gf⟩
  haveI : HGet h2 q _ := ⟨s2.gq⟩
  haveI : BLt h.n h2 := ⟨by omega⟩
  haveI : BLt (h.n + 1) h2 := ⟨by omega⟩
  haveI : BLt q h2 := ⟨by omega⟩
  refine stp ?_
  have s2' := s2.setm (c' := .int .i64 (k : Nat) :: .int .i64 0 :: .int .i64 0 :: .int .i64 0 :: zBc)
  refine O.callX (fine_ok s2'.rr) (fun r h3 hr => ?_) (fun c h3 hx => ?_)
  rotate_left
  · obtain ⟨he, rfl, hf3⟩ := hx
    have s3 := s2'.none hf3
    rw [if_neg he]
    refine stp ?_
    refine (mcaught_ok s3.gm inferInstance s3.gf (by have := s3.lt; omega) (by have := s3.lt; omega) (by omega)).mono (fun u' h' hu => ?_) (fun _ _ _ hx => hx.elim)
    obtain ⟨hs', hm', hf', hfr'⟩ := hu
    rw [hs']
    haveI : HGet h' h.n _ := ⟨hm'⟩
    haveI : HGet h' (h.n + 1) _ := ⟨hf'⟩
    exact L.nil ⟨_, _, rfl, .zero, Fr.trans (S := fun _ => False) s3.fr hfr' fun i hi ho => by rcases ho with ho | ho <;> omega⟩
  obtain ⟨he, hf3⟩ := hr
  rw [if_pos he]
  have s3 := s2'.none hf3
  have hlt_h3 := s3.lt
  haveI : HGet h3 h.n _ := ⟨s3.gm⟩
  haveI : HGet h3 (h.n + 1) _ := ⟨s3.gf⟩
  haveI : HGet h3 q _ := ⟨s3.gq⟩
  haveI : BLt h.n h3 := ⟨by omega⟩
  haveI : BLt (h.n + 1) h3 := ⟨by omega⟩
  haveI : BLt q h3 := ⟨by omega⟩
  by_cases hk : k = 1 ∨ k = 2
  rotate_left
  · rw [if_neg hk]
    refine stp ?_
    refine O.dec (fun h => ?_) (fun _ => ?_)
    · exact (hk (.inl (by omega))).elim
    refine stp ?_
    refine O.callX mustM_ok (fun r h4 hr => ?_) (fun c h4 hx => ?_)
    · exact (hk (.inr (by have := of_decide_eq_true hr.1; omega))).elim
    obtain ⟨_, rfl, rfl⟩ := hx
    refine stp ?_
    refine (mcaught_ok s3.gm inferInstance s3.gf (by have := s3.lt; omega) (by have := s3.lt; omega) (by omega)).mono (fun u' h' hu => ?_) (fun _ _ _ hx => hx.elim)
    obtain ⟨hs', hm', hf', hfr'⟩ := hu
    rw [hs']
    haveI : HGet h' h.n _ := ⟨hm'⟩
    haveI : HGet h' (h.n + 1) _ := ⟨hf'⟩
    exact L.nil ⟨_, _, rfl, .zero, Fr.trans (S := fun _ => False) s3.fr hfr' fun i hi ho => by rcases ho with ho | ho <;> omega⟩
  rw [if_pos hk]
  have hpos := restS_pos (bs := bs) he
  rcases hk with rfl | rfl
  · refine stp ?_
    simp only [show decide (((1 : Nat) : Int) = 1) = true from rfl, eq_self, if_true]
    refine O.callX mustM_ok (fun r h3' hr => ?_) (fun c h3' hx => by cases hx.1)
    obtain ⟨_, rfl⟩ := hr
    refine stp ?_
    have k4 := numr_ok (M := numM) s3.rr number_okM
    generalize (rd (numS bs) 0 stk) = i4 at *
    obtain ⟨i4, st4⟩ := i4
    refine O.callX k4 (fun r h4 hr => ?_) (fun c h4 hx => ?_)
    rotate_left
    · obtain ⟨e, a, rfl, hf, hor⟩ := hx
      have hnn := hf.n
      simp only at hor ⊢
      rcases hor with ⟨h1, rfl, rfl⟩ | ⟨h1, h2, rfl, rfl⟩
      · rw [if_neg h1]
        refine stp ?_
        refine (mcaught_ok (by rw [hf.get _ (by omega) (by omega)]; exact s3.gm) inferInstance (by rw [hf.get _ (by omega) (by omega)]; exact s3.gf) (by have := s3.lt; omega) (by have := s3.lt; omega) (by omega)).mono (fun u' h' hu => ?_) (fun _ _ _ hx => hx.elim)
        obtain ⟨hs', hm', hf', hfr'⟩ := hu
        rw [hs']
        haveI : HGet h' h.n _ := ⟨hm'⟩
        haveI : HGet h' (h.n + 1) _ := ⟨hf'⟩
        exact L.nil ⟨_, _, rfl, .zero, Fr.trans (S := fun _ => False) (Fr.trans (S := fun _ => False) s3.fr hf fun i hi h => by omega) hfr' fun i hi ho => by rcases ho with ho | ho <;> omega⟩
      · rw [if_pos h1, if_neg h2, hpos]
        refine stp ?_
        refine (mcaught_ok (by rw [hf.get _ (by omega) (by omega)]; exact s3.gm) inferInstance (by rw [hf.get _ (by omega) (by omega)]; exact s3.gf) (by have := s3.lt; omega) (by have := s3.lt; omega) (by omega)).mono (fun u' h' hu => ?_) (fun _ _ _ hx => hx.elim)
        obtain ⟨hs', hm', hf', hfr'⟩ := hu
        rw [hs']
        haveI : HGet h' h.n _ := ⟨hm'⟩
        haveI : HGet h' (h.n + 1) _ := ⟨hf'⟩
        exact L.nil ⟨_, _, rfl, .zero, Fr.trans (S := fun _ => False) (Fr.trans (S := fun _ => False) s3.fr hf fun i hi h => by omega) hfr' fun i hi ho => by rcases ho with ho | ho <;> omega⟩
    obtain ⟨he4, hM4, rfl, hr4, hf4⟩ := hr
    simp only at he4 hM4 hr4 ⊢
    rw [if_pos he4, if_pos hM4]
    have s4 := s3.step hf4 hr4
    have hlt_h4 := s4.lt
    haveI : HGet h4 h.n _ := ⟨s4.gm⟩
    haveI : HGet h4 (h.n + 1) _ := ⟨s4.gf⟩
    haveI : HGet h4 q _ := ⟨s4.gq⟩
    haveI : BLt h.n h4 := ⟨by omega⟩
    haveI : BLt (h.n + 1) h4 := ⟨by omega⟩
    haveI : BLt q h4 := ⟨by omega⟩
    have hpos4 := restS_pos (bs := bs) he4
    try rw [if_pos rfl]
    refine stp ?_
    try refine C.if (fun _ => ?_) (fun h => absurd rfl h)
    refine stp ?_
    have k5 := numr_ok (M := heiM) s4.rr height_okM
    generalize (rd (numS bs) 0 st4) = i5 at *
    obtain ⟨i5, st5⟩ := i5
    refine O.callX k5 (fun r h5 hr => ?_) (fun c h5 hx => ?_)
    rotate_left
    · obtain ⟨e, a, rfl, hf, hor⟩ := hx
      have hnn := hf.n
      simp only at hor ⊢
      rcases hor with ⟨h1, rfl, rfl⟩ | ⟨h1, h2, rfl, rfl⟩
      · rw [if_neg h1]
        refine stp ?_
        refine (mcaught_ok (by rw [hf.get _ (by omega) (by omega)]; exact s4.gm) inferInstance (by rw [hf.get _ (by omega) (by omega)]; exact s4.gf) (by have := s4.lt; omega) (by have := s4.lt; omega) (by omega)).mono (fun u' h' hu => ?_) (fun _ _ _ hx => hx.elim)
        obtain ⟨hs', hm', hf', hfr'⟩ := hu
        rw [hs']
        haveI : HGet h' h.n _ := ⟨hm'⟩
        haveI : HGet h' (h.n + 1) _ := ⟨hf'⟩
        exact L.nil ⟨_, _, rfl, .zero, Fr.trans (S := fun _ => False) (Fr.trans (S := fun _ => False) s4.fr hf fun i hi h => by omega) hfr' fun i hi ho => by rcases ho with ho | ho <;> omega⟩
      · rw [if_pos h1, if_neg h2, hpos4]
        refine stp ?_
        refine (mcaught_ok (by rw [hf.get _ (by omega) (by omega)]; exact s4.gm) inferInstance (by rw [hf.get _ (by omega) (by omega)]; exact s4.gf) (by have := s4.lt; omega) (by have := s4.lt; omega) (by omega)).mono (fun u' h' hu => ?_) (fun _ _ _ hx => hx.elim)
        obtain ⟨hs', hm', hf', hfr'⟩ := hu
        rw [hs']
        haveI : HGet h' h.n _ := ⟨hm'⟩
        haveI : HGet h' (h.n + 1) _ := ⟨hf'⟩
        exact L.nil ⟨_, _, rfl, .zero, Fr.trans (S := fun _ => False) (Fr.trans (S := fun _ => False) s4.fr hf fun i hi h => by omega) hfr' fun i hi ho => by rcases ho with ho | ho <;> omega⟩
    obtain ⟨he5, hM5, rfl, hr5, hf5⟩ := hr
    simp only at he5 hM5 hr5 ⊢
    rw [if_pos he5, if_pos hM5]
    have s5 := s4.step hf5 hr5
    have hlt_h5 := s5.lt
    haveI : HGet h5 h.n _ := ⟨s5.gm⟩
    haveI : HGet h5 (h.n + 1) _ := ⟨s5.gf⟩
    haveI : HGet h5 q _ := ⟨s5.gq⟩
    haveI : BLt h.n h5 := ⟨by omega⟩
    haveI : BLt (h.n + 1) h5 := ⟨by omega⟩
    haveI : BLt q h5 := ⟨by omega⟩
    have hpos5 := restS_pos (bs := bs) he5
    refine stp ?_
    have s5' := s5.setm (c' := .int .i64 ((1 : Nat) : Int) :: .int .i64 (i4 : Nat) :: .int .i64 (i5 : Nat) :: .int .i64 0 :: zBc)
    unfold endM
    have kE := End_run s5'.rr
    generalize endS bs _ = F at *
    obtain ⟨E, A⟩ := F
    refine O.call' kE (fun r hE hr => ?_)
    obtain ⟨rfl, hfE⟩ := hr
    have sE := s5'.none hfE
    have hlt_hE := sE.lt
    haveI : HGet hE h.n _ := ⟨sE.gm⟩
    haveI : HGet hE (h.n + 1) _ := ⟨sE.gf⟩
    haveI : HGet hE q _ := ⟨sE.gq⟩
    haveI : BLt h.n hE := ⟨by omega⟩
    haveI : BLt (h.n + 1) hE := ⟨by omega⟩
    haveI : BLt q hE := ⟨by omega⟩
    refine stp ?_
    rw [same_fault]
    refine D.callX mustM_ok (fun _ _ _ => rfl) (fun r hG hr => ?_) (fun c hG hx => ⟨rfl, ?_⟩)
    · obtain ⟨hb, rfl⟩ := hr
      obtain ⟨rfl, rfl⟩ := Prod.mk.inj (of_decide_eq_true hb)
      rw [if_pos rfl]
      refine stp ?_
      refine mcaught_none.mono (fun u' h' hu => ?_) (fun _ _ _ hx => hx.elim)
      obtain ⟨rfl, rfl⟩ := hu
      refine L.nil ⟨_, _, rfl, .zero, ?_⟩
      exact Fr.set (Fr.set (Fr.set sE.fr fun hlt => by omega) fun hlt => by omega) fun hlt => by omega
    · obtain ⟨hb, rfl, rfl⟩ := hx
      rw [if_neg (of_decide_eq_false hb)]
      refine stp ?_
      refine (mcaught_ok (by rw [Heap.get_set, if_neg (by omega)]; exact sE.gm) inferInstance (by rw [Heap.get_set, if_pos rfl]) (by have := sE.lt; simp only [Heap.n_set]; omega) (by have := sE.lt; simp only [Heap.n_set]; omega) (by omega)).mono (fun u' h' hu => ?_) (fun _ _ _ hx => hx.elim)
      obtain ⟨hs', hm', hf', hfr'⟩ := hu
      rw [hs']
      haveI : HGet h' h.n _ := ⟨hm'⟩
      haveI : HGet h' (h.n + 1) _ := ⟨hf'⟩
      exact L.nil ⟨_, _, rfl, .zero, Fr.trans (S := fun _ => False) (Fr.set sE.fr fun hlt => by omega) hfr' fun i hi ho => by rcases ho with ho | ho <;> omega⟩
  · refine stp ?_
    simp only [show decide (((2 : Nat) : Int) = 1) = false from rfl, Bool.false_eq_true, if_false]
    refine O.callX mustM_ok (fun r h3' hr => ?_) (fun c h3' hx => ?_)
    rotate_left
    · exact absurd hx.1 (by decide)
    obtain ⟨_, rfl⟩ := hr
    refine stp ?_
    have k4 := numr_ok (M := numM) s3.rr number_okM
    generalize (rd (numS bs) 0 stk) = i4 at *
    obtain ⟨i4, st4⟩ := i4
    refine O.callX k4 (fun r h4 hr => ?_) (fun c h4 hx => ?_)
    rotate_left
    · obtain ⟨e, a, rfl, hf, hor⟩ := hx
      have hnn := hf.n
      simp only at hor ⊢
      rcases hor with ⟨h1, rfl, rfl⟩ | ⟨h1, h2, rfl, rfl⟩
      · rw [if_neg h1]
        refine stp ?_
        refine (mcaught_ok (by rw [hf.get _ (by omega) (by omega)]; exact s3.gm) inferInstance (by rw [hf.get _ (by omega) (by omega)]; exact s3.gf) (by have := s3.lt; omega) (by have := s3.lt; omega) (by omega)).mono (fun u' h' hu => ?_) (fun _ _ _ hx => hx.elim)
        obtain ⟨hs', hm', hf', hfr'⟩ := hu
        rw [hs']
        haveI : HGet h' h.n _ := ⟨hm'⟩
        haveI : HGet h' (h.n + 1) _ := ⟨hf'⟩
        exact L.nil ⟨_, _, rfl, .zero, Fr.trans (S := fun _ => False) (Fr.trans (S := fun _ => False) s3.fr hf fun i hi h => by omega) hfr' fun i hi ho => by rcases ho with ho | ho <;> omega⟩
      · rw [if_pos h1, if_neg h2, hpos]
        refine stp ?_
        refine (mcaught_ok (by rw [hf.get _ (by omega) (by omega)]; exact s3.gm) inferInstance (by rw [hf.get _ (by omega) (by omega)]; exact s3.gf) (by have := s3.lt; omega) (by have := s3.lt; omega) (by omega)).mono (fun u' h' hu => ?_) (fun _ _ _ hx => hx.elim)
        obtain ⟨hs', hm', hf', hfr'⟩ := hu
        rw [hs']
        haveI : HGet h' h.n _ := ⟨hm'⟩
        haveI : HGet h' (h.n + 1) _ := ⟨hf'⟩
        exact L.nil ⟨_, _, rfl, .zero, Fr.trans (S := fun _ => False) (Fr.trans (S := fun _ => False) s3.fr hf fun i hi h => by omega) hfr' fun i hi ho => by rcases ho with ho | ho <;> omega⟩
    obtain ⟨he4, hM4, rfl, hr4, hf4⟩ := hr
    simp only at he4 hM4 hr4 ⊢
    rw [if_pos he4, if_pos hM4]
    have s4 := s3.step hf4 hr4
    have hlt_h4 := s4.lt
    haveI : HGet h4 h.n _ := ⟨s4.gm⟩
    haveI : HGet h4 (h.n + 1) _ := ⟨s4.gf⟩
    haveI : HGet h4 q _ := ⟨s4.gq⟩
    haveI : BLt h.n h4 := ⟨by omega⟩
    haveI : BLt (h.n + 1) h4 := ⟨by omega⟩
    haveI : BLt q h4 := ⟨by omega⟩
    have hpos4 := restS_pos (bs := bs) he4
    rw [if_neg (show ¬ ((2 : Nat) = 1) by omega)]
    refine stp ?_
    try refine C.if (fun h => absurd h (by decide)) (fun _ => ?_)
    refine stp ?_
    refine O.call' (at_okM s4.rr) (fun r h5 hr => ?_)
    obtain ⟨rfl, hf5⟩ := hr
    rw [hpos4]
    have s5 := s4.none hf5
    have hlt_h5 := s5.lt
    haveI : HGet h5 h.n _ := ⟨s5.gm⟩
    haveI : HGet h5 (h.n + 1) _ := ⟨s5.gf⟩
    haveI : HGet h5 q _ := ⟨s5.gq⟩
    haveI : BLt h.n h5 := ⟨by omega⟩
    haveI : BLt (h.n + 1) h5 := ⟨by omega⟩
    haveI : BLt q h5 := ⟨by omega⟩
    refine stp ?_
    have k6 := Bytes_run (most := 65536) s5.rr (by omega)
    have hbl : (rd (bytesS bs 65536) [] st4).1.length ≤ bs.length := rd_bytes_len
    generalize (rd (bytesS bs 65536) [] st4) = b at *
    obtain ⟨l, stb⟩ := b
    refine O.call' k6 (fun r h6 hr => ?_)
    obtain ⟨hf6, ⟨ho6, hnew6⟩, hr6⟩ := hr
    simp only at ho6 hr6 hbl ⊢
    have s6 := s5.step hf6 hr6
    have hlt_h6 := s6.lt
    haveI : HGet h6 h.n _ := ⟨s6.gm⟩
    haveI : HGet h6 (h.n + 1) _ := ⟨s6.gf⟩
    haveI : HGet h6 q _ := ⟨s6.gq⟩
    haveI : BLt h.n h6 := ⟨by omega⟩
    haveI : BLt (h.n + 1) h6 := ⟨by omega⟩
    haveI : BLt q h6 := ⟨by omega⟩
    refine stp ?_
    refine O.callX (fine_ok s6.rr) (fun r h7 hr => ?_) (fun c h7 hx => ?_)
    rotate_left
    · obtain ⟨heb, rfl, hf7⟩ := hx
      have s7 := s6.none hf7
      rw [if_neg heb]
      refine stp ?_
      refine (mcaught_ok s7.gm inferInstance s7.gf (by have := s7.lt; omega) (by have := s7.lt; omega) (by omega)).mono (fun u' h' hu => ?_) (fun _ _ _ hx => hx.elim)
      obtain ⟨hs', hm', hf', hfr'⟩ := hu
      rw [hs']
      haveI : HGet h' h.n _ := ⟨hm'⟩
      haveI : HGet h' (h.n + 1) _ := ⟨hf'⟩
      exact L.nil ⟨_, _, rfl, .zero, Fr.trans (S := fun _ => False) s7.fr hfr' fun i hi ho => by rcases ho with ho | ho <;> omega⟩
    obtain ⟨heb, hf7⟩ := hr
    rw [if_pos heb]
    have s7 := s6.none hf7
    have hlt_h7 := s7.lt
    haveI : HGet h7 h.n _ := ⟨s7.gm⟩
    haveI : HGet h7 (h.n + 1) _ := ⟨s7.gf⟩
    haveI : HGet h7 q _ := ⟨s7.gq⟩
    haveI : BLt h.n h7 := ⟨by omega⟩
    haveI : BLt (h.n + 1) h7 := ⟨by omega⟩
    haveI : BLt q h7 := ⟨by omega⟩
    refine stp ?_
    refine O.call' (BDecode_ok (ho6.keep hf7 fun _ _ => id).rd (by omega)) (fun r h8 hr => ?_)
    obtain ⟨sv, sl, rfl, hO, hf8⟩ := hr
    have hokb := decB_ok l
    generalize decB l = D at *
    obtain ⟨X, E', A'⟩ := D
    simp only at hO hokb ⊢
    obtain ⟨av, cv, rfl, _, _⟩ := hO.votes.rd
    obtain ⟨al, cl, rfl, _, _⟩ := hO.vals.rd
    haveI := l32 hokb.h.prev
    haveI := l32 hokb.h.vals
    haveI := l32 hokb.h.next
    haveI := l32 hokb.h.app
    haveI := l32 hokb.hash
    have s8 := s7.none hf8
    have hlt_h8 := s8.lt
    haveI : HGet h8 h.n _ := ⟨s8.gm⟩
    haveI : HGet h8 (h.n + 1) _ := ⟨s8.gf⟩
    haveI : HGet h8 q _ := ⟨s8.gq⟩
    haveI : BLt h.n h8 := ⟨by omega⟩
    haveI : BLt (h.n + 1) h8 := ⟨by omega⟩
    haveI : BLt q h8 := ⟨by omega⟩
    refine stp ?_
    rw [same_fault]
    generalize hh9 : (((h8.push (.cells zBc 0)).push (.cells [.int .i64 0, .int .i64 0] 0)).set h8.n (.cells (X.cells (.slice av X.c.votes.length cv) (.slice al X.vals.length cl)) 0)).set (h8.push (.cells zBc 0)).n (.cells [.int .i64 E', .int .i64 A'] 0) = h9
    have hf89 : Fr (fun _ => False) h8 h9 := by rw [← hh9]; exact Fr.set (Fr.set Fr.refl.push.push fun hlt => by omega) fun hlt => by simp at hlt; omega
    haveI hX9 : HGet h9 h8.n (.cells (X.cells (.slice av X.c.votes.length cv) (.slice al X.vals.length cl)) 0) := ⟨by rw [← hh9, Heap.get_set, if_neg (by simp), Heap.get_set, if_pos rfl]⟩
    clear hh9
    have s9 := s8.none hf89
    have hlt_h9 := s9.lt
    haveI : HGet h9 h.n _ := ⟨s9.gm⟩
    haveI : HGet h9 (h.n + 1) _ := ⟨s9.gf⟩
    haveI : HGet h9 q _ := ⟨s9.gq⟩
    haveI : BLt h.n h9 := ⟨by omega⟩
    haveI : BLt (h.n + 1) h9 := ⟨by omega⟩
    haveI : BLt q h9 := ⟨by omega⟩
    haveI : BNe h8.n h.n := ⟨by omega⟩
    haveI : BNe h.n h8.n := ⟨by omega⟩
    refine O.callX mustM_ok (fun r h9x hr => ?_) (fun c h9x hx => ?_)
    rotate_left
    · obtain ⟨hb9, rfl, hh9⟩ := hx
      obtain rfl := hh9.symm
      rw [if_neg (of_decide_eq_false hb9)]
      refine stp ?_
      refine (mcaught_ok s9.gm inferInstance s9.gf (by have := s9.lt; omega) (by have := s9.lt; omega) (by omega)).mono (fun u' h' hu => ?_) (fun _ _ _ hx => hx.elim)
      obtain ⟨hs', hm', hf', hfr'⟩ := hu
      rw [hs']
      haveI : HGet h' h.n _ := ⟨hm'⟩
      haveI : HGet h' (h.n + 1) _ := ⟨hf'⟩
      exact L.nil ⟨_, _, rfl, .zero, Fr.trans (S := fun _ => False) s9.fr hfr' fun i hi ho => by rcases ho with ho | ho <;> omega⟩
    obtain ⟨hb9, hh9⟩ := hr
    obtain rfl := hh9.symm
    rw [if_pos (of_decide_eq_true hb9)]
    refine stp ?_
    have s9' := s9.setm (c' := .int .i64 ((2 : Nat) : Int) :: .int .i64 0 :: .int .i64 0 :: .int .i64 (i4 : Nat) :: X.cells (.slice av X.c.votes.length cv) (.slice al X.vals.length cl))
    unfold endM
    have kE := End_run s9'.rr
    generalize endS bs _ = F at *
    obtain ⟨E, A⟩ := F
    refine O.call' kE (fun r hE hr => ?_)
    obtain ⟨rfl, hfE⟩ := hr
    have sE := s9'.none hfE
    have hlt_hE := sE.lt
    haveI : HGet hE h.n _ := ⟨sE.gm⟩
    haveI : HGet hE (h.n + 1) _ := ⟨sE.gf⟩
    haveI : HGet hE q _ := ⟨sE.gq⟩
    haveI : BLt h.n hE := ⟨by omega⟩
    haveI : BLt (h.n + 1) hE := ⟨by omega⟩
    haveI : BLt q hE := ⟨by omega⟩
    refine stp ?_
    rw [same_fault]
    refine D.callX mustM_ok (fun _ _ _ => rfl) (fun r hG hr => ?_) (fun c hG hx => ⟨rfl, ?_⟩)
    · obtain ⟨hb, rfl⟩ := hr
      obtain ⟨rfl, rfl⟩ := Prod.mk.inj (of_decide_eq_true hb)
      rw [if_pos rfl]
      refine stp ?_
      refine mcaught_none.mono (fun u' h' hu => ?_) (fun _ _ _ hx => hx.elim)
      obtain ⟨rfl, rfl⟩ := hu
      refine L.nil ⟨_, _, rfl, BkOwn.lower (hO.keep (S := fun i => i = h.n ∨ i = h.n + 1) (Fr.set (Fr.set (Fr.set (Fr.trans (S := fun i => i = h.n ∨ i = h.n + 1) ((hf89.mono fun _ _ h => h.elim).set fun _ => .inl rfl) hfE fun _ _ h => h.elim) fun _ => .inr rfl) fun _ => .inl rfl) fun _ => .inr rfl) fun i hi => by omega) (by omega), ?_⟩
      exact Fr.set (Fr.set (Fr.set sE.fr fun hlt => by omega) fun hlt => by omega) fun hlt => by omega
    · obtain ⟨hb, rfl, rfl⟩ := hx
      rw [if_neg (of_decide_eq_false hb)]
      refine stp ?_
      refine (mcaught_ok (by rw [Heap.get_set, if_neg (by omega)]; exact sE.gm) inferInstance (by rw [Heap.get_set, if_pos rfl]) (by have := sE.lt; simp only [Heap.n_set]; omega) (by have := sE.lt; simp only [Heap.n_set]; omega) (by omega)).mono (fun u' h' hu => ?_) (fun _ _ _ hx => hx.elim)
      obtain ⟨hs', hm', hf', hfr'⟩ := hu
      rw [hs']
      haveI : HGet h' h.n _ := ⟨hm'⟩
      haveI : HGet h' (h.n + 1) _ := ⟨hf'⟩
      exact L.nil ⟨_, _, rfl, .zero, Fr.trans (S := fun _ => False) (Fr.set sE.fr fun hlt => by omega) hfr' fun i hi ho => by rcases ho with ho | ho <;> omega⟩
end Go.Proofs.YtninaabbojcdpaaGreat.A

namespace Go.Proofs.YtninaabbojcdpaaGreat.A
open Go Go.Vm
set_option maxRecDepth 10000
set_option linter.unusedVariables false
theorem partB_bad {α : Type} {dec : List UInt8 → α × Int × Int} {zero : α} {bs : List UInt8} {st : RSt} (h : (rd (bytesS bs 65536) [] st).2.e ≠ 0) : partB dec zero bs ((0, 0), st) = (zero, ((rd (bytesS bs 65536) [] st).2.e, (rd (bytesS bs 65536) [] st).2.fa), (rd (bytesS bs 65536) [] st).2) := by
  unfold partB
  rw [if_pos rfl]
  simp only
  rw [if_neg h]
theorem partB_form {α : Type} {dec : List UInt8 → α × Int × Int} {zero : α} {bs : List UInt8} {st : RSt} (h : (rd (bytesS bs 65536) [] st).2.e = 0) (hd : (dec (rd (bytesS bs 65536) [] st).1).2 ≠ (0, 0)) : partB dec zero bs ((0, 0), st) = (zero, (5, (st.pl : Int)), (rd (bytesS bs 65536) [] st).2) := by
  unfold partB
  rw [if_pos rfl]
  simp only
  rw [if_pos h, if_neg hd]
theorem partB_good {α : Type} {dec : List UInt8 → α × Int × Int} {zero : α} {bs : List UInt8} {st : RSt} (h : (rd (bytesS bs 65536) [] st).2.e = 0) (hd : (dec (rd (bytesS bs 65536) [] st).1).2 = (0, 0)) : partB dec zero bs ((0, 0), st) = ((dec (rd (bytesS bs 65536) [] st).1).1, (0, 0), (rd (bytesS bs 65536) [] st).2) := by
  unfold partB
  rw [if_pos rfl]
  simp only
  rw [if_pos h, if_pos hd]
theorem partB_stop {α : Type} {dec : List UInt8 → α × Int × Int} {zero : α} {bs : List UInt8} {y : (Int × Int) × RSt} (h : y.1 ≠ (0, 0)) : partB dec zero bs y = (zero, y) := by
  unfold partB
  rw [if_neg h]
theorem decB_parts {bs : List UInt8} {y1 : Hd × (Int × Int) × RSt} {y2 : Cm × (Int × Int) × RSt} {y3 : List Val × (Int × Int) × RSt} (h1 : partB decS zeroHd bs ((0, 0), ⟨0, 0, 0⟩) = y1) (h2 : partB decC zCm bs y1.2 = y2) (h3 : partB decV [] bs y2.2 = y3) :
    decB bs = if (if y3.2.1 = (0, 0) then endS bs y3.2.2 else y3.2.1) = (0, 0) then (⟨y1.1, y2.1, y3.1⟩, if y3.2.1 = (0, 0) then endS bs y3.2.2 else y3.2.1) else (zBk, if y3.2.1 = (0, 0) then endS bs y3.2.2 else y3.2.1) := by
  unfold decB
  simp only
  rw [h1, h2, h3]
theorem decB_fin {bs : List UInt8} {y1 : Hd × (Int × Int) × RSt} {y2 : Cm × (Int × Int) × RSt} {y3 : List Val × (Int × Int) × RSt} (h1 : partB decS zeroHd bs ((0, 0), ⟨0, 0, 0⟩) = y1) (h2 : partB decC zCm bs y1.2 = y2) (h3 : partB decV [] bs y2.2 = y3) (h : y3.2.1 = (0, 0)) :
    decB bs = if endS bs y3.2.2 = (0, 0) then (⟨y1.1, y2.1, y3.1⟩, endS bs y3.2.2) else (zBk, endS bs y3.2.2) := by
  rw [decB_parts h1 h2 h3, if_pos h]
end Go.Proofs.YtninaabbojcdpaaGreat.A

namespace Go.Proofs.YtninaabbojcdpaaGreat.A
open Go Go.Vm
set_option maxRecDepth 10000
set_option linter.unusedVariables false
structure BSt (h H : Heap) (p x : Nat) (svr : Value) (bs : List UInt8) (c : List Value) (st : RSt) : Prop where
  ga : H.get h.n = .cells zBc 0
  gb : H.get (h.n + 1) = .cells [.int .i64 0, .int .i64 0] 0
  gx : H.get x = .cells c 0
  rr : RRs H p svr bs st
  fr : Fr (fun _ => False) h H
  lo : h.n + 2 ≤ p
  hi : p < x
  lt : x < H.n
  own : ∀ i, ownedBy svr i → h.n + 2 ≤ i ∧ i < x
theorem BSt.step {h H H' : Heap} {p x : Nat} {svr : Value} {bs : List UInt8} {c : List Value} {st st' : RSt} (hs : BSt h H p x svr bs c st) (hf : Fr (fun i => i = p) H H') (hr : RRs H' p svr bs st') : BSt h H' p x svr bs c st' := by
  have h1 := hs.lo
  have h2 := hs.hi
  have h3 := hs.lt
  have h4 := hf.n
  exact ⟨by rw [hf.get _ (by omega) (by omega)]; exact hs.ga, by rw [hf.get _ (by omega) (by omega)]; exact hs.gb, by rw [hf.get _ (by omega) (by omega)]; exact hs.gx, hr, Fr.trans (S := fun _ => False) hs.fr hf fun i hi h => by omega, h1, h2, by omega, hs.own⟩
theorem BSt.none {h H H' : Heap} {p x : Nat} {svr : Value} {bs : List UInt8} {c : List Value} {st : RSt} (hs : BSt h H p x svr bs c st) (hf : Fr (fun _ => False) H H') : BSt h H' p x svr bs c st := hs.step (hf.mono fun _ _ h => h.elim) (hs.rr.none hf)
end Go.Proofs.YtninaabbojcdpaaGreat.A

namespace Go.Proofs.YtninaabbojcdpaaGreat.A
open Go Go.Vm
set_option maxRecDepth 10000
set_option linter.unusedVariables false
theorem SameVotes_same {h : Heap} {v w : Value} {l : List Vote} (hv : Rd h 2 v (tcells l) l.length) (hw : Rd h 2 w (tcells l) l.length) (hs : l.length < 1048576) :
    Runs Tryz.prog T0 (.fn fn_zlbQ) [v, w] h (fun r h' => r = .bool true ∧ h' = h) (fun _ _ => False) := by
  obtain ⟨a, cap, rfl, hlen, hc⟩ := hv
  obtain ⟨a', cap', rfl, hlen', hc'⟩ := hw
  refine zlbQ_runs ?_
  refine stpP ?_
  refine zlbQ_l0_rule (fun m v5 v6 h' => ∃ k : Nat, k ≤ l.length ∧ m = l.length - k ∧ v6 = .int .i64 k ∧ v5 = .bool true ∧ h' = h) ?_ l.length ⟨0, by omega, rfl, rfl, by simp, rfl⟩
  rintro m v5 v6 h' x12 x13 x14 x15 x16 x17 x18 x19 x20 x21 x22 x23 x24 x25 x26 x27 x28 x29 ⟨k, hk, rfl, rfl, rfl, rfl⟩
  refine stpP ?_
  refine C.if (fun hlt => ?_) (fun hge => ?_)
  · have hlt : k < l.length := by omega
    obtain ⟨b, o, sp, rfl, hb, hcc⟩ := hc (by omega)
    obtain ⟨b', o', sp', rfl, hb', hcc'⟩ := hc' (by omega)
    haveI := vote_cells hcc rfl hlt
    haveI := vote_cells hcc' rfl hlt
    refine stpP ?_
    rw [same_self]
    exact zlbQ_l0_again (l.length - (k + 1)) (by omega) ⟨k + 1, by omega, rfl, rfl, rfl, rfl⟩
  · refine stpP ?_
    exact ⟨rfl, rfl⟩
theorem SameCommit_same {h : Heap} {x : Cm} {sv sw : Value} (hl : x.hash.length = 32) (hs : x.votes.length < 1048576) (hv : Rd h 2 sv (tcells x.votes) x.votes.length) (hw : Rd h 2 sw (tcells x.votes) x.votes.length) :
    Runs Tryz.prog T0 (.fn fn_zibQ) [.agg ⟨x.cells sv⟩, .agg ⟨x.cells sw⟩] h (fun r h' => r = .bool true ∧ Fr (fun _ => False) h h') (fun _ _ => False) := by
  haveI := l32 hl
  refine zibQ_runs ?_
  refine stpP ?_
  refine O.dec (fun _ => ?_) (fun hh => absurd rfl hh)
  refine stpP ?_
  rw [same_self]
  refine stpP ?_
  refine O.callT (SameVotes_same (hv.keep (S := fun _ => False) Fr.refl.push.push fun _ _ => id) (hw.keep (S := fun _ => False) Fr.refl.push.push fun _ _ => id) hs) (fun r h1 hr => ?_)
  obtain ⟨rfl, rfl⟩ := hr
  refine stpP ?_
  exact ⟨rfl, Fr.refl.push.push⟩
theorem SameBlock_same {h : Heap} {x : Bk} {sv sl sw sm : Value} (hx : x.ok) (hv : Rd h 2 sv (tcells x.c.votes) x.c.votes.length) (hl : Rd h 5 sl (vcells x.vals) x.vals.length) (hw : Rd h 2 sw (tcells x.c.votes) x.c.votes.length) (hm : Rd h 5 sm (vcells x.vals) x.vals.length) :
    Runs Tryz.prog T0 (.fn fn_zgbQ) [.agg ⟨x.cells sv sl⟩, .agg ⟨x.cells sw sm⟩] h (fun r h' => r = .bool true ∧ Fr (fun _ => False) h h') (fun _ _ => False) := by
  haveI := l32 hx.h.prev
  haveI := l32 hx.h.vals
  haveI := l32 hx.h.next
  haveI := l32 hx.h.app
  haveI := l32 hx.hash
  have hvo := hx.votes
  have hva := hx.vals
  refine zgbQ_runs ?_
  refine stpP ?_
  generalize hh0 : (h.push (.cells (x.cells sv sl) 0)).push (.cells (x.cells sw sm) 0) = h0
  generalize hb : (h.push (.cells (x.cells sv sl) 0)).n = b
  have hf0 : Fr (fun _ => False) h h0 := by rw [← hh0]; exact Fr.refl.push.push
  have hA : HGet h0 h.n (.cells (x.cells sv sl) 0) := by rw [← hh0]; exact HGet.push (k := BLt.new) (g := HGet.new)
  have hB : HGet h0 b (.cells (x.cells sw sm) 0) := by rw [← hh0, ← hb]; exact HGet.new
  have hb' : b = h.n + 1 := by rw [← hb]; rfl
  have hn0 : h0.n = h.n + 2 := by rw [← hh0]; rfl
  clear hh0 hb
  haveI := hA
  haveI := hB
  rw [same_self]
  refine stpP ?_
  refine O.callT (SameCommit_same hx.hash (by omega) (hv.keep hf0 fun _ _ => id) (hw.keep hf0 fun _ _ => id)) (fun r h1 hr => ?_)
  obtain ⟨rfl, hf1⟩ := hr
  haveI := hf1.keep hA (by omega) id
  haveI := hf1.keep hB (by omega) id
  have hf01 := hf0.trans' hf1
  refine stpP ?_
  refine O.callT (SameVals_same (hl.keep hf01 fun _ _ => id) (hm.keep hf01 fun _ _ => id) (by omega)) (fun r h2 hr => ?_)
  obtain ⟨rfl, rfl⟩ := hr
  refine stpP ?_
  exact ⟨rfl, hf01⟩
theorem SameMsg_same {h : Heap} {x : Ms} {sv sl sw sm : Value} (hx : x.b.ok) (hv : Rd h 2 sv (tcells x.b.c.votes) x.b.c.votes.length) (hl : Rd h 5 sl (vcells x.b.vals) x.b.vals.length) (hw : Rd h 2 sw (tcells x.b.c.votes) x.b.c.votes.length) (hm : Rd h 5 sm (vcells x.b.vals) x.b.vals.length) :
    Runs Tryz.prog T0 (.fn fn_zjbQ) [.agg ⟨x.cells sv sl⟩, .agg ⟨x.cells sw sm⟩] h (fun r h' => r = .bool true ∧ Fr (fun _ => False) h h') (fun _ _ => False) := by
  haveI := l32 hx.h.prev
  haveI := l32 hx.h.vals
  haveI := l32 hx.h.next
  haveI := l32 hx.h.app
  haveI := l32 hx.hash
  refine zjbQ_runs ?_
  refine stpP ?_
  refine O.dec (fun _ => ?_) (fun hh => absurd rfl hh)
  refine stpP ?_
  rw [same_self]
  refine stpP ?_
  refine O.dec (fun _ => ?_) (fun hh => absurd rfl hh)
  refine stpP ?_
  have hf0 : ∀ {o1 o2 : AObj}, Fr (fun _ => False) h ((h.push o1).push o2) := Fr.refl.push.push
  refine O.callT (SameBlock_same hx (hv.keep hf0 fun _ _ => id) (hl.keep hf0 fun _ _ => id) (hw.keep hf0 fun _ _ => id) (hm.keep hf0 fun _ _ => id)) (fun r h1 hr => ?_)
  obtain ⟨rfl, hf1⟩ := hr
  refine stpP ?_
  exact ⟨rfl, hf0.trans' hf1⟩
end Go.Proofs.YtninaabbojcdpaaGreat.A

namespace Go.Proofs.YtninaabbojcdpaaGreat.A
open Go Go.Vm
set_option maxRecDepth 10000
set_option linter.unusedVariables false
theorem CopyBytes_ok {h : Heap} {v : Value} {l : List UInt8} (hr : Rd h 1 v (bcells l) l.length) (hs : l.length < 1048576) :
    Runs Tryz.prog T0 (.fn fn_zdbQ) [v] h (fun r h' => Own h' 1 r (bcells l) l.length ∧ (∀ i, ownedBy r i → h.n ≤ i) ∧ Fr (fun _ => False) h h') (fun _ _ => False) := by
  refine zdbQ_runs ?_
  refine stp ?_
  have hz : Own (h.push (.cells [] 0)) 1 (.slice (some ⟨h.n, 0, none⟩) 0 0) [] 0 := .lit (by simp) (by rw [Heap.get_push, if_pos rfl])
  refine O.append hz ((hr.keep (S := fun _ => False) Fr.refl.push fun _ _ => id).new [.int .u8 0]) (by rw [bcells_len]; omega) (bcells_one l) (by omega) (by omega) (by omega) (fun v' h' h1 h2 h3 => ?_)
  refine stp ?_
  rw [Nat.zero_add, List.nil_append] at h1
  refine ⟨h1, fun i hi => ?_, Fr.trans (S := fun _ => False) Fr.refl.push h2 fun i hi ho => ?_⟩
  · rcases h3 i hi with h4 | h4
    · rw [← h4]; exact Nat.le_refl _
    · simp at h4; omega
  · have : h.n = i := ho
    omega
def pickS (x n : Int) : Int := if n ≤ 0 then 0 else x % n
theorem Pick_ok {h : Heap} {x n : Int} (hn : n ≤ 9223372036854775807) : Runs Tryz.prog T0 (.fn fn_zfbQ) [.int .i64 x, .int .i64 n] h (fun r h' => r = .int .i64 (pickS x n) ∧ h' = h) (fun _ _ => False) := by
  refine zfbQ_runs ?_
  refine stp ?_
  unfold pickS
  refine C.if (fun h0 => ?_) (fun h0 => ?_)
  · refine stp ?_
    rw [if_pos h0]
    exact ⟨rfl, rfl⟩
  · refine stp ?_
    refine O.how (XOp.remI (by omega)) ?_
    have h1 := Int.tmod_lt_of_pos x (show 0 < n by omega)
    have h2 : -n < x.tmod n := by
      have := Int.lt_tmod_of_pos x (show 0 < n by omega)
      omega
    have e := Int.tmod_eq_emod (a := x) (b := n)
    have p1 := Int.emod_nonneg x (show n ≠ 0 by omega)
    have p2 := Int.emod_lt_of_pos x (show 0 < n by omega)
    have p3 : (n.natAbs : Int) = n := Int.natAbs_of_nonneg (by omega)
    refine stp ?_
    rw [if_neg h0]
    refine C.if (fun h3 => ?_) (fun h3 => ?_)
    · refine stp ?_
      refine ⟨?_, rfl⟩
      congr 1
      split at e <;> omega
    · refine stp ?_
      refine ⟨?_, rfl⟩
      congr 1
      split at e <;> omega
end Go.Proofs.YtninaabbojcdpaaGreat.A

namespace Go.Proofs.YtninaabbojcdpaaGreat.A
open Go Go.Vm
set_option maxRecDepth 10000
set_option linter.unusedVariables false
theorem lget_pre : ∀ (l m : List Value) (k : Nat), k < l.length → lget (l ++ m) k = lget l k
  | [], _, _, h => by simp at h
  | a :: l, m, 0, _ => rfl
  | a :: l, m, k + 1, h => lget_pre l m k (by simpa using h)
theorem byte_cell {h : Heap} {q es k : Nat} {l : List UInt8} {j : List Value} (hg : h.get q = .cells (bcells l ++ j) es) (hk : k < l.length) : Cell h q k (.int .u8 ((l.getD k 0).toNat : Nat)) := ⟨by
  rw [cellsAt_of (c := bcells l ++ j) (by rw [hg]; rfl) (by simp [bcells_len]; omega), take_one _ _ (by simp [bcells_len]; omega), lget_pre _ _ _ (by rw [bcells_len]; exact hk), (bcells_get hk).eq]⟩
end Go.Proofs.YtninaabbojcdpaaGreat.A

namespace Go.Proofs.YtninaabbojcdpaaGreat.A
open Go Go.Vm
set_option maxRecDepth 10000
set_option linter.unusedVariables false
def byteAt (n k : Nat) : UInt8 := UInt8.ofNat (n / 2 ^ (8 * k) % 256)
def word8 (n : Nat) : List UInt8 := [byteAt n 7, byteAt n 6, byteAt n 5, byteAt n 4, byteAt n 3, byteAt n 2, byteAt n 1, byteAt n 0]
theorem word8_len (n : Nat) : (word8 n).length = 8 := rfl
theorem shrU {P : Program} {ts : List Value} {h : Heap} {x y : Operand} {t t' ty : TypeId} {N s : Nat} {q : Int} {J : IntKind} (hq : q = s) (hs : s < 64) [e1 : Ev ts x (.int .u64 (N : Nat))] [e2 : Ev ts y (.int J q)] :
    XOp P ts h (.bin .shr (so (.binOp .shr t x y t') ty) x y) (.int .u64 ((N / 2 ^ s : Nat) : Int)) h := by
  have := XOp.shr (P := P) (ts := ts) (h := h) (x := x) (y := y) (t := t) (t' := t') (ty := ty) (K := .u64) (J := J) (p := (N : Int)) (q := q) (by omega)
  rw [show min q.toNat IntKind.u64.bits = s from by rw [hq, show IntKind.u64.bits = 64 from rfl]; omega, Int.fdiv_eq_ediv_of_nonneg _ (by exact_mod_cast Nat.zero_le _)] at this
  rw [show ((N / 2 ^ s : Nat) : Int) = (N : Int) / 2 ^ s from by rw [Int.natCast_ediv, Int.natCast_pow]; rfl]
  exact this
theorem byte_wrap (N : Nat) : IntKind.wrap .u8 ((N : Nat) : Int) = (((UInt8.ofNat (N % 256)).toNat : Nat) : Int) := by
  rw [wrap_u8, u8nat (Nat.mod_lt _ (by omega))]
  omega
def wk (n k : Nat) : List Value := bcells (List.replicate (8 - k) 0 ++ (word8 n).drop (8 - k))
set_option maxHeartbeats 4000000 in
theorem word_ok {h : Heap} {n : Nat} : Runs Tryz.prog T0 (.fn fn_zbeQ) [.int .u64 n] h (fun r h' => r = .agg ⟨bcells (word8 n)⟩ ∧ Fr (fun _ => False) h h') (fun _ _ => False) := by
  refine zbeQ_runs ?_
  refine stp ?_
  refine zbeQ_l0_rule (fun m v5 h' => ∃ k : Nat, k ≤ 8 ∧ m = 8 - k ∧ v5 = .int .i64 k ∧ h'.get (h.n + 1) = .cells (wk n k) 0 ∧ h'.get h.n = .cells [.int .u8 0, .int .u8 0, .int .u8 0, .int .u8 0, .int .u8 0, .int .u8 0, .int .u8 0, .int .u8 0] 0 ∧ h.n + 1 < h'.n ∧ Fr (fun _ => False) h h') ?_ 8 ⟨0, by omega, rfl, rfl, HGet.new.eq, by rw [Heap.get_push, if_neg (by simp), Heap.get_push, if_pos rfl], by simp, Fr.refl.push.push⟩
  rintro m v5 h' x4 x6 x7 x8 x9 x10 x11 x12 x13 x14 x15 x16 ⟨k, hk, rfl, rfl, hg, hg0, hn, hf⟩
  have hst : ∀ {k : Nat} {b : UInt8}, k < 8 → b = byteAt n k → over (wk n k) (7 - k) [.int .u8 (b.toNat : Nat)] = wk n (k + 1) := by
    intro k b hk hb
    subst hb
    rcases (show k = 0 ∨ k = 1 ∨ k = 2 ∨ k = 3 ∨ k = 4 ∨ k = 5 ∨ k = 6 ∨ k = 7 by omega) with rfl | rfl | rfl | rfl | rfl | rfl | rfl | rfl <;> rfl
  haveI : HGet h' (h.push (.cells [.int .u8 0, .int .u8 0, .int .u8 0, .int .u8 0, .int .u8 0, .int .u8 0, .int .u8 0, .int .u8 0] 0)).n _ := ⟨hg⟩
  haveI : BNe h.n (h.push (.cells [.int .u8 0, .int .u8 0, .int .u8 0, .int .u8 0, .int .u8 0, .int .u8 0, .int .u8 0, .int .u8 0] 0)).n := ⟨by simp⟩
  haveI : HGet h' h.n _ := ⟨hg0⟩
  refine stp ?_
  refine C.if (fun hlt => ?_) (fun hge => ?_)
  · refine stp ?_
    refine O.how (shrU (N := n) (s := 8 * k) (by rw [mul_in (by omega)]; omega) (by omega)) ?_
    refine stp ?_
    rw [byte_wrap]
    have h8 : (7 - (k : Int)).toNat = 7 - k := by omega
    simp only [h8, Nat.zero_add, Nat.mul_one]
    refine O.by0 (mkStoreN (P := Tryz.prog) (h := h') (xs := [.int .u8 (byteAt n k).toNat]) (c := wk n k) (r := h.n + 1) (o := 7 - k) (sp := none) (es := 0) (by simp [wk, bcells_len, word8_len]) rfl rfl (g := ⟨hg⟩)) rfl ?_
    rw [hst (by omega) rfl]
    refine stp ?_
    exact zbeQ_l0_again (8 - (k + 1)) (by omega) ⟨k + 1, by omega, rfl, rfl, by rw [Heap.get_set, if_pos rfl], by rw [Heap.get_set, if_neg (by omega)]; exact hg0, by simpa using hn, hf.set fun e => absurd e (by omega)⟩
  · obtain rfl : k = 8 := by omega
    have e8 : wk n 8 = [.int .u8 (byteAt n 7).toNat, .int .u8 (byteAt n 6).toNat, .int .u8 (byteAt n 5).toNat, .int .u8 (byteAt n 4).toNat, .int .u8 (byteAt n 3).toNat, .int .u8 (byteAt n 2).toNat, .int .u8 (byteAt n 1).toNat, .int .u8 (byteAt n 0).toNat] := rfl
    rw [e8] at hg
    haveI : HGet h' (h.push (.cells [.int .u8 0, .int .u8 0, .int .u8 0, .int .u8 0, .int .u8 0, .int .u8 0, .int .u8 0, .int .u8 0] 0)).n _ := ⟨hg⟩
    refine stp ?_
    exact ⟨rfl, hf.set fun e => absurd e (by omega)⟩
theorem WWord_okV {h : Heap} {S : Nat → Prop} {p lim : Nat} {st : WSt} {n : Nat} (hw : PVs h S p lim st) (hS : ∀ i, h.n ≤ i → S i) (hs : st.bs.length + 8 < 1048576) :
    Runs Tryz.prog T0 (.fn fn_zndQ) [.pointer (some ⟨p, 0, none⟩), .int .u64 n] h (WritesV h S p lim (putS lim true (word8 n) st)) (fun _ _ => False) := by
  refine zndQ_runs ?_
  refine stp ?_
  refine O.call' (word_ok (n := n)) (fun r h1 hr => ?_)
  obtain ⟨rfl, hf⟩ := hr
  have hw1 := hw.none hf
  have n1 := hf.n
  rw [show bcells (word8 n) = [.int .u8 (byteAt n 7).toNat, .int .u8 (byteAt n 6).toNat, .int .u8 (byteAt n 5).toNat, .int .u8 (byteAt n 4).toNat, .int .u8 (byteAt n 3).toNat, .int .u8 (byteAt n 2).toNat, .int .u8 (byteAt n 1).toNat, .int .u8 (byteAt n 0).toNat] from rfl]
  refine stp ?_
  refine O.call' (put_okV (ls := [(.slice (some ⟨h1.n, 0, none⟩) 8 8, word8 n)]) (hw1.none Fr.refl.push.push) (fun i hi => hS i (by simp at hi; omega)) (rd_lit rfl) ?_ (by simp) (by simp [flat, word8_len]; omega)) (fun r h2 hr => ?_)
  · intro q hq
    simp at hq
    subst hq
    exact (rd_lit (h := h1) (c := bcells (word8 n)) (es := 0) (n := 8) rfl).keep (S := fun _ => False) Fr.refl.push fun _ _ => id
  · refine stp ?_
    rw [show flat [(Value.slice (some ⟨h1.n, 0, none⟩) 8 8, word8 n)] = word8 n from by simp [flat]] at hr
    exact ⟨hr.1, hr.2.1, Fr.trans (S := S) (hf.mono fun _ _ h => h.elim) (Fr.trans (S := S) Fr.refl.push.push hr.2.2 fun _ _ h => h) fun _ _ h => h⟩
end Go.Proofs.YtninaabbojcdpaaGreat.A

namespace Go.Proofs.YtninaabbojcdpaaGreat.A
open Go Go.Vm
set_option maxRecDepth 10000
set_option linter.unusedVariables false
def voteF (v : Vote) : List UInt8 := numF v.at'.toNat ++ word8 v.sig
def bodyC (l : List Vote) : List UInt8 := l.flatMap voteF
def encC (ht : Int) (hs : List UInt8) (l : List Vote) : List UInt8 := numF ht.toNat ++ hs ++ numF l.length ++ bodyC l
theorem stepsC_range : ∀ {l : List Vote} {o : Int}, stepsC o l = 0 → ∀ v ∈ l, 0 ≤ v.at' ∧ v.at' < 64
  | [], _, _, _, h => by cases h
  | v :: l, o, h, w, hw => by
    rw [stepsC] at h
    by_cases hA : voteS o v = 0
    · rw [if_pos hA] at h
      have hv : 0 ≤ v.at' ∧ v.at' < 64 := by
        unfold voteS at hA
        split at hA
        · cases hA
        · omega
      rcases List.mem_cons.1 hw with rfl | hw
      · exact hv
      · exact stepsC_range h w hw
    · rw [if_neg hA] at h; exact absurd h hA
theorem checkC_ok {ht : Int} {l : List Vote} (h : checkC ht l = 0) : (1 ≤ ht ∧ ht ≤ 1073741824) ∧ l.length ≤ 64 ∧ stepsC (-1) l = 0 ∧ ∀ v ∈ l, 0 ≤ v.at' ∧ v.at' < 64 := by
  unfold checkC at h
  split at h
  · cases h
  · split at h
    · cases h
    · exact ⟨by omega, by omega, h, stepsC_range h⟩
theorem bodyC_len : ∀ {l : List Vote}, (∀ v ∈ l, 0 ≤ v.at' ∧ v.at' < 64) → (bodyC l).length ≤ l.length * 17
  | [], _ => by simp [bodyC]
  | v :: l, h => by
    have h1 := bodyC_len (l := l) fun w hw => h w (by simp [hw])
    have h2 := h v (by simp)
    have h3 := numF_len (n := v.at'.toNat) (by omega)
    simp only [bodyC, voteF, List.flatMap_cons, List.length_append, List.length_cons, word8_len] at h1 ⊢
    omega
theorem bodyC_take {l : List Vote} {k : Nat} (hk : k < l.length) : bodyC (l.take (k + 1)) = bodyC (l.take k) ++ (numF (l.getD k zVote).at'.toNat ++ word8 (l.getD k zVote).sig) := by
  have : l.take (k + 1) = l.take k ++ [l.getD k zVote] := by
    rw [List.take_succ_eq_append_getElem hk]
    simp [List.getD, hk]
  rw [this]
  simp [bodyC, voteF]
theorem getD_memC {l : List Vote} {k : Nat} (hk : k < l.length) : l.getD k zVote ∈ l := by
  simp [List.getD, hk]
theorem encC_len {ht : Int} {hs : List UInt8} {l : List Vote} (hh : hs.length = 32) (h : checkC ht l = 0) : (encC ht hs l).length ≤ 1138 := by
  obtain ⟨h1, h2, _, h3⟩ := checkC_ok h
  have h4 := bodyC_len h3
  have h5 := numF_len (n := l.length) (by omega)
  have h6 := numF_len (n := ht.toNat) (by omega)
  unfold encC
  simp only [List.length_append]
  omega
set_option maxHeartbeats 8000000 in
theorem CEncode_ok {h : Heap} {ht : Int} {hs : List UInt8} {sv : Value} {l : List Vote} (hl : hs.length = 32) (hv : Rd h 2 sv (tcells l) l.length) :
    Runs Tryz.prog T0 (.fn fn_zpQ) [.agg ⟨.int .i64 ht :: (bcells hs ++ [sv])⟩] h
      (fun r h' => ∃ w, r = .tuple ⟨[w, .int .i64 (checkC ht l)]⟩ ∧ Own h' 1 w (bcells (if checkC ht l = 0 then encC ht hs l else [])) (if checkC ht l = 0 then encC ht hs l else []).length ∧ (∀ i, ownedBy w i → h.n ≤ i) ∧ Fr (fun _ => False) h h') (fun _ _ => False) := by
  have hv0 := hv
  obtain ⟨a, cap, rfl, hlen, hc⟩ := hv
  haveI := l32 hl
  refine zpQ_runs ?_
  refine stp ?_
  refine O.call' (CCheck_ok hl (hv0.keep (S := fun _ => False) Fr.refl.push fun _ _ => id)) (fun r h1 hr => ?_)
  obtain ⟨rfl, hf1⟩ := hr
  have hn1 := hf1.n
  simp only [Heap.n_push] at hn1
  have g1 : HGet h1 h.n (.cells (.int .i64 ht :: (bcells hs ++ [.slice a l.length cap])) 0) := hf1.keep (b := h.n) HGet.new (by simp) id
  have f01 : Fr (fun _ => False) h h1 := Fr.trans (S := fun _ => False) Fr.refl.push hf1 fun _ _ => id
  haveI := g1
  refine stp ?_
  refine C.ifN (fun hc => ?_) (fun hz => ?_)
  · refine stp ?_
    rw [if_neg hc]
    exact ⟨_, rfl, .none, fun i h => h.elim, f01⟩
  obtain ⟨c1, c2, c3, c4⟩ := checkC_ok hz
  have hnl := numF_len (n := l.length) (by omega)
  have hnh := numF_len (n := ht.toNat) (by omega)
  refine stp ?_
  refine O.call' (NewWriter_ok (lim := 1048576) (by omega)) (fun r h2 hr => ?_)
  obtain ⟨rfl, hw2, hf2⟩ := hr
  have hn2 := hf2.n
  have g2 := hf2.keep g1 (by omega) id
  haveI := g2
  refine stp ?_
  refine O.call' (WNum_ok hw2 (by omega) (by simp only [List.length_nil]; omega)) (fun r h3 hr => ?_)
  obtain ⟨rfl, hw3, hf3⟩ := hr
  have hn3 := hf3.n
  rw [decide_eq_true (by omega), putS_fit (by simp only [List.length_nil]; omega), List.nil_append] at hw3
  have g3 := hf3.keep g2 (by omega) (by omega)
  haveI := g3
  refine stp ?_
  refine O.call' (WHash_ok hw3 hl (by show (numF ht.toNat).length + 32 < _; omega)) (fun r h4 hr => ?_)
  obtain ⟨rfl, hw4, hf4⟩ := hr
  have hn4 := hf4.n
  rw [putS_fit (by show (numF ht.toNat).length + _ ≤ _; omega)] at hw4
  have g4 := hf4.keep g3 (by omega) (by omega)
  haveI := g4
  refine stp ?_
  refine O.call' (WNum_ok hw4 (by omega) (by simp only [List.length_append]; omega)) (fun r h5 hr => ?_)
  obtain ⟨rfl, hw5, hf5⟩ := hr
  have hn5 := hf5.n
  rw [decide_eq_true (by omega), putS_fit (by simp only [List.length_append, Int.toNat_natCast]; omega), Int.toNat_natCast] at hw5
  have g5 := hf5.keep g4 (by omega) (by omega)
  haveI := g5
  have f15 : Fr (fun i => h1.n ≤ i) h1 h5 := (((hf2.mono fun _ _ h => h.elim).trans' hf3).trans' hf4).trans' hf5
  have f05 : Fr (fun i => h1.n ≤ i) h h5 := Fr.trans (S := fun i => h1.n ≤ i) (f01.mono fun _ _ h => h.elim) f15 fun _ _ h => h
  generalize hB : numF ht.toNat ++ hs ++ numF l.length = bb at *
  have hbb : bb.length ≤ 50 := by rw [← hB]; simp only [List.length_append]; omega
  refine stp ?_
  refine zpQ_l0_rule (fun m v34 h' => ∃ k : Nat, k ≤ l.length ∧ m = l.length - k ∧ v34 = .int .i64 k ∧ PVs h' (fun i => h1.n ≤ i) h1.n 1048576 ⟨bb ++ bodyC (l.take k), 0⟩ ∧ Fr (fun i => h1.n ≤ i) h h') ?_ l.length ⟨0, by omega, rfl, rfl, by simpa [bodyC] using PVs.of hw5, f05⟩
  rintro m v34 h' x8 x35 x36 x37 x38 x39 x40 x41 x42 x43 x44 x45 x46 ⟨k, hk, rfl, rfl, hw, hf⟩
  refine stp ?_
  refine C.if (fun hlt => ?_) (fun hge => ?_)
  · have hlt : k < l.length := by omega
    obtain ⟨b, o, sp, rfl, hb, hcc⟩ := hc (by omega)
    have hcc' : cellsAt h' b o (l.length * 2) = some (tcells l) := by rw [cellsAt_keep hf hb (by omega)]; exact hcc
    haveI := vote_cells hcc' rfl hlt
    have hr := c4 _ (getD_memC hlt)
    have hbl := bodyC_len (l := l.take k) fun v hv => c4 v (List.mem_of_mem_take hv)
    rw [List.length_take] at hbl
    have hmin : min k l.length = k := by omega
    rw [hmin] at hbl
    have hpl := numF_len (n := (l.getD k zVote).at'.toNat) (by omega)
    refine stp ?_
    have hlt' := hw.lt
    have hS : ∀ i, (h'.push (.cells (l.getD k zVote).cells 0)).n ≤ i → h1.n ≤ i ∧ i ≠ h'.n := fun i hi => by simp at hi; omega
    have hw0 : PVs (h'.push (.cells (l.getD k zVote).cells 0)) (fun i => h1.n ≤ i ∧ i ≠ h'.n) h1.n 1048576 ⟨bb ++ bodyC (l.take k), 0⟩ := (hw.mono fun i hi hs => ⟨hs, by omega⟩).none Fr.refl.push
    refine O.call' (WNum_okV hw0 hS (by omega) (by simp only [List.length_append]; omega)) (fun r h6 hr => ?_)
    obtain ⟨rfl, hw6, hf6⟩ := hr
    rw [decide_eq_true (by omega), putS_fit (by simp only [List.length_append]; omega)] at hw6
    have hn6 := hf6.n
    have hq6 : HGet h6 h'.n (.cells (l.getD k zVote).cells 0) := hf6.keep HGet.new (by simp) (by simp)
    haveI := hq6
    simp only [Heap.n_push] at hn6
    refine stp ?_
    refine O.call' (WWord_okV (n := (l.getD k zVote).sig) hw6 (fun i hi => by omega) (by simp only [List.length_append]; omega)) (fun r h7 hr => ?_)
    obtain ⟨rfl, hw7, hf7⟩ := hr
    rw [putS_fit (by simp only [List.length_append, word8_len]; omega)] at hw7
    refine stp ?_
    refine zpQ_l0_again (l.length - (k + 1)) (by omega) ⟨k + 1, by omega, rfl, rfl, ?_, ?_⟩
    · rw [bodyC_take hlt, ← List.append_assoc, ← List.append_assoc]
      exact hw7.mono fun i _ hs => hs.1
    · exact Fr.trans (S := fun i => h1.n ≤ i) hf ((Fr.trans (S := fun i => h1.n ≤ i ∧ i ≠ h'.n) Fr.refl.push (hf6.trans' hf7) fun _ _ h => h).mono fun _ _ h => h.1) fun _ _ h => h
  · obtain rfl : k = l.length := by omega
    rw [List.take_length] at hw
    refine stp ?_
    refine O.call' (Done_ok hw.to) (fun r h6 hr => ?_)
    obtain ⟨w, rfl, ho, hnew, hf6⟩ := hr
    refine stp ?_
    rw [hz] at *
    rw [if_pos rfl]
    refine ⟨w, rfl, by rw [if_pos rfl] at ho; unfold encC; rw [hB]; exact ho, fun i hi => ?_, Fr.trans (S := fun _ => False) (S' := fun i => h1.n ≤ i) Fr.refl (hf.trans' (hf6.mono fun _ _ h => h.elim)) fun i hi h => by omega⟩
    have := hnew i hi
    have := hf.n
    omega
end Go.Proofs.YtninaabbojcdpaaGreat.A

namespace Go.Proofs.YtninaabbojcdpaaGreat.A
open Go Go.Vm
set_option maxRecDepth 10000
set_option linter.unusedVariables false
end Go.Proofs.YtninaabbojcdpaaGreat.A

namespace Go.Proofs.YtninaabbojcdpaaGreat.A
open Go Go.Vm
set_option maxRecDepth 10000
set_option linter.unusedVariables false
def firstE : List Int → Int
  | [] => 0
  | e :: es => if e = 0 then firstE es else e
theorem firstE_drop {es : List Int} {k : Nat} (hk : k < es.length) : firstE (es.drop k) = if es.getD k 0 = 0 then firstE (es.drop (k + 1)) else es.getD k 0 := by
  have : es.drop k = es.getD k 0 :: es.drop (k + 1) := by
    rw [List.drop_eq_getElem_cons hk]
    simp [List.getD, hk]
  rw [this]
  rfl
def Holds (h0 : Heap) (f : Value) (e : Int) : Prop :=
  ∃ fid cap, f = .func (.func fid) ⟨[]⟩ ⟨cap⟩ ∧ ∀ h, Fr (fun i => h0.n ≤ i) h0 h → Runs Tryz.prog T0 (.fn fid) cap h (fun r h' => r = .int .i64 e ∧ Fr (fun _ => False) h h') (fun _ _ => False)
theorem Holds.keep {h0 h1 : Heap} {f : Value} {e : Int} (hh : Holds h0 f e) (hf : Fr (fun _ => False) h0 h1) : Holds h1 f e :=
  let ⟨fid, cap, h1', h2⟩ := hh
  ⟨fid, cap, h1', fun h hf2 => h2 h (Fr.trans (S := fun i => h0.n ≤ i) (hf.mono fun _ _ h => h.elim) hf2 fun i hi e => by have := hf.n; omega)⟩
theorem first_round {h : Heap} {lp pe : Nat} {e : Int} {f0 f1 f3 f4 f5 f6 f7 f8 : Value} (hlp : h.get lp = .loop .ready none [f0, f1, .pointer (some ⟨pe, 0, none⟩), f3, f4, f5, f6, f7, f8] [5] zeQ_ra0 zeQ_rb0)
    (hpe : h.get pe = .cells [.int .i64 0] 0) (hl : lp < h.n) (hp : pe < h.n) (hne : pe ≠ lp) :
    Runs Tryz.prog T0 (.yield lp) [.int .i64 e] h (fun r h2 => (e = 0 ∧ r = .bool true ∧ h2.get lp = .loop .ready none [f0, f1, .pointer (some ⟨pe, 0, none⟩), f3, f4, f5, f6, f7, f8] [5] zeQ_ra0 zeQ_rb0 ∧ Fr (fun i => i = lp) h h2) ∨
      (e ≠ 0 ∧ r = .bool false ∧ h2.get lp = .loop .done (some .ret) [f0, f1, .pointer (some ⟨pe, 0, none⟩), f3, f4, f5, f6, f7, f8] [5] zeQ_ra0 zeQ_rb0 ∧ h2.get pe = .cells [.int .i64 e] 0 ∧ Fr (fun i => i = lp ∨ i = pe) h h2)) (fun _ _ => False) := by
  haveI : HGet h lp _ := ⟨hlp⟩
  haveI : HGet h pe _ := ⟨hpe⟩
  haveI : BLt lp h := ⟨hl⟩
  haveI : BLt pe h := ⟨hp⟩
  haveI : BNe pe lp := ⟨hne⟩
  haveI : BNe lp pe := ⟨fun e => hne e.symm⟩
  refine Runs.round hlp put_one rfl zeQ_na0 zeQ_nb0 zeQ_ca0 zeQ_cb0 ?_
  refine stp ?_
  refine A.go ?_
  refine stp ?_
  refine C.ifN (fun he => ?_) (fun he => ?_)
  · refine stp ?_
    refine A.ret ?_
    refine .inr ⟨he, rfl, by rw [Heap.get_set, if_pos rfl], by rw [Heap.get_set, if_neg hne, Heap.get_set, if_pos rfl], ?_⟩
    exact ((Fr.refl.set fun _ => .inl rfl).set fun _ => .inr rfl).set fun _ => .inl rfl
  · refine stp ?_
    refine A.on ?_
    exact .inl ⟨he, rfl, by rw [Heap.get_set, if_pos rfl], ((Fr.refl (S := fun i => i = lp)).set fun _ => rfl).set fun _ => rfl⟩
noncomputable abbrev frec (pb pe : Nat) (st : LoopState) (pend : Option Code) : AObj := .loop st pend [.func (.func fn_zdQ) ⟨[]⟩ ⟨[.pointer (some ⟨pb, 0, none⟩)]⟩, undef, .pointer (some ⟨pe, 0, none⟩), undef, .func (.func fn_zdQ) ⟨[]⟩ ⟨[.pointer (some ⟨pb, 0, none⟩)]⟩, undef, undef, undef, undef] [5] zeQ_ra0 zeQ_rb0
set_option maxHeartbeats 4000000 in
theorem first_ok {h : Heap} {pb : Nat} {sv : Value} {fs : List Value} {es : List Int} (hg : h.get pb = .cells [sv] 0) (hpb : pb < h.n) (hr : Rd h 1 sv fs fs.length) (hs : fs.length < 1000) (hle : es.length = fs.length)
    (hh : ∀ i, i < fs.length → Holds h (fs.getD i undef) (es.getD i 0)) :
    Runs Tryz.prog T0 (.fn fn_zeQ) [.func (.func fn_zdQ) ⟨[]⟩ ⟨[.pointer (some ⟨pb, 0, none⟩)]⟩] h
      (fun r h' => r = .int .i64 (firstE es) ∧ Fr (fun _ => False) h h') (fun _ _ => False) := by
  obtain ⟨a, cap, rfl, hlen, hc⟩ := hr
  refine zeQ_runs ?_
  refine stp ?_
  have na : (h.push (.cells [.int .i64 0] 0)).n = h.n + 1 := rfl
  have gpb : (h.push (.cells [.int .i64 0] 0)).get pb = .cells [.slice a fs.length cap] 0 := by rw [Heap.get_push, if_neg (by omega)]; exact hg
  have gpe : (h.push (.cells [.int .i64 0] 0)).get h.n = .cells [.int .i64 0] 0 := HGet.new.eq
  have hfa : Fr (fun _ => False) h (h.push (.cells [.int .i64 0] 0)) := Fr.refl.push
  generalize h.push (.cells [.int .i64 0] 0) = ha at *
  refine range_ret (J := fun hx => firstE es = 0 ∧ Fr (fun i => i = ha.n + 1) (ha.push (.defs false)) hx) (K := fun hx => hx.get h.n = .cells [.int .i64 (firstE es)] 0 ∧ Fr (fun i => i = ha.n + 1 ∨ i = h.n) (ha.push (.defs false)) hx) ?_ (fun hx hJ => ?_) (fun hx hK => ?_)
  · refine zdQ_runs ?_
    have nL : ((ha.push (.defs false)).push (frec pb h.n .ready none)).n = ha.n + 2 := rfl
    haveI : HGet ((ha.push (.defs false)).push (frec pb h.n .ready none)) pb (.cells [.slice a fs.length cap] 0) := ⟨by rw [Heap.get_push, if_neg (by simp; omega), Heap.get_push, if_neg (by omega)]; exact gpb⟩
    refine stp ?_
    refine zdQ_l0_rule (fun m v7 h' => ∃ k : Nat, k ≤ fs.length ∧ m = fs.length - k ∧ v7 = .int .i64 k ∧ h'.get (ha.n + 1) = frec pb h.n .ready none ∧ firstE es = firstE (es.drop k) ∧ Fr (fun i => i = ha.n + 1) (ha.push (.defs false)) h' ∧ ha.n + 1 < h'.n) ?_ fs.length ⟨0, by omega, rfl, rfl, HGet.new.eq, rfl, Fr.refl.push, by rw [nL]; omega⟩
    rintro m v7 h' x4 x8 x9 x10 x11 x12 x13 x14 x15 x16 ⟨k, hk, rfl, rfl, hlp, hst, hf, hn⟩
    have f0 : Fr (fun i => ha.n ≤ i) h h' := Fr.trans (S := fun i => ha.n ≤ i) (hfa.push.mono fun _ _ h => h.elim) hf fun i hi e => by omega
    have f0' : Fr (fun i => h.n ≤ i) h h' := f0.mono fun i _ e => by omega
    refine stp ?_
    refine C.if (fun hlt => ?_) (fun hge => ?_)
    · have hlt : k < fs.length := by omega
      obtain ⟨b, o, sp, rfl, hb, hcc⟩ := hc (by omega)
      obtain ⟨fid, cap', hfe, hrun⟩ := hh k hlt
      have hcc' : cellsAt h' b o (fs.length * 1) = some fs := by rw [cellsAt_keep f0' hb (by omega)]; exact hcc
      haveI : Cell h' b (o + k) (.func (.func fid) ⟨[]⟩ ⟨cap'⟩) := ⟨by
        have := cellsAt_sub (k := k) (m := 1) hcc' (by omega)
        have e : fs.drop k = fs.getD k undef :: fs.drop (k + 1) := by
          rw [List.drop_eq_getElem_cons hlt]
          simp only [List.getD, List.getElem?_eq_getElem hlt, Option.getD_some]
        rw [this, ← hfe, e]
        rfl⟩
      refine stp ?_
      refine O.call' (hrun h' f0') (fun r h2 hr => ?_)
      obtain ⟨rfl, hf2⟩ := hr
      have n2 := hf2.n
      have gpe2 : h2.get h.n = .cells [.int .i64 0] 0 := by rw [hf2.get _ (by omega) id, hf.get _ (by simp; omega) (by omega), Heap.get_push, if_neg (by omega)]; exact gpe
      refine stp ?_
      refine O.yield (first_round (e := es.getD k 0) (by rw [hf2.get _ hn id]; exact hlp) gpe2 (by omega) (by omega) (by omega)) (fun r h3 hr => ?_)
      rw [firstE_drop (by omega)] at hst
      rcases hr with ⟨he, rfl, hlp3, hf3⟩ | ⟨he, rfl, hlp3, hpe3, hf3⟩
      · rw [if_pos he] at hst
        refine stp ?_
        exact zdQ_l0_again (fs.length - (k + 1)) (by omega) ⟨k + 1, by omega, rfl, rfl, hlp3, hst, (hf.trans (S := fun i => i = ha.n + 1) hf2 fun _ _ h => h.elim).trans' hf3, by have := hf3.n; omega⟩
      · rw [if_neg he] at hst
        refine stp ?_
        refine .inr ⟨hlp3, by rw [hst]; exact hpe3, ?_⟩
        exact ((hf.trans (S := fun i => i = ha.n + 1) hf2 fun _ _ h => h.elim).mono fun i _ e => .inl e).trans' hf3
    · obtain rfl : k = fs.length := by omega
      rw [List.drop_eq_nil_of_le (by omega)] at hst
      refine stp ?_
      exact .inl ⟨hlp, hst, hf⟩
  · obtain ⟨h0, hf⟩ := hJ
    have gpe2 : hx.get h.n = .cells [.int .i64 0] 0 := by rw [hf.get _ (by simp; omega) (by omega), Heap.get_push, if_neg (by omega)]; exact gpe
    have gdf : hx.get ha.n = .defs false := by rw [hf.get _ (by simp) (by omega)]; exact HGet.new.eq
    have hfx : Fr (fun _ => False) h hx := hfa.push.trans hf fun i hi e => by omega
    haveI : HGet hx h.n _ := ⟨gpe2⟩
    haveI : HGet hx ha.n _ := ⟨gdf⟩
    haveI : BNe h.n (ha.n + 1) := ⟨by omega⟩
    haveI : BNe ha.n (ha.n + 1) := ⟨by omega⟩
    haveI : BNe ha.n h.n := ⟨by omega⟩
    haveI : BNe h.n ha.n := ⟨by omega⟩
    refine stp ?_
    refine B.retC ?_
    rw [h0]
    exact ⟨rfl, (((hfx.set fun e => by omega).set fun e => by omega).set fun e => by omega).set fun e => by omega⟩
  · obtain ⟨gpe2, hf⟩ := hK
    have gdf : hx.get ha.n = .defs false := by rw [hf.get _ (by simp) (by omega)]; exact HGet.new.eq
    have hfx : Fr (fun _ => False) h hx := hfa.push.trans hf fun i hi e => by omega
    haveI : HGet hx h.n _ := ⟨gpe2⟩
    haveI : HGet hx ha.n _ := ⟨gdf⟩
    haveI : BNe h.n (ha.n + 1) := ⟨by omega⟩
    haveI : BNe ha.n (ha.n + 1) := ⟨by omega⟩
    haveI : BNe ha.n h.n := ⟨by omega⟩
    haveI : BNe h.n ha.n := ⟨by omega⟩
    refine stp ?_
    refine B.retC ?_
    exact ⟨rfl, ((hfx.set fun e => by omega).set fun e => by omega).set fun e => by omega⟩
end Go.Proofs.YtninaabbojcdpaaGreat.A

namespace Go.Proofs.YtninaabbojcdpaaGreat.A
open Go Go.Vm
set_option maxRecDepth 10000
set_option linter.unusedVariables false
structure BkRd (h : Heap) (x : Bk) (sv sl : Value) : Prop where
  hd : x.h.ok
  hash : x.c.hash.length = 32
  sv : Rd h 2 sv (tcells x.c.votes) x.c.votes.length
  sl : Rd h 5 sl (vcells x.vals) x.vals.length
theorem BkRd.keep {S : Nat → Prop} {h h' : Heap} {x : Bk} {sv sl : Value} (hb : BkRd h x sv sl) (hf : Fr S h h') (hs : ∀ i, i < h.n → ¬ S i) : BkRd h' x sv sl :=
  ⟨hb.hd, hb.hash, hb.sv.keep hf fun i hi => hs i (Rd.block_lt hb.sv hi), hb.sl.keep hf fun i hi => hs i (Rd.block_lt hb.sl hi)⟩
theorem parts_ok {h : Heap} {x : Bk} {a1 a2 : Option Addr} {n1 c1 n2 c2 : Nat} (hx : x.h.ok) (hc : x.c.hash.length = 32) :
    Runs Tryz.prog T0 (.fn fn_ziQ) [.agg ⟨x.cells (.slice a1 n1 c1) (.slice a2 n2 c2)⟩] h
      (fun r h' => r = .slice (some ⟨h.n + 1, 0, none⟩) 3 3 ∧ h'.n = h.n + 2 ∧ h'.get h.n = .cells (x.cells (.slice a1 n1 c1) (.slice a2 n2 c2)) 0 ∧ h'.get (h.n + 1) = .cells [.func (.func fn_zjQ) ⟨[]⟩ ⟨[.pointer (some ⟨h.n, 0, none⟩)]⟩, .func (.func fn_zkQ) ⟨[]⟩ ⟨[.pointer (some ⟨h.n, 0, none⟩)]⟩, .func (.func fn_zlQ) ⟨[]⟩ ⟨[.pointer (some ⟨h.n, 0, none⟩)]⟩] 0 ∧ Fr (fun _ => False) h h') (fun _ _ => False) := by
  haveI := l32 hx.prev
  haveI := l32 hx.vals
  haveI := l32 hx.next
  haveI := l32 hx.app
  haveI := l32 hc
  refine ziQ_runs ?_
  refine stp ?_
  exact ⟨rfl, rfl, by rw [Heap.get_push, if_neg (by simp)]; exact HGet.new.eq, HGet.new.eq, Fr.refl.push.push⟩
theorem parts1_ok {h : Heap} {pb : Nat} {x : Bk} {sv sl : Value} (hg : h.get pb = .cells (x.cells sv sl) 0) (hx : x.h.ok) (hc : x.c.hash.length = 32) :
    Runs Tryz.prog T0 (.fn fn_zjQ) [.pointer (some ⟨pb, 0, none⟩)] h (fun r h' => r = .int .i64 (checkS x.h) ∧ Fr (fun _ => False) h h') (fun _ _ => False) := by
  haveI := l32 hx.prev
  haveI := l32 hx.vals
  haveI := l32 hx.next
  haveI := l32 hx.app
  haveI := l32 hc
  haveI : HGet h pb _ := ⟨hg⟩
  refine zjQ_runs ?_
  refine stp ?_
  refine O.call' (Check_ok hx) (fun r h1 hr => ?_)
  obtain ⟨rfl, hf1⟩ := hr
  refine stp ?_
  exact ⟨rfl, hf1⟩
theorem parts2_ok {h : Heap} {pb : Nat} {x : Bk} {sv sl : Value} (hg : h.get pb = .cells (x.cells sv sl) 0) (hx : x.h.ok) (hc : x.c.hash.length = 32) (hl : Rd h 5 sl (vcells x.vals) x.vals.length) :
    Runs Tryz.prog T0 (.fn fn_zkQ) [.pointer (some ⟨pb, 0, none⟩)] h (fun r h' => r = .int .i64 (checkV x.vals) ∧ Fr (fun _ => False) h h') (fun _ _ => False) := by
  haveI := l32 hx.prev
  haveI := l32 hx.vals
  haveI := l32 hx.next
  haveI := l32 hx.app
  haveI := l32 hc
  haveI : HGet h pb _ := ⟨hg⟩
  refine zkQ_runs ?_
  refine stp ?_
  refine O.call' (VCheck_ok hl) (fun r h1 hr => ?_)
  obtain ⟨rfl, hf1⟩ := hr
  refine stp ?_
  exact ⟨rfl, hf1⟩
theorem parts3_ok {h : Heap} {pb : Nat} {x : Bk} {sv sl : Value} (hg : h.get pb = .cells (x.cells sv sl) 0) (hx : x.h.ok) (hc : x.c.hash.length = 32) (hl : Rd h 2 sv (tcells x.c.votes) x.c.votes.length) :
    Runs Tryz.prog T0 (.fn fn_zlQ) [.pointer (some ⟨pb, 0, none⟩)] h (fun r h' => r = .int .i64 (checkC x.c.height x.c.votes) ∧ Fr (fun _ => False) h h') (fun _ _ => False) := by
  haveI := l32 hx.prev
  haveI := l32 hx.vals
  haveI := l32 hx.next
  haveI := l32 hx.app
  haveI := l32 hc
  haveI : HGet h pb _ := ⟨hg⟩
  refine zlQ_runs ?_
  refine stp ?_
  refine O.call' (CCheck_ok hc hl) (fun r h1 hr => ?_)
  obtain ⟨rfl, hf1⟩ := hr
  refine stp ?_
  exact ⟨rfl, hf1⟩
theorem errors_ok {h : Heap} {a : Option Addr} {n c : Nat} : Runs Tryz.prog T0 (.fn fn_zcQ) [.slice a n c] h
    (fun r h' => r = .func (.func fn_zdQ) ⟨[]⟩ ⟨[.pointer (some ⟨h.n, 0, none⟩)]⟩ ∧ h'.n = h.n + 1 ∧ h'.get h.n = .cells [.slice a n c] 0 ∧ Fr (fun _ => False) h h') (fun _ _ => False) := by
  refine zcQ_runs ?_
  refine stp ?_
  exact ⟨rfl, rfl, HGet.new.eq, Fr.refl.push⟩
def partsB (x : Bk) : Int := firstE [checkS x.h, checkV x.vals, checkC x.c.height x.c.votes]
theorem partsB_ok {x : Bk} (h : partsB x = 0) : checkS x.h = 0 ∧ checkV x.vals = 0 ∧ checkC x.c.height x.c.votes = 0 := by
  unfold partsB at h
  simp only [firstE] at h
  split at h
  · rename_i h1
    split at h
    · rename_i h2
      split at h
      · rename_i h3; exact ⟨h1, h2, h3⟩
      · exact absurd h ‹_›
    · exact absurd h ‹_›
  · exact absurd h ‹_›
def partF (l : List UInt8) : List UInt8 := numF l.length ++ l
def encB (x : Bk) : List UInt8 := partF (encS x.h) ++ partF (encC x.c.height x.c.hash x.c.votes) ++ partF (encV x.vals)
theorem encS_lenB {x : Hd} (hx : x.ok) (h : checkS x = 0) : (encS x).length ≤ 200 := by
  obtain ⟨c1, c2, c3⟩ := checkS_ok h
  obtain ⟨d1, d2, d3⟩ := nameS_len c1
  have l1 := numF_len (n := x.chain.length) (by omega)
  have l2 := numF_len (n := x.height.toNat) (by omega)
  have l3 := numF_len (n := x.time.toNat) (by omega)
  have l4 := hx.prev
  have l5 := hx.vals
  have l6 := hx.next
  have l7 := hx.app
  unfold encS
  simp only [List.length_append]
  omega
theorem partF_len {l : List UInt8} {n : Nat} (h : l.length ≤ n) (hn : n < 100000) : (partF l).length ≤ n + 9 := by
  have := numF_len (n := l.length) (by omega)
  unfold partF
  rw [List.length_append]
  omega
set_option maxHeartbeats 16000000 in
theorem BEncode_ok {h : Heap} {x : Bk} {sv sl : Value} (hb : BkRd h x sv sl) :
    Runs Tryz.prog T0 (.fn fn_zbQ) [.agg ⟨x.cells sv sl⟩] h
      (fun r h' => ∃ w, r = .tuple ⟨[w, .int .i64 (partsB x)]⟩ ∧ Own h' 1 w (bcells (if partsB x = 0 then encB x else [])) (if partsB x = 0 then encB x else []).length ∧ (∀ i, ownedBy w i → h.n ≤ i) ∧ Fr (fun _ => False) h h') (fun _ _ => False) := by
  have hx := hb.hd
  have hch := hb.hash
  haveI := l32 hx.prev
  haveI := l32 hx.vals
  haveI := l32 hx.next
  haveI := l32 hx.app
  haveI := l32 hch
  obtain ⟨a1, c1, rfl, _, _⟩ := id hb.sv
  obtain ⟨a2, c2, rfl, _, _⟩ := id hb.sl
  refine zbQ_runs ?_
  refine stp ?_
  have n0 : (h.push (.cells (x.cells (.slice a1 x.c.votes.length c1) (.slice a2 x.vals.length c2)) 0)).n = h.n + 1 := rfl
  have gB : HGet (h.push (.cells (x.cells (.slice a1 x.c.votes.length c1) (.slice a2 x.vals.length c2)) 0)) h.n (.cells (x.cells (.slice a1 x.c.votes.length c1) (.slice a2 x.vals.length c2)) 0) := HGet.new
  have hf0 : Fr (fun _ => False) h (h.push (.cells (x.cells (.slice a1 x.c.votes.length c1) (.slice a2 x.vals.length c2)) 0)) := Fr.refl.push
  generalize h.push (.cells (x.cells (.slice a1 x.c.votes.length c1) (.slice a2 x.vals.length c2)) 0) = h0 at *
  refine O.call' (parts_ok hx hch) (fun r h1 hr => ?_)
  obtain ⟨rfl, n1, gC, gF, hf1⟩ := hr
  refine stp ?_
  refine O.call' errors_ok (fun r h2 hr => ?_)
  obtain ⟨rfl, n2, gE, hf2⟩ := hr
  have hf02 := (hf0.trans' hf1).trans' hf2
  have gC2 : h2.get h0.n = .cells (x.cells (.slice a1 x.c.votes.length c1) (.slice a2 x.vals.length c2)) 0 := by rw [hf2.get _ (by omega) id]; exact gC
  have hk : ∀ {h9 : Heap}, Fr (fun i => h2.n ≤ i) h2 h9 → h9.get h0.n = .cells (x.cells (.slice a1 x.c.votes.length c1) (.slice a2 x.vals.length c2)) 0 ∧ BkRd h9 x (.slice a1 x.c.votes.length c1) (.slice a2 x.vals.length c2) := fun {h9} hf9 =>
    ⟨by rw [hf9.get _ (by omega) (by omega)]; exact gC2, (hb.keep hf02 fun _ _ => id).keep hf9 fun i hi e => by omega⟩
  have hcl : ∀ i, i < 3 → Holds h2 ([.func (.func fn_zjQ) ⟨[]⟩ ⟨[.pointer (some ⟨h0.n, 0, none⟩)]⟩, .func (.func fn_zkQ) ⟨[]⟩ ⟨[.pointer (some ⟨h0.n, 0, none⟩)]⟩, .func (.func fn_zlQ) ⟨[]⟩ ⟨[.pointer (some ⟨h0.n, 0, none⟩)]⟩].getD i undef) ([checkS x.h, checkV x.vals, checkC x.c.height x.c.votes].getD i 0) := fun i hi => by
    rcases (show i = 0 ∨ i = 1 ∨ i = 2 by omega) with rfl | rfl | rfl
    · exact ⟨_, _, rfl, fun h9 hf9 => parts1_ok (hk hf9).1 hx hch⟩
    · exact ⟨_, _, rfl, fun h9 hf9 => parts2_ok (hk hf9).1 hx hch (hk hf9).2.sl⟩
    · exact ⟨_, _, rfl, fun h9 hf9 => parts3_ok (hk hf9).1 hx hch (hk hf9).2.sv⟩
  refine stp ?_
  refine O.call' (first_ok (fs := [.func (.func fn_zjQ) ⟨[]⟩ ⟨[.pointer (some ⟨h0.n, 0, none⟩)]⟩, .func (.func fn_zkQ) ⟨[]⟩ ⟨[.pointer (some ⟨h0.n, 0, none⟩)]⟩, .func (.func fn_zlQ) ⟨[]⟩ ⟨[.pointer (some ⟨h0.n, 0, none⟩)]⟩]) (es := [checkS x.h, checkV x.vals, checkC x.c.height x.c.votes]) gE (by omega) (Rd.mk (by omega) (by rw [cellsAt_of (by rw [hf2.get _ (by omega) id, gF]; rfl) (by simp)]; rfl)) (by simp) rfl hcl) (fun r h3 hr => ?_)
  obtain ⟨rfl, hf3⟩ := hr
  have hf03 := hf02.trans' hf3
  have gB3 := (hf1.trans' hf2).trans' hf3 |>.keep gB (by omega) id
  haveI := gB3
  rw [show firstE [checkS x.h, checkV x.vals, checkC x.c.height x.c.votes] = partsB x from rfl]
  refine stp ?_
  refine C.ifN (fun hc => ?_) (fun hz => ?_)
  · refine stp ?_
    rw [if_neg hc]
    exact ⟨_, rfl, .none, fun i h => h.elim, hf03⟩
  obtain ⟨z1, z2, z3⟩ := partsB_ok hz
  have lH := encS_lenB hx z1
  have lC := encC_len hch z3
  have lV := encV_len z2
  have pH := partF_len lH (by omega)
  have pC := partF_len lC (by omega)
  have pV := partF_len lV (by omega)
  refine stp ?_
  refine O.call' (NewWriter_ok (lim := 65536) (by omega)) (fun r h4 hr => ?_)
  obtain ⟨rfl, hw4, hf4⟩ := hr
  have n3 := hf3.n
  have n4 := hf4.n
  have gB4 := hf4.keep gB3 (by omega) id
  haveI := gB4
  have hb4 := hb.keep (hf03.trans' hf4) fun _ _ => id
  refine stp ?_
  refine O.call' (Encode_ok hx) (fun r h5 hr => ?_)
  obtain ⟨w1, rfl, ho1, hn1, hf5⟩ := hr
  rw [if_pos z1] at ho1
  have n5 := hf5.n
  have gB5 := hf5.keep gB4 (by omega) id
  haveI := gB5
  have hb5 := hb4.keep hf5 fun _ _ => id
  refine stp ?_
  refine O.call' (CEncode_ok hch hb5.sv) (fun r h6 hr => ?_)
  obtain ⟨w2, rfl, ho2, hn2, hf6⟩ := hr
  rw [if_pos z3] at ho2
  have n6 := hf6.n
  have gB6 := hf6.keep gB5 (by omega) id
  haveI := gB6
  have hb6 := hb5.keep hf6 fun _ _ => id
  refine stp ?_
  refine O.call' (VEncode_ok hb6.sl) (fun r h7 hr => ?_)
  obtain ⟨w3, rfl, ho3, hn3, hf7⟩ := hr
  rw [if_pos z2] at ho3
  have n7 := hf7.n
  obtain ⟨b1, d1, rfl, _, _⟩ := id ho1.rd
  obtain ⟨b2, d2, rfl, _, _⟩ := id ho2.rd
  obtain ⟨b3, d3, rfl, _, _⟩ := id ho3.rd
  have o1 := (ho1.keep hf6 fun _ _ => id).keep hf7 fun _ _ => id
  have o2 := ho2.keep hf7 fun _ _ => id
  have o3 := ho3
  have e1 : ∀ i, ownedBy (.slice b1 (encS x.h).length d1) i → ¬ ((h3.n ≤ i ∧ i < h4.n) ∨ h7.n ≤ i) := fun i hi => by have := hn1 i hi; have := o1.lt hi; omega
  have e2 : ∀ i, ownedBy (.slice b2 (encC x.c.height x.c.hash x.c.votes).length d2) i → ¬ ((h3.n ≤ i ∧ i < h4.n) ∨ h7.n ≤ i) := fun i hi => by have := hn2 i hi; have := o2.lt hi; omega
  have e3 : ∀ i, ownedBy (.slice b3 (encV x.vals).length d3) i → ¬ ((h3.n ≤ i ∧ i < h4.n) ∨ h7.n ≤ i) := fun i hi => by have := hn3 i hi; have := o3.lt hi; omega
  have hw7 : PVs h7 (fun i => (h3.n ≤ i ∧ i < h4.n) ∨ h7.n ≤ i) h3.n 65536 ⟨[], 0⟩ := ((((PVs.of hw4).mono (S' := fun i => (h3.n ≤ i ∧ i < h4.n) ∨ h7.n ≤ i) fun i hi hs => .inl ⟨hs, hi⟩).none hf5).none hf6).none hf7
  have f07 : Fr (fun _ => False) h h7 := (((hf03.trans' hf4).trans' hf5).trans' hf6).trans' hf7
  refine stp ?_
  refine zbQ_l0_rule (fun m v48 h' => ∃ (k : Nat) (bs : List UInt8), k ≤ 3 ∧ m = 3 - k ∧ v48 = .int .i64 k ∧ bs = ([partF (encS x.h), partF (encC x.c.height x.c.hash x.c.votes), partF (encV x.vals)].take k).flatten ∧ PVs h' (fun i => (h3.n ≤ i ∧ i < h4.n) ∨ h7.n ≤ i) h3.n 65536 ⟨bs, 0⟩ ∧ Fr (fun i => (h3.n ≤ i ∧ i < h4.n) ∨ h7.n ≤ i) h7 h') ?_ 3 ⟨0, [], by omega, rfl, rfl, rfl, hw7, Fr.refl⟩
  · rintro m v48 h' x14 x49 x50 x51 x52 x53 x54 ⟨k, bs, hk, rfl, rfl, hbs, hw, hf⟩
    have V1 := o1.keep hf e1
    have V2 := o2.keep hf e2
    have V3 := o3.keep hf e3
    have hS : ∀ i, h'.n ≤ i → (h3.n ≤ i ∧ i < h4.n) ∨ h7.n ≤ i := fun i hi => .inr (by have := hf.n; omega)
    rcases (show k = 0 ∨ k = 1 ∨ k = 2 ∨ k = 3 by omega) with rfl | rfl | rfl | rfl
    · have hbl : bs.length ≤ 2500 := by rw [hbs]; first | (simp; done) | (simp; omega)
      refine stp ?_
      refine O.how (XOp.mkIndex1 (m := 0) 0 rfl (by omega) rfl) ?_
      refine stp ?_
      refine O.call' (WBytes_okV hw hS V1.rd (by show bs.length + _ + 9 < _; omega)) (fun r h9 hr => ?_)
      obtain ⟨rfl, hw9, hf9⟩ := hr
      rw [putS_fit (by show bs.length + (partF (encS x.h)).length ≤ _; omega)] at hw9
      refine stp ?_
      exact zbQ_l0_again 2 (by omega) ⟨1, bs ++ partF (encS x.h), by omega, rfl, rfl, by rw [hbs]; simp, hw9, hf.trans' hf9⟩
    · have hbl : bs.length ≤ 2500 := by rw [hbs]; first | (simp; done) | (simp; omega)
      refine stp ?_
      refine O.how (XOp.mkIndex1 (m := 1) 1 rfl (by omega) rfl) ?_
      refine stp ?_
      refine O.call' (WBytes_okV hw hS V2.rd (by show bs.length + _ + 9 < _; omega)) (fun r h9 hr => ?_)
      obtain ⟨rfl, hw9, hf9⟩ := hr
      rw [putS_fit (by show bs.length + (partF (encC x.c.height x.c.hash x.c.votes)).length ≤ _; omega)] at hw9
      refine stp ?_
      exact zbQ_l0_again 1 (by omega) ⟨2, bs ++ partF (encC x.c.height x.c.hash x.c.votes), by omega, rfl, rfl, by rw [hbs]; simp, hw9, hf.trans' hf9⟩
    · have hbl : bs.length ≤ 2500 := by rw [hbs]; first | (simp; done) | (simp; omega)
      refine stp ?_
      refine O.how (XOp.mkIndex1 (m := 2) 2 rfl (by omega) rfl) ?_
      refine stp ?_
      refine O.call' (WBytes_okV hw hS V3.rd (by show bs.length + _ + 9 < _; omega)) (fun r h9 hr => ?_)
      obtain ⟨rfl, hw9, hf9⟩ := hr
      rw [putS_fit (by show bs.length + (partF (encV x.vals)).length ≤ _; omega)] at hw9
      refine stp ?_
      exact zbQ_l0_again 0 (by omega) ⟨3, bs ++ partF (encV x.vals), by omega, rfl, rfl, by rw [hbs]; simp, hw9, hf.trans' hf9⟩
    · refine stp ?_
      refine O.call' (Done_ok (hw.mono fun i hi hs => (show h3.n ≤ i by omega)).to) (fun r h9 hr => ?_)
      obtain ⟨w, rfl, ho, hnew, hf9⟩ := hr
      refine stp ?_
      rw [hz] at *
      rw [if_pos rfl]
      rw [if_pos rfl] at ho
      have eB : encB x = bs := by rw [hbs]; simp [encB]
      refine ⟨w, rfl, by rw [eB]; exact ho, fun i hi => ?_, Fr.trans (S := fun _ => False) f07 (hf.trans' (hf9.mono fun _ _ h => h.elim)) fun i hi h => by have := hf03.n; omega⟩
      have := hnew i hi
      have := hf.n
      have := f07.n
      omega
end Go.Proofs.YtninaabbojcdpaaGreat.A

namespace Go.Proofs.YtninaabbojcdpaaGreat.A
open Go Go.Vm
set_option maxRecDepth 10000
set_option linter.unusedVariables false
end Go.Proofs.YtninaabbojcdpaaGreat.A

namespace Go.Proofs.YtninaabbojcdpaaGreat.A
open Go Go.Vm
set_option maxRecDepth 10000
set_option linter.unusedVariables false
abbrev idOK (n : Int) : Bool := decide (1 ≤ n) && decide (n ≤ 1099511627776)
abbrev htOK (n : Int) : Bool := decide (1 ≤ n) && decide (n ≤ 1073741824)
def askE (id ht : Int) : Int := if (idOK id && htOK ht) = true then 0 else 3
def askF (id ht : Int) : List UInt8 := numF 1 ++ numF id.toNat ++ numF ht.toNat
def ansE (id : Int) (x : Bk) : Int := if idOK id = true then partsB x else 3
def ansF (id : Int) (x : Bk) : List UInt8 := numF 2 ++ numF id.toNat ++ partF (encB x)
theorem number_is {h : Heap} {n : Int} : Runs Tryz.prog T0 (.fn fn_zccQ) [.int .i64 n] h (fun r h' => r = .bool (idOK n) ∧ h' = h) (fun _ _ => False) := by
  refine zccQ_runs ?_
  refine stp ?_
  refine O.dec (fun h1 => ?_) (fun h1 => ?_)
  · refine stp ?_
    exact ⟨by rw [idOK, decide_eq_true (show 1 ≤ n by omega)]; rfl, rfl⟩
  · refine stp ?_
    exact ⟨by rw [idOK, decide_eq_false (show ¬ 1 ≤ n by omega)]; rfl, rfl⟩
theorem height_is {h : Heap} {n : Int} : Runs Tryz.prog T0 (.fn fn_zacQ) [.int .i64 n] h (fun r h' => r = .bool (htOK n) ∧ h' = h) (fun _ _ => False) := by
  refine zacQ_runs ?_
  refine stp ?_
  refine O.dec (fun h1 => ?_) (fun h1 => ?_)
  · refine stp ?_
    exact ⟨by rw [htOK, decide_eq_true (show 1 ≤ n by omega)]; rfl, rfl⟩
  · refine stp ?_
    exact ⟨by rw [htOK, decide_eq_false (show ¬ 1 ≤ n by omega)]; rfl, rfl⟩
theorem idOK_ok {n : Int} (h : idOK n = true) : 1 ≤ n ∧ n ≤ 1099511627776 := by simpa using h
theorem htOK_ok {n : Int} (h : htOK n = true) : 1 ≤ n ∧ n ≤ 1073741824 := by simpa using h
set_option maxHeartbeats 4000000 in
theorem askW_ok {h : Heap} {p : Nat} {id ht : Int} (hw : PWs h p p 65536 ⟨[], 0⟩) :
    Runs Tryz.prog T0 (.fn fn_zybQ) [.agg ⟨[.int .i64 id, .int .i64 ht]⟩, .pointer (some ⟨p, 0, none⟩)] h
      (fun r h' => r = .int .i64 (askE id ht) ∧ PWs h' p p 65536 ⟨if askE id ht = 0 then askF id ht else [], 0⟩ ∧ Fr (fun i => p ≤ i) h h') (fun _ _ => False) := by
  have hpl := (PVs.of hw).lt
  refine zybQ_runs ?_
  refine stp ?_
  have g0 : HGet (h.push (.cells [.int .i64 id, .int .i64 ht] 0)) h.n (.cells [.int .i64 id, .int .i64 ht] 0) := HGet.new
  have hw0 : PVs (h.push (.cells [.int .i64 id, .int .i64 ht] 0)) (fun i => p ≤ i ∧ i ≠ h.n) p 65536 ⟨[], 0⟩ := ((PVs.of hw).mono fun i hi hs => ⟨hs, by omega⟩).none Fr.refl.push
  have n0 : (h.push (.cells [.int .i64 id, .int .i64 ht] 0)).n = h.n + 1 := rfl
  have f0 : Fr (fun i => p ≤ i) h (h.push (.cells [.int .i64 id, .int .i64 ht] 0)) := Fr.refl.push
  generalize h.push (.cells [.int .i64 id, .int .i64 ht] 0) = h0 at *
  refine O.call' number_is (fun r h1 hr => ?_)
  obtain ⟨rfl, rfl⟩ := hr
  cases hid : idOK id with
  | false =>
    refine stp ?_
    have e1 : askE id ht = 3 := by unfold askE; rw [hid]; rfl
    rw [e1]
    exact ⟨rfl, (hw0.mono fun i _ hs => hs.1).to, f0⟩
  | true =>
    refine stp ?_
    refine O.callT height_is (fun r h2 hr => ?_)
    obtain ⟨rfl, rfl⟩ := hr
    cases hht : htOK ht with
    | false =>
      refine stp ?_
      have e1 : askE id ht = 3 := by unfold askE; rw [hid, hht]; rfl
      rw [e1]
      exact ⟨rfl, (hw0.mono fun i _ hs => hs.1).to, f0⟩
    | true =>
      have e1 : askE id ht = 0 := by unfold askE; rw [hid, hht]; rfl
      have c1 := idOK_ok hid
      have c2 := htOK_ok hht
      have l1 := numF_len (n := 1) (by omega)
      have l2 := numF_len (n := id.toNat) (by omega)
      have l3 := numF_len (n := ht.toNat) (by omega)
      rw [e1]
      refine stp ?_
      refine O.call' (WNum_okV (n := 1) hw0 (fun i hi => by omega) (by omega) (by simp only [List.length_nil]; omega)) (fun r h3 hr => ?_)
      obtain ⟨rfl, hw3, hf3⟩ := hr
      rw [decide_eq_true (by omega), show Int.toNat 1 = 1 from rfl, putS_fit (by simp only [List.length_nil]; omega), List.nil_append] at hw3
      have g3 := hf3.keep g0 (by omega) (by omega)
      have n3 := hf3.n
      haveI := g3
      refine stp ?_
      refine O.call' (WNum_okV (n := id) hw3 (fun i hi => by omega) (by omega) (by show (numF 1).length + 9 < _; omega)) (fun r h4 hr => ?_)
      obtain ⟨rfl, hw4, hf4⟩ := hr
      rw [decide_eq_true (by omega), putS_fit (by show (numF 1).length + _ ≤ _; omega)] at hw4
      have g4 := hf4.keep g3 (by omega) (by omega)
      have n4 := hf4.n
      haveI := g4
      refine stp ?_
      refine O.call' (WNum_okV (n := ht) hw4 (fun i hi => by omega) (by omega) (by simp only [List.length_append]; omega)) (fun r h5 hr => ?_)
      obtain ⟨hr5, hw5, hf5⟩ := hr
      rw [decide_eq_true (by omega), putS_fit (by simp only [List.length_append]; omega)] at hw5 hr5
      subst hr5
      refine stp ?_
      exact ⟨rfl, (hw5.mono fun i _ hs => hs.1).to, f0.trans' (((hf3.trans' hf4).trans' hf5).mono fun i _ hs => hs.1)⟩
set_option maxHeartbeats 8000000 in
theorem ansW_ok {h : Heap} {p : Nat} {nr : Int} {x : Bk} {sv sl : Value} (hw : PWs h p p 65536 ⟨[], 0⟩) (hb : BkRd h x sv sl) (hbl : ∀ i, blockOf sv i ∨ blockOf sl i → i < p) :
    Runs Tryz.prog T0 (.fn fn_zxbQ) [.agg ⟨.int .i64 nr :: x.cells sv sl⟩, .pointer (some ⟨p, 0, none⟩)] h
      (fun r h' => r = .int .i64 (ansE nr x) ∧ PWs h' p p 65536 ⟨if ansE nr x = 0 then ansF nr x else [], 0⟩ ∧ Fr (fun i => p ≤ i) h h') (fun _ _ => False) := by
  have hpl := (PVs.of hw).lt
  have hx := hb.hd
  have hch := hb.hash
  haveI := l32 hx.prev
  haveI := l32 hx.vals
  haveI := l32 hx.next
  haveI := l32 hx.app
  haveI := l32 hch
  obtain ⟨a1, c1, rfl, _, _⟩ := id hb.sv
  obtain ⟨a2, c2, rfl, _, _⟩ := id hb.sl
  refine zxbQ_runs ?_
  refine stp ?_
  have g0 : HGet (h.push (.cells (.int .i64 nr :: x.cells (.slice a1 x.c.votes.length c1) (.slice a2 x.vals.length c2)) 0)) h.n (.cells (.int .i64 nr :: x.cells (.slice a1 x.c.votes.length c1) (.slice a2 x.vals.length c2)) 0) := HGet.new
  have hw0 : PVs (h.push (.cells (.int .i64 nr :: x.cells (.slice a1 x.c.votes.length c1) (.slice a2 x.vals.length c2)) 0)) (fun i => p ≤ i ∧ i ≠ h.n) p 65536 ⟨[], 0⟩ := ((PVs.of hw).mono fun i hi hs => ⟨hs, by omega⟩).none Fr.refl.push
  have n0 : (h.push (.cells (.int .i64 nr :: x.cells (.slice a1 x.c.votes.length c1) (.slice a2 x.vals.length c2)) 0)).n = h.n + 1 := rfl
  have f0 : Fr (fun _ => False) h (h.push (.cells (.int .i64 nr :: x.cells (.slice a1 x.c.votes.length c1) (.slice a2 x.vals.length c2)) 0)) := Fr.refl.push
  generalize h.push (.cells (.int .i64 nr :: x.cells (.slice a1 x.c.votes.length c1) (.slice a2 x.vals.length c2)) 0) = h0 at *
  refine O.call' number_is (fun r h1 hr => ?_)
  obtain ⟨rfl, rfl⟩ := hr
  cases hid : idOK nr with
  | false =>
    refine stp ?_
    have e1 : ansE nr x = 3 := by unfold ansE; rw [hid]; rfl
    rw [e1]
    exact ⟨rfl, (hw0.mono fun i _ hs => hs.1).to, f0.mono fun _ _ h => h.elim⟩
  | true =>
    have e1 : ansE nr x = partsB x := by unfold ansE; rw [hid]; rfl
    rw [e1]
    refine stp ?_
    refine O.call' (BEncode_ok (hb.keep f0 fun _ _ => id)) (fun r h2 hr => ?_)
    obtain ⟨w, rfl, ho, hnw, hf2⟩ := hr
    have n2 := hf2.n
    have g2 := hf2.keep g0 (by omega) (fun e => e)
    have hw2 := hw0.none hf2
    have f2 := f0.trans' hf2
    haveI := g2
    refine stp ?_
    refine C.ifN (fun hz => ?_) (fun hz => ?_)
    · refine stp ?_
      rw [if_neg hz]
      exact ⟨rfl, (hw2.mono fun i _ hs => hs.1).to, f2.mono fun _ _ h => h.elim⟩
    rw [if_pos hz] at ho ⊢
    have c1 := idOK_ok hid
    obtain ⟨z1, z2, z3⟩ := partsB_ok hz
    have pH := partF_len (encS_lenB hx z1) (by omega)
    have pC := partF_len (encC_len hch z3) (by omega)
    have pV := partF_len (encV_len z2) (by omega)
    have lB : (encB x).length ≤ 2300 := by unfold encB; simp only [List.length_append]; omega
    have pB := partF_len lB (by omega)
    have l1 := numF_len (n := 2) (by omega)
    have l2 := numF_len (n := nr.toNat) (by omega)
    have hw3' : PVs h2 (fun i => (p ≤ i ∧ i < h.n) ∨ h2.n ≤ i) p 65536 ⟨[], 0⟩ := (((PVs.of hw).mono (S' := fun i => (p ≤ i ∧ i < h.n) ∨ h2.n ≤ i) fun i hi hs => .inl ⟨hs, hi⟩).none f2)
    refine stp ?_
    refine O.call' (WNum_okV (n := 2) hw3' (fun i hi => .inr hi) (by omega) (by simp only [List.length_nil]; omega)) (fun r h3 hr => ?_)
    obtain ⟨rfl, hw3, hf3⟩ := hr
    rw [decide_eq_true (by omega), show Int.toNat 2 = 2 from rfl, putS_fit (by simp only [List.length_nil]; omega), List.nil_append] at hw3
    have n3 := hf3.n
    have g3 := hf3.keep g2 (by omega) (by omega)
    haveI := g3
    refine stp ?_
    refine O.call' (WNum_okV (n := nr) hw3 (fun i hi => by omega) (by omega) (by show (numF 2).length + 9 < _; omega)) (fun r h4 hr => ?_)
    obtain ⟨rfl, hw4, hf4⟩ := hr
    rw [decide_eq_true (by omega), putS_fit (by show (numF 2).length + _ ≤ _; omega)] at hw4
    have n4 := hf4.n
    have ho4 := (ho.keep hf3 fun b hb e => by have := hnw b hb; have := ho.lt hb; omega).keep hf4 fun b hb e => by have := hnw b hb; have := ho.lt hb; omega
    refine stp ?_
    refine O.call' (WBytes_okV hw4 (fun i hi => by omega) ho4.rd (by simp only [List.length_append]; omega)) (fun r h5 hr => ?_)
    obtain ⟨hr5, hw5, hf5⟩ := hr
    rw [show numF (encB x).length ++ encB x = partF (encB x) from rfl, putS_fit (by simp only [List.length_append]; omega)] at hw5 hr5
    subst hr5
    refine stp ?_
    rw [hz]
    refine ⟨rfl, (hw5.mono fun i _ hs => by omega).to, Fr.trans (S := fun i => p ≤ i) (f2.mono fun _ _ h => h.elim) ((hf3.trans' hf4).trans' hf5) fun i _ e => by omega⟩
end Go.Proofs.YtninaabbojcdpaaGreat.A

namespace Go.Proofs.YtninaabbojcdpaaGreat.A
open Go Go.Vm
set_option maxRecDepth 100000
set_option linter.unusedVariables false
theorem of_ask {h : Heap} {n ht : Int} : Runs Tryz.prog T0 (.fn fn_zdcQ) [.iface 26 (.agg ⟨[.int .i64 n, .int .i64 ht]⟩)] h (fun r h' => r = .iface 168 (.agg ⟨[.int .i64 n, .int .i64 ht]⟩) ∧ Fr (fun _ => False) h h') (fun _ _ => False) := by
  refine zdcQ_runs ?_
  refine stp ?_
  exact ⟨rfl, Fr.refl.push⟩
theorem of_answer {h : Heap} {n : Int} {x : Bk} {sv sl : Value} (hb : BkRd h x sv sl) : Runs Tryz.prog T0 (.fn fn_zdcQ) [.iface 38 (.agg ⟨.int .i64 n :: x.cells sv sl⟩)] h (fun r h' => r = .iface 169 (.agg ⟨.int .i64 n :: x.cells sv sl⟩) ∧ Fr (fun _ => False) h h') (fun _ _ => False) := by
  have hx := hb.hd
  have hch := hb.hash
  haveI := l32 hx.prev
  haveI := l32 hx.vals
  haveI := l32 hx.next
  haveI := l32 hx.app
  haveI := l32 hch
  obtain ⟨a1, c1, rfl, _, _⟩ := id hb.sv
  obtain ⟨a2, c2, rfl, _, _⟩ := id hb.sl
  refine zdcQ_runs ?_
  refine stp ?_
  refine O.how (XOp.assertNo (by decide)) ?_
  refine stp ?_
  exact ⟨rfl, Fr.refl.push⟩
theorem write_ask {h : Heap} {v : Value} : methodOf Tryz.prog h 168 v "landfall/msg.write" = some (fn_zybQ, v) := by kernel_rfl
theorem write_answer {h : Heap} {v : Value} : methodOf Tryz.prog h 169 v "landfall/msg.write" = some (fn_zxbQ, v) := by kernel_rfl
set_option maxHeartbeats 4000000 in
theorem bytes_ok {h : Heap} {t : TypeId} {u : Value} {e : Int} {bs : List UInt8} {w : Value}
    (ho : ∀ h', Fr (fun _ => False) h h' → Runs Tryz.prog T0 (.fn fn_zdcQ) [w] h' (fun r h2 => r = .iface t u ∧ Fr (fun _ => False) h' h2) (fun _ _ => False))
    {f : FuncId} (hm : ∀ h', methodOf Tryz.prog h' t u "landfall/msg.write" = some (f, u))
    (hw : ∀ p h', Fr (fun _ => False) h h' → h.n ≤ p → PWs h' p p 65536 ⟨[], 0⟩ → Runs Tryz.prog T0 (.fn f) [u, .pointer (some ⟨p, 0, none⟩)] h' (fun r h2 => r = .int .i64 e ∧ PWs h2 p p 65536 ⟨if e = 0 then bs else [], 0⟩ ∧ Fr (fun i => p ≤ i) h' h2) (fun _ _ => False)) :
    Runs Tryz.prog T0 (.fn fn_zzbQ) [w] h
      (fun r h' => ∃ v, r = .tuple ⟨[v, .int .i64 e]⟩ ∧ Own h' 1 v (bcells (if e = 0 then bs else [])) (if e = 0 then bs else []).length ∧ (∀ i, ownedBy v i → h.n ≤ i) ∧ Fr (fun _ => False) h h') (fun _ _ => False) := by
  refine zzbQ_runs ?_
  refine stp ?_
  refine O.call' (NewWriter_ok (lim := 65536) (by omega)) (fun r h1 hr => ?_)
  obtain ⟨rfl, hw1, hf1⟩ := hr
  refine stp ?_
  refine O.call' (ho h1 hf1) (fun r h2 hr => ?_)
  obtain ⟨rfl, hf2⟩ := hr
  have F2 := hf1.trans' hf2
  have hw2 := ((PVs.of hw1).none hf2).to
  refine stp ?_
  refine O.invoke (hm h2) (hw h.n h2 F2 (Nat.le_refl _) hw2) (fun r h3 hr => ?_)
  obtain ⟨rfl, hw3, hf3⟩ := hr
  have F3 : Fr (fun _ => False) h h3 := F2.trans hf3 fun i hi e => by omega
  refine stp ?_
  refine C.ifN (fun he => ?_) (fun he => ?_)
  · refine stp ?_
    rw [if_neg he]
    exact ⟨_, rfl, .none, fun i hi => hi.elim, F3⟩
  · refine stp ?_
    refine O.call' (Done_ok hw3) (fun r h4 hr => ?_)
    obtain ⟨v, rfl, hov, hnew, hf4⟩ := hr
    refine stp ?_
    rw [he]
    rw [he] at hov
    exact ⟨v, rfl, hov, fun i hi => by have := hnew i hi; have := F3.n; omega, F3.trans' hf4⟩
theorem Ask_ok {h : Heap} {n ht : Int} : Runs Tryz.prog T0 (.fn fn_zubQ) [.agg ⟨[.int .i64 n, .int .i64 ht]⟩] h
      (fun r h' => ∃ v, r = .tuple ⟨[v, .int .i64 (askE n ht)]⟩ ∧ Own h' 1 v (bcells (if askE n ht = 0 then askF n ht else [])) (if askE n ht = 0 then askF n ht else []).length ∧ (∀ i, ownedBy v i → h.n ≤ i) ∧ Fr (fun _ => False) h h') (fun _ _ => False) := by
  refine zubQ_runs ?_
  refine stp ?_
  refine O.call' (bytes_ok (u := .agg ⟨[.int .i64 n, .int .i64 ht]⟩) (fun h' hf => of_ask) (fun h' => write_ask) (fun p h' hf hp hw => askW_ok hw)) (fun r h1 hr => ?_)
  obtain ⟨v, rfl, ho, hn, hf⟩ := hr
  refine stp ?_
  exact ⟨v, rfl, ho, fun i hi => by have := hn i hi; simp at this; omega, Fr.trans (S := fun _ => False) Fr.refl.push hf fun _ _ => id⟩
theorem Answer_ok {h : Heap} {n : Int} {x : Bk} {sv sl : Value} (hb : BkRd h x sv sl) : Runs Tryz.prog T0 (.fn fn_ztbQ) [.agg ⟨.int .i64 n :: x.cells sv sl⟩] h
      (fun r h' => ∃ v, r = .tuple ⟨[v, .int .i64 (ansE n x)]⟩ ∧ Own h' 1 v (bcells (if ansE n x = 0 then ansF n x else [])) (if ansE n x = 0 then ansF n x else []).length ∧ (∀ i, ownedBy v i → h.n ≤ i) ∧ Fr (fun _ => False) h h') (fun _ _ => False) := by
  have hx := hb.hd
  have hch := hb.hash
  haveI := l32 hx.prev
  haveI := l32 hx.vals
  haveI := l32 hx.next
  haveI := l32 hx.app
  haveI := l32 hch
  have hlt : ∀ i, blockOf sv i ∨ blockOf sl i → i < h.n := fun i hi => hi.elim (Rd.block_lt hb.sv) (Rd.block_lt hb.sl)
  obtain ⟨a1, c1, rfl, _, _⟩ := id hb.sv
  obtain ⟨a2, c2, rfl, _, _⟩ := id hb.sl
  have f0 : Fr (fun _ => False) h (h.push (.cells (.int .i64 n :: x.cells (.slice a1 x.c.votes.length c1) (.slice a2 x.vals.length c2)) 0)) := Fr.refl.push
  refine ztbQ_runs ?_
  refine stp ?_
  refine O.call' (bytes_ok (u := .agg ⟨.int .i64 n :: x.cells (.slice a1 x.c.votes.length c1) (.slice a2 x.vals.length c2)⟩) (fun h' hf => of_answer ((hb.keep f0 fun _ _ => id).keep hf fun _ _ => id)) (fun h' => write_answer) (fun p h' hf hp hw => ansW_ok hw ((hb.keep f0 fun _ _ => id).keep hf fun _ _ => id) fun i hi => by have := hlt i hi; simp at hp; omega)) (fun r h1 hr => ?_)
  obtain ⟨v, rfl, ho, hn, hf⟩ := hr
  refine stp ?_
  exact ⟨v, rfl, ho, fun i hi => by have := hn i hi; simp at this; omega, Fr.trans (S := fun _ => False) Fr.refl.push hf fun _ _ => id⟩
end Go.Proofs.YtninaabbojcdpaaGreat.A

namespace Go.Proofs.YtninaabbojcdpaaGreat.A
open Go Go.Vm
set_option maxRecDepth 10000
set_option linter.unusedVariables false
structure Bk.okL (x : Bk) : Prop where
  h : x.h.ok
  hash : x.c.hash.length = 32
  votes : x.c.votes.length ≤ 1000
  vals : x.vals.length ≤ 1000
theorem LongBlock_ok {h : Heap} {x : Bk} {sv sl : Value} (hb : BkRd h x sv sl) :
    Runs Tryz.prog T0 (.fn fn_zebQ) [.agg ⟨x.cells sv sl⟩] h (fun r h' => (∃ b : Bool, r = .bool b ∧ (b = false → x.vals.length ≤ 70 ∧ x.c.votes.length ≤ 70 ∧ x.h.chain.length ≤ 60)) ∧ Fr (fun _ => False) h h') (fun _ _ => False) := by
  have hx := hb.hd
  have hch := hb.hash
  haveI := l32 hx.prev
  haveI := l32 hx.vals
  haveI := l32 hx.next
  haveI := l32 hx.app
  haveI := l32 hch
  obtain ⟨a1, c1, rfl, _, _⟩ := id hb.sv
  obtain ⟨a2, c2, rfl, _, _⟩ := id hb.sl
  have hsz : (ByteArray.mk ⟨x.h.chain⟩).size = x.h.chain.length := rfl
  refine zebQ_runs ?_
  refine stp ?_
  refine O.dec (fun h1 => ?_) (fun h1 => ?_)
  · refine stp ?_
    exact ⟨⟨true, rfl, fun h => by cases h⟩, Fr.refl.push⟩
  refine stp ?_
  refine O.dec (fun h2 => ?_) (fun h2 => ?_)
  · refine stp ?_
    exact ⟨⟨true, rfl, fun h => by cases h⟩, Fr.refl.push⟩
  refine stp ?_
  exact ⟨⟨_, rfl, fun h => by have := of_decide_eq_false h; omega⟩, Fr.refl.push⟩
end Go.Proofs.YtninaabbojcdpaaGreat.A

namespace Go.Proofs.YtninaabbojcdpaaGreat.A
open Go Go.Vm
set_option maxRecDepth 10000
set_option linter.unusedVariables false
theorem byteAt_nat (n k : Nat) : (byteAt n k).toNat = n / 2 ^ (8 * k) % 256 := u8nat (Nat.mod_lt _ (by omega))
theorem eight {d : List UInt8} (h : d.length = 8) : ∃ a b c e f g i j, d = [a, b, c, e, f, g, i, j] := by
  match d, h with
  | [a, b, c, e, f, g, i, j], _ => exact ⟨a, b, c, e, f, g, i, j, rfl⟩
theorem bigN8 (a b c e f g i j : UInt8) : bigN [a, b, c, e, f, g, i, j] = a.toNat * 72057594037927936 + b.toNat * 281474976710656 + c.toNat * 1099511627776 + e.toNat * 4294967296 + f.toNat * 16777216 + g.toNat * 65536 + i.toNat * 256 + j.toNat := by
  show ((((((((0 * 256 + a.toNat) * 256 + b.toNat) * 256 + c.toNat) * 256 + e.toNat) * 256 + f.toNat) * 256 + g.toNat) * 256 + i.toNat) * 256 + j.toNat) = _
  omega
theorem bigN_word8 {n : Nat} (h : n < 18446744073709551616) : bigN (word8 n) = n := by
  unfold word8
  rw [bigN8, byteAt_nat, byteAt_nat, byteAt_nat, byteAt_nat, byteAt_nat, byteAt_nat, byteAt_nat, byteAt_nat]
  simp only [show 2 ^ (8 * 7) = 72057594037927936 from rfl, show 2 ^ (8 * 6) = 281474976710656 from rfl, show 2 ^ (8 * 5) = 1099511627776 from rfl, show 2 ^ (8 * 4) = 4294967296 from rfl, show 2 ^ (8 * 3) = 16777216 from rfl, show 2 ^ (8 * 2) = 65536 from rfl, show 2 ^ (8 * 1) = 256 from rfl, show 2 ^ (8 * 0) = 1 from rfl]
  omega
theorem word8_bigN {d : List UInt8} (h : d.length = 8) : word8 (bigN d) = d := by
  obtain ⟨a, b, c, e, f, g, i, j, rfl⟩ := eight h
  have ha := a.toNat_lt; have hb := b.toNat_lt; have hc := c.toNat_lt; have he := e.toNat_lt
  have hf := f.toNat_lt; have hg := g.toNat_lt; have hi := i.toNat_lt; have hj := j.toNat_lt
  have e7 : byteAt (bigN [a, b, c, e, f, g, i, j]) 7 = a := UInt8.toNat_inj.1 (by rw [byteAt_nat, bigN8, show 2 ^ (8 * 7) = 72057594037927936 from rfl]; omega)
  have e6 : byteAt (bigN [a, b, c, e, f, g, i, j]) 6 = b := UInt8.toNat_inj.1 (by rw [byteAt_nat, bigN8, show 2 ^ (8 * 6) = 281474976710656 from rfl]; omega)
  have e5 : byteAt (bigN [a, b, c, e, f, g, i, j]) 5 = c := UInt8.toNat_inj.1 (by rw [byteAt_nat, bigN8, show 2 ^ (8 * 5) = 1099511627776 from rfl]; omega)
  have e4 : byteAt (bigN [a, b, c, e, f, g, i, j]) 4 = e := UInt8.toNat_inj.1 (by rw [byteAt_nat, bigN8, show 2 ^ (8 * 4) = 4294967296 from rfl]; omega)
  have e3 : byteAt (bigN [a, b, c, e, f, g, i, j]) 3 = f := UInt8.toNat_inj.1 (by rw [byteAt_nat, bigN8, show 2 ^ (8 * 3) = 16777216 from rfl]; omega)
  have e2 : byteAt (bigN [a, b, c, e, f, g, i, j]) 2 = g := UInt8.toNat_inj.1 (by rw [byteAt_nat, bigN8, show 2 ^ (8 * 2) = 65536 from rfl]; omega)
  have e1 : byteAt (bigN [a, b, c, e, f, g, i, j]) 1 = i := UInt8.toNat_inj.1 (by rw [byteAt_nat, bigN8, show 2 ^ (8 * 1) = 256 from rfl]; omega)
  have e0 : byteAt (bigN [a, b, c, e, f, g, i, j]) 0 = j := UInt8.toNat_inj.1 (by rw [byteAt_nat, bigN8, show 2 ^ (8 * 0) = 1 from rfl]; omega)
  unfold word8
  rw [e7, e6, e5, e4, e3, e2, e1, e0]
theorem wordS_form {bs : List UInt8} {n pl pl' : Nat} (h : wordS bs pl = .ok (n, pl')) : bs.drop pl = word8 n ++ bs.drop pl' ∧ n < 18446744073709551616 ∧ pl' ≤ bs.length := by
  unfold wordS at h
  split at h
  · cases h
  · cases h
    have hl : ((bs.drop pl).take 8).length = 8 := by rw [List.length_take, List.length_drop]; omega
    rw [word8_bigN hl]
    have := bigN_lt ((bs.drop pl).take 8)
    rw [hl] at this
    exact ⟨drop_split (by omega), this, by omega⟩
theorem wordS_back {a b : List UInt8} {n : Nat} (h : n < 18446744073709551616) : wordS (a ++ (word8 n ++ b)) a.length = .ok (n, a.length + 8) := by
  unfold wordS
  simp only [List.length_append, word8_len]
  rw [if_neg (by omega), List.drop_left]
  congr 2
  rw [List.take_left' (word8_len n), bigN_word8 h]
theorem wordS_ends {bs : List UInt8} : Ends bs (wordS bs) := ⟨fun pl a pl' h => (wordS_form h).2.2, fun pl e h => by
  unfold wordS at h
  split at h
  · cases h; exact .inr (.inr rfl)
  · cases h⟩
theorem bodyC_append (l m : List Vote) : bodyC (l ++ m) = bodyC l ++ bodyC m := by simp [bodyC]
theorem stepW_st (bs : List UInt8) {y : List Vote × RSt} (hy : y.2.ok bs) : ∀ k, (stepW bs k y).2.ok bs
  | 0 => hy
  | k + 1 => rd_st wordS_ends (rd_st numS_ends (stepW_st bs hy k))
def heightC (bs : List UInt8) : Nat × RSt := rd (numS bs) 0 ⟨0, 0, 0⟩
def hashC (bs : List UInt8) : List UInt8 × RSt := rd (partS 32 bs) zb32 (heightC bs).2
def manyC (bs : List UInt8) : Nat × RSt := rd (numS bs) 0 (hashC bs).2
def votesC (bs : List UInt8) : List Vote × RSt := stepW bs (manyC bs).1 ([], (manyC bs).2)
def faultC (bs : List UInt8) : Int × Int := endS bs (votesC bs).2
def gaultC (bs : List UInt8) : Int × Int := if faultC bs = (0, 0) then (checkC ((heightC bs).1 : Nat) (votesC bs).1, 0) else faultC bs
theorem decC_eq (bs : List UInt8) : decC bs = if 64 < (manyC bs).1 then (zCm, (4, (bs.length : Int) - restS bs (hashC bs).2)) else if gaultC bs = (0, 0) then (⟨((heightC bs).1 : Nat), (hashC bs).1, (votesC bs).1⟩, (0, 0)) else (zCm, gaultC bs) := rfl
theorem hashC_st (bs : List UInt8) : (hashC bs).2.ok bs := rd_st partS_ends (rd_st numS_ends (st0_ok bs))
theorem manyC_st (bs : List UInt8) : (manyC bs).2.ok bs := rd_st numS_ends (hashC_st bs)
theorem votesC_st (bs : List UInt8) : (votesC bs).2.ok bs := stepW_st bs (manyC_st bs) _
theorem gaultC_zero {bs : List UInt8} (h : (gaultC bs).1 = 0) : gaultC bs = (0, 0) := by
  unfold gaultC at h ⊢
  split at h
  · rename_i hc
    rw [if_pos hc]
    have h : checkC ((heightC bs).1 : Nat) (votesC bs).1 = 0 := h
    rw [h]
  · rename_i hc
    exact absurd (endS_zero (votesC_st bs) h) hc
theorem stepW_form {bs : List UInt8} {st : RSt} : ∀ k, (stepW bs k ([], st)).2.e = 0 → st.e = 0 ∧ bs.drop st.pl = bodyC (stepW bs k ([], st)).1 ++ bs.drop (stepW bs k ([], st)).2.pl ∧ ∀ v ∈ (stepW bs k ([], st)).1, v.sig < 18446744073709551616
  | 0, h => ⟨h, rfl, fun v hv => by cases hv⟩
  | k + 1, h => by
    have h : (rd (wordS bs) 0 (rd (numS bs) 0 (stepW bs k ([], st)).2).2).2.e = 0 := h
    obtain ⟨h1, h2⟩ := rd_good wordS_ends h
    obtain ⟨h3, h4⟩ := rd_good numS_ends h1
    obtain ⟨h5, h6, h7⟩ := stepW_form k h3
    obtain ⟨f1, f2, _⟩ := wordS_form h2
    have f3 := numS_form h4
    refine ⟨h5, ?_, fun v hv => ?_⟩
    · show _ = bodyC ((stepW bs k ([], st)).1 ++ [⟨((rd (numS bs) 0 (stepW bs k ([], st)).2).1 : Nat), (rd (wordS bs) 0 (rd (numS bs) 0 (stepW bs k ([], st)).2).2).1⟩]) ++ bs.drop (rd (wordS bs) 0 (rd (numS bs) 0 (stepW bs k ([], st)).2).2).2.pl
      rw [h6, f3, f1, bodyC_append]
      simp only [bodyC, voteF, List.flatMap_cons, List.flatMap_nil, List.append_nil, List.append_assoc, Int.toNat_natCast]
    · have hv : v ∈ (stepW bs k ([], st)).1 ++ [⟨((rd (numS bs) 0 (stepW bs k ([], st)).2).1 : Nat), (rd (wordS bs) 0 (rd (numS bs) 0 (stepW bs k ([], st)).2).2).1⟩] := hv
      rcases List.mem_append.1 hv with hv | hv
      · exact h7 v hv
      · obtain rfl := List.mem_singleton.1 hv
        exact f2
theorem decC_good {bs : List UInt8} (h : (decC bs).2.1 = 0) : checkC (decC bs).1.height (decC bs).1.votes = 0 ∧ (decC bs).1.hash.length = 32 ∧ encC (decC bs).1.height (decC bs).1.hash (decC bs).1.votes = bs ∧ (decC bs).2 = (0, 0) ∧ ∀ v ∈ (decC bs).1.votes, v.sig < 18446744073709551616 := by
  rw [decC_eq] at h ⊢
  by_cases hm : 64 < (manyC bs).1
  · rw [if_pos hm] at h; cases h
  · rw [if_neg hm] at h ⊢
    have hg : gaultC bs = (0, 0) := by
      by_cases hg : gaultC bs = (0, 0)
      · exact hg
      · rw [if_neg hg] at h; exact gaultC_zero h
    rw [if_pos hg]
    have hf : faultC bs = (0, 0) := by
      unfold gaultC at hg
      by_cases hf : faultC bs = (0, 0)
      · exact hf
      · rw [if_neg hf] at hg; exact hg
    have hc : checkC ((heightC bs).1 : Nat) (votesC bs).1 = 0 := by
      unfold gaultC at hg
      rw [if_pos hf] at hg
      injection hg
    have he : (votesC bs).2.e = 0 ∧ ¬ (votesC bs).2.pl < bs.length := by
      unfold faultC endS at hf
      split at hf
      · injection hf with h1 _; cases h1
      · rename_i hn
        injection hf with h1 _
        exact ⟨h1, fun hl => hn ⟨h1, hl⟩⟩
    obtain ⟨e1, e2, e2'⟩ := stepW_form _ he.1
    obtain ⟨e3, e4⟩ := rd_good numS_ends e1
    obtain ⟨e5, e6⟩ := rd_good partS_ends e3
    obtain ⟨e7, e8⟩ := rd_good numS_ends e5
    have f1 := numS_form e4
    obtain ⟨l1, f2, _⟩ := partS_form e6
    have f3 := numS_form e8
    have hlen : (votesC bs).1.length = (manyC bs).1 := by
      unfold votesC; rw [stepW_len]; simp
    have hd : bs.drop (votesC bs).2.pl = [] := List.drop_eq_nil_of_le (by omega)
    refine ⟨hc, l1, ?_, rfl, e2'⟩
    show encC ((heightC bs).1 : Nat) (hashC bs).1 (votesC bs).1 = bs
    unfold encC
    rw [hlen, Int.toNat_natCast]
    have e2 : bs.drop (manyC bs).2.pl = bodyC (votesC bs).1 ++ bs.drop (votesC bs).2.pl := e2
    rw [hd, List.append_nil] at e2
    have f1 : bs.drop (hashC bs).2.pl = numF (manyC bs).1 ++ bs.drop (manyC bs).2.pl := f1
    have f2 : bs.drop (heightC bs).2.pl = (hashC bs).1 ++ bs.drop (hashC bs).2.pl := f2
    have f3 : bs.drop 0 = numF (heightC bs).1 ++ bs.drop (heightC bs).2.pl := f3
    rw [← e2, List.append_assoc, ← f1, List.append_assoc, ← f2, ← f3]
    rfl
theorem stepW_back {pre post : List UInt8} {l : List Vote} (hr : ∀ v ∈ l, 0 ≤ v.at' ∧ v.at' < 64) (hs : ∀ v ∈ l, v.sig < 18446744073709551616) : ∀ k, k ≤ l.length →
    stepW (pre ++ (bodyC l ++ post)) k ([], ⟨pre.length, 0, 0⟩) = (l.take k, ⟨pre.length + (bodyC (l.take k)).length, 0, 0⟩)
  | 0, _ => by simp [stepW, bodyC]
  | k + 1, hk => by
    have ih := stepW_back (pre := pre) (post := post) hr hs k (by omega)
    have hlt : k < l.length := by omega
    have hp := hr _ (getD_memC hlt)
    have hp2 := hs _ (getD_memC hlt)
    have hb : pre ++ (bodyC l ++ post) = (pre ++ bodyC (l.take k)) ++ (numF (l.getD k zVote).at'.toNat ++ (word8 (l.getD k zVote).sig ++ (bodyC (l.drop (k + 1)) ++ post))) := by
      have : l = l.take k ++ (l.getD k zVote :: l.drop (k + 1)) := by rw [← dropC hlt, List.take_append_drop]
      conv => lhs; rw [this]
      rw [bodyC_append]
      simp [bodyC, voteF]
    have p1 : numS (pre ++ (bodyC l ++ post)) (pre.length + (bodyC (l.take k)).length) = .ok ((l.getD k zVote).at'.toNat, pre.length + (bodyC (l.take k)).length + (numF (l.getD k zVote).at'.toNat).length) := by
      rw [hb, ← List.length_append]
      exact numS_back (by omega)
    have p2 : wordS (pre ++ (bodyC l ++ post)) (pre.length + (bodyC (l.take k)).length + (numF (l.getD k zVote).at'.toNat).length) = .ok ((l.getD k zVote).sig, pre.length + (bodyC (l.take k)).length + (numF (l.getD k zVote).at'.toNat).length + 8) := by
      rw [hb, ← List.append_assoc, show pre.length + (bodyC (l.take k)).length + (numF (l.getD k zVote).at'.toNat).length = (pre ++ bodyC (l.take k) ++ numF (l.getD k zVote).at'.toNat).length from by simp only [List.length_append]]
      exact wordS_back hp2
    show ((stepW _ k _).1 ++ [⟨((rd (numS _) 0 (stepW _ k _).2).1 : Nat), (rd (wordS _) 0 (rd (numS _) 0 (stepW _ k _).2).2).1⟩], (rd (wordS _) 0 (rd (numS _) 0 (stepW _ k _).2).2).2) = _
    rw [ih]
    simp only
    rw [rd_step p1]
    simp only
    rw [rd_step p2]
    simp only
    have e1 : (⟨((l.getD k zVote).at'.toNat : Nat), (l.getD k zVote).sig⟩ : Vote) = l.getD k zVote := by
      have : (((l.getD k zVote).at'.toNat : Nat) : Int) = (l.getD k zVote).at' := by omega
      rw [this]
    have e2 : l.take (k + 1) = l.take k ++ [l.getD k zVote] := by
      rw [List.take_succ_eq_append_getElem hlt]
      simp [List.getD, hlt]
    rw [e1, bodyC_take hlt, e2]
    simp only [List.length_append, word8_len]
    congr 2
    omega
theorem decC_back {x : Cm} (hh : x.hash.length = 32) (hc : checkC x.height x.votes = 0) (hs : ∀ v ∈ x.votes, v.sig < 18446744073709551616) (m : List UInt8) :
    decC (encC x.height x.hash x.votes ++ m) = if m = [] then (x, (0, 0)) else (zCm, (4, ((encC x.height x.hash x.votes).length : Int))) := by
  obtain ⟨c1, c2, c3, c4⟩ := checkC_ok hc
  have h1 : heightC (encC x.height x.hash x.votes ++ m) = (x.height.toNat, ⟨(numF x.height.toNat).length, 0, 0⟩) := by
    have h0 := numS_back (a := []) (b := x.hash ++ numF x.votes.length ++ bodyC x.votes ++ m) (n := x.height.toNat) (by omega)
    simp only [List.nil_append, List.length_nil, Nat.zero_add, List.append_assoc] at h0
    unfold encC heightC
    simp only [List.append_assoc]
    exact rd_step h0
  have h2 : hashC (encC x.height x.hash x.votes ++ m) = (x.hash, ⟨(numF x.height.toNat).length + 32, 0, 0⟩) := by
    have h0 := partS_back (a := numF x.height.toNat) (b := numF x.votes.length ++ bodyC x.votes ++ m) (l := x.hash) hh
    unfold hashC
    rw [h1]
    unfold encC
    simp only [List.append_assoc] at h0 ⊢
    exact rd_step h0
  have h3 : manyC (encC x.height x.hash x.votes ++ m) = (x.votes.length, ⟨(numF x.height.toNat).length + 32 + (numF x.votes.length).length, 0, 0⟩) := by
    have h0 := numS_back (a := numF x.height.toNat ++ x.hash) (b := bodyC x.votes ++ m) (n := x.votes.length) (by omega)
    unfold manyC
    rw [h2]
    unfold encC
    simp only [List.append_assoc, List.length_append, hh] at h0 ⊢
    exact rd_step h0
  have h4 : votesC (encC x.height x.hash x.votes ++ m) = (x.votes, ⟨(encC x.height x.hash x.votes).length, 0, 0⟩) := by
    have h0 := stepW_back (pre := numF x.height.toNat ++ x.hash ++ numF x.votes.length) (post := m) c4 hs x.votes.length (Nat.le_refl _)
    rw [List.take_length] at h0
    unfold votesC
    rw [h3]
    unfold encC
    simp only [List.append_assoc, List.length_append, hh, Nat.add_assoc] at h0 ⊢
    exact h0
  have hht : ((x.height.toNat : Nat) : Int) = x.height := by omega
  rw [decC_eq, h3, if_neg (by omega)]
  unfold gaultC faultC
  rw [h1, h2, h4]
  simp only [hht]
  by_cases h0 : m = []
  · subst h0
    have hE : endS (encC x.height x.hash x.votes ++ []) ⟨(encC x.height x.hash x.votes).length, 0, 0⟩ = (0, 0) := by
      unfold endS
      rw [if_neg (by simp)]
    rw [hE]
    simp [hc]
  · have hp : 0 < m.length := List.length_pos_iff.2 h0
    have hE : endS (encC x.height x.hash x.votes ++ m) ⟨(encC x.height x.hash x.votes).length, 0, 0⟩ = (4, ((encC x.height x.hash x.votes).length : Int)) := by
      unfold endS
      rw [if_pos ⟨rfl, by rw [List.length_append]; simp only; omega⟩]
    rw [hE, if_neg h0]
    have hn : ((4 : Int), ((encC x.height x.hash x.votes).length : Int)) ≠ (0, 0) := fun h => by cases (Prod.mk.inj h).1
    rw [if_neg hn, if_neg hn]
end Go.Proofs.YtninaabbojcdpaaGreat.A

namespace Go.Proofs.YtninaabbojcdpaaGreat.A
open Go Go.Vm
set_option maxRecDepth 10000
set_option linter.unusedVariables false
structure Bk.good (x : Bk) : Prop where
  h : x.h.ok
  hash : x.c.hash.length = 32
  parts : partsB x = 0
  sigs : ∀ v ∈ x.c.votes, v.sig < 18446744073709551616
theorem partB_inv {α : Type} {dec : List UInt8 → α × Int × Int} {zero : α} {bs : List UInt8} {y : (Int × Int) × RSt} (h : (partB dec zero bs y).2.1 = (0, 0)) :
    y.1 = (0, 0) ∧ (rd (bytesS bs 65536) [] y.2).2.e = 0 ∧ (dec (rd (bytesS bs 65536) [] y.2).1).2 = (0, 0) ∧ partB dec zero bs y = ((dec (rd (bytesS bs 65536) [] y.2).1).1, (0, 0), (rd (bytesS bs 65536) [] y.2).2) := by
  obtain ⟨f, st⟩ := y
  by_cases h1 : f = (0, 0)
  · subst h1
    by_cases h2 : (rd (bytesS bs 65536) [] st).2.e = 0
    · by_cases h3 : (dec (rd (bytesS bs 65536) [] st).1).2 = (0, 0)
      · exact ⟨rfl, h2, h3, partB_good h2 h3⟩
      · rw [partB_form h2 h3] at h
        injection h with h _
        cases h
    · rw [partB_bad h2] at h
      injection h with h _
      exact absurd h h2
  · rw [partB_stop h1] at h
    exact absurd h h1
theorem decB_good {bs : List UInt8} (h : (decB bs).2 = (0, 0)) : (decB bs).1.good ∧ encB (decB bs).1 = bs := by
  have hp := decB_parts (bs := bs) rfl rfl rfl
  generalize hy1 : partB decS zeroHd bs ((0, 0), ⟨0, 0, 0⟩) = y1 at hp
  generalize hy2 : partB decC zCm bs y1.2 = y2 at hp
  generalize hy3 : partB decV [] bs y2.2 = y3 at hp
  generalize hFF : (if y3.2.1 = (0, 0) then endS bs y3.2.2 else y3.2.1) = F at hp
  rw [hp] at h ⊢
  by_cases hf : F = (0, 0)
  · rw [if_pos hf]
    rw [← hFF] at hf
    have h3 : y3.2.1 = (0, 0) := by
      by_cases h3 : y3.2.1 = (0, 0)
      · exact h3
      · rw [if_neg h3] at hf; exact absurd hf h3
    rw [if_pos h3] at hf
    obtain ⟨a3, b3, c3, d3⟩ := partB_inv (hy3 ▸ h3)
    obtain ⟨a2, b2, c2, d2⟩ := partB_inv (hy2 ▸ a3)
    obtain ⟨a1, b1, c1, d1⟩ := partB_inv (hy1 ▸ a2)
    rw [hy1] at d1
    rw [hy2] at d2
    rw [hy3] at d3
    obtain ⟨e1, f1⟩ := rd_good bytesS_ends b1
    obtain ⟨e2, f2⟩ := rd_good bytesS_ends b2
    obtain ⟨e3, f3⟩ := rd_good bytesS_ends b3
    obtain ⟨_, g1, _⟩ := bytesS_form f1
    obtain ⟨_, g2, _⟩ := bytesS_form f2
    obtain ⟨_, g3, _⟩ := bytesS_form f3
    obtain ⟨p1, q1, _⟩ := decS_good (by rw [c1])
    obtain ⟨p2, p2h, q2, _, p2s⟩ := decC_good (by rw [c2])
    obtain ⟨p3, q3, _⟩ := decV_good (by rw [c3])
    have hend : bs.drop y3.2.2.pl = [] := by
      refine List.drop_eq_nil_of_le ?_
      unfold endS at hf
      split at hf
      · injection hf with hf _; cases hf
      · rename_i hn
        have : y3.2.2.e = 0 := by rw [d3]; exact b3
        exact Nat.le_of_not_lt fun hl => hn ⟨this, hl⟩
    have z1 : y1.1 = (decS (rd (bytesS bs 65536) [] ⟨0, 0, 0⟩).1).1 := by rw [d1]
    have z2 : y2.1 = (decC (rd (bytesS bs 65536) [] y1.2.2).1).1 := by rw [d2]
    have z3 : y3.1 = (decV (rd (bytesS bs 65536) [] y2.2.2).1).1 := by rw [d3]
    have s1 : y1.2.2 = (rd (bytesS bs 65536) [] ⟨0, 0, 0⟩).2 := by rw [d1]
    have s2 : y2.2.2 = (rd (bytesS bs 65536) [] y1.2.2).2 := by rw [d2]
    have s3 : y3.2.2 = (rd (bytesS bs 65536) [] y2.2.2).2 := by rw [d3]
    rw [← z1] at p1 q1
    rw [← z2] at p2 p2h q2 p2s
    rw [← z3] at p3 q3
    have hk : y1.1.ok := by rw [z1]; exact decS_ok _
    refine ⟨⟨hk, p2h, ?_, p2s⟩, ?_⟩
    · unfold partsB
      simp only [firstE]
      rw [if_pos p1, if_pos p3, if_pos p2]
    · show partF (encS y1.1) ++ partF (encC y2.1.height y2.1.hash y2.1.votes) ++ partF (encV y3.1) = bs
      rw [q1, q2, q3]
      unfold partF
      rw [← s1] at g1
      rw [← s2] at g2
      rw [← s3, hend, List.append_nil] at g3
      rw [List.append_assoc, List.append_assoc, ← g3, List.append_assoc, ← g2, ← g1]
      rfl
  · rw [if_neg hf] at h
    exact absurd h hf
theorem rd_bytes_back {a b l : List UInt8} (hl : l.length ≤ 65536) : rd (bytesS (a ++ (partF l ++ b)) 65536) [] ⟨a.length, 0, 0⟩ = (l, ⟨(a ++ partF l).length, 0, 0⟩) := by
  have h0 := bytesS_back (a := a) (b := b) (l := l) (most := 65536) hl (by omega)
  have e : a ++ (partF l ++ b) = a ++ (numF l.length ++ (l ++ b)) := by unfold partF; rw [List.append_assoc]
  rw [e, rd_step h0]
  congr 2
  unfold partF
  simp only [List.length_append]
  omega
theorem decB_back {x : Bk} (hx : x.good) (m : List UInt8) : decB (encB x ++ m) = if m = [] then (x, (0, 0)) else (zBk, (4, ((encB x).length : Int))) := by
  obtain ⟨z1, z2, z3⟩ := partsB_ok hx.parts
  have lH := encS_lenB hx.h z1
  have lC := encC_len hx.hash z3
  have lV := encV_len z2
  have b1 := decS_back hx.h z1
  have b2 := decC_back hx.hash z3 hx.sigs []
  have b3 := decV_back z2 []
  rw [List.append_nil, if_pos rfl] at b2 b3
  have r1 := rd_bytes_back (a := []) (b := partF (encC x.c.height x.c.hash x.c.votes) ++ (partF (encV x.vals) ++ m)) (l := encS x.h) (by omega)
  have r2 := rd_bytes_back (a := partF (encS x.h)) (b := partF (encV x.vals) ++ m) (l := encC x.c.height x.c.hash x.c.votes) (by omega)
  have r3 := rd_bytes_back (a := partF (encS x.h) ++ partF (encC x.c.height x.c.hash x.c.votes)) (b := m) (l := encV x.vals) (by omega)
  have eall : encB x ++ m = partF (encS x.h) ++ (partF (encC x.c.height x.c.hash x.c.votes) ++ (partF (encV x.vals) ++ m)) := by
    unfold encB; simp only [List.append_assoc]
  rw [List.nil_append, ← eall] at r1
  rw [← eall] at r2
  rw [List.append_assoc, ← eall] at r3
  have y1 : partB decS zeroHd (encB x ++ m) ((0, 0), ⟨0, 0, 0⟩) = (x.h, (0, 0), ⟨(partF (encS x.h)).length, 0, 0⟩) := by
    have r1' : rd (bytesS (encB x ++ m) 65536) [] ⟨0, 0, 0⟩ = (encS x.h, ⟨(partF (encS x.h)).length, 0, 0⟩) := r1
    rw [partB_good (by rw [r1']) (by rw [r1']; show (decS (encS x.h)).2 = _; rw [b1]), r1']
    show ((decS (encS x.h)).1, _, _) = _
    rw [b1]
  have y2 : partB decC zCm (encB x ++ m) ((0, 0), ⟨(partF (encS x.h)).length, 0, 0⟩) = (x.c, (0, 0), ⟨(partF (encS x.h) ++ partF (encC x.c.height x.c.hash x.c.votes)).length, 0, 0⟩) := by
    rw [partB_good (by rw [r2]) (by rw [r2]; show (decC (encC x.c.height x.c.hash x.c.votes)).2 = _; rw [b2]), r2]
    show ((decC (encC x.c.height x.c.hash x.c.votes)).1, _, _) = _
    rw [b2]
  have y3 : partB decV [] (encB x ++ m) ((0, 0), ⟨(partF (encS x.h) ++ partF (encC x.c.height x.c.hash x.c.votes)).length, 0, 0⟩) = (x.vals, (0, 0), ⟨(encB x).length, 0, 0⟩) := by
    rw [partB_good (by rw [r3]) (by rw [r3]; show (decV (encV x.vals)).2 = _; rw [b3]), r3]
    show ((decV (encV x.vals)).1, _, _) = _
    rw [b3]
    rfl
  rw [decB_fin y1 y2 y3 rfl]
  by_cases h0 : m = []
  · subst h0
    have hE : endS (encB x ++ []) ⟨(encB x).length, 0, 0⟩ = (0, 0) := by
      unfold endS
      rw [if_neg (by simp)]
    rw [hE]
    simp
  · have hp : 0 < m.length := List.length_pos_iff.2 h0
    have hE : endS (encB x ++ m) ⟨(encB x).length, 0, 0⟩ = (4, ((encB x).length : Int)) := by
      unfold endS
      rw [if_pos ⟨rfl, by rw [List.length_append]; simp only; omega⟩]
    rw [hE, if_neg h0]
    have hn : ((4 : Int), ((encB x).length : Int)) ≠ (0, 0) := fun h => by cases (Prod.mk.inj h).1
    simp
end Go.Proofs.YtninaabbojcdpaaGreat.A

namespace Go.Proofs.YtninaabbojcdpaaGreat.A
open Go Go.Vm
set_option maxRecDepth 10000
set_option linter.unusedVariables false
def Told (x : Ms) (w : List UInt8) : Prop :=
  (∃ n ht : Int, x = ⟨1, n, ht, 0, zBk⟩ ∧ numM n ∧ heiM ht ∧ w = askF n ht) ∨ (∃ (n : Int) (b : Bk), x = ⟨2, 0, 0, n, b⟩ ∧ numM n ∧ b.good ∧ w = ansF n b)
theorem endM_inv {bs : List UInt8} {st : RSt} {x : Ms} (h : (endM bs st x).2 = (0, 0)) : endS bs st = (0, 0) ∧ (endM bs st x).1 = x := by
  unfold endM at h ⊢
  split at h
  · rename_i hc; rw [if_pos hc]; exact ⟨hc, rfl⟩
  · rename_i hc; exact absurd h hc
theorem endS_end {bs : List UInt8} {st : RSt} (he : st.e = 0) (h : endS bs st = (0, 0)) : bs.drop st.pl = [] := by
  refine List.drop_eq_nil_of_le ?_
  unfold endS at h
  split at h
  · injection h with h _; cases h
  · rename_i hn
    exact Nat.le_of_not_lt fun hl => hn ⟨he, hl⟩
theorem decM_good {bs : List UInt8} (h : (decM bs).2 = (0, 0)) : Told (decM bs).1 bs := by
  unfold decM at h ⊢
  simp only at h ⊢
  by_cases h0 : 65536 < bs.length
  · rw [if_pos h0] at h
    injection h with h _
    cases h
  rw [if_neg h0] at h ⊢
  by_cases h1 : (rd (numS bs) 0 ⟨0, 0, 0⟩).2.e = 0
  case neg =>
    rw [if_neg h1] at h
    injection h with h _
    exact absurd h h1
  rw [if_pos h1] at h ⊢
  obtain ⟨_, k2⟩ := rd_good numS_ends h1
  have k3 := numS_form k2
  by_cases h2 : (rd (numS bs) 0 ⟨0, 0, 0⟩).1 = 1 ∨ (rd (numS bs) 0 ⟨0, 0, 0⟩).1 = 2
  case neg =>
    rw [if_neg h2] at h
    injection h with h _
    cases h
  rw [if_pos h2] at h ⊢
  by_cases h3 : (rd (numS bs) 0 (rd (numS bs) 0 ⟨0, 0, 0⟩).2).2.e = 0
  case neg =>
    rw [if_neg h3] at h
    injection h with h _
    exact absurd h h3
  rw [if_pos h3] at h ⊢
  obtain ⟨_, i2⟩ := rd_good numS_ends h3
  have i3 := numS_form i2
  by_cases h4 : numM ((rd (numS bs) 0 (rd (numS bs) 0 ⟨0, 0, 0⟩).2).1 : Nat)
  case neg =>
    rw [if_neg h4] at h
    injection h with h _
    cases h
  rw [if_pos h4] at h ⊢
  by_cases h5 : (rd (numS bs) 0 ⟨0, 0, 0⟩).1 = 1
  · rw [if_pos h5] at h ⊢
    by_cases h6 : (rd (numS bs) 0 (rd (numS bs) 0 (rd (numS bs) 0 ⟨0, 0, 0⟩).2).2).2.e = 0
    case neg =>
      rw [if_neg h6] at h
      injection h with h _
      exact absurd h h6
    rw [if_pos h6] at h ⊢
    obtain ⟨_, t2⟩ := rd_good numS_ends h6
    have t3 := numS_form t2
    by_cases h7 : heiM ((rd (numS bs) 0 (rd (numS bs) 0 (rd (numS bs) 0 ⟨0, 0, 0⟩).2).2).1 : Nat)
    case neg =>
      rw [if_neg h7] at h
      injection h with h _
      cases h
    rw [if_pos h7] at h ⊢
    obtain ⟨e1, e2⟩ := endM_inv h
    rw [e2]
    refine .inl ⟨_, _, rfl, h4, h7, ?_⟩
    unfold askF
    rw [endS_end h6 e1, List.append_nil] at t3
    rw [Int.toNat_natCast, Int.toNat_natCast, List.append_assoc, ← t3, ← i3]
    rw [h5] at k3
    rw [← k3]
    rfl
  · rw [if_neg h5] at h ⊢
    have h5' : (rd (numS bs) 0 ⟨0, 0, 0⟩).1 = 2 := h2.resolve_left h5
    by_cases h6 : (rd (bytesS bs 65536) [] (rd (numS bs) 0 (rd (numS bs) 0 ⟨0, 0, 0⟩).2).2).2.e = 0
    case neg =>
      rw [if_neg h6] at h
      injection h with h _
      exact absurd h h6
    rw [if_pos h6] at h ⊢
    obtain ⟨_, t2⟩ := rd_good bytesS_ends h6
    obtain ⟨_, t3, _⟩ := bytesS_form t2
    by_cases h7 : (decB (rd (bytesS bs 65536) [] (rd (numS bs) 0 (rd (numS bs) 0 ⟨0, 0, 0⟩).2).2).1).2 = (0, 0)
    case neg =>
      rw [if_neg h7] at h
      injection h with h _
      cases h
    rw [if_pos h7] at h ⊢
    obtain ⟨e1, e2⟩ := endM_inv h
    rw [e2]
    obtain ⟨g1, g2⟩ := decB_good h7
    refine .inr ⟨_, _, rfl, h4, g1, ?_⟩
    unfold ansF partF
    rw [g2]
    rw [endS_end h6 e1, List.append_nil] at t3
    rw [Int.toNat_natCast, List.append_assoc, ← t3, ← i3]
    rw [h5'] at k3
    rw [← k3]
    rfl
theorem endM_zero {bs : List UInt8} {st : RSt} {x : Ms} (hs : st.ok bs) (h : (endM bs st x).2.1 = 0) : (endM bs st x).2 = (0, 0) := by
  unfold endM at h ⊢
  split at h
  · rename_i hc; rw [if_pos hc]
  · rename_i hc; exact absurd (endS_zero hs h) hc
theorem decM_zero {bs : List UInt8} (h : (decM bs).2.1 = 0) : (decM bs).2 = (0, 0) := by
  have s1 : (rd (numS bs) 0 ⟨0, 0, 0⟩).2.ok bs := rd_st numS_ends (st0_ok bs)
  have s2 := rd_st (zero := 0) numS_ends s1
  have s3 := rd_st (zero := 0) numS_ends s2
  have s4 := rd_st (zero := []) (bytesS_ends (most := 65536)) s2
  unfold decM at h ⊢
  simp only at h ⊢
  by_cases h0 : 65536 < bs.length
  · rw [if_pos h0] at h; cases h
  rw [if_neg h0] at h ⊢
  by_cases h1 : (rd (numS bs) 0 ⟨0, 0, 0⟩).2.e = 0
  case neg => rw [if_neg h1] at h; exact absurd h h1
  rw [if_pos h1] at h ⊢
  by_cases h2 : (rd (numS bs) 0 ⟨0, 0, 0⟩).1 = 1 ∨ (rd (numS bs) 0 ⟨0, 0, 0⟩).1 = 2
  case neg => rw [if_neg h2] at h; cases h
  rw [if_pos h2] at h ⊢
  by_cases h3 : (rd (numS bs) 0 (rd (numS bs) 0 ⟨0, 0, 0⟩).2).2.e = 0
  case neg => rw [if_neg h3] at h; exact absurd h h3
  rw [if_pos h3] at h ⊢
  by_cases h4 : numM ((rd (numS bs) 0 (rd (numS bs) 0 ⟨0, 0, 0⟩).2).1 : Nat)
  case neg => rw [if_neg h4] at h; cases h
  rw [if_pos h4] at h ⊢
  by_cases h5 : (rd (numS bs) 0 ⟨0, 0, 0⟩).1 = 1
  · rw [if_pos h5] at h ⊢
    by_cases h6 : (rd (numS bs) 0 (rd (numS bs) 0 (rd (numS bs) 0 ⟨0, 0, 0⟩).2).2).2.e = 0
    case neg => rw [if_neg h6] at h; exact absurd h h6
    rw [if_pos h6] at h ⊢
    by_cases h7 : heiM ((rd (numS bs) 0 (rd (numS bs) 0 (rd (numS bs) 0 ⟨0, 0, 0⟩).2).2).1 : Nat)
    case neg => rw [if_neg h7] at h; cases h
    rw [if_pos h7] at h ⊢
    exact endM_zero s3 h
  · rw [if_neg h5] at h ⊢
    by_cases h6 : (rd (bytesS bs 65536) [] (rd (numS bs) 0 (rd (numS bs) 0 ⟨0, 0, 0⟩).2).2).2.e = 0
    case neg => rw [if_neg h6] at h; exact absurd h h6
    rw [if_pos h6] at h ⊢
    by_cases h7 : (decB (rd (bytesS bs 65536) [] (rd (numS bs) 0 (rd (numS bs) 0 ⟨0, 0, 0⟩).2).2).1).2 = (0, 0)
    case neg => rw [if_neg h7] at h; cases h
    rw [if_pos h7] at h ⊢
    exact endM_zero s4 h
theorem told_back {x : Ms} {w : List UInt8} (ht : Told x w) {m : List UInt8} (hl : (w ++ m).length ≤ 65536) : decM (w ++ m) = if m = [] then (x, (0, 0)) else (zMs, (4, (w.length : Int))) := by
  have fin : ∀ {st : RSt} {y : Ms}, st = ⟨w.length, 0, 0⟩ → endM (w ++ m) st y = if m = [] then (y, (0, 0)) else (zMs, (4, (w.length : Int))) := by
    intro st y hst
    subst hst
    unfold endM
    by_cases h0 : m = []
    · subst h0
      have hE : endS (w ++ []) ⟨w.length, 0, 0⟩ = (0, 0) := by
        unfold endS
        rw [if_neg (by simp)]
      rw [hE]; simp
    · have hp : 0 < m.length := List.length_pos_iff.2 h0
      have hE : endS (w ++ m) ⟨w.length, 0, 0⟩ = (4, (w.length : Int)) := by
        unfold endS
        rw [if_pos ⟨rfl, by rw [List.length_append]; simp only; omega⟩]
      have hn : ((4 : Int), (w.length : Int)) ≠ (0, 0) := fun h => by cases (Prod.mk.inj h).1
      rw [hE, if_neg hn, if_neg h0]
  rcases ht with ⟨n, ht, rfl, hn, hh, rfl⟩ | ⟨n, b, rfl, hn, hb, rfl⟩
  · have a1 := numS_back (a := []) (b := numF n.toNat ++ (numF ht.toNat ++ m)) (n := 1) (by omega)
    have a2 := numS_back (a := numF 1) (b := numF ht.toNat ++ m) (n := n.toNat) (by unfold numM at hn; omega)
    have a3 := numS_back (a := numF 1 ++ numF n.toNat) (b := m) (n := ht.toNat) (by unfold heiM at hh; omega)
    have eall : askF n ht ++ m = numF 1 ++ (numF n.toNat ++ (numF ht.toNat ++ m)) := by unfold askF; simp only [List.append_assoc]
    simp only [List.nil_append, List.length_nil, Nat.zero_add] at a1
    rw [← eall] at a1 a2
    rw [List.append_assoc, ← eall, List.length_append] at a3
    have c1 : ((n.toNat : Nat) : Int) = n := by unfold numM at hn; omega
    have c2 : ((ht.toNat : Nat) : Int) = ht := by unfold heiM at hh; omega
    unfold decM
    simp only
    rw [if_neg (by omega), rd_step a1]
    simp only
    rw [if_pos trivial, if_pos (.inl trivial), rd_step a2]
    simp only
    rw [if_pos trivial, c1, if_pos hn, if_pos trivial, rd_step a3]
    simp only
    rw [if_pos trivial, c2, if_pos hh]
    exact fin (by unfold askF; simp only [List.length_append])
  · have pz := partsB_ok hb.parts
    have pH := partF_len (encS_lenB hb.h pz.1) (by omega)
    have pC := partF_len (encC_len hb.hash pz.2.2) (by omega)
    have pV := partF_len (encV_len pz.2.1) (by omega)
    have lB : (encB b).length ≤ 2300 := by unfold encB; simp only [List.length_append]; omega
    have a1 := numS_back (a := []) (b := numF n.toNat ++ (partF (encB b) ++ m)) (n := 2) (by omega)
    have a2 := numS_back (a := numF 2) (b := partF (encB b) ++ m) (n := n.toNat) (by unfold numM at hn; omega)
    have a3 := rd_bytes_back (a := numF 2 ++ numF n.toNat) (b := m) (l := encB b) (by omega)
    have eall : ansF n b ++ m = numF 2 ++ (numF n.toNat ++ (partF (encB b) ++ m)) := by unfold ansF; simp only [List.append_assoc]
    simp only [List.nil_append, List.length_nil, Nat.zero_add] at a1
    rw [← eall] at a1 a2
    rw [List.append_assoc, ← eall] at a3
    have c1 : ((n.toNat : Nat) : Int) = n := by unfold numM at hn; omega
    have hd := decB_back hb []
    rw [List.append_nil, if_pos rfl] at hd
    unfold decM
    simp only
    rw [if_neg (by omega), rd_step a1]
    simp only
    rw [if_pos trivial, if_pos (.inr trivial), rd_step a2]
    simp only
    rw [List.length_append] at a3
    rw [if_pos trivial, c1, if_pos hn, if_neg (by omega), a3]
    simp only
    rw [if_pos trivial, hd]
    simp only
    rw [if_pos trivial]
    exact fin (by unfold ansF; simp only [List.length_append])
theorem told_cut {x : Ms} {w : List UInt8} (ht : Told x w) (hl : w.length ≤ 65536) {c : Nat} (hc : c < w.length) : (decM (w.take c)).2 ≠ (0, 0) := by
  intro h
  have h1 := decM_good h
  have h2 := told_back h1 (m := w.drop c) (by rw [List.take_append_drop]; exact hl)
  have h3 := told_back ht (m := []) (by rw [List.append_nil]; exact hl)
  rw [List.take_append_drop, if_neg] at h2
  · rw [List.append_nil, if_pos rfl, h2] at h3
    injection h3 with _ h3
    injection h3 with h3 _
    cases h3
  · intro he
    have := congrArg List.length he
    rw [List.length_drop] at this
    simp at this
    omega
end Go.Proofs.YtninaabbojcdpaaGreat.A

namespace Go.Proofs.YtninaabbojcdpaaGreat.A
open Go Go.Vm
set_option maxRecDepth 10000
set_option linter.unusedVariables false
theorem laid2 {h : Heap} {z z' c c' : List Value} {b : Nat} (hb : b = h.n + 1) :
    Fr (fun _ => False) h ((((h.push (.cells z 0)).push (.cells z' 0)).set h.n (.cells c 0)).set b (.cells c' 0)) ∧ HGet ((((h.push (.cells z 0)).push (.cells z' 0)).set h.n (.cells c 0)).set b (.cells c' 0)) h.n (.cells c 0) ∧ HGet ((((h.push (.cells z 0)).push (.cells z' 0)).set h.n (.cells c 0)).set b (.cells c' 0)) b (.cells c' 0) ∧ ((((h.push (.cells z 0)).push (.cells z' 0)).set h.n (.cells c 0)).set b (.cells c' 0)).n = h.n + 2 :=
  ⟨Fr.set (Fr.set Fr.refl.push.push fun hlt => by omega) fun hlt => by omega, ⟨by rw [Heap.get_set, if_neg (by omega), Heap.get_set, if_pos rfl]⟩, ⟨by rw [Heap.get_set, if_pos rfl]⟩, by simp⟩
end Go.Proofs.YtninaabbojcdpaaGreat.A

namespace Go.Proofs.YtninaabbojcdpaaGreat.A
open Go Go.Vm
set_option maxRecDepth 10000
set_option linter.unusedVariables false
theorem fits_bytes {h : Heap} {m : Nat} {te : TypeId} {c : List Value} {len : Nat} (hu : Tryz.prog.underlying te = some (.int .u8)) (hs : Tryz.prog.cellsOf te = 1) (hl : c.length = len * Tryz.prog.cellsOf te) (hall : ∀ i, i < len → Fits Tryz.prog h (m + 1) te ((c.drop (i * Tryz.prog.cellsOf te)).take (Tryz.prog.cellsOf te))) : ∃ bs : List UInt8, c = bcells bs ∧ bs.length = len := by
  rw [hs, Nat.mul_one] at hl
  induction c generalizing len with
  | nil => exact ⟨[], rfl, by simpa using hl⟩
  | cons v c ih =>
    cases len with
    | zero => simp at hl
    | succ len =>
      have h0 := hall 0 (by omega)
      rw [hs] at h0
      unfold Fits at h0
      rw [hu] at h0
      simp only [Nat.zero_mul, List.drop_zero, List.take_succ_cons, List.take_zero] at h0
      obtain ⟨x, hx, hwf⟩ := h0
      injection hx with hx _
      obtain ⟨bs, rfl, hb⟩ := ih (len := len) (by simpa using hl) fun i hi => by
        have := hall (i + 1) (by omega)
        rw [hs] at this ⊢
        simpa using this
      have hr : 0 ≤ x ∧ x ≤ 255 := by
        simp [Lit.wf, IntKind.min, IntKind.max, IntKind.signed, IntKind.bits] at hwf
        omega
      refine ⟨UInt8.ofNat x.toNat :: bs, ?_, by simp [hb]⟩
      rw [hx]
      show Value.int .u8 x :: bcells bs = Value.int .u8 ((UInt8.ofNat x.toNat).toNat : Nat) :: bcells bs
      rw [u8nat (by omega)]
      congr 2
      omega
end Go.Proofs.YtninaabbojcdpaaGreat.A

namespace Go.Proofs.YtninaabbojcdpaaGreat.A
open Go Go.Vm
set_option maxRecDepth 10000
set_option linter.unusedVariables false
theorem zBk_ok : zBk.ok := ⟨zeroHd_ok, rfl, by simp, by simp⟩
theorem endM_ok {bs : List UInt8} {st : RSt} {x : Ms} (hx : x.b.ok) : (endM bs st x).1.b.ok := by
  unfold endM
  split
  · exact hx
  · exact zBk_ok
theorem decM_ok (bs : List UInt8) : (decM bs).1.b.ok := by
  unfold decM
  simp only
  split
  · exact zBk_ok
  split
  · split
    · split
      · split
        · split
          · split
            · split
              · exact endM_ok zBk_ok
              · exact zBk_ok
            · exact zBk_ok
          · split
            · split
              · exact endM_ok (decB_ok _)
              · exact zBk_ok
            · exact zBk_ok
        · exact zBk_ok
      · exact zBk_ok
    · exact zBk_ok
  · exact zBk_ok
end Go.Proofs.YtninaabbojcdpaaGreat.A

namespace Go.Proofs.YtninaabbojcdpaaGreat.A
open Go Go.Vm
set_option maxRecDepth 10000
set_option linter.unusedVariables false
set_option linter.unusedSimpArgs false
theorem told_len {x : Ms} {w : List UInt8} (ht : Told x w) : 1 ≤ w.length ∧ w.length ≤ 4000 := by
  rcases ht with ⟨n, ht, rfl, hn, hh, rfl⟩ | ⟨n, b, rfl, hn, hb, rfl⟩
  · unfold numM at hn
    unfold heiM at hh
    have l1 := numF_len (n := 1) (by omega)
    have p1 : 1 ≤ (numF 1).length := by simp [numF]
    have l2 := numF_len (n := n.toNat) (by omega)
    have l3 := numF_len (n := ht.toNat) (by omega)
    unfold askF
    simp only [List.length_append]
    omega
  · unfold numM at hn
    obtain ⟨z1, z2, z3⟩ := partsB_ok hb.parts
    have pH := partF_len (encS_lenB hb.h z1) (by omega)
    have pC := partF_len (encC_len hb.hash z3) (by omega)
    have pV := partF_len (encV_len z2) (by omega)
    have lB : (encB b).length ≤ 2300 := by unfold encB; simp only [List.length_append]; omega
    have pB := partF_len lB (by omega)
    have l1 := numF_len (n := 2) (by omega)
    have p1 : 1 ≤ (numF 2).length := by simp [numF]
    have l2 := numF_len (n := n.toNat) (by omega)
    unfold ansF
    simp only [List.length_append]
    omega
theorem decM_self {x : Ms} {w : List UInt8} (ht : Told x w) : decM w = (x, (0, 0)) := by
  have h0 := told_back ht (m := []) (by rw [List.append_nil]; have := told_len ht; omega)
  rwa [List.append_nil, if_pos rfl] at h0
theorem told_ok {x : Ms} {w : List UInt8} (ht : Told x w) : x.b.ok := by
  have h0 := decM_ok w
  rwa [decM_self ht] at h0
set_option maxHeartbeats 16000000 in
theorem through_ok {h : Heap} {w sv sl : Value} {x : Ms} {bs : List UInt8} {cut : Int} (ho : Own h 1 w (bcells bs) bs.length) (ht : Told x bs) (hv : Rd h 2 sv (tcells x.b.c.votes) x.b.c.votes.length) (hl : Rd h 5 sl (vcells x.b.vals) x.b.vals.length) :
    Runs Tryz.prog T0 (.fn fn_zsbQ) [w, .agg ⟨x.cells sv sl⟩, .int .i64 cut] h (fun r h' => r = .bool true ∧ Fr (fun _ => False) h h') (fun _ _ => False) := by
  have hok := told_ok ht
  have hlen := told_len ht
  obtain ⟨aw, cw, rfl, _, _⟩ := id ho.rd
  obtain ⟨av, cv, rfl, _, _⟩ := id hv
  obtain ⟨al, cl, rfl, _, _⟩ := id hl
  haveI := l32 hok.h.prev
  haveI := l32 hok.h.vals
  haveI := l32 hok.h.next
  haveI := l32 hok.h.app
  haveI := l32 hok.hash
  refine zsbQ_runs ?_
  refine stp ?_
  have gW : HGet (h.push (.cells (x.cells (.slice av x.b.c.votes.length cv) (.slice al x.b.vals.length cl)) 0)) h.n (.cells (x.cells (.slice av x.b.c.votes.length cv) (.slice al x.b.vals.length cl)) 0) := HGet.new
  have f01 : Fr (fun _ => False) h (h.push (.cells (x.cells (.slice av x.b.c.votes.length cv) (.slice al x.b.vals.length cl)) 0)) := Fr.refl.push
  have n1 : (h.push (.cells (x.cells (.slice av x.b.c.votes.length cv) (.slice al x.b.vals.length cl)) 0)).n = h.n + 1 := rfl
  generalize h.push (.cells (x.cells (.slice av x.b.c.votes.length cv) (.slice al x.b.vals.length cl)) 0) = h1 at *
  refine C.if (fun h0 => absurd h0 (by omega)) (fun h0 => ?_)
  refine stp ?_
  have kD := MDecode_ok (h := h1) (bs := bs) (ho.keep f01 fun _ _ => id).rd (by omega)
  rw [decM_self ht] at kD
  refine O.call' kD (fun r h2 hr => ?_)
  obtain ⟨s2, t2, rfl, hO2, hf2⟩ := hr
  replace hO2 : BkOwn h2 h1.n x.b s2 t2 := hO2
  have n2 := hf2.n
  obtain ⟨a2, c2, rfl, _, _⟩ := id hO2.votes.rd
  obtain ⟨a3, c3, rfl, _, _⟩ := id hO2.vals.rd
  refine stp ?_
  generalize hb5 : (h2.push (.cells zMc 0)).n = b5
  have hb5' : b5 = h2.n + 1 := by rw [← hb5]; rfl
  clear hb5
  obtain ⟨hf23, hA3, hB3, n3⟩ := laid2 (h := h2) (z := zMc) (z' := [.int .i64 0, .int .i64 0]) (c := x.cells (.slice a2 x.b.c.votes.length c2) (.slice a3 x.b.vals.length c3)) (c' := [.int .i64 0, .int .i64 0]) hb5'
  generalize ((((h2.push (.cells zMc 0)).push (.cells [.int .i64 0, .int .i64 0] 0)).set h2.n (.cells (x.cells (.slice a2 x.b.c.votes.length c2) (.slice a3 x.b.vals.length c3)) 0)).set b5 (.cells [.int .i64 0, .int .i64 0] 0)) = h3 at *
  have f13 := hf2.trans' hf23
  have f03 := f01.trans' f13
  have gW3 := f13.keep gW (by omega) id
  have hO3 := hO2.keep hf23 fun i h => h.elim
  refine stp ?_
  refine O.call' (Pick_ok (x := cut) (n := (bs.length : Int)) (by omega)) (fun r h3b hr => ?_)
  obtain ⟨rfl, rfl⟩ := hr
  have hp0 : 0 ≤ pickS cut bs.length ∧ pickS cut bs.length < bs.length := by
    unfold pickS
    rw [if_neg (by omega)]
    exact ⟨Int.emod_nonneg _ (by omega), Int.emod_lt_of_pos _ (by omega)⟩
  generalize pickS cut bs.length = j at hp0 ⊢
  refine O.sliceTo j.toNat (ho.keep f03 fun _ _ => id) (by omega) (by omega) (fun v' hbl hrd => ?_)
  rw [Nat.mul_one, bcells_take] at hrd
  have htl : (bs.take j.toNat).length = j.toNat := by rw [List.length_take]; omega
  refine O.call' (MDecode_ok (bs := bs.take j.toNat) (by rw [htl]; exact hrd) (by omega)) (fun r h4 hr => ?_)
  obtain ⟨s4, t4, rfl, hO4, hf4⟩ := hr
  have n4 := hf4.n
  have hcut := told_cut ht (by omega) (c := j.toNat) (by omega)
  have hz := decM_zero (bs := bs.take j.toNat)
  have hokc := decM_ok (bs.take j.toNat)
  generalize decM (bs.take j.toNat) = D4 at hcut hz hokc hO4 ⊢
  obtain ⟨y, e4, q4⟩ := D4
  simp only at hcut hz hokc hO4 ⊢
  have he4 : ¬ e4 = 0 := fun h => hcut (hz h)
  obtain ⟨a4, c4, rfl, _, _⟩ := id hO4.votes.rd
  obtain ⟨a5, c5, rfl, _, _⟩ := id hO4.vals.rd
  haveI := l32 hokc.h.prev
  haveI := l32 hokc.h.vals
  haveI := l32 hokc.h.next
  haveI := l32 hokc.h.app
  haveI := l32 hokc.hash
  refine stp ?_
  generalize hb7 : (h4.push (.cells zMc 0)).n = b7
  have hb7' : b7 = h4.n + 1 := by rw [← hb7]; rfl
  clear hb7
  obtain ⟨hf45, hA5, hB5, n5⟩ := laid2 (h := h4) (z := zMc) (z' := [.int .i64 0, .int .i64 0]) (c := y.cells (.slice a4 y.b.c.votes.length c4) (.slice a5 y.b.vals.length c5)) (c' := [.int .i64 e4, .int .i64 q4]) hb7'
  generalize ((((h4.push (.cells zMc 0)).push (.cells [.int .i64 0, .int .i64 0] 0)).set h4.n (.cells (y.cells (.slice a4 y.b.c.votes.length c4) (.slice a5 y.b.vals.length c5)) 0)).set b7 (.cells [.int .i64 e4, .int .i64 q4] 0)) = h5 at *
  have f35 := hf4.trans' hf45
  have f05 := f03.trans' f35
  have ho5 := ho.keep f05 fun _ _ => id
  refine stp ?_
  refine O.call' (CopyBytes_ok ho5.rd (by omega)) (fun r h6 hr => ?_)
  obtain ⟨hy6, hyn6, hf6⟩ := hr
  have n6 := hf6.n
  refine stp ?_
  have f67 : Fr (fun _ => False) h6 (h6.push (.cells [.int .u8 0] 0)) := Fr.refl.push
  have hlit : newCells (h6.push (.cells [.int .u8 0] 0)) 1 [.int .u8 0] false (.slice (some ⟨h6.n, 0, none⟩) 1 1) = some (1, [.int .u8 0]) := (rd_lit rfl).new [.int .u8 0]
  have n7 : (h6.push (.cells [.int .u8 0] 0)).n = h6.n + 1 := rfl
  refine O.append (hy6.keep f67 fun _ _ => id) hlit rfl rfl (by omega) (by omega) (by omega) (fun v8 h8 ho8 hf8 hn8 => ?_)
  have hb1 : bcells bs ++ [.int .u8 0] = bcells (bs ++ [0]) := by rw [bcells_append]; rfl
  rw [hb1] at ho8
  have hl1 : (bs ++ [0]).length = bs.length + 1 := by simp
  have n8 := hf8.n
  have f58 : Fr (fun i => h5.n ≤ i) h5 h8 := ((hf6.trans' f67).mono fun _ _ h => h.elim).trans' (hf8.mono fun i _ hi => by have := hyn6 i hi; omega)
  have kJ := MDecode_ok (h := h8) (bs := bs ++ [0]) (by rw [hl1]; exact ho8.rd) (by omega)
  rw [told_back ht (m := [0]) (by rw [hl1]; omega), if_neg (by simp)] at kJ
  have hokZ : zMs.b.ok := zBk_ok
  generalize zMs = Z at kJ hokZ
  haveI := l32 hokZ.h.prev
  haveI := l32 hokZ.h.vals
  haveI := l32 hokZ.h.next
  haveI := l32 hokZ.h.app
  haveI := l32 hokZ.hash
  refine O.call' kJ (fun r h9 hr => ?_)
  obtain ⟨s9, t9, rfl, hO9, hf9⟩ := hr
  replace hO9 : BkOwn h9 h8.n Z.b s9 t9 := hO9
  obtain ⟨a9, c9, rfl, _, _⟩ := id hO9.votes.rd
  obtain ⟨a10, c10, rfl, _, _⟩ := id hO9.vals.rd
  have n9 := hf9.n
  refine stp ?_
  generalize hb11 : (h9.push (.cells zMc 0)).n = b11
  have hb11' : b11 = h9.n + 1 := by rw [← hb11]; rfl
  clear hb11
  obtain ⟨hf910, hA10, hB10, n10⟩ := laid2 (h := h9) (z := zMc) (z' := [.int .i64 0, .int .i64 0]) (c := Z.cells (.slice a9 Z.b.c.votes.length c9) (.slice a10 Z.b.vals.length c10)) (c' := [.int .i64 4, .int .i64 bs.length]) hb11'
  simp only
  generalize ((((h9.push (.cells zMc 0)).push (.cells [.int .i64 0, .int .i64 0] 0)).set h9.n (.cells (Z.cells (.slice a9 Z.b.c.votes.length c9) (.slice a10 Z.b.vals.length c10)) 0)).set b11 (.cells [.int .i64 4, .int .i64 bs.length] 0)) = h10 at *
  have f510 : Fr (fun i => h5.n ≤ i) h5 h10 := f58.trans' ((hf9.trans' hf910).mono fun _ _ h => h.elim)
  have f310 : Fr (fun i => h5.n ≤ i) h3b h10 := (f35.mono fun _ _ h => h.elim).trans' f510
  have f110 : Fr (fun i => h5.n ≤ i) h1 h10 := (f13.mono fun _ _ h => h.elim).trans' f310
  have F : Fr (fun _ => False) h h10 := f05.trans f510 fun i hi e => by have := f05.n; omega
  have gW10 := f110.keep gW (by omega) (by omega)
  have gA10 := f310.keep hA3 (by omega) (by omega)
  have gB10 := f310.keep hB3 (by omega) (by omega)
  have gC10 := f510.keep hA5 (by omega) (by omega)
  have gD10 := f510.keep hB5 (by omega) (by omega)
  have hO10 := hO3.keep f310 fun i hi => .inr (by have := f35.n; omega)
  haveI := gW10
  haveI := gA10
  haveI := gB10
  haveI := gC10
  haveI := gD10
  haveI := hA10
  haveI := hB10
  refine stp ?_
  try rw [same_self]
  try refine stp ?_
  refine O.callT (SameMsg_same hok hO10.votes.rd hO10.vals.rd (hv.keep F fun _ _ => id) (hl.keep F fun _ _ => id)) (fun r h11 hr => ?_)
  obtain ⟨rfl, hf11⟩ := hr
  have n11 := hf11.n
  have gB11 := hf11.keep gB10 (by omega) id
  have gC11 := hf11.keep gC10 (by omega) id
  have gD11 := hf11.keep gD10 (by omega) id
  have gE11 := hf11.keep hB10 (by omega) id
  haveI := gB11
  haveI := gC11
  haveI := gD11
  haveI := gE11
  refine stp ?_
  refine O.decN (fun he => ?_) (fun he => absurd he he4)
  refine stp ?_
  rw [same_self]
  try simp only [eq_self, decide_true, Bool.not_true, Bool.false_eq_true, if_false, if_true, reduceIte]
  try refine stp ?_
  exact ⟨by first | rfl | trivial, F.trans' hf11⟩
end Go.Proofs.YtninaabbojcdpaaGreat.A

namespace Go.Proofs.YtninaabbojcdpaaGreat.A
open Go Go.Vm
set_option maxRecDepth 10000
set_option linter.unusedVariables false
set_option linter.unusedSimpArgs false
theorem idOK_of {n : Int} (h : numM n) : idOK n = true := by unfold numM at h; simpa using h
theorem htOK_of {n : Int} (h : heiM n) : htOK n = true := by unfold heiM at h; simpa using h
theorem askE_of {n ht : Int} (h1 : numM n) (h2 : heiM ht) : askE n ht = 0 := by unfold askE; rw [idOK_of h1, htOK_of h2]; rfl
theorem ansE_of {n : Int} {x : Bk} (h1 : numM n) (h2 : partsB x = 0) : ansE n x = 0 := by unfold ansE; rw [idOK_of h1, if_pos rfl, h2]
theorem askE_not {n ht : Int} (h : ¬ ((1 ≤ n ∧ n ≤ 1099511627776) ∧ (1 ≤ ht ∧ ht ≤ 1073741824))) : askE n ht = 3 := by
  unfold askE
  split
  · rename_i hb
    rw [Bool.and_eq_true] at hb
    exact absurd ⟨idOK_ok hb.1, htOK_ok hb.2⟩ h
  · rfl
theorem ansE_not {n : Int} {x : Bk} (h : ¬ ((1 ≤ n ∧ n ≤ 1099511627776) ∧ partsB x = 0)) : ¬ ansE n x = 0 := by
  unfold ansE
  split
  · rename_i hb
    exact fun e => h ⟨idOK_ok hb, e⟩
  · decide
set_option maxHeartbeats 64000000 in
theorem MsgBack_true {h : Heap} {n ht m cut : Int} {x : Bk} {sv sl : Value} (hb : BkRd h x sv sl) (hs : ∀ v ∈ x.c.votes, v.sig < 18446744073709551616) :
    Runs Tryz.prog T0 (.fn fn_zmbQ) [.agg ⟨[.int .i64 n, .int .i64 ht]⟩, .int .i64 m, .agg ⟨x.cells sv sl⟩, .int .i64 cut] h (fun r h' => r = .bool true) (fun _ _ => False) := by
  have hx := hb.hd
  have hch := hb.hash
  haveI := l32 hx.prev
  haveI := l32 hx.vals
  haveI := l32 hx.next
  haveI := l32 hx.app
  haveI := l32 hch
  obtain ⟨a1, c1, rfl, _, _⟩ := id hb.sv
  obtain ⟨a2, c2, rfl, _, _⟩ := id hb.sl
  refine zmbQ_runs ?_
  refine stp ?_
  have n0 : ((h.push (.cells [.int .i64 n, .int .i64 ht] 0)).push (.cells (x.cells (.slice a1 x.c.votes.length c1) (.slice a2 x.vals.length c2)) 0)).n = h.n + 2 := rfl
  have nb : (h.push (.cells [.int .i64 n, .int .i64 ht] 0)).n = h.n + 1 := rfl
  have gA : HGet ((h.push (.cells [.int .i64 n, .int .i64 ht] 0)).push (.cells (x.cells (.slice a1 x.c.votes.length c1) (.slice a2 x.vals.length c2)) 0)) h.n (.cells [.int .i64 n, .int .i64 ht] 0) := HGet.push (k := BLt.new) (g := HGet.new)
  have gB : HGet ((h.push (.cells [.int .i64 n, .int .i64 ht] 0)).push (.cells (x.cells (.slice a1 x.c.votes.length c1) (.slice a2 x.vals.length c2)) 0)) (h.push (.cells [.int .i64 n, .int .i64 ht] 0)).n (.cells (x.cells (.slice a1 x.c.votes.length c1) (.slice a2 x.vals.length c2)) 0) := HGet.new
  have f0 : Fr (fun _ => False) h ((h.push (.cells [.int .i64 n, .int .i64 ht] 0)).push (.cells (x.cells (.slice a1 x.c.votes.length c1) (.slice a2 x.vals.length c2)) 0)) := Fr.refl.push.push
  generalize (h.push (.cells [.int .i64 n, .int .i64 ht] 0)).push (.cells (x.cells (.slice a1 x.c.votes.length c1) (.slice a2 x.vals.length c2)) 0) = h0 at *
  generalize (h.push (.cells [.int .i64 n, .int .i64 ht] 0)).n = pb at *
  refine O.call' znbQ_known (fun r h0' hr => ?_)
  obtain ⟨rfl, rfl⟩ := hr
  haveI := gB
  refine stp ?_
  refine O.call' (LongBlock_ok (hb.keep f0 fun _ _ => id)) (fun r h1 hr => ?_)
  obtain ⟨⟨b, rfl, hlong⟩, hf1⟩ := hr
  have F1 := f0.trans' hf1
  have n1 := hf1.n
  have gA1 := hf1.keep gA (by omega) id
  have gB1 := hf1.keep gB (by omega) id
  haveI := gA1
  haveI := gB1
  cases b with
  | true =>
    refine stp ?_
    rfl
  | false =>
  obtain ⟨y1, y2, y3⟩ := hlong rfl
  refine stp ?_
  refine O.call' Ask_ok (fun r h2 hr => ?_)
  obtain ⟨u, rfl, hu, hnu, hf2⟩ := hr
  have F2 := F1.trans' hf2
  have n2 := hf2.n
  have gA2 := hf2.keep gA1 (by omega) (fun e => e)
  have gB2 := hf2.keep gB1 (by omega) (fun e => e)
  haveI := gA2
  haveI := gB2
  refine stp ?_
  refine O.call' (Answer_ok (hb.keep F2 fun _ _ => id)) (fun r h3 hr => ?_)
  obtain ⟨w, rfl, hw, hnw, hf3⟩ := hr
  have F3 := F2.trans' hf3
  have n3 := hf3.n
  have gA3 := hf3.keep gA2 (by omega) (fun e => e)
  have gB3 := hf3.keep gB2 (by omega) (fun e => e)
  haveI := gA3
  haveI := gB3
  refine stp ?_
  refine O.call' (BEncode_ok (hb.keep F3 fun _ _ => id)) (fun r h4 hr => ?_)
  obtain ⟨z, rfl, _, _, hf4⟩ := hr
  have F4 := F3.trans' hf4
  have n4 := hf4.n
  have gA4 := hf4.keep gA3 (by omega) (fun e => e)
  have gB4 := hf4.keep gB3 (by omega) (fun e => e)
  have hu4 := (hu.keep hf3 fun _ _ => id).keep hf4 fun _ _ => id
  have hw4 := hw.keep hf4 fun _ _ => id
  haveI := gA4
  haveI := gB4
  refine stp ?_
  by_cases hB : (1 ≤ m ∧ m ≤ 1099511627776) ∧ partsB x = 0
  · have kB : ansE m x = 0 := ansE_of hB.1 hB.2
    rw [kB, if_pos rfl] at hw4
    rw [kB, hB.2]
    by_cases hA : (1 ≤ n ∧ n ≤ 1099511627776) ∧ (1 ≤ ht ∧ ht ≤ 1073741824)
    · have kA : askE n ht = 0 := askE_of hA.1 hA.2
      rw [kA, if_pos rfl] at hu4
      rw [kA]
      refine O.dec (fun d1 => ?_) (fun d1 => absurd hA.1.1 d1)
      refine stp ?_
      refine O.dec (fun d2 => ?_) (fun d2 => absurd hA.1.2 d2)
      refine stp ?_
      refine O.dec (fun d3 => ?_) (fun d3 => absurd hA.2.1 d3)
      refine stp ?_
      rw [show (!(decide ((0 : Int) = 0) == decide (ht ≤ 1073741824))) = false from by rw [decide_eq_true hA.2.2]; rfl]
      refine stp ?_
      refine O.dec (fun d4 => ?_) (fun d4 => absurd hB.1.1 d4)
      refine stp ?_
      refine O.dec (fun d5 => ?_) (fun d5 => absurd hB.1.2 d5)
      refine stp ?_
      try simp only [eq_self, decide_true, decide_false, beq_self_eq_true, Bool.not_true, Bool.not_false, Bool.false_eq_true, if_false, if_true, reduceIte]
      try refine stp ?_
      try simp only [eq_self, decide_true, decide_false, beq_self_eq_true, Bool.not_true, Bool.not_false, Bool.false_eq_true, if_false, if_true, reduceIte]
      try refine stp ?_
      refine O.callT (through_ok (x := ⟨1, n, ht, 0, zBk⟩) hu4 (.inl ⟨n, ht, rfl, hA.1, hA.2, rfl⟩) Rd.nil Rd.nil) (fun r h5 hr => ?_)
      obtain ⟨rfl, hf5⟩ := hr
      have gB5 := hf5.keep gB4 (by omega) (fun e => e)
      haveI := gB5
      refine stp ?_
      try simp only [eq_self, decide_true, decide_false, beq_self_eq_true, Bool.not_true, Bool.not_false, Bool.false_eq_true, if_false, if_true, reduceIte]
      try refine stp ?_
      try simp only [eq_self, decide_true, decide_false, beq_self_eq_true, Bool.not_true, Bool.not_false, Bool.false_eq_true, if_false, if_true, reduceIte]
      try refine stp ?_
      refine O.callT (through_ok (x := ⟨2, 0, 0, m, x⟩) (hw4.keep hf5 fun _ _ => id) (.inr ⟨m, x, rfl, hB.1, ⟨hx, hch, hB.2, hs⟩, rfl⟩) ((hb.keep F4 fun _ _ => id).sv.keep hf5 fun _ _ => id) ((hb.keep F4 fun _ _ => id).sl.keep hf5 fun _ _ => id)) (fun r h6 hr => ?_)
      obtain ⟨rfl, hf6⟩ := hr
      refine stp ?_
      try simp only [eq_self, decide_true, decide_false, beq_self_eq_true, Bool.not_true, Bool.not_false, Bool.false_eq_true, if_false, if_true, reduceIte]
      try refine stp ?_
      try rfl
    · have kA : askE n ht = 3 := askE_not hA
      rw [kA]
      refine O.dec (fun d1 => ?_) (fun d1 => ?_)
      · refine stp ?_
        refine O.dec (fun d2 => ?_) (fun d2 => ?_)
        · refine stp ?_
          refine O.dec (fun d3 => ?_) (fun d3 => ?_)
          · refine stp ?_
            rw [show (!(decide ((3 : Int) = 0) == decide (ht ≤ 1073741824))) = false from by rw [decide_eq_false fun d6 => hA ⟨⟨d1, d2⟩, d3, d6⟩]; rfl]
            refine stp ?_
            refine O.dec (fun d4 => ?_) (fun d4 => absurd hB.1.1 d4)
            refine stp ?_
            refine O.dec (fun d5 => ?_) (fun d5 => absurd hB.1.2 d5)
            refine stp ?_
            try simp only [eq_self, decide_true, decide_false, beq_self_eq_true, Bool.not_true, Bool.not_false, Bool.false_eq_true, if_false, if_true, reduceIte]
            try refine stp ?_
            try simp only [eq_self, decide_true, decide_false, beq_self_eq_true, Bool.not_true, Bool.not_false, Bool.false_eq_true, if_false, if_true, reduceIte]
            try refine stp ?_
            refine O.callT (through_ok (x := ⟨2, 0, 0, m, x⟩) hw4 (.inr ⟨m, x, rfl, hB.1, ⟨hx, hch, hB.2, hs⟩, rfl⟩) (hb.keep F4 fun _ _ => id).sv (hb.keep F4 fun _ _ => id).sl) (fun r h6 hr => ?_)
            obtain ⟨rfl, hf6⟩ := hr
            refine stp ?_
            try simp only [eq_self, decide_true, decide_false, beq_self_eq_true, Bool.not_true, Bool.not_false, Bool.false_eq_true, if_false, if_true, reduceIte]
            try refine stp ?_
            try rfl
          · refine stp ?_
            rw [show (!(decide ((3 : Int) = 0) == false)) = false from rfl]
            refine stp ?_
            refine O.dec (fun d4 => ?_) (fun d4 => absurd hB.1.1 d4)
            refine stp ?_
            refine O.dec (fun d5 => ?_) (fun d5 => absurd hB.1.2 d5)
            refine stp ?_
            try simp only [eq_self, decide_true, decide_false, beq_self_eq_true, Bool.not_true, Bool.not_false, Bool.false_eq_true, if_false, if_true, reduceIte]
            try refine stp ?_
            try simp only [eq_self, decide_true, decide_false, beq_self_eq_true, Bool.not_true, Bool.not_false, Bool.false_eq_true, if_false, if_true, reduceIte]
            try refine stp ?_
            refine O.callT (through_ok (x := ⟨2, 0, 0, m, x⟩) hw4 (.inr ⟨m, x, rfl, hB.1, ⟨hx, hch, hB.2, hs⟩, rfl⟩) (hb.keep F4 fun _ _ => id).sv (hb.keep F4 fun _ _ => id).sl) (fun r h6 hr => ?_)
            obtain ⟨rfl, hf6⟩ := hr
            refine stp ?_
            try simp only [eq_self, decide_true, decide_false, beq_self_eq_true, Bool.not_true, Bool.not_false, Bool.false_eq_true, if_false, if_true, reduceIte]
            try refine stp ?_
            try rfl
        · refine stp ?_
          rw [show (!(decide ((3 : Int) = 0) == false)) = false from rfl]
          refine stp ?_
          refine O.dec (fun d4 => ?_) (fun d4 => absurd hB.1.1 d4)
          refine stp ?_
          refine O.dec (fun d5 => ?_) (fun d5 => absurd hB.1.2 d5)
          refine stp ?_
          try simp only [eq_self, decide_true, decide_false, beq_self_eq_true, Bool.not_true, Bool.not_false, Bool.false_eq_true, if_false, if_true, reduceIte]
          try refine stp ?_
          try simp only [eq_self, decide_true, decide_false, beq_self_eq_true, Bool.not_true, Bool.not_false, Bool.false_eq_true, if_false, if_true, reduceIte]
          try refine stp ?_
          refine O.callT (through_ok (x := ⟨2, 0, 0, m, x⟩) hw4 (.inr ⟨m, x, rfl, hB.1, ⟨hx, hch, hB.2, hs⟩, rfl⟩) (hb.keep F4 fun _ _ => id).sv (hb.keep F4 fun _ _ => id).sl) (fun r h6 hr => ?_)
          obtain ⟨rfl, hf6⟩ := hr
          refine stp ?_
          try simp only [eq_self, decide_true, decide_false, beq_self_eq_true, Bool.not_true, Bool.not_false, Bool.false_eq_true, if_false, if_true, reduceIte]
          try refine stp ?_
          try rfl
      · refine stp ?_
        rw [show (!(decide ((3 : Int) = 0) == false)) = false from rfl]
        refine stp ?_
        refine O.dec (fun d4 => ?_) (fun d4 => absurd hB.1.1 d4)
        refine stp ?_
        refine O.dec (fun d5 => ?_) (fun d5 => absurd hB.1.2 d5)
        refine stp ?_
        try simp only [eq_self, decide_true, decide_false, beq_self_eq_true, Bool.not_true, Bool.not_false, Bool.false_eq_true, if_false, if_true, reduceIte]
        try refine stp ?_
        try simp only [eq_self, decide_true, decide_false, beq_self_eq_true, Bool.not_true, Bool.not_false, Bool.false_eq_true, if_false, if_true, reduceIte]
        try refine stp ?_
        refine O.callT (through_ok (x := ⟨2, 0, 0, m, x⟩) hw4 (.inr ⟨m, x, rfl, hB.1, ⟨hx, hch, hB.2, hs⟩, rfl⟩) (hb.keep F4 fun _ _ => id).sv (hb.keep F4 fun _ _ => id).sl) (fun r h6 hr => ?_)
        obtain ⟨rfl, hf6⟩ := hr
        refine stp ?_
        try simp only [eq_self, decide_true, decide_false, beq_self_eq_true, Bool.not_true, Bool.not_false, Bool.false_eq_true, if_false, if_true, reduceIte]
        try refine stp ?_
        try rfl
  · have kE : decide (ansE m x = 0) = false := decide_eq_false (ansE_not hB)
    by_cases hA : (1 ≤ n ∧ n ≤ 1099511627776) ∧ (1 ≤ ht ∧ ht ≤ 1073741824)
    · have kA : askE n ht = 0 := askE_of hA.1 hA.2
      rw [kA, if_pos rfl] at hu4
      rw [kA]
      refine O.dec (fun d1 => ?_) (fun d1 => absurd hA.1.1 d1)
      refine stp ?_
      refine O.dec (fun d2 => ?_) (fun d2 => absurd hA.1.2 d2)
      refine stp ?_
      refine O.dec (fun d3 => ?_) (fun d3 => absurd hA.2.1 d3)
      refine stp ?_
      rw [show (!(decide ((0 : Int) = 0) == decide (ht ≤ 1073741824))) = false from by rw [decide_eq_true hA.2.2]; rfl]
      refine stp ?_
      refine O.dec (fun d4 => ?_) (fun d4 => ?_)
      · refine stp ?_
        refine O.dec (fun d5 => ?_) (fun d5 => ?_)
        · have kP : decide (partsB x = 0) = false := decide_eq_false fun e => hB ⟨⟨d4, d5⟩, e⟩
          refine stp ?_
          try simp only [kE, kP, eq_self, decide_true, decide_false, beq_self_eq_true, Bool.not_true, Bool.not_false, Bool.false_eq_true, if_false, if_true, reduceIte]
          try refine stp ?_
          try simp only [kE, kP, eq_self, decide_true, decide_false, beq_self_eq_true, Bool.not_true, Bool.not_false, Bool.false_eq_true, if_false, if_true, reduceIte]
          try refine stp ?_
          refine O.callT (through_ok (x := ⟨1, n, ht, 0, zBk⟩) hu4 (.inl ⟨n, ht, rfl, hA.1, hA.2, rfl⟩) Rd.nil Rd.nil) (fun r h5 hr => ?_)
          obtain ⟨rfl, hf5⟩ := hr
          have gB5 := hf5.keep gB4 (by omega) (fun e => e)
          haveI := gB5
          refine stp ?_
          try simp only [kE, kP, eq_self, decide_true, decide_false, beq_self_eq_true, Bool.not_true, Bool.not_false, Bool.false_eq_true, if_false, if_true, reduceIte]
          try refine stp ?_
          try simp only [kE, kP, eq_self, decide_true, decide_false, beq_self_eq_true, Bool.not_true, Bool.not_false, Bool.false_eq_true, if_false, if_true, reduceIte]
          try refine stp ?_
          try simp only [kE, kP, eq_self, decide_true, decide_false, beq_self_eq_true, Bool.not_true, Bool.not_false, Bool.false_eq_true, if_false, if_true, reduceIte]
          try refine stp ?_
          try simp only [kE, kP, eq_self, decide_true, decide_false, beq_self_eq_true, Bool.not_true, Bool.not_false, Bool.false_eq_true, if_false, if_true, reduceIte]
          try refine stp ?_
          try rfl
        · refine stp ?_
          try simp only [kE, eq_self, decide_true, decide_false, beq_self_eq_true, Bool.not_true, Bool.not_false, Bool.false_eq_true, if_false, if_true, reduceIte]
          try refine stp ?_
          try simp only [kE, eq_self, decide_true, decide_false, beq_self_eq_true, Bool.not_true, Bool.not_false, Bool.false_eq_true, if_false, if_true, reduceIte]
          try refine stp ?_
          refine O.callT (through_ok (x := ⟨1, n, ht, 0, zBk⟩) hu4 (.inl ⟨n, ht, rfl, hA.1, hA.2, rfl⟩) Rd.nil Rd.nil) (fun r h5 hr => ?_)
          obtain ⟨rfl, hf5⟩ := hr
          have gB5 := hf5.keep gB4 (by omega) (fun e => e)
          haveI := gB5
          refine stp ?_
          try simp only [kE, eq_self, decide_true, decide_false, beq_self_eq_true, Bool.not_true, Bool.not_false, Bool.false_eq_true, if_false, if_true, reduceIte]
          try refine stp ?_
          try simp only [kE, eq_self, decide_true, decide_false, beq_self_eq_true, Bool.not_true, Bool.not_false, Bool.false_eq_true, if_false, if_true, reduceIte]
          try refine stp ?_
          try simp only [kE, eq_self, decide_true, decide_false, beq_self_eq_true, Bool.not_true, Bool.not_false, Bool.false_eq_true, if_false, if_true, reduceIte]
          try refine stp ?_
          try simp only [kE, eq_self, decide_true, decide_false, beq_self_eq_true, Bool.not_true, Bool.not_false, Bool.false_eq_true, if_false, if_true, reduceIte]
          try refine stp ?_
          try rfl
      · refine stp ?_
        try simp only [kE, eq_self, decide_true, decide_false, beq_self_eq_true, Bool.not_true, Bool.not_false, Bool.false_eq_true, if_false, if_true, reduceIte]
        try refine stp ?_
        try simp only [kE, eq_self, decide_true, decide_false, beq_self_eq_true, Bool.not_true, Bool.not_false, Bool.false_eq_true, if_false, if_true, reduceIte]
        try refine stp ?_
        refine O.callT (through_ok (x := ⟨1, n, ht, 0, zBk⟩) hu4 (.inl ⟨n, ht, rfl, hA.1, hA.2, rfl⟩) Rd.nil Rd.nil) (fun r h5 hr => ?_)
        obtain ⟨rfl, hf5⟩ := hr
        have gB5 := hf5.keep gB4 (by omega) (fun e => e)
        haveI := gB5
        refine stp ?_
        try simp only [kE, eq_self, decide_true, decide_false, beq_self_eq_true, Bool.not_true, Bool.not_false, Bool.false_eq_true, if_false, if_true, reduceIte]
        try refine stp ?_
        try simp only [kE, eq_self, decide_true, decide_false, beq_self_eq_true, Bool.not_true, Bool.not_false, Bool.false_eq_true, if_false, if_true, reduceIte]
        try refine stp ?_
        try simp only [kE, eq_self, decide_true, decide_false, beq_self_eq_true, Bool.not_true, Bool.not_false, Bool.false_eq_true, if_false, if_true, reduceIte]
        try refine stp ?_
        try simp only [kE, eq_self, decide_true, decide_false, beq_self_eq_true, Bool.not_true, Bool.not_false, Bool.false_eq_true, if_false, if_true, reduceIte]
        try refine stp ?_
        try rfl
    · have kA : askE n ht = 3 := askE_not hA
      rw [kA]
      refine O.dec (fun d1 => ?_) (fun d1 => ?_)
      · refine stp ?_
        refine O.dec (fun d2 => ?_) (fun d2 => ?_)
        · refine stp ?_
          refine O.dec (fun d3 => ?_) (fun d3 => ?_)
          · refine stp ?_
            rw [show (!(decide ((3 : Int) = 0) == decide (ht ≤ 1073741824))) = false from by rw [decide_eq_false fun d6 => hA ⟨⟨d1, d2⟩, d3, d6⟩]; rfl]
            refine stp ?_
            refine O.dec (fun d4 => ?_) (fun d4 => ?_)
            · refine stp ?_
              refine O.dec (fun d5 => ?_) (fun d5 => ?_)
              · have kP : decide (partsB x = 0) = false := decide_eq_false fun e => hB ⟨⟨d4, d5⟩, e⟩
                refine stp ?_
                try simp only [kE, kP, eq_self, decide_true, decide_false, beq_self_eq_true, Bool.not_true, Bool.not_false, Bool.false_eq_true, if_false, if_true, reduceIte]
                try refine stp ?_
                try simp only [kE, kP, eq_self, decide_true, decide_false, beq_self_eq_true, Bool.not_true, Bool.not_false, Bool.false_eq_true, if_false, if_true, reduceIte]
                try refine stp ?_
                try simp only [kE, kP, eq_self, decide_true, decide_false, beq_self_eq_true, Bool.not_true, Bool.not_false, Bool.false_eq_true, if_false, if_true, reduceIte]
                try refine stp ?_
                try simp only [kE, kP, eq_self, decide_true, decide_false, beq_self_eq_true, Bool.not_true, Bool.not_false, Bool.false_eq_true, if_false, if_true, reduceIte]
                try refine stp ?_
                try rfl
              · refine stp ?_
                try simp only [kE, eq_self, decide_true, decide_false, beq_self_eq_true, Bool.not_true, Bool.not_false, Bool.false_eq_true, if_false, if_true, reduceIte]
                try refine stp ?_
                try simp only [kE, eq_self, decide_true, decide_false, beq_self_eq_true, Bool.not_true, Bool.not_false, Bool.false_eq_true, if_false, if_true, reduceIte]
                try refine stp ?_
                try simp only [kE, eq_self, decide_true, decide_false, beq_self_eq_true, Bool.not_true, Bool.not_false, Bool.false_eq_true, if_false, if_true, reduceIte]
                try refine stp ?_
                try simp only [kE, eq_self, decide_true, decide_false, beq_self_eq_true, Bool.not_true, Bool.not_false, Bool.false_eq_true, if_false, if_true, reduceIte]
                try refine stp ?_
                try rfl
            · refine stp ?_
              try simp only [kE, eq_self, decide_true, decide_false, beq_self_eq_true, Bool.not_true, Bool.not_false, Bool.false_eq_true, if_false, if_true, reduceIte]
              try refine stp ?_
              try simp only [kE, eq_self, decide_true, decide_false, beq_self_eq_true, Bool.not_true, Bool.not_false, Bool.false_eq_true, if_false, if_true, reduceIte]
              try refine stp ?_
              try simp only [kE, eq_self, decide_true, decide_false, beq_self_eq_true, Bool.not_true, Bool.not_false, Bool.false_eq_true, if_false, if_true, reduceIte]
              try refine stp ?_
              try simp only [kE, eq_self, decide_true, decide_false, beq_self_eq_true, Bool.not_true, Bool.not_false, Bool.false_eq_true, if_false, if_true, reduceIte]
              try refine stp ?_
              try rfl
          · refine stp ?_
            rw [show (!(decide ((3 : Int) = 0) == false)) = false from rfl]
            refine stp ?_
            refine O.dec (fun d4 => ?_) (fun d4 => ?_)
            · refine stp ?_
              refine O.dec (fun d5 => ?_) (fun d5 => ?_)
              · have kP : decide (partsB x = 0) = false := decide_eq_false fun e => hB ⟨⟨d4, d5⟩, e⟩
                refine stp ?_
                try simp only [kE, kP, eq_self, decide_true, decide_false, beq_self_eq_true, Bool.not_true, Bool.not_false, Bool.false_eq_true, if_false, if_true, reduceIte]
                try refine stp ?_
                try simp only [kE, kP, eq_self, decide_true, decide_false, beq_self_eq_true, Bool.not_true, Bool.not_false, Bool.false_eq_true, if_false, if_true, reduceIte]
                try refine stp ?_
                try simp only [kE, kP, eq_self, decide_true, decide_false, beq_self_eq_true, Bool.not_true, Bool.not_false, Bool.false_eq_true, if_false, if_true, reduceIte]
                try refine stp ?_
                try simp only [kE, kP, eq_self, decide_true, decide_false, beq_self_eq_true, Bool.not_true, Bool.not_false, Bool.false_eq_true, if_false, if_true, reduceIte]
                try refine stp ?_
                try rfl
              · refine stp ?_
                try simp only [kE, eq_self, decide_true, decide_false, beq_self_eq_true, Bool.not_true, Bool.not_false, Bool.false_eq_true, if_false, if_true, reduceIte]
                try refine stp ?_
                try simp only [kE, eq_self, decide_true, decide_false, beq_self_eq_true, Bool.not_true, Bool.not_false, Bool.false_eq_true, if_false, if_true, reduceIte]
                try refine stp ?_
                try simp only [kE, eq_self, decide_true, decide_false, beq_self_eq_true, Bool.not_true, Bool.not_false, Bool.false_eq_true, if_false, if_true, reduceIte]
                try refine stp ?_
                try simp only [kE, eq_self, decide_true, decide_false, beq_self_eq_true, Bool.not_true, Bool.not_false, Bool.false_eq_true, if_false, if_true, reduceIte]
                try refine stp ?_
                try rfl
            · refine stp ?_
              try simp only [kE, eq_self, decide_true, decide_false, beq_self_eq_true, Bool.not_true, Bool.not_false, Bool.false_eq_true, if_false, if_true, reduceIte]
              try refine stp ?_
              try simp only [kE, eq_self, decide_true, decide_false, beq_self_eq_true, Bool.not_true, Bool.not_false, Bool.false_eq_true, if_false, if_true, reduceIte]
              try refine stp ?_
              try simp only [kE, eq_self, decide_true, decide_false, beq_self_eq_true, Bool.not_true, Bool.not_false, Bool.false_eq_true, if_false, if_true, reduceIte]
              try refine stp ?_
              try simp only [kE, eq_self, decide_true, decide_false, beq_self_eq_true, Bool.not_true, Bool.not_false, Bool.false_eq_true, if_false, if_true, reduceIte]
              try refine stp ?_
              try rfl
        · refine stp ?_
          rw [show (!(decide ((3 : Int) = 0) == false)) = false from rfl]
          refine stp ?_
          refine O.dec (fun d4 => ?_) (fun d4 => ?_)
          · refine stp ?_
            refine O.dec (fun d5 => ?_) (fun d5 => ?_)
            · have kP : decide (partsB x = 0) = false := decide_eq_false fun e => hB ⟨⟨d4, d5⟩, e⟩
              refine stp ?_
              try simp only [kE, kP, eq_self, decide_true, decide_false, beq_self_eq_true, Bool.not_true, Bool.not_false, Bool.false_eq_true, if_false, if_true, reduceIte]
              try refine stp ?_
              try simp only [kE, kP, eq_self, decide_true, decide_false, beq_self_eq_true, Bool.not_true, Bool.not_false, Bool.false_eq_true, if_false, if_true, reduceIte]
              try refine stp ?_
              try simp only [kE, kP, eq_self, decide_true, decide_false, beq_self_eq_true, Bool.not_true, Bool.not_false, Bool.false_eq_true, if_false, if_true, reduceIte]
              try refine stp ?_
              try simp only [kE, kP, eq_self, decide_true, decide_false, beq_self_eq_true, Bool.not_true, Bool.not_false, Bool.false_eq_true, if_false, if_true, reduceIte]
              try refine stp ?_
              try rfl
            · refine stp ?_
              try simp only [kE, eq_self, decide_true, decide_false, beq_self_eq_true, Bool.not_true, Bool.not_false, Bool.false_eq_true, if_false, if_true, reduceIte]
              try refine stp ?_
              try simp only [kE, eq_self, decide_true, decide_false, beq_self_eq_true, Bool.not_true, Bool.not_false, Bool.false_eq_true, if_false, if_true, reduceIte]
              try refine stp ?_
              try simp only [kE, eq_self, decide_true, decide_false, beq_self_eq_true, Bool.not_true, Bool.not_false, Bool.false_eq_true, if_false, if_true, reduceIte]
              try refine stp ?_
              try simp only [kE, eq_self, decide_true, decide_false, beq_self_eq_true, Bool.not_true, Bool.not_false, Bool.false_eq_true, if_false, if_true, reduceIte]
              try refine stp ?_
              try rfl
          · refine stp ?_
            try simp only [kE, eq_self, decide_true, decide_false, beq_self_eq_true, Bool.not_true, Bool.not_false, Bool.false_eq_true, if_false, if_true, reduceIte]
            try refine stp ?_
            try simp only [kE, eq_self, decide_true, decide_false, beq_self_eq_true, Bool.not_true, Bool.not_false, Bool.false_eq_true, if_false, if_true, reduceIte]
            try refine stp ?_
            try simp only [kE, eq_self, decide_true, decide_false, beq_self_eq_true, Bool.not_true, Bool.not_false, Bool.false_eq_true, if_false, if_true, reduceIte]
            try refine stp ?_
            try simp only [kE, eq_self, decide_true, decide_false, beq_self_eq_true, Bool.not_true, Bool.not_false, Bool.false_eq_true, if_false, if_true, reduceIte]
            try refine stp ?_
            try rfl
      · refine stp ?_
        rw [show (!(decide ((3 : Int) = 0) == false)) = false from rfl]
        refine stp ?_
        refine O.dec (fun d4 => ?_) (fun d4 => ?_)
        · refine stp ?_
          refine O.dec (fun d5 => ?_) (fun d5 => ?_)
          · have kP : decide (partsB x = 0) = false := decide_eq_false fun e => hB ⟨⟨d4, d5⟩, e⟩
            refine stp ?_
            try simp only [kE, kP, eq_self, decide_true, decide_false, beq_self_eq_true, Bool.not_true, Bool.not_false, Bool.false_eq_true, if_false, if_true, reduceIte]
            try refine stp ?_
            try simp only [kE, kP, eq_self, decide_true, decide_false, beq_self_eq_true, Bool.not_true, Bool.not_false, Bool.false_eq_true, if_false, if_true, reduceIte]
            try refine stp ?_
            try simp only [kE, kP, eq_self, decide_true, decide_false, beq_self_eq_true, Bool.not_true, Bool.not_false, Bool.false_eq_true, if_false, if_true, reduceIte]
            try refine stp ?_
            try simp only [kE, kP, eq_self, decide_true, decide_false, beq_self_eq_true, Bool.not_true, Bool.not_false, Bool.false_eq_true, if_false, if_true, reduceIte]
            try refine stp ?_
            try rfl
          · refine stp ?_
            try simp only [kE, eq_self, decide_true, decide_false, beq_self_eq_true, Bool.not_true, Bool.not_false, Bool.false_eq_true, if_false, if_true, reduceIte]
            try refine stp ?_
            try simp only [kE, eq_self, decide_true, decide_false, beq_self_eq_true, Bool.not_true, Bool.not_false, Bool.false_eq_true, if_false, if_true, reduceIte]
            try refine stp ?_
            try simp only [kE, eq_self, decide_true, decide_false, beq_self_eq_true, Bool.not_true, Bool.not_false, Bool.false_eq_true, if_false, if_true, reduceIte]
            try refine stp ?_
            try simp only [kE, eq_self, decide_true, decide_false, beq_self_eq_true, Bool.not_true, Bool.not_false, Bool.false_eq_true, if_false, if_true, reduceIte]
            try refine stp ?_
            try rfl
        · refine stp ?_
          try simp only [kE, eq_self, decide_true, decide_false, beq_self_eq_true, Bool.not_true, Bool.not_false, Bool.false_eq_true, if_false, if_true, reduceIte]
          try refine stp ?_
          try simp only [kE, eq_self, decide_true, decide_false, beq_self_eq_true, Bool.not_true, Bool.not_false, Bool.false_eq_true, if_false, if_true, reduceIte]
          try refine stp ?_
          try simp only [kE, eq_self, decide_true, decide_false, beq_self_eq_true, Bool.not_true, Bool.not_false, Bool.false_eq_true, if_false, if_true, reduceIte]
          try refine stp ?_
          try simp only [kE, eq_self, decide_true, decide_false, beq_self_eq_true, Bool.not_true, Bool.not_false, Bool.false_eq_true, if_false, if_true, reduceIte]
          try refine stp ?_
          try rfl
end Go.Proofs.YtninaabbojcdpaaGreat.A

namespace Go.Proofs.YtninaabbojcdpaaGreat.A
open Go Go.Vm
set_option maxRecDepth 10000
set_option linter.unusedVariables false
end Go.Proofs.YtninaabbojcdpaaGreat.A

namespace Go.Proofs.YtninaabbojcdpaaGreat.A
open Go Go.Vm
set_option maxRecDepth 10000
set_option linter.unusedVariables false
theorem vcells_nil : vcells [] = [] := rfl
theorem vcells_len : ∀ l : List Val, (vcells l).length = l.length * 5
  | [] => rfl
  | v :: l => by rw [vcells_cons, List.length_append, vcells_len l]; simp; omega
end Go.Proofs.YtninaabbojcdpaaGreat.A

namespace Go.Proofs.YtninaabbojcdpaaGreat.A
open Go Go.Vm
set_option maxRecDepth 10000
set_option linter.unusedVariables false
theorem tcells_nil : tcells [] = [] := rfl
theorem tcells_len : ∀ l : List Vote, (tcells l).length = l.length * 2
  | [] => rfl
  | v :: l => by rw [tcells_cons, List.length_append, tcells_len l]; simp; omega
end Go.Proofs.YtninaabbojcdpaaGreat.A

namespace Go.Proofs.YtninaabbojcdpaaGreat.A
open Go Go.Vm
set_option maxRecDepth 10000
set_option linter.unusedVariables false
theorem fits_flat32 {h : Heap} {m : Nat} {t te : TypeId} {c : List Value} (ht : Tryz.prog.underlying t = some (.array 32 te)) (hu : Tryz.prog.underlying te = some (.int .u8)) (hs : Tryz.prog.cellsOf te = 1) (hs32 : Tryz.prog.cellsOf t = 32) (hv : Fits Tryz.prog h (m + 2) t c) : ∃ bs : List UInt8, c = bcells bs ∧ bs.length = 32 := by
  unfold Fits at hv
  rw [ht] at hv
  exact fits_bytes hu hs (by rw [hv.1, hs32, hs]) hv.2
theorem fits_header {h : Heap} {m : Nat} {t ts ti th tb : TypeId} {c : List Value} (f0 : fieldAt Tryz.prog t 0 = some (0, ts)) (f1 : fieldAt Tryz.prog t 1 = some (1, ti)) (f2 : fieldAt Tryz.prog t 2 = some (2, ti)) (f3 : fieldAt Tryz.prog t 3 = some (3, th)) (f4 : fieldAt Tryz.prog t 4 = some (35, th)) (f5 : fieldAt Tryz.prog t 5 = some (67, th)) (f6 : fieldAt Tryz.prog t 6 = some (99, th))
    (us : Tryz.prog.underlying ts = some .string) (ui : Tryz.prog.underlying ti = some (.int .i64)) (uh : Tryz.prog.underlying th = some (.array 32 tb)) (ub : Tryz.prog.underlying tb = some (.int .u8)) (c0 : Tryz.prog.cellsOf ts = 1) (c1 : Tryz.prog.cellsOf ti = 1) (c3 : Tryz.prog.cellsOf th = 32) (cb : Tryz.prog.cellsOf tb = 1) (ct : Tryz.prog.cellsOf t = 131)
    (hv : Fits Tryz.prog h (m + 3) t c) : ∃ x : Hd, x.ok ∧ (-9223372036854775808 ≤ x.height ∧ x.height ≤ 9223372036854775807) ∧ (-9223372036854775808 ≤ x.time ∧ x.time ≤ 9223372036854775807) ∧ c = x.cells := by
  have hl := hv.len f0
  rw [ct] at hl
  obtain ⟨s, g0, _⟩ := (hv.field f0).str us
  obtain ⟨a, g1, w1⟩ := (hv.field f1).int ui
  obtain ⟨b, g2, w2⟩ := (hv.field f2).int ui
  obtain ⟨l3, g3, n3⟩ := fits_flat32 uh ub cb c3 (hv.field f3)
  obtain ⟨l4, g4, n4⟩ := fits_flat32 uh ub cb c3 (hv.field f4)
  obtain ⟨l5, g5, n5⟩ := fits_flat32 uh ub cb c3 (hv.field f5)
  obtain ⟨l6, g6, n6⟩ := fits_flat32 uh ub cb c3 (hv.field f6)
  rw [c0] at g0
  rw [c1] at g1 g2
  rw [c3] at g3 g4 g5 g6
  refine ⟨⟨s.data.toList, a, b, l3, l4, l5, l6⟩, ⟨n3, n4, n5, n6⟩, wf_i64 w1, wf_i64 w2, ?_⟩
  rw [← List.drop_zero (l := c), vsplit c 0 1, g0, vsplit c (0 + 1) 1, g1, vsplit c (0 + 1 + 1) 1, g2, vsplit c (0 + 1 + 1 + 1) 32, g3, vsplit c (0 + 1 + 1 + 1 + 32) 32, g4, vsplit c (0 + 1 + 1 + 1 + 32 + 32) 32, g5, vsplit c (0 + 1 + 1 + 1 + 32 + 32 + 32) 32, g6,
    show c.drop (0 + 1 + 1 + 1 + 32 + 32 + 32 + 32) = [] from List.drop_eq_nil_of_le (by omega), List.append_nil]
  rfl
end Go.Proofs.YtninaabbojcdpaaGreat.A

namespace Go.Proofs.YtninaabbojcdpaaGreat.A
open Go Go.Vm
set_option maxRecDepth 100000
set_option linter.unusedVariables false
theorem i64_fits {h : Heap} {v : Value} (hv : FitsV Tryz.prog h 8 3 v) : ∃ x : Int, v = .int .i64 x ∧ (-9223372036854775808 ≤ x ∧ x ≤ 9223372036854775807) := by
  have u2 : Tryz.prog.underlying 3 = some (.int .i64) := by kernel_rfl
  obtain ⟨x, h1, h2⟩ := hv.int u2
  exact ⟨x, h1, wf_i64 h2⟩
end Go.Proofs.YtninaabbojcdpaaGreat.A

namespace Go.Proofs.YtninaabbojcdpaaGreat.A
open Go Go.Vm
set_option maxRecDepth 100000
set_option linter.unusedVariables false
theorem vals_cells_fit {h : Heap} {m : Nat} {te tk tb ti : TypeId} (f0 : fieldAt Tryz.prog te 0 = some (0, tk)) (f1 : fieldAt Tryz.prog te 1 = some (4, ti)) (uk : Tryz.prog.underlying tk = some (.array 4 tb)) (ub : Tryz.prog.underlying tb = some (.int .u8)) (ui : Tryz.prog.underlying ti = some (.int .i64))
    (ce : Tryz.prog.cellsOf te = 5) (ck : Tryz.prog.cellsOf tk = 4) (cb : Tryz.prog.cellsOf tb = 1) (ci : Tryz.prog.cellsOf ti = 1) : ∀ (len : Nat) (c : List Value), c.length = len * 5 → (∀ i, i < len → Fits Tryz.prog h (m + 3) te ((c.drop (i * 5)).take 5)) →
    ∃ l : List Val, c = vcells l ∧ l.length = len ∧ ∀ v ∈ l, -9223372036854775808 ≤ v.p ∧ v.p ≤ 9223372036854775807
  | 0, c, hl, _ => ⟨[], by rw [vcells_nil]; simpa using hl, rfl, fun v hv => by cases hv⟩
  | len + 1, c, hl, hall => by
    have h0 := hall 0 (by omega)
    rw [Nat.zero_mul, List.drop_zero] at h0
    have hk := h0.field f0
    obtain ⟨p, g1, w1⟩ := (h0.field f1).int ui
    rw [ck] at hk
    rw [ci] at g1
    rw [List.drop_zero] at hk
    have h4 : (c.take 5).take 4 = c.take 4 := by rw [List.take_take]; rfl
    rw [h4] at hk
    have hb : ∃ bs : List UInt8, c.take 4 = bcells bs ∧ bs.length = 4 := by
      unfold Fits at hk
      rw [uk] at hk
      exact fits_bytes ub cb (by rw [hk.1, ck, cb]) hk.2
    obtain ⟨bs, hb1, hb2⟩ := hb
    obtain ⟨a0, a1, a2, a3, rfl⟩ := four hb2
    obtain ⟨l, e1, e2, e3⟩ := vals_cells_fit f0 f1 uk ub ui ce ck cb ci len (c.drop 5) (by rw [List.length_drop]; omega) fun i hi => by
      have := hall (i + 1) (by omega)
      rw [List.drop_drop]
      rw [show (i + 1) * 5 = 5 + i * 5 from by omega] at this
      exact this
    refine ⟨⟨a0, a1, a2, a3, p⟩ :: l, ?_, by simp [e2], fun v hv => ?_⟩
    · rw [vcells_cons, ← e1]
      have e5 : c = c.take 5 ++ c.drop 5 := (List.take_append_drop 5 c).symm
      have e6 : c.take 5 = c.take 4 ++ ((c.take 5).drop 4).take 1 := by
        have h1 : ((c.take 5).drop 4).take 1 = (c.take 5).drop 4 := List.take_of_length_le (by rw [List.length_drop, List.length_take]; omega)
        rw [h1, ← h4, List.take_append_drop]
      conv => lhs; rw [e5, e6, hb1, g1]
      rfl
    · rcases List.mem_cons.1 hv with rfl | hv
      · exact wf_i64 w1
      · exact e3 v hv
end Go.Proofs.YtninaabbojcdpaaGreat.A
