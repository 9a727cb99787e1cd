/- Contracts of functions, over the machine. -/
import Derived.Test.YtbmpalbdbcjieaaGreatQBlockDecodes4
import Derived.Test.YtbmpalbdbcjieaaGreatVK
import Derived.Test.YtbmpalbdbcjieaaGreatVJ
noncomputable section
namespace Go.Proofs.YtbmpalbdbcjieaaGreat.A
open Go Go.Vm
set_option maxRecDepth 10000
set_option linter.unusedVariables false
structure RRs (h : Heap) (p : Nat) (sv : Value) (bs : List UInt8) (st : RSt) : Prop where
  ex : ∃ pl, (st.e = 0 → pl = st.pl ∧ st.fa = 0) ∧ RR h p sv bs pl st.e st.fa
theorem RRs.keep {S : Nat → Prop} {h h' : Heap} {p : Nat} {sv : Value} {bs : List UInt8} {st : RSt} (hp : RRs h p sv bs st) (hf : Fr S h h') (hs : ¬ S p) (hb : ∀ i, ownedBy sv i → ¬ S i) : RRs h' p sv bs st :=
  let ⟨pl, h1, h2⟩ := hp.ex
  ⟨pl, h1, h2.keep hf hs hb⟩
theorem RRs.none {h h' : Heap} {p : Nat} {sv : Value} {bs : List UInt8} {st : RSt} (hp : RRs h p sv bs st) (hf : Fr (fun _ => False) h h') : RRs h' p sv bs st := hp.keep hf id fun _ _ => id
theorem RRs.lt {h : Heap} {p : Nat} {sv : Value} {bs : List UInt8} {st : RSt} (hp : RRs h p sv bs st) : p < h.n := let ⟨_, _, h2⟩ := hp.ex; h2.lt
theorem RRs.own_lt {h : Heap} {p : Nat} {sv : Value} {bs : List UInt8} {st : RSt} (hp : RRs h p sv bs st) {i : Nat} (hi : ownedBy sv i) : i < h.n := let ⟨_, _, h2⟩ := hp.ex; h2.own.lt hi
theorem RRs.mk' {h : Heap} {p : Nat} {sv : Value} {bs : List UInt8} {pl : Nat} (hp : RR h p sv bs pl 0 0) : RRs h p sv bs ⟨pl, 0, 0⟩ := ⟨pl, fun _ => ⟨rfl, rfl⟩, hp⟩
def RReads {α : Type} (h : Heap) (p : Nat) (sv : Value) (bs : List UInt8) (x : α × RSt) (V : α → Value → Heap → Prop) (r : Value) (h' : Heap) : Prop :=
  Fr (fun i => i = p) h h' ∧ V x.1 r h' ∧ RRs h' p sv bs x.2
theorem rrd_ok {α : Type} {h h' : Heap} {p : Nat} {sv : Value} {bs : List UInt8} {pl pl' : Nat} {S : Nat → Except Int (α × Nat)} {zero a : α} {V : α → Value → Heap → Prop} {r : Value} (hS : S pl = .ok (a, pl')) (hf : Fr (fun i => i = p) h h') (hV : V a r h') (hp : RR h' p sv bs pl' 0 0) :
    RReads h p sv bs (rd S zero ⟨pl, 0, 0⟩) V r h' := by
  unfold rd
  rw [if_pos rfl]
  simp only [hS]
  exact ⟨hf, hV, .mk' hp⟩
theorem rrd_err {α : Type} {h h' : Heap} {p : Nat} {sv : Value} {bs : List UInt8} {pl pl' : Nat} {e : Int} {S : Nat → Except Int (α × Nat)} {zero : α} {V : α → Value → Heap → Prop} {r : Value} (hS : S pl = .error e) (he : e ≠ 0) (hf : Fr (fun i => i = p) h h') (hV : V zero r h') (hp : RR h' p sv bs pl' e pl) :
    RReads h p sv bs (rd S zero ⟨pl, 0, 0⟩) V r h' := by
  unfold rd
  rw [if_pos rfl]
  simp only [hS]
  exact ⟨hf, hV, ⟨pl', fun h0 => absurd h0 he, hp⟩⟩
theorem rrd_bad {α : Type} {h h' : Heap} {p : Nat} {sv : Value} {bs : List UInt8} {st : RSt} {S : Nat → Except Int (α × Nat)} {zero : α} {V : α → Value → Heap → Prop} {r : Value} (he : st.e ≠ 0) (hf : Fr (fun i => i = p) h h') (hV : V zero r h') (hp : RRs h' p sv bs st) :
    RReads h p sv bs (rd S zero st) V r h' := by
  unfold rd
  rw [if_neg he]
  exact ⟨hf, hV, hp⟩
theorem RNum_bad {h : Heap} {p : Nat} {sv : Value} {bs : List UInt8} {pl : Nat} {e fa : Int} (hr : RR h p sv bs pl e fa) (he : e ≠ 0) :
    Runs Tryz.prog T0 (.fn fn_zxbQ) [.pointer (some ⟨p, 0, none⟩)] h (fun r h' => r = .int .i64 0 ∧ h' = h) (fun _ _ => False) := by
  haveI : HGet h p _ := ⟨hr.get⟩
  refine zxbQ_runs ?_
  refine stpDP ?_
  refine O.call' (Rtake_bad hr he) (fun r h1 hq => ?_)
  obtain ⟨rfl, rfl⟩ := hq
  refine stpDP ?_
  refine C.ifN (fun _ => ?_) (fun h => absurd h he)
  refine stpDP ?_
  exact ⟨rfl, rfl⟩
set_option maxHeartbeats 2000000 in
theorem RNum_ok {h : Heap} {p : Nat} {sv : Value} {bs : List UInt8} {pl : Nat} (hr : RR h p sv bs pl 0 0) :
    Runs Tryz.prog T0 (.fn fn_zxbQ) [.pointer (some ⟨p, 0, none⟩)] h (RReads h p sv bs (rd (numS bs) 0 ⟨pl, 0, 0⟩) fun a r _ => r = .int .i64 (a : Nat)) (fun _ _ => False) := by
  haveI : HGet h p _ := ⟨hr.get⟩
  have hsm := hr.small
  have hbt := (bs.getD pl 0).toNat_lt
  refine zxbQ_runs ?_
  refine stpDP ?_
  refine O.call' (Rtake_ok (n := 1) (a := pl) hr) (fun r h1 hq => ?_)
  obtain ⟨hf1, ⟨hle1, ho1, hnew1, hr1⟩ | ⟨hlt1, rfl, hr1⟩⟩ := hq
  · have hd1 : (bs.drop pl).take 1 = [bs.getD pl 0] := by
      have := take_succ_getD (l := bs.drop pl) (k := 0) (by simp; omega)
      simpa [List.getD_eq_getElem?_getD] using this
    rw [hd1] at ho1
    obtain ⟨a1, cap1, rfl, hl1, hc1⟩ := ho1.rd
    obtain ⟨b1, o1, sp1, rfl, hb1, hcc1⟩ := hc1 (by omega)
    have hcell1 : Cell h1 b1 o1 (.int .u8 (bs.getD pl 0).toNat) := ⟨hcc1⟩
    haveI : HGet h1 p _ := ⟨hr1.get⟩
    generalize hk : (bs.getD pl 0).toNat = k at *
    refine stpDP ?_
    refine C.if (fun h8 => ?_) (fun h8 => ?_)
    · refine stpDP ?_
      refine O.call' (Fails_ok (x := 5) (a := pl) hr1) (fun r h2 hq => ?_)
      obtain ⟨hr2, hf2⟩ := hq
      rw [if_pos rfl] at hr2
      haveI : HGet h2 p _ := ⟨hr2.get⟩
      refine stpDP ?_
      refine rrd_err (e := 5) ?_ (by omega) (hf1.trans' hf2) rfl hr2
      unfold numS
      rw [hk, if_neg (by omega), if_pos (by omega)]
    · refine stpDP ?_
      refine O.call' (Rtake_ok (n := k) (a := pl) hr1) (fun r h2 hq => ?_)
      obtain ⟨hf2, ⟨hle2, ho2, hnew2, hr2⟩ | ⟨hlt2, rfl, hr2⟩⟩ := hq
      · generalize hd : (bs.drop (pl + 1)).take k = d at ho2
        have hdl : d.length = k := by rw [← hd, List.length_take, List.length_drop]; omega
        obtain ⟨a2, cap2, rfl, hl2, hc2⟩ := ho2.rd
        have hf12 := hf1.trans' hf2
        haveI : HGet h2 p _ := ⟨hr2.get⟩
        have hbn : bigN d < 18446744073709551616 := by
          have := bigN_lt d
          have h2 : 256 ^ d.length ≤ 256 ^ 8 := Nat.pow_le_pow_right (by omega) (by rw [hdl]; omega)
          omega
        refine stpDP ?_
        refine zxbQ_l0_rule (fun m v6 v7 h' => ∃ i : Nat, i ≤ k ∧ m = k - i ∧ v7 = .int .i64 i ∧ v6 = .int .u64 (bigN (d.take i)) ∧ h2 = h') ?_ k ⟨0, by omega, rfl, rfl, rfl, rfl⟩
        rintro m v6 v7 h3 x40 x41 x42 x43 x44 x45 x46 x47 x48 x49 x50 x51 x52 x53 ⟨i, hi, rfl, rfl, rfl, rfl⟩
        refine stpDP ?_
        refine C.if (fun hlt => ?_) (fun hge => ?_)
        · obtain ⟨b2, o2, sp2, rfl, hb2, hcc2⟩ := hc2 (by omega)
          rw [Nat.mul_one] at hcc2
          haveI := byte_cell (k := i) hcc2 (by omega)
          have h8' := bigN_take_lt (l := d) (k := i) (by omega)
          have hbt2 := (d.getD i 0).toNat_lt
          have hs := bigN_take (l := d) (k := i) (by omega)
          refine stpDP ?_
          refine O.how (XOp.shl8 ⟨by omega, by omega⟩) ?_
          refine stpDP ?_
          refine O.how (XOp.orByte (by omega) (by omega)) ?_
          refine stpDP ?_
          exact zxbQ_l0_again (k - (i + 1)) (by omega) ⟨i + 1, by omega, rfl, rfl, by rw [hs], rfl⟩
        · obtain rfl : i = k := by omega
          rw [List.take_of_length_le (by omega)]
          refine stpDP ?_
          refine O.dec (fun hpos => ?_) (fun hzero => ?_)
          · obtain ⟨b2, o2, sp2, rfl, hb2, hcc2⟩ := hc2 (by omega)
            rw [Nat.mul_one] at hcc2
            haveI := byte_cell (k := 0) hcc2 (by omega)
            refine stpDP ?_
            refine O.dec (fun hfirst => ?_) (fun hfirst => ?_)
            · refine stpDP ?_
              refine O.call' (Fails_ok (x := 5) (a := pl) hr2) (fun r h4 hq => ?_)
              obtain ⟨hr4, hf4⟩ := hq
              rw [if_pos rfl] at hr4
              haveI : HGet h4 p _ := ⟨hr4.get⟩
              refine stpDP ?_
              refine rrd_err (e := 5) ?_ (by omega) (hf12.trans' hf4) rfl hr4
              unfold numS
              rw [hk, hd, if_neg (by omega), if_neg (by omega), if_neg (by omega), if_pos (.inl ⟨by omega, by omega⟩)]
            · refine stpDP ?_
              refine O.howT (XOp.shr63 ⟨by omega, by omega⟩) ?_
              refine stpDP ?_
              refine C.if (fun hbig => ?_) (fun hsmall => ?_)
              · refine stpDP ?_
                refine O.call' (Fails_ok (x := 5) (a := pl) hr2) (fun r h4 hq => ?_)
                obtain ⟨hr4, hf4⟩ := hq
                rw [if_pos rfl] at hr4
                haveI : HGet h4 p _ := ⟨hr4.get⟩
                refine stpDP ?_
                refine rrd_err (e := 5) ?_ (by omega) (hf12.trans' hf4) rfl hr4
                unfold numS
                rw [hk, hd, if_neg (by omega), if_neg (by omega), if_neg (by omega), if_pos (.inr (by omega))]
              · refine stpDP ?_
                refine rrd_ok (a := bigN d) ?_ hf12 rfl hr2
                unfold numS
                rw [hk, hd, if_neg (by omega), if_neg (by omega), if_neg (by omega), if_neg (fun h => h.elim (fun h => hfirst (by have := h.2; omega)) fun h => by omega)]
          · refine stpDP ?_
            refine O.howT (XOp.shr63 ⟨by omega, by omega⟩) ?_
            refine stpDP ?_
            refine C.if (fun hbig => ?_) (fun hsmall => ?_)
            · refine stpDP ?_
              refine O.call' (Fails_ok (x := 5) (a := pl) hr2) (fun r h4 hq => ?_)
              obtain ⟨hr4, hf4⟩ := hq
              rw [if_pos rfl] at hr4
              haveI : HGet h4 p _ := ⟨hr4.get⟩
              refine stpDP ?_
              refine rrd_err (e := 5) ?_ (by omega) (hf12.trans' hf4) rfl hr4
              unfold numS
              rw [hk, hd, if_neg (by omega), if_neg (by omega), if_neg (by omega), if_pos (.inr (by omega))]
            · refine stpDP ?_
              refine rrd_ok (a := bigN d) ?_ hf12 rfl hr2
              unfold numS
              rw [hk, hd, if_neg (by omega), if_neg (by omega), if_neg (by omega), if_neg (fun h => h.elim (fun h => by omega) fun h => by omega)]
      · haveI : HGet h2 p _ := ⟨hr2.get⟩
        refine stpDP ?_
        refine zxbQ_l0_rule (fun m v6 v7 h' => v7 = .int .i64 0 ∧ v6 = .int .u64 0 ∧ h2 = h') ?_ 0 ⟨rfl, rfl, rfl⟩
        rintro m v6 v7 h3 x40 x41 x42 x43 x44 x45 x46 x47 x48 x49 x50 x51 x52 x53 ⟨rfl, rfl, rfl⟩
        refine stpDP ?_
        refine O.howT (XOp.shr63 ⟨by omega, by omega⟩) ?_
        refine stpDP ?_
        simp only [show (decide ((0 : Int) < ((0 : Nat) : Int))) = false from rfl, Bool.false_eq_true, if_false]
        refine stpDP ?_
        refine rrd_err (e := 6) ?_ (by omega) (hf1.trans' hf2) rfl hr2
        unfold numS
        rw [hk, if_neg (by omega), if_neg (by omega), if_pos (by omega)]
  · haveI : HGet h1 p _ := ⟨hr1.get⟩
    refine stpDP ?_
    refine rrd_err (e := 6) ?_ (by omega) hf1 rfl hr1
    unfold numS
    rw [if_pos (by omega)]
end Go.Proofs.YtbmpalbdbcjieaaGreat.A

namespace Go.Proofs.YtbmpalbdbcjieaaGreat.A
open Go Go.Vm
set_option maxRecDepth 10000
set_option linter.unusedVariables false
theorem RNum_run {h : Heap} {p : Nat} {sv : Value} {bs : List UInt8} {st : RSt} (hp : RRs h p sv bs st) :
    Runs Tryz.prog T0 (.fn fn_zxbQ) [.pointer (some ⟨p, 0, none⟩)] h (RReads h p sv bs (rd (numS bs) 0 st) fun a r _ => r = .int .i64 (a : Nat)) (fun _ _ => False) := by
  obtain ⟨st1, e, fa⟩ := st
  obtain ⟨pl, h1, h2⟩ := hp.ex
  by_cases he : e = 0
  · subst he
    obtain ⟨rfl, h3⟩ := h1 rfl
    have h3 : fa = 0 := h3
    subst h3
    exact RNum_ok h2
  · refine (RNum_bad h2 he).imp fun r h' ⟨hz, hh⟩ => ?_
    subst hh
    exact rrd_bad he Fr.refl hz hp
theorem RNew_ok {h : Heap} {v : Value} {l : List UInt8} (hr : Rd h 1 v (bcells l) l.length) (hs : l.length < 1048576) :
    Runs Tryz.prog T0 (.fn fn_zrbQ) [v] h (fun r h' => ∃ p sv, r = .pointer (some ⟨p, 0, none⟩) ∧ h.n ≤ p ∧ (∀ i, ownedBy sv i → h.n ≤ i) ∧ RRs h' p sv l ⟨0, 0, 0⟩ ∧ Fr (fun _ => False) h h') (fun _ _ => False) := by
  refine zrbQ_runs ?_
  refine stpDP ?_
  have hz : Own (h.push (.cells [] 0)) 1 (.slice (some ⟨h.n, 0, none⟩) 0 0) [] 0 := .lit (by simp) (by rw [Heap.get_push, if_pos rfl])
  have hnew' := (Rd.keep (S := fun _ => False) hr (Fr.refl.push (o := .cells [] 0)) fun _ _ => id).new (size := 1)
  refine O.append hz (hnew' [.int .u8 0]) (by rw [bcells_len]; omega) (bcells_one l) (by omega) (by omega) (by omega) (fun v' h' ho h2 h3 => ?_)
  rw [Nat.zero_add, List.nil_append] at ho
  have hf : Fr (fun _ => False) h h' := (Fr.refl.push (o := .cells [] 0)).trans (S := fun _ => False) h2 (fun i hi ho => by
    have : h.n = i := ho
    omega)
  have hn := hf.n
  have hnew : ∀ i, ownedBy v' i → h.n ≤ i := fun i hi => by
    rcases h3 i hi with h4 | h4
    · have : h.n = i := h4
      omega
    · simp at h4; omega
  obtain ⟨a, cap, rfl, hlen, _⟩ := ho.rd
  refine stpDP ?_
  refine ⟨h'.n, _, rfl, hn, hnew, .mk' ⟨by omega, hs, by simp, by rw [Heap.get_push, if_pos rfl]; rfl, ho.keep (S := fun _ => False) Fr.refl.push fun _ _ => id, fun hi => ?_⟩, hf.push⟩
  have := ho.lt hi
  omega
end Go.Proofs.YtbmpalbdbcjieaaGreat.A

namespace Go.Proofs.YtbmpalbdbcjieaaGreat.A
open Go Go.Vm
set_option maxRecDepth 10000
set_option linter.unusedVariables false
theorem RBytes_run {h : Heap} {p : Nat} {sv : Value} {bs : List UInt8} {st : RSt} {most : Nat} (hp : RRs h p sv bs st) :
    Runs Tryz.prog T0 (.fn fn_zsbQ) [.pointer (some ⟨p, 0, none⟩), .int .i64 most] h (RReads h p sv bs (rd (bytesS bs most) [] st) fun l r h' => Own h' 1 r (bcells l) l.length ∧ (∀ i, ownedBy r i → h.n ≤ i)) (fun _ _ => False) := by
  obtain ⟨st1, e, fa⟩ := st
  obtain ⟨pl, h1, h2⟩ := hp.ex
  haveI : HGet h p _ := ⟨h2.get⟩
  have hm : (if (0 : Int) > most then (0 : Int) else most) = most := if_neg (by omega)
  refine zsbQ_runs ?_
  refine stp ?_
  by_cases he : e = 0
  · subst he
    obtain ⟨rfl, h3⟩ := h1 rfl
    have h3 : fa = 0 := h3
    subst h3
    refine O.call' (RNum_ok h2) (fun r h1 hq => ?_)
    unfold RReads rd at hq
    rw [if_pos rfl] at hq
    cases hS : numS bs pl with
    | ok x =>
      obtain ⟨n, pl1⟩ := x
      simp only [hS] at hq
      obtain ⟨hf1, rfl, hp1⟩ := hq
      obtain ⟨pl2, h4, h5⟩ := hp1.ex
      obtain ⟨rfl, _⟩ := h4 rfl
      haveI : HGet h1 p _ := ⟨h5.get⟩
      refine stp ?_
      rw [hm]
      refine C.if (fun hbig => ?_) (fun hok => ?_)
      · refine stp ?_
        refine O.call' (Fails_ok (x := 4) (a := pl) h5) (fun r h6 hq => ?_)
        obtain ⟨hr6, hf6⟩ := hq
        rw [if_pos rfl] at hr6
        refine stp ?_
        refine O.call' (Rtake_bad hr6 (by omega)) (fun r h7 hq => ?_)
        obtain ⟨rfl, rfl⟩ := hq
        refine stp ?_
        refine rrd_err (e := 4) ?_ (by omega) (hf1.trans' hf6) ⟨.none, fun i hi => hi.elim⟩ hr6
        unfold bytesS
        rw [hS]
        simp only
        rw [if_pos (by omega)]
      · refine stp ?_
        refine O.call' (Rtake_ok (n := n) (a := pl) h5) (fun r h6 hq => ?_)
        obtain ⟨hf6, ⟨hle, ho, hnew, hr6⟩ | ⟨hlt, rfl, hr6⟩⟩ := hq
        · refine stp ?_
          have hl : ((bs.drop pl2).take n).length = n := by rw [List.length_take, List.length_drop]; omega
          refine rrd_ok (a := (bs.drop pl2).take n) (pl' := pl2 + n) ?_ (hf1.trans' hf6) ⟨by rw [hl]; exact ho, fun i hi => Nat.le_trans hf1.n (hnew i hi)⟩ hr6
          unfold bytesS
          rw [hS]
          simp only
          rw [if_neg (by omega), if_neg (by omega)]
        · refine stp ?_
          refine rrd_err (e := 6) ?_ (by omega) (hf1.trans' hf6) ⟨.none, fun i hi => hi.elim⟩ hr6
          unfold bytesS
          rw [hS]
          simp only
          rw [if_neg (by omega), if_pos (by omega)]
    | error e1 =>
      have he1 : e1 ≠ 0 := by rcases numS_err hS with rfl | rfl <;> omega
      simp only [hS] at hq
      obtain ⟨hf1, rfl, hp1⟩ := hq
      obtain ⟨pl2, _, h5⟩ := hp1.ex
      refine stp ?_
      rw [hm]
      refine stp ?_
      refine O.call' (Rtake_bad h5 he1) (fun r h7 hq => ?_)
      obtain ⟨rfl, rfl⟩ := hq
      refine stp ?_
      refine rrd_err (e := e1) ?_ he1 hf1 ⟨.none, fun i hi => hi.elim⟩ h5
      unfold bytesS
      rw [hS]
  · refine O.call' (RNum_bad h2 he) (fun r h1 hq => ?_)
    obtain ⟨rfl, rfl⟩ := hq
    refine stp ?_
    rw [hm]
    refine stp ?_
    refine O.call' (Rtake_bad h2 he) (fun r h7 hq => ?_)
    obtain ⟨rfl, rfl⟩ := hq
    refine stp ?_
    exact rrd_bad he Fr.refl ⟨.none, fun i hi => hi.elim⟩ hp
theorem RText_run {h : Heap} {p : Nat} {sv : Value} {bs : List UInt8} {st : RSt} {most : Nat} (hp : RRs h p sv bs st) :
    Runs Tryz.prog T0 (.fn fn_zzbQ) [.pointer (some ⟨p, 0, none⟩), .int .i64 most] h (RReads h p sv bs (rd (bytesS bs most) [] st) fun l r h' => r = .string ⟨⟨l⟩⟩) (fun _ _ => False) := by
  refine zzbQ_runs ?_
  refine stp ?_
  refine O.call' (RBytes_run hp) (fun r h' hq => ?_)
  obtain ⟨hf, ho, hp'⟩ := hq
  refine O.how (XOp.mkStr ho.1.rd) ?_
  refine stp ?_
  exact ⟨hf, rfl, hp'⟩
end Go.Proofs.YtbmpalbdbcjieaaGreat.A

namespace Go.Proofs.YtbmpalbdbcjieaaGreat.A
open Go Go.Vm
set_option maxRecDepth 10000
set_option linter.unusedVariables false
theorem lset_mid : ∀ (a b : List Value) (v w : Value), lset (a ++ w :: b) a.length v = a ++ v :: b
  | [], b, v, w => rfl
  | x :: a, b, v, w => by
    show x :: lset (a ++ w :: b) a.length v = _
    rw [lset_mid a b v w]; rfl
theorem lset_part {d : List UInt8} {z : List Value} {i : Nat} (hi : i < d.length) (hz : i < z.length) :
    lset (bcells (d.take i) ++ z.drop i) i (.int .u8 (d.getD i 0).toNat) = bcells (d.take (i + 1)) ++ z.drop (i + 1) := by
  have hl : (bcells (d.take i)).length = i := by rw [bcells_len, List.length_take]; omega
  have h1 : z.drop i = z[i] :: z.drop (i + 1) := List.drop_eq_getElem_cons hz
  have h2 := lset_mid (bcells (d.take i)) (z.drop (i + 1)) (.int .u8 (d.getD i 0).toNat) z[i]
  rw [hl] at h2
  rw [h1, h2]
  have h3 : d.take (i + 1) = d.take i ++ [d.getD i 0] := take_succ_getD hi
  rw [h3]
  simp [bcells]
theorem z32_len : z32.length = 32 := rfl
theorem RHash_run {h : Heap} {p : Nat} {sv : Value} {bs : List UInt8} {st : RSt} (hp : RRs h p sv bs st) :
    Runs Tryz.prog T0 (.fn fn_zvbQ) [.pointer (some ⟨p, 0, none⟩)] h (RReads h p sv bs (rd (partS 32 bs) zb32 st) fun l r _ => r = .agg ⟨bcells l⟩ ∧ l.length = 32) (fun _ _ => False) := by
  obtain ⟨st1, e, fa⟩ := st
  obtain ⟨pl, h1, h2⟩ := hp.ex
  have hlt := h2.lt
  have hown := fun {i : Nat} (hi : ownedBy sv i) => h2.own.lt hi
  haveI : HGet h p _ := ⟨h2.get⟩
  haveI : BLt p h := ⟨h2.lt⟩
  refine zvbQ_runs ?_
  refine stpDP ?_
  have hf0 : Fr (fun i => i = p) h ((h.push (AObj.cells z32 0)).push (AObj.cells z32 0)) := Fr.refl.push.push
  have h20 : RR ((h.push (AObj.cells z32 0)).push (AObj.cells z32 0)) p sv bs pl e fa := h2.none Fr.refl.push.push
  by_cases he : e = 0
  · subst he
    obtain ⟨rfl, h3⟩ := h1 rfl
    have h3 : fa = 0 := h3
    subst h3
    refine O.call' (Rtake_ok (n := 32) (a := pl) h20) (fun r h3 hq => ?_)
    obtain ⟨hf3, hq⟩ := hq
    have hA : HGet h3 h.n (.cells z32 0) := hf3.keep (b := h.n) (HGet.push (k := BLt.new) (g := HGet.new)) (by simp; omega) (by omega)
    have hB : HGet h3 (h.push (AObj.cells z32 0)).n (.cells z32 0) := hf3.keep (b := (h.push (AObj.cells z32 0)).n) HGet.new (by simp) (by simp; omega)
    have hn3 := hf3.n
    simp only [Heap.n_push] at hn3
    rcases hq with ⟨hle, ho, hnew, hr3⟩ | ⟨hlt3, rfl, hr3⟩
    · generalize hd : (bs.drop pl).take 32 = d at ho
      have hdl : d.length = 32 := by rw [← hd, List.length_take, List.length_drop]; omega
      obtain ⟨a, cap, rfl, hl, hc⟩ := ho.rd
      obtain ⟨b, o, sp, rfl, hb, hcc⟩ := hc (by omega)
      rw [Nat.mul_one] at hcc
      have hbn : h.n + 2 ≤ b := by have := hnew b rfl; simpa using this
      refine stpDP ?_
      refine zvbQ_l0_rule (fun m v5 h' => ∃ i : Nat, i ≤ 32 ∧ m = 32 - i ∧ v5 = .int .i64 i ∧ h'.get (h.push (AObj.cells z32 0)).n = .cells (bcells (d.take i) ++ z32.drop i) 0 ∧ Fr (fun j => j = (h.push (AObj.cells z32 0)).n) h3 h') ?_ 32 ⟨0, by omega, rfl, rfl, hB.eq, Fr.refl⟩
      rintro m v5 h4 x12 x13 x14 x15 x16 x17 x18 x19 x20 x21 x22 x23 ⟨i, hi, rfl, rfl, hg, hf4⟩
      haveI : HGet h4 (h.push (AObj.cells z32 0)).n _ := ⟨hg⟩
      have hn4 := hf4.n
      refine stpDP ?_
      refine C.if (fun hlt => ?_) (fun hge => ?_)
      · have hcc4 : cellsAt h4 b o 32 = some (bcells d) := by rw [cellsAt_keep hf4 hb (by simp; omega)]; exact hcc
        haveI := byte_cell (k := i) hcc4 (by omega)
        have hcl : (bcells (d.take i) ++ z32.drop i).length = 32 := by rw [List.length_append, bcells_len, List.length_take, List.length_drop, z32_len]; omega
        refine stpDP ?_
        refine O.by0 (XOp.mkStore1 (P := Tryz.prog) (h := h4) (c := bcells (d.take i) ++ z32.drop i) (r := (h.push (AObj.cells z32 0)).n) (o := i) (v := .int .u8 (d.getD i 0).toNat) (sp := none) (by omega)).eq rfl ?_
        refine stpDP ?_
        refine zvbQ_l0_again (32 - (i + 1)) (by omega) ⟨i + 1, by omega, rfl, rfl, ?_, Fr.set hf4 fun _ => rfl⟩
        rw [Heap.get_set, if_pos rfl, lset_part (by omega) (by rw [z32_len]; omega)]
      · obtain rfl : i = 32 := by omega
        rw [List.take_of_length_le (by omega), List.drop_of_length_le (by rw [z32_len]; omega), List.append_nil] at hg
        haveI := l32 hdl
        haveI : HGet h4 (h.push (AObj.cells z32 0)).n _ := ⟨hg⟩
        haveI : HGet h4 h.n _ := hf4.keep hA (by omega) (by simp)
        refine stpDP ?_
        refine rrd_ok (a := d) (pl' := pl + 32) ?_ (Fr.set (hf0.trans' (hf3.trans' (Fr.refl)) |>.trans (S := fun i => i = p) hf4 fun j hj hb => ?_) fun hlt => by omega) ⟨rfl, hdl⟩ ((hr3.keep hf4 (by simp; omega) fun j hj => ?_).keep (S := fun j => j = h.n) (Fr.refl.set fun _ => rfl) (by omega) fun j hj => ?_)
        · unfold partS
          rw [if_neg (by omega), hd]
        · have : j = (h.push (AObj.cells z32 0)).n := hb
          simp at this
          omega
        · have := hown hj
          simp
          omega
        · have := hown hj
          omega
    · refine stpDP ?_
      refine zvbQ_l0_rule (fun m v5 h' => v5 = .int .i64 0 ∧ h3 = h') ?_ 0 ⟨rfl, rfl⟩
      rintro m v5 h4 x12 x13 x14 x15 x16 x17 x18 x19 x20 x21 x22 x23 ⟨rfl, rfl⟩
      refine stpDP ?_
      refine rrd_err (e := 6) ?_ (by omega) (Fr.set (hf0.trans' hf3) fun hlt => by omega) ⟨rfl, rfl⟩ (hr3.keep (S := fun j => j = h.n) (Fr.refl.set fun _ => rfl) (by omega) fun j hj => ?_)
      · unfold partS
        rw [if_pos (by omega)]
      · have := hown hj
        omega
  · refine O.call' (Rtake_bad h20 he) (fun r h3 hq => ?_)
    obtain ⟨rfl, rfl⟩ := hq
    refine stpDP ?_
    refine zvbQ_l0_rule (fun m v5 h' => v5 = .int .i64 0 ∧ (h.push (AObj.cells z32 0)).push (AObj.cells z32 0) = h') ?_ 0 ⟨rfl, rfl⟩
    rintro m v5 h4 x12 x13 x14 x15 x16 x17 x18 x19 x20 x21 x22 x23 ⟨rfl, rfl⟩
    refine stpDP ?_
    refine rrd_bad he (Fr.set hf0 fun hlt => by omega) ⟨rfl, rfl⟩ ((hp.none Fr.refl.push.push).keep (S := fun j => j = h.n) (Fr.refl.set fun _ => rfl) (by omega) fun j hj => ?_)
    have := hown hj
    omega
end Go.Proofs.YtbmpalbdbcjieaaGreat.A

namespace Go.Proofs.YtbmpalbdbcjieaaGreat.A
open Go Go.Vm
set_option maxRecDepth 10000
set_option linter.unusedVariables false
theorem under9 : Tryz.prog.underlying 9 = some .string := by kernel_rfl
theorem all_take {l : List UInt8} {k : Nat} (hk : k < l.length) (ha : (l.take k).all plainB = true) (hb : plainP ((l.getD k 0).toNat : Nat)) : (l.take (k + 1)).all plainB = true := by
  rw [take_succ_getD hk, List.all_append, ha]
  simp only [List.all_cons, List.all_nil, Bool.and_true, Bool.true_and]
  exact decide_eq_true hb
theorem all_not {l : List UInt8} {k : Nat} (hk : k < l.length) (hb : ¬ plainP ((l.getD k 0).toNat : Nat)) : nameS l = false := by
  have : l.all plainB = false := by
    refine List.all_eq_false.2 ⟨l.getD k 0, ?_, ?_⟩
    · rw [List.getD_eq_getElem?_getD, List.getElem?_eq_getElem hk]
      exact List.getElem_mem hk
    · intro h
      exact hb (of_decide_eq_true h)
  unfold nameS
  rw [this]
  simp
set_option maxHeartbeats 2000000 in
theorem RName_ok {h : Heap} {l : List UInt8} (hs : l.length < 1048576) : Runs Tryz.prog T0 (.fn fn_zicQ) [.string ⟨⟨l⟩⟩] h (fun r h' => r = .bool (nameS l) ∧ h' = h) (fun _ _ => False) := by
  have hsz : (ByteArray.mk ⟨l⟩).size = l.length := rfl
  refine zicQ_runs ?_
  refine stpDP ?_
  refine zicQ_l0_rule (fun m v3 h' => ∃ k : Nat, k ≤ l.length ∧ m = l.length - k ∧ v3 = .int .i64 k ∧ (l.take k).all plainB = true ∧ h = h') ?_ l.length ⟨0, by omega, rfl, rfl, by simp, rfl⟩
  rintro m v3 h' x2 x4 x5 x6 x7 x8 x9 x10 x11 x12 x13 x14 x15 x16 x17 x18 x19 x20 x21 x22 x23 x24 x25 x26 x27 x28 x29 x30 x31 ⟨k, hk, rfl, rfl, hall, rfl⟩
  refine stpDP ?_
  refine C.if (fun hlt => ?_) (fun hge => ?_)
  · rw [hsz] at hlt
    have hk' : k < l.length := by omega
    refine stpDP ?_
    refine O.how (XOp.mkIndexStr (l := l) (k := k) under9 rfl hk') ?_
    have hgood : ∀ {hp : plainP ((l.getD k 0).toNat : Nat)}, (l.take (k + 1)).all plainB = true := fun {hp} => all_take hk' hall hp
    have hbad : ¬ plainP ((l.getD k 0).toNat : Nat) → Value.bool false = .bool (nameS l) := fun hp => by rw [all_not hk' hp]
    generalize hb : (((l.getD k 0).toNat : Nat) : Int) = b at *
    unfold plainP at hbad hgood
    refine stpDP ?_
    refine O.dec (fun h1 => ?_) (fun h1 => ?_)
    · refine stpDP ?_
      refine O.dec (fun h3 => ?_) (fun h3 => ?_)
      · refine stpDP ?_
        refine C.ifN (fun h5 => ?_) (fun h5 => ?_)
        · refine stpDP ?_
          exact ⟨hbad (by omega), rfl⟩
        · refine stpDP ?_
          exact zicQ_l0_again (l.length - (k + 1)) (by omega) ⟨k + 1, by omega, rfl, rfl, hgood (hp := by omega), rfl⟩
      · refine stpDP ?_
        refine O.dec (fun h4 => ?_) (fun h4 => ?_)
        · refine stpDP ?_
          refine C.ifN (fun h5 => ?_) (fun h5 => ?_)
          · refine stpDP ?_
            exact ⟨hbad (by omega), rfl⟩
          · exfalso; omega
        · refine stpDP ?_
          exact zicQ_l0_again (l.length - (k + 1)) (by omega) ⟨k + 1, by omega, rfl, rfl, hgood (hp := by omega), rfl⟩
    · refine stpDP ?_
      refine O.dec (fun h2 => ?_) (fun h2 => ?_)
      · refine stpDP ?_
        refine O.dec (fun h3 => ?_) (fun h3 => ?_)
        · exfalso; omega
        · refine stpDP ?_
          refine O.dec (fun h4 => ?_) (fun h4 => ?_)
          · refine stpDP ?_
            refine C.ifN (fun h5 => ?_) (fun h5 => ?_)
            · refine stpDP ?_
              exact ⟨hbad (by omega), rfl⟩
            · exfalso; omega
          · exfalso; omega
      · refine stpDP ?_
        exact zicQ_l0_again (l.length - (k + 1)) (by omega) ⟨k + 1, by omega, rfl, rfl, hgood (hp := by omega), rfl⟩
  · rw [hsz] at hge
    obtain rfl : k = l.length := by omega
    rw [List.take_length] at hall
    unfold nameS
    rw [hall]
    refine stpDP ?_
    refine O.dec (fun h1 => ?_) (fun h1 => ?_)
    · refine stpDP ?_
      rw [hsz] at h1
      rw [hsz, decide_eq_true (show 1 ≤ l.length by omega)]
      refine ⟨?_, rfl⟩
      simp only [Bool.true_and, Bool.and_true]
      congr 1
      exact decide_eq_decide.2 (by omega)
    · refine stpDP ?_
      rw [hsz] at h1
      rw [decide_eq_false (show ¬ 1 ≤ l.length by omega)]
      exact ⟨by simp, rfl⟩
set_option maxHeartbeats 2000000 in
theorem RCheck_ok {h : Heap} {x : Hd} (hx : x.ok) (hs : x.chain.length < 1048576) : Runs Tryz.prog T0 (.fn fn_zfcQ) [.agg ⟨x.cells⟩] h (fun r h' => r = .int .i64 (checkS x) ∧ Fr (fun _ => False) h h') (fun _ _ => False) := by
  haveI := l32 hx.prev
  haveI := l32 hx.vals
  haveI := l32 hx.next
  haveI := l32 hx.app
  refine zfcQ_runs ?_
  refine stpDP ?_
  refine O.call' (RName_ok hs) (fun r h1 hr => ?_)
  obtain ⟨rfl, rfl⟩ := hr
  unfold checkS
  refine stpDP ?_
  refine C.ifB (fun h1 => ?_) (fun h1 => ?_)
  · refine stpDP ?_
    rw [if_pos (by simpa using h1)]
    exact ⟨rfl, Fr.refl.push⟩
  · have hn : nameS x.chain = true := by simpa using h1
    rw [if_neg (by rw [hn]; simp)]
    refine stpDP ?_
    refine O.dec (fun h1 => ?_) (fun h1 => ?_)
    · refine stpDP ?_
      rw [if_pos (by omega)]
      exact ⟨rfl, Fr.refl.push⟩
    · refine stpDP ?_
      refine O.dec (fun h2 => ?_) (fun h2 => ?_)
      · refine stpDP ?_
        rw [if_pos (by omega)]
        exact ⟨rfl, Fr.refl.push⟩
      · refine stpDP ?_
        rw [if_neg (by omega)]
        refine O.dec (fun h3 => ?_) (fun h3 => ?_)
        · refine stpDP ?_
          rw [if_pos (by omega)]
          exact ⟨rfl, Fr.refl.push⟩
        · refine stpDP ?_
          refine C.if (fun h4 => ?_) (fun h4 => ?_)
          · refine stpDP ?_
            rw [if_pos (by omega)]
            exact ⟨rfl, Fr.refl.push⟩
          · refine stpDP ?_
            rw [if_neg (by omega)]
            exact ⟨rfl, Fr.refl.push⟩
end Go.Proofs.YtbmpalbdbcjieaaGreat.A

namespace Go.Proofs.YtbmpalbdbcjieaaGreat.A
open Go Go.Vm
set_option maxRecDepth 10000
set_option linter.unusedVariables false
set_option maxHeartbeats 2000000 in
theorem RGet_ok {h : Heap} {p : Nat} {sv : Value} {bs : List UInt8} (hr : RRs h p sv bs ⟨0, 0, 0⟩) : Runs Tryz.prog T0 (.fn fn_zhcQ) [.pointer (some ⟨p, 0, none⟩)] h
    (fun r h' => r = .agg ⟨(stepD bs 4 (headD bs)).1.cells⟩ ∧ RRs h' p sv bs (stepD bs 4 (headD bs)).2 ∧ Fr (fun i => i = p) h h') (fun _ _ => False) := by
  have hp := hr.lt
  have hown := fun {i : Nat} (hi : ownedBy sv i) => hr.own_lt hi
  refine zhcQ_runs ?_
  refine stpDP ?_
  generalize hh0 : ((h.push (.cells (.string ⟨⟨[]⟩⟩ :: .int .i64 0 :: .int .i64 0 :: (z32 ++ (z32 ++ (z32 ++ z32)))) 0)).push (.cells (.string ⟨⟨[]⟩⟩ :: .int .i64 0 :: .int .i64 0 :: (z32 ++ (z32 ++ (z32 ++ z32)))) 0)) = h0
  have hf0 : Fr (fun _ => False) h h0 := by rw [← hh0]; exact Fr.refl.push.push
  have hn0 : h0.n = h.n + 2 := by rw [← hh0]; rfl
  have hA0 : HGet h0 h.n (.cells (.string ⟨⟨[]⟩⟩ :: .int .i64 0 :: .int .i64 0 :: (z32 ++ (z32 ++ (z32 ++ z32)))) 0) := by rw [← hh0]; exact HGet.push (k := BLt.new) (g := HGet.new)
  generalize hb3 : (h.push (.cells (.string ⟨⟨[]⟩⟩ :: .int .i64 0 :: .int .i64 0 :: (z32 ++ (z32 ++ (z32 ++ z32)))) 0)).n = b3
  have hb3' : b3 = h.n + 1 := by rw [← hb3]; rfl
  have hB0 : HGet h0 b3 (.cells (.string ⟨⟨[]⟩⟩ :: .int .i64 0 :: .int .i64 0 :: (z32 ++ (z32 ++ (z32 ++ z32)))) 0) := by rw [← hh0, ← hb3]; exact HGet.new
  have hr0 : RRs h0 p sv bs ⟨0, 0, 0⟩ := hr.none hf0
  clear hh0 hb3
  have setr : ∀ {h' : Heap} {st : RSt} {c : List Value}, RRs h' p sv bs st → RRs (h'.set b3 (.cells c 0)) p sv bs st := fun hr => hr.keep (S := fun j => j = b3) (Fr.refl.set fun _ => rfl) (by omega) fun i hi hn => by have := hown hi; omega
  have getr : ∀ {h1 h2 : Heap} {c : List Value}, h0.n ≤ h1.n → Fr (fun i => i = p) (h1.set b3 (.cells c 0)) h2 → HGet h2 b3 (.cells c 0) := fun hlt hf => hf.keep (b := b3) ⟨by rw [Heap.get_set, if_pos rfl]⟩ (by simp; omega) (by omega)
  have frm : ∀ {h1 h2 : Heap} {c : List Value}, Fr (fun i => i = p ∨ i = b3) h0 h1 → Fr (fun i => i = p) (h1.set b3 (.cells c 0)) h2 → Fr (fun i => i = p ∨ i = b3) h0 h2 := fun hf1 hf2 => (Fr.set hf1 fun _ => .inr rfl).trans' (hf2.mono fun _ _ h => .inl h)
  obtain ⟨t0, ht0⟩ : ∃ t, t = rd (bytesS bs 32) [] ⟨0, 0, 0⟩ := ⟨_, rfl⟩
  obtain ⟨t1, ht1⟩ : ∃ t, t = rd (numS bs) 0 t0.2 := ⟨_, rfl⟩
  obtain ⟨t2, ht2⟩ : ∃ t, t = rd (numS bs) 0 t1.2 := ⟨_, rfl⟩
  obtain ⟨t3, ht3⟩ : ∃ t, t = rd (partS 32 bs) zb32 t2.2 := ⟨_, rfl⟩
  obtain ⟨t4, ht4⟩ : ∃ t, t = rd (partS 32 bs) zb32 t3.2 := ⟨_, rfl⟩
  obtain ⟨t5, ht5⟩ : ∃ t, t = rd (partS 32 bs) zb32 t4.2 := ⟨_, rfl⟩
  obtain ⟨t6, ht6⟩ : ∃ t, t = rd (partS 32 bs) zb32 t5.2 := ⟨_, rfl⟩
  have hfin : stepD bs 4 (headD bs) = (⟨t0.1, t1.1, t2.1, t3.1, t4.1, t5.1, t6.1⟩, t6.2) := by rw [ht6, ht5, ht4, ht3, ht2, ht1, ht0]; rfl
  rw [hfin]
  clear hfin
  have k0 := RText_run (most := 32) hr0
  rw [← ht0] at k0
  refine O.call' k0 (fun r h1 hq => ?_)
  obtain ⟨hf1, rfl, hr1⟩ := hq
  have hn1 := hf1.n
  haveI : HGet h1 b3 _ := hf1.keep hB0 (by omega) (by omega)
  have g1 : Fr (fun i => i = p ∨ i = b3) h0 h1 := hf1.mono fun _ _ h => .inl h
  refine stpDP ?_
  have k1 := RNum_run (setr (c := .string ⟨⟨t0.1⟩⟩ :: .int .i64 0 :: .int .i64 0 :: (z32 ++ (z32 ++ (z32 ++ z32)))) hr1)
  rw [← ht1] at k1
  refine O.call' k1 (fun r h2 hq => ?_)
  obtain ⟨hf2, rfl, hr2⟩ := hq
  haveI := getr hn1 hf2
  have g2 := frm g1 hf2
  have hn2 := g2.n
  refine stpDP ?_
  have k2 := RNum_run (setr (c := .string ⟨⟨t0.1⟩⟩ :: .int .i64 (t1.1 : Nat) :: .int .i64 0 :: (z32 ++ (z32 ++ (z32 ++ z32)))) hr2)
  rw [← ht2] at k2
  refine O.call' k2 (fun r h3 hq => ?_)
  obtain ⟨hf3, rfl, hr3⟩ := hq
  haveI := getr hn2 hf3
  have g3 := frm g2 hf3
  have hn3 := g3.n
  refine stpDP ?_
  have k3 := RHash_run (setr (c := .string ⟨⟨t0.1⟩⟩ :: .int .i64 (t1.1 : Nat) :: .int .i64 (t2.1 : Nat) :: (z32 ++ (z32 ++ (z32 ++ z32)))) hr3)
  rw [← ht3] at k3
  refine O.call' k3 (fun r h4 hq => ?_)
  obtain ⟨hf4, ⟨rfl, hl3⟩, hr4⟩ := hq
  haveI := getr hn3 hf4
  have g4 := frm g3 hf4
  have hn4 := g4.n
  haveI := l32 hl3
  refine stpDP ?_
  have k4 := RHash_run (setr (c := .string ⟨⟨t0.1⟩⟩ :: .int .i64 (t1.1 : Nat) :: .int .i64 (t2.1 : Nat) :: (bcells t3.1 ++ (z32 ++ (z32 ++ z32)))) hr4)
  rw [← ht4] at k4
  refine O.call' k4 (fun r h5 hq => ?_)
  obtain ⟨hf5, ⟨rfl, hl4⟩, hr5⟩ := hq
  haveI := getr hn4 hf5
  have g5 := frm g4 hf5
  have hn5 := g5.n
  haveI := l32 hl4
  refine stpDP ?_
  have k5 := RHash_run (setr (c := .string ⟨⟨t0.1⟩⟩ :: .int .i64 (t1.1 : Nat) :: .int .i64 (t2.1 : Nat) :: (bcells t3.1 ++ (bcells t4.1 ++ (z32 ++ z32)))) hr5)
  rw [← ht5] at k5
  refine O.call' k5 (fun r h6 hq => ?_)
  obtain ⟨hf6, ⟨rfl, hl5⟩, hr6⟩ := hq
  haveI := getr hn5 hf6
  have g6 := frm g5 hf6
  have hn6 := g6.n
  haveI := l32 hl5
  refine stpDP ?_
  have k6 := RHash_run (setr (c := .string ⟨⟨t0.1⟩⟩ :: .int .i64 (t1.1 : Nat) :: .int .i64 (t2.1 : Nat) :: (bcells t3.1 ++ (bcells t4.1 ++ (bcells t5.1 ++ z32)))) hr6)
  rw [← ht6] at k6
  refine O.call' k6 (fun r h7 hq => ?_)
  obtain ⟨hf7, ⟨rfl, hl6⟩, hr7⟩ := hq
  haveI := getr hn6 hf7
  have g7 := frm g6 hf7
  have hn7 := g7.n
  haveI := l32 hl6
  haveI : BLt b3 h7 := ⟨by omega⟩
  haveI : HGet (h7.set b3 (.cells (.string ⟨⟨t0.1⟩⟩ :: .int .i64 (t1.1 : Nat) :: .int .i64 (t2.1 : Nat) :: (bcells t3.1 ++ (bcells t4.1 ++ (bcells t5.1 ++ bcells t6.1)))) 0)) h.n (.cells (.string ⟨⟨[]⟩⟩ :: .int .i64 0 :: .int .i64 0 :: (z32 ++ (z32 ++ (z32 ++ z32)))) 0) := ⟨by rw [Heap.get_set, if_neg (by omega)]; exact (g7.keep hA0 (by omega) (by omega)).eq⟩
  haveI q1 : Sub (.string ⟨⟨t0.1⟩⟩ :: .int .i64 (t1.1 : Nat) :: .int .i64 (t2.1 : Nat) :: (bcells t3.1 ++ (bcells t4.1 ++ (bcells t5.1 ++ bcells t6.1)))) 0 131 _ := inferInstance
  haveI q2 : HGet (h7.set b3 (.cells (.string ⟨⟨t0.1⟩⟩ :: .int .i64 (t1.1 : Nat) :: .int .i64 (t2.1 : Nat) :: (bcells t3.1 ++ (bcells t4.1 ++ (bcells t5.1 ++ bcells t6.1)))) 0)) b3 (.cells (.string ⟨⟨t0.1⟩⟩ :: .int .i64 (t1.1 : Nat) :: .int .i64 (t2.1 : Nat) :: (bcells t3.1 ++ (bcells t4.1 ++ (bcells t5.1 ++ bcells t6.1)))) 0) := .same
  haveI q3 : Cells (h7.set b3 (.cells (.string ⟨⟨t0.1⟩⟩ :: .int .i64 (t1.1 : Nat) :: .int .i64 (t2.1 : Nat) :: (bcells t3.1 ++ (bcells t4.1 ++ (bcells t5.1 ++ bcells t6.1)))) 0)) b3 0 131 (.string ⟨⟨t0.1⟩⟩ :: .int .i64 (t1.1 : Nat) :: .int .i64 (t2.1 : Nat) :: (bcells t3.1 ++ (bcells t4.1 ++ (bcells t5.1 ++ bcells t6.1)))) := inferInstance
  refine stpDP ?_
  refine ⟨rfl, (setr hr7).keep (S := fun j => j = h.n) (Fr.refl.set fun _ => rfl) (by omega) fun i hi hn => ?_, ?_⟩
  · have := hown hi
    omega
  · refine Fr.set (Fr.set (Fr.trans (S := fun i => i = p) (hf0.mono fun _ _ h => h.elim) g7 fun i hi ho => ?_) fun hlt => by omega) fun hlt => by omega
    rcases ho with h | h
    · exact h
    · omega
end Go.Proofs.YtbmpalbdbcjieaaGreat.A

namespace Go.Proofs.YtbmpalbdbcjieaaGreat.A
open Go Go.Vm
set_option maxRecDepth 10000
set_option linter.unusedVariables false
theorem REnd_run {h : Heap} {p : Nat} {sv : Value} {bs : List UInt8} {st : RSt} (hp : RRs h p sv bs st) :
    Runs Tryz.prog T0 (.fn fn_ztbQ) [.pointer (some ⟨p, 0, none⟩)] h (fun r h' => r = .agg ⟨[.int .i64 (endS bs st).1, .int .i64 (endS bs st).2]⟩ ∧ Fr (fun _ => False) h h') (fun _ _ => False) := by
  obtain ⟨pl, h1, hr⟩ := hp.ex
  obtain ⟨a, cap, rfl, hlen, _⟩ := hr.own.rd
  haveI : HGet h p _ := ⟨hr.get⟩
  haveI : BLt p h := ⟨hr.lt⟩
  refine ztbQ_runs ?_
  unfold endS
  refine stpP ?_
  refine D.dec (fun he => ?_) (fun he => ?_)
  · obtain ⟨h2, h3⟩ := h1 he
    refine stpP ?_
    refine C.if (fun hlt => ?_) (fun hge => ?_)
    · refine stpP ?_
      rw [if_pos ⟨he, by omega⟩, h2]
      exact ⟨rfl, Fr.refl.push⟩
    · refine stpP ?_
      rw [if_neg (by omega)]
      exact ⟨rfl, Fr.refl.push⟩
  · refine stpP ?_
    rw [if_neg (fun h => he h.1)]
    exact ⟨rfl, Fr.refl.push⟩
theorem RRs.zero {h : Heap} {p : Nat} {sv : Value} {bs : List UInt8} {st : RSt} (hp : RRs h p sv bs st) (h0 : (endS bs st).1 = 0) : (endS bs st).2 = 0 := by
  unfold endS at h0 ⊢
  split at h0
  · cases h0
  · rename_i hc
    rw [if_neg hc]
    obtain ⟨_, h1, _⟩ := hp.ex
    exact (h1 h0).2
theorem headD_chain (bs : List UInt8) : (headD bs).1.chain.length ≤ bs.length := by
  show (rd (bytesS bs 32) [] ⟨0, 0, 0⟩).1.length ≤ _
  unfold rd
  rw [if_pos rfl]
  cases hS : bytesS bs 32 0 with
  | error e => simp
  | ok x =>
    obtain ⟨l, pl⟩ := x
    unfold bytesS at hS
    split at hS
    · cases hS
    · split at hS
      · cases hS
      · split at hS
        · cases hS
        · cases hS
          simp only [List.length_take, List.length_drop]
          omega
theorem setH_chain (k : Nat) (x : Hd) (l : List UInt8) : (setH k x l).chain = x.chain := by
  unfold setH
  split <;> rfl
theorem stepD_chain (bs : List UInt8) (y : Hd × RSt) : ∀ k, (stepD bs k y).1.chain = y.1.chain
  | 0 => rfl
  | k + 1 => by
    show (setH k (stepD bs k y).1 _).chain = _
    rw [setH_chain, stepD_chain bs y k]
set_option maxHeartbeats 2000000 in
theorem RDecode_ok {h : Heap} {v : Value} {bs : List UInt8} (hv : Rd h 1 v (bcells bs) bs.length) (hs : bs.length < 1048576) : Runs Tryz.prog T0 (.fn fn_zgcQ) [v] h
    (fun r h' => r = .tuple ⟨[.agg ⟨(decS bs).1.cells⟩, .agg ⟨[.int .i64 (decS bs).2.1, .int .i64 (decS bs).2.2]⟩]⟩ ∧ Fr (fun _ => False) h h') (fun _ _ => False) := by
  refine zgcQ_runs ?_
  refine stpP ?_
  generalize hh0 : ((h.push (.cells (.string ⟨⟨[]⟩⟩ :: .int .i64 0 :: .int .i64 0 :: (z32 ++ (z32 ++ (z32 ++ z32)))) 0)).push (.cells [.int .i64 0, .int .i64 0] 0)) = h0
  have hf0 : Fr (fun _ => False) h h0 := by rw [← hh0]; exact Fr.refl.push.push
  have hn0 : h0.n = h.n + 2 := by rw [← hh0]; rfl
  have hA0 : HGet h0 h.n (.cells (.string ⟨⟨[]⟩⟩ :: .int .i64 0 :: .int .i64 0 :: (z32 ++ (z32 ++ (z32 ++ z32)))) 0) := by rw [← hh0]; exact HGet.push (k := BLt.new) (g := HGet.new)
  generalize hb3 : (h.push (.cells (.string ⟨⟨[]⟩⟩ :: .int .i64 0 :: .int .i64 0 :: (z32 ++ (z32 ++ (z32 ++ z32)))) 0)).n = b3
  have hb3' : b3 = h.n + 1 := by rw [← hb3]; rfl
  have hB0 : HGet h0 b3 (.cells [.int .i64 0, .int .i64 0] 0) := by rw [← hh0, ← hb3]; exact HGet.new
  clear hh0 hb3
  refine O.call' (RNew_ok (hv.keep hf0 fun _ _ => id) hs) (fun r h1 hr => ?_)
  obtain ⟨p, sv, rfl, hp1, hsv, hr1, hf1⟩ := hr
  have hlt1 := hr1.lt
  refine stpP ?_
  refine O.call' (RGet_ok hr1) (fun r h2 hr => ?_)
  obtain ⟨rfl, hr2, hf2⟩ := hr
  have hn2 := hf2.n
  have hok := stepD_ok (bs := bs) (y := headD bs) ⟨rfl, rfl, rfl, rfl⟩ 4
  have hch : (stepD bs 4 (headD bs)).1.chain.length < 1048576 := by
    rw [stepD_chain]
    have := headD_chain bs
    omega
  have hdec : decS bs = (let f := endS bs (stepD bs 4 (headD bs)).2; let g := if f = (0, 0) then (checkS (stepD bs 4 (headD bs)).1, 0) else f; if g = (0, 0) then ((stepD bs 4 (headD bs)).1, (0, 0)) else (zeroHd, g)) := rfl
  generalize stepD bs 4 (headD bs) = z at *
  obtain ⟨X, st⟩ := z
  simp only at hr2 hok hch hdec
  haveI := l32 hok.prev
  haveI := l32 hok.vals
  haveI := l32 hok.next
  haveI := l32 hok.app
  have hf12 : Fr (fun _ => False) h0 h2 := Fr.trans (S := fun _ => False) hf1 hf2 fun i hi h => by omega
  have hA2 : HGet h2 h.n _ := hf12.keep hA0 (by omega) id
  have hB2 : HGet h2 b3 _ := hf12.keep hB0 (by omega) id
  refine stpP ?_
  have k3 := REnd_run (hr2.none (Fr.refl.push (o := .cells X.cells 0)))
  have hz := hr2.zero
  refine O.call' k3 (fun r h3 hr => ?_)
  obtain ⟨rfl, hf3⟩ := hr
  have hf23 : Fr (fun _ => False) h2 h3 := Fr.trans (S := fun _ => False) Fr.refl.push hf3 fun _ _ h => h
  have hn3 := hf3.n
  simp only [Heap.n_push] at hn3
  generalize endS bs st = F at *
  obtain ⟨e, a⟩ := F
  simp only at hz hdec
  haveI hC3 : HGet h3 h2.n (.cells X.cells 0) := hf3.keep (b := h2.n) HGet.new (by simp) id
  haveI hA3 : HGet h3 h.n _ := hf23.keep hA2 (by omega) id
  haveI hB3 : HGet h3 b3 _ := hf23.keep hB2 (by omega) id
  haveI : BLt h2.n h3 := ⟨by omega⟩
  haveI : BLt h.n h3 := ⟨by omega⟩
  haveI : BLt b3 h3 := ⟨by omega⟩
  have hfh3 : Fr (fun _ => False) h h3 := hf0.trans' (hf12.trans' hf23)
  refine stpP ?_
  simp only
  rw [hdec]
  clear hdec k3
  haveI : BNe h2.n h3.n := ⟨by omega⟩
  haveI : BNe h.n h3.n := ⟨by omega⟩
  haveI : BNe b3 h3.n := ⟨by omega⟩
  haveI : BNe h3.n h.n := ⟨by omega⟩
  haveI : BNe h3.n b3 := ⟨by omega⟩
  haveI : BNe b3 h.n := ⟨by omega⟩
  haveI : BNe h.n b3 := ⟨by omega⟩
  haveI : BNe h2.n h.n := ⟨by omega⟩
  refine C.if (fun he => ?_) (fun he => ?_)
  · subst he
    obtain rfl := hz rfl
    refine stpP ?_
    refine O.call' (RCheck_ok hok hch) (fun r h4 hr => ?_)
    obtain ⟨rfl, hf4⟩ := hr
    haveI : HGet h4 h3.n _ := hf4.keep (b := h3.n) HGet.new (by simp) id
    haveI : HGet h4 h2.n _ := hf4.keep (b := h2.n) (HGet.push (o := .cells X.cells 0)) (by simp; omega) id
    haveI : HGet h4 h.n _ := hf4.keep (b := h.n) (HGet.push (g := hA3)) (by simp; omega) id
    haveI : HGet h4 b3 _ := hf4.keep (b := b3) (HGet.push (g := hB3)) (by simp; omega) id
    have hfh4 : Fr (fun _ => False) h h4 := hfh3.trans' (Fr.trans (S := fun _ => False) Fr.refl.push hf4 fun _ _ h => h)
    refine stpP ?_
    simp only [if_true]
    refine C.ifN (fun hc => ?_) (fun hc => ?_)
    · refine stpP ?_
      rw [if_neg (fun h => hc (by injection h))]
      exact ⟨rfl, Fr.set (Fr.set (Fr.set hfh4 fun hlt => by omega) fun hlt => by omega) fun hlt => by omega⟩
    · rw [hc]
      refine stpP ?_
      rw [if_pos rfl]
      exact ⟨rfl, Fr.set (Fr.set (Fr.set hfh4 fun hlt => by omega) fun hlt => by omega) fun hlt => by omega⟩
  · have hne : ¬ ((e, a) : Int × Int) = (0, 0) := fun h => he (by injection h)
    refine stpP ?_
    refine C.ifN (fun hc => ?_) (fun hc => absurd hc he)
    refine stpP ?_
    simp only [if_neg hne]
    exact ⟨rfl, Fr.set (Fr.set hfh3.push fun hlt => by omega) fun hlt => by omega⟩
end Go.Proofs.YtbmpalbdbcjieaaGreat.A

namespace Go.Proofs.YtbmpalbdbcjieaaGreat.A
open Go Go.Vm
set_option maxRecDepth 10000
set_option linter.unusedVariables false
theorem z4_len : z4.length = 4 := rfl
theorem RKey_run {h : Heap} {p : Nat} {sv : Value} {bs : List UInt8} {st : RSt} (hp : RRs h p sv bs st) :
    Runs Tryz.prog T0 (.fn fn_zwbQ) [.pointer (some ⟨p, 0, none⟩)] h (RReads h p sv bs (rd (partS 4 bs) zb4 st) fun l r _ => r = .agg ⟨bcells l⟩ ∧ l.length = 4) (fun _ _ => False) := by
  obtain ⟨st1, e, fa⟩ := st
  obtain ⟨pl, h1, h2⟩ := hp.ex
  have hlt := h2.lt
  have hown := fun {i : Nat} (hi : ownedBy sv i) => h2.own.lt hi
  haveI : HGet h p _ := ⟨h2.get⟩
  haveI : BLt p h := ⟨h2.lt⟩
  refine zwbQ_runs ?_
  refine stpDP ?_
  have hf0 : Fr (fun i => i = p) h ((h.push (AObj.cells z4 0)).push (AObj.cells z4 0)) := Fr.refl.push.push
  have h20 : RR ((h.push (AObj.cells z4 0)).push (AObj.cells z4 0)) p sv bs pl e fa := h2.none Fr.refl.push.push
  by_cases he : e = 0
  · subst he
    obtain ⟨rfl, h3⟩ := h1 rfl
    have h3 : fa = 0 := h3
    subst h3
    refine O.call' (Rtake_ok (n := 4) (a := pl) h20) (fun r h3 hq => ?_)
    obtain ⟨hf3, hq⟩ := hq
    have hA : HGet h3 h.n (.cells z4 0) := hf3.keep (b := h.n) (HGet.push (k := BLt.new) (g := HGet.new)) (by simp; omega) (by omega)
    have hB : HGet h3 (h.push (AObj.cells z4 0)).n (.cells z4 0) := hf3.keep (b := (h.push (AObj.cells z4 0)).n) HGet.new (by simp) (by simp; omega)
    have hn3 := hf3.n
    simp only [Heap.n_push] at hn3
    rcases hq with ⟨hle, ho, hnew, hr3⟩ | ⟨hlt3, rfl, hr3⟩
    · generalize hd : (bs.drop pl).take 4 = d at ho
      have hdl : d.length = 4 := by rw [← hd, List.length_take, List.length_drop]; omega
      obtain ⟨a, cap, rfl, hl, hc⟩ := ho.rd
      obtain ⟨b, o, sp, rfl, hb, hcc⟩ := hc (by omega)
      rw [Nat.mul_one] at hcc
      have hbn : h.n + 2 ≤ b := by have := hnew b rfl; simpa using this
      refine stpDP ?_
      refine zwbQ_l0_rule (fun m v5 h' => ∃ i : Nat, i ≤ 4 ∧ m = 4 - i ∧ v5 = .int .i64 i ∧ h'.get (h.push (AObj.cells z4 0)).n = .cells (bcells (d.take i) ++ z4.drop i) 0 ∧ Fr (fun j => j = (h.push (AObj.cells z4 0)).n) h3 h') ?_ 4 ⟨0, by omega, rfl, rfl, hB.eq, Fr.refl⟩
      rintro m v5 h4 x12 x13 x14 x15 x16 x17 x18 x19 x20 x21 x22 x23 ⟨i, hi, rfl, rfl, hg, hf4⟩
      haveI : HGet h4 (h.push (AObj.cells z4 0)).n _ := ⟨hg⟩
      have hn4 := hf4.n
      refine stpDP ?_
      refine C.if (fun hlt => ?_) (fun hge => ?_)
      · have hcc4 : cellsAt h4 b o 4 = some (bcells d) := by rw [cellsAt_keep hf4 hb (by simp; omega)]; exact hcc
        haveI := byte_cell (k := i) hcc4 (by omega)
        have hcl : (bcells (d.take i) ++ z4.drop i).length = 4 := by rw [List.length_append, bcells_len, List.length_take, List.length_drop, z4_len]; omega
        refine stpDP ?_
        refine O.by0 (XOp.mkStore1 (P := Tryz.prog) (h := h4) (c := bcells (d.take i) ++ z4.drop i) (r := (h.push (AObj.cells z4 0)).n) (o := i) (v := .int .u8 (d.getD i 0).toNat) (sp := none) (by omega)).eq rfl ?_
        refine stpDP ?_
        refine zwbQ_l0_again (4 - (i + 1)) (by omega) ⟨i + 1, by omega, rfl, rfl, ?_, Fr.set hf4 fun _ => rfl⟩
        rw [Heap.get_set, if_pos rfl, lset_part (by omega) (by rw [z4_len]; omega)]
      · obtain rfl : i = 4 := by omega
        rw [List.take_of_length_le (by omega), List.drop_of_length_le (by rw [z4_len]; omega), List.append_nil] at hg
        obtain ⟨a1, a2, a3, a4, rfl⟩ := four hdl
        rw [bcells4] at hg
        haveI : HGet h4 (h.push (AObj.cells z4 0)).n _ := ⟨hg⟩
        haveI : HGet h4 h.n _ := hf4.keep hA (by omega) (by simp)
        refine stpDP ?_
        refine rrd_ok (a := [a1, a2, a3, a4]) (pl' := pl + 4) ?_ (Fr.set (hf0.trans' (hf3.trans' (Fr.refl)) |>.trans (S := fun i => i = p) hf4 fun j hj hb => ?_) fun hlt => by omega) ⟨rfl, rfl⟩ ((hr3.keep hf4 (by simp; omega) fun j hj => ?_).keep (S := fun j => j = h.n) (Fr.refl.set fun _ => rfl) (by omega) fun j hj => ?_)
        · unfold partS
          rw [if_neg (by omega), hd]
        · have : j = (h.push (AObj.cells z4 0)).n := hb
          simp at this
          omega
        · have := hown hj
          simp
          omega
        · have := hown hj
          omega
    · refine stpDP ?_
      refine zwbQ_l0_rule (fun m v5 h' => v5 = .int .i64 0 ∧ h3 = h') ?_ 0 ⟨rfl, rfl⟩
      rintro m v5 h4 x12 x13 x14 x15 x16 x17 x18 x19 x20 x21 x22 x23 ⟨rfl, rfl⟩
      refine stpDP ?_
      refine rrd_err (e := 6) ?_ (by omega) (Fr.set (hf0.trans' hf3) fun hlt => by omega) ⟨rfl, rfl⟩ (hr3.keep (S := fun j => j = h.n) (Fr.refl.set fun _ => rfl) (by omega) fun j hj => ?_)
      · unfold partS
        rw [if_pos (by omega)]
      · have := hown hj
        omega
  · refine O.call' (Rtake_bad h20 he) (fun r h3 hq => ?_)
    obtain ⟨rfl, rfl⟩ := hq
    refine stpDP ?_
    refine zwbQ_l0_rule (fun m v5 h' => v5 = .int .i64 0 ∧ (h.push (AObj.cells z4 0)).push (AObj.cells z4 0) = h') ?_ 0 ⟨rfl, rfl⟩
    rintro m v5 h4 x12 x13 x14 x15 x16 x17 x18 x19 x20 x21 x22 x23 ⟨rfl, rfl⟩
    refine stpDP ?_
    refine rrd_bad he (Fr.set hf0 fun hlt => by omega) ⟨rfl, rfl⟩ ((hp.none Fr.refl.push.push).keep (S := fun j => j = h.n) (Fr.refl.set fun _ => rfl) (by omega) fun j hj => ?_)
    have := hown hj
    omega
end Go.Proofs.YtbmpalbdbcjieaaGreat.A

namespace Go.Proofs.YtbmpalbdbcjieaaGreat.A
open Go Go.Vm
set_option maxRecDepth 10000
set_option linter.unusedVariables false
theorem u8eq {a b : UInt8} : ((a.toNat : Int) = (b.toNat : Int)) ↔ a = b := by
  rw [Int.ofNat_inj, UInt8.toNat_inj]
theorem u8lt {a b : UInt8} : ((a.toNat : Int) < (b.toNat : Int)) ↔ a < b := by
  rw [Int.ofNat_lt, UInt8.lt_iff_toNat_lt]
theorem Less_ok {h : Heap} {a0 a1 a2 a3 b0 b1 b2 b3 : UInt8} :
    Runs Tryz.prog T0 (.fn fn_zecQ) [.agg ⟨[.int .u8 a0.toNat, .int .u8 a1.toNat, .int .u8 a2.toNat, .int .u8 a3.toNat]⟩, .agg ⟨[.int .u8 b0.toNat, .int .u8 b1.toNat, .int .u8 b2.toNat, .int .u8 b3.toNat]⟩] h
      (fun r h' => r = .bool (keyLt [a0, a1, a2, a3] [b0, b1, b2, b3]) ∧ Fr (fun _ => False) h h') (fun _ _ => False) := by
  refine zecQ_runs ?_
  refine stpP ?_
  rw [keyLt4]
  generalize hh : (h.push (.cells [.int .u8 a0.toNat, .int .u8 a1.toNat, .int .u8 a2.toNat, .int .u8 a3.toNat] 0)).push (.cells [.int .u8 b0.toNat, .int .u8 b1.toNat, .int .u8 b2.toNat, .int .u8 b3.toNat] 0) = h0
  have hA : HGet h0 h.n (.cells [.int .u8 a0.toNat, .int .u8 a1.toNat, .int .u8 a2.toNat, .int .u8 a3.toNat] 0) := by rw [← hh]; exact HGet.push (k := BLt.new) (g := HGet.new)
  generalize hb : (h.push (.cells [.int .u8 a0.toNat, .int .u8 a1.toNat, .int .u8 a2.toNat, .int .u8 a3.toNat] 0)).n = b
  have hB : HGet h0 b (.cells [.int .u8 b0.toNat, .int .u8 b1.toNat, .int .u8 b2.toNat, .int .u8 b3.toNat] 0) := by rw [← hh, ← hb]; exact HGet.new
  have hf : Fr (fun _ => False) h h0 := by rw [← hh]; exact Fr.refl.push.push
  clear hh hb
  haveI := hA
  haveI := hB
  refine zecQ_l0_rule (fun m v5 h' => ∃ k : Nat, k ≤ 4 ∧ m = 4 - k ∧ v5 = .int .i64 k ∧ h' = h0 ∧ (0 < k → a0 = b0) ∧ (1 < k → a1 = b1) ∧ (2 < k → a2 = b2) ∧ (3 < k → a3 = b3)) ?_ 4 ⟨0, by omega, rfl, rfl, rfl, by omega, by omega, by omega, by omega⟩
  rintro m v5 h' x4 x6 x7 x8 x9 x10 x11 x12 x13 x14 x15 x16 x17 x18 x19 x20 x21 x22 x23 ⟨k, hk, rfl, rfl, rfl, e0, e1, e2, e3⟩
  rcases (show k = 0 ∨ k = 1 ∨ k = 2 ∨ k = 3 ∨ k = 4 by omega) with rfl | rfl | rfl | rfl | rfl
  · refine stpP ?_
    refine C.ifN (fun hne => ?_) (fun heq => ?_)
    · refine stpP ?_
      rw [if_pos (fun h => hne (u8eq.2 h))]
      exact ⟨by congr 1; exact decide_eq_decide.2 u8lt, hf⟩
    · refine stpP ?_
      exact zecQ_l0_again 3 (by omega) ⟨1, by omega, rfl, rfl, rfl, fun _ => u8eq.1 heq, by omega, by omega, by omega⟩
  · refine stpP ?_
    refine C.ifN (fun hne => ?_) (fun heq => ?_)
    · refine stpP ?_
      rw [if_neg (fun h => h (e0 (by omega))), if_pos (fun h => hne (u8eq.2 h))]
      exact ⟨by congr 1; exact decide_eq_decide.2 u8lt, hf⟩
    · refine stpP ?_
      exact zecQ_l0_again 2 (by omega) ⟨2, by omega, rfl, rfl, rfl, fun _ => e0 (by omega), fun _ => u8eq.1 heq, by omega, by omega⟩
  · refine stpP ?_
    refine C.ifN (fun hne => ?_) (fun heq => ?_)
    · refine stpP ?_
      rw [if_neg (fun h => h (e0 (by omega))), if_neg (fun h => h (e1 (by omega))), if_pos (fun h => hne (u8eq.2 h))]
      exact ⟨by congr 1; exact decide_eq_decide.2 u8lt, hf⟩
    · refine stpP ?_
      exact zecQ_l0_again 1 (by omega) ⟨3, by omega, rfl, rfl, rfl, fun _ => e0 (by omega), fun _ => e1 (by omega), fun _ => u8eq.1 heq, by omega⟩
  · refine stpP ?_
    refine C.ifN (fun hne => ?_) (fun heq => ?_)
    · refine stpP ?_
      rw [if_neg (fun h => h (e0 (by omega))), if_neg (fun h => h (e1 (by omega))), if_neg (fun h => h (e2 (by omega))), if_pos (fun h => hne (u8eq.2 h))]
      exact ⟨by congr 1; exact decide_eq_decide.2 u8lt, hf⟩
    · refine stpP ?_
      exact zecQ_l0_again 0 (by omega) ⟨4, by omega, rfl, rfl, rfl, fun _ => e0 (by omega), fun _ => e1 (by omega), fun _ => e2 (by omega), fun _ => u8eq.1 heq⟩
  · refine stpP ?_
    rw [if_neg (fun h => h (e0 (by omega))), if_neg (fun h => h (e1 (by omega))), if_neg (fun h => h (e2 (by omega))), if_neg (fun h => h (e3 (by omega)))]
    exact ⟨rfl, hf⟩
set_option maxHeartbeats 4000000 in
theorem RVCheck_ok {h : Heap} {v : Value} {l : List Val} (hv : Rd h 5 v (vcells l) l.length) :
    Runs Tryz.prog T0 (.fn fn_zccQ) [v] h (fun r h' => r = .int .i64 (checkV l) ∧ Fr (fun _ => False) h h') (fun _ _ => False) := by
  obtain ⟨a, cap, rfl, hlen, hc⟩ := hv
  refine zccQ_runs ?_
  refine stpP ?_
  unfold checkV
  refine C.if (fun h0 => ?_) (fun h0 => ?_)
  · refine stpP ?_
    rw [if_pos (by omega)]
    exact ⟨rfl, Fr.refl⟩
  rw [if_neg (by omega)]
  refine stpP ?_
  refine C.if (fun h1 => ?_) (fun h1 => ?_)
  · refine stpP ?_
    rw [if_pos (by omega)]
    exact ⟨rfl, Fr.refl⟩
  rw [if_neg (by omega)]
  obtain ⟨b, o, sp, rfl, hb, hcc⟩ := hc (by omega)
  refine stpP ?_
  refine zccQ_l0_rule (fun m v3 h' => ∃ k : Nat, k ≤ l.length ∧ m = l.length - k ∧ v3 = .int .i64 k ∧ Fr (fun _ => False) h h' ∧ stepsV 1 none l = stepsV 1 (lastV l k) (l.drop k)) ?_ l.length ⟨0, by omega, rfl, rfl, Fr.refl, rfl⟩
  rintro m v3 h' x2 x12 x13 x14 x15 x16 x17 x18 x19 x20 x21 x22 x23 x24 x25 x26 x27 x28 x29 x30 x31 x32 x33 x34 x35 x36 x37 x38 x39 x40 x41 x42 x43 x44 x45 x46 x47 x48 x49 x50 ⟨k, hk, rfl, rfl, hf, hst⟩
  refine stpP ?_
  refine C.if (fun hlt => ?_) (fun hge => ?_)
  · have hlt : k < l.length := by omega
    have hcc' : cellsAt h' b o (l.length * 5) = some (vcells l) := by rw [cellsAt_keep hf hb id]; exact hcc
    haveI := val_power hcc' rfl hlt
    haveI := val_key hcc' rfl hlt
    have hin : ∀ x : Val, (0 < k → keyLt x.key (l.getD k zVal).key = true) → atS x (decide (0 < k)) 1 4611686018427387904 (l.getD k zVal) = if (l.getD k zVal).p < 1 ∨ 4611686018427387904 < (l.getD k zVal).p then 3 else 0 := fun x hx => by
      unfold atS
      rw [if_neg]
      by_cases h0 : 0 < k
      · rw [hx h0]; simp
      · simp [h0]
    refine stpP ?_
    refine D.dec (fun h0 => ?_) (fun h0 => ?_)
    · obtain ⟨j, rfl⟩ : ∃ j, k = j + 1 := ⟨k - 1, by omega⟩
      haveI := val_key (k := j) hcc' rfl (by omega)
      refine stpP ?_
      rw [show ((j + 1 : Nat) : Int) - 1 = (j : Nat) from by omega]
      refine D.howT (XOp.mkIndexSl (by omega)) rfl ?_
      refine stpP ?_
      refine D.howT (XOp.mkIndexSl (by omega)) rfl ?_
      refine stpP ?_
      refine D.callT (Less_ok) (fun _ _ _ => rfl) (fun r h2 hr => ?_)
      obtain ⟨rfl, hf2⟩ := hr
      have hf2' := hf.trans' hf2
      have hcc2 : cellsAt h2 b o (l.length * 5) = some (vcells l) := by rw [cellsAt_keep hf2 (hf.lt hb) id]; exact hcc'
      haveI := val_power hcc2 rfl hlt
      rw [stepsV_atS (x := l.getD j zVal) hlt (fun _ => rfl)] at hst
      refine stpP ?_
      refine C.ifB (fun hb => ?_) (fun hb => ?_)
      · have hb : keyLt (l.getD j zVal).key (l.getD (j + 1) zVal).key = false := by simpa using hb
        refine stpP ?_
        rw [hst]
        unfold atS
        rw [hb]
        exact ⟨rfl, hf2'⟩
      · have hb : keyLt (l.getD j zVal).key (l.getD (j + 1) zVal).key = true := by simpa using hb
        rw [hin _ (fun _ => hb)] at hst
        refine stpP ?_
        refine O.dec (fun h1 => ?_) (fun h1 => ?_)
        · refine stpP ?_
          rw [hst, if_pos (show (l.getD (j + 1) zVal).p < 1 ∨ 4611686018427387904 < (l.getD (j + 1) zVal).p from .inl h1)]
          rw [if_neg (show ¬ ((3 : Int) = 0) by decide)]
          exact ⟨rfl, hf2'⟩
        · refine stpP ?_
          refine C.if (fun h3 => ?_) (fun h3 => ?_)
          · refine stpP ?_
            rw [hst, if_pos (show (l.getD (j + 1) zVal).p < 1 ∨ 4611686018427387904 < (l.getD (j + 1) zVal).p from .inr h3)]
            rw [if_neg (show ¬ ((3 : Int) = 0) by decide)]
            exact ⟨rfl, hf2'⟩
          · rw [if_neg (show ¬ ((l.getD (j + 1) zVal).p < 1 ∨ 4611686018427387904 < (l.getD (j + 1) zVal).p) by omega), if_pos rfl] at hst
            refine stpP ?_
            exact zccQ_l0_again (l.length - (j + 1 + 1)) (by omega) ⟨j + 1 + 1, by omega, rfl, rfl, hf2', hst⟩
    · obtain rfl : k = 0 := by omega
      rw [stepsV_atS (x := zVal) hlt (fun h => absurd h (by omega)), hin _ (fun h => absurd h (by omega))] at hst
      refine stpP ?_
      refine O.dec (fun h1 => ?_) (fun h1 => ?_)
      · refine stpP ?_
        rw [hst, if_pos (show (l.getD 0 zVal).p < 1 ∨ 4611686018427387904 < (l.getD 0 zVal).p from .inl h1)]
        rw [if_neg (show ¬ ((3 : Int) = 0) by decide)]
        exact ⟨rfl, hf⟩
      · refine stpP ?_
        refine C.if (fun h3 => ?_) (fun h3 => ?_)
        · refine stpP ?_
          rw [hst, if_pos (show (l.getD 0 zVal).p < 1 ∨ 4611686018427387904 < (l.getD 0 zVal).p from .inr h3)]
          rw [if_neg (show ¬ ((3 : Int) = 0) by decide)]
          exact ⟨rfl, hf⟩
        · rw [if_neg (show ¬ ((l.getD 0 zVal).p < 1 ∨ 4611686018427387904 < (l.getD 0 zVal).p) by omega), if_pos rfl] at hst
          refine stpP ?_
          exact zccQ_l0_again (l.length - (0 + 1)) (by omega) ⟨0 + 1, by omega, rfl, rfl, hf, hst⟩
  · obtain rfl : k = l.length := by omega
    refine stpP ?_
    rw [hst, List.drop_length]
    exact ⟨rfl, hf⟩
end Go.Proofs.YtbmpalbdbcjieaaGreat.A

namespace Go.Proofs.YtbmpalbdbcjieaaGreat.A
open Go Go.Vm
set_option maxRecDepth 10000
set_option linter.unusedVariables false
set_option maxHeartbeats 4000000 in
theorem RVDecode_ok {h : Heap} {v : Value} {bs : List UInt8} (hv : Rd h 1 v (bcells bs) bs.length) (hs : bs.length < 1048576) : Runs Tryz.prog T0 (.fn fn_zdcQ) [v] h
    (fun r h' => ∃ sl, r = .tuple ⟨[sl, .agg ⟨[.int .i64 (decV bs).2.1, .int .i64 (decV bs).2.2]⟩]⟩ ∧ Own h' 5 sl (vcells (decV bs).1) (decV bs).1.length ∧ (∀ i, ownedBy sl i → h.n ≤ i) ∧ Fr (fun _ => False) h h') (fun _ _ => False) := by
  refine zdcQ_runs ?_
  refine stp ?_
  have hf0 : Fr (fun _ => False) h (h.push (.cells [.int .i64 0, .int .i64 0] 0)) := Fr.refl.push
  refine O.call' (RNew_ok (hv.keep hf0 fun _ _ => id) hs) (fun r h1 hr => ?_)
  obtain ⟨p, sv, rfl, hp1, hsv, hr1, hf1⟩ := hr
  simp only [Heap.n_push] at hp1 hsv
  refine stp ?_
  refine O.call' (RNum_run hr1) (fun r h2 hr => ?_)
  obtain ⟨hf2, rfl, hr2⟩ := hr
  have hf01 : Fr (fun _ => False) h h1 := hf0.trans' hf1
  have hn01 := hf1.n
  simp only [Heap.n_push] at hn01
  have hn12 := hf2.n
  have hA1 : HGet h1 h.n (.cells [.int .i64 0, .int .i64 0] 0) := hf1.keep (b := h.n) HGet.new (by simp) id
  have hA2 : HGet h2 h.n (.cells [.int .i64 0, .int .i64 0] 0) := hf2.keep hA1 (by omega) (by omega)
  have hfh2 : Fr (fun _ => False) h h2 := Fr.trans (S := fun _ => False) hf01 hf2 fun i hi ho => by omega
  have hdec : decV bs = (if 64 < (rd (numS bs) 0 ⟨0, 0, 0⟩).1 then ([], (4, 0)) else
    let y := stepV bs (rd (numS bs) 0 ⟨0, 0, 0⟩).1 ([], (rd (numS bs) 0 ⟨0, 0, 0⟩).2)
    let f := endS bs y.2
    let g := if f = (0, 0) then (checkV y.1, 0) else f
    if g = (0, 0) then (y.1, (0, 0)) else ([], g)) := rfl
  rw [hdec]
  clear hdec
  generalize rd (numS bs) 0 ⟨0, 0, 0⟩ = n at *
  obtain ⟨n, st0⟩ := n
  simp only at hr2 ⊢
  haveI : BLt h.n h2 := ⟨by omega⟩
  haveI : HGet h2 h.n _ := hA2
  refine stp ?_
  refine C.if (fun hbig => ?_) (fun hsm => ?_)
  · refine stp ?_
    rw [if_pos (by omega)]
    exact ⟨_, rfl, .none, fun i hi => hi.elim, Fr.set hfh2 fun hlt => by omega⟩
  rw [if_neg (by omega)]
  refine stp ?_
  have hp2 := hr2.lt
  have hsv2 : ∀ i, ownedBy sv i → i < h2.n := fun i hi => hr2.own_lt hi
  refine zdcQ_l0_rule (fun m v6 v7 h' => ∃ k : Nat, k ≤ n ∧ m = n - k ∧ v7 = .int .i64 k ∧ Own h' 5 v6 (vcells (stepV bs k ([], st0)).1) k ∧ (∀ i, ownedBy v6 i → h2.n ≤ i) ∧ RRs h' p sv bs (stepV bs k ([], st0)).2 ∧ Fr (fun i => i = p) h2 h') ?_ n ⟨0, by omega, rfl, rfl, .none, fun i hi => hi.elim, hr2, Fr.refl⟩
  rintro m v6 v7 h3 x8 x17 x18 x19 x20 x21 x22 x23 x24 x25 x26 x27 x28 x29 x30 ⟨k, hk, rfl, rfl, ho, hnew, hr3, hf3⟩
  have hstep : stepV bs (k + 1) ([], st0) = ((stepV bs k ([], st0)).1 ++ [Val.of (rd (partS 4 bs) zb4 (stepV bs k ([], st0)).2).1 ((rd (numS bs) 0 (rd (partS 4 bs) zb4 (stepV bs k ([], st0)).2).2).1 : Nat)], (rd (numS bs) 0 (rd (partS 4 bs) zb4 (stepV bs k ([], st0)).2).2).2) := rfl
  have hlenk : (stepV bs k ([], st0)).1.length = k := by rw [stepV_len]; simp
  have hn23 := hf3.n
  refine stp ?_
  refine C.if (fun hlt => ?_) (fun hge => ?_)
  · generalize stepV bs k ([], st0) = z at *
    obtain ⟨L, st⟩ := z
    simp only at ho hr3 hstep hlenk
    refine stp ?_
    have k1 := RKey_run hr3
    generalize rd (partS 4 bs) zb4 st = a at *
    obtain ⟨ak, st4⟩ := a
    refine O.call' k1 (fun r h4 hq => ?_)
    obtain ⟨hf4, ⟨rfl, hl⟩, hr4⟩ := hq
    simp only at hl hr4 hstep
    obtain ⟨a1, a2, a3, a4, rfl⟩ := four hl
    rw [bcells4]
    have hn34 := hf4.n
    refine stp ?_
    have hp4 := hr4.lt
    have k2 := RNum_run (hr4.none (Fr.refl.push (o := .cells [.int .u8 a1.toNat, .int .u8 a2.toNat, .int .u8 a3.toNat, .int .u8 a4.toNat] 0)))
    generalize rd (numS bs) 0 st4 = b at *
    obtain ⟨b, st5⟩ := b
    refine D.callX k2 (fun r h5 hq => ?_) (fun r h5 hq => ?_) (fun _ _ hx => hx.elim)
    · obtain ⟨hf5, rfl, _⟩ := hq
      haveI : HGet h5 h4.n _ := hf5.keep (b := h4.n) HGet.new (by simp) (by omega)
      exact StabL.ok
    obtain ⟨hf5, rfl, hr5⟩ := hq
    simp only at hr5 hstep
    have hn45 := hf5.n
    simp only [Heap.n_push] at hn45
    haveI : HGet h5 h4.n _ := hf5.keep (b := h4.n) HGet.new (by simp) (by omega)
    refine stp ?_
    refine D.oneS ?_
    refine stp ?_
    have hol := fun {i : Nat} (hi : ownedBy v6 i) => ho.lt hi
    have ho5 : Own h5 5 v6 (vcells L) k := ((ho.keep hf4 fun i hi h => by have := hnew i hi; omega).keep (S := fun _ => False) (Fr.refl.push) fun _ _ => id).keep hf5 fun i hi h => by have := hnew i hi; omega
    refine D.append (ho5.keep (S := fun _ => False) Fr.refl.push fun _ _ => id) (one_val rfl) rfl rfl (by omega) (by omega) (by omega) (fun v8 h6 ho6 hf6 hn6 => ?_)
    refine stp ?_
    have hf56 : Fr (fun i => ownedBy v6 i) h5 h6 := Fr.trans (S := fun i => ownedBy v6 i) Fr.refl.push hf6 fun i _ hi => hi
    refine zdcQ_l0_again (n - (k + 1)) (by omega) ⟨k + 1, by omega, rfl, rfl, ?_, fun i hi => ?_, ?_, ?_⟩
    · rw [hstep]
      simp only
      rw [vcells_append]
      exact ho6
    · rcases hn6 i hi with h7 | h7
      · exact hnew i h7
      · simp at h7; omega
    · rw [hstep]
      refine hr5.keep hf56 (fun h => ?_) fun i hi h => ?_
      · have := hnew p h; omega
      · have := hsv2 i hi
        have := hnew i h; omega
    · have hf35 : Fr (fun i => i = p) h3 h5 := Fr.trans (S := fun i => i = p) hf4 (Fr.trans (S := fun i => i = p) Fr.refl.push hf5 fun _ _ h => h) fun _ _ h => h
      refine Fr.trans (S := fun i => i = p) hf3 (Fr.trans (S := fun i => i = p ∨ ownedBy v6 i) (hf35.mono fun _ _ h => .inl h) hf56 fun i hi h => .inr h) fun i hi h => ?_
      rcases h with h | h
      · exact h
      · have := hnew i h; omega
  · obtain rfl : k = n := by omega
    have hA3 : HGet h3 h.n (.cells [.int .i64 0, .int .i64 0] 0) := hf3.keep hA2 (by omega) (by omega)
    haveI : HGet h3 h.n _ := hA3
    have hfh3 : Fr (fun _ => False) h h3 := Fr.trans (S := fun _ => False) hfh2 hf3 fun i hi ho => by omega
    generalize stepV bs k ([], st0) = z at *
    obtain ⟨L, st⟩ := z
    simp only at ho hr3 hlenk ⊢
    refine stp ?_
    have k3 := REnd_run hr3
    have hz0 := hr3.zero
    generalize endS bs st = F at *
    obtain ⟨e, a⟩ := F
    refine O.call' k3 (fun r h4 hr => ?_)
    obtain ⟨rfl, hf4⟩ := hr
    simp only at hz0
    have hn34 := hf4.n
    have hA4 : HGet h4 h.n _ := hf4.keep hA3 (by omega) id
    haveI := hA4
    haveI : BLt h.n h4 := ⟨by omega⟩
    have hfh4 : Fr (fun _ => False) h h4 := hfh3.trans' hf4
    have ho4 : ∀ {o : AObj}, Own (h4.push o) 5 v6 (vcells L) k := fun {o} => (ho.keep hf4 fun _ _ => id).keep (S := fun _ => False) Fr.refl.push fun _ _ => id
    haveI : BNe h4.n h.n := ⟨by omega⟩
    haveI : BNe h.n h4.n := ⟨by omega⟩
    refine stp ?_
    refine C.if (fun he => ?_) (fun he => ?_)
    · subst he
      obtain rfl := hz0 rfl
      refine stp ?_
      refine O.call' (RVCheck_ok (l := L) (by rw [hlenk]; exact ho4.rd)) (fun r h5 hr => ?_)
      obtain ⟨rfl, hf5⟩ := hr
      have hn45 := hf5.n
      simp only [Heap.n_push] at hn45
      haveI : HGet h5 h4.n _ := hf5.keep (b := h4.n) HGet.new (by simp) id
      haveI : HGet h5 h.n _ := hf5.keep (b := h.n) (HGet.push (g := hA4)) (by simp; omega) id
      haveI : BLt h.n h5 := ⟨by omega⟩
      haveI : BLt h4.n h5 := ⟨by omega⟩
      have hfh5 : Fr (fun _ => False) h h5 := hfh4.trans' (Fr.trans (S := fun _ => False) Fr.refl.push hf5 fun _ _ h => h)
      have ho5 : Own h5 5 v6 (vcells L) k := ho4.keep hf5 fun _ _ => id
      refine stp ?_
      simp only [if_true]
      refine C.ifN (fun hc => ?_) (fun hc => ?_)
      · refine stp ?_
        rw [if_neg (fun h => hc (by injection h))]
        exact ⟨_, rfl, .none, fun i hi => hi.elim, Fr.set (Fr.set hfh5 fun hlt => by omega) fun hlt => by omega⟩
      · rw [hc]
        refine stp ?_
        rw [if_pos rfl]
        have hol := fun {i : Nat} (hi : ownedBy v6 i) => ho.lt hi
        refine ⟨_, rfl, ?_, fun i hi => ?_, Fr.set (Fr.set hfh5 fun hlt => by omega) fun hlt => by omega⟩
        · rw [hlenk]
          exact (ho5.keep (S := fun i => i = h4.n) (Fr.refl.set fun _ => rfl) fun i hi h => by have := hol hi; omega).keep (S := fun i => i = h.n) (Fr.refl.set fun _ => rfl) fun i hi h => by have := hnew i hi; omega
        · have := hnew i hi
          omega
    · have hne : ¬ ((e, a) : Int × Int) = (0, 0) := fun h => he (by injection h)
      refine stp ?_
      refine C.ifN (fun hc => ?_) (fun hc => absurd hc he)
      refine stp ?_
      simp only [if_neg hne]
      exact ⟨_, rfl, .none, fun i hi => hi.elim, Fr.set hfh4.push fun hlt => by omega⟩
end Go.Proofs.YtbmpalbdbcjieaaGreat.A

namespace Go.Proofs.YtbmpalbdbcjieaaGreat.A
open Go Go.Vm
set_option maxRecDepth 10000
set_option linter.unusedVariables false
theorem mkStoreN {P : Program} {ts : List Value} {h : Heap} {a x : Operand} {v : Value} {o r n es : Nat} {sp : Option Nat} {xs c : List Value} (ho : o + xs.length ≤ c.length) (h1 : xs.all Value.oneCell' = true) (hn : n = xs.length) [e : Ev ts a (.pointer (some ⟨r, o, sp⟩))] [f : Ev ts x v] [k : CellsOf v xs] [g : HGet h r (.cells c es)] :
    xop P (eval ts) h (.store n a x) = .ok undef (h.set r (.cells (over c o xs) es)) := by
  have hp : putAt h r o xs = some (h.set r (.cells (over c o xs) es)) := by
    unfold putAt
    rw [g.eq]
    show (if o + xs.length ≤ c.length ∧ xs.all Value.oneCell' = true then some (h.set r (.cells (over c o xs) es)) else none) = _
    rw [if_pos ⟨ho, h1⟩]
  subst hn
  simp only [xop, e.eq, f.eq, k.eq, k.len, hp, if_true]
theorem SameVals_same {h : Heap} {v w : Value} {l : List Val} (hv : Rd h 5 v (vcells l) l.length) (hw : Rd h 5 w (vcells l) l.length) (hs : l.length < 1048576) :
    Runs Tryz.prog T0 (.fn fn_znbQ) [v, w] h (fun r h' => r = .bool true ∧ h' = h) (fun _ _ => False) := by
  obtain ⟨a, cap, rfl, hlen, hc⟩ := hv
  obtain ⟨a', cap', rfl, hlen', hc'⟩ := hw
  refine znbQ_runs ?_
  refine stpP ?_
  refine znbQ_l0_rule (fun m v5 v6 h' => ∃ k : Nat, k ≤ l.length ∧ m = l.length - k ∧ v6 = .int .i64 k ∧ v5 = .bool true ∧ h' = h) ?_ l.length ⟨0, by omega, rfl, rfl, by simp, rfl⟩
  rintro m v5 v6 h' x12 x13 x14 x15 x16 x17 x18 x19 x20 x21 x22 x23 x24 x25 x26 x27 x28 x29 ⟨k, hk, rfl, rfl, rfl, rfl⟩
  refine stpP ?_
  refine C.if (fun hlt => ?_) (fun hge => ?_)
  · have hlt : k < l.length := by omega
    obtain ⟨b, o, sp, rfl, hb, hcc⟩ := hc (by omega)
    obtain ⟨b', o', sp', rfl, hb', hcc'⟩ := hc' (by omega)
    haveI := val_cells hcc rfl hlt
    haveI := val_cells hcc' rfl hlt
    refine stpP ?_
    rw [same_self]
    exact znbQ_l0_again (l.length - (k + 1)) (by omega) ⟨k + 1, by omega, rfl, rfl, rfl, rfl⟩
  · refine stpP ?_
    exact ⟨rfl, rfl⟩
theorem Rd.block_lt {h : Heap} {size n : Nat} {v : Value} {c : List Value} (hv : Rd h size v c n) {i : Nat} (hi : blockOf v i) : i < h.n := by
  obtain ⟨a, cap, rfl, _, hc⟩ := hv
  cases a with
  | none => exact hi.elim
  | some a =>
    obtain ⟨h1, h2⟩ := hi
    obtain ⟨b, o, sp, e, hb, _⟩ := hc h2
    cases e
    subst h1
    exact hb
theorem OverVals_ok {h : Heap} {v : Value} {c : List Value} {n : Nat} (ho : Own h 5 v c n) (hs : n < 1048576) :
    Runs Tryz.prog T0 (.fn fn_zkbQ) [v] h (fun r h' => Fr (ownedBy v) h h') (fun _ _ => False) := by
  refine zkbQ_runs ?_
  cases ho with
  | none =>
    refine stpP ?_
    refine zkbQ_l0_rule (fun m v2 h' => v2 = .int .i64 0 ∧ h' = h) ?_ 0 ⟨rfl, rfl⟩
    rintro m v2 h' x3 x4 x5 x6 x7 x8 x9 x10 x11 x12 ⟨rfl, rfl⟩
    refine stpP ?_
    exact Fr.refl
  | lit hq hg =>
    refine stpP ?_
    refine zkbQ_l0_rule (fun m v2 h' => v2 = .int .i64 0 ∧ h' = h) ?_ 0 ⟨rfl, rfl⟩
    rintro m v2 h' x3 x4 x5 x6 x7 x8 x9 x10 x11 x12 ⟨rfl, rfl⟩
    refine stpP ?_
    exact Fr.refl
  | grown hq hn hle hl hl2 hg =>
    rename_i q kk cap j
    refine stpP ?_
    refine zkbQ_l0_rule (fun m v2 h' => ∃ k : Nat, k ≤ n ∧ m = n - k ∧ v2 = .int .i64 k ∧ (∃ cs, h'.get q = .cells cs 5 ∧ cs.length = cap * 5) ∧ Fr (ownedBy (.slice (some ⟨q, 0, some kk⟩) n cap)) h h') ?_ n ⟨0, by omega, rfl, rfl, ⟨_, hg, hl2⟩, Fr.refl⟩
    rintro m v2 h' x3 x4 x5 x6 x7 x8 x9 x10 x11 x12 ⟨k, hk, rfl, rfl, ⟨cs, hg', hcs⟩, hf⟩
    haveI : HGet h' q _ := ⟨hg'⟩
    refine stpP ?_
    refine C.if (fun hlt => ?_) (fun hge => ?_)
    · refine stpP ?_
      refine O.by0 (mkStoreN (xs := [.int .u8 0, .int .u8 0, .int .u8 0, .int .u8 0, .int .i64 (-7)]) (c := cs) (r := q) (es := 5) (by simp; omega) rfl rfl) rfl ?_
      refine stpP ?_
      refine zkbQ_l0_again (n - (k + 1)) (by omega) ⟨k + 1, by omega, rfl, rfl, ⟨_, by rw [Heap.get_set, if_pos rfl], ?_⟩, Fr.set hf fun _ => rfl⟩
      rw [over_length _ _ _ (by simp; omega), hcs]
    · refine stpP ?_
      exact hf
end Go.Proofs.YtbmpalbdbcjieaaGreat.A

namespace Go.Proofs.YtbmpalbdbcjieaaGreat.A
open Go Go.Vm
set_option maxRecDepth 10000
set_option linter.unusedVariables false
def wordS (bs : List UInt8) (pl : Nat) : Except Int (Nat × Nat) := if bs.length < pl + 8 then .error 6 else .ok (bigN ((bs.drop pl).take 8), pl + 8)
theorem Word1_ok {h : Heap} {p a : Nat} {sv : Value} {bs : List UInt8} {pl : Nat} (hr : PR h p sv bs pl 0 0) [ha : HGet h a (.cells [.pointer (some ⟨p, 0, none⟩)] 0)] :
    Runs Tryz.prog T0 (.fn fn_zidQ) [.int .i64 pl, .pointer (some ⟨a, 0, none⟩)] h
      (fun r h' => ∃ n pl', wordS bs pl = .ok (n, pl') ∧ r = .int .u64 (n : Nat) ∧ PR h' p sv bs pl' 0 0 ∧ Fr (fun i => i = p) h h')
      (fun c h' => ∃ e pl', wordS bs pl = .error e ∧ e ≠ 0 ∧ c = thrown e pl ∧ PR h' p sv bs pl' 0 0 ∧ Fr (fun i => i = p) h h') := by
  have hsm := hr.small
  refine zidQ_runs ?_
  refine stp ?_
  refine O.callX (takeU64_ok (n := 8) (R := fun r h2 => r = .int .u64 (bigN ((bs.drop pl).take 8)) ∧ pl + 8 ≤ bs.length ∧ PR h2 p sv bs (pl + 8) 0 0 ∧ Fr (fun i => i = p) h h2) hr (by omega) (fun h1 v hf hp1 hle hbl hrd => ?_)) (fun r h1 hr1 => ?_) (fun c h1 hx => ?_)
  · have hl : ((bs.drop pl).take 8).length = 8 := by rw [List.length_take, List.length_drop]; omega
    refine (big_ok (l := (bs.drop pl).take 8) (by rw [hl]; exact hrd) (by omega)).imp fun r h2 hr2 => ?_
    obtain ⟨rfl, rfl⟩ := hr2
    exact ⟨rfl, hle, hp1, hf⟩
  · obtain ⟨rfl, hle, hp1, hf⟩ := hr1
    refine stp ?_
    exact ⟨_, pl + 8, by unfold wordS; rw [if_neg (by omega)], rfl, hp1, hf⟩
  · obtain ⟨hlt, rfl, rfl⟩ := hx
    refine stp ?_
    exact ⟨6, pl, by unfold wordS; rw [if_pos (by omega)], by omega, rfl, hr, Fr.refl⟩
theorem readsW_ok {h : Heap} {p : Nat} {sv : Value} {bs : List UInt8} {pl : Nat} {fid : FuncId} {first captured : List Value} {S : Nat → Except Int (Nat × Nat)} (hr : PR h p sv bs pl 0 0)
    (hm : Runs Tryz.prog T0 (.fn fid) (first ++ [.int .i64 pl] ++ captured) h (fun r h' => ∃ n pl', S pl = .ok (n, pl') ∧ r = .int .u64 (n : Nat) ∧ PR h' p sv bs pl' 0 0 ∧ Fr (fun i => i = p) h h')
      (fun c h' => ∃ e pl', S pl = .error e ∧ e ≠ 0 ∧ c = thrown e pl ∧ PR h' p sv bs pl' 0 0 ∧ Fr (fun i => i = p) h h')) :
    Runs Tryz.prog T0 (.fn fn_zsdQ) [.pointer (some ⟨p, 0, none⟩), .func (.func fid) ⟨first⟩ ⟨captured⟩] h (Reads h p sv bs (rd S 0 ⟨pl, 0, 0⟩) fun n r _ => r = .int .u64 (n : Nat)) (fun _ _ => False) := by
  haveI : HGet h p _ := ⟨hr.get⟩
  haveI : BLt p h := ⟨hr.lt⟩
  refine zsdQ_runs ?_
  refine stp ?_
  refine O.callX hm (fun r h1 hr1 => ?_) (fun c h1 hx => ?_)
  · obtain ⟨n, pl', hS, rfl, hp1, hf⟩ := hr1
    refine stp ?_
    refine caught_none.mono (fun u' h' hu => ?_) (fun _ _ _ hx => hx.elim)
    obtain ⟨rfl, rfl⟩ := hu
    exact L.nil (rd_ok hS hf rfl hp1)
  · obtain ⟨e, pl', hS, he, rfl, hp1, hf⟩ := hx
    refine stp ?_
    refine (caught_ok hp1).mono (fun u' h' hu => ?_) (fun _ _ _ hx => hx.elim)
    obtain ⟨hs, hp2, hf2⟩ := hu
    rw [hs]
    exact L.nil (rd_err hS he (hf.trans' hf2) rfl hp2)
theorem readsW_bad {h : Heap} {p : Nat} {sv : Value} {bs : List UInt8} {pl : Nat} {e fa : Int} {f : Value} (hr : PR h p sv bs pl e fa) (he : e ≠ 0) :
    Runs Tryz.prog T0 (.fn fn_zsdQ) [.pointer (some ⟨p, 0, none⟩), f] h (fun r h' => r = .int .u64 0 ∧ h' = h) (fun _ _ => False) := by
  haveI : HGet h p _ := ⟨hr.get⟩
  haveI : BLt p h := ⟨hr.lt⟩
  refine zsdQ_runs ?_
  refine stp ?_
  refine C.ifB (fun h1 => ?_) (fun h1 => ?_)
  · refine stp ?_
    exact ⟨rfl, rfl⟩
  · exfalso; simp at h1; exact he h1
theorem Word_run {h : Heap} {p : Nat} {sv : Value} {bs : List UInt8} {st : RSt} (hp : PRs h p sv bs st) :
    Runs Tryz.prog T0 (.fn fn_zhdQ) [.pointer (some ⟨p, 0, none⟩)] h (Reads h p sv bs (rd (wordS bs) 0 st) fun n r _ => r = .int .u64 (n : Nat)) (fun _ _ => False) := by
  obtain ⟨st1, e, fa⟩ := st
  obtain ⟨pl, h1, h2⟩ := hp.ex
  have hlt := h2.lt
  refine zhdQ_runs ?_
  refine stp ?_
  have hf0 : Fr (fun i => i = p) h (h.push (AObj.cells [Value.pointer (some ⟨p, 0, none⟩)] 0)) := Fr.refl.push
  by_cases he : e = 0
  · subst he
    obtain ⟨rfl, h3⟩ := h1 rfl
    have h3 : fa = 0 := h3
    subst h3
    refine O.call' (readsW_ok (S := wordS bs) (h2.none Fr.refl.push) (Word1_ok (h2.none Fr.refl.push))) (fun r h' hq => ?_)
    refine stp ?_
    exact ⟨hf0.trans' hq.1, hq.2.1, hq.2.2⟩
  · refine O.call' (readsW_bad (h2.none Fr.refl.push) he) (fun r h' hq => ?_)
    obtain ⟨rfl, rfl⟩ := hq
    refine stp ?_
    exact rd_bad he hf0 rfl (hp.none Fr.refl.push)
def restS (bs : List UInt8) (st : RSt) : Int := if st.e = 0 then (bs.length : Int) - st.pl else 0
theorem Rest_run {h : Heap} {p : Nat} {sv : Value} {bs : List UInt8} {st : RSt} (hp : PRs h p sv bs st) :
    Runs Tryz.prog T0 (.fn fn_zfdQ) [.pointer (some ⟨p, 0, none⟩)] h (fun r h' => r = .int .i64 (restS bs st) ∧ h' = h) (fun _ _ => False) := by
  obtain ⟨pl, h1, hr⟩ := hp.ex
  have hsm := hr.small
  have hle := hr.at_le
  obtain ⟨a, cap, rfl, hlen, _⟩ := hr.own.rd
  haveI : HGet h p _ := ⟨hr.get⟩
  haveI : BLt p h := ⟨hr.lt⟩
  refine zfdQ_runs ?_
  refine stp ?_
  refine C.ifN (fun he => ?_) (fun he => ?_)
  · refine stp ?_
    unfold restS
    rw [if_neg he]
    exact ⟨rfl, rfl⟩
  · refine stp ?_
    unfold restS
    rw [if_pos he, ← (h1 he).1]
    exact ⟨rfl, rfl⟩
end Go.Proofs.YtbmpalbdbcjieaaGreat.A

namespace Go.Proofs.YtbmpalbdbcjieaaGreat.A
open Go Go.Vm
set_option maxRecDepth 10000
set_option linter.unusedVariables false
structure Vote where
  at' : Int
  sig : Nat
abbrev Vote.cells (v : Vote) : List Value := [.int .i64 v.at', .int .u64 v.sig]
abbrev zVote : Vote := ⟨0, 0⟩
def tcells (l : List Vote) : List Value := l.flatMap Vote.cells
theorem tcells_cons (v : Vote) (l : List Vote) : tcells (v :: l) = v.cells ++ tcells l := rfl
theorem tcells_append (l m : List Vote) : tcells (l ++ m) = tcells l ++ tcells m := by simp [tcells]
theorem tcells_at : ∀ {l : List Vote} {k : Nat}, k < l.length → ((tcells l).drop (k * 2)).take 2 = (l.getD k zVote).cells
  | v :: l, 0, _ => by rw [tcells_cons]; rfl
  | v :: l, k + 1, h => by
    have := tcells_at (l := l) (k := k) (by simpa using h)
    rw [tcells_cons, show (k + 1) * 2 = v.cells.length + k * 2 from by simp; omega, ← List.drop_drop, List.drop_left]
    exact this
theorem vote_cells {h : Heap} {b o n k : Nat} {l : List Vote} (hc : cellsAt h b o (n * 2) = some (tcells l)) (hn : l.length = n) (hk : k < n) : Cells h b (o + k * 2) 2 (l.getD k zVote).cells := ⟨by
  rw [cellsAt_sub hc (by omega), tcells_at (by omega)]⟩
theorem vote_at {h : Heap} {b o n k : Nat} {l : List Vote} (hc : cellsAt h b o (n * 2) = some (tcells l)) (hn : l.length = n) (hk : k < n) : Cell h b (o + k * 2) (.int .i64 (l.getD k zVote).at') := ⟨by
  have h5 := (vote_cells hc hn hk).eq
  have := cellsAt_sub (k := 0) (m := 1) h5 (by omega)
  simpa using this⟩
def voteS (last : Int) (v : Vote) : Int := if v.at' < 0 ∨ 64 ≤ v.at' then 3 else if v.at' ≤ last then 9 else 0
def stepsC : Int → List Vote → Int
  | _, [] => 0
  | last, v :: l => if voteS last v = 0 then stepsC v.at' l else voteS last v
def checkC (ht : Int) (l : List Vote) : Int := if ht < 1 ∨ 1073741824 < ht then 3 else if 64 < l.length then 4 else stepsC (-1) l
def lastC (l : List Vote) (k : Nat) : Int := if k = 0 then -1 else (l.getD (k - 1) zVote).at'
theorem dropC {l : List Vote} {k : Nat} (hk : k < l.length) : l.drop k = l.getD k zVote :: l.drop (k + 1) := by
  rw [List.drop_eq_getElem_cons hk]
  simp [List.getD, hk]
theorem stepsC_at {l : List Vote} {k : Nat} (hk : k < l.length) : stepsC (lastC l k) (l.drop k) = if voteS (lastC l k) (l.getD k zVote) = 0 then stepsC (lastC l (k + 1)) (l.drop (k + 1)) else voteS (lastC l k) (l.getD k zVote) := by
  rw [dropC hk]
  rfl
theorem rises1_ok {h : Heap} {a : Nat} {v : Vote} {last : Int} (hg : h.get a = .cells [.int .i64 last] 0) (ha : a < h.n) :
    Runs Tryz.prog T0 (.fn fn_ztQ) [.agg ⟨v.cells⟩, .pointer (some ⟨a, 0, none⟩)] h
      (fun r h' => r = .int .i64 (voteS last v) ∧ (voteS last v = 0 → h'.get a = .cells [.int .i64 v.at'] 0) ∧ Fr (fun i => i = a) h h') (fun _ _ => False) := by
  haveI : HGet h a _ := ⟨hg⟩
  haveI : BLt a h := ⟨ha⟩
  refine ztQ_runs ?_
  refine stpP ?_
  unfold voteS
  refine O.dec (fun h0 => ?_) (fun h0 => ?_)
  · refine stpP ?_
    rw [if_pos (show v.at' < 0 ∨ 64 ≤ v.at' from .inl h0)]
    exact ⟨rfl, fun h => absurd h (by decide), Fr.refl.push⟩
  · refine stpP ?_
    refine C.if (fun h1 => ?_) (fun h1 => ?_)
    · refine stpP ?_
      rw [if_pos (show v.at' < 0 ∨ 64 ≤ v.at' from .inr h1)]
      exact ⟨rfl, fun h => absurd h (by decide), Fr.refl.push⟩
    · rw [if_neg (show ¬ (v.at' < 0 ∨ 64 ≤ v.at') by omega)]
      refine stpP ?_
      refine C.if (fun h2 => ?_) (fun h2 => ?_)
      · refine stpP ?_
        rw [if_pos h2]
        exact ⟨rfl, fun h => absurd h (by decide), Fr.refl.push⟩
      · refine stpP ?_
        rw [if_neg h2]
        exact ⟨rfl, fun _ => by rw [Heap.get_set, if_pos rfl], Fr.refl.push.set fun _ => rfl⟩
theorem rises_ok {h : Heap} : Runs Tryz.prog T0 (.fn fn_zsQ) [] h (fun r h' => r = .func (.func fn_ztQ) ⟨[]⟩ ⟨[.pointer (some ⟨h.n, 0, none⟩)]⟩ ∧ h' = h.push (.cells [.int .i64 (-1)] 0)) (fun _ _ => False) := by
  refine zsQ_runs (v := undef) ?_
  refine stpP ?_
  exact ⟨rfl, rfl⟩
theorem CCheck_ok {h : Heap} {ht : Int} {hs : List UInt8} {sv : Value} {l : List Vote} (hl : hs.length = 32) (hv : Rd h 2 sv (tcells l) l.length) :
    Runs Tryz.prog T0 (.fn fn_zqQ) [.agg ⟨.int .i64 ht :: (bcells hs ++ [sv])⟩] h (fun r h' => r = .int .i64 (checkC ht l) ∧ Fr (fun _ => False) h h') (fun _ _ => False) := by
  obtain ⟨a, cap, rfl, hlen, hc⟩ := hv
  haveI := l32 hl
  refine zqQ_runs ?_
  refine stpP ?_
  unfold checkC
  refine O.dec (fun h0 => ?_) (fun h0 => ?_)
  · refine stpP ?_
    rw [if_pos (show ht < 1 ∨ 1073741824 < ht from .inl h0)]
    exact ⟨rfl, Fr.refl.push⟩
  refine stpP ?_
  refine C.if (fun h1 => ?_) (fun h1 => ?_)
  · refine stpP ?_
    rw [if_pos (show ht < 1 ∨ 1073741824 < ht from .inr h1)]
    exact ⟨rfl, Fr.refl.push⟩
  rw [if_neg (show ¬ (ht < 1 ∨ 1073741824 < ht) by omega)]
  refine stpP ?_
  refine C.if (fun h2 => ?_) (fun h2 => ?_)
  · refine stpP ?_
    rw [if_pos (by omega)]
    exact ⟨rfl, Fr.refl.push⟩
  rw [if_neg (by omega)]
  refine stpP ?_
  refine O.call' rises_ok (fun r h3 hr => ?_)
  obtain ⟨rfl, rfl⟩ := hr
  refine stpP ?_
  refine zqQ_l0_rule (fun m v25 h' => ∃ k : Nat, k ≤ l.length ∧ m = l.length - k ∧ v25 = .int .i64 k ∧ h'.get (h.n + 1) = .cells [.int .i64 (lastC l k)] 0 ∧ h.n + 1 < h'.n ∧ Fr (fun _ => False) h h' ∧ stepsC (-1) l = stepsC (lastC l k) (l.drop k)) ?_ l.length ⟨0, by omega, rfl, rfl, ?_, by simp, Fr.refl.push.push, rfl⟩
  · rintro m v25 h' x2 x5 x6 x26 x27 x28 x29 x30 x31 x32 x33 x34 x35 ⟨k, hk, rfl, rfl, hg, hn, hf, hst⟩
    refine stpP ?_
    refine C.if (fun hlt => ?_) (fun hge => ?_)
    · have hlt : k < l.length := by omega
      obtain ⟨b, o, sp, rfl, hb, hcc⟩ := hc (by omega)
      have hcc' : cellsAt h' b o (l.length * 2) = some (tcells l) := by rw [cellsAt_keep hf hb id]; exact hcc
      haveI := vote_cells hcc' rfl hlt
      refine stpP ?_
      refine O.call' (rises1_ok (v := l.getD k zVote) (last := lastC l k) (a := h.n + 1) (by rw [Heap.get_push, if_neg (by omega), hg]) (by simp; omega)) (fun r h2 hr => ?_)
      obtain ⟨rfl, hg2, hf2⟩ := hr
      have hn2 := hf2.n
      simp only [Heap.n_push] at hn2
      have hfh : Fr (fun _ => False) h h2 := Fr.trans (S := fun _ => False) hf (Fr.trans (S := fun i => i = h.n + 1) Fr.refl.push hf2 fun i _ hi => hi) fun i hi ho => by omega
      refine stpP ?_
      refine C.ifN (fun he => ?_) (fun he => ?_)
      · refine stpP ?_
        rw [hst, stepsC_at hlt, if_neg he]
        exact ⟨rfl, hfh⟩
      · refine stpP ?_
        refine zqQ_l0_again (l.length - (k + 1)) (by omega) ⟨k + 1, by omega, rfl, rfl, by rw [hg2 he]; rfl, by omega, hfh, ?_⟩
        rw [hst, stepsC_at hlt, if_pos he]
    · obtain rfl : k = l.length := by omega
      refine stpP ?_
      rw [hst, List.drop_length]
      exact ⟨rfl, hf⟩
  · rw [Heap.get_push, if_pos (by simp)]
    rfl
end Go.Proofs.YtbmpalbdbcjieaaGreat.A

namespace Go.Proofs.YtbmpalbdbcjieaaGreat.A
open Go Go.Vm
set_option maxRecDepth 10000
set_option linter.unusedVariables false
structure Cm where
  height : Int
  hash : List UInt8
  votes : List Vote
abbrev Cm.cells (x : Cm) (sv : Value) : List Value := .int .i64 x.height :: (bcells x.hash ++ [sv])
abbrev zCm : Cm := ⟨0, zb32, []⟩
def stepW (bs : List UInt8) : Nat → List Vote × RSt → List Vote × RSt
  | 0, y => y
  | k + 1, y =>
    let a := rd (numS bs) 0 (stepW bs k y).2
    let b := rd (wordS bs) 0 a.2
    ((stepW bs k y).1 ++ [⟨(a.1 : Nat), b.1⟩], b.2)
def decC (bs : List UInt8) : Cm × Int × Int :=
  let a := rd (numS bs) 0 ⟨0, 0, 0⟩
  let b := rd (partS 32 bs) zb32 a.2
  let n := rd (numS bs) 0 b.2
  if 64 < n.1 then (zCm, (4, (bs.length : Int) - restS bs b.2)) else
    let y := stepW bs n.1 ([], n.2)
    let f := endS bs y.2
    let g := if f = (0, 0) then (checkC (a.1 : Nat) y.1, 0) else f
    if g = (0, 0) then (⟨(a.1 : Nat), b.1, y.1⟩, (0, 0)) else (zCm, g)
theorem stepW_len (bs : List UInt8) (y : List Vote × RSt) : ∀ k, (stepW bs k y).1.length = y.1.length + k
  | 0 => rfl
  | k + 1 => by
    show ((stepW bs k y).1 ++ [_]).length = _
    rw [List.length_append, stepW_len bs y k]
    simp
    omega
theorem decC_ok (bs : List UInt8) : (decC bs).1.hash.length = 32 ∧ (decC bs).1.votes.length ≤ 64 := by
  unfold decC
  simp only
  split
  · exact ⟨rfl, by simp⟩
  · rename_i hn
    have key : ∀ g : Int × Int, (if g = (0, 0) then ((⟨((rd (numS bs) 0 ⟨0, 0, 0⟩).1 : Nat), (rd (partS 32 bs) zb32 (rd (numS bs) 0 ⟨0, 0, 0⟩).2).1, (stepW bs (rd (numS bs) 0 (rd (partS 32 bs) zb32 (rd (numS bs) 0 ⟨0, 0, 0⟩).2).2).1 ([], (rd (numS bs) 0 (rd (partS 32 bs) zb32 (rd (numS bs) 0 ⟨0, 0, 0⟩).2).2).2)).1⟩ : Cm), ((0 : Int), (0 : Int))) else (zCm, g)).1.hash.length = 32 ∧ (if g = (0, 0) then ((⟨((rd (numS bs) 0 ⟨0, 0, 0⟩).1 : Nat), (rd (partS 32 bs) zb32 (rd (numS bs) 0 ⟨0, 0, 0⟩).2).1, (stepW bs (rd (numS bs) 0 (rd (partS 32 bs) zb32 (rd (numS bs) 0 ⟨0, 0, 0⟩).2).2).1 ([], (rd (numS bs) 0 (rd (partS 32 bs) zb32 (rd (numS bs) 0 ⟨0, 0, 0⟩).2).2).2)).1⟩ : Cm), ((0 : Int), (0 : Int))) else (zCm, g)).1.votes.length ≤ 64 := fun g => by
      split
      · exact ⟨rd_part_len, by simp only; rw [stepW_len]; simp; omega⟩
      · exact ⟨rfl, by simp⟩
    exact key _
theorem one_vote {h : Heap} {c : List Value} {es : Nat} (hc : c.length = 2) : newCells (h.push (.cells c es)) 2 [.int .i64 0, .int .u64 0] false (.slice (some ⟨h.n, 0, none⟩) 1 1) = some (1, c) :=
  (Rd.mk (size := 2) (n := 1) (cap := 1) (sp := none) (o := 0) (b := h.n) (c := c) (by simp) (by rw [cellsAt_of (c := c) (by rw [Heap.get_push, if_pos rfl]; rfl) (by omega), List.drop_zero, List.take_of_length_le (by omega)])).new _
set_option maxHeartbeats 4000000 in
theorem CDecode_ok {h : Heap} {v : Value} {bs : List UInt8} (hv : Rd h 1 v (bcells bs) bs.length) (hs : bs.length < 1048576) : Runs Tryz.prog T0 (.fn fn_zrQ) [v] h
    (fun r h' => ∃ sl, r = .tuple ⟨[.agg ⟨(decC bs).1.cells sl⟩, .agg ⟨[.int .i64 (decC bs).2.1, .int .i64 (decC bs).2.2]⟩]⟩ ∧ Own h' 2 sl (tcells (decC bs).1.votes) (decC bs).1.votes.length ∧ (∀ i, ownedBy sl i → h.n ≤ i) ∧ Fr (fun _ => False) h h') (fun _ _ => False) := by
  have hv' := hv
  obtain ⟨a0, cap0, rfl, hl0, _⟩ := hv
  refine zrQ_runs ?_
  refine stpP ?_
  generalize hh0 : ((h.push (.cells (.int .i64 0 :: (z32 ++ [.slice none 0 0])) 0)).push (.cells [.int .i64 0, .int .i64 0] 0)) = h0
  have hf0 : Fr (fun _ => False) h h0 := by rw [← hh0]; exact Fr.refl.push.push
  have hn0 : h0.n = h.n + 2 := by rw [← hh0]; rfl
  have hA0 : HGet h0 h.n (.cells (.int .i64 0 :: (z32 ++ [.slice none 0 0])) 0) := by rw [← hh0]; exact HGet.push (k := BLt.new) (g := HGet.new)
  generalize hb3 : (h.push (.cells (.int .i64 0 :: (z32 ++ [.slice none 0 0])) 0)).n = b3
  have hb3' : b3 = h.n + 1 := by rw [← hb3]; rfl
  have hB0 : HGet h0 b3 (.cells [.int .i64 0, .int .i64 0] 0) := by rw [← hh0, ← hb3]; exact HGet.new
  clear hh0 hb3
  refine O.call' (NewReader_ok (hv'.keep hf0 fun _ _ => id) hs) (fun r h1 hr => ?_)
  obtain ⟨p, sv, rfl, hp1, hsv, hr1, hf1⟩ := hr
  have hlt1 := hr1.lt
  have hn1 := hf1.n
  haveI hA1 : HGet h1 h.n _ := hf1.keep hA0 (by omega) id
  haveI hB1 : HGet h1 b3 _ := hf1.keep hB0 (by omega) id
  refine stpP ?_
  have hown1 : ∀ i, ownedBy sv i → h0.n ≤ i ∧ i < h1.n := fun i hi => ⟨hsv i hi, hr1.own_lt hi⟩
  have k1 := Num_run hr1
  have hdec : decC bs = (if 64 < (rd (numS bs) 0 (rd (partS 32 bs) zb32 (rd (numS bs) 0 ⟨0, 0, 0⟩).2).2).1 then (zCm, (4, (bs.length : Int) - restS bs (rd (partS 32 bs) zb32 (rd (numS bs) 0 ⟨0, 0, 0⟩).2).2)) else
    let y := stepW bs (rd (numS bs) 0 (rd (partS 32 bs) zb32 (rd (numS bs) 0 ⟨0, 0, 0⟩).2).2).1 ([], (rd (numS bs) 0 (rd (partS 32 bs) zb32 (rd (numS bs) 0 ⟨0, 0, 0⟩).2).2).2)
    let f := endS bs y.2
    let g := if f = (0, 0) then (checkC ((rd (numS bs) 0 ⟨0, 0, 0⟩).1 : Nat) y.1, 0) else f
    if g = (0, 0) then (⟨((rd (numS bs) 0 ⟨0, 0, 0⟩).1 : Nat), (rd (partS 32 bs) zb32 (rd (numS bs) 0 ⟨0, 0, 0⟩).2).1, y.1⟩, (0, 0)) else (zCm, g)) := rfl
  rw [hdec]
  clear hdec
  generalize rd (numS bs) 0 ⟨0, 0, 0⟩ = a at *
  obtain ⟨a, st1⟩ := a
  refine O.call' k1 (fun r h2 hr => ?_)
  obtain ⟨hf2, rfl, hr2⟩ := hr
  simp only at hr2 ⊢
  have hn2 := hf2.n
  haveI hA2 : HGet h2 h.n _ := hf2.keep hA1 (by omega) (by omega)
  have hB2 : HGet h2 b3 _ := hf2.keep hB1 (by omega) (by omega)
  refine stpP ?_
  have hset : ∀ {hh : Heap} {c : List Value} {st : RSt}, PRs hh p sv bs st → PRs (hh.set h.n (.cells c 0)) p sv bs st := fun hr => hr.keep (S := fun j => j = h.n) (Fr.refl.set fun _ => rfl) (by omega) fun i hi hn => by have := (hown1 i hi).1; omega
  have k2 := Hash_run (hset (c := .int .i64 (a : Nat) :: (z32 ++ [.slice none 0 0])) hr2)
  generalize rd (partS 32 bs) zb32 st1 = b at *
  obtain ⟨hs32, st2⟩ := b
  refine O.call' k2 (fun r h3 hr => ?_)
  obtain ⟨hf3, ⟨rfl, hl3⟩, hr3⟩ := hr
  simp only at hr3 hl3 ⊢
  haveI := l32 hl3
  have hn3 := hf3.n
  simp only [Heap.n_set] at hn3
  have hf23 : Fr (fun i => i = p ∨ i = h.n) h2 h3 := (Fr.refl.set fun _ => .inr rfl).trans' (hf3.mono fun _ _ h => .inl h)
  haveI hA3 : HGet h3 h.n _ := hf3.keep (b := h.n) .same (by simp; omega) (by omega)
  have hB3 : HGet h3 b3 _ := hf23.keep hB2 (by omega) (by omega)
  refine stpP ?_
  have k3 := Rest_run (hset (c := .int .i64 (a : Nat) :: (bcells hs32 ++ [.slice none 0 0])) hr3)
  have hrest : 0 ≤ (bs.length : Int) - restS bs st2 ∧ (bs.length : Int) - restS bs st2 ≤ bs.length := by
    unfold restS
    by_cases he : st2.e = 0
    · have := hr3.le he
      rw [if_pos he]; omega
    · rw [if_neg he]; omega
  generalize restS bs st2 = rest at *
  refine O.call' k3 (fun r h4 hr => ?_)
  obtain ⟨rfl, rfl⟩ := hr
  refine stpP ?_
  have k4 := Num_run (hset (c := .int .i64 (a : Nat) :: (bcells hs32 ++ [.slice none 0 0])) hr3)
  generalize rd (numS bs) 0 st2 = n at *
  obtain ⟨n, st3⟩ := n
  refine O.call' k4 (fun r h4 hr => ?_)
  obtain ⟨hf4, rfl, hr4⟩ := hr
  simp only at hr4 ⊢
  have hn4 := hf4.n
  simp only [Heap.n_set] at hn4
  have hf34 : Fr (fun i => i = p ∨ i = h.n) h3 h4 := (Fr.refl.set fun _ => .inr rfl).trans' (hf4.mono fun _ _ h => .inl h)
  haveI hA4 : HGet h4 h.n _ := hf4.keep (b := h.n) .same (by simp; omega) (by omega)
  haveI hB4 : HGet h4 b3 _ := hf34.keep hB3 (by omega) (by omega)
  haveI : BLt h.n h4 := ⟨by omega⟩
  haveI : BLt b3 h4 := ⟨by omega⟩
  haveI : BNe h.n b3 := ⟨by omega⟩
  haveI : BNe b3 h.n := ⟨by omega⟩
  have hfh4 : Fr (fun _ => False) h h4 := Fr.trans (S := fun _ => False) (hf0.trans' hf1) ((hf2.mono fun _ _ h => .inl h).trans' (hf23.trans' hf34)) fun i hi ho => by omega
  refine stpP ?_
  refine C.if (fun hbig => ?_) (fun hsm => ?_)
  · refine stpP ?_
    rw [if_pos (by omega)]
    exact ⟨_, rfl, .none, fun i hi => hi.elim, Fr.set (Fr.set hfh4 fun hlt => by omega) fun hlt => by omega⟩
  rw [if_neg (by omega)]
  refine stpP ?_
  refine zrQ_l0_rule (fun m v29 h' => ∃ k : Nat, k ≤ n ∧ m = n - k ∧ v29 = .int .i64 k ∧ (∃ sl, h'.get h.n = .cells (.int .i64 (a : Nat) :: (bcells hs32 ++ [sl])) 0 ∧ Own h' 2 sl (tcells (stepW bs k ([], st3)).1) k ∧ (∀ i, ownedBy sl i → h4.n ≤ i)) ∧ PRs h' p sv bs (stepW bs k ([], st3)).2 ∧ Fr (fun i => i = p ∨ i = h.n) h4 h') ?_ n ⟨0, by omega, rfl, rfl, ⟨_, hA4.eq, .none, fun i hi => hi.elim⟩, hr4, Fr.refl⟩
  rintro m v29 h5 x7 x30 x31 x32 x33 x34 x35 x36 x37 x38 x39 x40 x41 x42 x43 ⟨k, hk, rfl, rfl, ⟨sl, hg5, ho, hnew⟩, hr5, hf5⟩
  obtain ⟨asl, csl, rfl, _, _⟩ := ho.rd
  have hstep : stepW bs (k + 1) ([], st3) = ((stepW bs k ([], st3)).1 ++ [⟨((rd (numS bs) 0 (stepW bs k ([], st3)).2).1 : Nat), (rd (wordS bs) 0 (rd (numS bs) 0 (stepW bs k ([], st3)).2).2).1⟩], (rd (wordS bs) 0 (rd (numS bs) 0 (stepW bs k ([], st3)).2).2).2) := rfl
  have hlenk : (stepW bs k ([], st3)).1.length = k := by rw [stepW_len]; simp
  have hn45 := hf5.n
  refine stpP ?_
  refine C.if (fun hlt => ?_) (fun hge => ?_)
  · generalize stepW bs k ([], st3) = z at *
    obtain ⟨L, st⟩ := z
    simp only at ho hr5 hstep hlenk
    refine stpP ?_
    have k5 := Num_run hr5
    generalize rd (numS bs) 0 st = c at *
    obtain ⟨c, st5⟩ := c
    refine O.call' k5 (fun r h6 hq => ?_)
    obtain ⟨hf6, rfl, hr6⟩ := hq
    simp only at hr6 hstep
    have hn56 := hf6.n
    refine stpP ?_
    have k6 := Word_run (hr6.none (Fr.refl.push (o := .cells [.int .i64 (c : Nat), .int .u64 0] 0)))
    generalize rd (wordS bs) 0 st5 = d at *
    obtain ⟨d, st6⟩ := d
    refine O.call' k6 (fun r h7 hq => ?_)
    obtain ⟨hf7, rfl, hr7⟩ := hq
    simp only at hr7 hstep
    have hn67 := hf7.n
    simp only [Heap.n_push] at hn67
    have hp6 := hr6.lt
    haveI : HGet h7 h6.n _ := hf7.keep (b := h6.n) HGet.new (by simp) (by omega)
    have hf57 : Fr (fun i => i = p) h5 h7 := Fr.trans (S := fun i => i = p) hf6 (Fr.trans (S := fun i => i = p) Fr.refl.push hf7 fun _ _ h => h) fun _ _ h => h
    haveI hA7 : HGet h7 h.n _ := hf57.keep (b := h.n) ⟨hg5⟩ (by omega) (by omega)
    haveI : BLt h.n h7 := ⟨by omega⟩
    haveI : BLt h6.n h7 := ⟨by omega⟩
    haveI : BNe h6.n h.n := ⟨by omega⟩
    haveI : BNe h.n h6.n := ⟨by omega⟩
    refine stpP ?_
    have hol := fun {i : Nat} (hi : ownedBy (.slice asl k csl) i) => ho.lt hi
    have ho7 : Own h7 2 (.slice asl k csl) (tcells L) k := ho.keep hf57 fun i hi h => by have := hnew i hi; omega
    refine O.append ((ho7.keep (S := fun i => i = h6.n) (Fr.refl.set fun _ => rfl) fun i hi h => by have := hol hi; omega).keep (S := fun _ => False) Fr.refl.push fun _ _ => id) (one_vote rfl) rfl rfl (by omega) (by omega) (by omega) (fun v8 h8 ho8 hf8 hn8 => ?_)
    have hf78 : Fr (fun i => i = h6.n ∨ ownedBy (.slice asl k csl) i) h7 h8 := Fr.trans (S := fun i => i = h6.n ∨ ownedBy (.slice asl k csl) i) (Fr.refl.set fun _ => .inl rfl).push hf8 fun i _ hi => .inr hi
    have hn78 := hf78.n
    have hnsl : ¬ ownedBy (.slice asl k csl) h.n := fun h => by have := hnew _ h; omega
    haveI hA8 : HGet h8 h.n _ := hf78.keep hA7 (by omega) (fun h => by
      rcases h with h | h
      · omega
      · exact hnsl h)
    haveI : BLt h.n h8 := ⟨by omega⟩
    obtain ⟨a8, c8, rfl, _, _⟩ := ho8.rd
    have hnew8 : ∀ i, ownedBy (.slice a8 (k + 1) c8) i → h4.n ≤ i := fun i hi => by
      rcases hn8 i hi with h9 | h9
      · exact hnew i h9
      · simp at h9; omega
    refine stpP ?_
    refine zrQ_l0_again (n - (k + 1)) (by omega) ⟨k + 1, by omega, rfl, rfl, ⟨_, by rw [Heap.get_set, if_pos rfl], ?_, hnew8⟩, ?_, ?_⟩
    · rw [hstep]
      simp only
      rw [tcells_append]
      exact ho8.keep (S := fun i => i = h.n) (Fr.refl.set fun _ => rfl) fun i hi h => by have := hnew8 i hi; omega
    · rw [hstep]
      refine hset (hr7.keep hf78 (fun h => ?_) fun i hi h => ?_)
      · rcases h with h | h
        · omega
        · have := hnew p h; omega
      · have := (hown1 i hi).2
        rcases h with h | h
        · omega
        · have := hnew i h; omega
    · refine Fr.set ?_ fun _ => .inr rfl
      refine Fr.trans (S := fun i => i = p ∨ i = h.n) hf5 (Fr.trans (S := fun i => i = p ∨ ownedBy (.slice asl k csl) i) (hf57.mono fun _ _ h => .inl h) hf78 fun i hi h => ?_) fun i hi h => ?_
      · rcases h with h | h
        · omega
        · exact .inr h
      · rcases h with h | h
        · exact .inl h
        · have := hnew i h; omega
  · obtain rfl : k = n := by omega
    have hp5 := hr5.lt
    haveI hA5 : HGet h5 h.n _ := ⟨hg5⟩
    have hB5 : HGet h5 b3 _ := hf5.keep hB4 (by omega) (by omega)
    haveI := hB5
    have hfh5 : Fr (fun _ => False) h h5 := Fr.trans (S := fun _ => False) hfh4 hf5 fun i hi ho => by omega
    generalize stepW bs k ([], st3) = z at *
    obtain ⟨L, st⟩ := z
    simp only at ho hr5 hlenk ⊢
    refine stpP ?_
    have k7 := End_run hr5
    generalize endS bs st = F at *
    obtain ⟨e, f⟩ := F
    refine O.call' k7 (fun r h6 hr => ?_)
    obtain ⟨rfl, hf6⟩ := hr
    have hn56 := hf6.n
    haveI hA6 : HGet h6 h.n _ := hf6.keep hA5 (by omega) id
    haveI hB6 : HGet h6 b3 _ := hf6.keep hB5 (by omega) id
    haveI : BLt h.n h6 := ⟨by omega⟩
    haveI : BLt b3 h6 := ⟨by omega⟩
    have hfh6 : Fr (fun _ => False) h h6 := hfh5.trans' hf6
    have ho6 : ∀ {b : Nat} {o : AObj}, b < h4.n → Own (h6.set b o) 2 (.slice asl k csl) (tcells L) k := fun {b o} hb => (ho.keep hf6 fun _ _ => id).keep (S := fun i => i = b) (Fr.refl.set fun _ => rfl) fun i hi h => by have := hnew i hi; omega
    refine stpP ?_
    rw [same_fault]
    refine C.if (fun hz => ?_) (fun hz => ?_)
    · obtain ⟨he, ha⟩ := Prod.mk.inj hz
      subst he ha
      refine stpP ?_
      refine O.call' (CCheck_ok (l := L) hl3 (by rw [hlenk]; exact (ho6 (by omega)).rd)) (fun r h7 hr => ?_)
      obtain ⟨rfl, hf7⟩ := hr
      have hn67 := hf7.n
      simp only [Heap.n_set] at hn67
      haveI : HGet h7 b3 _ := hf7.keep (b := b3) .same (by simp; omega) id
      haveI : HGet h7 h.n _ := hf7.keep (b := h.n) (HGet.set (k := ⟨by omega⟩) (g := hA6)) (by simp; omega) id
      haveI : BLt h.n h7 := ⟨by omega⟩
      haveI : BLt b3 h7 := ⟨by omega⟩
      have hfh7 : Fr (fun _ => False) h h7 := Fr.trans (S := fun _ => False) (Fr.set hfh6 fun hlt => by omega) hf7 fun _ _ h => h
      have ho7 : Own h7 2 (.slice asl k csl) (tcells L) k := (ho6 (by omega)).keep hf7 fun _ _ => id
      refine stpP ?_
      rw [same_fault]
      refine C.ifN (fun hc => ?_) (fun hc => ?_)
      · refine stpP ?_
        simp only [if_true]
        rw [if_neg hc]
        exact ⟨_, rfl, .none, fun i hi => hi.elim, Fr.set (Fr.set (Fr.set hfh7 fun hlt => by omega) fun hlt => by omega) fun hlt => by omega⟩
      · have h0 : checkC (a : Nat) L = 0 := by injection hc
        rw [h0]
        refine stpP ?_
        simp only [if_true]
        refine ⟨_, rfl, ?_, fun i hi => ?_, Fr.set (Fr.set (Fr.set hfh7 fun hlt => by omega) fun hlt => by omega) fun hlt => by omega⟩
        · rw [hlenk]
          exact ho7.keep (S := fun i => i = b3 ∨ i = h.n) (Fr.set (Fr.set (Fr.set Fr.refl fun _ => .inl rfl) fun _ => .inr rfl) fun _ => .inl rfl) fun i hi h => by have := hnew i hi; omega
        · have := hnew i hi
          omega
    · refine stpP ?_
      rw [same_fault]
      refine C.ifN (fun hc => ?_) (fun hc => absurd hc hz)
      refine stpP ?_
      simp only [if_neg hz]
      exact ⟨_, rfl, .none, fun i hi => hi.elim, Fr.set (Fr.set (Fr.set hfh6 fun hlt => by omega) fun hlt => by omega) fun hlt => by omega⟩
end Go.Proofs.YtbmpalbdbcjieaaGreat.A

namespace Go.Proofs.YtbmpalbdbcjieaaGreat.A
open Go Go.Vm
set_option maxRecDepth 10000
set_option linter.unusedVariables false
theorem RWord_run {h : Heap} {p : Nat} {sv : Value} {bs : List UInt8} {st : RSt} (hp : RRs h p sv bs st) :
    Runs Tryz.prog T0 (.fn fn_zacQ) [.pointer (some ⟨p, 0, none⟩)] h (RReads h p sv bs (rd (wordS bs) 0 st) fun n r _ => r = .int .u64 (n : Nat)) (fun _ _ => False) := by
  obtain ⟨st1, e, fa⟩ := st
  obtain ⟨pl, h1, h2⟩ := hp.ex
  haveI : HGet h p _ := ⟨h2.get⟩
  refine zacQ_runs ?_
  refine stpP ?_
  by_cases he : e = 0
  · subst he
    obtain ⟨rfl, h3⟩ := h1 rfl
    have h3 : fa = 0 := h3
    subst h3
    refine O.call' (Rtake_ok (n := 8) (a := pl) h2) (fun r h3 hq => ?_)
    obtain ⟨hf3, ⟨hle, ho, hnew, hr3⟩ | ⟨hlt3, rfl, hr3⟩⟩ := hq
    · generalize hd : (bs.drop pl).take 8 = d at ho
      have hdl : d.length = 8 := by rw [← hd, List.length_take, List.length_drop]; omega
      obtain ⟨a, cap, rfl, hl, hc⟩ := ho.rd
      obtain ⟨b, o, sp, rfl, hb, hcc⟩ := hc (by omega)
      rw [Nat.mul_one] at hcc
      refine stpP ?_
      refine zacQ_l0_rule (fun m v3 v5 h' => ∃ i : Nat, i ≤ 8 ∧ m = 8 - i ∧ v5 = .int .i64 i ∧ v3 = .int .u64 (bigN (d.take i)) ∧ h3 = h') ?_ 8 ⟨0, by omega, rfl, rfl, rfl, rfl⟩
      rintro m v3 v5 h4 x12 x13 x14 x15 x16 x17 x18 x19 x20 x21 x22 x23 x24 x25 ⟨i, hi, rfl, rfl, rfl, rfl⟩
      refine stpP ?_
      refine C.if (fun hlt => ?_) (fun hge => ?_)
      · haveI := byte_cell (k := i) hcc (by omega)
        have h8' := bigN_take_lt (l := d) (k := i) (by omega)
        have hbt2 := (d.getD i 0).toNat_lt
        have hs := bigN_take (l := d) (k := i) (by omega)
        refine stpP ?_
        refine O.how (XOp.shl8 ⟨by omega, by omega⟩) ?_
        refine stpP ?_
        refine O.how (XOp.orByte (by omega) (by omega)) ?_
        refine stpP ?_
        exact zacQ_l0_again (8 - (i + 1)) (by omega) ⟨i + 1, by omega, rfl, rfl, by rw [hs], rfl⟩
      · obtain rfl : i = 8 := by omega
        rw [List.take_of_length_le (by omega)]
        refine stpP ?_
        refine rrd_ok (a := bigN d) (pl' := pl + 8) ?_ hf3 rfl hr3
        unfold wordS
        rw [if_neg (by omega), hd]
    · refine stpP ?_
      refine zacQ_l0_rule (fun m v3 v5 h' => v5 = .int .i64 0 ∧ v3 = .int .u64 0 ∧ h3 = h') ?_ 0 ⟨rfl, rfl, rfl⟩
      rintro m v3 v5 h4 x12 x13 x14 x15 x16 x17 x18 x19 x20 x21 x22 x23 x24 x25 ⟨rfl, rfl, rfl⟩
      refine stpP ?_
      refine rrd_err (e := 6) ?_ (by omega) hf3 rfl hr3
      unfold wordS
      rw [if_pos (by omega)]
  · refine O.call' (Rtake_bad h2 he) (fun r h3 hq => ?_)
    obtain ⟨rfl, rfl⟩ := hq
    refine stpP ?_
    refine zacQ_l0_rule (fun m v3 v5 h' => v5 = .int .i64 0 ∧ v3 = .int .u64 0 ∧ h3 = h') ?_ 0 ⟨rfl, rfl, rfl⟩
    rintro m v3 v5 h4 x12 x13 x14 x15 x16 x17 x18 x19 x20 x21 x22 x23 x24 x25 ⟨rfl, rfl, rfl⟩
    refine stpP ?_
    exact rrd_bad he Fr.refl rfl hp
theorem RRest_run {h : Heap} {p : Nat} {sv : Value} {bs : List UInt8} {st : RSt} (hp : RRs h p sv bs st) :
    Runs Tryz.prog T0 (.fn fn_zybQ) [.pointer (some ⟨p, 0, none⟩)] h (fun r h' => r = .int .i64 (restS bs st) ∧ h' = h) (fun _ _ => False) := by
  obtain ⟨pl, h1, hr⟩ := hp.ex
  have hsm := hr.small
  have hle := hr.at_le
  obtain ⟨a, cap, rfl, hlen, _⟩ := hr.own.rd
  haveI : HGet h p _ := ⟨hr.get⟩
  haveI : BLt p h := ⟨hr.lt⟩
  refine zybQ_runs ?_
  refine stpP ?_
  refine C.ifN (fun he => ?_) (fun he => ?_)
  · refine stpP ?_
    unfold restS
    rw [if_neg he]
    exact ⟨rfl, rfl⟩
  · refine stpP ?_
    unfold restS
    rw [if_pos he, ← (h1 he).1]
    exact ⟨rfl, rfl⟩
theorem RRs.le {h : Heap} {p : Nat} {sv : Value} {bs : List UInt8} {st : RSt} (hp : RRs h p sv bs st) (he : st.e = 0) : st.pl ≤ bs.length := let ⟨_, h1, h2⟩ := hp.ex; (h1 he).1 ▸ h2.at_le
set_option maxHeartbeats 4000000 in
theorem RCCheck_ok {h : Heap} {ht : Int} {hs : List UInt8} {sv : Value} {l : List Vote} (hl : hs.length = 32) (hv : Rd h 2 sv (tcells l) l.length) :
    Runs Tryz.prog T0 (.fn fn_zjcQ) [.agg ⟨.int .i64 ht :: (bcells hs ++ [sv])⟩] h (fun r h' => r = .int .i64 (checkC ht l) ∧ Fr (fun _ => False) h h') (fun _ _ => False) := by
  obtain ⟨a, cap, rfl, hlen, hc⟩ := hv
  haveI := l32 hl
  refine zjcQ_runs ?_
  refine stpP ?_
  unfold checkC
  refine O.dec (fun h0 => ?_) (fun h0 => ?_)
  · refine stpP ?_
    rw [if_pos (show ht < 1 ∨ 1073741824 < ht from .inl h0)]
    exact ⟨rfl, Fr.refl.push⟩
  refine stpP ?_
  refine C.if (fun h1 => ?_) (fun h1 => ?_)
  · refine stpP ?_
    rw [if_pos (show ht < 1 ∨ 1073741824 < ht from .inr h1)]
    exact ⟨rfl, Fr.refl.push⟩
  rw [if_neg (show ¬ (ht < 1 ∨ 1073741824 < ht) by omega)]
  refine stpP ?_
  refine C.if (fun h2 => ?_) (fun h2 => ?_)
  · refine stpP ?_
    rw [if_pos (by omega)]
    exact ⟨rfl, Fr.refl.push⟩
  rw [if_neg (by omega)]
  refine stpP ?_
  generalize hh0 : h.push (.cells (.int .i64 ht :: (bcells hs ++ [.slice a l.length cap])) 0) = h0
  have hf : Fr (fun _ => False) h h0 := by rw [← hh0]; exact Fr.refl.push
  haveI hA : HGet h0 h.n (.cells (.int .i64 ht :: (bcells hs ++ [.slice a l.length cap])) 0) := by rw [← hh0]; exact HGet.new
  clear hh0
  refine zjcQ_l0_rule (fun m v3 h' => ∃ k : Nat, k ≤ l.length ∧ m = l.length - k ∧ v3 = .int .i64 k ∧ h' = h0 ∧ stepsC (-1) l = stepsC (lastC l k) (l.drop k)) ?_ l.length ⟨0, by omega, rfl, rfl, rfl, rfl⟩
  rintro m v3 h' x2 x18 x19 x20 x21 x22 x23 x24 x25 x26 x27 x28 x29 x30 x31 x32 x33 x34 x35 x36 x37 x38 x39 x40 x41 x42 x43 x44 x45 x46 x47 x48 x49 x50 x51 x52 x53 x54 x55 x56 x57 x58 x59 x60 ⟨k, hk, rfl, rfl, rfl, hst⟩
  refine stpP ?_
  refine C.if (fun hlt => ?_) (fun hge => ?_)
  · have hlt : k < l.length := by omega
    obtain ⟨b, o, sp, rfl, hb, hcc⟩ := hc (by omega)
    have hcc' : cellsAt h' b o (l.length * 2) = some (tcells l) := by rw [cellsAt_keep hf hb id]; exact hcc
    haveI := vote_at hcc' rfl hlt
    rw [stepsC_at hlt] at hst
    refine stpP ?_
    refine O.dec (fun h0 => ?_) (fun h0 => ?_)
    · refine stpP ?_
      have hv : voteS (lastC l k) (l.getD k zVote) = 3 := by unfold voteS; rw [if_pos (.inl h0)]
      rw [hst, hv, if_neg (by decide)]
      exact ⟨rfl, hf⟩
    refine stpP ?_
    refine C.if (fun h1 => ?_) (fun h1 => ?_)
    · refine stpP ?_
      have hv : voteS (lastC l k) (l.getD k zVote) = 3 := by unfold voteS; rw [if_pos (.inr h1)]
      rw [hst, hv, if_neg (by decide)]
      exact ⟨rfl, hf⟩
    refine stpP ?_
    refine D.dec (fun h2 => ?_) (fun h2 => ?_)
    · obtain ⟨j, rfl⟩ : ∃ j, k = j + 1 := ⟨k - 1, by omega⟩
      have hlast : lastC l (j + 1) = (l.getD j zVote).at' := rfl
      haveI := vote_at (k := j) hcc' rfl (by omega)
      refine stpP ?_
      refine D.howT (XOp.mkIndexSl (by omega)) rfl ?_
      refine stpP ?_
      rw [show ((j + 1 : Nat) : Int) - 1 = (j : Nat) from by omega]
      refine D.howT (XOp.mkIndexSl (by omega)) rfl ?_
      refine stpP ?_
      refine C.if (fun h3 => ?_) (fun h3 => ?_)
      · refine stpP ?_
        have hv : voteS (lastC l (j + 1)) (l.getD (j + 1) zVote) = 9 := by unfold voteS; rw [hlast, if_neg (by omega), if_pos h3]
        rw [hst, hv, if_neg (by decide)]
        exact ⟨rfl, hf⟩
      · refine stpP ?_
        have hv : voteS (lastC l (j + 1)) (l.getD (j + 1) zVote) = 0 := by unfold voteS; rw [hlast, if_neg (by omega), if_neg h3]
        rw [hv, if_pos rfl] at hst
        exact zjcQ_l0_again (l.length - (j + 1 + 1)) (by omega) ⟨j + 1 + 1, by omega, rfl, rfl, rfl, hst⟩
    · obtain rfl : k = 0 := by omega
      refine stpP ?_
      have hlast : lastC l 0 = -1 := rfl
      have hv : voteS (lastC l 0) (l.getD 0 zVote) = 0 := by unfold voteS; rw [hlast, if_neg (by omega), if_neg (by omega)]
      rw [hv, if_pos rfl] at hst
      exact zjcQ_l0_again (l.length - (0 + 1)) (by omega) ⟨0 + 1, by omega, rfl, rfl, rfl, hst⟩
  · obtain rfl : k = l.length := by omega
    refine stpP ?_
    rw [hst, List.drop_length]
    exact ⟨rfl, hf⟩
end Go.Proofs.YtbmpalbdbcjieaaGreat.A

namespace Go.Proofs.YtbmpalbdbcjieaaGreat.A
open Go Go.Vm
set_option maxRecDepth 10000
set_option linter.unusedVariables false
set_option maxHeartbeats 4000000 in
theorem RCDecode_ok {h : Heap} {v : Value} {bs : List UInt8} (hv : Rd h 1 v (bcells bs) bs.length) (hs : bs.length < 1048576) : Runs Tryz.prog T0 (.fn fn_zkcQ) [v] h
    (fun r h' => ∃ sl, r = .tuple ⟨[.agg ⟨(decC bs).1.cells sl⟩, .agg ⟨[.int .i64 (decC bs).2.1, .int .i64 (decC bs).2.2]⟩]⟩ ∧ Own h' 2 sl (tcells (decC bs).1.votes) (decC bs).1.votes.length ∧ (∀ i, ownedBy sl i → h.n ≤ i) ∧ Fr (fun _ => False) h h') (fun _ _ => False) := by
  have hv' := hv
  obtain ⟨a0, cap0, rfl, hl0, _⟩ := hv
  refine zkcQ_runs ?_
  refine stpP ?_
  generalize hh0 : ((h.push (.cells (.int .i64 0 :: (z32 ++ [.slice none 0 0])) 0)).push (.cells [.int .i64 0, .int .i64 0] 0)) = h0
  have hf0 : Fr (fun _ => False) h h0 := by rw [← hh0]; exact Fr.refl.push.push
  have hn0 : h0.n = h.n + 2 := by rw [← hh0]; rfl
  have hA0 : HGet h0 h.n (.cells (.int .i64 0 :: (z32 ++ [.slice none 0 0])) 0) := by rw [← hh0]; exact HGet.push (k := BLt.new) (g := HGet.new)
  generalize hb3 : (h.push (.cells (.int .i64 0 :: (z32 ++ [.slice none 0 0])) 0)).n = b3
  have hb3' : b3 = h.n + 1 := by rw [← hb3]; rfl
  have hB0 : HGet h0 b3 (.cells [.int .i64 0, .int .i64 0] 0) := by rw [← hh0, ← hb3]; exact HGet.new
  clear hh0 hb3
  refine O.call' (RNew_ok (hv'.keep hf0 fun _ _ => id) hs) (fun r h1' hr => ?_)
  obtain ⟨p, sv, rfl, hp1, hsv, hr1', hf1'⟩ := hr
  have hlt1' := hr1'.lt
  have hn1' := hf1'.n
  have hA1' : HGet h1' h.n _ := hf1'.keep hA0 (by omega) id
  have hB1' : HGet h1' b3 _ := hf1'.keep hB0 (by omega) id
  refine stpP ?_
  generalize hx : h1'.n = x
  generalize hh1 : h1'.push (.cells (.int .i64 0 :: (z32 ++ [.slice none 0 0])) 0) = h1
  have hf1x : Fr (fun _ => False) h1' h1 := by rw [← hh1]; exact Fr.refl.push
  have hn1 : h1.n = x + 1 := by rw [← hh1, ← hx]; rfl
  have hC1 : HGet h1 x (.cells (.int .i64 0 :: (z32 ++ [.slice none 0 0])) 0) := by rw [← hh1, ← hx]; exact HGet.new
  clear hh1
  have hA1 := hf1x.keep hA1' (by omega) id
  have hB1 := hf1x.keep hB1' (by omega) id
  have hr1 := hr1'.none hf1x
  have hf1 := hf1'.trans' hf1x
  have hlt1 := hr1.lt
  have hown1 : ∀ i, ownedBy sv i → h0.n ≤ i ∧ i < x := fun i hi => ⟨hsv i hi, by have := hr1'.own_lt hi; omega⟩
  have k1 := RNum_run hr1
  have hdec : decC bs = (if 64 < (rd (numS bs) 0 (rd (partS 32 bs) zb32 (rd (numS bs) 0 ⟨0, 0, 0⟩).2).2).1 then (zCm, (4, (bs.length : Int) - restS bs (rd (partS 32 bs) zb32 (rd (numS bs) 0 ⟨0, 0, 0⟩).2).2)) else
    let y := stepW bs (rd (numS bs) 0 (rd (partS 32 bs) zb32 (rd (numS bs) 0 ⟨0, 0, 0⟩).2).2).1 ([], (rd (numS bs) 0 (rd (partS 32 bs) zb32 (rd (numS bs) 0 ⟨0, 0, 0⟩).2).2).2)
    let f := endS bs y.2
    let g := if f = (0, 0) then (checkC ((rd (numS bs) 0 ⟨0, 0, 0⟩).1 : Nat) y.1, 0) else f
    if g = (0, 0) then (⟨((rd (numS bs) 0 ⟨0, 0, 0⟩).1 : Nat), (rd (partS 32 bs) zb32 (rd (numS bs) 0 ⟨0, 0, 0⟩).2).1, y.1⟩, (0, 0)) else (zCm, g)) := rfl
  rw [hdec]
  clear hdec
  generalize rd (numS bs) 0 ⟨0, 0, 0⟩ = a at *
  obtain ⟨a, st1⟩ := a
  refine O.call' k1 (fun r h2 hr => ?_)
  obtain ⟨hf2, rfl, hr2⟩ := hr
  simp only at hr2 ⊢
  have hn2 := hf2.n
  haveI hA2 : HGet h2 h.n _ := hf2.keep hA1 (by omega) (by omega)
  have hB2 : HGet h2 b3 _ := hf2.keep hB1 (by omega) (by omega)
  haveI hC2 : HGet h2 x _ := hf2.keep hC1 (by omega) (by omega)
  refine stpP ?_
  have hset : ∀ {hh : Heap} {c : List Value} {st : RSt}, RRs hh p sv bs st → RRs (hh.set x (.cells c 0)) p sv bs st := fun hr => hr.keep (S := fun j => j = x) (Fr.refl.set fun _ => rfl) (by omega) fun i hi hn => by have := (hown1 i hi).2; omega
  have k2 := RHash_run (hset (c := .int .i64 (a : Nat) :: (z32 ++ [.slice none 0 0])) hr2)
  generalize rd (partS 32 bs) zb32 st1 = b at *
  obtain ⟨hs32, st2⟩ := b
  refine O.call' k2 (fun r h3 hr => ?_)
  obtain ⟨hf3, ⟨rfl, hl3⟩, hr3⟩ := hr
  simp only at hr3 hl3 ⊢
  haveI := l32 hl3
  have hn3 := hf3.n
  simp only [Heap.n_set] at hn3
  have hf23 : Fr (fun i => i = p ∨ i = x) h2 h3 := (Fr.refl.set fun _ => .inr rfl).trans' (hf3.mono fun _ _ h => .inl h)
  have hA3 : HGet h3 h.n _ := hf23.keep hA2 (by omega) (by omega)
  have hB3 : HGet h3 b3 _ := hf23.keep hB2 (by omega) (by omega)
  haveI hC3 : HGet h3 x _ := hf3.keep (b := x) .same (by simp; omega) (by omega)
  refine stpP ?_
  have k3 := RRest_run (hset (c := .int .i64 (a : Nat) :: (bcells hs32 ++ [.slice none 0 0])) hr3)
  have hrest : 0 ≤ (bs.length : Int) - restS bs st2 ∧ (bs.length : Int) - restS bs st2 ≤ bs.length := by
    unfold restS
    by_cases he : st2.e = 0
    · have := hr3.le he
      rw [if_pos he]; omega
    · rw [if_neg he]; omega
  generalize restS bs st2 = rest at *
  refine O.call' k3 (fun r h4 hr => ?_)
  obtain ⟨rfl, rfl⟩ := hr
  refine stpP ?_
  have k4 := RNum_run (hset (c := .int .i64 (a : Nat) :: (bcells hs32 ++ [.slice none 0 0])) hr3)
  generalize rd (numS bs) 0 st2 = n at *
  obtain ⟨n, st3⟩ := n
  refine O.call' k4 (fun r h4 hr => ?_)
  obtain ⟨hf4, rfl, hr4⟩ := hr
  simp only at hr4 ⊢
  have hn4 := hf4.n
  simp only [Heap.n_set] at hn4
  have hf34 : Fr (fun i => i = p ∨ i = x) h3 h4 := (Fr.refl.set fun _ => .inr rfl).trans' (hf4.mono fun _ _ h => .inl h)
  haveI hA4 : HGet h4 h.n _ := hf34.keep hA3 (by omega) (by omega)
  haveI hB4 : HGet h4 b3 _ := hf34.keep hB3 (by omega) (by omega)
  haveI hC4 : HGet h4 x _ := hf4.keep (b := x) .same (by simp; omega) (by omega)
  haveI : BLt h.n h4 := ⟨by omega⟩
  haveI : BLt b3 h4 := ⟨by omega⟩
  haveI : BLt x h4 := ⟨by omega⟩
  haveI : BNe h.n b3 := ⟨by omega⟩
  haveI : BNe b3 h.n := ⟨by omega⟩
  have hfh4 : Fr (fun _ => False) h h4 := Fr.trans (S := fun _ => False) (hf0.trans' hf1) ((hf2.mono fun _ _ h => .inl h).trans' (hf23.trans' hf34)) fun i hi ho => by omega
  refine stpP ?_
  refine C.if (fun hbig => ?_) (fun hsm => ?_)
  · refine stpP ?_
    rw [if_pos (by omega)]
    exact ⟨_, rfl, .none, fun i hi => hi.elim, Fr.set (Fr.set hfh4 fun hlt => by omega) fun hlt => by omega⟩
  rw [if_neg (by omega)]
  refine stpP ?_
  refine zkcQ_l0_rule (fun m v8 h' => ∃ k : Nat, k ≤ n ∧ m = n - k ∧ v8 = .int .i64 k ∧ (∃ sl, h'.get x = .cells (.int .i64 (a : Nat) :: (bcells hs32 ++ [sl])) 0 ∧ Own h' 2 sl (tcells (stepW bs k ([], st3)).1) k ∧ (∀ i, ownedBy sl i → h4.n ≤ i)) ∧ RRs h' p sv bs (stepW bs k ([], st3)).2 ∧ Fr (fun i => i = p ∨ i = x) h4 h') ?_ n ⟨0, by omega, rfl, rfl, ⟨_, hC4.eq, .none, fun i hi => hi.elim⟩, hr4, Fr.refl⟩
  rintro m v8 h5 x9 x31 x32 x33 x34 x35 x36 x37 x38 x39 x40 x41 x42 x43 x44 x45 x46 x47 ⟨k, hk, rfl, rfl, ⟨sl, hg5, ho, hnew⟩, hr5, hf5⟩
  obtain ⟨asl, csl, rfl, _, _⟩ := ho.rd
  have hstep : stepW bs (k + 1) ([], st3) = ((stepW bs k ([], st3)).1 ++ [⟨((rd (numS bs) 0 (stepW bs k ([], st3)).2).1 : Nat), (rd (wordS bs) 0 (rd (numS bs) 0 (stepW bs k ([], st3)).2).2).1⟩], (rd (wordS bs) 0 (rd (numS bs) 0 (stepW bs k ([], st3)).2).2).2) := rfl
  have hlenk : (stepW bs k ([], st3)).1.length = k := by rw [stepW_len]; simp
  have hn45 := hf5.n
  refine stpP ?_
  refine C.if (fun hlt => ?_) (fun hge => ?_)
  · generalize stepW bs k ([], st3) = z at *
    obtain ⟨L, st⟩ := z
    simp only at ho hr5 hstep hlenk
    refine stpP ?_
    have k5 := RNum_run hr5
    generalize rd (numS bs) 0 st = c at *
    obtain ⟨c, st5⟩ := c
    refine O.call' k5 (fun r h6 hq => ?_)
    obtain ⟨hf6, rfl, hr6⟩ := hq
    simp only at hr6 hstep
    have hn56 := hf6.n
    refine stpP ?_
    have k6 := RWord_run (hr6.none (Fr.refl.push (o := .cells [.int .i64 (c : Nat), .int .u64 0] 0)))
    generalize rd (wordS bs) 0 st5 = d at *
    obtain ⟨d, st6⟩ := d
    refine O.call' k6 (fun r h7 hq => ?_)
    obtain ⟨hf7, rfl, hr7⟩ := hq
    simp only at hr7 hstep
    have hn67 := hf7.n
    simp only [Heap.n_push] at hn67
    have hp6 := hr6.lt
    haveI : HGet h7 h6.n _ := hf7.keep (b := h6.n) HGet.new (by simp) (by omega)
    have hf57 : Fr (fun i => i = p) h5 h7 := Fr.trans (S := fun i => i = p) hf6 (Fr.trans (S := fun i => i = p) Fr.refl.push hf7 fun _ _ h => h) fun _ _ h => h
    haveI hC7 : HGet h7 x _ := hf57.keep (b := x) ⟨hg5⟩ (by omega) (by omega)
    haveI : BLt x h7 := ⟨by omega⟩
    haveI : BLt h6.n h7 := ⟨by omega⟩
    haveI : BNe h6.n x := ⟨by omega⟩
    haveI : BNe x h6.n := ⟨by omega⟩
    refine stpP ?_
    have hol := fun {i : Nat} (hi : ownedBy (.slice asl k csl) i) => ho.lt hi
    have ho7 : Own h7 2 (.slice asl k csl) (tcells L) k := ho.keep hf57 fun i hi h => by have := hnew i hi; omega
    refine O.append ((ho7.keep (S := fun i => i = h6.n) (Fr.refl.set fun _ => rfl) fun i hi h => by have := hol hi; omega).keep (S := fun _ => False) Fr.refl.push fun _ _ => id) (one_vote rfl) rfl rfl (by omega) (by omega) (by omega) (fun v8 h8 ho8 hf8 hn8 => ?_)
    have hf78 : Fr (fun i => i = h6.n ∨ ownedBy (.slice asl k csl) i) h7 h8 := Fr.trans (S := fun i => i = h6.n ∨ ownedBy (.slice asl k csl) i) (Fr.refl.set fun _ => .inl rfl).push hf8 fun i _ hi => .inr hi
    have hn78 := hf78.n
    haveI hC8 : HGet h8 x _ := hf78.keep hC7 (by omega) (fun h => by
      rcases h with h | h
      · omega
      · have := hnew _ h; omega)
    haveI : BLt x h8 := ⟨by omega⟩
    obtain ⟨a8, c8, rfl, _, _⟩ := ho8.rd
    have hnew8 : ∀ i, ownedBy (.slice a8 (k + 1) c8) i → h4.n ≤ i := fun i hi => by
      rcases hn8 i hi with h9 | h9
      · exact hnew i h9
      · simp at h9; omega
    refine stpP ?_
    refine zkcQ_l0_again (n - (k + 1)) (by omega) ⟨k + 1, by omega, rfl, rfl, ⟨_, by rw [Heap.get_set, if_pos rfl], ?_, hnew8⟩, ?_, ?_⟩
    · rw [hstep]
      simp only
      rw [tcells_append]
      exact ho8.keep (S := fun i => i = x) (Fr.refl.set fun _ => rfl) fun i hi h => by have := hnew8 i hi; omega
    · rw [hstep]
      refine hset (hr7.keep hf78 (fun h => ?_) fun i hi h => ?_)
      · rcases h with h | h
        · omega
        · have := hnew p h; omega
      · have := (hown1 i hi).2
        rcases h with h | h
        · omega
        · have := hnew i h; omega
    · refine Fr.set ?_ fun _ => .inr rfl
      refine Fr.trans (S := fun i => i = p ∨ i = x) hf5 (Fr.trans (S := fun i => i = p ∨ ownedBy (.slice asl k csl) i) (hf57.mono fun _ _ h => .inl h) hf78 fun i hi h => ?_) fun i hi h => ?_
      · rcases h with h | h
        · omega
        · exact .inr h
      · rcases h with h | h
        · exact .inl h
        · have := hnew i h; omega
  · obtain rfl : k = n := by omega
    have hp5 := hr5.lt
    have hC5 : HGet h5 x _ := ⟨hg5⟩
    have hA5 : HGet h5 h.n _ := hf5.keep hA4 (by omega) (by omega)
    have hB5 : HGet h5 b3 _ := hf5.keep hB4 (by omega) (by omega)
    have hfh5 : Fr (fun _ => False) h h5 := Fr.trans (S := fun _ => False) hfh4 hf5 fun i hi ho => by omega
    generalize stepW bs k ([], st3) = z at *
    obtain ⟨L, st⟩ := z
    simp only at ho hr5 hlenk ⊢
    refine stpP ?_
    have k7 := REnd_run hr5
    have hz0 := hr5.zero
    generalize endS bs st = F at *
    obtain ⟨e, f⟩ := F
    refine O.call' k7 (fun r h6 hr => ?_)
    obtain ⟨rfl, hf6⟩ := hr
    simp only at hz0
    have hn56 := hf6.n
    haveI hA6 : HGet h6 h.n _ := hf6.keep hA5 (by omega) id
    haveI hB6 : HGet h6 b3 _ := hf6.keep hB5 (by omega) id
    haveI hC6 : HGet h6 x _ := hf6.keep hC5 (by omega) id
    haveI : BLt h.n h6 := ⟨by omega⟩
    haveI : BLt b3 h6 := ⟨by omega⟩
    haveI : BLt x h6 := ⟨by omega⟩
    haveI : BNe x h6.n := ⟨by omega⟩
    haveI : BNe h.n h6.n := ⟨by omega⟩
    haveI : BNe b3 h6.n := ⟨by omega⟩
    haveI : BNe h6.n h.n := ⟨by omega⟩
    haveI : BNe h6.n b3 := ⟨by omega⟩
    haveI : BNe h6.n x := ⟨by omega⟩
    haveI : BNe x h.n := ⟨by omega⟩
    have hfh6 : Fr (fun _ => False) h h6 := hfh5.trans' hf6
    have ho6 : ∀ {o : AObj}, Own (h6.push o) 2 (.slice asl k csl) (tcells L) k := fun {o} => (ho.keep hf6 fun _ _ => id).keep (S := fun _ => False) Fr.refl.push fun _ _ => id
    refine stpP ?_
    refine C.if (fun he => ?_) (fun he => ?_)
    · subst he
      obtain rfl := hz0 rfl
      refine stpP ?_
      refine O.call' (RCCheck_ok (l := L) hl3 (by rw [hlenk]; exact ho6.rd)) (fun r h7 hr => ?_)
      obtain ⟨rfl, hf7⟩ := hr
      have hn67 := hf7.n
      simp only [Heap.n_push] at hn67
      haveI : HGet h7 h6.n _ := hf7.keep (b := h6.n) HGet.new (by simp) id
      haveI : HGet h7 h.n _ := hf7.keep (b := h.n) (HGet.push (g := hA6)) (by simp; omega) id
      haveI : HGet h7 b3 _ := hf7.keep (b := b3) (HGet.push (g := hB6)) (by simp; omega) id
      haveI : HGet h7 x _ := hf7.keep (b := x) (HGet.push (g := hC6)) (by simp; omega) id
      haveI : BLt h.n h7 := ⟨by omega⟩
      haveI : BLt b3 h7 := ⟨by omega⟩
      haveI : BLt x h7 := ⟨by omega⟩
      haveI : BLt h6.n h7 := ⟨by omega⟩
      have hfh7 : Fr (fun _ => False) h h7 := hfh6.trans' (Fr.trans (S := fun _ => False) Fr.refl.push hf7 fun _ _ h => h)
      have ho7 : Own h7 2 (.slice asl k csl) (tcells L) k := ho6.keep hf7 fun _ _ => id
      have hol := fun {i : Nat} (hi : ownedBy (.slice asl k csl) i) => ho.lt hi
      refine stpP ?_
      simp only [if_true]
      refine C.ifN (fun hc => ?_) (fun hc => ?_)
      · refine stpP ?_
        rw [if_neg (fun h => hc (by injection h))]
        exact ⟨_, rfl, .none, fun i hi => hi.elim, Fr.set (Fr.set (Fr.set hfh7 fun hlt => by omega) fun hlt => by omega) fun hlt => by omega⟩
      · rw [hc]
        refine stpP ?_
        rw [if_pos rfl]
        refine ⟨_, rfl, ?_, fun i hi => ?_, Fr.set (Fr.set (Fr.set hfh7 fun hlt => by omega) fun hlt => by omega) fun hlt => by omega⟩
        · rw [hlenk]
          exact ((ho7.keep (S := fun i => i = h6.n) (Fr.refl.set fun _ => rfl) fun i hi h => by have := hol hi; omega).keep (S := fun i => i = h.n) (Fr.refl.set fun _ => rfl) fun i hi h => by have := hnew i hi; omega).keep (S := fun i => i = b3) (Fr.refl.set fun _ => rfl) fun i hi h => by have := hnew i hi; omega
        · have := hnew i hi
          omega
    · have hne : ¬ ((e, f) : Int × Int) = (0, 0) := fun h => he (by injection h)
      refine stpP ?_
      refine C.ifN (fun hc => ?_) (fun hc => absurd hc he)
      refine stpP ?_
      simp only [if_neg hne]
      exact ⟨_, rfl, .none, fun i hi => hi.elim, Fr.set (Fr.set hfh6.push fun hlt => by omega) fun hlt => by omega⟩
end Go.Proofs.YtbmpalbdbcjieaaGreat.A

namespace Go.Proofs.YtbmpalbdbcjieaaGreat.A
open Go Go.Vm
set_option maxRecDepth 10000
set_option linter.unusedVariables false
def partB {α : Type} (dec : List UInt8 → α × Int × Int) (zero : α) (bs : List UInt8) (y : (Int × Int) × RSt) : α × (Int × Int) × RSt :=
  if y.1 = (0, 0) then
    let b := rd (bytesS bs 65536) [] y.2
    if b.2.e = 0 then
      let d := dec b.1
      if d.2 = (0, 0) then (d.1, (0, 0), b.2) else (zero, (5, (y.2.pl : Int)), b.2)
    else (zero, (b.2.e, b.2.fa), b.2)
  else (zero, y)
theorem partB_e {α : Type} {dec : List UInt8 → α × Int × Int} {zero : α} {bs : List UInt8} {y : (Int × Int) × RSt} (hy : y.1 = (0, 0) → y.2.e = 0) : (partB dec zero bs y).2.1 = (0, 0) → (partB dec zero bs y).2.2.e = 0 := by
  unfold partB
  split
  · simp only
    split
    · rename_i h
      split
      · exact fun _ => h
      · intro h2; cases h2
    · rename_i h
      intro h2
      exact absurd (Prod.mk.inj h2).1 h
  · rename_i h
    exact fun h2 => absurd h2 h
theorem rd_bytes_len {bs : List UInt8} {m : Nat} {st : RSt} : (rd (bytesS bs m) [] st).1.length ≤ bs.length := by
  unfold rd
  split
  · split
    · rename_i a pl h
      unfold bytesS at h
      split at h
      · cases h
      · split at h
        · cases h
        · split at h
          · cases h
          · cases h
            simp only [List.length_take, List.length_drop]
            omega
    · simp
  · simp
set_option maxHeartbeats 4000000 in
theorem partH_ok {h : Heap} {p q : Nat} {sv : Value} {bs : List UInt8} {st : RSt} {e a : Int} (hp : PRs h p sv bs st) (hq : h.get q = .cells [.int .i64 e, .int .i64 a] 0) (hqn : q < h.n) (hqp : q ≠ p) (hqs : ¬ ownedBy sv q) (hst : (e, a) = ((0, 0) : Int × Int) → st.e = 0) :
    Runs Tryz.prog T0 (.fn fn_zoQ) [.pointer (some ⟨p, 0, none⟩), .int .i64 bs.length, .pointer (some ⟨q, 0, none⟩), .func (.func fn_zvQ) ⟨[]⟩ ⟨[]⟩] h
      (fun r h' => r = .agg ⟨(partB decS zeroHd bs ((e, a), st)).1.cells⟩ ∧ h'.get q = .cells [.int .i64 (partB decS zeroHd bs ((e, a), st)).2.1.1, .int .i64 (partB decS zeroHd bs ((e, a), st)).2.1.2] 0 ∧ PRs h' p sv bs (partB decS zeroHd bs ((e, a), st)).2.2 ∧ Fr (fun i => i = p ∨ i = q) h h') (fun _ _ => False) := by
  have hpl := hp.lt
  have hown := fun {i : Nat} (hi : ownedBy sv i) => hp.own_lt hi
  haveI hQ : HGet h q _ := ⟨hq⟩
  haveI : BLt q h := ⟨hqn⟩
  refine zoQ_runs ?_
  refine stpP ?_
  rw [same_fault]
  refine C.ifN (fun hz => ?_) (fun hz => ?_)
  · refine stpP ?_
    unfold partB
    rw [if_neg hz]
    exact ⟨rfl, (HGet.push (k := ⟨hqn⟩) (g := hQ)).eq, hp.none Fr.refl.push, Fr.refl.push⟩
  obtain ⟨rfl, rfl⟩ := Prod.mk.inj hz
  have hse := hst rfl
  have hple := hp.le hse
  have hsm := hp.small
  refine stpP ?_
  generalize hh1 : h.push (.cells (.string ⟨⟨[]⟩⟩ :: .int .i64 0 :: .int .i64 0 :: (z32 ++ (z32 ++ (z32 ++ z32)))) 0) = h1
  have hf1 : Fr (fun _ => False) h h1 := by rw [← hh1]; exact Fr.refl.push
  have hp1 := hp.none hf1
  have hQ1 := hf1.keep hQ hqn id
  have hO1 : HGet h1 h.n (.cells (.string ⟨⟨[]⟩⟩ :: .int .i64 0 :: .int .i64 0 :: (z32 ++ (z32 ++ (z32 ++ z32)))) 0) := by rw [← hh1]; exact HGet.new
  have hn1' : h.n < h1.n := by rw [← hh1]; simp
  clear hh1
  refine O.call' (Rest_run hp1) (fun r h1' hr => ?_)
  obtain ⟨rfl, hh1'⟩ := hr
  obtain rfl := hh1'.symm
  have hrest : restS bs st = (bs.length : Int) - st.pl := by unfold restS; rw [if_pos hse]
  rw [hrest]
  refine stpP ?_
  have hat : (bs.length : Int) - ((bs.length : Int) - st.pl) = st.pl := by omega
  rw [hat]
  have k2 := Bytes_run (most := 65536) hp1 (by omega)
  have hpart : partB decS zeroHd bs ((0, 0), st) = (if (rd (bytesS bs 65536) [] st).2.e = 0 then (if (decS (rd (bytesS bs 65536) [] st).1).2 = (0, 0) then ((decS (rd (bytesS bs 65536) [] st).1).1, (0, 0), (rd (bytesS bs 65536) [] st).2) else (zeroHd, (5, (st.pl : Int)), (rd (bytesS bs 65536) [] st).2)) else (zeroHd, ((rd (bytesS bs 65536) [] st).2.e, (rd (bytesS bs 65536) [] st).2.fa), (rd (bytesS bs 65536) [] st).2)) := by unfold partB; rw [if_pos rfl]
  rw [hpart]
  clear hpart
  have hbl : (rd (bytesS bs 65536) [] st).1.length ≤ bs.length := rd_bytes_len
  generalize rd (bytesS bs 65536) [] st = b at *
  obtain ⟨l, st1⟩ := b
  refine O.call' k2 (fun r h2 hr => ?_)
  obtain ⟨hf2, ⟨ho, hnew⟩, hr2⟩ := hr
  simp only at ho hr2 hbl hnew ⊢
  have hn1 := hf1.n
  have hn2 := hf2.n
  have hQ2 := hf2.keep hQ1 (by omega) hqp
  have hO2 := hf2.keep hO1 hn1' (by omega)
  have hfa : st1.e = 0 → st1.fa = 0 := fun h0 => (let ⟨_, h1, _⟩ := hr2.ex; (h1 h0).2)
  have hle1 : st1.e = 0 → st1.pl ≤ bs.length := fun h0 => hr2.le h0
  refine stpP ?_
  refine O.call' (Rest_run hr2) (fun r h2' hr => ?_)
  obtain ⟨rfl, hh2⟩ := hr
  obtain rfl := hh2.symm
  refine stpP ?_
  have fin : ∀ {H : Heap}, Fr (fun i => i = q ∨ i = h.n) h2 H → PRs H p sv bs st1 ∧ Fr (fun i => i = p ∨ i = q) h H := fun hf => ⟨hr2.keep hf (by omega) fun i hi hs => by
    have := hown hi
    rcases hs with h | h
    · exact hqs (h ▸ hi)
    · omega, Fr.trans (S := fun i => i = p ∨ i = q) (hf1.mono fun _ _ h => h.elim) (Fr.trans (S := fun i => i = p ∨ i = q ∨ i = h.n) (hf2.mono fun _ _ h => .inl h) hf fun i _ h => .inr h) fun i hi h => by
    rcases h with h | h | h
    · exact .inl h
    · exact .inr h
    · omega⟩
  refine O.dec (fun h0' => ?_) (fun h0' => ?_)
  · refine stpP ?_
    refine O.callT (End_run hr2) (fun r h3 hr => ?_)
    obtain ⟨rfl, hf3⟩ := hr
    have hn3' := hf3.n
    refine stpP ?_
    rw [same_fault]
    refine stpP ?_
    refine C.ifN (fun hc => ?_) (fun hc => ?_)
    · have herr : st1.e ≠ 0 := fun h0 => hc (by
        unfold restS at h0'
        rw [if_pos h0] at h0'
        unfold endS
        rw [if_neg (by omega), h0, hfa h0])
      have hend : endS bs st1 = (st1.e, st1.fa) := by
        unfold endS
        rw [if_neg (fun h => herr h.1)]
      rw [if_neg herr]
      haveI hQ3 := hf3.keep hQ2 (by omega) id
      haveI hO3 := hf3.keep hO2 (by omega) id
      have hn3 := hf3.n
      refine stpP ?_
      refine O.call' (End_run (hr2.none hf3)) (fun r h4 hr => ?_)
      obtain ⟨rfl, hf4⟩ := hr
      rw [hend]
      have hn4 := hf4.n
      have hf24 := hf3.trans' hf4
      haveI hQ4 := hf4.keep hQ3 (by omega) id
      haveI hO4 := hf4.keep hO3 (by omega) id
      haveI : BLt h.n h4 := ⟨by omega⟩
      haveI : BNe h.n q := ⟨by omega⟩
      haveI : BNe q h.n := ⟨by omega⟩
      haveI : BLt q h4 := ⟨by omega⟩
      refine stpP ?_
      refine ⟨rfl, HGet.eq, fin ?_⟩
      exact Fr.set (Fr.set (hf24.mono fun _ _ h => h.elim) fun _ => .inl rfl) fun _ => .inr rfl
    · have hok1 : st1.e = 0 := by
          unfold endS at hc
          split at hc
          · cases hc
          · exact (Prod.mk.inj hc).1
      rw [if_pos hok1]
      refine stpP ?_
      haveI hQ3 := (hf3).keep hQ2 (by omega) id
      haveI hO3 := (hf3).keep hO2 (by omega) id
      have hn3 := (hf3).n
      refine O.call' (Decode_ok (bs := l) ((ho.keep (hf3) fun _ _ => id).rd) (by omega)) (fun r h4 hr => ?_)
      obtain ⟨rfl, hf4⟩ := hr
      have hok := decS_ok l
      generalize decS l = D at *
      obtain ⟨X, e', a'⟩ := D
      simp only at hok ⊢
      haveI := l32 hok.prev
      haveI := l32 hok.vals
      haveI := l32 hok.next
      haveI := l32 hok.app
      have hn4 := hf4.n
      have hf24 := (hf3).trans' hf4
      haveI hQ4 := hf4.keep hQ3 (by omega) id
      haveI hO4 := hf4.keep hO3 (by omega) id
      haveI : BLt h.n h4 := ⟨by omega⟩
      haveI : BNe h.n q := ⟨by omega⟩
      haveI : BNe q h.n := ⟨by omega⟩
      haveI : BLt q h4 := ⟨by omega⟩
      refine stpP ?_
      rw [same_fault]
      refine C.ifN (fun hc => ?_) (fun hc => ?_)
      · refine stpP ?_
        rw [if_neg hc]
        refine ⟨rfl, HGet.eq, fin ?_⟩
        have hn24 := hf24.n
        exact Fr.set (Fr.set (Fr.set (Fr.set (hf24.mono fun _ _ h => h.elim).push.push fun hlt => by omega) fun hlt => by simp at hlt; omega) fun _ => .inl rfl) fun _ => .inr rfl
      · refine stpP ?_
        rw [if_pos hc]
        refine ⟨rfl, HGet.eq, fin ?_⟩
        have hn24 := hf24.n
        exact Fr.set (Fr.set (Fr.set (hf24.mono fun _ _ h => h.elim).push.push fun hlt => by omega) fun hlt => by simp at hlt; omega) fun _ => .inr rfl
  · refine stpP ?_
    have hok1 : st1.e = 0 := by
      by_cases h : st1.e = 0
      · exact h
      · exact absurd (by unfold restS; rw [if_neg h]) h0'
    rw [if_pos hok1]
    refine stpP ?_
    haveI hQ3 := ((Fr.refl : Fr (fun _ => False) h2 h2)).keep hQ2 (by omega) id
    haveI hO3 := ((Fr.refl : Fr (fun _ => False) h2 h2)).keep hO2 (by omega) id
    have hn3 := ((Fr.refl : Fr (fun _ => False) h2 h2)).n
    refine O.call' (Decode_ok (bs := l) ((ho.keep ((Fr.refl : Fr (fun _ => False) h2 h2)) fun _ _ => id).rd) (by omega)) (fun r h4 hr => ?_)
    obtain ⟨rfl, hf4⟩ := hr
    have hok := decS_ok l
    generalize decS l = D at *
    obtain ⟨X, e', a'⟩ := D
    simp only at hok ⊢
    haveI := l32 hok.prev
    haveI := l32 hok.vals
    haveI := l32 hok.next
    haveI := l32 hok.app
    have hn4 := hf4.n
    have hf24 := ((Fr.refl : Fr (fun _ => False) h2 h2)).trans' hf4
    haveI hQ4 := hf4.keep hQ3 (by omega) id
    haveI hO4 := hf4.keep hO3 (by omega) id
    haveI : BLt h.n h4 := ⟨by omega⟩
    haveI : BNe h.n q := ⟨by omega⟩
    haveI : BNe q h.n := ⟨by omega⟩
    haveI : BLt q h4 := ⟨by omega⟩
    refine stpP ?_
    rw [same_fault]
    refine C.ifN (fun hc => ?_) (fun hc => ?_)
    · refine stpP ?_
      rw [if_neg hc]
      refine ⟨rfl, HGet.eq, fin ?_⟩
      have hn24 := hf24.n
      exact Fr.set (Fr.set (Fr.set (Fr.set (hf24.mono fun _ _ h => h.elim).push.push fun hlt => by omega) fun hlt => by simp at hlt; omega) fun _ => .inl rfl) fun _ => .inr rfl
    · refine stpP ?_
      rw [if_pos hc]
      refine ⟨rfl, HGet.eq, fin ?_⟩
      have hn24 := hf24.n
      exact Fr.set (Fr.set (Fr.set (hf24.mono fun _ _ h => h.elim).push.push fun hlt => by omega) fun hlt => by simp at hlt; omega) fun _ => .inr rfl
set_option maxHeartbeats 4000000 in
theorem partC_ok {h : Heap} {p q : Nat} {sv : Value} {bs : List UInt8} {st : RSt} {e a : Int} (hp : PRs h p sv bs st) (hq : h.get q = .cells [.int .i64 e, .int .i64 a] 0) (hqn : q < h.n) (hqp : q ≠ p) (hqs : ¬ ownedBy sv q) (hst : (e, a) = ((0, 0) : Int × Int) → st.e = 0) :
    Runs Tryz.prog T0 (.fn fn_znQ) [.pointer (some ⟨p, 0, none⟩), .int .i64 bs.length, .pointer (some ⟨q, 0, none⟩), .func (.func fn_zrQ) ⟨[]⟩ ⟨[]⟩] h
      (fun r h' => (∃ sl, r = .agg ⟨(partB decC zCm bs ((e, a), st)).1.cells sl⟩ ∧ Own h' 2 sl (tcells (partB decC zCm bs ((e, a), st)).1.votes) (partB decC zCm bs ((e, a), st)).1.votes.length ∧ ∀ i, ownedBy sl i → h.n ≤ i) ∧ h'.get q = .cells [.int .i64 (partB decC zCm bs ((e, a), st)).2.1.1, .int .i64 (partB decC zCm bs ((e, a), st)).2.1.2] 0 ∧ PRs h' p sv bs (partB decC zCm bs ((e, a), st)).2.2 ∧ Fr (fun i => i = p ∨ i = q) h h') (fun _ _ => False) := by
  have hpl := hp.lt
  have hown := fun {i : Nat} (hi : ownedBy sv i) => hp.own_lt hi
  haveI hQ : HGet h q _ := ⟨hq⟩
  haveI : BLt q h := ⟨hqn⟩
  refine znQ_runs ?_
  refine stpP ?_
  rw [same_fault]
  refine C.ifN (fun hz => ?_) (fun hz => ?_)
  · refine stpP ?_
    unfold partB
    rw [if_neg hz]
    exact ⟨⟨_, rfl, .none, fun i hi => hi.elim⟩, (HGet.push (k := ⟨hqn⟩) (g := hQ)).eq, hp.none Fr.refl.push, Fr.refl.push⟩
  obtain ⟨rfl, rfl⟩ := Prod.mk.inj hz
  have hse := hst rfl
  have hple := hp.le hse
  have hsm := hp.small
  refine stpP ?_
  generalize hh1 : h.push (.cells (.int .i64 0 :: (z32 ++ [.slice none 0 0])) 0) = h1
  have hf1 : Fr (fun _ => False) h h1 := by rw [← hh1]; exact Fr.refl.push
  have hp1 := hp.none hf1
  have hQ1 := hf1.keep hQ hqn id
  have hO1 : HGet h1 h.n (.cells (.int .i64 0 :: (z32 ++ [.slice none 0 0])) 0) := by rw [← hh1]; exact HGet.new
  have hn1' : h.n < h1.n := by rw [← hh1]; simp
  clear hh1
  refine O.call' (Rest_run hp1) (fun r h1' hr => ?_)
  obtain ⟨rfl, hh1'⟩ := hr
  obtain rfl := hh1'.symm
  have hrest : restS bs st = (bs.length : Int) - st.pl := by unfold restS; rw [if_pos hse]
  rw [hrest]
  refine stpP ?_
  have hat : (bs.length : Int) - ((bs.length : Int) - st.pl) = st.pl := by omega
  rw [hat]
  have k2 := Bytes_run (most := 65536) hp1 (by omega)
  have hpart : partB decC zCm bs ((0, 0), st) = (if (rd (bytesS bs 65536) [] st).2.e = 0 then (if (decC (rd (bytesS bs 65536) [] st).1).2 = (0, 0) then ((decC (rd (bytesS bs 65536) [] st).1).1, (0, 0), (rd (bytesS bs 65536) [] st).2) else (zCm, (5, (st.pl : Int)), (rd (bytesS bs 65536) [] st).2)) else (zCm, ((rd (bytesS bs 65536) [] st).2.e, (rd (bytesS bs 65536) [] st).2.fa), (rd (bytesS bs 65536) [] st).2)) := by unfold partB; rw [if_pos rfl]
  rw [hpart]
  clear hpart
  have hbl : (rd (bytesS bs 65536) [] st).1.length ≤ bs.length := rd_bytes_len
  generalize rd (bytesS bs 65536) [] st = b at *
  obtain ⟨l, st1⟩ := b
  refine O.call' k2 (fun r h2 hr => ?_)
  obtain ⟨hf2, ⟨ho, hnew⟩, hr2⟩ := hr
  simp only at ho hr2 hbl hnew ⊢
  have hn1 := hf1.n
  have hn2 := hf2.n
  have hQ2 := hf2.keep hQ1 (by omega) hqp
  have hO2 := hf2.keep hO1 hn1' (by omega)
  have hfa : st1.e = 0 → st1.fa = 0 := fun h0 => (let ⟨_, h1, _⟩ := hr2.ex; (h1 h0).2)
  have hle1 : st1.e = 0 → st1.pl ≤ bs.length := fun h0 => hr2.le h0
  refine stpP ?_
  refine O.call' (Rest_run hr2) (fun r h2' hr => ?_)
  obtain ⟨rfl, hh2⟩ := hr
  obtain rfl := hh2.symm
  refine stpP ?_
  have fin : ∀ {H : Heap}, Fr (fun i => i = q ∨ i = h.n) h2 H → PRs H p sv bs st1 ∧ Fr (fun i => i = p ∨ i = q) h H := fun hf => ⟨hr2.keep hf (by omega) fun i hi hs => by
    have := hown hi
    rcases hs with h | h
    · exact hqs (h ▸ hi)
    · omega, Fr.trans (S := fun i => i = p ∨ i = q) (hf1.mono fun _ _ h => h.elim) (Fr.trans (S := fun i => i = p ∨ i = q ∨ i = h.n) (hf2.mono fun _ _ h => .inl h) hf fun i _ h => .inr h) fun i hi h => by
    rcases h with h | h | h
    · exact .inl h
    · exact .inr h
    · omega⟩
  refine O.dec (fun h0' => ?_) (fun h0' => ?_)
  · refine stpP ?_
    refine O.callT (End_run hr2) (fun r h3 hr => ?_)
    obtain ⟨rfl, hf3⟩ := hr
    have hn3' := hf3.n
    refine stpP ?_
    rw [same_fault]
    refine stpP ?_
    refine C.ifN (fun hc => ?_) (fun hc => ?_)
    · have herr : st1.e ≠ 0 := fun h0 => hc (by
        unfold restS at h0'
        rw [if_pos h0] at h0'
        unfold endS
        rw [if_neg (by omega), h0, hfa h0])
      have hend : endS bs st1 = (st1.e, st1.fa) := by
        unfold endS
        rw [if_neg (fun h => herr h.1)]
      rw [if_neg herr]
      haveI hQ3 := hf3.keep hQ2 (by omega) id
      haveI hO3 := hf3.keep hO2 (by omega) id
      have hn3 := hf3.n
      refine stpP ?_
      refine O.call' (End_run (hr2.none hf3)) (fun r h4 hr => ?_)
      obtain ⟨rfl, hf4⟩ := hr
      rw [hend]
      have hn4 := hf4.n
      have hf24 := hf3.trans' hf4
      haveI hQ4 := hf4.keep hQ3 (by omega) id
      haveI hO4 := hf4.keep hO3 (by omega) id
      haveI : BLt h.n h4 := ⟨by omega⟩
      haveI : BNe h.n q := ⟨by omega⟩
      haveI : BNe q h.n := ⟨by omega⟩
      haveI : BLt q h4 := ⟨by omega⟩
      refine stpP ?_
      refine ⟨⟨_, rfl, .none, fun i hi => hi.elim⟩, HGet.eq, fin ?_⟩
      exact Fr.set (Fr.set (hf24.mono fun _ _ h => h.elim) fun _ => .inl rfl) fun _ => .inr rfl
    · have hok1 : st1.e = 0 := by
          unfold endS at hc
          split at hc
          · cases hc
          · exact (Prod.mk.inj hc).1
      rw [if_pos hok1]
      refine stpP ?_
      haveI hQ3 := (hf3).keep hQ2 (by omega) id
      haveI hO3 := (hf3).keep hO2 (by omega) id
      have hn3 := (hf3).n
      refine O.call' (CDecode_ok (bs := l) ((ho.keep (hf3) fun _ _ => id).rd) (by omega)) (fun r h4 hr => ?_)
      obtain ⟨sl, rfl, ho4, hnew4, hf4⟩ := hr
      have hok := decC_ok l
      generalize decC l = D at *
      obtain ⟨X, e', a'⟩ := D
      simp only at hok ho4 ⊢
      obtain ⟨asl, csl, rfl, _, _⟩ := ho4.rd
      haveI := l32 hok.1
      have hn4 := hf4.n
      have hf24 := (hf3).trans' hf4
      haveI hQ4 := hf4.keep hQ3 (by omega) id
      haveI hO4 := hf4.keep hO3 (by omega) id
      haveI : BLt h.n h4 := ⟨by omega⟩
      haveI : BNe h.n q := ⟨by omega⟩
      haveI : BNe q h.n := ⟨by omega⟩
      haveI : BLt q h4 := ⟨by omega⟩
      refine stpP ?_
      rw [same_fault]
      refine C.ifN (fun hc => ?_) (fun hc => ?_)
      · refine stpP ?_
        rw [if_neg hc]
        refine ⟨⟨_, rfl, .none, fun i hi => hi.elim⟩, HGet.eq, fin ?_⟩
        have hn24 := hf24.n
        exact Fr.set (Fr.set (Fr.set (Fr.set (hf24.mono fun _ _ h => h.elim).push.push fun hlt => by omega) fun hlt => by simp at hlt; omega) fun _ => .inl rfl) fun _ => .inr rfl
      · refine stpP ?_
        rw [if_pos hc]
        refine ⟨⟨_, rfl, ho4.keep (S := fun i => i = h.n) (Fr.set (Fr.set (Fr.set Fr.refl.push.push fun hlt => by omega) fun hlt => by simp at hlt; omega) fun _ => rfl) fun i hi h => (by have := hnew4 i hi; omega), fun i hi => (by have := hnew4 i hi; omega)⟩, HGet.eq, fin ?_⟩
        have hn24 := hf24.n
        exact Fr.set (Fr.set (Fr.set (hf24.mono fun _ _ h => h.elim).push.push fun hlt => by omega) fun hlt => by simp at hlt; omega) fun _ => .inr rfl
  · refine stpP ?_
    have hok1 : st1.e = 0 := by
      by_cases h : st1.e = 0
      · exact h
      · exact absurd (by unfold restS; rw [if_neg h]) h0'
    rw [if_pos hok1]
    refine stpP ?_
    haveI hQ3 := ((Fr.refl : Fr (fun _ => False) h2 h2)).keep hQ2 (by omega) id
    haveI hO3 := ((Fr.refl : Fr (fun _ => False) h2 h2)).keep hO2 (by omega) id
    have hn3 := ((Fr.refl : Fr (fun _ => False) h2 h2)).n
    refine O.call' (CDecode_ok (bs := l) ((ho.keep ((Fr.refl : Fr (fun _ => False) h2 h2)) fun _ _ => id).rd) (by omega)) (fun r h4 hr => ?_)
    obtain ⟨sl, rfl, ho4, hnew4, hf4⟩ := hr
    have hok := decC_ok l
    generalize decC l = D at *
    obtain ⟨X, e', a'⟩ := D
    simp only at hok ho4 ⊢
    obtain ⟨asl, csl, rfl, _, _⟩ := ho4.rd
    haveI := l32 hok.1
    have hn4 := hf4.n
    have hf24 := ((Fr.refl : Fr (fun _ => False) h2 h2)).trans' hf4
    haveI hQ4 := hf4.keep hQ3 (by omega) id
    haveI hO4 := hf4.keep hO3 (by omega) id
    haveI : BLt h.n h4 := ⟨by omega⟩
    haveI : BNe h.n q := ⟨by omega⟩
    haveI : BNe q h.n := ⟨by omega⟩
    haveI : BLt q h4 := ⟨by omega⟩
    refine stpP ?_
    rw [same_fault]
    refine C.ifN (fun hc => ?_) (fun hc => ?_)
    · refine stpP ?_
      rw [if_neg hc]
      refine ⟨⟨_, rfl, .none, fun i hi => hi.elim⟩, HGet.eq, fin ?_⟩
      have hn24 := hf24.n
      exact Fr.set (Fr.set (Fr.set (Fr.set (hf24.mono fun _ _ h => h.elim).push.push fun hlt => by omega) fun hlt => by simp at hlt; omega) fun _ => .inl rfl) fun _ => .inr rfl
    · refine stpP ?_
      rw [if_pos hc]
      refine ⟨⟨_, rfl, ho4.keep (S := fun i => i = h.n) (Fr.set (Fr.set (Fr.set Fr.refl.push.push fun hlt => by omega) fun hlt => by simp at hlt; omega) fun _ => rfl) fun i hi h => (by have := hnew4 i hi; omega), fun i hi => (by have := hnew4 i hi; omega)⟩, HGet.eq, fin ?_⟩
      have hn24 := hf24.n
      exact Fr.set (Fr.set (Fr.set (hf24.mono fun _ _ h => h.elim).push.push fun hlt => by omega) fun hlt => by simp at hlt; omega) fun _ => .inr rfl
set_option maxHeartbeats 4000000 in
theorem partV_ok {h : Heap} {p q : Nat} {sv : Value} {bs : List UInt8} {st : RSt} {e a : Int} (hp : PRs h p sv bs st) (hq : h.get q = .cells [.int .i64 e, .int .i64 a] 0) (hqn : q < h.n) (hqp : q ≠ p) (hqs : ¬ ownedBy sv q) (hst : (e, a) = ((0, 0) : Int × Int) → st.e = 0) :
    Runs Tryz.prog T0 (.fn fn_zmQ) [.pointer (some ⟨p, 0, none⟩), .int .i64 bs.length, .pointer (some ⟨q, 0, none⟩), .func (.func fn_zscQ) ⟨[]⟩ ⟨[]⟩] h
      (fun r h' => (∃ sl, r = sl ∧ Own h' 5 sl (vcells (partB decV [] bs ((e, a), st)).1) (partB decV [] bs ((e, a), st)).1.length ∧ ∀ i, ownedBy sl i → h.n ≤ i) ∧ h'.get q = .cells [.int .i64 (partB decV [] bs ((e, a), st)).2.1.1, .int .i64 (partB decV [] bs ((e, a), st)).2.1.2] 0 ∧ PRs h' p sv bs (partB decV [] bs ((e, a), st)).2.2 ∧ Fr (fun i => i = p ∨ i = q) h h') (fun _ _ => False) := by
  have hpl := hp.lt
  have hown := fun {i : Nat} (hi : ownedBy sv i) => hp.own_lt hi
  haveI hQ : HGet h q _ := ⟨hq⟩
  haveI : BLt q h := ⟨hqn⟩
  refine zmQ_runs ?_
  refine stpP ?_
  rw [same_fault]
  refine C.ifN (fun hz => ?_) (fun hz => ?_)
  · refine stpP ?_
    unfold partB
    rw [if_neg hz]
    exact ⟨⟨_, rfl, .none, fun i hi => hi.elim⟩, hq, hp, Fr.refl⟩
  obtain ⟨rfl, rfl⟩ := Prod.mk.inj hz
  have hse := hst rfl
  have hple := hp.le hse
  have hsm := hp.small
  refine stpP ?_
  have hf1 : Fr (fun _ => False) h h := Fr.refl
  have hp1 := hp
  have hQ1 := hQ
  refine O.call' (Rest_run hp1) (fun r h1' hr => ?_)
  obtain ⟨rfl, hh1'⟩ := hr
  obtain rfl := hh1'.symm
  have hrest : restS bs st = (bs.length : Int) - st.pl := by unfold restS; rw [if_pos hse]
  rw [hrest]
  refine stpP ?_
  have hat : (bs.length : Int) - ((bs.length : Int) - st.pl) = st.pl := by omega
  rw [hat]
  have k2 := Bytes_run (most := 65536) hp1 (by omega)
  have hpart : partB decV [] bs ((0, 0), st) = (if (rd (bytesS bs 65536) [] st).2.e = 0 then (if (decV (rd (bytesS bs 65536) [] st).1).2 = (0, 0) then ((decV (rd (bytesS bs 65536) [] st).1).1, (0, 0), (rd (bytesS bs 65536) [] st).2) else ([], (5, (st.pl : Int)), (rd (bytesS bs 65536) [] st).2)) else ([], ((rd (bytesS bs 65536) [] st).2.e, (rd (bytesS bs 65536) [] st).2.fa), (rd (bytesS bs 65536) [] st).2)) := by unfold partB; rw [if_pos rfl]
  rw [hpart]
  clear hpart
  have hbl : (rd (bytesS bs 65536) [] st).1.length ≤ bs.length := rd_bytes_len
  generalize rd (bytesS bs 65536) [] st = b at *
  obtain ⟨l, st1⟩ := b
  refine O.call' k2 (fun r h2 hr => ?_)
  obtain ⟨hf2, ⟨ho, hnew⟩, hr2⟩ := hr
  simp only at ho hr2 hbl hnew ⊢
  have hn1 := hf1.n
  have hn2 := hf2.n
  have hQ2 := hf2.keep hQ1 (by omega) hqp
  have hfa : st1.e = 0 → st1.fa = 0 := fun h0 => (let ⟨_, h1, _⟩ := hr2.ex; (h1 h0).2)
  have hle1 : st1.e = 0 → st1.pl ≤ bs.length := fun h0 => hr2.le h0
  refine stpP ?_
  refine O.call' (Rest_run hr2) (fun r h2' hr => ?_)
  obtain ⟨rfl, hh2⟩ := hr
  obtain rfl := hh2.symm
  refine stpP ?_
  have fin : ∀ {H : Heap}, Fr (fun i => i = q) h2 H → PRs H p sv bs st1 ∧ Fr (fun i => i = p ∨ i = q) h H := fun hf => ⟨hr2.keep hf (by omega) fun i hi hs => hqs (hs ▸ hi), Fr.trans (S := fun i => i = p ∨ i = q) (hf1.mono fun _ _ h => h.elim) (Fr.trans (S := fun i => i = p ∨ i = q) (hf2.mono fun _ _ h => .inl h) hf fun i _ h => .inr h) fun i hi h => h⟩
  refine O.dec (fun h0' => ?_) (fun h0' => ?_)
  · refine stpP ?_
    refine O.callT (End_run hr2) (fun r h3 hr => ?_)
    obtain ⟨rfl, hf3⟩ := hr
    have hn3' := hf3.n
    refine stpP ?_
    rw [same_fault]
    refine stpP ?_
    refine C.ifN (fun hc => ?_) (fun hc => ?_)
    · have herr : st1.e ≠ 0 := fun h0 => hc (by
        unfold restS at h0'
        rw [if_pos h0] at h0'
        unfold endS
        rw [if_neg (by omega), h0, hfa h0])
      have hend : endS bs st1 = (st1.e, st1.fa) := by
        unfold endS
        rw [if_neg (fun h => herr h.1)]
      rw [if_neg herr]
      haveI hQ3 := hf3.keep hQ2 (by omega) id
      have hn3 := hf3.n
      refine stpP ?_
      refine O.call' (End_run (hr2.none hf3)) (fun r h4 hr => ?_)
      obtain ⟨rfl, hf4⟩ := hr
      rw [hend]
      have hn4 := hf4.n
      have hf24 := hf3.trans' hf4
      haveI hQ4 := hf4.keep hQ3 (by omega) id
      haveI : BLt q h4 := ⟨by omega⟩
      refine stpP ?_
      refine ⟨⟨_, rfl, .none, fun i hi => hi.elim⟩, HGet.eq, fin ?_⟩
      exact Fr.set (hf24.mono fun _ _ h => h.elim) fun _ => rfl
    · have hok1 : st1.e = 0 := by
          unfold endS at hc
          split at hc
          · cases hc
          · exact (Prod.mk.inj hc).1
      rw [if_pos hok1]
      refine stpP ?_
      haveI hQ3 := (hf3).keep hQ2 (by omega) id
      have hn3 := (hf3).n
      refine O.call' (VDecode_ok (bs := l) ((ho.keep (hf3) fun _ _ => id).rd) (by omega)) (fun r h4 hr => ?_)
      obtain ⟨sl, rfl, ho4, hnew4, hf4⟩ := hr
      generalize decV l = D at *
      obtain ⟨X, e', a'⟩ := D
      simp only at ho4 ⊢
      have hn4 := hf4.n
      have hf24 := (hf3).trans' hf4
      haveI hQ4 := hf4.keep hQ3 (by omega) id
      haveI : BLt q h4 := ⟨by omega⟩
      refine stpP ?_
      rw [same_fault]
      refine C.ifN (fun hc => ?_) (fun hc => ?_)
      · refine stpP ?_
        rw [if_neg hc]
        refine ⟨⟨_, rfl, .none, fun i hi => hi.elim⟩, HGet.eq, fin ?_⟩
        exact Fr.set (hf24.mono fun _ _ h => h.elim).push fun _ => rfl
      · refine stpP ?_
        rw [if_pos hc]
        refine ⟨⟨_, rfl, ho4.keep (S := fun _ => False) Fr.refl.push fun _ _ => id, fun i hi => (by have := hnew4 i hi; omega)⟩, HGet.eq, fin ?_⟩
        exact (hf24.mono fun _ _ h => h.elim).push
  · refine stpP ?_
    have hok1 : st1.e = 0 := by
      by_cases h : st1.e = 0
      · exact h
      · exact absurd (by unfold restS; rw [if_neg h]) h0'
    rw [if_pos hok1]
    refine stpP ?_
    haveI hQ3 := ((Fr.refl : Fr (fun _ => False) h2 h2)).keep hQ2 (by omega) id
    have hn3 := ((Fr.refl : Fr (fun _ => False) h2 h2)).n
    refine O.call' (VDecode_ok (bs := l) ((ho.keep ((Fr.refl : Fr (fun _ => False) h2 h2)) fun _ _ => id).rd) (by omega)) (fun r h4 hr => ?_)
    obtain ⟨sl, rfl, ho4, hnew4, hf4⟩ := hr
    generalize decV l = D at *
    obtain ⟨X, e', a'⟩ := D
    simp only at ho4 ⊢
    have hn4 := hf4.n
    have hf24 := ((Fr.refl : Fr (fun _ => False) h2 h2)).trans' hf4
    haveI hQ4 := hf4.keep hQ3 (by omega) id
    haveI : BLt q h4 := ⟨by omega⟩
    refine stpP ?_
    rw [same_fault]
    refine C.ifN (fun hc => ?_) (fun hc => ?_)
    · refine stpP ?_
      rw [if_neg hc]
      refine ⟨⟨_, rfl, .none, fun i hi => hi.elim⟩, HGet.eq, fin ?_⟩
      exact Fr.set (hf24.mono fun _ _ h => h.elim).push fun _ => rfl
    · refine stpP ?_
      rw [if_pos hc]
      refine ⟨⟨_, rfl, ho4.keep (S := fun _ => False) Fr.refl.push fun _ _ => id, fun i hi => (by have := hnew4 i hi; omega)⟩, HGet.eq, fin ?_⟩
      exact (hf24.mono fun _ _ h => h.elim).push
end Go.Proofs.YtbmpalbdbcjieaaGreat.A

namespace Go.Proofs.YtbmpalbdbcjieaaGreat.A
open Go Go.Vm
set_option maxRecDepth 10000
set_option linter.unusedVariables false
structure Bk where
  h : Hd
  c : Cm
  vals : List Val
abbrev zBk : Bk := ⟨zeroHd, zCm, []⟩
structure Bk.ok (x : Bk) : Prop where
  h : x.h.ok
  hash : x.c.hash.length = 32
  votes : x.c.votes.length ≤ 64
  vals : x.vals.length ≤ 64
abbrev Bk.cells (x : Bk) (sv sl : Value) : List Value := .string ⟨⟨x.h.chain⟩⟩ :: .int .i64 x.h.height :: .int .i64 x.h.time :: (bcells x.h.prev ++ (bcells x.h.vals ++ (bcells x.h.next ++ (bcells x.h.app ++ (.int .i64 x.c.height :: (bcells x.c.hash ++ [sv, sl]))))))
abbrev zBc : List Value := .string ⟨⟨[]⟩⟩ :: .int .i64 0 :: .int .i64 0 :: (z32 ++ (z32 ++ (z32 ++ (z32 ++ (.int .i64 0 :: (z32 ++ [.slice none 0 0, .slice none 0 0]))))))
def decB (bs : List UInt8) : Bk × Int × Int :=
  let y1 := partB decS zeroHd bs ((0, 0), ⟨0, 0, 0⟩)
  let y2 := partB decC zCm bs y1.2
  let y3 := partB decV [] bs y2.2
  let f := if y3.2.1 = (0, 0) then endS bs y3.2.2 else y3.2.1
  if f = (0, 0) then (⟨y1.1, y2.1, y3.1⟩, f) else (zBk, f)
theorem partB_prop {α : Type} {dec : List UInt8 → α × Int × Int} {zero : α} {P : α → Prop} (hd : ∀ l, P (dec l).1) (hz : P zero) (bs : List UInt8) (y : (Int × Int) × RSt) : P (partB dec zero bs y).1 := by
  unfold partB
  split
  · simp only
    split
    · split
      · exact hd _
      · exact hz
    · exact hz
  · exact hz
theorem decB_ok (bs : List UInt8) : (decB bs).1.ok := by
  have h1 := partB_prop (P := Hd.ok) decS_ok zeroHd_ok bs ((0, 0), ⟨0, 0, 0⟩)
  have h2 := partB_prop (P := fun c : Cm => c.hash.length = 32 ∧ c.votes.length ≤ 64) (zero := zCm) decC_ok ⟨rfl, Nat.zero_le 64⟩ bs (partB decS zeroHd bs ((0, 0), ⟨0, 0, 0⟩)).2
  have h3 := partB_prop (P := fun l : List Val => l.length ≤ 64) (zero := []) decV_len (Nat.zero_le 64) bs (partB decC zCm bs (partB decS zeroHd bs ((0, 0), ⟨0, 0, 0⟩)).2).2
  have key : ∀ f : Int × Int, (if f = (0, 0) then ((⟨(partB decS zeroHd bs ((0, 0), ⟨0, 0, 0⟩)).1, (partB decC zCm bs (partB decS zeroHd bs ((0, 0), ⟨0, 0, 0⟩)).2).1, (partB decV [] bs (partB decC zCm bs (partB decS zeroHd bs ((0, 0), ⟨0, 0, 0⟩)).2).2).1⟩ : Bk), f) else (zBk, f)).1.ok := fun f => by
    split
    · exact ⟨h1, h2.1, h2.2, h3⟩
    · exact ⟨zeroHd_ok, rfl, by simp, by simp⟩
  exact key _
structure BkOwn (h : Heap) (lo : Nat) (x : Bk) (sv sl : Value) : Prop where
  votes : Own h 2 sv (tcells x.c.votes) x.c.votes.length
  vals : Own h 5 sl (vcells x.vals) x.vals.length
  vnew : ∀ i, ownedBy sv i → lo ≤ i
  lnew : ∀ i, ownedBy sl i → lo ≤ i
  apart : ∀ i, ownedBy sv i → ¬ ownedBy sl i
theorem BkOwn.keep {S : Nat → Prop} {h h' : Heap} {lo : Nat} {x : Bk} {sv sl : Value} (hb : BkOwn h lo x sv sl) (hf : Fr S h h') (hs : ∀ i, S i → i < lo ∨ h.n ≤ i) : BkOwn h' lo x sv sl :=
  ⟨hb.votes.keep hf fun i hi h => (by have := hb.vnew i hi; have := hb.votes.lt hi; have := hs i h; omega), hb.vals.keep hf fun i hi h => (by have := hb.lnew i hi; have := hb.vals.lt hi; have := hs i h; omega), hb.vnew, hb.lnew, hb.apart⟩
theorem BkOwn.zero {h : Heap} {lo : Nat} : BkOwn h lo zBk (.slice none 0 0) (.slice none 0 0) := ⟨.none, .none, fun i hi => hi.elim, fun i hi => hi.elim, fun i hi => hi.elim⟩
set_option maxHeartbeats 8000000 in
theorem BDecode_ok {h : Heap} {v : Value} {bs : List UInt8} (hv : Rd h 1 v (bcells bs) bs.length) (hs : bs.length < 1048576) : Runs Tryz.prog T0 (.fn fn_zlQ) [v] h
    (fun r h' => ∃ sv sl, r = .tuple ⟨[.agg ⟨(decB bs).1.cells sv sl⟩, .agg ⟨[.int .i64 (decB bs).2.1, .int .i64 (decB bs).2.2]⟩]⟩ ∧ BkOwn h' h.n (decB bs).1 sv sl ∧ Fr (fun _ => False) h h') (fun _ _ => False) := by
  have hv' := hv
  obtain ⟨a0, cap0, rfl, hl0, _⟩ := hv
  refine zlQ_runs ?_
  refine stpP ?_
  generalize hh0 : ((h.push (.cells zBc 0)).push (.cells [.int .i64 0, .int .i64 0] 0)) = h0
  have hf0 : Fr (fun _ => False) h h0 := by rw [← hh0]; exact Fr.refl.push.push
  have hn0 : h0.n = h.n + 2 := by rw [← hh0]; rfl
  have hA0 : HGet h0 h.n (.cells zBc 0) := by rw [← hh0]; exact HGet.push (k := BLt.new) (g := HGet.new)
  generalize hb3 : (h.push (.cells zBc 0)).n = b3
  have hb3' : b3 = h.n + 1 := by rw [← hb3]; rfl
  have hB0 : HGet h0 b3 (.cells [.int .i64 0, .int .i64 0] 0) := by rw [← hh0, ← hb3]; exact HGet.new
  clear hh0 hb3
  refine O.call' (NewReader_ok (hv'.keep hf0 fun _ _ => id) hs) (fun r h1' hr => ?_)
  obtain ⟨p, sv, rfl, hp1, hsv, hr1', hf1'⟩ := hr
  have hlt1' := hr1'.lt
  have hn1' := hf1'.n
  have hA1' : HGet h1' h.n _ := hf1'.keep hA0 (by omega) id
  have hB1' : HGet h1' b3 _ := hf1'.keep hB0 (by omega) id
  refine stpP ?_
  generalize hx : h1'.n = q
  generalize hh1 : h1'.push (.cells [.int .i64 0, .int .i64 0] 0) = h1
  have hf1x : Fr (fun _ => False) h1' h1 := by rw [← hh1]; exact Fr.refl.push
  have hn1 : h1.n = q + 1 := by rw [← hh1, ← hx]; rfl
  have hq1 : h1.get q = .cells [.int .i64 0, .int .i64 0] 0 := by rw [← hh1, ← hx, Heap.get_push, if_pos rfl]
  clear hh1
  have hA1 := hf1x.keep hA1' (by omega) id
  have hB1 := hf1x.keep hB1' (by omega) id
  have hr1 := hr1'.none hf1x
  have hf1 := hf1'.trans' hf1x
  have hlt1 := hr1.lt
  have hown1 : ∀ i, ownedBy sv i → h0.n ≤ i ∧ i < q := fun i hi => ⟨hsv i hi, by have := hr1'.own_lt hi; omega⟩
  have hqs : ¬ ownedBy sv q := fun hi => by have := (hown1 q hi).2; omega
  have hok := decB_ok bs
  have hdec : decB bs = (let f := if (partB decV [] bs (partB decC zCm bs (partB decS zeroHd bs ((0, 0), ⟨0, 0, 0⟩)).2).2).2.1 = (0, 0) then endS bs (partB decV [] bs (partB decC zCm bs (partB decS zeroHd bs ((0, 0), ⟨0, 0, 0⟩)).2).2).2.2 else (partB decV [] bs (partB decC zCm bs (partB decS zeroHd bs ((0, 0), ⟨0, 0, 0⟩)).2).2).2.1; if f = (0, 0) then (⟨(partB decS zeroHd bs ((0, 0), ⟨0, 0, 0⟩)).1, (partB decC zCm bs (partB decS zeroHd bs ((0, 0), ⟨0, 0, 0⟩)).2).1, (partB decV [] bs (partB decC zCm bs (partB decS zeroHd bs ((0, 0), ⟨0, 0, 0⟩)).2).2).1⟩, f) else (zBk, f)) := rfl
  rw [hdec]
  clear hdec hok
  have k1 := partH_ok hr1 hq1 (by omega) (by omega) hqs (fun _ => rfl)
  have e1 := partB_e (dec := decS) (zero := zeroHd) (bs := bs) (y := ((0, 0), ⟨0, 0, 0⟩)) (fun _ => rfl)
  have hH := partB_prop (P := Hd.ok) decS_ok zeroHd_ok bs ((0, 0), ⟨0, 0, 0⟩)
  generalize partB decS zeroHd bs ((0, 0), ⟨0, 0, 0⟩) = y1 at *
  obtain ⟨X, ⟨f1, g1⟩, st1⟩ := y1
  simp only at k1 e1 hH ⊢
  refine O.call' k1 (fun r h2 hr => ?_)
  obtain ⟨rfl, hq2, hr2, hf2⟩ := hr
  have hn2 := hf2.n
  have hA2 := hf2.keep hA1 (by omega) (by omega)
  have hB2 := hf2.keep hB1 (by omega) (by omega)
  haveI := l32 hH.prev
  haveI := l32 hH.vals
  haveI := l32 hH.next
  haveI := l32 hH.app
  refine stpP ?_
  generalize hx6 : h2.n = x6
  generalize hh3 : h2.push _ = h3
  have hf3 : Fr (fun _ => False) h2 h3 := by rw [← hh3]; exact Fr.refl.push
  have hn3 : h3.n = x6 + 1 := by rw [← hh3, ← hx6]; rfl
  have hC3 := (by rw [← hh3, ← hx6]; exact HGet.new : HGet h3 x6 (.cells (.string ⟨⟨X.chain⟩⟩ :: .int .i64 X.height :: .int .i64 X.time :: (bcells X.prev ++ (bcells X.vals ++ (bcells X.next ++ (bcells X.app ++ (.int .i64 0 :: (z32 ++ [.slice none 0 0, .slice none 0 0]))))))) 0))
  clear hh3
  have hA3 := hf3.keep hA2 (by omega) id
  have hB3 := hf3.keep hB2 (by omega) id
  have hr3 := hr2.none hf3
  have hq3 : h3.get q = .cells [.int .i64 f1, .int .i64 g1] 0 := by rw [hf3.get q (by omega) id, hq2]
  have k2 := partC_ok hr3 hq3 (by omega) (by omega) hqs e1
  have e2 := partB_e (dec := decC) (zero := zCm) (bs := bs) (y := ((f1, g1), st1)) e1
  have hCo := partB_prop (P := fun c : Cm => c.hash.length = 32 ∧ c.votes.length ≤ 64) (zero := zCm) decC_ok ⟨rfl, Nat.zero_le 64⟩ bs ((f1, g1), st1)
  generalize partB decC zCm bs ((f1, g1), st1) = y2 at *
  obtain ⟨Y, ⟨f2, g2⟩, st2⟩ := y2
  simp only at k2 e2 hCo ⊢
  refine O.call' k2 (fun r h4 hr => ?_)
  obtain ⟨⟨sv4, rfl, hov4, hnv4⟩, hq4, hr4, hf4⟩ := hr
  obtain ⟨av4, cv4, rfl, _, _⟩ := hov4.rd
  have hn4 := hf4.n
  have hA4 := hf4.keep hA3 (by omega) (by omega)
  have hB4 := hf4.keep hB3 (by omega) (by omega)
  haveI hC4 := hf4.keep hC3 (by omega) (by omega)
  haveI := l32 hCo.1
  haveI : BLt x6 h4 := ⟨by omega⟩
  refine stpP ?_
  generalize hh5 : h4.set x6 _ = h5
  have hf5 : Fr (fun i => i = x6) h4 h5 := by rw [← hh5]; exact Fr.refl.set fun _ => rfl
  have hn5 : h5.n = h4.n := by rw [← hh5]; simp
  have hC5 := (by rw [← hh5]; exact HGet.same : HGet h5 x6 (.cells (.string ⟨⟨X.chain⟩⟩ :: .int .i64 X.height :: .int .i64 X.time :: (bcells X.prev ++ (bcells X.vals ++ (bcells X.next ++ (bcells X.app ++ (.int .i64 Y.height :: (bcells Y.hash ++ [(.slice av4 Y.votes.length cv4), .slice none 0 0]))))))) 0))
  clear hh5
  have hA5 := hf5.keep hA4 (by omega) (by omega)
  have hB5 := hf5.keep hB4 (by omega) (by omega)
  have hr5 := hr4.keep hf5 (by omega) fun i hi h => by have := (hown1 i hi).2; omega
  have hq5 : h5.get q = .cells [.int .i64 f2, .int .i64 g2] 0 := by rw [hf5.get q (by omega) (by omega), hq4]
  have hov5 := hov4.keep hf5 fun i hi h => by have := hnv4 i hi; omega
  have hlv4 := fun {i : Nat} (hi : ownedBy (.slice av4 Y.votes.length cv4) i) => hov4.lt hi
  have k3 := partV_ok hr5 hq5 (by omega) (by omega) hqs e2
  have e3 := partB_e (dec := decV) (zero := []) (bs := bs) (y := ((f2, g2), st2)) e2
  have hVo := partB_prop (P := fun l : List Val => l.length ≤ 64) (zero := []) decV_len (Nat.zero_le 64) bs ((f2, g2), st2)
  generalize partB decV [] bs ((f2, g2), st2) = y3 at *
  obtain ⟨Z, ⟨f3, g3⟩, st3⟩ := y3
  simp only at k3 e3 hVo ⊢
  refine O.call' k3 (fun r h6 hr => ?_)
  obtain ⟨⟨sl6, rfl, hol6, hnl6⟩, hq6, hr6, hf6⟩ := hr
  obtain ⟨al6, cl6, rfl, _, _⟩ := hol6.rd
  have hn6 := hf6.n
  have hA6 := hf6.keep hA5 (by omega) (by omega)
  have hB6 := hf6.keep hB5 (by omega) (by omega)
  haveI hC6 := hf6.keep hC5 (by omega) (by omega)
  haveI : BLt x6 h6 := ⟨by omega⟩
  have hov6 := hov5.keep hf6 fun i hi h => by have := hnv4 i hi; omega
  haveI hQ6 : HGet h6 q _ := ⟨hq6⟩
  haveI : BNe q x6 := ⟨by omega⟩
  haveI : BNe x6 q := ⟨by omega⟩
  refine stpP ?_
  generalize hh7 : h6.set x6 _ = h7
  have hf7 : Fr (fun i => i = x6) h6 h7 := by rw [← hh7]; exact Fr.refl.set fun _ => rfl
  have hn7 : h7.n = h6.n := by rw [← hh7]; simp
  haveI hC7 := (by rw [← hh7]; exact HGet.same : HGet h7 x6 (.cells (Bk.cells ⟨X, Y, Z⟩ (.slice av4 Y.votes.length cv4) (.slice al6 Z.length cl6)) 0))
  clear hh7
  haveI hA7 := hf7.keep hA6 (by omega) (by omega)
  haveI hB7 := hf7.keep hB6 (by omega) (by omega)
  haveI hQ7 := hf7.keep hQ6 (by omega) (by omega)
  have hr7 := hr6.keep hf7 (by omega) fun i hi h => by have := (hown1 i hi).2; omega
  have hO7 : BkOwn h7 h.n ⟨X, Y, Z⟩ (.slice av4 Y.votes.length cv4) (.slice al6 Z.length cl6) := ⟨hov6.keep hf7 fun i hi h => (by have := hnv4 i hi; have := hlv4 hi; omega), hol6.keep hf7 fun i hi h => (by have := hnl6 i hi; omega), fun i hi => (by have := hnv4 i hi; omega), fun i hi => (by have := hnl6 i hi; omega), fun i hi hl => (by have := hlv4 hi; have := hnl6 i hl; omega)⟩
  have hfh7 : Fr (fun _ => False) h h7 := by
    refine Fr.trans (S := fun _ => False) (hf0.trans' hf1) (S' := fun i => i = p ∨ i = q ∨ i = x6) ?_ fun i hi ho => by omega
    exact Fr.trans' (Fr.trans' (Fr.trans' (Fr.trans' (Fr.trans' (hf2.mono fun _ _ h => by rcases h with h | h <;> omega) (hf3.mono fun _ _ h => h.elim)) (hf4.mono fun _ _ h => by rcases h with h | h <;> omega)) (hf5.mono fun _ _ h => by omega)) (hf6.mono fun _ _ h => by rcases h with h | h <;> omega)) (hf7.mono fun _ _ h => by omega)
  haveI : BLt h.n h7 := ⟨by omega⟩
  haveI : BLt b3 h7 := ⟨by omega⟩
  haveI : BLt q h7 := ⟨by omega⟩
  haveI : BNe h.n b3 := ⟨by omega⟩
  haveI : BNe b3 h.n := ⟨by omega⟩
  haveI : BNe h.n q := ⟨by omega⟩
  haveI : BNe q h.n := ⟨by omega⟩
  haveI : BNe b3 q := ⟨by omega⟩
  haveI : BNe q b3 := ⟨by omega⟩
  haveI : BNe x6 h.n := ⟨by omega⟩
  haveI : BNe x6 b3 := ⟨by omega⟩
  refine stpP ?_
  rw [same_fault]
  refine C.if (fun hz => ?_) (fun hz => ?_)
  · obtain ⟨rfl, rfl⟩ := Prod.mk.inj hz
    refine stpP ?_
    have k4 := End_run hr7
    generalize endS bs st3 = F at *
    obtain ⟨e, a⟩ := F
    refine O.call' k4 (fun r h8 hr => ?_)
    obtain ⟨rfl, hf8⟩ := hr
    have hn8 := hf8.n
    haveI hA8 := hf8.keep hA7 (by omega) id
    haveI hB8 := hf8.keep hB7 (by omega) id
    haveI hC8 := hf8.keep hC7 (by omega) id
    haveI hQ8 := hf8.keep hQ7 (by omega) id
    haveI : BLt h.n h8 := ⟨by omega⟩
    haveI : BLt b3 h8 := ⟨by omega⟩
    haveI : BLt q h8 := ⟨by omega⟩
    haveI : BLt x6 h8 := ⟨by omega⟩
    have hfh8 := hfh7.trans' hf8
    have hO8 := hO7.keep hf8 fun i h => h.elim
    refine stpP ?_
    rw [same_fault]
    refine C.ifN (fun hc => ?_) (fun hc => ?_)
    · refine stpP ?_
      simp only [if_true]
      rw [if_neg hc]
      exact ⟨_, _, rfl, .zero, Fr.set (Fr.set (Fr.set hfh8 fun hlt => by omega) fun hlt => by omega) fun hlt => by omega⟩
    · refine stpP ?_
      simp only [if_true]
      rw [if_pos hc]
      have hfs : ∀ {c1 c2 c3 : AObj}, Fr (fun i => i = h.n ∨ i = b3 ∨ i = q) h8 (((h8.set q c1).set h.n c2).set b3 c3) := fun {c1 c2 c3} => Fr.set (Fr.set (Fr.set Fr.refl fun _ => .inr (.inr rfl)) fun _ => .inl rfl) fun _ => .inr (.inl rfl)
      exact ⟨_, _, rfl, ⟨hO8.votes.keep hfs fun i hi h => (by have := hnv4 i hi; omega), hO8.vals.keep hfs fun i hi h => (by have := hnl6 i hi; omega), hO8.vnew, hO8.lnew, hO8.apart⟩, Fr.set (Fr.set (Fr.set hfh8 fun hlt => by omega) fun hlt => by omega) fun hlt => by omega⟩
  · refine stpP ?_
    rw [same_fault]
    refine C.ifN (fun hc => ?_) (fun hc => absurd hc hz)
    refine stpP ?_
    simp only [if_neg hz]
    exact ⟨_, _, rfl, .zero, Fr.set (Fr.set hfh7 fun hlt => by omega) fun hlt => by omega⟩
end Go.Proofs.YtbmpalbdbcjieaaGreat.A

namespace Go.Proofs.YtbmpalbdbcjieaaGreat.A
open Go Go.Vm
set_option maxRecDepth 10000
set_option linter.unusedVariables false
def okSt (st : RSt) : Prop := st.e = 0 → st.fa = 0
theorem rd_okSt {α : Type} {S : Nat → Except Int (α × Nat)} {z : α} {st : RSt} (hS : ∀ pl e, S pl = .error e → e ≠ 0) (h : okSt st) : okSt (rd S z st).2 := by
  unfold rd
  split
  · split
    · exact fun _ => rfl
    · rename_i e he
      exact fun h0 => absurd h0 (hS _ _ he)
  · exact h
theorem numS_ne {bs : List UInt8} (pl : Nat) (e : Int) (h : numS bs pl = .error e) : e ≠ 0 := by
  rcases numS_err h with rfl | rfl <;> decide
theorem bytesS_ne {bs : List UInt8} {m : Nat} (pl : Nat) (e : Int) (h : bytesS bs m pl = .error e) : e ≠ 0 := by
  unfold bytesS at h
  split at h
  · rename_i e' h'
    cases h
    exact numS_ne _ _ h'
  · split at h
    · cases h; decide
    · split at h
      · cases h; decide
      · cases h
theorem partS_ne {bs : List UInt8} {k : Nat} (pl : Nat) (e : Int) (h : partS k bs pl = .error e) : e ≠ 0 := by
  unfold partS at h
  split at h
  · cases h; decide
  · cases h
theorem wordS_ne {bs : List UInt8} (pl : Nat) (e : Int) (h : wordS bs pl = .error e) : e ≠ 0 := by
  unfold wordS at h
  split at h
  · cases h; decide
  · cases h
theorem stepD_okSt {bs : List UInt8} {y : Hd × RSt} (h : okSt y.2) : ∀ k, okSt (stepD bs k y).2
  | 0 => h
  | k + 1 => rd_okSt partS_ne (stepD_okSt h k)
theorem stepV_okSt {bs : List UInt8} {y : List Val × RSt} (h : okSt y.2) : ∀ k, okSt (stepV bs k y).2
  | 0 => h
  | k + 1 => rd_okSt numS_ne (rd_okSt partS_ne (stepV_okSt h k))
theorem stepW_okSt {bs : List UInt8} {y : List Vote × RSt} (h : okSt y.2) : ∀ k, okSt (stepW bs k y).2
  | 0 => h
  | k + 1 => rd_okSt wordS_ne (rd_okSt numS_ne (stepW_okSt h k))
theorem endS_zero {bs : List UInt8} {st : RSt} (h : okSt st) : (endS bs st).1 = 0 → (endS bs st).2 = 0 := by
  unfold endS
  split
  · intro h0; cases h0
  · exact h
theorem fault_zero {α : Type} {f : Int × Int} {c : Int} {x z : α} (hf : f.1 = 0 → f.2 = 0) :
    (if (if f = (0, 0) then (c, 0) else f) = (0, 0) then (x, ((0 : Int), (0 : Int))) else (z, if f = (0, 0) then (c, 0) else f)).2.1 = 0 → (if (if f = (0, 0) then (c, 0) else f) = (0, 0) then (x, ((0 : Int), (0 : Int))) else (z, if f = (0, 0) then (c, 0) else f)).2.2 = 0 := by
  by_cases hff : f = (0, 0)
  · rw [if_pos hff]
    split
    · exact fun _ => rfl
    · exact fun _ => rfl
  · rw [if_neg hff, if_neg hff]
    exact hf
theorem decS_zero (bs : List UInt8) : (decS bs).2.1 = 0 → (decS bs).2.2 = 0 := by
  have h0 : okSt (headD bs).2 := rd_okSt numS_ne (rd_okSt numS_ne (rd_okSt bytesS_ne fun _ => rfl))
  exact fault_zero (f := endS bs (stepD bs 4 (headD bs)).2) (c := checkS (stepD bs 4 (headD bs)).1) (x := (stepD bs 4 (headD bs)).1) (z := zeroHd) (endS_zero (stepD_okSt h0 4))
theorem decV_zero (bs : List UInt8) : (decV bs).2.1 = 0 → (decV bs).2.2 = 0 := by
  unfold decV
  simp only
  split
  · intro h; cases h
  · exact fault_zero (endS_zero (stepV_okSt (y := ([], (rd (numS bs) 0 ⟨0, 0, 0⟩).2)) (rd_okSt numS_ne fun _ => rfl) _))
theorem decC_zero (bs : List UInt8) : (decC bs).2.1 = 0 → (decC bs).2.2 = 0 := by
  unfold decC
  simp only
  split
  · intro h; cases h
  · exact fault_zero (endS_zero (stepW_okSt (y := ([], (rd (numS bs) 0 (rd (partS 32 bs) zb32 (rd (numS bs) 0 ⟨0, 0, 0⟩).2).2).2)) (rd_okSt numS_ne (rd_okSt partS_ne (rd_okSt numS_ne fun _ => rfl))) _))
theorem partB_bad {α : Type} {dec : List UInt8 → α × Int × Int} {zero : α} {bs : List UInt8} {st : RSt} (h : (rd (bytesS bs 65536) [] st).2.e ≠ 0) : partB dec zero bs ((0, 0), st) = (zero, ((rd (bytesS bs 65536) [] st).2.e, (rd (bytesS bs 65536) [] st).2.fa), (rd (bytesS bs 65536) [] st).2) := by
  unfold partB
  rw [if_pos rfl]
  simp only
  rw [if_neg h]
theorem partB_form {α : Type} {dec : List UInt8 → α × Int × Int} {zero : α} {bs : List UInt8} {st : RSt} (h : (rd (bytesS bs 65536) [] st).2.e = 0) (hd : (dec (rd (bytesS bs 65536) [] st).1).2 ≠ (0, 0)) : partB dec zero bs ((0, 0), st) = (zero, (5, (st.pl : Int)), (rd (bytesS bs 65536) [] st).2) := by
  unfold partB
  rw [if_pos rfl]
  simp only
  rw [if_pos h, if_neg hd]
theorem partB_good {α : Type} {dec : List UInt8 → α × Int × Int} {zero : α} {bs : List UInt8} {st : RSt} (h : (rd (bytesS bs 65536) [] st).2.e = 0) (hd : (dec (rd (bytesS bs 65536) [] st).1).2 = (0, 0)) : partB dec zero bs ((0, 0), st) = ((dec (rd (bytesS bs 65536) [] st).1).1, (0, 0), (rd (bytesS bs 65536) [] st).2) := by
  unfold partB
  rw [if_pos rfl]
  simp only
  rw [if_pos h, if_pos hd]
theorem partB_stop {α : Type} {dec : List UInt8 → α × Int × Int} {zero : α} {bs : List UInt8} {y : (Int × Int) × RSt} (h : y.1 ≠ (0, 0)) : partB dec zero bs y = (zero, y) := by
  unfold partB
  rw [if_neg h]
theorem decB_parts {bs : List UInt8} {y1 : Hd × (Int × Int) × RSt} {y2 : Cm × (Int × Int) × RSt} {y3 : List Val × (Int × Int) × RSt} (h1 : partB decS zeroHd bs ((0, 0), ⟨0, 0, 0⟩) = y1) (h2 : partB decC zCm bs y1.2 = y2) (h3 : partB decV [] bs y2.2 = y3) :
    decB bs = if (if y3.2.1 = (0, 0) then endS bs y3.2.2 else y3.2.1) = (0, 0) then (⟨y1.1, y2.1, y3.1⟩, if y3.2.1 = (0, 0) then endS bs y3.2.2 else y3.2.1) else (zBk, if y3.2.1 = (0, 0) then endS bs y3.2.2 else y3.2.1) := by
  unfold decB
  simp only
  rw [h1, h2, h3]
theorem decB_stop3 {bs : List UInt8} {y1 : Hd × (Int × Int) × RSt} {y2 : Cm × (Int × Int) × RSt} {y3 : List Val × (Int × Int) × RSt} (h1 : partB decS zeroHd bs ((0, 0), ⟨0, 0, 0⟩) = y1) (h2 : partB decC zCm bs y1.2 = y2) (h3 : partB decV [] bs y2.2 = y3) (h : y3.2.1 ≠ (0, 0)) : decB bs = (zBk, y3.2.1) := by
  rw [decB_parts h1 h2 h3, if_neg h, if_neg h]
theorem decB_stop2 {bs : List UInt8} {y1 : Hd × (Int × Int) × RSt} {y2 : Cm × (Int × Int) × RSt} (h1 : partB decS zeroHd bs ((0, 0), ⟨0, 0, 0⟩) = y1) (h2 : partB decC zCm bs y1.2 = y2) (h : y2.2.1 ≠ (0, 0)) : decB bs = (zBk, y2.2.1) :=
  decB_stop3 h1 h2 (partB_stop h) h
theorem decB_stop1 {bs : List UInt8} {y1 : Hd × (Int × Int) × RSt} (h1 : partB decS zeroHd bs ((0, 0), ⟨0, 0, 0⟩) = y1) (h : y1.2.1 ≠ (0, 0)) : decB bs = (zBk, y1.2.1) :=
  decB_stop2 h1 (partB_stop h) h
theorem decB_fin {bs : List UInt8} {y1 : Hd × (Int × Int) × RSt} {y2 : Cm × (Int × Int) × RSt} {y3 : List Val × (Int × Int) × RSt} (h1 : partB decS zeroHd bs ((0, 0), ⟨0, 0, 0⟩) = y1) (h2 : partB decC zCm bs y1.2 = y2) (h3 : partB decV [] bs y2.2 = y3) (h : y3.2.1 = (0, 0)) :
    decB bs = if endS bs y3.2.2 = (0, 0) then (⟨y1.1, y2.1, y3.1⟩, endS bs y3.2.2) else (zBk, endS bs y3.2.2) := by
  rw [decB_parts h1 h2 h3, if_pos h]
end Go.Proofs.YtbmpalbdbcjieaaGreat.A
