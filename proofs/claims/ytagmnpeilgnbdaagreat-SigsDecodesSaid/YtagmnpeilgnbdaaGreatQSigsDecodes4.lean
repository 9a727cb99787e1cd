/- Contracts of functions, over the machine. -/
import Derived.Test.YtagmnpeilgnbdaaGreatQSigsDecodes3
import Derived.Test.YtagmnpeilgnbdaaGreatVK
import Derived.Test.YtagmnpeilgnbdaaGreatVJ
set_option linter.unusedSimpArgs false
set_option linter.unusedSectionVars false
noncomputable section
namespace Go.Proofs.YtagmnpeilgnbdaaGreat.A
open Go Go.Vm
set_option maxRecDepth 10000
set_option linter.unusedVariables false
theorem num1_ok {h : Heap} {v : Value} {l : List UInt8} {a b : Nat} {k : Nat} {x : Int} (hr : Rd h 1 v (bcells l) l.length) (hl : l.length ≤ 8) (hk : k = l.length) [ha : HGet h a (.cells [.int .i64 k] 0)] [hb : HGet h b (.cells [.int .u8 x] 0)] (hv : ∀ i, blockOf v i → i ≠ b) :
    Runs Tryz.prog T0 (.fn fn_zndQ) [v, .pointer (some ⟨a, 0, none⟩), .pointer (some ⟨b, 0, none⟩)] h
      (fun r h' => r = .int .u64 (bigN l) ∧ h' = if 0 < k then h.set b (.cells [.int .u8 (l.getD 0 0).toNat] 0) else h) (fun _ _ => False) := by
  have hr' := hr
  obtain ⟨ad, cap, rfl, hlen, hc⟩ := hr
  refine zndQ_runs ?_
  refine stp ?_
  refine C.if (fun hpos => ?_) (fun hz => ?_)
  · obtain ⟨q, o, sp, rfl, hq, hcc⟩ := hc (by omega)
    rw [Nat.mul_one] at hcc
    haveI := Go.Vm.byte_cell (k := 0) hcc (by omega)
    refine stp ?_
    refine O.call' (big_ok (l := l) (hr'.keep (S := fun i => i = b) (h' := h.set b (.cells [.int .u8 (l.getD 0 0).toNat] 0)) (Fr.refl.set fun _ => rfl) hv) hl) (fun r h' hr => ?_)
    obtain ⟨rfl, rfl⟩ := hr
    refine stp ?_
    rw [if_pos (by omega)]
    exact ⟨rfl, rfl⟩
  · refine stp ?_
    refine O.call' (big_ok (l := l) hr' hl) (fun r h' hr => ?_)
    obtain ⟨rfl, rfl⟩ := hr
    refine stp ?_
    rw [if_neg (by omega)]
    exact ⟨rfl, rfl⟩
theorem num_ok {h : Heap} {p : Nat} {sv : Value} {bs : List UInt8} {pl : Nat} {fa : Int} (hr : PR h p sv bs pl 0 fa) :
    Runs Tryz.prog T0 (.fn fn_zmdQ) [.pointer (some ⟨p, 0, none⟩), .int .i64 pl] h
      (fun r h' => ∃ n pl', numS bs pl = .ok (n, pl') ∧ r = .int .i64 n ∧ PR h' p sv bs pl' 0 fa ∧ Fr (fun i => i = p) h h')
      (fun c h' => ∃ e pl', numS bs pl = .error e ∧ c = thrown e pl ∧ PR h' p sv bs pl' 0 fa ∧ Fr (fun i => i = p) h h') := by
  have hple := hr.at_le
  have hsm := hr.small
  have hbt := (bs.getD pl 0).toNat_lt
  refine zmdQ_runs ?_
  refine stp ?_
  refine O.callX (takeU64_ok (n := 1) (R := fun r h2 => r = .int .u64 (bs.getD pl 0).toNat ∧ pl + 1 ≤ bs.length ∧ PR h2 p sv bs (pl + 1) 0 fa ∧ Fr (fun i => i = p) h h2) hr (by omega) (fun h1 v hf hp1 hle hbl hrd => ?_)) (fun r h1 hr1 => ?_) (fun c h1 hx => ?_)
  · have hl1 : ((bs.drop pl).take 1).length = 1 := by simp; omega
    refine (big_ok (l := (bs.drop pl).take 1) (by rw [hl1]; exact hrd) (by omega)).imp fun r h2 hr2 => ?_
    obtain ⟨rfl, rfl⟩ := hr2
    refine ⟨?_, hle, hp1, hf⟩
    have hd : (bs.drop pl).take 1 = [bs.getD pl 0] := by
      have := take_succ_getD (l := bs.drop pl) (k := 0) (by simp; omega)
      simpa [List.getD_eq_getElem?_getD] using this
    rw [hd]
    simp [bigN]
  · obtain ⟨rfl, hle, hp1, hf1⟩ := hr1
    generalize hk : (bs.getD pl 0).toNat = k at *
    refine stp ?_
    refine O.callX must_ok (fun r h2 hr2 => ?_) (fun c h2 hx => ?_)
    · obtain ⟨hk8, rfl⟩ := hr2
      have hk8 : (k : Int) ≤ 8 := of_decide_eq_true hk8
      refine stp ?_
      have hplt := hp1.lt
      generalize hd : (bs.drop (pl + 1)).take k = d
      have hdl : pl + 1 + k ≤ bs.length → d.length = k := fun h => by rw [← hd, List.length_take, List.length_drop]; omega
      refine O.callX (takeU64_ok (n := k) (R := fun r h2 => r = .int .u64 (bigN d) ∧ pl + 1 + k ≤ bs.length ∧ PR h2 p sv bs (pl + 1 + k) 0 fa ∧ Fr (fun i => i = p) h h2 ∧
        HGet h2 (h1.push (AObj.cells [Value.int IntKind.i64 k] 0)).n (.cells [.int .u8 (if 0 < k then (d.getD 0 0).toNat else 1 : Nat)] 0)) (hp1.none Fr.refl.push.push) (by omega) (fun h2 v hf hp2 hle2 hbl hrd => ?_)) (fun r h2 hr2 => ?_) (fun c h2 hx => ?_)
      · haveI : HGet h2 h1.n _ := hf.keep (b := h1.n) (HGet.push (k := BLt.new) (g := HGet.new)) (by simp; omega) (by omega)
        haveI : HGet h2 (h1.push (AObj.cells [Value.int IntKind.i64 k] 0)).n _ := hf.keep (b := (h1.push (AObj.cells [Value.int IntKind.i64 k] 0)).n) HGet.new (by simp) (by simp; omega)
        have hnew : ∀ i, ownedBy sv i → i ≠ (h1.push (AObj.cells [Value.int IntKind.i64 k] 0)).n := fun i hi => by have := hp1.own.lt hi; simp; omega
        have hfr : Fr (fun i => i = p) h h2 := hf1.trans' (Fr.trans (S := fun i => i = p) Fr.refl.push.push hf fun i _ hi => hi)
        rw [hd] at hrd
        refine (num1_ok (a := h1.n) (b := (h1.push (AObj.cells [Value.int IntKind.i64 k] 0)).n) (k := k) (l := d) (by rw [hdl hle2]; exact hrd) (by rw [hdl hle2]; omega) (hdl hle2).symm (fun i hi => hnew i (hbl i hi))).imp fun r h3 hr3 => ?_
        obtain ⟨rfl, rfl⟩ := hr3
        by_cases hk0 : 0 < k
        · rw [if_pos hk0, if_pos hk0]
          refine ⟨rfl, hle2, hp2.keep (S := fun i => i = _) (Fr.refl.set fun _ => rfl) (by simp; omega) hnew, hfr.set fun hlt => ?_, HGet.same⟩
          have := hf1.n
          simp at hlt; omega
        · rw [if_neg hk0, if_neg hk0]
          exact ⟨rfl, hle2, hp2, hfr, inferInstance⟩
      · obtain ⟨rfl, hle2, hp2, hf2, hg2⟩ := hr2
        have hbn : bigN d < 18446744073709551616 := by
          have := bigN_lt d
          have h2 : 256 ^ d.length ≤ 256 ^ 8 := Nat.pow_le_pow_right (by omega) (by rw [hdl hle2]; omega)
          omega
        refine stp ?_
        refine O.decN (fun hne => ?_) (fun heq => ?_)
        · refine stp ?_
          have hfirst : ¬ (0 < k ∧ (d.getD 0 0).toNat = 0) := fun ⟨h1, h2⟩ => hne (by rw [if_pos h1, h2]; rfl)
          refine O.callX must_ok (fun r h3 hr3 => ?_) (fun c h3 hx => ?_)
          · obtain ⟨hmax, rfl⟩ := hr3
            have hmax : (bigN d : Int) ≤ 9223372036854775807 := of_decide_eq_true hmax
            refine stp ?_
            refine ⟨bigN d, pl + 1 + k, ?_, rfl, hp2, hf2⟩
            unfold numS
            rw [hk, hd, if_neg (by omega), if_neg (by omega), if_neg (by omega), if_neg (fun h => h.elim hfirst fun h => by omega)]
          · obtain ⟨hmax, rfl, rfl⟩ := hx
            have hmax : ¬ (bigN d : Int) ≤ 9223372036854775807 := of_decide_eq_false hmax
            refine stp ?_
            refine ⟨5, pl + 1 + k, ?_, rfl, hp2, hf2⟩
            unfold numS
            rw [hk, hd, if_neg (by omega), if_neg (by omega), if_neg (by omega), if_pos (.inr (by omega))]
        · refine stp ?_
          have hfirst : 0 < k ∧ (d.getD 0 0).toNat = 0 := by
            by_cases h0 : 0 < k
            · rw [if_pos h0] at heq; exact ⟨h0, by omega⟩
            · rw [if_neg h0] at heq; cases heq
          refine O.callX must_no (fun r h3 hr3 => hr3.elim) (fun c h3 hx => ?_)
          obtain ⟨rfl, rfl⟩ := hx
          refine stp ?_
          refine ⟨5, pl + 1 + k, ?_, rfl, hp2, hf2⟩
          unfold numS
          rw [hk, hd, if_neg (by omega), if_neg (by omega), if_neg (by omega), if_pos (.inl hfirst)]
      · obtain ⟨hlt, rfl, rfl⟩ := hx
        refine stp ?_
        refine ⟨6, pl + 1, ?_, rfl, hp1.none Fr.refl.push.push, hf1.push.push⟩
        unfold numS
        rw [hk, if_neg (by omega), if_neg (by omega), if_pos (by omega)]
    · obtain ⟨hk8, rfl, rfl⟩ := hx
      have hk8 : ¬ (k : Int) ≤ 8 := of_decide_eq_false hk8
      refine stp ?_
      refine ⟨5, pl + 1, ?_, rfl, hp1.none Fr.refl.push, hf1.push⟩
      unfold numS
      rw [hk, if_neg (by omega), if_pos (by omega)]
  · obtain ⟨hlt, rfl, rfl⟩ := hx
    refine stp ?_
    refine ⟨6, pl, ?_, rfl, hr, Fr.refl⟩
    unfold numS
    rw [if_pos (by omega)]
end Go.Proofs.YtagmnpeilgnbdaaGreat.A

namespace Go.Proofs.YtagmnpeilgnbdaaGreat.A
open Go Go.Vm
set_option maxRecDepth 10000
set_option linter.unusedVariables false
theorem caught_none {h : Heap} {v : Value} : RunDf Tryz.prog T0 fn_zldQ [v] .returning h (fun u h' => u = .returning ∧ h' = h) (fun _ _ _ => False) := by
  refine zldQ_df ?_
  refine dstp ?_
  exact ⟨rfl, rfl⟩
theorem caught_ok {h : Heap} {p : Nat} {sv : Value} {bs : List UInt8} {pl : Nat} {e fa x a : Int} (hr : PR h p sv bs pl e fa) :
    RunDf Tryz.prog T0 fn_zldQ [.pointer (some ⟨p, 0, none⟩)] (.panicking (thrown x a)) h (fun u h' => settle u = .returning ∧ PR h' p sv bs pl x a ∧ Fr (fun i => i = p) h h') (fun _ _ _ => False) := by
  haveI : HGet h p _ := ⟨hr.get⟩
  haveI : BLt p h := ⟨hr.lt⟩
  refine zldQ_df ?_
  refine dstp ?_
  exact ⟨rfl, (hr.none Fr.refl.push).turn hr.at_le, Fr.refl.push.set fun _ => rfl⟩
def readQ (h : Heap) (p : Nat) (sv : Value) (bs : List UInt8) (pl : Nat) (zero : Value) (S : Except Int (Value × Nat)) (r : Value) (h' : Heap) : Prop :=
  Fr (fun i => i = p) h h' ∧ match S with
    | .ok (v, pl') => r = v ∧ PR h' p sv bs pl' 0 0
    | .error e => r = zero ∧ ∃ pl', PR h' p sv bs pl' e pl
theorem readsInt_ok {h : Heap} {p : Nat} {sv : Value} {bs : List UInt8} {pl : Nat} {fid : FuncId} {first captured : List Value} {S : Except Int (Value × Nat)} (hr : PR h p sv bs pl 0 0)
    (hm : Runs Tryz.prog T0 (.fn fid) (first ++ [.int .i64 pl] ++ captured) h (fun r h' => ∃ v pl', S = .ok (v, pl') ∧ r = v ∧ PR h' p sv bs pl' 0 0 ∧ Fr (fun i => i = p) h h')
      (fun c h' => ∃ e pl', S = .error e ∧ c = thrown e pl ∧ PR h' p sv bs pl' 0 0 ∧ Fr (fun i => i = p) h h')) :
    Runs Tryz.prog T0 (.fn fn_zzdQ) [.pointer (some ⟨p, 0, none⟩), .func (.func fid) ⟨first⟩ ⟨captured⟩] h (readQ h p sv bs pl (.int .i64 0) S) (fun _ _ => False) := by
  haveI : HGet h p _ := ⟨hr.get⟩
  haveI : BLt p h := ⟨hr.lt⟩
  refine zzdQ_runs ?_
  refine stp ?_
  refine O.callX hm (fun r h1 hr1 => ?_) (fun c h1 hx => ?_)
  · obtain ⟨v, pl', hS, rfl, hp1, hf⟩ := hr1
    refine stp ?_
    refine caught_none.mono (fun u' h' hu => ?_) (fun _ _ _ hx => hx.elim)
    obtain ⟨rfl, rfl⟩ := hu
    refine L.nil ⟨hf, ?_⟩
    rw [hS]
    exact ⟨rfl, hp1⟩
  · obtain ⟨e, pl', hS, rfl, hp1, hf⟩ := hx
    refine stp ?_
    refine (caught_ok hp1).mono (fun u' h' hu => ?_) (fun _ _ _ hx => hx.elim)
    obtain ⟨hs, hp2, hf2⟩ := hu
    rw [hs]
    refine L.nil ⟨hf.trans' hf2, ?_⟩
    rw [hS]
    exact ⟨rfl, pl', hp2⟩
theorem readsInt_bad {h : Heap} {p : Nat} {sv : Value} {bs : List UInt8} {pl : Nat} {e fa : Int} {f : Value} (hr : PR h p sv bs pl e fa) (he : e ≠ 0) :
    Runs Tryz.prog T0 (.fn fn_zzdQ) [.pointer (some ⟨p, 0, none⟩), f] h (fun r h' => r = .int .i64 0 ∧ h' = h) (fun _ _ => False) := by
  haveI : HGet h p _ := ⟨hr.get⟩
  haveI : BLt p h := ⟨hr.lt⟩
  refine zzdQ_runs ?_
  refine stp ?_
  refine C.ifB (fun h1 => ?_) (fun h1 => ?_)
  · refine stp ?_
    exact ⟨rfl, rfl⟩
  · exfalso; simp at h1; exact he h1
theorem Num_ok {h : Heap} {p : Nat} {sv : Value} {bs : List UInt8} {pl : Nat} (hr : PR h p sv bs pl 0 0) :
    Runs Tryz.prog T0 (.fn fn_zhdQ) [.pointer (some ⟨p, 0, none⟩)] h (readQ h p sv bs pl (.int .i64 0) ((numS bs pl).map fun x => (.int .i64 x.1, x.2))) (fun _ _ => False) := by
  refine zhdQ_runs ?_
  refine stp ?_
  refine O.call' (readsInt_ok (S := (numS bs pl).map fun x => (.int .i64 x.1, x.2)) hr ((num_ok hr).mono (fun r h' hq => ?_) (fun c h' hq => ?_))) (fun r h' hq => ?_)
  · obtain ⟨n, pl', h1, h2, h3, h4⟩ := hq
    exact ⟨_, pl', by rw [h1]; rfl, h2, h3, h4⟩
  · obtain ⟨e, pl', h1, h2, h3, h4⟩ := hq
    exact ⟨e, pl', by rw [h1]; rfl, h2, h3, h4⟩
  · refine stp ?_
    exact hq
theorem Num_bad {h : Heap} {p : Nat} {sv : Value} {bs : List UInt8} {pl : Nat} {e fa : Int} (hr : PR h p sv bs pl e fa) (he : e ≠ 0) :
    Runs Tryz.prog T0 (.fn fn_zhdQ) [.pointer (some ⟨p, 0, none⟩)] h (fun r h' => r = .int .i64 0 ∧ h' = h) (fun _ _ => False) := by
  refine zhdQ_runs ?_
  refine stp ?_
  refine O.call' (readsInt_bad hr he) (fun r h' hq => ?_)
  obtain ⟨rfl, rfl⟩ := hq
  refine stp ?_
  exact ⟨rfl, rfl⟩
end Go.Proofs.YtagmnpeilgnbdaaGreat.A

namespace Go.Proofs.YtagmnpeilgnbdaaGreat.A
open Go Go.Vm
set_option maxRecDepth 10000
set_option linter.unusedVariables false
theorem End_ok {h : Heap} {p : Nat} {sv : Value} {bs : List UInt8} {pl : Nat} {e fa : Int} (hr : PR h p sv bs pl e fa) :
    Runs Tryz.prog T0 (.fn fn_zadQ) [.pointer (some ⟨p, 0, none⟩)] h
      (fun r h' => r = .agg ⟨if e = 0 ∧ pl < bs.length then [.int .i64 4, .int .i64 pl] else [.int .i64 e, .int .i64 fa]⟩ ∧ Fr (fun _ => False) h h') (fun _ _ => False) := by
  obtain ⟨a, cap, rfl, hlen, _⟩ := hr.own.rd
  haveI : HGet h p _ := ⟨hr.get⟩
  haveI : BLt p h := ⟨hr.lt⟩
  refine zadQ_runs ?_
  refine stp ?_
  refine D.dec (fun he => ?_) (fun he => ?_)
  · refine stp ?_
    refine C.if (fun hlt => ?_) (fun hge => ?_)
    · refine stp ?_
      rw [if_pos ⟨he, by omega⟩]
      exact ⟨rfl, Fr.refl.push⟩
    · refine stp ?_
      rw [if_neg (by omega)]
      exact ⟨rfl, Fr.refl.push⟩
  · refine stp ?_
    rw [if_neg (fun h => he h.1)]
    exact ⟨rfl, Fr.refl.push⟩
end Go.Proofs.YtagmnpeilgnbdaaGreat.A

namespace Go.Proofs.YtagmnpeilgnbdaaGreat.A
open Go Go.Vm
set_option maxRecDepth 10000
set_option linter.unusedVariables false
structure RSt where
  pl : Nat
  e : Int
  fa : Int
structure PRs (h : Heap) (p : Nat) (sv : Value) (bs : List UInt8) (st : RSt) : Prop where
  ex : ∃ pl, (st.e = 0 → pl = st.pl ∧ st.fa = 0) ∧ PR h p sv bs pl st.e st.fa
def rd {α : Type} (S : Nat → Except Int (α × Nat)) (zero : α) (st : RSt) : α × RSt :=
  if st.e = 0 then match S st.pl with
    | .ok (a, pl) => (a, ⟨pl, 0, 0⟩)
    | .error e => (zero, ⟨0, e, st.pl⟩)
  else (zero, st)
theorem PRs.keep {S : Nat → Prop} {h h' : Heap} {p : Nat} {sv : Value} {bs : List UInt8} {st : RSt} (hp : PRs h p sv bs st) (hf : Fr S h h') (hs : ¬ S p) (hb : ∀ i, ownedBy sv i → ¬ S i) : PRs h' p sv bs st :=
  let ⟨pl, h1, h2⟩ := hp.ex
  ⟨pl, h1, h2.keep hf hs hb⟩
theorem PRs.none {h h' : Heap} {p : Nat} {sv : Value} {bs : List UInt8} {st : RSt} (hp : PRs h p sv bs st) (hf : Fr (fun _ => False) h h') : PRs h' p sv bs st := hp.keep hf id fun _ _ => id
theorem PRs.lt {h : Heap} {p : Nat} {sv : Value} {bs : List UInt8} {st : RSt} (hp : PRs h p sv bs st) : p < h.n := let ⟨_, _, h2⟩ := hp.ex; h2.lt
theorem PRs.small {h : Heap} {p : Nat} {sv : Value} {bs : List UInt8} {st : RSt} (hp : PRs h p sv bs st) : bs.length < 1048576 := let ⟨_, _, h2⟩ := hp.ex; h2.small
theorem PRs.le {h : Heap} {p : Nat} {sv : Value} {bs : List UInt8} {st : RSt} (hp : PRs h p sv bs st) (he : st.e = 0) : st.pl ≤ bs.length := let ⟨_, h1, h2⟩ := hp.ex; (h1 he).1 ▸ h2.at_le
theorem PRs.mk' {h : Heap} {p : Nat} {sv : Value} {bs : List UInt8} {pl : Nat} (hp : PR h p sv bs pl 0 0) : PRs h p sv bs ⟨pl, 0, 0⟩ := ⟨pl, fun _ => ⟨rfl, rfl⟩, hp⟩
def Reads {α : Type} (h : Heap) (p : Nat) (sv : Value) (bs : List UInt8) (x : α × RSt) (V : α → Value → Heap → Prop) (r : Value) (h' : Heap) : Prop :=
  Fr (fun i => i = p) h h' ∧ V x.1 r h' ∧ PRs h' p sv bs x.2
theorem rd_ok {α : Type} {h h' : Heap} {p : Nat} {sv : Value} {bs : List UInt8} {pl pl' : Nat} {S : Nat → Except Int (α × Nat)} {zero a : α} {V : α → Value → Heap → Prop} {r : Value} (hS : S pl = .ok (a, pl')) (hf : Fr (fun i => i = p) h h') (hV : V a r h') (hp : PR h' p sv bs pl' 0 0) :
    Reads h p sv bs (rd S zero ⟨pl, 0, 0⟩) V r h' := by
  unfold rd
  rw [if_pos rfl]
  simp only [hS]
  exact ⟨hf, hV, .mk' hp⟩
theorem rd_err {α : Type} {h h' : Heap} {p : Nat} {sv : Value} {bs : List UInt8} {pl pl' : Nat} {e : Int} {S : Nat → Except Int (α × Nat)} {zero : α} {V : α → Value → Heap → Prop} {r : Value} (hS : S pl = .error e) (he : e ≠ 0) (hf : Fr (fun i => i = p) h h') (hV : V zero r h') (hp : PR h' p sv bs pl' e pl) :
    Reads h p sv bs (rd S zero ⟨pl, 0, 0⟩) V r h' := by
  unfold rd
  rw [if_pos rfl]
  simp only [hS]
  exact ⟨hf, hV, ⟨pl', fun h0 => absurd h0 he, hp⟩⟩
theorem rd_bad {α : Type} {h h' : Heap} {p : Nat} {sv : Value} {bs : List UInt8} {st : RSt} {S : Nat → Except Int (α × Nat)} {zero : α} {V : α → Value → Heap → Prop} {r : Value} (he : st.e ≠ 0) (hf : Fr (fun i => i = p) h h') (hV : V zero r h') (hp : PRs h' p sv bs st) :
    Reads h p sv bs (rd S zero st) V r h' := by
  unfold rd
  rw [if_neg he]
  exact ⟨hf, hV, hp⟩
theorem Num_run {h : Heap} {p : Nat} {sv : Value} {bs : List UInt8} {st : RSt} (hp : PRs h p sv bs st) :
    Runs Tryz.prog T0 (.fn fn_zhdQ) [.pointer (some ⟨p, 0, none⟩)] h (Reads h p sv bs (rd (numS bs) 0 st) fun a r _ => r = .int .i64 (a : Nat)) (fun _ _ => False) := by
  obtain ⟨st1, e, fa⟩ := st
  obtain ⟨pl, h1, h2⟩ := hp.ex
  by_cases he : e = 0
  · subst he
    obtain ⟨rfl, h3⟩ := h1 rfl
    have h3 : fa = 0 := h3
    subst h3
    refine (Num_ok h2).imp fun r h' ⟨hf, hq⟩ => ?_
    cases hS : numS bs pl with
    | ok x =>
      rw [hS] at hq
      exact rd_ok hS hf hq.1 hq.2
    | error e =>
      rw [hS] at hq
      obtain ⟨hz, pl', hp'⟩ := hq
      exact rd_err hS (by rcases numS_err hS with rfl | rfl <;> omega) hf hz hp'
  · refine (Num_bad h2 he).imp fun r h' ⟨hz, hh⟩ => ?_
    subst hh
    exact rd_bad he Fr.refl hz hp
end Go.Proofs.YtagmnpeilgnbdaaGreat.A

namespace Go.Proofs.YtagmnpeilgnbdaaGreat.A
open Go Go.Vm
set_option maxRecDepth 10000
set_option linter.unusedVariables false
theorem NewReader_ok {h : Heap} {v : Value} {l : List UInt8} (hr : Rd h 1 v (bcells l) l.length) (hs : l.length < 1048576) :
    Runs Tryz.prog T0 (.fn fn_zycQ) [v] h (fun r h' => ∃ p sv, r = .pointer (some ⟨p, 0, none⟩) ∧ h.n ≤ p ∧ (∀ i, ownedBy sv i → h.n ≤ i) ∧ PRs h' p sv l ⟨0, 0, 0⟩ ∧ Fr (fun _ => False) h h') (fun _ _ => False) := by
  refine zycQ_runs ?_
  refine stp ?_
  refine O.call' (Clone_ok hr hs) (fun r h1 hq => ?_)
  obtain ⟨ho, hf, hnew⟩ := hq
  obtain ⟨a, cap, rfl, hlen, _⟩ := ho.rd
  have hn := hf.n
  refine stp ?_
  refine ⟨h1.n, _, rfl, hn, hnew, .mk' ⟨by omega, hs, by simp, by rw [Heap.get_push, if_pos rfl]; rfl, ho.keep (S := fun _ => False) Fr.refl.push fun _ _ => id, fun hi => ?_⟩, hf.push⟩
  have := ho.lt hi
  omega
def endS (bs : List UInt8) (st : RSt) : Int × Int := if st.e = 0 ∧ st.pl < bs.length then (4, st.pl) else (st.e, st.fa)
theorem End_run {h : Heap} {p : Nat} {sv : Value} {bs : List UInt8} {st : RSt} (hp : PRs h p sv bs st) :
    Runs Tryz.prog T0 (.fn fn_zadQ) [.pointer (some ⟨p, 0, none⟩)] h (fun r h' => r = .agg ⟨[.int .i64 (endS bs st).1, .int .i64 (endS bs st).2]⟩ ∧ Fr (fun _ => False) h h') (fun _ _ => False) := by
  obtain ⟨pl, h1, h2⟩ := hp.ex
  refine (End_ok h2).imp fun r h' ⟨hr, hf⟩ => ⟨?_, hf⟩
  rw [hr]
  unfold endS
  by_cases he : st.e = 0
  · rw [(h1 he).1]
    split <;> rfl
  · rw [if_neg (fun h => he h.1), if_neg (fun h => he h.1)]
end Go.Proofs.YtagmnpeilgnbdaaGreat.A

namespace Go.Proofs.YtagmnpeilgnbdaaGreat.A
open Go Go.Vm
set_option maxRecDepth 10000
set_option linter.unusedVariables false
theorem Hash11_ok {h : Heap} {v : Value} {l : List UInt8} (hr : Rd h 1 v (bcells l) l.length) (hl : l.length = 32) :
    Runs Tryz.prog T0 (.fn fn_zddQ) [v] h (fun r h' => r = .agg ⟨bcells l⟩ ∧ Fr (fun _ => False) h h') (fun _ _ => False) := by
  obtain ⟨a, cap, rfl, hlen, hc⟩ := hr
  obtain ⟨b, o, sp, rfl, hb, hcc⟩ := hc (by omega)
  rw [Nat.mul_one, hl] at hcc
  haveI := l32 hl
  refine zddQ_runs ?_
  refine stp ?_
  refine O.how (XOp.mkArrayAt (by omega)) ?_
  haveI : Cells (h.push (.cells z32 0)) b o 32 (bcells l) := ⟨by rw [cellsAt_keep (S := fun _ => False) Fr.refl.push hb id]; exact hcc⟩
  refine stp ?_
  exact ⟨rfl, Fr.refl.push⟩
theorem takeH_ok {h : Heap} {p : Nat} {sv : Value} {bs : List UInt8} {pl : Nat} {fa a0 : Int} (hr : PR h p sv bs pl 0 fa) :
    Runs Tryz.prog T0 (.fn fn_zbeQ) [.pointer (some ⟨p, 0, none⟩), .int .i64 32, .int .i64 a0, .func (.func fn_zddQ) ⟨[]⟩ ⟨[]⟩] h
      (fun r h' => pl + 32 ≤ bs.length ∧ r = .agg ⟨bcells ((bs.drop pl).take 32)⟩ ∧ PR h' p sv bs (pl + 32) 0 fa ∧ Fr (fun i => i = p) h h')
      (fun c h' => bs.length < pl + 32 ∧ c = thrown 6 a0 ∧ PR h' p sv bs pl 0 fa ∧ Fr (fun i => i = p) h h') := by
  have hr' := hr.none (Fr.refl.push (o := .cells z32 0))
  have hr0 := hr
  obtain ⟨hle, hsm, hp, hget, hown, hnot⟩ := hr
  obtain ⟨a, cap, rfl, hlen, _⟩ := hown.rd
  haveI : HGet h p _ := ⟨hget⟩
  haveI : BLt p h := ⟨hp⟩
  refine zbeQ_runs ?_
  refine stp ?_
  refine D.callX must_ok (fun v h' hv => rfl) (fun v h' hv => ?_) (fun c h' hx => ⟨rfl, ?_⟩)
  · obtain ⟨hle2, rfl⟩ := hv
    have hle2 := of_decide_eq_true hle2
    refine stp ?_
    have hp2 := hr'.turn (pl' := pl + 32) (e' := 0) (fa' := fa) (by omega)
    refine D.slice pl (pl + 32) (by omega) hp2.own (by omega) (by omega) (by omega) (by omega) (fun v' hbl hrd => ?_)
    rw [Nat.mul_one, Nat.mul_one, bcells_drop, bcells_take, Nat.add_sub_cancel_left] at hrd
    have hl : ((bs.drop pl).take 32).length = 32 := by rw [List.length_take, List.length_drop]; omega
    have hf0 : Fr (fun i => i = p) h ((h.push (.cells z32 0)).set p (.cells [.slice a bs.length cap, .int .i64 ↑(pl + 32), .int .i64 0, .int .i64 fa, .bool true] 0)) := Fr.refl.push.set fun _ => rfl
    refine D.callX (Hash11_ok (l := (bs.drop pl).take 32) (by rw [hl]; exact hrd) hl) (fun _ _ _ => rfl) (fun r h2 hr => ?_) (fun _ _ hx => hx.elim)
    obtain ⟨rfl, hf⟩ := hr
    haveI := l32 hl
    haveI : HGet h2 h.n _ := hf.keep (b := h.n) (HGet.set (k := ⟨by omega⟩) (g := HGet.new)) (by simp) id
    refine stp ?_
    refine ⟨by omega, rfl, (hp2.none hf).keep (S := fun i => i = h.n) (Fr.refl.set fun _ => rfl) (by omega) fun i hi hn => ?_, ?_⟩
    · have := hown.lt hi
      omega
    · refine Fr.set (Fr.trans (S := fun i => i = p) (S' := fun _ => False) hf0 hf fun _ _ h => h.elim) fun hlt => ?_
      omega
  · obtain ⟨hlt, rfl, rfl⟩ := hx
    have hlt := of_decide_eq_false hlt
    refine stp ?_
    exact ⟨by omega, rfl, hr', Fr.refl.push⟩
theorem Hash1_ok {h : Heap} {p a : Nat} {sv : Value} {bs : List UInt8} {pl : Nat} (hr : PR h p sv bs pl 0 0) [ha : HGet h a (.cells [.pointer (some ⟨p, 0, none⟩)] 0)] (ha' : a < h.n) :
    Runs Tryz.prog T0 (.fn fn_zcdQ) [.int .i64 pl, .pointer (some ⟨a, 0, none⟩)] h
      (fun r h' => ∃ l pl', partS 32 bs pl = .ok (l, pl') ∧ (r = .agg ⟨bcells l⟩ ∧ l.length = 32) ∧ PR h' p sv bs pl' 0 0 ∧ Fr (fun i => i = p) h h')
      (fun c h' => ∃ e pl', partS 32 bs pl = .error e ∧ e ≠ 0 ∧ c = thrown e pl ∧ PR h' p sv bs pl' 0 0 ∧ Fr (fun i => i = p) h h') := by
  have hp := hr.lt
  have hr' := hr.none (Fr.refl.push (o := .cells z32 0))
  haveI : BLt a h := ⟨ha'⟩
  refine zcdQ_runs ?_
  refine stp ?_
  refine O.callX (takeH_ok hr') (fun r h1 hr1 => ?_) (fun c h1 hx => ?_)
  · obtain ⟨hle, rfl, hp1, hf1⟩ := hr1
    have hl : ((bs.drop pl).take 32).length = 32 := by rw [List.length_take, List.length_drop]; omega
    haveI := l32 hl
    haveI : HGet h1 h.n _ := hf1.keep (b := h.n) HGet.new (by simp) (by omega)
    refine stp ?_
    refine ⟨_, pl + 32, by unfold partS; rw [if_neg (by omega)], ⟨rfl, hl⟩, hp1.keep (S := fun i => i = h.n) (Fr.refl.set fun _ => rfl) (by omega) fun i hi hn => ?_, ?_⟩
    · have := hr.own.lt hi
      omega
    · exact Fr.set (Fr.trans (S := fun i => i = p) Fr.refl.push hf1 fun _ _ h => h) fun hlt => by omega
  · obtain ⟨hlt, rfl, hp1, hf1⟩ := hx
    refine stp ?_
    exact ⟨6, pl, by unfold partS; rw [if_pos (by omega)], by omega, rfl, hp1, Fr.trans (S := fun i => i = p) Fr.refl.push hf1 fun _ _ h => h⟩
theorem readsH_ok {h : Heap} {p : Nat} {sv : Value} {bs : List UInt8} {pl : Nat} {fid : FuncId} {first captured : List Value} {S : Nat → Except Int (List UInt8 × Nat)} (hr : PR h p sv bs pl 0 0)
    (hm : Runs Tryz.prog T0 (.fn fid) (first ++ [.int .i64 pl] ++ captured) (h.push (.cells z32 0)) (fun r h' => ∃ l pl', S pl = .ok (l, pl') ∧ (r = .agg ⟨bcells l⟩ ∧ l.length = 32) ∧ PR h' p sv bs pl' 0 0 ∧ Fr (fun i => i = p) (h.push (.cells z32 0)) h')
      (fun c h' => ∃ e pl', S pl = .error e ∧ e ≠ 0 ∧ c = thrown e pl ∧ PR h' p sv bs pl' 0 0 ∧ Fr (fun i => i = p) (h.push (.cells z32 0)) h')) :
    Runs Tryz.prog T0 (.fn fn_zxdQ) [.pointer (some ⟨p, 0, none⟩), .func (.func fid) ⟨first⟩ ⟨captured⟩] h (Reads h p sv bs (rd S zb32 ⟨pl, 0, 0⟩) fun l r h' => r = .agg ⟨bcells l⟩ ∧ l.length = 32) (fun _ _ => False) := by
  haveI : HGet h p _ := ⟨hr.get⟩
  haveI : BLt p h := ⟨hr.lt⟩
  have hp := hr.lt
  refine zxdQ_runs ?_
  refine stp ?_
  refine O.callX hm (fun r h1 hr1 => ?_) (fun c h1 hx => ?_)
  · obtain ⟨l, pl', hS, ⟨rfl, hl⟩, hp1, hf⟩ := hr1
    haveI := l32 hl
    haveI : HGet h1 h.n _ := hf.keep (b := h.n) HGet.new (by simp) (by omega)
    refine stp ?_
    refine caught_none.mono (fun u' h' hu => ?_) (fun _ _ _ hx => hx.elim)
    obtain ⟨rfl, rfl⟩ := hu
    refine L.nil (rd_ok hS ?_ ⟨rfl, hl⟩ (hp1.keep (S := fun i => i = h.n) (Fr.refl.set fun _ => rfl) (by omega) fun i hi hn => ?_))
    · exact Fr.set (Fr.trans (S := fun i => i = p) Fr.refl.push hf fun _ _ h => h) fun hlt => by omega
    · have := hr.own.lt hi
      omega
  · obtain ⟨e, pl', hS, he, rfl, hp1, hf⟩ := hx
    refine stp ?_
    refine (caught_ok hp1).mono (fun u' h' hu => ?_) (fun _ _ _ hx => hx.elim)
    obtain ⟨hs, hp2, hf2⟩ := hu
    rw [hs]
    haveI : HGet h' h.n _ := (hf.trans' hf2).keep (b := h.n) HGet.new (by simp) (by omega)
    exact L.nil (rd_err hS he (Fr.trans (S := fun i => i = p) Fr.refl.push (hf.trans' hf2) fun _ _ h => h) ⟨rfl, rfl⟩ hp2)
theorem readsH_bad {h : Heap} {p : Nat} {sv : Value} {bs : List UInt8} {pl : Nat} {e fa : Int} {f : Value} (hr : PR h p sv bs pl e fa) (he : e ≠ 0) :
    Runs Tryz.prog T0 (.fn fn_zxdQ) [.pointer (some ⟨p, 0, none⟩), f] h (fun r h' => r = .agg ⟨z32⟩ ∧ Fr (fun _ => False) h h') (fun _ _ => False) := by
  haveI : HGet h p _ := ⟨hr.get⟩
  haveI : BLt p h := ⟨hr.lt⟩
  refine zxdQ_runs ?_
  refine stp ?_
  refine C.ifB (fun h1 => ?_) (fun h1 => ?_)
  · refine stp ?_
    exact ⟨rfl, Fr.refl.push⟩
  · exfalso; simp at h1; exact he h1
theorem Hash_run {h : Heap} {p : Nat} {sv : Value} {bs : List UInt8} {st : RSt} (hp : PRs h p sv bs st) :
    Runs Tryz.prog T0 (.fn fn_zbdQ) [.pointer (some ⟨p, 0, none⟩)] h (Reads h p sv bs (rd (partS 32 bs) zb32 st) fun l r _ => r = .agg ⟨bcells l⟩ ∧ l.length = 32) (fun _ _ => False) := by
  obtain ⟨st1, e, fa⟩ := st
  obtain ⟨pl, h1, h2⟩ := hp.ex
  have hlt := h2.lt
  refine zbdQ_runs ?_
  refine stp ?_
  have hf0 : Fr (fun i => i = p) h ((h.push (AObj.cells [Value.pointer (some ⟨p, 0, none⟩)] 0)).push (AObj.cells z32 0)) := Fr.refl.push.push
  by_cases he : e = 0
  · subst he
    obtain ⟨rfl, h3⟩ := h1 rfl
    have h3 : fa = 0 := h3
    subst h3
    refine O.call' (readsH_ok (S := partS 32 bs) (h2.none Fr.refl.push.push) (Hash1_ok (h2.none Fr.refl.push.push.push) (by simp; omega))) (fun r h' hq => ?_)
    obtain ⟨hf, ⟨rfl, hl⟩, hp'⟩ := hq
    haveI := l32 hl
    haveI : HGet h' (h.push (AObj.cells [Value.pointer (some ⟨p, 0, none⟩)] 0)).n _ := hf.keep (b := (h.push (AObj.cells [Value.pointer (some ⟨p, 0, none⟩)] 0)).n) HGet.new (by simp) (by simp; omega)
    refine stp ?_
    refine ⟨Fr.set (hf0.trans' hf) fun hlt => by simp at hlt; omega, ⟨rfl, hl⟩, hp'.keep (S := fun i => i = (h.push (AObj.cells [Value.pointer (some ⟨p, 0, none⟩)] 0)).n) (Fr.refl.set fun _ => rfl) (by simp; omega) fun i hi hn => ?_⟩
    have := h2.own.lt hi
    simp at hn; omega
  · refine O.call' (readsH_bad (h2.none Fr.refl.push.push) he) (fun r h' hq => ?_)
    obtain ⟨rfl, hf⟩ := hq
    haveI : HGet h' (h.push (AObj.cells [Value.pointer (some ⟨p, 0, none⟩)] 0)).n _ := hf.keep (b := (h.push (AObj.cells [Value.pointer (some ⟨p, 0, none⟩)] 0)).n) HGet.new (by simp) id
    refine stp ?_
    refine rd_bad he (Fr.set (hf0.trans' (hf.mono fun _ _ h => h.elim)) fun hlt => by simp at hlt; omega) ⟨rfl, rfl⟩ (((hp.none Fr.refl.push.push).none hf).keep (S := fun i => i = (h.push (AObj.cells [Value.pointer (some ⟨p, 0, none⟩)] 0)).n) (Fr.refl.set fun _ => rfl) (by simp; omega) fun i hi hn => ?_)
    have := h2.own.lt hi
    simp at hn; omega
end Go.Proofs.YtagmnpeilgnbdaaGreat.A

namespace Go.Proofs.YtagmnpeilgnbdaaGreat.A
open Go Go.Vm
set_option maxRecDepth 10000
set_option linter.unusedVariables false
abbrev z4 : List Value := [.int .u8 0, .int .u8 0, .int .u8 0, .int .u8 0]
abbrev zb4 : List UInt8 := [0, 0, 0, 0]
theorem four {l : List UInt8} (h : l.length = 4) : ∃ a b c d, l = [a, b, c, d] := by
  match l, h with
  | [a, b, c, d], _ => exact ⟨a, b, c, d, rfl⟩
abbrev k4 (a b c d : UInt8) : List Value := [.int .u8 a.toNat, .int .u8 b.toNat, .int .u8 c.toNat, .int .u8 d.toNat]
theorem bcells4 (a b c d : UInt8) : bcells [a, b, c, d] = [.int .u8 a.toNat, .int .u8 b.toNat, .int .u8 c.toNat, .int .u8 d.toNat] := rfl
theorem Key11_ok {h : Heap} {v : Value} {l : List UInt8} (hr : Rd h 1 v (bcells l) l.length) (hl : l.length = 4) :
    Runs Tryz.prog T0 (.fn fn_zgdQ) [v] h (fun r h' => r = .agg ⟨bcells l⟩ ∧ Fr (fun _ => False) h h') (fun _ _ => False) := by
  obtain ⟨a, cap, rfl, hlen, hc⟩ := hr
  obtain ⟨b, o, sp, rfl, hb, hcc⟩ := hc (by omega)
  rw [Nat.mul_one, hl] at hcc
  obtain ⟨a1, a2, a3, a4, rfl⟩ := four hl
  rw [bcells4] at hcc ⊢
  refine zgdQ_runs ?_
  refine stp ?_
  refine O.how (XOp.mkArrayAt (by omega)) ?_
  haveI : Cells (h.push (.cells z4 0)) b o 4 [.int .u8 a1.toNat, .int .u8 a2.toNat, .int .u8 a3.toNat, .int .u8 a4.toNat] := ⟨by rw [cellsAt_keep (S := fun _ => False) Fr.refl.push hb id]; exact hcc⟩
  refine stp ?_
  exact ⟨rfl, Fr.refl.push⟩
theorem takeK_ok {h : Heap} {p : Nat} {sv : Value} {bs : List UInt8} {pl : Nat} {fa a0 : Int} (hr : PR h p sv bs pl 0 fa) :
    Runs Tryz.prog T0 (.fn fn_zceQ) [.pointer (some ⟨p, 0, none⟩), .int .i64 4, .int .i64 a0, .func (.func fn_zgdQ) ⟨[]⟩ ⟨[]⟩] h
      (fun r h' => pl + 4 ≤ bs.length ∧ r = .agg ⟨bcells ((bs.drop pl).take 4)⟩ ∧ PR h' p sv bs (pl + 4) 0 fa ∧ Fr (fun i => i = p) h h')
      (fun c h' => bs.length < pl + 4 ∧ c = thrown 6 a0 ∧ PR h' p sv bs pl 0 fa ∧ Fr (fun i => i = p) h h') := by
  have hr' := hr.none (Fr.refl.push (o := .cells z4 0))
  have hr0 := hr
  obtain ⟨hle, hsm, hp, hget, hown, hnot⟩ := hr
  obtain ⟨a, cap, rfl, hlen, _⟩ := hown.rd
  haveI : HGet h p _ := ⟨hget⟩
  haveI : BLt p h := ⟨hp⟩
  refine zceQ_runs ?_
  refine stp ?_
  refine D.callX must_ok (fun v h' hv => rfl) (fun v h' hv => ?_) (fun c h' hx => ⟨rfl, ?_⟩)
  · obtain ⟨hle2, rfl⟩ := hv
    have hle2 := of_decide_eq_true hle2
    refine stp ?_
    have hp2 := hr'.turn (pl' := pl + 4) (e' := 0) (fa' := fa) (by omega)
    refine D.slice pl (pl + 4) (by omega) hp2.own (by omega) (by omega) (by omega) (by omega) (fun v' hbl hrd => ?_)
    rw [Nat.mul_one, Nat.mul_one, bcells_drop, bcells_take, Nat.add_sub_cancel_left] at hrd
    have hl : ((bs.drop pl).take 4).length = 4 := by rw [List.length_take, List.length_drop]; omega
    have hf0 : Fr (fun i => i = p) h ((h.push (.cells z4 0)).set p (.cells [.slice a bs.length cap, .int .i64 ↑(pl + 4), .int .i64 0, .int .i64 fa, .bool true] 0)) := Fr.refl.push.set fun _ => rfl
    generalize hL : (bs.drop pl).take 4 = L at hl hrd ⊢
    refine D.callX (Key11_ok (l := L) (by rw [hl]; exact hrd) hl) (fun _ _ _ => rfl) (fun r h2 hr => ?_) (fun _ _ hx => hx.elim)
    obtain ⟨rfl, hf⟩ := hr
    obtain ⟨a1, a2, a3, a4, rfl⟩ := four hl
    rw [bcells4]
    haveI : HGet h2 h.n _ := hf.keep (b := h.n) (HGet.set (k := ⟨by omega⟩) (g := HGet.new)) (by simp) id
    refine stp ?_
    refine ⟨by omega, rfl, (hp2.none hf).keep (S := fun i => i = h.n) (Fr.refl.set fun _ => rfl) (by omega) fun i hi hn => ?_, ?_⟩
    · have := hown.lt hi
      omega
    · refine Fr.set (Fr.trans (S := fun i => i = p) (S' := fun _ => False) hf0 hf fun _ _ h => h.elim) fun hlt => ?_
      omega
  · obtain ⟨hlt, rfl, rfl⟩ := hx
    have hlt := of_decide_eq_false hlt
    refine stp ?_
    exact ⟨by omega, rfl, hr', Fr.refl.push⟩
theorem Key1_ok {h : Heap} {p a : Nat} {sv : Value} {bs : List UInt8} {pl : Nat} (hr : PR h p sv bs pl 0 0) [ha : HGet h a (.cells [.pointer (some ⟨p, 0, none⟩)] 0)] (ha' : a < h.n) :
    Runs Tryz.prog T0 (.fn fn_zfdQ) [.int .i64 pl, .pointer (some ⟨a, 0, none⟩)] h
      (fun r h' => ∃ l pl', partS 4 bs pl = .ok (l, pl') ∧ (r = .agg ⟨bcells l⟩ ∧ l.length = 4) ∧ PR h' p sv bs pl' 0 0 ∧ Fr (fun i => i = p) h h')
      (fun c h' => ∃ e pl', partS 4 bs pl = .error e ∧ e ≠ 0 ∧ c = thrown e pl ∧ PR h' p sv bs pl' 0 0 ∧ Fr (fun i => i = p) h h') := by
  have hp := hr.lt
  have hr' := hr.none (Fr.refl.push (o := .cells z4 0))
  haveI : BLt a h := ⟨ha'⟩
  refine zfdQ_runs ?_
  refine stp ?_
  refine O.callX (takeK_ok hr') (fun r h1 hr1 => ?_) (fun c h1 hx => ?_)
  · obtain ⟨hle, rfl, hp1, hf1⟩ := hr1
    have hl : ((bs.drop pl).take 4).length = 4 := by rw [List.length_take, List.length_drop]; omega
    generalize hL : (bs.drop pl).take 4 = L at hl ⊢
    obtain ⟨a1, a2, a3, a4, rfl⟩ := four hl
    rw [bcells4]
    haveI : HGet h1 h.n _ := hf1.keep (b := h.n) HGet.new (by simp) (by omega)
    refine stp ?_
    refine ⟨[a1, a2, a3, a4], pl + 4, by unfold partS; rw [if_neg (by omega), hL], ⟨rfl, rfl⟩, hp1.keep (S := fun i => i = h.n) (Fr.refl.set fun _ => rfl) (by omega) fun i hi hn => ?_, ?_⟩
    · have := hr.own.lt hi
      omega
    · exact Fr.set (Fr.trans (S := fun i => i = p) Fr.refl.push hf1 fun _ _ h => h) fun hlt => by omega
  · obtain ⟨hlt, rfl, hp1, hf1⟩ := hx
    refine stp ?_
    exact ⟨6, pl, by unfold partS; rw [if_pos (by omega)], by omega, rfl, hp1, Fr.trans (S := fun i => i = p) Fr.refl.push hf1 fun _ _ h => h⟩
theorem readsK_ok {h : Heap} {p : Nat} {sv : Value} {bs : List UInt8} {pl : Nat} {fid : FuncId} {first captured : List Value} {S : Nat → Except Int (List UInt8 × Nat)} (hr : PR h p sv bs pl 0 0)
    (hm : Runs Tryz.prog T0 (.fn fid) (first ++ [.int .i64 pl] ++ captured) (h.push (.cells z4 0)) (fun r h' => ∃ l pl', S pl = .ok (l, pl') ∧ (r = .agg ⟨bcells l⟩ ∧ l.length = 4) ∧ PR h' p sv bs pl' 0 0 ∧ Fr (fun i => i = p) (h.push (.cells z4 0)) h')
      (fun c h' => ∃ e pl', S pl = .error e ∧ e ≠ 0 ∧ c = thrown e pl ∧ PR h' p sv bs pl' 0 0 ∧ Fr (fun i => i = p) (h.push (.cells z4 0)) h')) :
    Runs Tryz.prog T0 (.fn fn_zydQ) [.pointer (some ⟨p, 0, none⟩), .func (.func fid) ⟨first⟩ ⟨captured⟩] h (Reads h p sv bs (rd S zb4 ⟨pl, 0, 0⟩) fun l r h' => r = .agg ⟨bcells l⟩ ∧ l.length = 4) (fun _ _ => False) := by
  haveI : HGet h p _ := ⟨hr.get⟩
  haveI : BLt p h := ⟨hr.lt⟩
  have hp := hr.lt
  refine zydQ_runs ?_
  refine stp ?_
  refine O.callX hm (fun r h1 hr1 => ?_) (fun c h1 hx => ?_)
  · obtain ⟨l, pl', hS, ⟨rfl, hl⟩, hp1, hf⟩ := hr1
    obtain ⟨a1, a2, a3, a4, rfl⟩ := four hl
    rw [bcells4]
    haveI : HGet h1 h.n _ := hf.keep (b := h.n) HGet.new (by simp) (by omega)
    refine stp ?_
    refine caught_none.mono (fun u' h' hu => ?_) (fun _ _ _ hx => hx.elim)
    obtain ⟨rfl, rfl⟩ := hu
    refine L.nil (rd_ok hS ?_ ⟨rfl, rfl⟩ (hp1.keep (S := fun i => i = h.n) (Fr.refl.set fun _ => rfl) (by omega) fun i hi hn => ?_))
    · exact Fr.set (Fr.trans (S := fun i => i = p) Fr.refl.push hf fun _ _ h => h) fun hlt => by omega
    · have := hr.own.lt hi
      omega
  · obtain ⟨e, pl', hS, he, rfl, hp1, hf⟩ := hx
    refine stp ?_
    refine (caught_ok hp1).mono (fun u' h' hu => ?_) (fun _ _ _ hx => hx.elim)
    obtain ⟨hs, hp2, hf2⟩ := hu
    rw [hs]
    haveI : HGet h' h.n _ := (hf.trans' hf2).keep (b := h.n) HGet.new (by simp) (by omega)
    exact L.nil (rd_err hS he (Fr.trans (S := fun i => i = p) Fr.refl.push (hf.trans' hf2) fun _ _ h => h) ⟨rfl, rfl⟩ hp2)
theorem readsK_bad {h : Heap} {p : Nat} {sv : Value} {bs : List UInt8} {pl : Nat} {e fa : Int} {f : Value} (hr : PR h p sv bs pl e fa) (he : e ≠ 0) :
    Runs Tryz.prog T0 (.fn fn_zydQ) [.pointer (some ⟨p, 0, none⟩), f] h (fun r h' => r = .agg ⟨z4⟩ ∧ Fr (fun _ => False) h h') (fun _ _ => False) := by
  haveI : HGet h p _ := ⟨hr.get⟩
  haveI : BLt p h := ⟨hr.lt⟩
  refine zydQ_runs ?_
  refine stp ?_
  refine C.ifB (fun h1 => ?_) (fun h1 => ?_)
  · refine stp ?_
    exact ⟨rfl, Fr.refl.push⟩
  · exfalso; simp at h1; exact he h1
theorem Key_run {h : Heap} {p : Nat} {sv : Value} {bs : List UInt8} {st : RSt} (hp : PRs h p sv bs st) :
    Runs Tryz.prog T0 (.fn fn_zedQ) [.pointer (some ⟨p, 0, none⟩)] h (Reads h p sv bs (rd (partS 4 bs) zb4 st) fun l r _ => r = .agg ⟨bcells l⟩ ∧ l.length = 4) (fun _ _ => False) := by
  obtain ⟨st1, e, fa⟩ := st
  obtain ⟨pl, h1, h2⟩ := hp.ex
  have hlt := h2.lt
  refine zedQ_runs ?_
  refine stp ?_
  have hf0 : Fr (fun i => i = p) h ((h.push (AObj.cells [Value.pointer (some ⟨p, 0, none⟩)] 0)).push (AObj.cells z4 0)) := Fr.refl.push.push
  by_cases he : e = 0
  · subst he
    obtain ⟨rfl, h3⟩ := h1 rfl
    have h3 : fa = 0 := h3
    subst h3
    refine O.call' (readsK_ok (S := partS 4 bs) (h2.none Fr.refl.push.push) (Key1_ok (h2.none Fr.refl.push.push.push) (by simp; omega))) (fun r h' hq => ?_)
    obtain ⟨hf, ⟨rfl, hl⟩, hp'⟩ := hq
    generalize (rd (partS 4 bs) zb4 ⟨pl, 0, 0⟩) = q at *
    obtain ⟨L, st2⟩ := q
    simp only at hl hp' ⊢
    obtain ⟨a1, a2, a3, a4, rfl⟩ := four hl
    rw [bcells4]
    haveI : HGet h' (h.push (AObj.cells [Value.pointer (some ⟨p, 0, none⟩)] 0)).n _ := hf.keep (b := (h.push (AObj.cells [Value.pointer (some ⟨p, 0, none⟩)] 0)).n) HGet.new (by simp) (by simp; omega)
    refine stp ?_
    refine ⟨Fr.set (hf0.trans' hf) fun hlt => by simp at hlt; omega, ⟨rfl, rfl⟩, hp'.keep (S := fun i => i = (h.push (AObj.cells [Value.pointer (some ⟨p, 0, none⟩)] 0)).n) (Fr.refl.set fun _ => rfl) (by simp; omega) fun i hi hn => ?_⟩
    have := h2.own.lt hi
    simp at hn; omega
  · refine O.call' (readsK_bad (h2.none Fr.refl.push.push) he) (fun r h' hq => ?_)
    obtain ⟨rfl, hf⟩ := hq
    haveI : HGet h' (h.push (AObj.cells [Value.pointer (some ⟨p, 0, none⟩)] 0)).n _ := hf.keep (b := (h.push (AObj.cells [Value.pointer (some ⟨p, 0, none⟩)] 0)).n) HGet.new (by simp) id
    refine stp ?_
    refine rd_bad he (Fr.set (hf0.trans' (hf.mono fun _ _ h => h.elim)) fun hlt => by simp at hlt; omega) ⟨rfl, rfl⟩ (((hp.none Fr.refl.push.push).none hf).keep (S := fun i => i = (h.push (AObj.cells [Value.pointer (some ⟨p, 0, none⟩)] 0)).n) (Fr.refl.set fun _ => rfl) (by simp; omega) fun i hi hn => ?_)
    have := h2.own.lt hi
    simp at hn; omega
end Go.Proofs.YtagmnpeilgnbdaaGreat.A

namespace Go.Proofs.YtagmnpeilgnbdaaGreat.A
open Go Go.Vm
set_option maxRecDepth 10000
set_option linter.unusedVariables false
def wordS (bs : List UInt8) (pl : Nat) : Except Int (Nat × Nat) := if bs.length < pl + 8 then .error 6 else .ok (bigN ((bs.drop pl).take 8), pl + 8)
theorem Word1_ok {h : Heap} {p a : Nat} {sv : Value} {bs : List UInt8} {pl : Nat} (hr : PR h p sv bs pl 0 0) [ha : HGet h a (.cells [.pointer (some ⟨p, 0, none⟩)] 0)] :
    Runs Tryz.prog T0 (.fn fn_zkdQ) [.int .i64 pl, .pointer (some ⟨a, 0, none⟩)] h
      (fun r h' => ∃ n pl', wordS bs pl = .ok (n, pl') ∧ r = .int .u64 (n : Nat) ∧ PR h' p sv bs pl' 0 0 ∧ Fr (fun i => i = p) h h')
      (fun c h' => ∃ e pl', wordS bs pl = .error e ∧ e ≠ 0 ∧ c = thrown e pl ∧ PR h' p sv bs pl' 0 0 ∧ Fr (fun i => i = p) h h') := by
  have hsm := hr.small
  refine zkdQ_runs ?_
  refine stp ?_
  refine O.callX (takeU64_ok (n := 8) (R := fun r h2 => r = .int .u64 (bigN ((bs.drop pl).take 8)) ∧ pl + 8 ≤ bs.length ∧ PR h2 p sv bs (pl + 8) 0 0 ∧ Fr (fun i => i = p) h h2) hr (by omega) (fun h1 v hf hp1 hle hbl hrd => ?_)) (fun r h1 hr1 => ?_) (fun c h1 hx => ?_)
  · have hl : ((bs.drop pl).take 8).length = 8 := by rw [List.length_take, List.length_drop]; omega
    refine (big_ok (l := (bs.drop pl).take 8) (by rw [hl]; exact hrd) (by omega)).imp fun r h2 hr2 => ?_
    obtain ⟨rfl, rfl⟩ := hr2
    exact ⟨rfl, hle, hp1, hf⟩
  · obtain ⟨rfl, hle, hp1, hf⟩ := hr1
    refine stp ?_
    exact ⟨_, pl + 8, by unfold wordS; rw [if_neg (by omega)], rfl, hp1, hf⟩
  · obtain ⟨hlt, rfl, rfl⟩ := hx
    refine stp ?_
    exact ⟨6, pl, by unfold wordS; rw [if_pos (by omega)], by omega, rfl, hr, Fr.refl⟩
theorem readsW_ok {h : Heap} {p : Nat} {sv : Value} {bs : List UInt8} {pl : Nat} {fid : FuncId} {first captured : List Value} {S : Nat → Except Int (Nat × Nat)} (hr : PR h p sv bs pl 0 0)
    (hm : Runs Tryz.prog T0 (.fn fid) (first ++ [.int .i64 pl] ++ captured) h (fun r h' => ∃ n pl', S pl = .ok (n, pl') ∧ r = .int .u64 (n : Nat) ∧ PR h' p sv bs pl' 0 0 ∧ Fr (fun i => i = p) h h')
      (fun c h' => ∃ e pl', S pl = .error e ∧ e ≠ 0 ∧ c = thrown e pl ∧ PR h' p sv bs pl' 0 0 ∧ Fr (fun i => i = p) h h')) :
    Runs Tryz.prog T0 (.fn fn_zaeQ) [.pointer (some ⟨p, 0, none⟩), .func (.func fid) ⟨first⟩ ⟨captured⟩] h (Reads h p sv bs (rd S 0 ⟨pl, 0, 0⟩) fun n r _ => r = .int .u64 (n : Nat)) (fun _ _ => False) := by
  haveI : HGet h p _ := ⟨hr.get⟩
  haveI : BLt p h := ⟨hr.lt⟩
  refine zaeQ_runs ?_
  refine stp ?_
  refine O.callX hm (fun r h1 hr1 => ?_) (fun c h1 hx => ?_)
  · obtain ⟨n, pl', hS, rfl, hp1, hf⟩ := hr1
    refine stp ?_
    refine caught_none.mono (fun u' h' hu => ?_) (fun _ _ _ hx => hx.elim)
    obtain ⟨rfl, rfl⟩ := hu
    exact L.nil (rd_ok hS hf rfl hp1)
  · obtain ⟨e, pl', hS, he, rfl, hp1, hf⟩ := hx
    refine stp ?_
    refine (caught_ok hp1).mono (fun u' h' hu => ?_) (fun _ _ _ hx => hx.elim)
    obtain ⟨hs, hp2, hf2⟩ := hu
    rw [hs]
    exact L.nil (rd_err hS he (hf.trans' hf2) rfl hp2)
theorem readsW_bad {h : Heap} {p : Nat} {sv : Value} {bs : List UInt8} {pl : Nat} {e fa : Int} {f : Value} (hr : PR h p sv bs pl e fa) (he : e ≠ 0) :
    Runs Tryz.prog T0 (.fn fn_zaeQ) [.pointer (some ⟨p, 0, none⟩), f] h (fun r h' => r = .int .u64 0 ∧ h' = h) (fun _ _ => False) := by
  haveI : HGet h p _ := ⟨hr.get⟩
  haveI : BLt p h := ⟨hr.lt⟩
  refine zaeQ_runs ?_
  refine stp ?_
  refine C.ifB (fun h1 => ?_) (fun h1 => ?_)
  · refine stp ?_
    exact ⟨rfl, rfl⟩
  · exfalso; simp at h1; exact he h1
theorem Word_run {h : Heap} {p : Nat} {sv : Value} {bs : List UInt8} {st : RSt} (hp : PRs h p sv bs st) :
    Runs Tryz.prog T0 (.fn fn_zjdQ) [.pointer (some ⟨p, 0, none⟩)] h (Reads h p sv bs (rd (wordS bs) 0 st) fun n r _ => r = .int .u64 (n : Nat)) (fun _ _ => False) := by
  obtain ⟨st1, e, fa⟩ := st
  obtain ⟨pl, h1, h2⟩ := hp.ex
  have hlt := h2.lt
  refine zjdQ_runs ?_
  refine stp ?_
  have hf0 : Fr (fun i => i = p) h (h.push (AObj.cells [Value.pointer (some ⟨p, 0, none⟩)] 0)) := Fr.refl.push
  by_cases he : e = 0
  · subst he
    obtain ⟨rfl, h3⟩ := h1 rfl
    have h3 : fa = 0 := h3
    subst h3
    refine O.call' (readsW_ok (S := wordS bs) (h2.none Fr.refl.push) (Word1_ok (h2.none Fr.refl.push))) (fun r h' hq => ?_)
    refine stp ?_
    exact ⟨hf0.trans' hq.1, hq.2.1, hq.2.2⟩
  · refine O.call' (readsW_bad (h2.none Fr.refl.push) he) (fun r h' hq => ?_)
    obtain ⟨rfl, rfl⟩ := hq
    refine stp ?_
    exact rd_bad he hf0 rfl (hp.none Fr.refl.push)
def restS (bs : List UInt8) (st : RSt) : Int := if st.e = 0 then (bs.length : Int) - st.pl else 0
theorem Rest_run {h : Heap} {p : Nat} {sv : Value} {bs : List UInt8} {st : RSt} (hp : PRs h p sv bs st) :
    Runs Tryz.prog T0 (.fn fn_zidQ) [.pointer (some ⟨p, 0, none⟩)] h (fun r h' => r = .int .i64 (restS bs st) ∧ h' = h) (fun _ _ => False) := by
  obtain ⟨pl, h1, hr⟩ := hp.ex
  have hsm := hr.small
  have hle := hr.at_le
  obtain ⟨a, cap, rfl, hlen, _⟩ := hr.own.rd
  haveI : HGet h p _ := ⟨hr.get⟩
  haveI : BLt p h := ⟨hr.lt⟩
  refine zidQ_runs ?_
  refine stp ?_
  refine C.ifN (fun he => ?_) (fun he => ?_)
  · refine stp ?_
    unfold restS
    rw [if_neg he]
    exact ⟨rfl, rfl⟩
  · refine stp ?_
    unfold restS
    rw [if_pos he, ← (h1 he).1]
    exact ⟨rfl, rfl⟩
end Go.Proofs.YtagmnpeilgnbdaaGreat.A

namespace Go.Proofs.YtagmnpeilgnbdaaGreat.A
open Go Go.Vm
set_option maxRecDepth 10000
set_option linter.unusedVariables false
end Go.Proofs.YtagmnpeilgnbdaaGreat.A

namespace Go.Proofs.YtagmnpeilgnbdaaGreat.A
open Go Go.Vm
set_option maxRecDepth 10000
set_option linter.unusedVariables false
theorem bigN_pos {d : List UInt8} (h : (d.getD 0 0).toNat ≠ 0) : bigN d ≠ 0 := by
  have key : ∀ (l : List UInt8) (n : Nat), n ≠ 0 → l.foldl (fun n b => n * 256 + b.toNat) n ≠ 0 := by
    intro l
    induction l with
    | nil => intro n h; exact h
    | cons b l ih =>
      intro n h
      show l.foldl (fun n b => n * 256 + b.toNat) (n * 256 + b.toNat) ≠ 0
      exact ih _ (by omega)
  cases d with
  | nil => simp at h
  | cons a l =>
    show (a :: l).foldl (fun n b => n * 256 + b.toNat) 0 ≠ 0
    exact key l _ (by simpa using h)
theorem beN_bigN : ∀ (k : Nat) (d : List UInt8), d.length = k → (0 < d.length → (d.getD 0 0).toNat ≠ 0) → beN (bigN d) = d := by
  intro k
  induction k with
  | zero =>
    intro d hd _
    have : d = [] := List.length_eq_zero_iff.1 hd
    subst this
    exact beN_zero
  | succ k ih =>
    intro d hd h
    obtain ⟨l, b, rfl⟩ : ∃ l b, d = l ++ [b] := ⟨d.dropLast, d.getLast (by intro h; rw [h] at hd; simp at hd), (List.dropLast_concat_getLast _).symm⟩
    have hb := b.toNat_lt
    have hlen : l.length = k := by simpa using hd
    have hl : 0 < l.length → (l.getD 0 0).toNat ≠ 0 := fun hp => by
      cases l with
      | nil => simp at hp
      | cons a l => simpa using h (by simp)
    have h0 := bigN_pos (h (by simp))
    rw [bigN_snoc] at h0 ⊢
    rw [beN_pos h0]
    have e1 : (bigN l * 256 + b.toNat) / 256 = bigN l := by omega
    have e2 : (bigN l * 256 + b.toNat) % 256 = b.toNat := by omega
    rw [e1, e2, ih l hlen hl]
    congr 2
    exact UInt8.toNat_inj.1 (u8nat (by omega))
theorem drop_split {l : List UInt8} {pl k : Nat} (h : pl + k ≤ l.length) : l.drop pl = (l.drop pl).take k ++ l.drop (pl + k) := by
  rw [← List.drop_drop, List.take_append_drop]
theorem drop_one {l : List UInt8} {pl : Nat} (h : pl < l.length) : l.drop pl = l.getD pl 0 :: l.drop (pl + 1) := by
  rw [List.drop_eq_getElem_cons h]
  simp [List.getD_eq_getElem?_getD, List.getElem?_eq_getElem h]
theorem numS_form {bs : List UInt8} {pl n pl' : Nat} (h : numS bs pl = .ok (n, pl')) : bs.drop pl = numF n ++ bs.drop pl' := by
  have hb := (bs.getD pl 0).toNat_lt
  unfold numS at h
  split at h
  · cases h
  · split at h
    · cases h
    · split at h
      · cases h
      · split at h
        · cases h
        · rename_i h1 h2 h3 h4
          cases h
          have hd : ((bs.drop (pl + 1)).take (bs.getD pl 0).toNat).length = (bs.getD pl 0).toNat := by rw [List.length_take, List.length_drop]; omega
          rw [drop_one (by omega)]
          unfold numF
          rw [beN_bigN _ _ hd fun hp h0 => h4 (.inl ⟨by omega, h0⟩), hd]
          rw [show UInt8.ofNat (bs.getD pl 0).toNat = bs.getD pl 0 from UInt8.toNat_inj.1 (u8nat (by omega))]
          rw [List.cons_append, ← drop_split (by omega)]
theorem partS_form {bs l : List UInt8} {k pl pl' : Nat} (h : partS k bs pl = .ok (l, pl')) : l.length = k ∧ bs.drop pl = l ++ bs.drop pl' ∧ pl' ≤ bs.length := by
  unfold partS at h
  split at h
  · cases h
  · cases h
    exact ⟨by rw [List.length_take, List.length_drop]; omega, drop_split (by omega), by omega⟩
def Ends (bs : List UInt8) {α : Type} (S : Nat → Except Int (α × Nat)) : Prop := (∀ pl a pl', S pl = .ok (a, pl') → pl' ≤ bs.length) ∧ ∀ pl e, S pl = .error e → e = 4 ∨ e = 5 ∨ e = 6
theorem numS_ends {bs : List UInt8} : Ends bs (numS bs) := ⟨fun pl a pl' h => (numS_ok h).2.1, fun pl e h => .inr (numS_err h)⟩
theorem partS_ends {bs : List UInt8} {k : Nat} : Ends bs (partS k bs) := ⟨fun pl a pl' h => (partS_form h).2.2, fun pl e h => by
  unfold partS at h
  split at h
  · cases h; exact .inr (.inr rfl)
  · cases h⟩
structure RSt.ok (bs : List UInt8) (st : RSt) : Prop where
  pl : st.e = 0 → st.pl ≤ bs.length ∧ st.fa = 0
  fa : 0 ≤ st.fa ∧ st.fa ≤ bs.length
theorem rd_st {α : Type} {bs : List UInt8} {S : Nat → Except Int (α × Nat)} {zero : α} {st : RSt} (hE : Ends bs S) (hs : st.ok bs) : (rd S zero st).2.ok bs := by
  unfold rd
  split
  · rename_i he
    cases hS : S st.pl with
    | ok x => exact ⟨fun _ => ⟨hE.1 _ _ _ hS, rfl⟩, by simp⟩
    | error e => exact ⟨fun h0 => by have := hE.2 _ _ hS; have h0 : e = 0 := h0; omega, by have := (hs.pl he).1; simp only; omega⟩
  · exact hs
theorem rd_good {α : Type} {bs : List UInt8} {S : Nat → Except Int (α × Nat)} {zero : α} {st : RSt} (hE : Ends bs S) (h : (rd S zero st).2.e = 0) : st.e = 0 ∧ S st.pl = .ok ((rd S zero st).1, (rd S zero st).2.pl) := by
  unfold rd at h ⊢
  split at h
  · rename_i he
    rw [if_pos he]
    cases hS : S st.pl with
    | ok x => exact ⟨he, rfl⟩
    | error e =>
      rw [hS] at h
      have := hE.2 _ _ hS
      have h : e = 0 := h
      omega
  · rename_i he
    exact absurd h he
end Go.Proofs.YtagmnpeilgnbdaaGreat.A

namespace Go.Proofs.YtagmnpeilgnbdaaGreat.A
open Go Go.Vm
set_option maxRecDepth 10000
set_option linter.unusedVariables false
theorem st0_ok (bs : List UInt8) : RSt.ok bs ⟨0, 0, 0⟩ := ⟨fun _ => ⟨by simp, rfl⟩, by simp⟩
end Go.Proofs.YtagmnpeilgnbdaaGreat.A

namespace Go.Proofs.YtagmnpeilgnbdaaGreat.A
open Go Go.Vm
set_option maxRecDepth 10000
set_option linter.unusedVariables false
theorem byteAt_nat (n k : Nat) : (byteAt n k).toNat = n / 2 ^ (8 * k) % 256 := u8nat (Nat.mod_lt _ (by omega))
theorem eight {d : List UInt8} (h : d.length = 8) : ∃ a b c e f g i j, d = [a, b, c, e, f, g, i, j] := by
  match d, h with
  | [a, b, c, e, f, g, i, j], _ => exact ⟨a, b, c, e, f, g, i, j, rfl⟩
theorem bigN8 (a b c e f g i j : UInt8) : bigN [a, b, c, e, f, g, i, j] = a.toNat * 72057594037927936 + b.toNat * 281474976710656 + c.toNat * 1099511627776 + e.toNat * 4294967296 + f.toNat * 16777216 + g.toNat * 65536 + i.toNat * 256 + j.toNat := by
  show ((((((((0 * 256 + a.toNat) * 256 + b.toNat) * 256 + c.toNat) * 256 + e.toNat) * 256 + f.toNat) * 256 + g.toNat) * 256 + i.toNat) * 256 + j.toNat) = _
  omega
theorem word8_bigN {d : List UInt8} (h : d.length = 8) : word8 (bigN d) = d := by
  obtain ⟨a, b, c, e, f, g, i, j, rfl⟩ := eight h
  have ha := a.toNat_lt; have hb := b.toNat_lt; have hc := c.toNat_lt; have he := e.toNat_lt
  have hf := f.toNat_lt; have hg := g.toNat_lt; have hi := i.toNat_lt; have hj := j.toNat_lt
  have e7 : byteAt (bigN [a, b, c, e, f, g, i, j]) 7 = a := UInt8.toNat_inj.1 (by rw [byteAt_nat, bigN8, show 2 ^ (8 * 7) = 72057594037927936 from rfl]; omega)
  have e6 : byteAt (bigN [a, b, c, e, f, g, i, j]) 6 = b := UInt8.toNat_inj.1 (by rw [byteAt_nat, bigN8, show 2 ^ (8 * 6) = 281474976710656 from rfl]; omega)
  have e5 : byteAt (bigN [a, b, c, e, f, g, i, j]) 5 = c := UInt8.toNat_inj.1 (by rw [byteAt_nat, bigN8, show 2 ^ (8 * 5) = 1099511627776 from rfl]; omega)
  have e4 : byteAt (bigN [a, b, c, e, f, g, i, j]) 4 = e := UInt8.toNat_inj.1 (by rw [byteAt_nat, bigN8, show 2 ^ (8 * 4) = 4294967296 from rfl]; omega)
  have e3 : byteAt (bigN [a, b, c, e, f, g, i, j]) 3 = f := UInt8.toNat_inj.1 (by rw [byteAt_nat, bigN8, show 2 ^ (8 * 3) = 16777216 from rfl]; omega)
  have e2 : byteAt (bigN [a, b, c, e, f, g, i, j]) 2 = g := UInt8.toNat_inj.1 (by rw [byteAt_nat, bigN8, show 2 ^ (8 * 2) = 65536 from rfl]; omega)
  have e1 : byteAt (bigN [a, b, c, e, f, g, i, j]) 1 = i := UInt8.toNat_inj.1 (by rw [byteAt_nat, bigN8, show 2 ^ (8 * 1) = 256 from rfl]; omega)
  have e0 : byteAt (bigN [a, b, c, e, f, g, i, j]) 0 = j := UInt8.toNat_inj.1 (by rw [byteAt_nat, bigN8, show 2 ^ (8 * 0) = 1 from rfl]; omega)
  unfold word8
  rw [e7, e6, e5, e4, e3, e2, e1, e0]
theorem wordS_form {bs : List UInt8} {n pl pl' : Nat} (h : wordS bs pl = .ok (n, pl')) : bs.drop pl = word8 n ++ bs.drop pl' ∧ n < 18446744073709551616 ∧ pl' ≤ bs.length := by
  unfold wordS at h
  split at h
  · cases h
  · cases h
    have hl : ((bs.drop pl).take 8).length = 8 := by rw [List.length_take, List.length_drop]; omega
    rw [word8_bigN hl]
    have := bigN_lt ((bs.drop pl).take 8)
    rw [hl] at this
    exact ⟨drop_split (by omega), this, by omega⟩
theorem wordS_ends {bs : List UInt8} : Ends bs (wordS bs) := ⟨fun pl a pl' h => (wordS_form h).2.2, fun pl e h => by
  unfold wordS at h
  split at h
  · cases h; exact .inr (.inr rfl)
  · cases h⟩
end Go.Proofs.YtagmnpeilgnbdaaGreat.A

namespace Go.Proofs.YtagmnpeilgnbdaaGreat.A
open Go Go.Vm
set_option maxRecDepth 10000
set_option linter.unusedVariables false
theorem at_lt {L : List Sg} (hs : SrtG L) {i j : Nat} (hij : i < j) (hj : j < L.length) : ltG (at' L i) (at' L j) = true := by
  rw [at_eq (by omega), at_eq hj]
  exact List.pairwise_iff_getElem.1 hs i j (by omega) hj hij
end Go.Proofs.YtagmnpeilgnbdaaGreat.A

namespace Go.Proofs.YtagmnpeilgnbdaaGreat.A
open Go Go.Vm
set_option maxRecDepth 10000
set_option linter.unusedVariables false
def sgOf (k hs : List UInt8) (n : Nat) : Sg := if hh : hs.length = 32 then ⟨k.getD 0 0, k.getD 1 0, k.getD 2 0, k.getD 3 0, hs, n, hh⟩ else default
theorem sgOf_key {k hs : List UInt8} {n : Nat} (h1 : k.length = 4) (h2 : hs.length = 32) : (sgOf k hs n).key = k := by
  obtain ⟨a, b, c, d, rfl⟩ := four h1
  unfold sgOf
  rw [dif_pos h2]
  rfl
theorem sgOf_hash {k hs : List UInt8} {n : Nat} (h2 : hs.length = 32) : (sgOf k hs n).hash = hs := by
  unfold sgOf
  rw [dif_pos h2]
theorem sgOf_sg {k hs : List UInt8} {n : Nat} (h2 : hs.length = 32) : (sgOf k hs n).sg = n := by
  unfold sgOf
  rw [dif_pos h2]
theorem sgOf_pos {k hs : List UInt8} {n : Nat} : 0 ≤ (sgOf k hs n).sg := by
  unfold sgOf
  split
  · simp
  · exact Int.le_refl _
theorem sgOf_cells {a b c d : UInt8} {hs : List UInt8} {n : Nat} (h2 : hs.length = 32) : (sgOf [a, b, c, d] hs n).cells = bcells [a, b, c, d] ++ (bcells hs ++ [.int .u64 (n : Int)]) := by
  unfold Sg.cells
  rw [sgOf_key rfl h2, sgOf_hash h2, sgOf_sg h2]
def sgR (bs : List UInt8) (st : RSt) : Sg := sgOf (rd (partS 4 bs) zb4 st).1 (rd (partS 32 bs) zb32 (rd (partS 4 bs) zb4 st).2).1 (rd (wordS bs) 0 (rd (partS 32 bs) zb32 (rd (partS 4 bs) zb4 st).2).2).1
def stR (bs : List UInt8) (st : RSt) : RSt := (rd (wordS bs) 0 (rd (partS 32 bs) zb32 (rd (partS 4 bs) zb4 st).2).2).2
def goG (bs : List UInt8) : Nat → List Sg → RSt → Except (Int × Int) (List Sg)
  | 0, L, st => if endS bs st = (0, 0) then .ok L else .error (endS bs st)
  | m + 1, L, st =>
    if (stR bs st).e ≠ 0 then .error ((stR bs st).e, (stR bs st).fa)
    else if L ≠ [] ∧ ltG (at' L (L.length - 1)) (sgR bs st) = false then .error (9, (st.pl : Int))
    else goG bs m (L ++ [sgR bs st]) (stR bs st)
def decG (bs : List UInt8) : Except (Int × Int) (List Sg) :=
  if 4096 < (rd (numS bs) 0 ⟨0, 0, 0⟩).1 then .error (4, 0) else goG bs (rd (numS bs) 0 ⟨0, 0, 0⟩).1 [] (rd (numS bs) 0 ⟨0, 0, 0⟩).2
theorem part_e {k : Nat} {bs : List UInt8} {z : List UInt8} {st : RSt} (h : st.e = 0 ∨ st.e = 6) : (rd (partS k bs) z st).2.e = 0 ∨ (rd (partS k bs) z st).2.e = 6 := by
  unfold rd partS
  split
  · split
    · exact .inl rfl
    · rename_i hS
      split at hS
      · cases hS; exact .inr rfl
      · cases hS
  · exact h
theorem word_e {bs : List UInt8} {z : Nat} {st : RSt} (h : st.e = 0 ∨ st.e = 6) : (rd (wordS bs) z st).2.e = 0 ∨ (rd (wordS bs) z st).2.e = 6 := by
  unfold rd wordS
  split
  · split
    · exact .inl rfl
    · rename_i hS
      split at hS
      · cases hS; exact .inr rfl
      · cases hS
  · exact h
theorem stR_e {bs : List UInt8} {st : RSt} (h : st.e = 0) : (stR bs st).e = 0 ∨ (stR bs st).e = 6 := word_e (part_e (part_e (.inl h)))
theorem stR_ok {bs : List UInt8} {st : RSt} (h : st.ok bs) : (stR bs st).ok bs := rd_st wordS_ends (rd_st partS_ends (rd_st partS_ends h))
theorem part_pl {k : Nat} {bs l : List UInt8} {pl pl' : Nat} (h : partS k bs pl = .ok (l, pl')) : pl' = pl + k ∧ pl + k ≤ bs.length := by
  unfold partS at h
  split at h
  · cases h
  · injection h with h
    have := (Prod.mk.inj h).2
    omega
theorem word_pl {bs : List UInt8} {n pl pl' : Nat} (h : wordS bs pl = .ok (n, pl')) : pl' = pl + 8 ∧ pl + 8 ≤ bs.length := by
  unfold wordS at h
  split at h
  · cases h
  · injection h with h
    have := (Prod.mk.inj h).2
    omega
theorem sgR_form {bs : List UInt8} {st : RSt} (h : (stR bs st).e = 0) : st.e = 0 ∧ bs.drop st.pl = encG1 (sgR bs st) ++ bs.drop (stR bs st).pl ∧ (stR bs st).pl = st.pl + 44 ∧ st.pl + 44 ≤ bs.length ∧ (sgR bs st).sg < 18446744073709551616 := by
  obtain ⟨h1, h2⟩ := rd_good wordS_ends h
  obtain ⟨h3, h4⟩ := rd_good partS_ends h1
  obtain ⟨h5, h6⟩ := rd_good partS_ends h3
  obtain ⟨f1, f2, f3⟩ := wordS_form h2
  obtain ⟨l2, g2, g3⟩ := partS_form h4
  obtain ⟨l3, g4, g5⟩ := partS_form h6
  refine ⟨h5, ?_, ?_, ?_, ?_⟩
  · rw [g4, g2, f1]
    unfold encG1 sgR stR
    rw [sgOf_key l3 l2, sgOf_hash l2, sgOf_sg l2]
    simp only [List.append_assoc, Int.toNat_natCast]
  · have e1 := word_pl h2
    have e2 := part_pl h4
    have e3 := part_pl h6
    unfold stR
    omega
  · have e1 := word_pl h2
    have e2 := part_pl h4
    have e3 := part_pl h6
    omega
  · unfold sgR
    rw [sgOf_sg l2]
    omega
theorem lastG {L : List Sg} {s : Sg} (hs : SrtG L) (h : ¬ (L ≠ [] ∧ ltG (at' L (L.length - 1)) s = false)) : SrtG (L ++ [s]) := by
  unfold SrtG at *
  refine List.pairwise_append.2 ⟨hs, List.pairwise_singleton _ _, fun a ha b hb => ?_⟩
  obtain rfl := List.mem_singleton.1 hb
  have hL : L ≠ [] := fun e => by rw [e] at ha; simp at ha
  have hlt : ltG (at' L (L.length - 1)) b = true := by
    cases h2 : ltG (at' L (L.length - 1)) b with
    | true => rfl
    | false => exact absurd ⟨hL, h2⟩ h
  have hp : 0 < L.length := List.length_pos_iff.2 hL
  obtain ⟨i, hi, e⟩ := List.mem_iff_getElem.1 ha
  rcases Nat.lt_or_ge i (L.length - 1) with q | q
  · have := List.pairwise_iff_getElem.1 hs i (L.length - 1) hi (by omega) q
    rw [e, ← at_eq (by omega)] at this
    cases hab : ltG a b with
    | true => rfl
    | false =>
      have k1 := ltG_ord.asy _ _ this
      have k2 := ltG_ord.tr b a (at' L (L.length - 1))
      have k3 := ltG_ord.asy _ _ hlt
      simp_all
  · obtain rfl : i = L.length - 1 := by omega
    rw [← e, ← at_eq hi]
    exact hlt
theorem goG_good {bs : List UInt8} : ∀ {m : Nat} {L M : List Sg} {st : RSt}, goG bs m L st = .ok M → SrtG L → (∀ s ∈ L, 0 ≤ s.sg ∧ s.sg < 18446744073709551616) → SrtG M ∧ (∀ s ∈ M, 0 ≤ s.sg ∧ s.sg < 18446744073709551616) ∧ M.length = L.length + m ∧ st.e = 0 ∧ ∃ N, M = L ++ N ∧ bs.drop st.pl = encGs N
  | 0, L, M, st, h, hs, hp => by
    unfold goG at h
    split at h
    · rename_i he
      injection h with h
      subst h
      have h2 : st.e = 0 ∧ ¬ st.pl < bs.length := by
        unfold endS at he
        split at he
        · injection he with h1 _; cases h1
        · rename_i hn
          injection he with h1 _
          exact ⟨h1, fun hl => hn ⟨h1, hl⟩⟩
      exact ⟨hs, hp, rfl, h2.1, [], by simp, by rw [List.drop_eq_nil_of_le (by omega)]; rfl⟩
    · cases h
  | m + 1, L, M, st, h, hs, hp => by
    unfold goG at h
    split at h
    · cases h
    rename_i he
    obtain ⟨e0, e1, e2, e3, e4⟩ := sgR_form (Decidable.not_not.1 he)
    split at h
    · cases h
    rename_i ho
    obtain ⟨g1, g2, g3, g4, N, rfl, g5⟩ := goG_good h (lastG hs ho) (fun s hs => by
      rcases List.mem_append.1 hs with q | q
      · exact hp s q
      · obtain rfl := List.mem_singleton.1 q
        exact ⟨sgOf_pos, e4⟩)
    refine ⟨g1, g2, by rw [g3]; simp; omega, e0, sgR bs st :: N, by simp, ?_⟩
    rw [e1, g5]
    rfl
theorem decG_good {bs : List UInt8} {M : List Sg} (h : decG bs = .ok M) : SrtG M ∧ (∀ s ∈ M, 0 ≤ s.sg ∧ s.sg < 18446744073709551616) ∧ encG M = bs ∧ M.length ≤ 4096 := by
  unfold decG at h
  split at h
  · cases h
  obtain ⟨g1, g2, g3, g4, N, g6, g5⟩ := goG_good h List.Pairwise.nil (by simp)
  rw [List.nil_append] at g6
  subst g6
  obtain ⟨e1, e2⟩ := rd_good numS_ends g4
  have f1 := numS_form e2
  refine ⟨g1, g2, ?_, by rw [g3]; simp; omega⟩
  unfold encG
  rw [g3, List.length_nil, Nat.zero_add, ← g5, ← f1]
  rfl
theorem len_of_dec {bs : List UInt8} {M : List Sg} (h : decG bs = .ok M) : M.length * 44 ≤ bs.length := by
  obtain ⟨_, _, h3, _⟩ := decG_good h
  rw [← h3]
  unfold encG
  rw [List.length_append, encGs_len]
  omega
end Go.Proofs.YtagmnpeilgnbdaaGreat.A

namespace Go.Proofs.YtagmnpeilgnbdaaGreat.A
open Go Go.Vm
set_option maxRecDepth 10000
set_option linter.unusedVariables false
theorem PRs.own_lt {h : Heap} {p : Nat} {sv : Value} {bs : List UInt8} {st : RSt} (hp : PRs h p sv bs st) {i : Nat} (hi : ownedBy sv i) : i < h.n := let ⟨_, _, h2⟩ := hp.ex; h2.own.lt hi
theorem same_fault {a b : Int} : same [.int .i64 a, .int .i64 b] [.int .i64 0, .int .i64 0] = decide ((a, b) = ((0, 0) : Int × Int)) := by
  by_cases h : (a, b) = ((0, 0) : Int × Int)
  · rw [decide_eq_true h]
    cases h
    exact same_self _
  · rw [decide_eq_false h]
    exact same_ne.2 fun h2 => h (by cases h2; rfl)
end Go.Proofs.YtagmnpeilgnbdaaGreat.A

namespace Go.Proofs.YtagmnpeilgnbdaaGreat.A
open Go Go.Vm
set_option maxRecDepth 10000
set_option linter.unusedVariables false
theorem sigFill {a b c d : UInt8} {hs : List UInt8} {n : Nat} (h2 : hs.length = 32) : Fill zG [(0, 4, .agg ⟨bcells [a, b, c, d]⟩), (4, 32, .agg ⟨bcells hs⟩), (36, 1, .int .u64 (n : Int))] (sgOf [a, b, c, d] hs n).cells := by
  haveI : LenN (bcells hs) 32 := ⟨by rw [bcells_len, h2]⟩
  haveI : LenN (bcells [a, b, c, d]) 4 := ⟨rfl⟩
  haveI o1 : Over zG 0 (bcells [a, b, c, d]) (bcells [a, b, c, d] ++ (z32 ++ [.int .u64 0])) := ⟨by show 0 + 4 ≤ 37; decide, rfl⟩
  haveI o2 : Over (bcells [a, b, c, d] ++ (z32 ++ [.int .u64 0])) 4 (bcells hs) (bcells [a, b, c, d] ++ (bcells hs ++ [.int .u64 0])) := ⟨by rw [bcells_len, h2]; show 4 + 32 ≤ 37; decide, over_mid2 _ _ _ _ _ rfl (by have := bcells_len hs; rw [this, h2]; rfl) (fun e => by have := congrArg List.length e; rw [bcells_len, h2] at this; simp at this)⟩
  haveI o3 : Over (bcells [a, b, c, d] ++ (bcells hs ++ [.int .u64 0])) 36 [.int .u64 (n : Int)] (bcells [a, b, c, d] ++ (bcells hs ++ [.int .u64 (n : Int)])) := ⟨by simp [bcells_len, h2], by
    have := over_mid2 (bcells [a, b, c, d] ++ bcells hs) [.int .u64 0] [] 36 [.int .u64 (n : Int)] (by simp [bcells_len, h2]) rfl (by simp)
    simpa only [List.append_assoc, List.append_nil, List.nil_append, List.cons_append] using this⟩
  rw [sgOf_cells h2]
  exact inferInstance
instance overS {s t : Sg} : Over s.cells 0 t.cells t.cells := ⟨by rw [s.len, t.len]; decide, over_all _ _ (by rw [s.len, t.len])⟩
theorem num_e {bs : List UInt8} {st : RSt} (h : (rd (numS bs) 0 st).1 ≠ 0) : (rd (numS bs) 0 st).2.e = 0 := by
  unfold rd at h ⊢
  split
  · split
    · rfl
    · rename_i hS
      rw [if_pos (by assumption), hS] at h
      exact absurd rfl h
  · rename_i hne
    rw [if_neg hne] at h
    exact absurd rfl h
theorem xgeq1 {P : Program} {ts : List Value} {h : Heap} {x y : Operand} {p q : Int} {O : Oper} (hp : q ≤ p) [e1 : Ev ts x (.int .i64 p)] [e2 : Ev ts y (.int .i64 q)] : XOp P ts h (.bin .geq O x y) (.bool true) h := by
  have := (XOp.geqI : XOp P ts h (.bin .geq O x y) (.bool (decide (q ≤ p))) h)
  rw [decide_eq_true hp] at this
  exact this
theorem xgeq0 {P : Program} {ts : List Value} {h : Heap} {x y : Operand} {p q : Int} {O : Oper} (hp : ¬ q ≤ p) [e1 : Ev ts x (.int .i64 p)] [e2 : Ev ts y (.int .i64 q)] : XOp P ts h (.bin .geq O x y) (.bool false) h := by
  have := (XOp.geqI : XOp P ts h (.bin .geq O x y) (.bool (decide (q ≤ p))) h)
  rw [decide_eq_false hp] at this
  exact this
theorem TbAt.snoc {h : Heap} {p m c : Nat} {l : List GEnt} {most : Int} {L : List Sg} {s : Sg} (ha : TbAt h p m c l most L) (hs : SrtG (L ++ [s])) (hl : L.length < 255) : TbAt (h.set m (.map (gents (l ++ [⟨s, c⟩])) (c + 1))) p m (c + 1) (l ++ [⟨s, c⟩]) most (L ++ [s]) := by
  have hpm : p ≠ m := fun e => by
    have := ha.g
    rw [e, ha.gm] at this
    cases this
  have hn : s ∉ L := fun e => by
    have := (List.pairwise_append.1 hs).2.2 s e s (by simp)
    rw [ltG_irr] at this
    cases this
  refine ⟨by rw [Heap.get_set, if_neg hpm]; exact ha.g, by simpa using ha.lp, by rw [Heap.get_set, if_pos rfl], by simpa using ha.lm, ha.ok.add fun e he q => hn (ha.mem.2 ⟨e, he, q⟩), ?_, hs, by simp; omega⟩
  rw [List.map_append]
  exact ha.pe.append_right [s]
set_option maxHeartbeats 64000000 in
theorem gDecode_ok {h : Heap} {v : Value} {bs : List UInt8} (hv : Rd h 1 v (bcells bs) bs.length) (hs : bs.length ≤ 3000) :
    Runs Tryz.prog T0 (.fn fn_zpbQ) [v] h
      (fun r h' => ((∃ (L : List Sg) (p m c : Nat) (l : List GEnt), decG bs = .ok L ∧ r = .tuple ⟨[.pointer (some ⟨p, 0, none⟩), .agg ⟨[.int .i64 0, .int .i64 0]⟩]⟩ ∧ TbAt h' p m c l 4096 L ∧ h.n ≤ p ∧ h.n ≤ m) ∨ (∃ (e a : Int), decG bs = .error (e, a) ∧ r = .tuple ⟨[.pointer none, .agg ⟨[.int .i64 e, .int .i64 a]⟩]⟩)) ∧ Fr (fun _ => False) h h') (fun _ _ => False) := by
  obtain ⟨av, cv, rfl, hvl, hvc⟩ := id hv
  refine zpbQ_runs ?_
  refine stp ?_
  have hf0 : Fr (fun _ => False) h (h.push (.cells [.int .i64 0, .int .i64 0] 0)) := Fr.refl.push
  refine O.call' (NewReader_ok (hv.keep hf0 fun _ _ => id) (by omega)) (fun r h1 hr => ?_)
  obtain ⟨p, sv, rfl, hp1, hsv, hr1, hf1⟩ := hr
  simp only [Heap.n_push] at hp1 hsv
  refine stp ?_
  refine O.call' (Num_run hr1) (fun r h2 hr => ?_)
  obtain ⟨hf2, rfl, hr2⟩ := hr
  have hf01 : Fr (fun _ => False) h h1 := hf0.trans' hf1
  have hn01 := hf1.n
  simp only [Heap.n_push] at hn01
  have hn12 := hf2.n
  have hp1n := hr1.lt
  have hA1 : HGet h1 h.n (.cells [.int .i64 0, .int .i64 0] 0) := hf1.keep (b := h.n) HGet.new (by simp) id
  have hA2 : HGet h2 h.n (.cells [.int .i64 0, .int .i64 0] 0) := hf2.keep hA1 (by omega) (by omega)
  have hfh2 : Fr (fun _ => False) h h2 := Fr.trans (S := fun _ => False) hf01 hf2 fun i hi ho => by omega
  have hdec : decG bs = if 4096 < (rd (numS bs) 0 ⟨0, 0, 0⟩).1 then .error (4, 0) else goG bs (rd (numS bs) 0 ⟨0, 0, 0⟩).1 [] (rd (numS bs) 0 ⟨0, 0, 0⟩).2 := rfl
  have he0 := num_e (bs := bs) (st := ⟨0, 0, 0⟩)
  have hok0 : (rd (numS bs) 0 ⟨0, 0, 0⟩).2.ok bs := rd_st numS_ends (st0_ok bs)
  rw [hdec]
  clear hdec
  generalize rd (numS bs) 0 ⟨0, 0, 0⟩ = n at *
  obtain ⟨n, st0⟩ := n
  simp only at hr2 he0 hok0 ⊢
  haveI : BLt h.n h2 := ⟨by omega⟩
  haveI : HGet h2 h.n _ := hA2
  refine stp ?_
  refine C.if (fun hbig => ?_) (fun hsm => ?_)
  · refine stp ?_
    exact ⟨.inr ⟨4, 0, by rw [if_pos (by omega)], rfl⟩, Fr.set hfh2 fun hlt => by omega⟩
  rw [if_neg (by omega)]
  refine stp ?_
  refine O.call' (gNew_ok (by omega) (by omega)) (fun r h3 hr => ?_)
  obtain ⟨rfl, ha3, hf3⟩ := hr
  have hn23 := hf3.n
  have hp2 := hr2.lt
  have hsv2 : ∀ i, ownedBy sv i → i < h2.n := fun i hi => hr2.own_lt hi
  have hr3 := hr2.none hf3
  have hA3 : HGet h3 h.n _ := hf3.keep hA2 (by omega) id
  have hm3 := ha3.lp
  refine stp ?_
  have f4 : Fr (fun _ => False) h3 (h3.push (.cells zG 0)) := Fr.refl.push
  have g4 : (h3.push (.cells zG 0)).get h3.n = .cells zG 0 := HGet.new.eq
  have n4 : (h3.push (.cells zG 0)).n = h3.n + 1 := rfl
  have ha4 := ha3.keep f4 id id
  have hr4 := hr3.none f4
  have hA4 : HGet (h3.push (.cells zG 0)) h.n _ := f4.keep hA3 (by omega) id
  have hF4 : Fr (fun _ => False) h (h3.push (.cells zG 0)) := (hfh2.trans' hf3).trans' f4
  generalize h3.push (.cells zG 0) = h4 at *
  refine loop1 zpbQ_l0_M 26 (fun q v26 hx => ∃ (k : Nat) (L : List Sg) (st : RSt) (c : Nat) (l : List GEnt), k ≤ n ∧ q = n - k ∧ v26 = .int .i64 k ∧ L.length = k ∧ goG bs n [] st0 = goG bs (n - k) L st ∧ (k < n → st.e = 0) ∧ (st.e = 0 → 44 * k ≤ st.pl) ∧ st.ok bs ∧ TbAt hx (h2.n + 1) h2.n c l 4096 L ∧ PRs hx p sv bs st ∧ hx.get h3.n = .cells (at' L (L.length - 1)).cells 0 ∧ Fr (fun i => i = p ∨ i = h2.n ∨ i = h3.n) h4 hx) ?_ n ⟨0, [], st0, 0, [], by omega, rfl, rfl, rfl, rfl, fun hp => he0 (by omega), fun _ => by omega, hok0, ha4, hr4, by rw [g4]; rfl, Fr.refl⟩
  clear ha4 hr4 g4 ha3 hr3
  rintro m v26 h' x2 x9 x10 x11 x12 x27 x28 x29 x30 x31 x32 x33 x34 x35 x36 x37 x38 x39 x40 x41 x42 x43 x44 x45 x46 x47 x48 x49 x50 x51 x52 x53 x54 x55 x56 x57 x58 x59 x60 x61 x62 x63 x64 x65 x66 x67 x68 x69 ⟨k, L, st, c, l, hk, rfl, rfl, hLk, hgo, hek, h44, hok, ha, hr, hg, hF⟩
  have nF := hF.n
  refine stp ?_
  refine C.if (fun hlt => ?_) (fun hge => ?_)
  · have hst0 : st.e = 0 := hek (by omega)
    have hple := hr.le hst0
    have h44' := h44 hst0
    refine stp ?_
    refine O.call' (Rest_run hr) (fun r h5 hr' => ?_)
    obtain ⟨rfl, rfl⟩ := hr'
    rw [show restS bs st = (bs.length : Int) - st.pl from by unfold restS; rw [if_pos hst0]]
    refine stp ?_
    have k1 := Key_run hr
    generalize e1 : rd (partS 4 bs) zb4 st = A at k1
    obtain ⟨ak, st4⟩ := A
    refine O.call' k1 (fun r h6 hq => ?_)
    obtain ⟨hf6, ⟨rfl, hl6⟩, hr6⟩ := hq
    simp only at hl6 hr6
    obtain ⟨a1, a2, a3, a4, rfl⟩ := four hl6
    refine stp ?_
    have k2 := Hash_run hr6
    generalize e2 : rd (partS 32 bs) zb32 st4 = A at k2
    obtain ⟨hs', st5⟩ := A
    refine O.call' k2 (fun r h7 hq => ?_)
    obtain ⟨hf7, ⟨rfl, hl7⟩, hr7⟩ := hq
    simp only at hl7 hr7
    refine stp ?_
    have k3 := Word_run hr7
    generalize e3 : rd (wordS bs) 0 st5 = A at k3
    obtain ⟨w, st6⟩ := A
    refine O.call' k3 (fun r h8 hq => ?_)
    obtain ⟨hf8, rfl, hr8⟩ := hq
    simp only at hr8
    have hS : sgR bs st = sgOf [a1, a2, a3, a4] hs' w := by
      unfold sgR
      rw [e1]
      simp only
      rw [e2]
      simp only
      rw [e3]
    have hT : stR bs st = st6 := by
      unfold stR
      rw [e1]
      simp only
      rw [e2]
      simp only
      rw [e3]
    haveI hfill := sigFill (a := a1) (b := a2) (c := a3) (d := a4) (n := w) hl7
    rw [← hS] at hfill
    refine stp ?_
    have hF58 : Fr (fun i => i = p) h5 h8 := (hf6.trans' hf7).trans' hf8
    have n58 := hF58.n
    have f9 : Fr (fun _ => False) h8 (h8.push (.cells (sgR bs st).cells 0)) := Fr.refl.push
    have g9 : (h8.push (.cells (sgR bs st).cells 0)).get h8.n = .cells (sgR bs st).cells 0 := HGet.new.eq
    have n9 : (h8.push (.cells (sgR bs st).cells 0)).n = h8.n + 1 := rfl
    have hr9 := hr8.none f9
    generalize h8.push (.cells (sgR bs st).cells 0) = h9 at *
    have k4 := End_run hr9
    have hok6 : st6.ok bs := by rw [← hT]; exact stR_ok hok
    have he6 : st6.e = 0 ∨ st6.e = 6 := by rw [← hT]; exact stR_e hst0
    have hgo1 : goG bs (n - k) L st = if st6.e ≠ 0 then .error (st6.e, st6.fa)
      else if L ≠ [] ∧ ltG (at' L (L.length - 1)) (sgR bs st) = false then .error (9, (st.pl : Int))
      else goG bs (n - (k + 1)) (L ++ [sgR bs st]) st6 := by
      rw [show n - k = (n - (k + 1)) + 1 from by omega, goG, hT]
    have hlp := hr.lt
    have hF9 : Fr (fun i => i = p) h5 h9 := Fr.trans hF58 f9 fun _ _ e => e.elim
    have hF49 : Fr (fun i => i = p ∨ i = h2.n ∨ i = h3.n) h4 h9 := hF.trans' (hF9.mono fun _ _ e => .inl e)
    have hA9 : HGet h9 h.n _ := hF49.keep hA4 (by omega) (by omega)
    have hFh9 : Fr (fun _ => False) h h9 := Fr.trans (S := fun _ => False) hF4 hF49 fun i hi e => by omega
    have hend : (st6.e = 6 ∧ (endS bs st6).1 = 6 ∧ (endS bs st6).2 = st6.fa) ∨ (st6.e = 0 ∧ ((endS bs st6).1 = 0 ∨ (endS bs st6).1 = 4)) := by
      unfold endS
      rcases he6 with q | q
      · right
        refine ⟨q, ?_⟩
        split
        · exact .inr rfl
        · exact .inl q
      · left
        refine ⟨q, ?_⟩
        rw [if_neg (by omega), q]
        exact ⟨rfl, rfl⟩
    generalize (endS bs st6).1 = E at k4 hend
    generalize (endS bs st6).2 = A' at k4 hend
    refine O.call' k4 (fun r h10 hq => ?_)
    obtain ⟨rfl, hf10⟩ := hq
    have hA10 : HGet h10 h.n _ := hf10.keep hA9 (by omega) id
    haveI := hA10
    have n10 := hf10.n
    have ha10 := ((ha.keep hF9 (by omega) (by omega)).keep hf10 id id)
    have hr10 := hr9.none hf10
    have g10 : h10.get h8.n = .cells (sgR bs st).cells 0 := by rw [hf10.get _ (by omega) id]; exact g9
    have ga10 : h10.get h3.n = .cells (at' L (L.length - 1)).cells 0 := by rw [hf10.get _ (by omega) id, hF9.get _ (by omega) (by omega)]; exact hg
    haveI : HGet h10 h8.n _ := ⟨g10⟩
    haveI : HGet h10 h3.n _ := ⟨ga10⟩
    haveI : BLt h.n h10 := ⟨by omega⟩
    haveI : BLt h8.n h10 := ⟨by omega⟩
    haveI : BLt h3.n h10 := ⟨by omega⟩
    have hFh10 := hFh9.trans' hf10
    haveI qn : ∀ {ts : List Value} {h : Heap} {Q0 : Oper} {x z : Operand} {p : Int} [Ev ts x (.int .i64 p)] [Ev ts z (.int .i64 p)], XOp Tryz.prog ts h (.bin .neq Q0 x z) (.bool false) h := xneqI0 rfl
    rcases hend with ⟨he, rfl, rfl⟩ | ⟨he, hE⟩
    · haveI z1 : ∀ {ts : List Value} {h : Heap} {O : Oper} {x z : Operand} [Ev ts x (.int .i64 6)] [Ev ts z (.int .i64 0)], XOp Tryz.prog ts h (.bin .neq O x z) (.bool true) h := xneqI1 (by decide)
      haveI z2 : ∀ {ts : List Value} {h : Heap} {O : Oper} {x z : Operand} [Ev ts x (.int .i64 6)] [Ev ts z (.int .i64 4)], XOp Tryz.prog ts h (.bin .neq O x z) (.bool true) h := xneqI1 (by decide)
      refine stp ?_
      exact ⟨.inr ⟨6, st6.fa, by rw [hgo, hgo1, if_pos (by omega), he], rfl⟩, hFh10.push.set fun hlt => by omega⟩
    haveI z40 : ∀ {ts : List Value} {h : Heap} {O : Oper} {x z : Operand} [Ev ts x (.int .i64 4)] [Ev ts z (.int .i64 0)], XOp Tryz.prog ts h (.bin .neq O x z) (.bool true) h := xneqI1 (by decide)
    have hform := sgR_form (bs := bs) (st := st) (by rw [hT]; exact he)
    rw [hT] at hform
    have hlen2 : L.length + 1 < 256 := by omega
    have hkn := ha10.kn (sgR bs st)
    generalize sgR bs st = S at *
    have F11 : Fr (fun _ => False) h10 (h10.push (.cells [.int .i64 E, .int .i64 A'] 0)) := Fr.refl.push
    have n11 : (h10.push (.cells [.int .i64 E, .int .i64 A'] 0)).n = h10.n + 1 := rfl
    have ha11 := ha10.keep F11 id id
    have hr11 := hr10.none F11
    have again : ∀ {hX : Heap}, Fr (fun _ => False) h10 hX → SrtG (L ++ [S]) → ∃ (k' : Nat) (L' : List Sg) (st' : RSt) (c' : Nat) (l' : List GEnt), k' ≤ n ∧ n - (k + 1) = n - k' ∧ Value.int .i64 ((k : Int) + 1) = .int .i64 k' ∧ L'.length = k' ∧ goG bs n [] st0 = goG bs (n - k') L' st' ∧ (k' < n → st'.e = 0) ∧ (st'.e = 0 → 44 * k' ≤ st'.pl) ∧ st'.ok bs ∧ TbAt ((hX.set h3.n (.cells S.cells 0)).set h2.n (.map (gents (l ++ [⟨S, c⟩])) (c + 1))) (h2.n + 1) h2.n c' l' 4096 L' ∧ PRs ((hX.set h3.n (.cells S.cells 0)).set h2.n (.map (gents (l ++ [⟨S, c⟩])) (c + 1))) p sv bs st' ∧ ((hX.set h3.n (.cells S.cells 0)).set h2.n (.map (gents (l ++ [⟨S, c⟩])) (c + 1))).get h3.n = .cells (at' L' (L'.length - 1)).cells 0 ∧ Fr (fun i => i = p ∨ i = h2.n ∨ i = h3.n) h4 ((hX.set h3.n (.cells S.cells 0)).set h2.n (.map (gents (l ++ [⟨S, c⟩])) (c + 1))) := fun {hX} fX hso => by
      have f12 : Fr (fun i => i = h3.n) hX (hX.set h3.n (.cells S.cells 0)) := Fr.refl.set fun _ => rfl
      have ha12 := (ha10.keep fX id id).keep f12 (by omega) (by omega)
      have hr12 := (hr10.none fX).keep f12 (by omega) fun i hi => by have := hsv2 i hi; omega
      have f13 : Fr (fun i => i = h2.n) (hX.set h3.n (.cells S.cells 0)) ((hX.set h3.n (.cells S.cells 0)).set h2.n (.map (gents (l ++ [⟨S, c⟩])) (c + 1))) := Fr.refl.set fun _ => rfl
      refine ⟨k + 1, L ++ [S], st6, _, _, by omega, rfl, rfl, by simp [hLk], ?_, fun _ => he, fun _ => by omega, hok6, ha12.snoc hso (by omega), hr12.keep f13 (by omega) fun i hi => by have := hsv2 i hi; omega, ?_, ?_⟩
      · rw [hgo, hgo1, if_neg (by omega), if_neg]
        rintro ⟨h1, h2⟩
        have hp : 0 < L.length := List.length_pos_iff.2 h1
        have := at_lt hso (i := L.length - 1) (j := L.length) (by omega) (by simp)
        rw [at_eq (by rw [List.length_append, List.length_singleton]; omega), at_eq (by simp), List.getElem_append_left (by omega), List.getElem_append_right (by omega), ← at_eq (by omega)] at this
        simp only [Nat.sub_self, List.getElem_cons_zero] at this
        rw [this] at h2
        cases h2
      · rw [Heap.get_set, if_neg (by omega), Heap.get_set, if_pos rfl, List.length_append, List.length_singleton, Nat.add_sub_cancel, at_eq (by simp), List.getElem_append_right (by omega)]
        simp
      · refine Fr.trans (S := fun i => i = p ∨ i = h2.n ∨ i = h3.n) (Fr.trans (S := fun i => i = p ∨ i = h2.n ∨ i = h3.n) (Fr.trans (S := fun i => i = p ∨ i = h2.n ∨ i = h3.n) (Fr.trans (S := fun i => i = p ∨ i = h2.n ∨ i = h3.n) hF49 hf10 fun _ _ e => e.elim) fX fun _ _ e => e.elim) f12 fun _ _ e => .inr (.inr e)) f13 fun _ _ e => .inr (.inl e)
    haveI b1 : BNe h3.n (h2.n + 1) := ⟨by omega⟩
    haveI b2 : BNe (h2.n + 1) h3.n := ⟨by omega⟩
    haveI b3 : BNe h3.n h2.n := ⟨by omega⟩
    haveI b4 : BNe h2.n h3.n := ⟨by omega⟩
    haveI b5 : BNe h8.n h3.n := ⟨by omega⟩
    haveI b6 : BNe h3.n h8.n := ⟨by omega⟩
    haveI : HGet h10 (h2.n + 1) _ := ⟨ha10.g⟩
    haveI : HGet h10 h2.n _ := ⟨ha10.gm⟩
    haveI : BLt (h2.n + 1) h10 := ⟨ha10.lp⟩
    haveI : BLt h2.n h10 := ⟨ha10.lm⟩
    rcases Nat.eq_zero_or_pos k with hk0 | hk0
    · haveI z5 : ∀ {ts : List Value} {h : Heap} {O : Oper} {x z : Operand} [Ev ts x (.int .i64 (k : Nat))] [Ev ts z (.int .i64 0)], XOp Tryz.prog ts h (.bin .gtr O x z) (.bool false) h := xgtr0 (by omega)
      have hL0 : L = [] := List.length_eq_zero_iff.1 (by omega)
      have hso : SrtG (L ++ [S]) := by rw [hL0]; exact List.pairwise_singleton _ _
      haveI : Kn l S false := by
        have : decide (S ∈ L) = false := by rw [hL0]; simp
        rw [← this]
        exact hkn
      rcases hE with rfl | rfl <;> (refine stp ?_; exact loop1a 26 (n - (k + 1)) (by omega) (again F11 hso))
    · haveI z5 : ∀ {ts : List Value} {h : Heap} {O : Oper} {x z : Operand} [Ev ts x (.int .i64 (k : Nat))] [Ev ts z (.int .i64 0)], XOp Tryz.prog ts h (.bin .gtr O x z) (.bool true) h := xgtr1 (by omega)
      have hL0 : L ≠ [] := fun e => by rw [e] at hLk; simp at hLk; omega
      have hc := cmpG_lt (at' L (L.length - 1)) S
      cases hl : ltG (at' L (L.length - 1)) S with
      | false =>
        have hc' : 0 ≤ cmpG (at' L (L.length - 1)) S := by rw [hl] at hc; simp at hc; exact hc
        haveI z6 : ∀ {ts : List Value} {h : Heap} {O : Oper} {x z : Operand} [Ev ts x (.int .i64 (cmpG (at' L (L.length - 1)) S))] [Ev ts z (.int .i64 0)], XOp Tryz.prog ts h (.bin .geq O x z) (.bool true) h := xgeq1 hc'
        rcases hE with rfl | rfl <;> (refine stp ?_; refine O.callT gcompare_ok (fun r h14 hq => ?_); obtain ⟨rfl, f14⟩ := hq; haveI : HGet h14 h.n _ := f14.keep (F11.keep hA10 (by omega) id) (by omega) id; haveI : BLt h.n h14 := ⟨by have := f14.n; omega⟩; refine stp ?_; exact ⟨.inr ⟨9, (st.pl : Int), by rw [hgo, hgo1, if_neg (by omega), if_pos ⟨hL0, hl⟩], by rw [show (bs.length : Int) - ((bs.length : Int) - st.pl) = st.pl from by omega]⟩, (hFh10.push.trans' f14).set fun hlt => by omega⟩)
      | true =>
        have hso : SrtG (L ++ [S]) := lastG ha.so fun q => by rw [hl] at q; cases q.2
        haveI : Kn l S false := by
          have : decide (S ∈ L) = false := decide_eq_false fun e => by
            have := (List.pairwise_append.1 hso).2.2 S e S (by simp)
            rw [ltG_irr] at this
            cases this
          rw [← this]
          exact hkn
        have hc' : cmpG (at' L (L.length - 1)) S < 0 := hc.2 hl
        haveI z6 : ∀ {ts : List Value} {h : Heap} {O : Oper} {x z : Operand} [Ev ts x (.int .i64 (cmpG (at' L (L.length - 1)) S))] [Ev ts z (.int .i64 0)], XOp Tryz.prog ts h (.bin .geq O x z) (.bool false) h := xgeq0 (by omega)
        rcases hE with rfl | rfl <;> (refine stp ?_; refine O.callT gcompare_ok (fun r h14 hq => ?_); obtain ⟨rfl, f14⟩ := hq; have F14 := F11.trans' f14; have n14 := F14.n; have ha14 := ha10.keep F14 id id; haveI : HGet h14 h.n _ := F14.keep hA10 (by omega) id; haveI : BLt h.n h14 := ⟨by omega⟩; haveI : BLt h3.n h14 := ⟨by omega⟩; haveI : BLt h8.n h14 := ⟨by omega⟩; haveI : HGet h14 h8.n _ := F14.keep ⟨g10⟩ (by omega) id; haveI : HGet h14 h3.n _ := F14.keep ⟨ga10⟩ (by omega) id; haveI : HGet h14 (h2.n + 1) _ := ⟨ha14.g⟩; haveI : HGet h14 h2.n _ := ⟨ha14.gm⟩; haveI : BLt (h2.n + 1) h14 := ⟨ha14.lp⟩; haveI : BLt h2.n h14 := ⟨ha14.lm⟩; refine stp ?_; exact loop1a 26 (n - (k + 1)) (by omega) (again F14 hso))
  obtain rfl : k = n := by omega
  have hlp := hr.lt
  have hAk : HGet h' h.n _ := hF.keep hA4 (by omega) (by omega)
  have hFh : Fr (fun _ => False) h h' := Fr.trans (S := fun _ => False) hF4 hF fun i hi e => by omega
  have hgoe : goG bs k [] st0 = if endS bs st = (0, 0) then .ok L else .error (endS bs st) := by rw [hgo, Nat.sub_self, goG]
  refine stp ?_
  have k3 := End_run hr
  generalize endS bs st = F at k3 hgoe
  obtain ⟨E, A'⟩ := F
  simp only at k3
  refine O.call' k3 (fun r h5 hq => ?_)
  obtain ⟨rfl, hf5⟩ := hq
  have n5 := hf5.n
  have hA5 : HGet h5 h.n _ := hf5.keep hAk (by omega) id
  haveI := hA5
  haveI : BLt h.n h5 := ⟨by omega⟩
  have ha5 := ha.keep hf5 id id
  have hFh5 := hFh.trans' hf5
  refine stp ?_
  rw [same_fault]
  refine C.ifN (fun hc => ?_) (fun hc => ?_)
  · refine stp ?_
    exact ⟨.inr ⟨E, A', by rw [hgoe, if_neg hc], rfl⟩, hFh5.push.set fun hlt => by omega⟩
  · refine stp ?_
    exact ⟨.inl ⟨L, h2.n + 1, h2.n, c, l, by rw [hgoe, if_pos hc], rfl, (ha5.keep (S := fun _ => False) Fr.refl.push id id).keep (S := fun i => i = h.n) (Fr.refl.set fun _ => rfl) (by omega) (by omega), by omega, by omega⟩, hFh5.push.set fun hlt => by omega⟩
end Go.Proofs.YtagmnpeilgnbdaaGreat.A

namespace Go.Proofs.YtagmnpeilgnbdaaGreat.A
open Go Go.Vm
set_option maxRecDepth 10000
set_option linter.unusedVariables false
theorem Kept_code {h : Heap} {q c' : Nat} {l : List UInt8} {u : Value} (hq : h.get q = .ro (bcells l ++ bcells lentTail)) (hlt : q < h.n) (hc : l.length + 4 ≤ c') (hs : l.length < 1048576) (hu : Rd h 1 u (bcells l) l.length) :
    Runs Tryz.prog (tableOf  Tryz.prog) (.fn fn_zeQ) [.slice (some ⟨q, 0, none⟩) l.length c', u] h (fun r _ => r = .bool true) (fun _ _ => False) := by
  have hu' := hu
  obtain ⟨au, capu, rfl, _, _⟩ := hu
  have hcells : (h.get q).cellsOf = some (bcells l ++ bcells lentTail) := by rw [hq]; rfl
  have hlen : (bcells l ++ bcells lentTail).length = l.length + 4 := by simp [bcells, lentTail]
  have hbl : (bcells l).length = l.length := by simp [bcells]
  have hv : Rd h 1 (.slice (some ⟨q, 0, none⟩) l.length c') (bcells l) l.length := Rd.mk hlt (by
    rw [Nat.mul_one, cellsAt_of hcells (by omega), List.drop_zero, ← hbl, List.take_left])
  refine zeQ_runs ?_
  refine stpP ?_
  refine O.by (v := .slice (some ⟨q, 0, none⟩) c' c') (h' := h) ?_ rfl ?_
  · show sliceOf _ 1 (.slice (some ⟨q, 0, none⟩) l.length c') none (some _) none _ = _
    simp only [sliceOf, bnd, eval, lget]
    rw [show idx (c' + 1) (.int .i64 ((c' : Nat) : Int)) = some c' from by rw [idx_in (by omega)]; simp]
    simp
  refine stpP ?_
  refine D.dec (fun _ => ?_) (fun h => absurd rfl h)
  refine stpP ?_
  refine D.howT (XOp.mkStr hv) rfl ?_
  refine stpP ?_
  refine D.howT (XOp.mkStr hu') rfl ?_
  refine stpP ?_
  refine D.decB (fun _ => ?_) (fun h => absurd h (by simp))
  refine stpP ?_
  refine D.dec (fun _ => ?_) (fun h => by omega)
  refine stpP ?_
  have hsl : ∀ (ts : List Value) (h' : Heap) (x y z : Operand), eval ts x = .slice (some ⟨q, 0, none⟩) c' c' → eval ts y = .int .i64 l.length → eval ts z = .int .i64 (l.length + 4 : Int) →
      XOp Tryz.prog ts h' (.sliceSl 1 x (some y) (some z) none) (.slice (some ⟨q, l.length, none⟩) 4 (c' - l.length)) h' := fun ts h' x y z e1 e2 e3 => ⟨rfl, by
    simp only [xop, e1, sliceOf, bnd, e2, e3]
    rw [show idx (c' + 1) (.int .i64 ((l.length : Int) + 4)) = some (l.length + 4) from by rw [idx_in (by omega)]; congr 1]
    simp only
    rw [show idx (l.length + 4 + 1) (.int .i64 (l.length : Int)) = some l.length from by rw [idx_in (by omega)]; simp]
    simp only
    rw [if_neg (by omega), if_neg (by omega)]
    simp⟩
  refine D.howT (hsl _ _ _ _ _ rfl rfl rfl) rfl ?_
  have hv2 : ∀ {h' : Heap}, Fr (fun _ => False) h h' → Rd h' 1 (.slice (some ⟨q, l.length, none⟩) 4 (c' - l.length)) (bcells lentTail) 4 := fun {h'} hf => (Rd.mk hlt (by
    rw [cellsAt_of hcells (by omega), ← hbl, List.drop_left]; rfl)).keep hf fun _ _ => id
  refine D.howT (XOp.mkStr (bs := lentTail) (hv2 Fr.refl)) rfl ?_
  refine D.oneT ?_ ?_
  · refine stab_consT (XOp.mkStr (bs := lentTail) (hv2 Fr.refl.push)) ?_
    refine stab_consT (hsl _ _ _ _ _ rfl rfl rfl) ?_
    refine stab_consT (XOp.addI (by omega)) ?_
    exact StabL.ok
  have hv3 : Rd (h.push (.cells [.int .u8 201, .int .u8 202, .int .u8 203, .int .u8 204] 0)) 1 (.slice (some ⟨h.n, 0, none⟩) 4 4) (bcells lentTail) 4 := rd_lit rfl
  refine D.howT (XOp.mkStr (bs := lentTail) hv3) rfl ?_
  refine stpP ?_
  simp [lentTail]
structure Lent (h : Heap) (lo : Nat) (v : Value) (l : List UInt8) : Prop where
  ex : ∃ q k cap j, v = .slice (some ⟨q, 0, some k⟩) l.length cap ∧ h.get q = .cells (bcells l ++ (bcells lentTail ++ j)) 1 ∧ l.length + 4 ≤ cap ∧ (l.length + (4 + j.length)) = cap ∧ lo ≤ q ∧ q < h.n
theorem Lent.rd {h : Heap} {lo : Nat} {v : Value} {l : List UInt8} (hv : Lent h lo v l) : Rd h 1 v (bcells l) l.length := by
  obtain ⟨q, k, cap, j, rfl, hq, hc, _, _, hlt⟩ := hv.ex
  refine Rd.mk hlt ?_
  have hbl : (bcells l).length = l.length := by simp [bcells]
  rw [Nat.mul_one, cellsAt_of (c := bcells l ++ (bcells lentTail ++ j)) (by rw [hq]; rfl) (by simp only [List.length_append, hbl]; omega), List.drop_zero, ← hbl, List.take_left]
theorem Lent.keep {S : Nat → Prop} {h h' : Heap} {lo : Nat} {v : Value} {l : List UInt8} (hv : Lent h lo v l) (hf : Fr S h h') (hs : ∀ i, S i → i < lo ∨ h.n ≤ i) : Lent h' lo v l := by
  obtain ⟨q, k, cap, j, rfl, hq, hc, hc2, hlo, hlt⟩ := hv.ex
  exact ⟨q, k, cap, j, rfl, by rw [hf.get q hlt fun h => by have := hs _ h; omega, hq], hc, hc2, hlo, hf.lt hlt⟩
theorem Lent.kept {h : Heap} {lo : Nat} {v w : Value} {l : List UInt8} (hv : Lent h lo v l) (hw : Rd h 1 w (bcells l) l.length) (hs : l.length < 1048576) : KeptPre [v, w] h := by
  obtain ⟨q, k, cap, j, rfl, hq, hc, _, _, _⟩ := hv.ex
  exact ⟨q, k, cap, l, w, j, rfl, hq, hc, hw, hs⟩
theorem LentBytes_ok {h : Heap} {v : Value} {l : List UInt8} (hr : Rd h 1 v (bcells l) l.length) (hs : l.length + 4 < 1048576) :
    Runs Tryz.prog T0 (.fn fn_zfQ) [v] h (fun r h' => Lent h' h.n r l ∧ Fr (fun _ => False) h h') (fun _ _ => False) := by
  have hr' := hr
  obtain ⟨a0, cap0, rfl, _, _⟩ := hr
  refine zfQ_runs ?_
  refine stpP ?_
  have hz : Own (h.push (.cells [] 0)) 1 (.slice (some ⟨h.n, 0, none⟩) 0 0) [] 0 := .lit (by simp) (by rw [Heap.get_push, if_pos rfl])
  refine O.append hz ((hr'.keep (S := fun _ => False) Fr.refl.push fun _ _ => id).new [.int .u8 0]) (by rw [bcells_len]; omega) (bcells_one l) (by omega) (by omega) (by omega) (fun v1 h1 ho1 hf1 hn1 => ?_)
  rw [Nat.zero_add, List.nil_append] at ho1
  refine stpP ?_
  have hlit : newCells (h1.push (.cells [.int .u8 201, .int .u8 202, .int .u8 203, .int .u8 204] 0)) 1 [.int .u8 0] false (.slice (some ⟨h1.n, 0, none⟩) 4 4) = some (4, bcells lentTail) := (rd_lit rfl).new [.int .u8 0]
  refine O.append (ho1.keep (S := fun _ => False) Fr.refl.push fun _ _ => id) hlit rfl (bcells_one _) (by omega) (by omega) (by omega) (fun v2 h2 ho2 hf2 hn2 => ?_)
  have hnew1 : ∀ i, ownedBy v1 i → h.n ≤ i := fun i hi => by
    rcases hn1 i hi with h3 | h3
    · have : h.n = i := h3
      omega
    · simp at h3; omega
  have hfr1 : Fr (fun _ => False) h h1 := Fr.trans (S := fun _ => False) Fr.refl.push hf1 fun i hi ho => by
    have : h.n = i := ho
    omega
  have hnn1 := hfr1.n
  have hnew2 : ∀ i, ownedBy v2 i → h.n ≤ i := fun i hi => by
    rcases hn2 i hi with h3 | h3
    · exact hnew1 i h3
    · simp at h3; omega
  have hfr2 : Fr (fun _ => False) h h2 := Fr.trans (S := fun _ => False) hfr1 (Fr.trans (S := ownedBy v1) Fr.refl.push hf2 fun i _ ho => ho) fun i hi ho => by
    have := hnew1 i ho
    omega
  generalize hcc : bcells l ++ bcells lentTail = cc at ho2
  generalize hnn : l.length + 4 = nn at ho2
  cases ho2 with
  | none => omega
  | lit hq hg => omega
  | grown hq hn hle hl hl2 hg =>
    rename_i q k cap j
    subst hcc
    subst hnn
    refine stpP ?_
    refine O.by (v := .slice (some ⟨q, 0, some k⟩) l.length cap) (h' := h2) ?_ rfl ?_
    · show sliceOf _ 1 (.slice (some ⟨q, 0, some k⟩) (l.length + 4) cap) none (some _) none _ = _
      simp only [sliceOf, bnd, eval, lget]
      rw [show idx (cap + 1) (.int .i64 ((l.length : Nat) : Int)) = some l.length from by rw [idx_in (by omega)]; simp]
      simp only
      rw [if_neg (by omega), if_pos trivial]
    refine stpP ?_
    refine ⟨⟨q, k, cap, j, rfl, by rw [hg, List.append_assoc], hle, ?_, hnew2 q rfl, hq⟩, hfr2⟩
    simp only [List.length_append, bcells_len] at hl2
    simp [lentTail] at hl2
    omega
end Go.Proofs.YtagmnpeilgnbdaaGreat.A

namespace Go.Proofs.YtagmnpeilgnbdaaGreat.A
open Go Go.Vm
set_option maxRecDepth 10000
set_option linter.unusedVariables false
structure RR (h : Heap) (p : Nat) (sv : Value) (bs : List UInt8) (pl : Nat) (e fa : Int) : Prop where
  at_le : pl ≤ bs.length
  small : bs.length < 1048576
  lt : p < h.n
  get : h.get p = .cells [sv, .int .i64 pl, .int .i64 e, .int .i64 fa] 0
  own : Own h 1 sv (bcells bs) bs.length
  apart : ¬ ownedBy sv p
theorem RR.keep {S : Nat → Prop} {h h' : Heap} {p : Nat} {sv : Value} {bs : List UInt8} {pl : Nat} {e fa : Int} (hp : RR h p sv bs pl e fa) (hf : Fr S h h') (hs : ¬ S p) (hb : ∀ i, ownedBy sv i → ¬ S i) : RR h' p sv bs pl e fa :=
  ⟨hp.at_le, hp.small, hf.lt hp.lt, by rw [hf.get p hp.lt hs, hp.get], hp.own.keep hf hb, hp.apart⟩
theorem RR.none {h h' : Heap} {p : Nat} {sv : Value} {bs : List UInt8} {pl : Nat} {e fa : Int} (hp : RR h p sv bs pl e fa) (hf : Fr (fun _ => False) h h') : RR h' p sv bs pl e fa := hp.keep hf id fun _ _ => id
theorem RR.turn {h : Heap} {p : Nat} {sv : Value} {bs : List UInt8} {pl pl' : Nat} {e fa e' fa' : Int} (hp : RR h p sv bs pl e fa) (hl : pl' ≤ bs.length) :
    RR (h.set p (.cells [sv, .int .i64 pl', .int .i64 e', .int .i64 fa'] 0)) p sv bs pl' e' fa' :=
  ⟨hl, hp.small, by simpa using hp.lt, by rw [Heap.get_set, if_pos rfl], hp.own.keep (S := fun i => i = p) (Fr.refl.set fun _ => rfl) fun b hb hbp => hp.apart (hbp ▸ hb), hp.apart⟩
theorem Fails_ok {h : Heap} {p : Nat} {sv : Value} {bs : List UInt8} {pl : Nat} {e fa x a : Int} (hr : RR h p sv bs pl e fa) :
    Runs Tryz.prog T0 (.fn fn_zrQ) [.pointer (some ⟨p, 0, none⟩), .int .i64 x, .int .i64 a] h (fun r h' => (if e = 0 then RR h' p sv bs pl x a else RR h' p sv bs pl e fa) ∧ Fr (fun i => i = p) h h') (fun _ _ => False) := by
  haveI : HGet h p _ := ⟨hr.get⟩
  refine zrQ_runs ?_
  refine stpP ?_
  refine C.if (fun he => ?_) (fun he => ?_)
  · refine stpP ?_
    rw [if_pos he]
    exact ⟨hr.turn hr.at_le, Fr.refl.set fun _ => rfl⟩
  · refine stpP ?_
    rw [if_neg he]
    exact ⟨hr, Fr.refl⟩
theorem Rtake_bad {h : Heap} {p : Nat} {sv : Value} {bs : List UInt8} {pl : Nat} {e fa n a : Int} (hr : RR h p sv bs pl e fa) (he : e ≠ 0) :
    Runs Tryz.prog T0 (.fn fn_zwQ) [.pointer (some ⟨p, 0, none⟩), .int .i64 n, .int .i64 a] h (fun r h' => r = .slice none 0 0 ∧ h' = h) (fun _ _ => False) := by
  haveI : HGet h p _ := ⟨hr.get⟩
  refine zwQ_runs ?_
  refine stpP ?_
  refine C.ifN (fun _ => ?_) (fun h => absurd h he)
  refine stpP ?_
  exact ⟨rfl, rfl⟩
theorem Rtake_ok {h : Heap} {p : Nat} {sv : Value} {bs : List UInt8} {pl n : Nat} {a : Int} (hr : RR h p sv bs pl 0 0) :
    Runs Tryz.prog T0 (.fn fn_zwQ) [.pointer (some ⟨p, 0, none⟩), .int .i64 n, .int .i64 a] h
      (fun r h' => Fr (fun i => i = p) h h' ∧ ((pl + n ≤ bs.length ∧ Own h' 1 r (bcells ((bs.drop pl).take n)) n ∧ (∀ i, ownedBy r i → h.n ≤ i) ∧ RR h' p sv bs (pl + n) 0 0) ∨ (bs.length < pl + n ∧ r = .slice none 0 0 ∧ RR h' p sv bs pl 6 a))) (fun _ _ => False) := by
  have hr' := hr
  obtain ⟨hle, hsm, hp, hget, hown, hnot⟩ := hr
  obtain ⟨a0, cap0, rfl, hlen, _⟩ := hown.rd
  haveI : HGet h p _ := ⟨hget⟩
  haveI : BLt p h := ⟨hp⟩
  refine zwQ_runs ?_
  refine stpP ?_
  refine C.if (fun hlt => ?_) (fun hge => ?_)
  · refine stpP ?_
    refine O.call' (Fails_ok (x := 6) (a := a) hr') (fun r h1 hq => ?_)
    obtain ⟨hq, hf⟩ := hq
    rw [if_pos rfl] at hq
    refine stpP ?_
    exact ⟨hf, .inr ⟨by omega, rfl, hq⟩⟩
  · refine stpP ?_
    refine D.sliceA pl (pl + n) (by omega) hown (by omega) (by omega) (by omega) (by omega) (fun v' hbl hrd hag => ?_)
    rw [Nat.mul_one, Nat.mul_one, bcells_drop, bcells_take, Nat.add_sub_cancel_left] at hrd
    refine D.one ?_ ?_
    · refine stab_cons (hag _ _ rfl rfl rfl Fr.refl.push) ?_
      refine stab_cons (XOp.addI (by omega)) ?_
      repeat (refine stab_cons inferInstance ?_)
      rfl
    have hl : ((bs.drop pl).take n).length = n := by rw [List.length_take, List.length_drop]; omega
    have hz : Own (h.push (.cells [] 0)) 1 (.slice (some ⟨h.n, 0, none⟩) 0 0) [] 0 := .lit (by simp) (by rw [Heap.get_push, if_pos rfl])
    refine D.append hz ((hrd.keep (S := fun _ => False) Fr.refl.push fun _ _ => id).new [.int .u8 0]) (by rw [bcells_len]; omega) (bcells_one _) (by omega) (by omega) (by omega) (fun v1 h1 ho1 hf1 hn1 => ?_)
    rw [Nat.zero_add, List.nil_append] at ho1
    have hfr1 : Fr (fun _ => False) h h1 := Fr.trans (S := fun _ => False) Fr.refl.push hf1 fun i hi ho => by
      have : h.n = i := ho
      omega
    have hr1 := hr'.none hfr1
    haveI : HGet h1 p _ := ⟨hr1.get⟩
    have hnew1 : ∀ i, ownedBy v1 i → h.n ≤ i := fun i hi => by
      rcases hn1 i hi with h3 | h3
      · have : h.n = i := h3
        omega
      · simp at h3; omega
    refine stpP ?_
    refine ⟨Fr.set (hfr1.mono fun _ _ h => h.elim) fun _ => rfl, .inl ⟨by omega, ho1.keep (S := fun i => i = p) (Fr.refl.set fun _ => rfl) fun i hi hip => ?_, hnew1, hr1.turn (by omega)⟩⟩
    have := hnew1 i hi
    omega
end Go.Proofs.YtagmnpeilgnbdaaGreat.A

namespace Go.Proofs.YtagmnpeilgnbdaaGreat.A
open Go Go.Vm
set_option maxRecDepth 10000
set_option linter.unusedVariables false
structure RRs (h : Heap) (p : Nat) (sv : Value) (bs : List UInt8) (st : RSt) : Prop where
  ex : ∃ pl, (st.e = 0 → pl = st.pl ∧ st.fa = 0) ∧ RR h p sv bs pl st.e st.fa
theorem RRs.keep {S : Nat → Prop} {h h' : Heap} {p : Nat} {sv : Value} {bs : List UInt8} {st : RSt} (hp : RRs h p sv bs st) (hf : Fr S h h') (hs : ¬ S p) (hb : ∀ i, ownedBy sv i → ¬ S i) : RRs h' p sv bs st :=
  let ⟨pl, h1, h2⟩ := hp.ex
  ⟨pl, h1, h2.keep hf hs hb⟩
theorem RRs.none {h h' : Heap} {p : Nat} {sv : Value} {bs : List UInt8} {st : RSt} (hp : RRs h p sv bs st) (hf : Fr (fun _ => False) h h') : RRs h' p sv bs st := hp.keep hf id fun _ _ => id
theorem RRs.lt {h : Heap} {p : Nat} {sv : Value} {bs : List UInt8} {st : RSt} (hp : RRs h p sv bs st) : p < h.n := let ⟨_, _, h2⟩ := hp.ex; h2.lt
theorem RRs.own_lt {h : Heap} {p : Nat} {sv : Value} {bs : List UInt8} {st : RSt} (hp : RRs h p sv bs st) {i : Nat} (hi : ownedBy sv i) : i < h.n := let ⟨_, _, h2⟩ := hp.ex; h2.own.lt hi
theorem RRs.mk' {h : Heap} {p : Nat} {sv : Value} {bs : List UInt8} {pl : Nat} (hp : RR h p sv bs pl 0 0) : RRs h p sv bs ⟨pl, 0, 0⟩ := ⟨pl, fun _ => ⟨rfl, rfl⟩, hp⟩
def RReads {α : Type} (h : Heap) (p : Nat) (sv : Value) (bs : List UInt8) (x : α × RSt) (V : α → Value → Heap → Prop) (r : Value) (h' : Heap) : Prop :=
  Fr (fun i => i = p) h h' ∧ V x.1 r h' ∧ RRs h' p sv bs x.2
theorem rrd_ok {α : Type} {h h' : Heap} {p : Nat} {sv : Value} {bs : List UInt8} {pl pl' : Nat} {S : Nat → Except Int (α × Nat)} {zero a : α} {V : α → Value → Heap → Prop} {r : Value} (hS : S pl = .ok (a, pl')) (hf : Fr (fun i => i = p) h h') (hV : V a r h') (hp : RR h' p sv bs pl' 0 0) :
    RReads h p sv bs (rd S zero ⟨pl, 0, 0⟩) V r h' := by
  unfold rd
  rw [if_pos rfl]
  simp only [hS]
  exact ⟨hf, hV, .mk' hp⟩
theorem rrd_err {α : Type} {h h' : Heap} {p : Nat} {sv : Value} {bs : List UInt8} {pl pl' : Nat} {e : Int} {S : Nat → Except Int (α × Nat)} {zero : α} {V : α → Value → Heap → Prop} {r : Value} (hS : S pl = .error e) (he : e ≠ 0) (hf : Fr (fun i => i = p) h h') (hV : V zero r h') (hp : RR h' p sv bs pl' e pl) :
    RReads h p sv bs (rd S zero ⟨pl, 0, 0⟩) V r h' := by
  unfold rd
  rw [if_pos rfl]
  simp only [hS]
  exact ⟨hf, hV, ⟨pl', fun h0 => absurd h0 he, hp⟩⟩
theorem rrd_bad {α : Type} {h h' : Heap} {p : Nat} {sv : Value} {bs : List UInt8} {st : RSt} {S : Nat → Except Int (α × Nat)} {zero : α} {V : α → Value → Heap → Prop} {r : Value} (he : st.e ≠ 0) (hf : Fr (fun i => i = p) h h') (hV : V zero r h') (hp : RRs h' p sv bs st) :
    RReads h p sv bs (rd S zero st) V r h' := by
  unfold rd
  rw [if_neg he]
  exact ⟨hf, hV, hp⟩
theorem RNum_bad {h : Heap} {p : Nat} {sv : Value} {bs : List UInt8} {pl : Nat} {e fa : Int} (hr : RR h p sv bs pl e fa) (he : e ≠ 0) :
    Runs Tryz.prog T0 (.fn fn_zuQ) [.pointer (some ⟨p, 0, none⟩)] h (fun r h' => r = .int .i64 0 ∧ h' = h) (fun _ _ => False) := by
  haveI : HGet h p _ := ⟨hr.get⟩
  refine zuQ_runs ?_
  refine stpDP ?_
  refine O.call' (Rtake_bad hr he) (fun r h1 hq => ?_)
  obtain ⟨rfl, rfl⟩ := hq
  refine stpDP ?_
  refine C.ifN (fun _ => ?_) (fun h => absurd h he)
  refine stpDP ?_
  exact ⟨rfl, rfl⟩
set_option maxHeartbeats 2000000 in
theorem RNum_ok {h : Heap} {p : Nat} {sv : Value} {bs : List UInt8} {pl : Nat} (hr : RR h p sv bs pl 0 0) :
    Runs Tryz.prog T0 (.fn fn_zuQ) [.pointer (some ⟨p, 0, none⟩)] h (RReads h p sv bs (rd (numS bs) 0 ⟨pl, 0, 0⟩) fun a r _ => r = .int .i64 (a : Nat)) (fun _ _ => False) := by
  haveI : HGet h p _ := ⟨hr.get⟩
  have hsm := hr.small
  have hbt := (bs.getD pl 0).toNat_lt
  refine zuQ_runs ?_
  refine stpDP ?_
  refine O.call' (Rtake_ok (n := 1) (a := pl) hr) (fun r h1 hq => ?_)
  obtain ⟨hf1, ⟨hle1, ho1, hnew1, hr1⟩ | ⟨hlt1, rfl, hr1⟩⟩ := hq
  · have hd1 : (bs.drop pl).take 1 = [bs.getD pl 0] := by
      have := take_succ_getD (l := bs.drop pl) (k := 0) (by simp; omega)
      simpa [List.getD_eq_getElem?_getD] using this
    rw [hd1] at ho1
    obtain ⟨a1, cap1, rfl, hl1, hc1⟩ := ho1.rd
    obtain ⟨b1, o1, sp1, rfl, hb1, hcc1⟩ := hc1 (by omega)
    have hcell1 : Cell h1 b1 o1 (.int .u8 (bs.getD pl 0).toNat) := ⟨hcc1⟩
    haveI : HGet h1 p _ := ⟨hr1.get⟩
    generalize hk : (bs.getD pl 0).toNat = k at *
    refine stpDP ?_
    refine C.if (fun h8 => ?_) (fun h8 => ?_)
    · refine stpDP ?_
      refine O.call' (Fails_ok (x := 5) (a := pl) hr1) (fun r h2 hq => ?_)
      obtain ⟨hr2, hf2⟩ := hq
      rw [if_pos rfl] at hr2
      haveI : HGet h2 p _ := ⟨hr2.get⟩
      refine stpDP ?_
      refine rrd_err (e := 5) ?_ (by omega) (hf1.trans' hf2) rfl hr2
      unfold numS
      rw [hk, if_neg (by omega), if_pos (by omega)]
    · refine stpDP ?_
      refine O.call' (Rtake_ok (n := k) (a := pl) hr1) (fun r h2 hq => ?_)
      obtain ⟨hf2, ⟨hle2, ho2, hnew2, hr2⟩ | ⟨hlt2, rfl, hr2⟩⟩ := hq
      · generalize hd : (bs.drop (pl + 1)).take k = d at ho2
        have hdl : d.length = k := by rw [← hd, List.length_take, List.length_drop]; omega
        obtain ⟨a2, cap2, rfl, hl2, hc2⟩ := ho2.rd
        have hf12 := hf1.trans' hf2
        haveI : HGet h2 p _ := ⟨hr2.get⟩
        have hbn : bigN d < 18446744073709551616 := by
          have := bigN_lt d
          have h2 : 256 ^ d.length ≤ 256 ^ 8 := Nat.pow_le_pow_right (by omega) (by rw [hdl]; omega)
          omega
        refine stpDP ?_
        refine loop2 zuQ_l0_M 6 7 (fun m v6 v7 h' => ∃ i : Nat, i ≤ k ∧ m = k - i ∧ v7 = .int .i64 i ∧ v6 = .int .u64 (bigN (d.take i)) ∧ h2 = h') ?_ k ⟨0, by omega, rfl, rfl, rfl, rfl⟩
        rintro m v6 v7 h3 x40 x41 x42 x43 x44 x45 x46 x47 x48 x49 x50 x51 x52 x53 ⟨i, hi, rfl, rfl, rfl, rfl⟩
        refine stpDP ?_
        refine C.if (fun hlt => ?_) (fun hge => ?_)
        · obtain ⟨b2, o2, sp2, rfl, hb2, hcc2⟩ := hc2 (by omega)
          rw [Nat.mul_one] at hcc2
          haveI := Go.Vm.byte_cell (k := i) hcc2 (by omega)
          have h8' := bigN_take_lt (l := d) (k := i) (by omega)
          have hbt2 := (d.getD i 0).toNat_lt
          have hs := bigN_take (l := d) (k := i) (by omega)
          refine stpDP ?_
          refine O.how (XOp.shl8 ⟨by omega, by omega⟩) ?_
          refine stpDP ?_
          refine O.how (XOp.orByte (by omega) (by omega)) ?_
          refine stpDP ?_
          exact loop2a 6 7 (k - (i + 1)) (by omega) ⟨i + 1, by omega, rfl, rfl, by rw [hs], rfl⟩
        · obtain rfl : i = k := by omega
          rw [List.take_of_length_le (by omega)]
          refine stpDP ?_
          refine O.dec (fun hpos => ?_) (fun hzero => ?_)
          · obtain ⟨b2, o2, sp2, rfl, hb2, hcc2⟩ := hc2 (by omega)
            rw [Nat.mul_one] at hcc2
            haveI := Go.Vm.byte_cell (k := 0) hcc2 (by omega)
            refine stpDP ?_
            refine O.dec (fun hfirst => ?_) (fun hfirst => ?_)
            · refine stpDP ?_
              refine O.call' (Fails_ok (x := 5) (a := pl) hr2) (fun r h4 hq => ?_)
              obtain ⟨hr4, hf4⟩ := hq
              rw [if_pos rfl] at hr4
              haveI : HGet h4 p _ := ⟨hr4.get⟩
              refine stpDP ?_
              refine rrd_err (e := 5) ?_ (by omega) (hf12.trans' hf4) rfl hr4
              unfold numS
              rw [hk, hd, if_neg (by omega), if_neg (by omega), if_neg (by omega), if_pos (.inl ⟨by omega, by omega⟩)]
            · refine stpDP ?_
              refine O.howT (XOp.shr63 ⟨by omega, by omega⟩) ?_
              refine stpDP ?_
              refine C.if (fun hbig => ?_) (fun hsmall => ?_)
              · refine stpDP ?_
                refine O.call' (Fails_ok (x := 5) (a := pl) hr2) (fun r h4 hq => ?_)
                obtain ⟨hr4, hf4⟩ := hq
                rw [if_pos rfl] at hr4
                haveI : HGet h4 p _ := ⟨hr4.get⟩
                refine stpDP ?_
                refine rrd_err (e := 5) ?_ (by omega) (hf12.trans' hf4) rfl hr4
                unfold numS
                rw [hk, hd, if_neg (by omega), if_neg (by omega), if_neg (by omega), if_pos (.inr (by omega))]
              · refine stpDP ?_
                refine rrd_ok (a := bigN d) ?_ hf12 rfl hr2
                unfold numS
                rw [hk, hd, if_neg (by omega), if_neg (by omega), if_neg (by omega), if_neg (fun h => h.elim (fun h => hfirst (by have := h.2; omega)) fun h => by omega)]
          · refine stpDP ?_
            refine O.howT (XOp.shr63 ⟨by omega, by omega⟩) ?_
            refine stpDP ?_
            refine C.if (fun hbig => ?_) (fun hsmall => ?_)
            · refine stpDP ?_
              refine O.call' (Fails_ok (x := 5) (a := pl) hr2) (fun r h4 hq => ?_)
              obtain ⟨hr4, hf4⟩ := hq
              rw [if_pos rfl] at hr4
              haveI : HGet h4 p _ := ⟨hr4.get⟩
              refine stpDP ?_
              refine rrd_err (e := 5) ?_ (by omega) (hf12.trans' hf4) rfl hr4
              unfold numS
              rw [hk, hd, if_neg (by omega), if_neg (by omega), if_neg (by omega), if_pos (.inr (by omega))]
            · refine stpDP ?_
              refine rrd_ok (a := bigN d) ?_ hf12 rfl hr2
              unfold numS
              rw [hk, hd, if_neg (by omega), if_neg (by omega), if_neg (by omega), if_neg (fun h => h.elim (fun h => by omega) fun h => by omega)]
      · haveI : HGet h2 p _ := ⟨hr2.get⟩
        refine stpDP ?_
        refine loop2 zuQ_l0_M 6 7 (fun m v6 v7 h' => v7 = .int .i64 0 ∧ v6 = .int .u64 0 ∧ h2 = h') ?_ 0 ⟨rfl, rfl, rfl⟩
        rintro m v6 v7 h3 x40 x41 x42 x43 x44 x45 x46 x47 x48 x49 x50 x51 x52 x53 ⟨rfl, rfl, rfl⟩
        refine stpDP ?_
        refine O.howT (XOp.shr63 ⟨by omega, by omega⟩) ?_
        refine stpDP ?_
        simp only [show (decide ((0 : Int) < ((0 : Nat) : Int))) = false from rfl, Bool.false_eq_true, if_false]
        refine stpDP ?_
        refine rrd_err (e := 6) ?_ (by omega) (hf1.trans' hf2) rfl hr2
        unfold numS
        rw [hk, if_neg (by omega), if_neg (by omega), if_pos (by omega)]
  · haveI : HGet h1 p _ := ⟨hr1.get⟩
    refine stpDP ?_
    refine rrd_err (e := 6) ?_ (by omega) hf1 rfl hr1
    unfold numS
    rw [if_pos (by omega)]
end Go.Proofs.YtagmnpeilgnbdaaGreat.A

namespace Go.Proofs.YtagmnpeilgnbdaaGreat.A
open Go Go.Vm
set_option maxRecDepth 10000
set_option linter.unusedVariables false
theorem RNum_run {h : Heap} {p : Nat} {sv : Value} {bs : List UInt8} {st : RSt} (hp : RRs h p sv bs st) :
    Runs Tryz.prog T0 (.fn fn_zuQ) [.pointer (some ⟨p, 0, none⟩)] h (RReads h p sv bs (rd (numS bs) 0 st) fun a r _ => r = .int .i64 (a : Nat)) (fun _ _ => False) := by
  obtain ⟨st1, e, fa⟩ := st
  obtain ⟨pl, h1, h2⟩ := hp.ex
  by_cases he : e = 0
  · subst he
    obtain ⟨rfl, h3⟩ := h1 rfl
    have h3 : fa = 0 := h3
    subst h3
    exact RNum_ok h2
  · refine (RNum_bad h2 he).imp fun r h' ⟨hz, hh⟩ => ?_
    subst hh
    exact rrd_bad he Fr.refl hz hp
theorem RNew_ok {h : Heap} {v : Value} {l : List UInt8} (hr : Rd h 1 v (bcells l) l.length) (hs : l.length < 1048576) :
    Runs Tryz.prog T0 (.fn fn_znQ) [v] h (fun r h' => ∃ p sv, r = .pointer (some ⟨p, 0, none⟩) ∧ h.n ≤ p ∧ (∀ i, ownedBy sv i → h.n ≤ i) ∧ RRs h' p sv l ⟨0, 0, 0⟩ ∧ Fr (fun _ => False) h h') (fun _ _ => False) := by
  refine znQ_runs ?_
  refine stpDP ?_
  have hz : Own (h.push (.cells [] 0)) 1 (.slice (some ⟨h.n, 0, none⟩) 0 0) [] 0 := .lit (by simp) (by rw [Heap.get_push, if_pos rfl])
  have hnew' := (Rd.keep (S := fun _ => False) hr (Fr.refl.push (o := .cells [] 0)) fun _ _ => id).new (size := 1)
  refine O.append hz (hnew' [.int .u8 0]) (by rw [bcells_len]; omega) (bcells_one l) (by omega) (by omega) (by omega) (fun v' h' ho h2 h3 => ?_)
  rw [Nat.zero_add, List.nil_append] at ho
  have hf : Fr (fun _ => False) h h' := (Fr.refl.push (o := .cells [] 0)).trans (S := fun _ => False) h2 (fun i hi ho => by
    have : h.n = i := ho
    omega)
  have hn := hf.n
  have hnew : ∀ i, ownedBy v' i → h.n ≤ i := fun i hi => by
    rcases h3 i hi with h4 | h4
    · have : h.n = i := h4
      omega
    · simp at h4; omega
  obtain ⟨a, cap, rfl, hlen, _⟩ := ho.rd
  refine stpDP ?_
  refine ⟨h'.n, _, rfl, hn, hnew, .mk' ⟨by omega, hs, by simp, by rw [Heap.get_push, if_pos rfl]; rfl, ho.keep (S := fun _ => False) Fr.refl.push fun _ _ => id, fun hi => ?_⟩, hf.push⟩
  have := ho.lt hi
  omega
end Go.Proofs.YtagmnpeilgnbdaaGreat.A

namespace Go.Proofs.YtagmnpeilgnbdaaGreat.A
open Go Go.Vm
set_option maxRecDepth 10000
set_option linter.unusedVariables false
theorem lset_mid : ∀ (a b : List Value) (v w : Value), lset (a ++ w :: b) a.length v = a ++ v :: b
  | [], b, v, w => rfl
  | x :: a, b, v, w => by
    show x :: lset (a ++ w :: b) a.length v = _
    rw [lset_mid a b v w]; rfl
theorem lset_part {d : List UInt8} {z : List Value} {i : Nat} (hi : i < d.length) (hz : i < z.length) :
    lset (bcells (d.take i) ++ z.drop i) i (.int .u8 (d.getD i 0).toNat) = bcells (d.take (i + 1)) ++ z.drop (i + 1) := by
  have hl : (bcells (d.take i)).length = i := by rw [bcells_len, List.length_take]; omega
  have h1 : z.drop i = z[i] :: z.drop (i + 1) := List.drop_eq_getElem_cons hz
  have h2 := lset_mid (bcells (d.take i)) (z.drop (i + 1)) (.int .u8 (d.getD i 0).toNat) z[i]
  rw [hl] at h2
  rw [h1, h2]
  have h3 : d.take (i + 1) = d.take i ++ [d.getD i 0] := take_succ_getD hi
  rw [h3]
  simp [bcells]
theorem z32_len : z32.length = 32 := rfl
theorem RHash_run {h : Heap} {p : Nat} {sv : Value} {bs : List UInt8} {st : RSt} (hp : RRs h p sv bs st) :
    Runs Tryz.prog T0 (.fn fn_zsQ) [.pointer (some ⟨p, 0, none⟩)] h (RReads h p sv bs (rd (partS 32 bs) zb32 st) fun l r _ => r = .agg ⟨bcells l⟩ ∧ l.length = 32) (fun _ _ => False) := by
  obtain ⟨st1, e, fa⟩ := st
  obtain ⟨pl, h1, h2⟩ := hp.ex
  have hlt := h2.lt
  have hown := fun {i : Nat} (hi : ownedBy sv i) => h2.own.lt hi
  haveI : HGet h p _ := ⟨h2.get⟩
  haveI : BLt p h := ⟨h2.lt⟩
  refine zsQ_runs ?_
  refine stpDP ?_
  have hf0 : Fr (fun i => i = p) h ((h.push (AObj.cells z32 0)).push (AObj.cells z32 0)) := Fr.refl.push.push
  have h20 : RR ((h.push (AObj.cells z32 0)).push (AObj.cells z32 0)) p sv bs pl e fa := h2.none Fr.refl.push.push
  by_cases he : e = 0
  · subst he
    obtain ⟨rfl, h3⟩ := h1 rfl
    have h3 : fa = 0 := h3
    subst h3
    refine O.call' (Rtake_ok (n := 32) (a := pl) h20) (fun r h3 hq => ?_)
    obtain ⟨hf3, hq⟩ := hq
    have hA : HGet h3 h.n (.cells z32 0) := hf3.keep (b := h.n) (HGet.push (k := BLt.new) (g := HGet.new)) (by simp; omega) (by omega)
    have hB : HGet h3 (h.push (AObj.cells z32 0)).n (.cells z32 0) := hf3.keep (b := (h.push (AObj.cells z32 0)).n) HGet.new (by simp) (by simp; omega)
    have hn3 := hf3.n
    simp only [Heap.n_push] at hn3
    rcases hq with ⟨hle, ho, hnew, hr3⟩ | ⟨hlt3, rfl, hr3⟩
    · generalize hd : (bs.drop pl).take 32 = d at ho
      have hdl : d.length = 32 := by rw [← hd, List.length_take, List.length_drop]; omega
      obtain ⟨a, cap, rfl, hl, hc⟩ := ho.rd
      obtain ⟨b, o, sp, rfl, hb, hcc⟩ := hc (by omega)
      rw [Nat.mul_one] at hcc
      have hbn : h.n + 2 ≤ b := by have := hnew b rfl; simpa using this
      refine stpDP ?_
      refine loop1 zsQ_l0_M 5 (fun m v5 h' => ∃ i : Nat, i ≤ 32 ∧ m = 32 - i ∧ v5 = .int .i64 i ∧ h'.get (h.push (AObj.cells z32 0)).n = .cells (bcells (d.take i) ++ z32.drop i) 0 ∧ Fr (fun j => j = (h.push (AObj.cells z32 0)).n) h3 h') ?_ 32 ⟨0, by omega, rfl, rfl, hB.eq, Fr.refl⟩
      rintro m v5 h4 x12 x13 x14 x15 x16 x17 x18 x19 x20 x21 x22 x23 ⟨i, hi, rfl, rfl, hg, hf4⟩
      haveI : HGet h4 (h.push (AObj.cells z32 0)).n _ := ⟨hg⟩
      have hn4 := hf4.n
      refine stpDP ?_
      refine C.if (fun hlt => ?_) (fun hge => ?_)
      · have hcc4 : cellsAt h4 b o 32 = some (bcells d) := by rw [cellsAt_keep hf4 hb (by simp; omega)]; exact hcc
        haveI := Go.Vm.byte_cell (k := i) hcc4 (by omega)
        have hcl : (bcells (d.take i) ++ z32.drop i).length = 32 := by rw [List.length_append, bcells_len, List.length_take, List.length_drop, z32_len]; omega
        refine stpDP ?_
        refine O.by0 (XOp.mkStore1 (P := Tryz.prog) (h := h4) (c := bcells (d.take i) ++ z32.drop i) (r := (h.push (AObj.cells z32 0)).n) (o := i) (v := .int .u8 (d.getD i 0).toNat) (sp := none) (by omega)).eq rfl ?_
        refine stpDP ?_
        refine loop1a 5 (32 - (i + 1)) (by omega) ⟨i + 1, by omega, rfl, rfl, ?_, Fr.set hf4 fun _ => rfl⟩
        rw [Heap.get_set, if_pos rfl, lset_part (by omega) (by rw [z32_len]; omega)]
      · obtain rfl : i = 32 := by omega
        rw [List.take_of_length_le (by omega), List.drop_of_length_le (by rw [z32_len]; omega), List.append_nil] at hg
        haveI := l32 hdl
        haveI : HGet h4 (h.push (AObj.cells z32 0)).n _ := ⟨hg⟩
        haveI : HGet h4 h.n _ := hf4.keep hA (by omega) (by simp)
        refine stpDP ?_
        refine rrd_ok (a := d) (pl' := pl + 32) ?_ (Fr.set (hf0.trans' (hf3.trans' (Fr.refl)) |>.trans (S := fun i => i = p) hf4 fun j hj hb => ?_) fun hlt => by omega) ⟨rfl, hdl⟩ ((hr3.keep hf4 (by simp; omega) fun j hj => ?_).keep (S := fun j => j = h.n) (Fr.refl.set fun _ => rfl) (by omega) fun j hj => ?_)
        · unfold partS
          rw [if_neg (by omega), hd]
        · have : j = (h.push (AObj.cells z32 0)).n := hb
          simp at this
          omega
        · have := hown hj
          simp
          omega
        · have := hown hj
          omega
    · refine stpDP ?_
      refine loop1 zsQ_l0_M 5 (fun m v5 h' => v5 = .int .i64 0 ∧ h3 = h') ?_ 0 ⟨rfl, rfl⟩
      rintro m v5 h4 x12 x13 x14 x15 x16 x17 x18 x19 x20 x21 x22 x23 ⟨rfl, rfl⟩
      refine stpDP ?_
      refine rrd_err (e := 6) ?_ (by omega) (Fr.set (hf0.trans' hf3) fun hlt => by omega) ⟨rfl, rfl⟩ (hr3.keep (S := fun j => j = h.n) (Fr.refl.set fun _ => rfl) (by omega) fun j hj => ?_)
      · unfold partS
        rw [if_pos (by omega)]
      · have := hown hj
        omega
  · refine O.call' (Rtake_bad h20 he) (fun r h3 hq => ?_)
    obtain ⟨rfl, rfl⟩ := hq
    refine stpDP ?_
    refine loop1 zsQ_l0_M 5 (fun m v5 h' => v5 = .int .i64 0 ∧ (h.push (AObj.cells z32 0)).push (AObj.cells z32 0) = h') ?_ 0 ⟨rfl, rfl⟩
    rintro m v5 h4 x12 x13 x14 x15 x16 x17 x18 x19 x20 x21 x22 x23 ⟨rfl, rfl⟩
    refine stpDP ?_
    refine rrd_bad he (Fr.set hf0 fun hlt => by omega) ⟨rfl, rfl⟩ ((hp.none Fr.refl.push.push).keep (S := fun j => j = h.n) (Fr.refl.set fun _ => rfl) (by omega) fun j hj => ?_)
    have := hown hj
    omega
end Go.Proofs.YtagmnpeilgnbdaaGreat.A

namespace Go.Proofs.YtagmnpeilgnbdaaGreat.A
open Go Go.Vm
set_option maxRecDepth 10000
set_option linter.unusedVariables false
theorem z4_len : z4.length = 4 := rfl
theorem RKey_run {h : Heap} {p : Nat} {sv : Value} {bs : List UInt8} {st : RSt} (hp : RRs h p sv bs st) :
    Runs Tryz.prog T0 (.fn fn_ztQ) [.pointer (some ⟨p, 0, none⟩)] h (RReads h p sv bs (rd (partS 4 bs) zb4 st) fun l r _ => r = .agg ⟨bcells l⟩ ∧ l.length = 4) (fun _ _ => False) := by
  obtain ⟨st1, e, fa⟩ := st
  obtain ⟨pl, h1, h2⟩ := hp.ex
  have hlt := h2.lt
  have hown := fun {i : Nat} (hi : ownedBy sv i) => h2.own.lt hi
  haveI : HGet h p _ := ⟨h2.get⟩
  haveI : BLt p h := ⟨h2.lt⟩
  refine ztQ_runs ?_
  refine stpDP ?_
  have hf0 : Fr (fun i => i = p) h ((h.push (AObj.cells z4 0)).push (AObj.cells z4 0)) := Fr.refl.push.push
  have h20 : RR ((h.push (AObj.cells z4 0)).push (AObj.cells z4 0)) p sv bs pl e fa := h2.none Fr.refl.push.push
  by_cases he : e = 0
  · subst he
    obtain ⟨rfl, h3⟩ := h1 rfl
    have h3 : fa = 0 := h3
    subst h3
    refine O.call' (Rtake_ok (n := 4) (a := pl) h20) (fun r h3 hq => ?_)
    obtain ⟨hf3, hq⟩ := hq
    have hA : HGet h3 h.n (.cells z4 0) := hf3.keep (b := h.n) (HGet.push (k := BLt.new) (g := HGet.new)) (by simp; omega) (by omega)
    have hB : HGet h3 (h.push (AObj.cells z4 0)).n (.cells z4 0) := hf3.keep (b := (h.push (AObj.cells z4 0)).n) HGet.new (by simp) (by simp; omega)
    have hn3 := hf3.n
    simp only [Heap.n_push] at hn3
    rcases hq with ⟨hle, ho, hnew, hr3⟩ | ⟨hlt3, rfl, hr3⟩
    · generalize hd : (bs.drop pl).take 4 = d at ho
      have hdl : d.length = 4 := by rw [← hd, List.length_take, List.length_drop]; omega
      obtain ⟨a, cap, rfl, hl, hc⟩ := ho.rd
      obtain ⟨b, o, sp, rfl, hb, hcc⟩ := hc (by omega)
      rw [Nat.mul_one] at hcc
      have hbn : h.n + 2 ≤ b := by have := hnew b rfl; simpa using this
      refine stpDP ?_
      refine loop1 ztQ_l0_M 5 (fun m v5 h' => ∃ i : Nat, i ≤ 4 ∧ m = 4 - i ∧ v5 = .int .i64 i ∧ h'.get (h.push (AObj.cells z4 0)).n = .cells (bcells (d.take i) ++ z4.drop i) 0 ∧ Fr (fun j => j = (h.push (AObj.cells z4 0)).n) h3 h') ?_ 4 ⟨0, by omega, rfl, rfl, hB.eq, Fr.refl⟩
      rintro m v5 h4 x12 x13 x14 x15 x16 x17 x18 x19 x20 x21 x22 x23 ⟨i, hi, rfl, rfl, hg, hf4⟩
      haveI : HGet h4 (h.push (AObj.cells z4 0)).n _ := ⟨hg⟩
      have hn4 := hf4.n
      refine stpDP ?_
      refine C.if (fun hlt => ?_) (fun hge => ?_)
      · have hcc4 : cellsAt h4 b o 4 = some (bcells d) := by rw [cellsAt_keep hf4 hb (by simp; omega)]; exact hcc
        haveI := Go.Vm.byte_cell (k := i) hcc4 (by omega)
        have hcl : (bcells (d.take i) ++ z4.drop i).length = 4 := by rw [List.length_append, bcells_len, List.length_take, List.length_drop, z4_len]; omega
        refine stpDP ?_
        refine O.by0 (XOp.mkStore1 (P := Tryz.prog) (h := h4) (c := bcells (d.take i) ++ z4.drop i) (r := (h.push (AObj.cells z4 0)).n) (o := i) (v := .int .u8 (d.getD i 0).toNat) (sp := none) (by omega)).eq rfl ?_
        refine stpDP ?_
        refine loop1a 5 (4 - (i + 1)) (by omega) ⟨i + 1, by omega, rfl, rfl, ?_, Fr.set hf4 fun _ => rfl⟩
        rw [Heap.get_set, if_pos rfl, lset_part (by omega) (by rw [z4_len]; omega)]
      · obtain rfl : i = 4 := by omega
        rw [List.take_of_length_le (by omega), List.drop_of_length_le (by rw [z4_len]; omega), List.append_nil] at hg
        obtain ⟨a1, a2, a3, a4, rfl⟩ := four hdl
        rw [bcells4] at hg
        haveI : HGet h4 (h.push (AObj.cells z4 0)).n _ := ⟨hg⟩
        haveI : HGet h4 h.n _ := hf4.keep hA (by omega) (by simp)
        refine stpDP ?_
        refine rrd_ok (a := [a1, a2, a3, a4]) (pl' := pl + 4) ?_ (Fr.set (hf0.trans' (hf3.trans' (Fr.refl)) |>.trans (S := fun i => i = p) hf4 fun j hj hb => ?_) fun hlt => by omega) ⟨rfl, rfl⟩ ((hr3.keep hf4 (by simp; omega) fun j hj => ?_).keep (S := fun j => j = h.n) (Fr.refl.set fun _ => rfl) (by omega) fun j hj => ?_)
        · unfold partS
          rw [if_neg (by omega), hd]
        · have : j = (h.push (AObj.cells z4 0)).n := hb
          simp at this
          omega
        · have := hown hj
          simp
          omega
        · have := hown hj
          omega
    · refine stpDP ?_
      refine loop1 ztQ_l0_M 5 (fun m v5 h' => v5 = .int .i64 0 ∧ h3 = h') ?_ 0 ⟨rfl, rfl⟩
      rintro m v5 h4 x12 x13 x14 x15 x16 x17 x18 x19 x20 x21 x22 x23 ⟨rfl, rfl⟩
      refine stpDP ?_
      refine rrd_err (e := 6) ?_ (by omega) (Fr.set (hf0.trans' hf3) fun hlt => by omega) ⟨rfl, rfl⟩ (hr3.keep (S := fun j => j = h.n) (Fr.refl.set fun _ => rfl) (by omega) fun j hj => ?_)
      · unfold partS
        rw [if_pos (by omega)]
      · have := hown hj
        omega
  · refine O.call' (Rtake_bad h20 he) (fun r h3 hq => ?_)
    obtain ⟨rfl, rfl⟩ := hq
    refine stpDP ?_
    refine loop1 ztQ_l0_M 5 (fun m v5 h' => v5 = .int .i64 0 ∧ (h.push (AObj.cells z4 0)).push (AObj.cells z4 0) = h') ?_ 0 ⟨rfl, rfl⟩
    rintro m v5 h4 x12 x13 x14 x15 x16 x17 x18 x19 x20 x21 x22 x23 ⟨rfl, rfl⟩
    refine stpDP ?_
    refine rrd_bad he (Fr.set hf0 fun hlt => by omega) ⟨rfl, rfl⟩ ((hp.none Fr.refl.push.push).keep (S := fun j => j = h.n) (Fr.refl.set fun _ => rfl) (by omega) fun j hj => ?_)
    have := hown hj
    omega
end Go.Proofs.YtagmnpeilgnbdaaGreat.A

namespace Go.Proofs.YtagmnpeilgnbdaaGreat.A
open Go Go.Vm
set_option maxRecDepth 10000
set_option linter.unusedVariables false
theorem REnd_run {h : Heap} {p : Nat} {sv : Value} {bs : List UInt8} {st : RSt} (hp : RRs h p sv bs st) :
    Runs Tryz.prog T0 (.fn fn_zqQ) [.pointer (some ⟨p, 0, none⟩)] h (fun r h' => r = .agg ⟨[.int .i64 (endS bs st).1, .int .i64 (endS bs st).2]⟩ ∧ Fr (fun _ => False) h h') (fun _ _ => False) := by
  obtain ⟨pl, h1, hr⟩ := hp.ex
  obtain ⟨a, cap, rfl, hlen, _⟩ := hr.own.rd
  haveI : HGet h p _ := ⟨hr.get⟩
  haveI : BLt p h := ⟨hr.lt⟩
  refine zqQ_runs ?_
  unfold endS
  refine stpP ?_
  refine D.dec (fun he => ?_) (fun he => ?_)
  · obtain ⟨h2, h3⟩ := h1 he
    refine stpP ?_
    refine C.if (fun hlt => ?_) (fun hge => ?_)
    · refine stpP ?_
      rw [if_pos ⟨he, by omega⟩, h2]
      exact ⟨rfl, Fr.refl.push⟩
    · refine stpP ?_
      rw [if_neg (by omega)]
      exact ⟨rfl, Fr.refl.push⟩
  · refine stpP ?_
    rw [if_neg (fun h => he h.1)]
    exact ⟨rfl, Fr.refl.push⟩
theorem RRs.zero {h : Heap} {p : Nat} {sv : Value} {bs : List UInt8} {st : RSt} (hp : RRs h p sv bs st) (h0 : (endS bs st).1 = 0) : (endS bs st).2 = 0 := by
  unfold endS at h0 ⊢
  split at h0
  · cases h0
  · rename_i hc
    rw [if_neg hc]
    obtain ⟨_, h1, _⟩ := hp.ex
    exact (h1 h0).2
end Go.Proofs.YtagmnpeilgnbdaaGreat.A

namespace Go.Proofs.YtagmnpeilgnbdaaGreat.A
open Go Go.Vm
set_option maxRecDepth 10000
set_option linter.unusedVariables false
theorem RWord_run {h : Heap} {p : Nat} {sv : Value} {bs : List UInt8} {st : RSt} (hp : RRs h p sv bs st) :
    Runs Tryz.prog T0 (.fn fn_zvQ) [.pointer (some ⟨p, 0, none⟩)] h (RReads h p sv bs (rd (wordS bs) 0 st) fun n r _ => r = .int .u64 (n : Nat)) (fun _ _ => False) := by
  obtain ⟨st1, e, fa⟩ := st
  obtain ⟨pl, h1, h2⟩ := hp.ex
  haveI : HGet h p _ := ⟨h2.get⟩
  refine zvQ_runs ?_
  refine stpP ?_
  by_cases he : e = 0
  · subst he
    obtain ⟨rfl, h3⟩ := h1 rfl
    have h3 : fa = 0 := h3
    subst h3
    refine O.call' (Rtake_ok (n := 8) (a := pl) h2) (fun r h3 hq => ?_)
    obtain ⟨hf3, ⟨hle, ho, hnew, hr3⟩ | ⟨hlt3, rfl, hr3⟩⟩ := hq
    · generalize hd : (bs.drop pl).take 8 = d at ho
      have hdl : d.length = 8 := by rw [← hd, List.length_take, List.length_drop]; omega
      obtain ⟨a, cap, rfl, hl, hc⟩ := ho.rd
      obtain ⟨b, o, sp, rfl, hb, hcc⟩ := hc (by omega)
      rw [Nat.mul_one] at hcc
      refine stpP ?_
      refine loop2 zvQ_l0_M 3 5 (fun m v3 v5 h' => ∃ i : Nat, i ≤ 8 ∧ m = 8 - i ∧ v5 = .int .i64 i ∧ v3 = .int .u64 (bigN (d.take i)) ∧ h3 = h') ?_ 8 ⟨0, by omega, rfl, rfl, rfl, rfl⟩
      rintro m v3 v5 h4 x12 x13 x14 x15 x16 x17 x18 x19 x20 x21 x22 x23 x24 x25 ⟨i, hi, rfl, rfl, rfl, rfl⟩
      refine stpP ?_
      refine C.if (fun hlt => ?_) (fun hge => ?_)
      · haveI := Go.Vm.byte_cell (k := i) hcc (by omega)
        have h8' := bigN_take_lt (l := d) (k := i) (by omega)
        have hbt2 := (d.getD i 0).toNat_lt
        have hs := bigN_take (l := d) (k := i) (by omega)
        refine stpP ?_
        refine O.how (XOp.shl8 ⟨by omega, by omega⟩) ?_
        refine stpP ?_
        refine O.how (XOp.orByte (by omega) (by omega)) ?_
        refine stpP ?_
        exact loop2a 3 5 (8 - (i + 1)) (by omega) ⟨i + 1, by omega, rfl, rfl, by rw [hs], rfl⟩
      · obtain rfl : i = 8 := by omega
        rw [List.take_of_length_le (by omega)]
        refine stpP ?_
        refine rrd_ok (a := bigN d) (pl' := pl + 8) ?_ hf3 rfl hr3
        unfold wordS
        rw [if_neg (by omega), hd]
    · refine stpP ?_
      refine loop2 zvQ_l0_M 3 5 (fun m v3 v5 h' => v5 = .int .i64 0 ∧ v3 = .int .u64 0 ∧ h3 = h') ?_ 0 ⟨rfl, rfl, rfl⟩
      rintro m v3 v5 h4 x12 x13 x14 x15 x16 x17 x18 x19 x20 x21 x22 x23 x24 x25 ⟨rfl, rfl, rfl⟩
      refine stpP ?_
      refine rrd_err (e := 6) ?_ (by omega) hf3 rfl hr3
      unfold wordS
      rw [if_pos (by omega)]
  · refine O.call' (Rtake_bad h2 he) (fun r h3 hq => ?_)
    obtain ⟨rfl, rfl⟩ := hq
    refine stpP ?_
    refine loop2 zvQ_l0_M 3 5 (fun m v3 v5 h' => v5 = .int .i64 0 ∧ v3 = .int .u64 0 ∧ h3 = h') ?_ 0 ⟨rfl, rfl, rfl⟩
    rintro m v3 v5 h4 x12 x13 x14 x15 x16 x17 x18 x19 x20 x21 x22 x23 x24 x25 ⟨rfl, rfl, rfl⟩
    refine stpP ?_
    exact rrd_bad he Fr.refl rfl hp
theorem RRs.le {h : Heap} {p : Nat} {sv : Value} {bs : List UInt8} {st : RSt} (hp : RRs h p sv bs st) (he : st.e = 0) : st.pl ≤ bs.length := let ⟨_, h1, h2⟩ := hp.ex; (h1 he).1 ▸ h2.at_le
end Go.Proofs.YtagmnpeilgnbdaaGreat.A

namespace Go.Proofs.YtagmnpeilgnbdaaGreat.A
open Go Go.Vm
set_option maxRecDepth 10000
set_option linter.unusedVariables false
abbrev x1G (a b c d : UInt8) : List Value := bcells [a, b, c, d] ++ (z32 ++ [.int .u64 0])
abbrev x2G (a b c d : UInt8) (hs : List UInt8) : List Value := bcells [a, b, c, d] ++ (bcells hs ++ [.int .u64 0])
section
variable {a b c d : UInt8} {hs : List UInt8} {n : Nat}
theorem ovK : Over zG 0 (bcells [a, b, c, d]) (x1G a b c d) := ⟨by show 0 + 4 ≤ 37; decide, rfl⟩
theorem ovH (h2 : hs.length = 32) : Over (x1G a b c d) 4 (bcells hs) (x2G a b c d hs) := ⟨by rw [bcells_len, h2]; show 4 + 32 ≤ 37; decide, over_mid2 _ _ _ _ _ rfl (by have := bcells_len hs; rw [this, h2]; rfl) (fun e => by have := congrArg List.length e; rw [bcells_len, h2] at this; simp at this)⟩
theorem ovW (h2 : hs.length = 32) : Over (x2G a b c d hs) 36 [.int .u64 (n : Int)] (sgOf [a, b, c, d] hs n).cells := ⟨by simp [bcells_len, h2], by
  have := over_mid2 (bcells [a, b, c, d] ++ bcells hs) [.int .u64 0] [] 36 [.int .u64 (n : Int)] (by simp [bcells_len, h2]) rfl (by simp)
  rw [sgOf_cells h2]
  simpa only [List.append_assoc, List.append_nil, List.nil_append, List.cons_append] using this⟩
theorem fillK : Fill zG [(0, 4, .agg ⟨bcells [a, b, c, d]⟩)] (x1G a b c d) := by
  haveI : LenN (bcells [a, b, c, d]) 4 := ⟨rfl⟩
  haveI := @ovK a b c d
  exact inferInstance
theorem len1G : LenN (x1G a b c d) 37 := ⟨rfl⟩
theorem ovZ1 : Over zG 0 (x1G a b c d) (x1G a b c d) := ⟨by show 0 + 37 ≤ 37; decide, over_all _ _ rfl⟩
theorem one1G : One (x1G a b c d) := ⟨by
  rw [List.all_append, bcells_one]
  rfl⟩
end
set_option maxHeartbeats 64000000 in
theorem RDecodeG_ok {h : Heap} {v : Value} {bs : List UInt8} (hv : Rd h 1 v (bcells bs) bs.length) (hs : bs.length ≤ 3000) :
    Runs Tryz.prog T0 (.fn fn_zebQ) [v] h
      (fun r h' => ((∃ (L : List Sg) (w : Nat) (u : Value), decG bs = .ok L ∧ r = .tuple ⟨[.pointer (some ⟨w, 0, none⟩), .agg ⟨[.int .i64 0, .int .i64 0]⟩]⟩ ∧ DbAt h' w u 4096 L ∧ h.n ≤ w ∧ (∀ i, ownedBy u i → h.n ≤ i)) ∨ (∃ (e a : Int), decG bs = .error (e, a) ∧ r = .tuple ⟨[.pointer none, .agg ⟨[.int .i64 e, .int .i64 a]⟩]⟩)) ∧ Fr (fun _ => False) h h') (fun _ _ => False) := by
  obtain ⟨av, cv, rfl, hvl, hvc⟩ := id hv
  refine zebQ_runs ?_
  refine stp ?_
  have hf0 : Fr (fun _ => False) h (h.push (.cells [.int .i64 0, .int .i64 0] 0)) := Fr.refl.push
  refine O.call' (RNew_ok (hv.keep hf0 fun _ _ => id) (by omega)) (fun r h1 hr => ?_)
  obtain ⟨p, sv, rfl, hp1, hsv, hr1, hf1⟩ := hr
  simp only [Heap.n_push] at hp1 hsv
  have hf01 : Fr (fun _ => False) h h1 := hf0.trans' hf1
  have hn01 := hf1.n
  simp only [Heap.n_push] at hn01
  have hp1n := hr1.lt
  have hA1 : HGet h1 h.n (.cells [.int .i64 0, .int .i64 0] 0) := hf1.keep (b := h.n) HGet.new (by simp) id
  refine stp ?_
  have hf2 : Fr (fun _ => False) h1 (h1.push (.cells [.int .i64 4096, .slice none 0 0] 0)) := Fr.refl.push
  have gw2 : (h1.push (.cells [.int .i64 4096, .slice none 0 0] 0)).get h1.n = .cells [.int .i64 4096, .slice none 0 0] 0 := HGet.new.eq
  have n2 : (h1.push (.cells [.int .i64 4096, .slice none 0 0] 0)).n = h1.n + 1 := rfl
  have hr2 := hr1.none hf2
  have hA2 : HGet (h1.push (.cells [.int .i64 4096, .slice none 0 0] 0)) h.n _ := hf2.keep hA1 (by omega) id
  have hF2 := hf01.trans' hf2
  generalize h1.push (.cells [.int .i64 4096, .slice none 0 0] 0) = h2 at *
  refine O.call' (RNum_run hr2) (fun r h3 hr => ?_)
  obtain ⟨hf3, rfl, hr3⟩ := hr
  have hn23 := hf3.n
  have hA3 : HGet h3 h.n (.cells [.int .i64 0, .int .i64 0] 0) := hf3.keep hA2 (by omega) (by omega)
  have gw3 : h3.get h1.n = .cells [.int .i64 4096, .slice none 0 0] 0 := by rw [hf3.get _ (by omega) (by omega)]; exact gw2
  have hF3 : Fr (fun _ => False) h h3 := Fr.trans (S := fun _ => False) hF2 hf3 fun i hi ho => by omega
  have hdec : decG bs = if 4096 < (rd (numS bs) 0 ⟨0, 0, 0⟩).1 then .error (4, 0) else goG bs (rd (numS bs) 0 ⟨0, 0, 0⟩).1 [] (rd (numS bs) 0 ⟨0, 0, 0⟩).2 := rfl
  have he0 := num_e (bs := bs) (st := ⟨0, 0, 0⟩)
  rw [hdec]
  clear hdec
  generalize rd (numS bs) 0 ⟨0, 0, 0⟩ = n at *
  obtain ⟨n, st0⟩ := n
  simp only at hr3 he0 ⊢
  haveI : BLt h.n h3 := ⟨by omega⟩
  haveI : HGet h3 h.n _ := hA3
  refine stp ?_
  refine C.if (fun hbig => ?_) (fun hsm => ?_)
  · refine stp ?_
    exact ⟨.inr ⟨4, 0, by rw [if_pos (by omega)], rfl⟩, Fr.set hF3 fun hlt => by omega⟩
  rw [if_neg (by omega)]
  refine stp ?_
  have hd3 : DbAt h3 h1.n (.slice none 0 0) 4096 [] := ⟨gw3, by omega, .none, fun q => q, by simp⟩
  have hsv3 : ∀ i, ownedBy sv i → i < h3.n := fun i hi => hr3.own_lt hi
  have hsv1 : ∀ i, ownedBy sv i → i < h1.n := fun i hi => hr1.own_lt hi
  have hz : st0.e ≠ 0 → goG bs n [] st0 = .error (st0.e, st0.fa) := fun hne => by
    have hn0 : n = 0 := by
      rcases Nat.eq_zero_or_pos n with q | q
      · exact q
      · exact absurd (he0 (by omega)) hne
    rw [hn0, goG, show endS bs st0 = (st0.e, st0.fa) from by unfold endS; rw [if_neg (fun q => hne q.1)], if_neg (fun q => hne (Prod.mk.inj q).1)]
  refine loop1 zebQ_l0_M 7 (fun q v7 hx => ∃ (k : Nat) (L : List Sg) (st : RSt) (u : Value), k ≤ n ∧ q = n - k ∧ v7 = .int .i64 k ∧ (st.e = 0 → L.length = k ∧ goG bs n [] st0 = goG bs (n - k) L st ∧ SrtG L ∧ 44 * k ≤ st.pl) ∧ (st.e ≠ 0 → goG bs n [] st0 = .error (st.e, st.fa)) ∧ DbAt hx h1.n u 4096 L ∧ (∀ i, ownedBy u i → h3.n ≤ i) ∧ RRs hx p sv bs st ∧ Fr (fun i => i = p ∨ i = h1.n) h3 hx) ?_ n ⟨0, [], st0, _, by omega, rfl, rfl, fun _ => ⟨rfl, rfl, List.Pairwise.nil, by omega⟩, hz, hd3, fun i hi => hi.elim, hr3, Fr.refl⟩
  clear hd3 hr3 gw3
  rintro m v7 h' x2 x8 x9 x20 x21 x22 x23 x24 x25 x26 x27 x28 x29 x30 x31 x32 x33 x34 x35 x36 x37 x38 x39 x40 x41 x42 x43 x44 x45 x46 x47 x48 x49 x50 x51 x52 x53 x54 x55 x56 x57 x58 x59 x60 x61 x62 x63 x64 x65 x66 x67 x68 x69 x70 x71 x72 x73 x74 x75 x76 x77 x78 x79 x80 ⟨k, L, st, u, hk, rfl, rfl, hok, hbad, hd, hnew, hr, hF⟩
  have nF := hF.n
  have hlp := hr.lt
  obtain ⟨pl, hpl, hRR⟩ := hr.ex
  haveI : HGet h' p _ := ⟨hRR.get⟩
  haveI : BLt p h' := ⟨hRR.lt⟩
  have hAk : HGet h' h.n _ := hF.keep hA3 (by omega) (by omega)
  have hFh : Fr (fun _ => False) h h' := Fr.trans (S := fun _ => False) hF3 hF fun i hi e => by omega
  have exit : ¬ (k < n ∧ st.e = 0) → ((endS bs st).1 = 0 → goG bs n [] st0 = .ok L ∧ (endS bs st).2 = 0) ∧ ((endS bs st).1 ≠ 0 → goG bs n [] st0 = .error (endS bs st)) := fun hno => by
    by_cases he : st.e = 0
    · obtain ⟨h1, h2, _, _⟩ := hok he
      have : n - k = 0 := by
        rcases Nat.lt_or_ge k n with q | q
        · exact absurd ⟨q, he⟩ hno
        · omega
      rw [this, goG] at h2
      have hz0 := hr.zero
      refine ⟨fun q => ?_, fun q => ?_⟩
      · have q2 := hz0 q
        rw [h2, if_pos (Prod.ext q q2)]
        exact ⟨rfl, q2⟩
      · rw [h2, if_neg (fun e => q (by rw [e]))]
    · have hE : endS bs st = (st.e, st.fa) := by unfold endS; rw [if_neg (fun q => he q.1)]
      rw [hE]
      exact ⟨fun q => absurd q he, fun _ => hbad he⟩
  by_cases hlt : k < n ∧ st.e = 0
  · obtain ⟨hlt, hst0⟩ := hlt
    haveI q1 : ∀ {ts : List Value} {h : Heap} {O : Oper} {x z : Operand} [Ev ts x (.int .i64 (k : Nat))] [Ev ts z (.int .i64 (n : Nat))], XOp Tryz.prog ts h (.bin .lss O x z) (.bool true) h := xlss1 (by omega)
    haveI q2 : ∀ {ts : List Value} {h : Heap} {O : Oper} {x z : Operand} [Ev ts x (.int .i64 st.e)] [Ev ts z (.int .i64 0)], XOp Tryz.prog ts h (.bin .eql O x z) (.bool true) h := xeql1 hst0
    obtain ⟨hLk, hgo, hso, h44⟩ := hok hst0
    obtain ⟨rfl, _⟩ := hpl hst0
    have hple := hRR.at_le
    refine stp ?_
    have k1 := RKey_run hr
    generalize e1 : rd (partS 4 bs) zb4 st = A at k1
    obtain ⟨ak, st4⟩ := A
    refine O.call' k1 (fun r h6 hq => ?_)
    obtain ⟨hf6, ⟨rfl, hl6⟩, hr6⟩ := hq
    simp only at hl6 hr6
    obtain ⟨a1, a2, a3, a4, rfl⟩ := four hl6
    haveI := @fillK a1 a2 a3 a4
    haveI := @len1G a1 a2 a3 a4
    haveI := @ovZ1 a1 a2 a3 a4
    haveI := @one1G a1 a2 a3 a4
    refine stp ?_
    have hnp : p < h6.n := hr6.lt
    have n6 := hf6.n
    have hsv6 : ∀ i, ownedBy sv i → i < h6.n := fun i hi => by have := hsv3 i hi; omega
    have f7 : Fr (fun _ => False) h6 (h6.push (.cells (x1G a1 a2 a3 a4) 0)) := Fr.refl.push
    have g7 : (h6.push (.cells (x1G a1 a2 a3 a4) 0)).get h6.n = .cells (x1G a1 a2 a3 a4) 0 := HGet.new.eq
    have n7 : (h6.push (.cells (x1G a1 a2 a3 a4) 0)).n = h6.n + 1 := rfl
    have hr7 := hr6.none f7
    have hF7 : Fr (fun i => i = p) h' (h6.push (.cells (x1G a1 a2 a3 a4) 0)) := Fr.trans hf6 f7 fun _ _ e => e.elim
    generalize h6.push (.cells (x1G a1 a2 a3 a4) 0) = h7 at *
    have k2 := RHash_run hr7
    generalize e2 : rd (partS 32 bs) zb32 st4 = A at k2
    obtain ⟨hs', st5⟩ := A
    refine O.call' k2 (fun r h8 hq => ?_)
    obtain ⟨hf8, ⟨rfl, hl8⟩, hr8⟩ := hq
    simp only at hl8 hr8
    have n8 := hf8.n
    haveI : HGet h8 h6.n (.cells (x1G a1 a2 a3 a4) 0) := hf8.keep ⟨g7⟩ (by omega) (by omega)
    haveI : BLt h6.n h8 := ⟨by omega⟩
    haveI : LenN (bcells hs') 32 := ⟨by rw [bcells_len, hl8]⟩
    haveI := @ovH a1 a2 a3 a4 hs' hl8
    refine stp ?_
    have f9 : Fr (fun i => i = h6.n) h8 (h8.set h6.n (.cells (x2G a1 a2 a3 a4 hs') 0)) := Fr.refl.set fun _ => rfl
    have g9 : (h8.set h6.n (.cells (x2G a1 a2 a3 a4 hs') 0)).get h6.n = .cells (x2G a1 a2 a3 a4 hs') 0 := by rw [Heap.get_set, if_pos rfl]
    have n9 : (h8.set h6.n (.cells (x2G a1 a2 a3 a4 hs') 0)).n = h8.n := rfl
    have hr9 := hr8.keep f9 (by omega) fun i hi => by have := hsv6 i hi; omega
    have hF9 : Fr (fun i => i = p) h' (h8.set h6.n (.cells (x2G a1 a2 a3 a4 hs') 0)) := Fr.trans (hF7.trans' hf8) f9 fun i hi e => by omega
    generalize h8.set h6.n (.cells (x2G a1 a2 a3 a4 hs') 0) = h9 at *
    have k3 := RWord_run hr9
    generalize e3 : rd (wordS bs) 0 st5 = A at k3
    obtain ⟨w, st6⟩ := A
    refine O.call' k3 (fun r h10 hq => ?_)
    obtain ⟨hf10, rfl, hr10⟩ := hq
    simp only at hr10
    have n10 := hf10.n
    haveI : HGet h10 h6.n (.cells (x2G a1 a2 a3 a4 hs') 0) := hf10.keep ⟨g9⟩ (by omega) (by omega)
    haveI : BLt h6.n h10 := ⟨by omega⟩
    have hS : sgR bs st = sgOf [a1, a2, a3, a4] hs' w := by
      unfold sgR
      rw [e1]
      simp only
      rw [e2]
      simp only
      rw [e3]
    have hT : stR bs st = st6 := by
      unfold stR
      rw [e1]
      simp only
      rw [e2]
      simp only
      rw [e3]
    have hov := @ovW a1 a2 a3 a4 hs' w hl8
    rw [← hS] at hov
    have hgo1 : goG bs (n - k) L st = if st6.e ≠ 0 then .error (st6.e, st6.fa)
      else if L ≠ [] ∧ ltG (at' L (L.length - 1)) (sgR bs st) = false then .error (9, (st.pl : Int))
      else goG bs (n - (k + 1)) (L ++ [sgR bs st]) st6 := by
      rw [show n - k = (n - (k + 1)) + 1 from by omega, goG, hT]
    have hform := fun he : st6.e = 0 => sgR_form (bs := bs) (st := st) (by rw [hT]; exact he)
    rw [hT] at hform
    generalize sgR bs st = S at *
    refine stp ?_
    have f11 : Fr (fun i => i = h6.n) h10 (h10.set h6.n (.cells S.cells 0)) := Fr.refl.set fun _ => rfl
    have g11 : (h10.set h6.n (.cells S.cells 0)).get h6.n = .cells S.cells 0 := by rw [Heap.get_set, if_pos rfl]
    have n11 : (h10.set h6.n (.cells S.cells 0)).n = h10.n := rfl
    have hr11 := hr10.keep f11 (by omega) fun i hi => by have := hsv6 i hi; omega
    have hF11 : Fr (fun i => i = p) h' (h10.set h6.n (.cells S.cells 0)) := Fr.trans (hF9.trans' hf10) f11 fun i hi e => by omega
    generalize h10.set h6.n (.cells S.cells 0) = h11 at *
    have hnu : ∀ i, ownedBy u i → i ≠ p := fun i hi => by have := hnew i hi; omega
    have hd11 := hd.keep hF11 (by omega) hnu
    obtain ⟨pl6, _, hRR6⟩ := hr11.ex
    obtain ⟨au, cu, rfl, _, _⟩ := id hd11.ow.rd
    haveI : HGet h11 p _ := ⟨hRR6.get⟩
    haveI : BLt p h11 := ⟨hRR6.lt⟩
    haveI : HGet h11 h6.n _ := ⟨g11⟩
    haveI : BLt h6.n h11 := ⟨by omega⟩
    haveI : HGet h11 h1.n _ := ⟨hd11.g⟩
    haveI : BLt h1.n h11 := ⟨hd11.lw⟩
    have hA11 : HGet h11 h.n _ := hF11.keep hAk (by omega) (by omega)
    haveI := hA11
    haveI : BLt h.n h11 := ⟨by omega⟩
    by_cases he6 : st6.e = 0
    case neg =>
      haveI q3 : ∀ {ts : List Value} {h : Heap} {O : Oper} {x z : Operand} [Ev ts x (.int .i64 st6.e)] [Ev ts z (.int .i64 0)], XOp Tryz.prog ts h (.bin .eql O x z) (.bool false) h := xeql0 he6
      refine stp ?_
      refine D.one ?_ ?_
      · repeat refine stab_cons inferInstance ?_
        rfl
      have f12 : Fr (fun _ => False) h11 (h11.push (.cells S.cells 0)) := Fr.refl.push
      have l12 : Rd (h11.push (.cells S.cells 0)) 37 (.slice (some ⟨h11.n, 0, none⟩) 1 1) S.cells 1 := Rd.mk (size := 37) (n := 1) (cap := 1) (sp := none) (o := 0) (by simp) (by rw [cellsAt_of (c := S.cells) (by rw [Heap.get_push, if_pos rfl]; rfl) (by rw [S.len]; decide), List.drop_zero, List.take_of_length_le (by rw [S.len]; decide)])
      have o12 := (hd11.keep f12 id fun _ _ => id).ow
      have n12 : (h11.push (.cells S.cells 0)).n = h11.n + 1 := rfl
      have hd12 := hd11.keep f12 id fun _ _ => id
      have hrX := hr11.none f12
      have hF12 := Fr.trans (S := fun i => i = p) hF11 f12 fun _ _ e => e.elim
      generalize h11.push (.cells S.cells 0) = h12 at *
      refine stp ?_
      refine D.appendC o12 (l12.new _) (by rw [S.len]) S.ones (by omega) (by omega) (by omega) (fun v13 h13 o13 f13 m13 => ?_)
      have n13 := f13.n
      have m13' : ∀ i, ownedBy v13 i → h3.n ≤ i := fun i hi => by
        rcases m13 i hi with q | q
        · exact hnew i q
        · omega
      have hF13 : Fr (fun i => i = p) h' h13 ∨ True := .inr trivial
      have hFu : Fr (fun i => i = p ∨ i = h1.n) h3 h13 := Fr.trans (Fr.trans hF hF12 fun _ _ e => .inl e) f13 fun i hi e => by have := hnew i e; omega
      have gw13 : h13.get h1.n = _ := (f13.get _ hd12.lw hd12.ap).trans hd12.g
      have hrY := hrX.keep f13 (fun e => by have := hnew p e; omega) fun i hi e => by have := hsv3 i hi; have := hnew i e; omega
      haveI : HGet h13 h1.n _ := ⟨gw13⟩
      haveI : BLt h1.n h13 := ⟨by omega⟩
      have o13' : Own h13 37 v13 (gcells (L ++ [S])) (L ++ [S]).length := by
        rw [gcells_append, show gcells [S] = S.cells from List.append_nil _, List.length_append, List.length_singleton]
        exact o13
      obtain ⟨a13, c13, e13, _, _⟩ := id o13.rd
      subst e13
      refine ⟨?_, ?_⟩
      · repeat refine stab_cons inferInstance ?_
        rfl
      refine stp ?_
      refine loop1a 7 (n - (k + 1)) (by omega) ⟨k + 1, L ++ [S], st6, _, by omega, rfl, rfl, fun q => absurd q he6, fun _ => by rw [hgo, hgo1, if_pos he6], ⟨by rw [Heap.get_set, if_pos rfl], by simp; omega, o13'.keep (S := fun i => i = h1.n) (Fr.refl.set fun _ => rfl) fun i hi e => by have := m13' i hi; omega, fun e => by have := m13' _ e; omega, by simp; omega⟩, m13', hrY.keep (S := fun i => i = h1.n) (Fr.refl.set fun _ => rfl) (by omega) fun i hi e => by have := hsv1 i hi; omega, hFu.set fun _ => .inr rfl⟩
    case pos =>
      haveI q3 : ∀ {ts : List Value} {h : Heap} {O : Oper} {x z : Operand} [Ev ts x (.int .i64 st6.e)] [Ev ts z (.int .i64 0)], XOp Tryz.prog ts h (.bin .eql O x z) (.bool true) h := xeql1 he6
      have hf6' := hform he6
      rcases Nat.eq_zero_or_pos k with hk0 | hk0
      · haveI z5 : ∀ {ts : List Value} {h : Heap} {O : Oper} {x z : Operand} [Ev ts x (.int .i64 (k : Nat))] [Ev ts z (.int .i64 0)], XOp Tryz.prog ts h (.bin .gtr O x z) (.bool false) h := xgtr0 (by omega)
        have hL0 : L = [] := List.length_eq_zero_iff.1 (by omega)
        have hso2 : SrtG (L ++ [S]) := by rw [hL0]; exact List.pairwise_singleton _ _
        have hgo2 : goG bs n [] st0 = goG bs (n - (k + 1)) (L ++ [S]) st6 := by rw [hgo, hgo1, if_neg (by omega), if_neg (fun q => q.1 hL0)]
        refine stp ?_
        refine D.one ?_ ?_
        · repeat refine stab_cons inferInstance ?_
          rfl
        have f12 : Fr (fun _ => False) h11 (h11.push (.cells S.cells 0)) := Fr.refl.push
        have l12 : Rd (h11.push (.cells S.cells 0)) 37 (.slice (some ⟨h11.n, 0, none⟩) 1 1) S.cells 1 := Rd.mk (size := 37) (n := 1) (cap := 1) (sp := none) (o := 0) (by simp) (by rw [cellsAt_of (c := S.cells) (by rw [Heap.get_push, if_pos rfl]; rfl) (by rw [S.len]; decide), List.drop_zero, List.take_of_length_le (by rw [S.len]; decide)])
        have o12 := (hd11.keep f12 id fun _ _ => id).ow
        have n12 : (h11.push (.cells S.cells 0)).n = h11.n + 1 := rfl
        have hd12 := hd11.keep f12 id fun _ _ => id
        have hrX := hr11.none f12
        have hF12 := Fr.trans (S := fun i => i = p) hF11 f12 fun _ _ e => e.elim
        generalize h11.push (.cells S.cells 0) = h12 at *
        refine stp ?_
        refine D.appendC o12 (l12.new _) (by rw [S.len]) S.ones (by omega) (by omega) (by omega) (fun v13 h13 o13 f13 m13 => ?_)
        have n13 := f13.n
        have m13' : ∀ i, ownedBy v13 i → h3.n ≤ i := fun i hi => by
          rcases m13 i hi with q | q
          · exact hnew i q
          · omega
        have hF13 : Fr (fun i => i = p) h' h13 ∨ True := .inr trivial
        have hFu : Fr (fun i => i = p ∨ i = h1.n) h3 h13 := Fr.trans (Fr.trans hF hF12 fun _ _ e => .inl e) f13 fun i hi e => by have := hnew i e; omega
        have gw13 : h13.get h1.n = _ := (f13.get _ hd12.lw hd12.ap).trans hd12.g
        have hrY := hrX.keep f13 (fun e => by have := hnew p e; omega) fun i hi e => by have := hsv3 i hi; have := hnew i e; omega
        haveI : HGet h13 h1.n _ := ⟨gw13⟩
        haveI : BLt h1.n h13 := ⟨by omega⟩
        have o13' : Own h13 37 v13 (gcells (L ++ [S])) (L ++ [S]).length := by
          rw [gcells_append, show gcells [S] = S.cells from List.append_nil _, List.length_append, List.length_singleton]
          exact o13
        obtain ⟨a13, c13, e13, _, _⟩ := id o13.rd
        subst e13
        refine ⟨?_, ?_⟩
        · repeat refine stab_cons inferInstance ?_
          rfl
        refine stp ?_
        refine loop1a 7 (n - (k + 1)) (by omega) ⟨k + 1, L ++ [S], st6, _, by omega, rfl, rfl, fun _ => ⟨by simp [hLk], hgo2, hso2, by omega⟩, fun q => absurd he6 q, ⟨by rw [Heap.get_set, if_pos rfl], by simp; omega, o13'.keep (S := fun i => i = h1.n) (Fr.refl.set fun _ => rfl) fun i hi e => by have := m13' i hi; omega, fun e => by have := m13' _ e; omega, by simp; omega⟩, m13', hrY.keep (S := fun i => i = h1.n) (Fr.refl.set fun _ => rfl) (by omega) fun i hi e => by have := hsv1 i hi; omega, hFu.set fun _ => .inr rfl⟩
      · haveI z5 : ∀ {ts : List Value} {h : Heap} {O : Oper} {x z : Operand} [Ev ts x (.int .i64 (k : Nat))] [Ev ts z (.int .i64 0)], XOp Tryz.prog ts h (.bin .gtr O x z) (.bool true) h := xgtr1 (by omega)
        have hL0 : L ≠ [] := fun e => by rw [e] at hLk; simp at hLk; omega
        obtain ⟨q, sx, cap, j, e, hq, hg⟩ := own_atG hd11.ow (by omega)
        injection e with ee1 ee2 ee3
        subst ee1
        haveI : HGet h11 q (.cells (gcells L ++ j) 37) := ⟨hg⟩
        haveI : BLt q h11 := ⟨hq⟩
        haveI : Sub (gcells L ++ j) ((L.length - 1) * 37) 37 (at' L (L.length - 1)).cells := gsub (by omega)
        haveI q7 : ∀ {ts : List Value} {h : Heap} {x z : Operand} [Ev ts x (.slice (some ⟨q, 0, some sx⟩) L.length cu)] [Ev ts z (.int .i64 ((k : Int) - 1))], XOp Tryz.prog ts h (.indexSl 37 x z) (.pointer (some ⟨q, (L.length - 1) * 37, none⟩)) h := fun {ts h x z} _ _ => by
          haveI : IdxOff 0 ((k : Int) - 1) 37 ((L.length - 1) * 37) := ⟨by rw [show ((k : Int) - 1).toNat = L.length - 1 from by omega]; omega⟩
          exact XOp.mkIndexSl (by omega)
        refine stp ?_
        refine D.callT (RLess_ok (a := at' L (L.length - 1)) (b := S)) (fun r h14 hr => rfl) (fun r h14 hr => ?_)
        obtain ⟨rfl, f14⟩ := hr
        have n14 := f14.n
        have hd14 := hd11.keep f14 id fun _ _ => id
        have hr14 := hr11.none f14
        have hF14 : Fr (fun i => i = p) h' h14 := Fr.trans hF11 f14 fun _ _ e => e.elim
        haveI : HGet h14 h6.n _ := f14.keep ⟨g11⟩ (by omega) id
        haveI : BLt h6.n h14 := ⟨by omega⟩
        haveI : HGet h14 h1.n _ := ⟨hd14.g⟩
        haveI : BLt h1.n h14 := ⟨hd14.lw⟩
        haveI : HGet h14 h.n _ := f14.keep hA11 (by omega) id
        haveI : BLt h.n h14 := ⟨by omega⟩
        cases hl : ltG (at' L (L.length - 1)) S with
        | false =>
          refine stp ?_
          exact ⟨.inr ⟨9, (st.pl : Int), by rw [hgo, hgo1, if_neg (by omega), if_pos ⟨hL0, hl⟩], rfl⟩, (Fr.trans (S := fun _ => False) hFh hF14 fun i hi e => by omega).set fun hlt => by omega⟩
        | true =>
          have hso2 : SrtG (L ++ [S]) := lastG hso fun q => by rw [hl] at q; cases q.2
          have hgo2 : goG bs n [] st0 = goG bs (n - (k + 1)) (L ++ [S]) st6 := by rw [hgo, hgo1, if_neg (by omega), if_neg (fun q => by rw [hl] at q; cases q.2)]
          refine stp ?_
          refine D.one ?_ ?_
          · repeat refine stab_cons inferInstance ?_
            rfl
          have f12 : Fr (fun _ => False) h14 (h14.push (.cells S.cells 0)) := Fr.refl.push
          have l12 : Rd (h14.push (.cells S.cells 0)) 37 (.slice (some ⟨h14.n, 0, none⟩) 1 1) S.cells 1 := Rd.mk (size := 37) (n := 1) (cap := 1) (sp := none) (o := 0) (by simp) (by rw [cellsAt_of (c := S.cells) (by rw [Heap.get_push, if_pos rfl]; rfl) (by rw [S.len]; decide), List.drop_zero, List.take_of_length_le (by rw [S.len]; decide)])
          have o12 := (hd14.keep f12 id fun _ _ => id).ow
          have n12 : (h14.push (.cells S.cells 0)).n = h14.n + 1 := rfl
          have hd12 := hd14.keep f12 id fun _ _ => id
          have hrX := hr14.none f12
          have hF12 := Fr.trans (S := fun i => i = p) hF14 f12 fun _ _ e => e.elim
          generalize h14.push (.cells S.cells 0) = h12 at *
          refine stp ?_
          refine D.appendC o12 (l12.new _) (by rw [S.len]) S.ones (by omega) (by omega) (by omega) (fun v13 h13 o13 f13 m13 => ?_)
          have n13 := f13.n
          have m13' : ∀ i, ownedBy v13 i → h3.n ≤ i := fun i hi => by
            rcases m13 i hi with q | q
            · exact hnew i q
            · omega
          have hF13 : Fr (fun i => i = p) h' h13 ∨ True := .inr trivial
          have hFu : Fr (fun i => i = p ∨ i = h1.n) h3 h13 := Fr.trans (Fr.trans hF hF12 fun _ _ e => .inl e) f13 fun i hi e => by have := hnew i e; omega
          have gw13 : h13.get h1.n = _ := (f13.get _ hd12.lw hd12.ap).trans hd12.g
          have hrY := hrX.keep f13 (fun e => by have := hnew p e; omega) fun i hi e => by have := hsv3 i hi; have := hnew i e; omega
          haveI : HGet h13 h1.n _ := ⟨gw13⟩
          haveI : BLt h1.n h13 := ⟨by omega⟩
          have o13' : Own h13 37 v13 (gcells (L ++ [S])) (L ++ [S]).length := by
            rw [gcells_append, show gcells [S] = S.cells from List.append_nil _, List.length_append, List.length_singleton]
            exact o13
          obtain ⟨a13, c13, e13, _, _⟩ := id o13.rd
          subst e13
          refine ⟨?_, ?_⟩
          · repeat refine stab_cons inferInstance ?_
            rfl
          refine stp ?_
          refine loop1a 7 (n - (k + 1)) (by omega) ⟨k + 1, L ++ [S], st6, _, by omega, rfl, rfl, fun _ => ⟨by simp [hLk], hgo2, hso2, by omega⟩, fun q => absurd he6 q, ⟨by rw [Heap.get_set, if_pos rfl], by simp; omega, o13'.keep (S := fun i => i = h1.n) (Fr.refl.set fun _ => rfl) fun i hi e => by have := m13' i hi; omega, fun e => by have := m13' _ e; omega, by simp; omega⟩, m13', hrY.keep (S := fun i => i = h1.n) (Fr.refl.set fun _ => rfl) (by omega) fun i hi e => by have := hsv1 i hi; omega, hFu.set fun _ => .inr rfl⟩
  · rcases Nat.lt_or_ge k n with hkn | hkn
    · have hne : st.e ≠ 0 := fun q => hlt ⟨hkn, q⟩
      haveI q1 : ∀ {ts : List Value} {h : Heap} {O : Oper} {x z : Operand} [Ev ts x (.int .i64 (k : Nat))] [Ev ts z (.int .i64 (n : Nat))], XOp Tryz.prog ts h (.bin .lss O x z) (.bool true) h := xlss1 (by omega)
      haveI q2 : ∀ {ts : List Value} {h : Heap} {O : Oper} {x z : Operand} [Ev ts x (.int .i64 st.e)] [Ev ts z (.int .i64 0)], XOp Tryz.prog ts h (.bin .eql O x z) (.bool false) h := xeql0 hne
      refine stp ?_
      have k3 := REnd_run hr
      obtain ⟨x1, x2⟩ := exit hlt
      generalize endS bs st = F at k3 x1 x2
      obtain ⟨E, A'⟩ := F
      simp only at k3 x1 x2
      refine O.call' k3 (fun r h5 hq => ?_)
      obtain ⟨rfl, hf5⟩ := hq
      have n5 := hf5.n
      have hA5 : HGet h5 h.n _ := hf5.keep hAk (by omega) id
      haveI := hA5
      haveI : BLt h.n h5 := ⟨by omega⟩
      have hd5 := hd.keep hf5 id fun _ _ => id
      have hFh5 := hFh.trans' hf5
      refine stp ?_
      refine C.ifN (fun hc => ?_) (fun hc => ?_)
      · refine stp ?_
        exact ⟨.inr ⟨E, A', x2 hc, rfl⟩, hFh5.push.set fun hlt => by omega⟩
      · obtain ⟨y1, y2⟩ := x1 hc
        subst hc y2
        refine stp ?_
        exact ⟨.inl ⟨L, h1.n, u, y1, rfl, (hd5.keep (S := fun _ => False) Fr.refl.push id fun _ _ => id).keep (S := fun i => i = h.n) (Fr.refl.set fun _ => rfl) (by omega) (fun i hi => by have := hnew i hi; omega), by omega, fun i hi => by have := hnew i hi; omega⟩, hFh5.push.set fun hlt => by omega⟩
    · haveI q1 : ∀ {ts : List Value} {h : Heap} {O : Oper} {x z : Operand} [Ev ts x (.int .i64 (k : Nat))] [Ev ts z (.int .i64 (n : Nat))], XOp Tryz.prog ts h (.bin .lss O x z) (.bool false) h := xlss0 (by omega)
      refine stp ?_
      have k3 := REnd_run hr
      obtain ⟨x1, x2⟩ := exit hlt
      generalize endS bs st = F at k3 x1 x2
      obtain ⟨E, A'⟩ := F
      simp only at k3 x1 x2
      refine O.call' k3 (fun r h5 hq => ?_)
      obtain ⟨rfl, hf5⟩ := hq
      have n5 := hf5.n
      have hA5 : HGet h5 h.n _ := hf5.keep hAk (by omega) id
      haveI := hA5
      haveI : BLt h.n h5 := ⟨by omega⟩
      have hd5 := hd.keep hf5 id fun _ _ => id
      have hFh5 := hFh.trans' hf5
      refine stp ?_
      refine C.ifN (fun hc => ?_) (fun hc => ?_)
      · refine stp ?_
        exact ⟨.inr ⟨E, A', x2 hc, rfl⟩, hFh5.push.set fun hlt => by omega⟩
      · obtain ⟨y1, y2⟩ := x1 hc
        subst hc y2
        refine stp ?_
        exact ⟨.inl ⟨L, h1.n, u, y1, rfl, (hd5.keep (S := fun _ => False) Fr.refl.push id fun _ _ => id).keep (S := fun i => i = h.n) (Fr.refl.set fun _ => rfl) (by omega) (fun i hi => by have := hnew i hi; omega), by omega, fun i hi => by have := hnew i hi; omega⟩, hFh5.push.set fun hlt => by omega⟩
end Go.Proofs.YtagmnpeilgnbdaaGreat.A

namespace Go.Proofs.YtagmnpeilgnbdaaGreat.A
open Go Go.Vm
set_option maxRecDepth 10000
set_option linter.unusedVariables false
theorem Rd.block_lt {h : Heap} {size n : Nat} {v : Value} {c : List Value} (hv : Rd h size v c n) {i : Nat} (hi : blockOf v i) : i < h.n := by
  obtain ⟨a, cap, rfl, _, hc⟩ := hv
  cases a with
  | none => exact hi.elim
  | some a =>
    obtain ⟨h1, h2⟩ := hi
    obtain ⟨b, o, sp, e, hb, _⟩ := hc h2
    cases e
    subst h1
    exact hb
end Go.Proofs.YtagmnpeilgnbdaaGreat.A

namespace Go.Proofs.YtagmnpeilgnbdaaGreat.A
open Go Go.Vm
set_option maxRecDepth 10000
set_option linter.unusedVariables false
theorem Lent.own {h : Heap} {lo : Nat} {v : Value} {l : List UInt8} (hv : Lent h lo v l) : Own h 1 v (bcells l) l.length := by
  obtain ⟨q, k, cap, j, rfl, hq, hc, hc2, hlo, hlt⟩ := hv.ex
  exact .grown (j := bcells lentTail ++ j) hlt (by omega) (by omega) (by rw [bcells_len, Nat.mul_one]) (by simp [bcells_len, lentTail]; omega) hq
theorem Lent.lo {h : Heap} {lo : Nat} {v : Value} {l : List UInt8} (hv : Lent h lo v l) : ∀ i, ownedBy v i → lo ≤ i ∧ i < h.n := by
  obtain ⟨q, k, cap, j, rfl, hq, hc, hc2, hlo, hlt⟩ := hv.ex
  intro i hi
  have hi : q = i := hi
  omega
end Go.Proofs.YtagmnpeilgnbdaaGreat.A

namespace Go.Proofs.YtagmnpeilgnbdaaGreat.A
open Go Go.Vm
set_option maxRecDepth 10000
set_option linter.unusedVariables false
theorem add_pos {most : Int} {L : List Sg} {s : Sg} (hp : ∀ s ∈ L, 0 ≤ s.sg) (hs : 0 ≤ s.sg) : ∀ x ∈ (addG most L s).1, 0 ≤ x.sg := by
  intro x hx
  unfold addG at hx
  split at hx
  · exact hp x hx
  · split at hx
    · exact hp x hx
    · rcases List.mem_cons.1 (insG_perm.mem_iff.1 hx) with rfl | q
      · exact hs
      · exact hp x q
end Go.Proofs.YtagmnpeilgnbdaaGreat.A

set_option maxRecDepth 100000
set_option linter.unusedVariables false
namespace Go.Proofs.YtagmnpeilgnbdaaGreat.A
open Go Go.Vm
abbrev fn_zjQ : FuncId := 3
def zjQ_c : ACode :=
 (.seq (.region [
 o1 3 (.box 29 (tm 1)),
 o1 4 (.mov (.const (.bool false)))]) (.seq (.seq (.region [
 o1 10 (.mov (tm 0)),
 o1 11 (.lenSl (tm 10)),
 o1 12 (.bin .gtr (so (.binOp .gtr 3 (tm 11) (.const (.int .i64 3000)) 3) 4) (tm 11) (.const (.int .i64 3000)))]) (.cond (tm 12)
 (.seq (.region [
 o1 13 (.callV (.func 4) []),
 o1 4 (.mov (tm 13))]) .ret)
 .skip)) (.seq (.region [
 o1 14 (.mov (tm 0)),
 o1 15 (.callV (.func 5) [(tm 14)]),
 o1 5 (.mov (tm 15))]) (.seq (.region [
 o1 17 (.mov (tm 5)),
 o1 18 (.callV (.func 6) [(tm 17)]),
 o1 16 (.mov (tm 18)),
 o1 19 (.extract 0 (tm 16)),
 o1 20 (.extract 1 (tm 16)),
 o1 7 (.alloc 35 [(.int .i64 0), (.int .i64 0)]),
 o1 6 (.mov (tm 19)),
 o3 (.store 2 (tm 7) (tm 20))]) (.seq (.region [
 o1 22 (.mov (tm 0)),
 o1 23 (.callV (.func 7) [(tm 22)]),
 o1 21 (.mov (tm 23)),
 o1 24 (.extract 0 (tm 21)),
 o1 25 (.extract 1 (tm 21)),
 o1 9 (.alloc 35 [(.int .i64 0), (.int .i64 0)]),
 o1 8 (.mov (tm 24)),
 o3 (.store 2 (tm 9) (tm 25))]) (.seq (.seq (.region [
 o1 26 (.load (some 2) (tm 7)),
 o1 27 (.load (some 2) (tm 9)),
 o1 28 (.bin .neq (so (.binOp .neq 35 (tm 26) (tm 27) 35) 4) (tm 26) (tm 27)),
 o1 29 (.mov (tm 28)),
 o5 30 (.mov (tm 6)) 29,
 o5 31 (.eq .ptr false (so (.binOp .eql 32 (tm 30) (.const (.pointer none)) 32) 4) (tm 30) (.const (.pointer none))) 29,
 o5 32 (.mov (tm 8)) 29,
 o5 33 (.eq .ptr false (so (.binOp .eql 38 (tm 32) (.const (.pointer none)) 38) 4) (tm 32) (.const (.pointer none))) 29,
 o5 34 (.bin .neq (so (.binOp .neq 4 (tm 31) (tm 33) 4) 4) (tm 31) (tm 33)) 29,
 o1 35 (.pick (tm 29) (.const (.bool true)) (tm 34)),
 o1 36 (.mov (tm 35)),
 o5 37 (.mov (tm 5)) 36,
 o5 38 (.mov (tm 0)) 36,
 o5 39 (.callV (.func 8) [(tm 37), (tm 38)]) 36,
 o5 40 (.raw (so (.unOp .not 4 (tm 39)) 4)) 36,
 o1 41 (.pick (tm 36) (.const (.bool true)) (tm 40))]) (.cond (tm 41)
 (.seq (.region [
 o1 4 (.mov (.const (.bool false)))]) .ret)
 .skip)) (.seq (.region [
 o1 42 (.mov (tm 5)),
 o1 43 (.callV (.func 9) [(tm 42)])]) (.seq (.regionD [
 o2 44 (.mov (tm 8)),
 o2 45 (.eq .ptr false (so (.binOp .eql 38 (tm 44) (.const (.pointer none)) 38) 4) (tm 44) (.const (.pointer none))),
 o2 46 (.mov (tm 45)),
 o5 47 (.mov (tm 6)) 46,
 o5 48 (.mov (tm 8)) 46,
 o5 49 (.load (some 37) (tm 3)) 46,
 ⟨some 50, .callV (.func 10) [(tm 47), (tm 48), (tm 49)], some (46, false), [], true⟩,
 ⟨some 51, .mov (tm 50), some (46, false), [], true⟩,
 o4 52 (.mov (tm 6)) 51,
 o4 53 (.load (some 37) (tm 3)) 51,
 o4 55 (.mov (tm 8)) 51,
 o4 56 (.load (some 37) (tm 3)) 51,
 ⟨some 54, .callV (.func 11) [(tm 52), (tm 53)], some (51, true), [(some 56, .load (some 37) (tm 3), some (51, true)), (some 55, .mov (tm 8), some (51, true))], false⟩,
 ⟨some 57, .callV (.func 12) [(tm 55), (tm 56)], some (51, true), [], true⟩,
 ⟨some 58, .bin .eql (so (.binOp .eql 33 (tm 54) (tm 57) 33) 4) (tm 54) (tm 57), some (51, true), [], true⟩,
 ⟨some 59, .pick (tm 51) (tm 58) (.const (.bool false)), some (46, false), [], true⟩,
 ⟨some 60, .mov (tm 59), some (46, false), [], true⟩,
 o4 61 (.mov (tm 6)) 60,
 o4 62 (.mov (tm 8)) 60,
 o4 63 (.load (some 37) (tm 3)) 60,
 ⟨some 64, .callV (.func 10) [(tm 61), (tm 62), (tm 63)], some (60, true), [], true⟩,
 ⟨some 65, .pick (tm 60) (tm 64) (.const (.bool false)), some (46, false), [], true⟩,
 o2 66 (.pick (tm 46) (.const (.bool true)) (tm 65)),
 o2 67 (.mov (tm 66)),
 ⟨some 68, .callV (.func 4) [], some (67, true), [], true⟩,
 o2 69 (.pick (tm 67) (tm 68) (.const (.bool false))),
 o2 4 (.mov (tm 69))]) .ret))))))))
def zjQ : AFunc := ⟨70, [(4, none)], zjQ_c, none⟩
theorem zjQ_t0 : tableOf Tryz.prog 3 = some zjQ := by kernel_rfl
theorem zjQ_t : T0 3 = some zjQ := withKept_t rfl (withTrue_t rfl zjQ_t0)
theorem zjQ_runs {v0 v1 : Value} {h : Heap} {R : RP} {X : XP} (k : RunC Tryz.prog T0 zjQ_c ⟨[v0, v1, U, U, U, U, U, U, U, U, U, U, U, U, U, U, U, U, U, U, U, U, U, U, U, U, U, U, U, U, U, U, U, U, U, U, U, U, U, U, U, U, U, U, U, U, U, U, U, U, U, U, U, U, U, U, U, U, U, U, U, U, U, U, U, U, U, U, U, U], [], h, none⟩ (bodyQ Tryz.prog T0 [(4, none)] R X)) :
 Runs Tryz.prog T0 (.fn 3) [v0, v1] h R X := Runs.fn zjQ_t rfl k
end Go.Proofs.YtagmnpeilgnbdaaGreat.A

namespace Go.Proofs.YtagmnpeilgnbdaaGreat.A
open Go Go.Vm
set_option maxRecDepth 10000
set_option linter.unusedVariables false
set_option maxHeartbeats 64000000 in
theorem SigsDecodes_true {h : Heap} {v : Value} {bs : List UInt8} {s : Sg} (hv : Rd h 1 v (bcells bs) bs.length) (hs : 0 ≤ s.sg) :
    Runs Tryz.prog T0 (.fn fn_zjQ) [v, .agg ⟨s.cells⟩] h (fun r h' => r = .bool true) (fun _ _ => False) := by
  obtain ⟨av, cv, rfl, hvl, hvc⟩ := id hv
  haveI qn : ∀ {ts : List Value} {h : Heap} {Q0 : Oper} {x z : Operand} {p : Int} [Ev ts x (.int .i64 p)] [Ev ts z (.int .i64 p)], XOp Tryz.prog ts h (.bin .neq Q0 x z) (.bool false) h := xneqI0 rfl
  haveI qs : ∀ {ts : List Value} {h : Heap} {Q0 : Oper} {x z : Operand} {p : Int} [Ev ts x (.int .i64 p)] [Ev ts z (.int .i64 p)], XOp Tryz.prog ts h (.bin .eql Q0 x z) (.bool true) h := xeql1 rfl
  refine zjQ_runs ?_
  refine stp ?_
  have f0 : Fr (fun _ => False) h (h.push (.cells s.cells 0)) := Fr.refl.push
  have g0 : (h.push (.cells s.cells 0)).get h.n = .cells s.cells 0 := HGet.new.eq
  have n0 : (h.push (.cells s.cells 0)).n = h.n + 1 := rfl
  have hv0 := hv.keep f0 fun _ _ => id
  generalize h.push (.cells s.cells 0) = h0 at *
  refine C.if (fun hlong => ?_) (fun hshort => ?_)
  · refine stp ?_
    refine O.call' zkQ_known (fun r h1 hr => ?_)
    obtain ⟨rfl, rfl⟩ := hr
    refine stp ?_
    rfl
  refine stp ?_
  refine O.call' (LentBytes_ok hv0 (by omega)) (fun r h1 hr => ?_)
  obtain ⟨hL, f1⟩ := hr
  have n1 := f1.n
  have hvv1 := hv0.keep f1 fun _ _ => id
  have hLr := hL.rd
  obtain ⟨aL, cL, rfl, _, _⟩ := id hLr
  refine stp ?_
  refine O.call' (gDecode_ok hLr (by omega)) (fun r h2 hr => ?_)
  obtain ⟨hr2, f2⟩ := hr
  have n2 := f2.n
  have hbl := fun {i : Nat} (hi : blockOf (.slice av bs.length cv) i) => Rd.block_lt hv0 hi
  rcases hr2 with ⟨L, p, m, c, l, eL, rfl, ha, hp1, hm1⟩ | ⟨e, a, eL, rfl⟩
  case inr =>
    refine stp ?_
    have f3 : Fr (fun _ => False) h2 (h2.push (.cells [.int .i64 e, .int .i64 a] 0)) := Fr.refl.push
    have n3 : (h2.push (.cells [.int .i64 e, .int .i64 a] 0)).n = h2.n + 1 := rfl
    have g3 : (h2.push (.cells [.int .i64 e, .int .i64 a] 0)).get h2.n = .cells [.int .i64 e, .int .i64 a] 0 := HGet.new.eq
    generalize h2.push (.cells [.int .i64 e, .int .i64 a] 0) = h3 at *
    refine O.call' (RDecodeG_ok ((hvv1.keep f2 fun _ _ => id).keep f3 fun _ _ => id) (by omega)) (fun r h4 hr => ?_)
    obtain ⟨hr4, f4⟩ := hr
    have n4 := f4.n
    haveI : HGet h4 h2.n (.cells [.int .i64 e, .int .i64 a] 0) := f4.keep ⟨g3⟩ (by omega) id
    haveI : BLt h2.n h4 := ⟨by omega⟩
    rcases hr4 with ⟨L', _, _, eL', _⟩ | ⟨e', a', eL', rfl⟩
    · rw [eL] at eL'
      cases eL'
    rw [eL] at eL'
    cases eL'
    refine stp ?_
    have F5 : Fr (fun _ => False) h1 (h4.push (.cells [.int .i64 e, .int .i64 a] 0)) := ((f2.trans' f3).trans' f4).push
    refine O.callT (zeQ_kept (Lent.kept (hL.keep F5 fun i hi => hi.elim) (hvv1.keep F5 fun _ _ => id) (by omega))) (fun r4 h6 hr => ?_)
    obtain ⟨rfl, rfl⟩ := hr
    refine stp ?_
    refine O.call' (OverBytes_ok (hL.keep F5 fun i hi => hi.elim).own (by omega)) (fun r h7 hr => ?_)
    refine stp ?_
    refine D.callT zkQ_known (fun r h8 hr => rfl) (fun r h8 hr => ?_)
    obtain ⟨rfl, rfl⟩ := hr
    refine stp ?_
    rfl
  have hlen := len_of_dec eL
  obtain ⟨hso, hpos, _, _⟩ := decG_good eL
  refine stp ?_
  have f3 : Fr (fun _ => False) h2 (h2.push (.cells [.int .i64 0, .int .i64 0] 0)) := Fr.refl.push
  have n3 : (h2.push (.cells [.int .i64 0, .int .i64 0] 0)).n = h2.n + 1 := rfl
  have g3 : (h2.push (.cells [.int .i64 0, .int .i64 0] 0)).get h2.n = .cells [.int .i64 0, .int .i64 0] 0 := HGet.new.eq
  have hpl := ha.lp
  have hml := ha.lm
  have ha3 := ha.keep f3 id id
  generalize h2.push (.cells [.int .i64 0, .int .i64 0] 0) = h3 at *
  refine O.call' (RDecodeG_ok ((hvv1.keep f2 fun _ _ => id).keep f3 fun _ _ => id) (by omega)) (fun r h4 hr => ?_)
  obtain ⟨hr4, f4⟩ := hr
  have n4 := f4.n
  haveI : HGet h4 h2.n (.cells [.int .i64 0, .int .i64 0] 0) := f4.keep ⟨g3⟩ (by omega) id
  haveI : BLt h2.n h4 := ⟨by omega⟩
  rcases hr4 with ⟨L', w, u, eL', rfl, hd, hw3, hu3⟩ | ⟨e', a', eL', _⟩
  case inr =>
    rw [eL] at eL'
    cases eL'
  rw [eL] at eL'
  injection eL' with eL'
  subst eL'
  have ha4 := ha3.keep f4 id id
  refine stp ?_
  have F5 : Fr (fun _ => False) h1 (h4.push (.cells [.int .i64 0, .int .i64 0] 0)) := ((f2.trans' f3).trans' f4).push
  have f5 : Fr (fun _ => False) h4 (h4.push (.cells [.int .i64 0, .int .i64 0] 0)) := Fr.refl.push
  have n5 : (h4.push (.cells [.int .i64 0, .int .i64 0] 0)).n = h4.n + 1 := rfl
  have ha5 := ha4.keep f5 id id
  have hd5 := hd.keep f5 id fun _ _ => id
  generalize h4.push (.cells [.int .i64 0, .int .i64 0] 0) = h5 at *
  refine O.callT (zeQ_kept (Lent.kept (hL.keep F5 fun i hi => hi.elim) (hvv1.keep F5 fun _ _ => id) (by omega))) (fun r4 h6 hr => ?_)
  obtain ⟨rfl, rfl⟩ := hr
  refine stp ?_
  have hin := hL.lo
  refine O.call' (OverBytes_ok (hL.keep F5 fun i hi => hi.elim).own (by omega)) (fun r h7 hr => ?_)
  have ha7 := ha5.keep hr (fun q => by have := hin _ q; omega) (fun q => by have := hin _ q; omega)
  have hd7 := hd5.keep hr (fun q => by have := hin _ q; omega) (fun i hi q => by have := hin i q; have := hu3 i hi; omega)
  have F7 : Fr (fun _ => False) h0 h7 := Fr.trans (f1.trans' F5) hr fun i hi q => by have := hin i q; omega
  have g7 : h7.get h.n = .cells s.cells 0 := by rw [F7.get _ (by omega) id]; exact g0
  have n7 := F7.n
  haveI : HGet h7 h.n _ := ⟨g7⟩
  haveI : BLt h.n h7 := ⟨by omega⟩
  refine stp ?_
  have hps := fun x hx => (hpos x hx).1
  refine D.callT (stands_ok ha7 hd7 hps) (fun r h8 hr => rfl) (fun r h8 hr => ?_)
  obtain ⟨rfl, f8⟩ := hr
  have n8 := f8.n
  have ha8 := ha7.keep f8 id id
  have hd8 := hd7.keep f8 id fun _ _ => id
  have g8 : h8.get h.n = .cells s.cells 0 := by rw [f8.get _ (by omega) id]; exact g7
  haveI : HGet h8 h.n _ := ⟨g8⟩
  haveI : BLt h.n h8 := ⟨by omega⟩
  refine stp ?_
  refine D.callT (gAdd_ok ha8 (s := s) (by omega)) (fun r h9 hr => ?_) (fun r h9 hr => ?_)
  · obtain ⟨rfl, _, f9⟩ := hr
    haveI : HGet h9 h.n (.cells s.cells 0) := f9.keep ⟨g8⟩ (by omega) (by omega)
    repeat refine stab_consT inferInstance ?_
    rfl
  obtain ⟨rfl, ⟨c9, l9, ha9⟩, f9⟩ := hr
  have n9 := f9.n
  have hd9 := hd8.keep f9 (by omega) fun i hi q => by have := hu3 i hi; omega
  have g9 : h9.get h.n = .cells s.cells 0 := by rw [f9.get _ (by omega) (by omega)]; exact g8
  haveI : HGet h9 h.n _ := ⟨g9⟩
  haveI : BLt h.n h9 := ⟨by omega⟩
  refine stp ?_
  refine D.callT (RAddG_ok hd9 hso (s := s) (by omega)) (fun r h10 hr => rfl) (fun r h10 hr => ?_)
  obtain ⟨rfl, ⟨u10, hd10, hu10⟩, f10⟩ := hr
  have n10 := f10.n
  have ha10 := ha9.keep f10 (by omega) (by omega)
  have g10 : h10.get h.n = .cells s.cells 0 := by rw [f10.get _ (by omega) (by omega)]; exact g9
  haveI : HGet h10 h.n _ := ⟨g10⟩
  haveI : BLt h.n h10 := ⟨by omega⟩
  refine stp ?_
  refine D.callT (stands_ok ha10 hd10 (add_pos hps hs)) (fun r h11 hr => rfl) (fun r h11 hr => ?_)
  obtain ⟨rfl, f11⟩ := hr
  refine stp ?_
  refine D.callT zkQ_known (fun r h12 hr => rfl) (fun r h12 hr => ?_)
  obtain ⟨rfl, rfl⟩ := hr
  refine stp ?_
  rfl
end Go.Proofs.YtagmnpeilgnbdaaGreat.A

namespace Go.Proofs.YtagmnpeilgnbdaaGreat.A
open Go Go.Vm
set_option maxRecDepth 10000
set_option linter.unusedVariables false
theorem fits_bytes {h : Heap} {m : Nat} {te : TypeId} {c : List Value} {len : Nat} (hu : Tryz.prog.underlying te = some (.int .u8)) (hs : Tryz.prog.cellsOf te = 1) (hl : c.length = len * Tryz.prog.cellsOf te) (hall : ∀ i, i < len → Fits Tryz.prog h (m + 1) te ((c.drop (i * Tryz.prog.cellsOf te)).take (Tryz.prog.cellsOf te))) : ∃ bs : List UInt8, c = bcells bs ∧ bs.length = len := by
  rw [hs, Nat.mul_one] at hl
  induction c generalizing len with
  | nil => exact ⟨[], rfl, by simpa using hl⟩
  | cons v c ih =>
    cases len with
    | zero => simp at hl
    | succ len =>
      have h0 := hall 0 (by omega)
      rw [hs] at h0
      unfold Fits at h0
      rw [hu] at h0
      simp only [Nat.zero_mul, List.drop_zero, List.take_succ_cons, List.take_zero] at h0
      obtain ⟨x, hx, hwf⟩ := h0
      injection hx with hx _
      obtain ⟨bs, rfl, hb⟩ := ih (len := len) (by simpa using hl) fun i hi => by
        have := hall (i + 1) (by omega)
        rw [hs] at this ⊢
        simpa using this
      have hr : 0 ≤ x ∧ x ≤ 255 := by
        simp [Lit.wf, IntKind.min, IntKind.max, IntKind.signed, IntKind.bits] at hwf
        omega
      refine ⟨UInt8.ofNat x.toNat :: bs, ?_, by simp [hb]⟩
      rw [hx]
      show Value.int .u8 x :: bcells bs = Value.int .u8 ((UInt8.ofNat x.toNat).toNat : Nat) :: bcells bs
      rw [u8nat (by omega)]
      congr 2
      omega
theorem fits_slice {h : Heap} {m : Nat} {t te : TypeId} {v : Value} (ht : Tryz.prog.underlying t = some (.slice te)) (hu : Tryz.prog.underlying te = some (.int .u8)) (hs : Tryz.prog.cellsOf te = 1) (hv : FitsV Tryz.prog h (m + 2) t v) : ∃ bs : List UInt8, Rd h 1 v (bcells bs) bs.length := by
  unfold FitsV at hv
  rw [ht] at hv
  unfold Fits at hv
  rw [ht] at hv
  rcases hv with hv | ⟨b, len, cap, c, hv, hb, hlc, hcap, hro, hl, hall⟩
  · injection hv with hv
    subst hv
    exact ⟨[], Rd.nil⟩
  · injection hv with hv
    subst hv
    obtain ⟨bs, rfl, hbl⟩ := fits_bytes hu hs hl hall
    refine ⟨bs, _, _, by rw [hbl], by simp [bcells], fun hn => ⟨b, 0, none, rfl, hb, ?_⟩⟩
    rw [cellsAt_of (c := bcells bs) (by rw [hro (by omega)]; rfl) (by simp [bcells]), List.drop_zero, List.take_of_length_le (by simp [bcells])]
end Go.Proofs.YtagmnpeilgnbdaaGreat.A

namespace Go.Proofs.YtagmnpeilgnbdaaGreat.A
open Go Go.Vm
set_option maxRecDepth 10000
set_option linter.unusedVariables false
theorem fits_flat32 {h : Heap} {m : Nat} {t te : TypeId} {c : List Value} (ht : Tryz.prog.underlying t = some (.array 32 te)) (hu : Tryz.prog.underlying te = some (.int .u8)) (hs : Tryz.prog.cellsOf te = 1) (hs32 : Tryz.prog.cellsOf t = 32) (hv : Fits Tryz.prog h (m + 2) t c) : ∃ bs : List UInt8, c = bcells bs ∧ bs.length = 32 := by
  unfold Fits at hv
  rw [ht] at hv
  exact fits_bytes hu hs (by rw [hv.1, hs32, hs]) hv.2
end Go.Proofs.YtagmnpeilgnbdaaGreat.A

namespace Go.Proofs.YtagmnpeilgnbdaaGreat.A
open Go Go.Vm
set_option maxRecDepth 100000
set_option linter.unusedVariables false
theorem wf_u64 {x : Int} (h : (Lit.int .u64 x).wf = true) : 0 ≤ x ∧ x ≤ 18446744073709551615 := by
  simp [Lit.wf, IntKind.min, IntKind.max, IntKind.signed, IntKind.bits] at h
  omega
theorem sig_fitG {h : Heap} {m : Nat} {te tk th tb tu : TypeId} {c : List Value} (f0 : fieldAt Tryz.prog te 0 = some (0, tk)) (f1 : fieldAt Tryz.prog te 1 = some (4, th)) (f2 : fieldAt Tryz.prog te 2 = some (36, tu)) (uk : Tryz.prog.underlying tk = some (.array 4 tb)) (uh : Tryz.prog.underlying th = some (.array 32 tb)) (ub : Tryz.prog.underlying tb = some (.int .u8)) (uu : Tryz.prog.underlying tu = some (.int .u64))
    (ce : Tryz.prog.cellsOf te = 37) (ck : Tryz.prog.cellsOf tk = 4) (ch : Tryz.prog.cellsOf th = 32) (cb : Tryz.prog.cellsOf tb = 1) (cu : Tryz.prog.cellsOf tu = 1) (hv : Fits Tryz.prog h (m + 3) te c) : ∃ s : Sg, (0 ≤ s.sg ∧ s.sg < 18446744073709551616) ∧ c = s.cells := by
  have hlen := hv.len f0
  rw [ce] at hlen
  have hk := hv.field f0
  rw [ck] at hk
  have hb : ∃ bs : List UInt8, (c.drop 0).take 4 = bcells bs ∧ bs.length = 4 := by
    unfold Fits at hk
    rw [uk] at hk
    exact fits_bytes ub cb (by rw [hk.1, ck, cb]) hk.2
  obtain ⟨bs, hb1, hb2⟩ := hb
  obtain ⟨a0, a1, a2, a3, rfl⟩ := four hb2
  obtain ⟨hs, k1, k1l⟩ := fits_flat32 (m := m) uh ub cb ch (hv.field f1)
  rw [ch] at k1
  obtain ⟨x, k2, w2⟩ := (hv.field f2).int uu
  rw [cu] at k2
  have hx := wf_u64 w2
  refine ⟨⟨a0, a1, a2, a3, hs, x, k1l⟩, ⟨hx.1, by show x < _; omega⟩, ?_⟩
  rw [← List.drop_zero (l := c), vsplit c 0 4, hb1, vsplit c (0 + 4) 32, k1, vsplit c (0 + 4 + 32) 1, k2, show c.drop (0 + 4 + 32 + 1) = [] from List.drop_eq_nil_of_le (by omega), List.append_nil]
  rfl
end Go.Proofs.YtagmnpeilgnbdaaGreat.A

namespace Go.Proofs.YtagmnpeilgnbdaaGreat.A
open Go Go.Vm
set_option maxRecDepth 100000
set_option linter.unusedVariables false
theorem sigV_fitG {h : Heap} {v : Value} (hv : FitsV Tryz.prog h 8 29 v) : ∃ s : Sg, (0 ≤ s.sg ∧ s.sg < 18446744073709551616) ∧ v = .agg ⟨s.cells⟩ := by
  have f0 : fieldAt Tryz.prog 29 0 = some (0, 24) := by kernel_rfl
  obtain ⟨cs, rfl, hc⟩ := FitsV.agg hv f0
  obtain ⟨s, h1, h2⟩ := sig_fitG (m := 5) f0 (th := 26) (tb := 5) (tu := 27) (by kernel_rfl) (by kernel_rfl) (by kernel_rfl) (by kernel_rfl) (by kernel_rfl) (by kernel_rfl) (by kernel_rfl) (by kernel_rfl) (by kernel_rfl) (by kernel_rfl) (by kernel_rfl) hc
  exact ⟨s, h1, by rw [h2]⟩
theorem SigsDecodes_run (h : Heap) (vs : List Value) (hf : FitsAll Tryz.prog h 8 [22, 29] vs) : Runs Tryz.prog T0 (.fn fn_zjQ) vs h (fun r _ => r = .bool true) (fun _ _ => False) := by
  obtain ⟨v1, _, rfl, h1, hf⟩ := hf.cons
  obtain ⟨v2, _, rfl, h2, hf⟩ := hf.cons
  obtain rfl := hf.nil
  obtain ⟨b, hb⟩ := fits_slice (te := 5) (by kernel_rfl) (by kernel_rfl) (by kernel_rfl) h1
  obtain ⟨s, hs, rfl⟩ := sigV_fitG h2
  exact SigsDecodes_true hb hs.1
end Go.Proofs.YtagmnpeilgnbdaaGreat.A

namespace Go.Proofs.YtagmnpeilgnbdaaGreat.A
open Go Go.Vm
set_option maxRecDepth 100000
theorem ran_4 : allTrue (xcall Tryz.prog (tableOf Tryz.prog) 1000 60 (.fn 4) [] Heap.init) = true := by kernel_rfl
theorem has_4 : (tableOf Tryz.prog 4).isSome = true := by kernel_rfl
theorem known : KnownAll Tryz.prog prims := ⟨⟨Option.isSome_iff_exists.1 has_4, fun w => known_calls (Checked.mixed Tryz.checked) tableOf_ok ran_4 w⟩, trivial⟩
theorem has_8 : (tableOf Tryz.prog 8).isSome = true := by kernel_rfl
theorem T0_ok : TableOK Tryz.prog T0 := withKept_ok (withTrue_ok known) fun k hk args args' g h B w0 w hr hv hp => by
  obtain rfl : k = 8 := by simpa using hk
  obtain ⟨af, haf⟩ := Option.isSome_iff_exists.1 has_8
  exact ⟨fnOK_of haf, kept_ok (Checked.mixed Tryz.checked) (fnOK_of haf) (fun h q c' l u h1 h2 h3 h4 h5 => Kept_code h1 h2 h3 h4 h5) args args' g h B w0 w hr hv hp⟩
end Go.Proofs.YtagmnpeilgnbdaaGreat.A
