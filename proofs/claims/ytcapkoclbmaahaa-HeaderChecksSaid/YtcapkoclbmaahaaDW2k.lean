/- Contracts of the document's writer of bytes (landfallref04), 2: writing. -/
import Derived.Test.YtcapkoclbmaahaaDW1k
import Derived.Test.YtcapkoclbmaahaaVK
namespace Go.Proofs.Ytcapkoclbmaahaa.A
open Go Go.Vm
set_option maxRecDepth 10000
set_option linter.unusedVariables false

/-- the document's writer, at a block -/
structure DW (h : Heap) (lo p : Nat) (sv : Value) (bs : List UInt8) (lim : Nat) (e : Int) : Prop where
  lt : p < h.n
  le : lo ≤ p
  get : h.get p = .cells [.int .i64 lim, sv, .int .i64 e] 0
  own : Own h 1 sv (bcells bs) bs.length
  apart : ¬ ownedBy sv p
  above : ∀ i, ownedBy sv i → lo ≤ i
  small : bs.length < 1048577
structure DWs (h : Heap) (lo p lim : Nat) (st : WSt) : Prop where
  ex : ∃ sv, DW h lo p sv st.bs lim st.e
theorem DW.keep {S : Nat → Prop} {h h' : Heap} {lo p : Nat} {sv : Value} {bs : List UInt8} {lim : Nat} {e : Int} (hp : DW h lo p sv bs lim e) (hf : Fr S h h') (hs : ¬ S p) (hb : ∀ i, ownedBy sv i → ¬ S i) : DW h' lo p sv bs lim e :=
  ⟨hf.lt hp.lt, hp.le, by rw [hf.get p hp.lt hs, hp.get], hp.own.keep hf hb, hp.apart, hp.above, hp.small⟩
theorem DWs.keep {S : Nat → Prop} {h h' : Heap} {lo p lim : Nat} {st : WSt} (hp : DWs h lo p lim st) (hf : Fr S h h') (hs : ∀ i, S i → i < lo) : DWs h' lo p lim st :=
  let ⟨sv, hw⟩ := hp.ex
  ⟨sv, hw.keep hf (fun h => by have := hs _ h; have := hw.le; omega) fun i hi h => by have := hs _ h; have := hw.above i hi; omega⟩
theorem DWs.none {h h' : Heap} {lo p lim : Nat} {st : WSt} (hp : DWs h lo p lim st) (hf : Fr (fun _ => False) h h') : DWs h' lo p lim st := hp.keep hf fun _ h => h.elim
theorem DWs.lo_le {h : Heap} {lo p lim : Nat} {st : WSt} (hp : DWs h lo p lim st) : lo ≤ h.n := let ⟨_, hw⟩ := hp.ex; Nat.le_of_lt (Nat.lt_of_le_of_lt hw.le hw.lt)
def DWrites (h : Heap) (lo p lim : Nat) (st : WSt) (r : Value) (h' : Heap) : Prop := r = .int .i64 st.e ∧ DWs h' lo p lim st ∧ Fr (fun i => i = p) h h'

theorem Put_okD {h : Heap} {lo p lim : Nat} {st : WSt} {v : Value} {l : List UInt8} (hw : DWs h lo p lim st) (hv : Rd h 1 v (bcells l) l.length) (hlim : lim < 1048576 ∨ st.bs.length + l.length < 1048576) (hs : l.length < 2000000) :
    Runs Try.prog T0 (.fn fn_landfallref04_Writer_Put) [.pointer (some ⟨p, 0, none⟩), v] h (DWrites h lo p lim (putS lim true l st)) (fun _ _ => False) := by
  obtain ⟨bs, e⟩ := st
  obtain ⟨sv, hw⟩ := hw.ex
  have hw : DW h lo p sv bs lim e := hw
  have hsum : bs.length + l.length ≤ lim → bs.length + l.length < 1048576 := fun h => by
    rcases hlim with h' | h'
    · omega
    · exact h'
  clear hlim
  have hle := hw.le
  have hlt := hw.lt
  have hsmall := hw.small
  have hv0 := hv
  obtain ⟨a0, cap0, rfl, hl0, _⟩ := hw.own.rd
  obtain ⟨a1, cap1, rfl, hl1, _⟩ := hv
  haveI i0 : HGet h p _ := ⟨hw.get⟩
  haveI : BLt p h := ⟨hlt⟩
  refine landfallref04_Writer_Put_runs ?_
  refine stp ?_
  unfold putS
  refine D.dec (fun he => ?_) (fun he => ?_)
  · subst he
    refine stp ?_
    refine C.if (fun hlong => ?_) (fun hfit => ?_)
    · refine stp ?_
      rw [if_neg (by simp), if_neg (by simp), if_pos (show lim < bs.length + l.length by omega)]
      refine ⟨rfl, ⟨.slice a0 bs.length cap0, by simpa using hlt, hle, by rw [Heap.get_set, if_pos rfl], hw.own.keep (S := fun i => i = p) (Fr.refl.set fun _ => rfl) fun i hi hp => hw.apart (hp ▸ hi), hw.apart, hw.above, hsmall⟩, Fr.refl.set fun _ => rfl⟩
    · refine stp ?_
      have hsum := hsum (by omega)
      rw [if_neg (by simp), if_neg (by simp), if_neg (show ¬ lim < bs.length + l.length by omega)]
      have hp0 : Fr (fun _ => False) h (h.push (.cells [] 0)) := Fr.refl.push
      refine O.append (size := 1) (bytes := 1) (n := 0) (c := []) (m := bs.length) (d := bcells bs) (.lit (q := h.n) (es := 0) (by simp) (by rw [Heap.get_push, if_pos rfl])) ((hw.own.rd.keep hp0 fun _ _ => id).new _) (by rw [bcells_len]; omega) (bcells_one _) (by omega) (by omega) (by omega) (fun v1 h1 ho1 hf1 hnew1 => ?_)
      rw [Nat.zero_add, List.nil_append] at ho1
      have f1 : Fr (fun _ => False) h h1 := Fr.trans (S := fun _ => False) hp0 hf1 fun i hi e => by have : h.n = i := e; omega
      have hn1 := hf1.n
      simp only [Heap.n_push] at hn1
      refine stp ?_
      refine O.append ho1 ((hv0.keep f1 fun _ _ => id).new _) (by rw [bcells_len]; omega) (bcells_one _) (by omega) (by omega) (by omega) (fun v2 h2 ho2 hf2 hnew2 => ?_)
      have hown1 : ∀ i, ownedBy v1 i → h.n ≤ i := fun i hi => by
        rcases hnew1 i hi with e | e
        · have : h.n = i := e; omega
        · simp at e; omega
      have f2 : Fr (fun _ => False) h h2 := Fr.trans (S := fun _ => False) f1 hf2 fun i hi e => by have := hown1 i e; omega
      have hown2 : ∀ i, ownedBy v2 i → h.n ≤ i := fun i hi => (hnew2 i hi).elim (hown1 i) fun e => by omega
      obtain ⟨a2, cap2, rfl, hl2, _⟩ := ho2.rd
      haveI := f2.keep i0 hlt id
      refine stp ?_
      refine ⟨rfl, ⟨.slice a2 (bs.length + l.length) cap2, by simpa using f2.lt hlt, hle, by rw [Heap.get_set, if_pos rfl], ?_, fun e => by have := hown2 _ e; omega, fun i hi => by have := hown2 i hi; omega, by simp; omega⟩, Fr.set (f2.mono fun _ _ h => h.elim) fun _ => rfl⟩
      show Own _ 1 (.slice a2 (bs.length + l.length) cap2) (bcells (bs ++ l)) (bs ++ l).length
      rw [bcells_append, List.length_append]
      exact ho2.keep (S := fun i => i = p) (Fr.refl.set fun _ => rfl) fun i hi e => by have := hown2 i hi; omega
  · refine stp ?_
    refine C.if (fun h0 => absurd h0 he) (fun _ => ?_)
    refine stp ?_
    rw [if_pos (by simpa using he)]
    exact ⟨rfl, ⟨_, hw⟩, Fr.refl⟩

theorem Num_okD {h : Heap} {lo p lim : Nat} {st : WSt} {n : Int} (hw : DWs h lo p lim st) (hn : n ≤ 9223372036854775807) (hlim : lim < 1048576 ∨ st.bs.length + 9 < 1048576) :
    Runs Try.prog T0 (.fn fn_landfallref04_Writer_Num) [.pointer (some ⟨p, 0, none⟩), .int .i64 n] h (DWrites h lo p lim (putS lim (decide (0 ≤ n)) (numF n.toNat) st)) (fun _ _ => False) := by
  obtain ⟨bs, e⟩ := st
  have hlo := hw.lo_le
  have hw0 := hw
  obtain ⟨sv, hw⟩ := hw.ex
  have hw : DW h lo p sv bs lim e := hw
  have hlt := hw.lt
  obtain ⟨a0, cap0, rfl, hl0, _⟩ := hw.own.rd
  haveI i0 : HGet h p _ := ⟨hw.get⟩
  refine landfallref04_Writer_Num_runs ?_
  refine stp ?_
  refine O.dec (fun hneg => ?_) (fun hpos => ?_)
  · rw [decide_eq_false (show ¬ 0 ≤ n by omega)]
    unfold putS
    refine stp ?_
    refine C.if (fun he => ?_) (fun he => ?_)
    · subst he
      refine stp ?_
      rw [if_neg (by simp), if_pos rfl]
      exact ⟨rfl, ⟨.slice a0 bs.length cap0, by simpa using hlt, hw.le, by rw [Heap.get_set, if_pos rfl], hw.own.keep (S := fun i => i = p) (Fr.refl.set fun _ => rfl) fun i hi hp => hw.apart (hp ▸ hi), hw.apart, hw.above, hw.small⟩, Fr.refl.set fun _ => rfl⟩
    · refine stp ?_
      refine C.ifN (fun _ => ?_) (fun h0 => absurd h0 he)
      refine stp ?_
      rw [if_pos (by simpa using he)]
      exact ⟨rfl, ⟨_, hw⟩, Fr.refl⟩
  · rw [decide_eq_true (show 0 ≤ n by omega)]
    refine stp ?_
    refine C.ifN (fun he => ?_) (fun he => ?_)
    · refine stp ?_
      unfold putS
      rw [if_pos (by simpa using he)]
      exact ⟨rfl, ⟨_, hw⟩, Fr.refl⟩
    · subst he
      refine stp ?_
      have e0 : n = ((n.toNat : Nat) : Int) := by omega
      have hfl := numF_len (n := n.toNat) (by omega)
      have kN := Number_okD (h := h) (N := n.toNat) (by omega)
      rw [← e0] at kN
      refine O.call' kN (fun r h1 hr => ?_)
      obtain ⟨ho, hnew, hf⟩ := hr
      refine stp ?_
      refine O.call' (Put_okD (l := numF n.toNat) (hw0.none hf) ho.rd (hlim.imp id fun h => by have h : bs.length + 9 < 1048576 := h; show bs.length + _ < _; omega) (by omega)) (fun r h2 hr => ?_)
      obtain ⟨rfl, hw2, hf2⟩ := hr
      refine stp ?_
      exact ⟨rfl, hw2, Fr.trans' (hf.mono fun _ _ h => h.elim) hf2⟩

theorem Text_okD {h : Heap} {lo p lim : Nat} {st : WSt} {s : ByteArray} (hw : DWs h lo p lim st) (hs : s.size + 9 < 1048576) (hlim : lim < 1048576 ∨ st.bs.length + s.size + 9 < 1048576) :
    Runs Try.prog T0 (.fn fn_landfallref04_Writer_Text) [.pointer (some ⟨p, 0, none⟩), .string s] h (DWrites h lo p lim (putS lim true (numF s.size ++ s.data.toList) st)) (fun _ _ => False) := by
  have hsz : s.data.toList.length = s.size := by simp
  have hfl := numF_len (n := s.size) (by omega)
  refine landfallref04_Writer_Text_runs ?_
  refine stp ?_
  refine O.call' (Counted_okD (l := s.data.toList) ?_ (by omega)) (fun r h1 hr => ?_)
  · rw [hsz]
    refine Rd.mk (by simp) ?_
    rw [cellsAt_of (c := bcells s.data.toList) (by rw [Heap.get_push, if_pos rfl]; rfl) (by rw [bcells_data]; omega), List.drop_zero, List.take_of_length_le (by rw [bcells_data]; omega)]
  obtain ⟨hrd, hf⟩ := hr
  rw [hsz] at hrd
  have hf1 : Fr (fun _ => False) h h1 := Fr.trans (S := fun _ => False) Fr.refl.push hf fun _ _ h => h
  refine stp ?_
  refine O.call' (Put_okD (l := numF s.size ++ s.data.toList) (hw.none hf1) hrd (hlim.imp id fun h => by rw [List.length_append, hsz]; omega) (by rw [List.length_append]; omega)) (fun r h2 hr => ?_)
  obtain ⟨rfl, hw2, hf2⟩ := hr
  refine stp ?_
  exact ⟨rfl, hw2, Fr.trans' (hf1.mono fun _ _ h => h.elim) hf2⟩

theorem Hash_okD {h : Heap} {lo p lim : Nat} {st : WSt} {l : List UInt8} (hw : DWs h lo p lim st) (hl : l.length = 32) (hlim : lim < 1048576 ∨ st.bs.length + 32 < 1048576) :
    Runs Try.prog T0 (.fn fn_landfallref04_Writer_Hash) [.pointer (some ⟨p, 0, none⟩), .agg ⟨bcells l⟩] h (DWrites h lo p lim (putS lim true l st)) (fun _ _ => False) := by
  haveI := l32 hl
  refine landfallref04_Writer_Hash_runs ?_
  refine stp ?_
  have hp : Fr (fun _ => False) h ((h.push (.cells (bcells l) 0)).push (.cells [] 0)) := Fr.refl.push.push
  refine O.append (size := 1) (bytes := 1) (n := 0) (c := []) (m := 32) (d := bcells l) (.lit (q := h.n + 1) (es := 0) (by simp) (by rw [Heap.get_push, if_pos (by simp)])) (Rd.new (Rd.mk (by simp; omega) (by rw [cellsAt_of (c := bcells l) (by rw [Heap.get_push, if_neg (by simp), Heap.get_push, if_pos rfl]; rfl) (by rw [bcells_len]; omega), List.drop_zero, List.take_of_length_le (by rw [bcells_len]; omega)])) _) (by rw [bcells_len]; omega) (bcells_one _) (by omega) (by omega) (by omega) (fun v1 h1 ho1 hf1 hnew1 => ?_)
  rw [Nat.zero_add, List.nil_append] at ho1
  have f1 : Fr (fun _ => False) h h1 := Fr.trans (S := fun _ => False) hp hf1 fun i hi e => by have : h.n + 1 = i := e; omega
  refine stp ?_
  refine O.call' (Put_okD (l := l) (hw.none f1) (by rw [hl]; exact ho1.rd) (by rw [hl]; exact hlim) (by omega)) (fun r h2 hr => ?_)
  obtain ⟨rfl, hw2, hf2⟩ := hr
  refine stp ?_
  exact ⟨rfl, hw2, Fr.trans' (f1.mono fun _ _ h => h.elim) hf2⟩

theorem NewWriter_okD {h : Heap} {lim : Nat} (hl : lim ≤ 1048576) :
    Runs Try.prog T0 (.fn fn_landfallref04_NewWriter) [.int .i64 lim] h (fun r h' => r = .tuple ⟨[.pointer (some ⟨h.n, 0, none⟩), .int .i64 0]⟩ ∧ DWs h' h.n h.n lim ⟨[], 0⟩ ∧ Fr (fun _ => False) h h') (fun _ _ => False) := by
  refine landfallref04_NewWriter_runs ?_
  refine stp ?_
  refine C.if (fun h1 => by omega) (fun _ => ?_)
  refine stp ?_
  refine ⟨rfl, ⟨.slice none 0 0, by simp, Nat.le_refl _, by rw [Heap.get_push, if_pos rfl], .none, fun h => h, fun i h => h.elim, by simp⟩, Fr.refl.push⟩

theorem Done_okD {h : Heap} {lo p lim : Nat} {st : WSt} (hw : DWs h lo p lim st) (hs : st.bs.length < 1048576) :
    Runs Try.prog T0 (.fn fn_landfallref04_Writer_Done) [.pointer (some ⟨p, 0, none⟩)] h
      (fun r h' => ∃ v, r = .tuple ⟨[v, .int .i64 st.e]⟩ ∧ Own h' 1 v (bcells (if st.e = 0 then st.bs else [])) (if st.e = 0 then st.bs else []).length ∧ (∀ i, ownedBy v i → h.n ≤ i) ∧ Fr (fun _ => False) h h') (fun _ _ => False) := by
  obtain ⟨bs, e⟩ := st
  obtain ⟨sv, hw⟩ := hw.ex
  have hw : DW h lo p sv bs lim e := hw
  have hs : bs.length < 1048576 := hs
  obtain ⟨a0, cap0, rfl, hl0, _⟩ := hw.own.rd
  haveI : HGet h p _ := ⟨hw.get⟩
  haveI : BLt p h := ⟨hw.lt⟩
  refine landfallref04_Writer_Done_runs ?_
  refine stp ?_
  refine C.ifN (fun he => ?_) (fun he => ?_)
  · refine stp ?_
    rw [if_neg he]
    exact ⟨_, rfl, .none, fun i h => h.elim, Fr.refl⟩
  · subst he
    refine stp ?_
    have hp0 : Fr (fun _ => False) h (h.push (.cells [] 0)) := Fr.refl.push
    refine O.append (size := 1) (bytes := 1) (n := 0) (c := []) (m := bs.length) (d := bcells bs) (.lit (q := h.n) (es := 0) (by simp) (by rw [Heap.get_push, if_pos rfl])) ((hw.own.rd.keep hp0 fun _ _ => id).new _) (by rw [bcells_len]; omega) (bcells_one _) (by omega) (by omega) (by omega) (fun v1 h1 ho1 hf1 hnew1 => ?_)
    rw [Nat.zero_add, List.nil_append] at ho1
    refine stp ?_
    refine ⟨v1, rfl, ho1, fun i hi => ?_, Fr.trans (S := fun _ => False) hp0 hf1 fun i hi e => by have : h.n = i := e; omega⟩
    rcases hnew1 i hi with e | e
    · have : h.n = i := e; omega
    · simp at e; omega
end Go.Proofs.Ytcapkoclbmaahaa.A
