/- Contracts of the program's writer of bytes (wire), 4: numbers, bytes, texts, hashes; made, done. -/
import Derived.Test.YtcapkoclbmaahaaX3k
import Derived.Test.YtcapkoclbmaahaaVK
namespace Go.Proofs.Ytcapkoclbmaahaa.A
open Go Go.Vm
set_option maxRecDepth 10000
set_option linter.unusedVariables false

theorem numF_len {n : Nat} (h : n ≤ 9223372036854775807) : (numF n).length ≤ 9 := by
  have := beN_len 8 n (by omega)
  simp [numF]; omega

theorem rd_lit {h : Heap} {c : List Value} {n es : Nat} (hc : c.length = n) : Rd (h.push (.cells c es)) 1 (.slice (some ⟨h.n, 0, none⟩) n n) c n := by
  refine Rd.mk (by simp) ?_
  rw [cellsAt_of (c := c) (by rw [Heap.get_push, if_pos rfl]; rfl) (by omega), List.drop_zero, List.take_of_length_le (by omega)]

theorem WNum_ok {h : Heap} {lo p lim : Nat} {st : WSt} {n : Int} (hw : PWs h lo p lim st) (hn : n ≤ 9223372036854775807) (hs : st.bs.length + 9 < 1048576) :
    Runs Try.prog T0 (.fn fn_wire_Writer_Num) [.pointer (some ⟨p, 0, none⟩), .int .i64 n] h (Writes h lo p lim (putS lim (decide (0 ≤ n)) (numF n.toNat) st)) (fun _ _ => False) := by
  have hlo := hw.lo_le
  refine wire_Writer_Num_runs ?_
  refine stp ?_
  have hm : (if (0 : Int) > n then 0 else n) = ((n.toNat : Nat) : Int) := by split <;> omega
  rw [hm]
  refine O.call' (number_ok (N := n.toNat) (by omega)) (fun r h1 hr => ?_)
  obtain ⟨hrd, hnew, hf⟩ := hr
  have hw1 := hw.none hf
  have hfl := numF_len (n := n.toNat) (by omega)
  obtain ⟨a1, cap1, rfl, hl1, _⟩ := id hrd
  refine stp ?_
  refine O.call' (put_ok (ls := [(.slice a1 (numF n.toNat).length cap1, numF n.toNat)]) (hw1.none Fr.refl.push) (rd_lit rfl) ?_ (by simp) (by simp [flat]; omega)) (fun r h2 hr => ?_)
  · intro q hq
    simp at hq
    subst hq
    exact hrd.keep (S := fun _ => False) Fr.refl.push fun _ _ => id
  · refine stp ?_
    rw [show flat [(Value.slice a1 (numF n.toNat).length cap1, numF n.toNat)] = numF n.toNat from by simp [flat]] at hr
    exact ⟨hr.1, hr.2.1, Fr.trans (S := fun i => lo ≤ i) (hf.mono fun _ _ h => h.elim) (Fr.trans (S := fun i => lo ≤ i) Fr.refl.push hr.2.2 fun _ _ h => h) fun _ _ h => h⟩

theorem WBytes_ok {h : Heap} {lo p lim : Nat} {st : WSt} {v : Value} {l : List UInt8} (hw : PWs h lo p lim st) (hv : Rd h 1 v (bcells l) l.length) (hs : st.bs.length + l.length + 9 < 1048576) :
    Runs Try.prog T0 (.fn fn_wire_Writer_Bytes) [.pointer (some ⟨p, 0, none⟩), v] h (Writes h lo p lim (putS lim true (numF l.length ++ l) st)) (fun _ _ => False) := by
  have hlo := hw.lo_le
  have hv' := hv
  obtain ⟨a0, cap0, rfl, hl0, _⟩ := hv
  refine wire_Writer_Bytes_runs ?_
  refine stp ?_
  refine O.call' (number_ok (N := l.length) (by omega)) (fun r h1 hr => ?_)
  obtain ⟨hrd, hnew, hf⟩ := hr
  have hw1 := hw.none hf
  have hfl := numF_len (n := l.length) (by omega)
  obtain ⟨a1, cap1, rfl, hl1, _⟩ := id hrd
  refine stp ?_
  refine O.call' (put_ok (ls := [(.slice a1 (numF l.length).length cap1, numF l.length), (.slice a0 l.length cap0, l)]) (hw1.none Fr.refl.push) (rd_lit rfl) ?_ (by simp) (by simp [flat]; omega)) (fun r h2 hr => ?_)
  · intro q hq
    simp at hq
    rcases hq with rfl | rfl
    · exact hrd.keep (S := fun _ => False) Fr.refl.push fun _ _ => id
    · exact (hv'.keep hf fun _ _ => id).keep (S := fun _ => False) Fr.refl.push fun _ _ => id
  · refine stp ?_
    rw [show flat [(Value.slice a1 (numF l.length).length cap1, numF l.length), (Value.slice a0 l.length cap0, l)] = numF l.length ++ l from by simp [flat]] at hr
    exact ⟨hr.1, hr.2.1, Fr.trans (S := fun i => lo ≤ i) (hf.mono fun _ _ h => h.elim) (Fr.trans (S := fun i => lo ≤ i) Fr.refl.push hr.2.2 fun _ _ h => h) fun _ _ h => h⟩

theorem bcells_data (s : ByteArray) : (bcells s.data.toList).length = s.size := by simp [bcells]

theorem WText_ok {h : Heap} {lo p lim : Nat} {st : WSt} {s : ByteArray} (hw : PWs h lo p lim st) (hs : st.bs.length + s.size + 9 < 1048576) :
    Runs Try.prog T0 (.fn fn_wire_Writer_Text) [.pointer (some ⟨p, 0, none⟩), .string s] h (Writes h lo p lim (putS lim true (numF s.size ++ s.data.toList) st)) (fun _ _ => False) := by
  have hlo := hw.lo_le
  have hsz : s.data.toList.length = s.size := by simp
  refine wire_Writer_Text_runs ?_
  refine stp ?_
  refine O.call' (WBytes_ok (l := s.data.toList) (hw.none Fr.refl.push) ?_ (by omega)) (fun r h2 hr => ?_)
  · rw [hsz]
    refine Rd.mk (by simp) ?_
    rw [cellsAt_of (c := bcells s.data.toList) (by rw [Heap.get_push, if_pos rfl]; rfl) (by rw [bcells_data]; omega), List.drop_zero, List.take_of_length_le (by rw [bcells_data]; omega)]
  · refine stp ?_
    rw [hsz] at hr
    exact ⟨hr.1, hr.2.1, Fr.trans (S := fun i => lo ≤ i) Fr.refl.push hr.2.2 fun _ _ h => h⟩

theorem WHash_ok {h : Heap} {lo p lim : Nat} {st : WSt} {l : List UInt8} (hw : PWs h lo p lim st) (hl : l.length = 32) (hs : st.bs.length + 32 < 1048576) :
    Runs Try.prog T0 (.fn fn_wire_Writer_Hash) [.pointer (some ⟨p, 0, none⟩), .agg ⟨bcells l⟩] h (Writes h lo p lim (putS lim true l st)) (fun _ _ => False) := by
  have hlo := hw.lo_le
  haveI := l32 hl
  refine wire_Writer_Hash_runs ?_
  refine stp ?_
  refine O.call' (put_ok (ls := [(.slice (some ⟨h.n, 0, none⟩) 32 32, l)]) (hw.none Fr.refl.push.push) (rd_lit rfl) ?_ (by simp) (by simp [flat]; omega)) (fun r h2 hr => ?_)
  · intro q hq
    simp at hq
    subst hq
    rw [hl]
    exact (rd_lit (h := h) (c := bcells l) (es := 0) (n := 32) (by simpa [bcells] using hl)).keep (S := fun _ => False) Fr.refl.push fun _ _ => id
  · refine stp ?_
    rw [show flat [(Value.slice (some ⟨h.n, 0, none⟩) 32 32, l)] = l from by simp [flat]] at hr
    exact ⟨hr.1, hr.2.1, Fr.trans (S := fun i => lo ≤ i) Fr.refl.push.push hr.2.2 fun _ _ h => h⟩

theorem NewWriter_ok {h : Heap} {lim : Nat} (hl : lim ≤ 1048576) :
    Runs Try.prog T0 (.fn fn_wire_NewWriter) [.int .i64 lim] h (fun r h' => r = .tuple ⟨[.pointer (some ⟨h.n, 0, none⟩), .int .i64 0]⟩ ∧ PWs h' h.n h.n lim ⟨[], 0⟩ ∧ Fr (fun _ => False) h h') (fun _ _ => False) := by
  refine wire_NewWriter_runs ?_
  refine stp ?_
  refine C.if (fun h1 => by omega) (fun _ => ?_)
  refine stp ?_
  refine ⟨rfl, ⟨.slice none 0 0, by simp, Nat.le_refl _, by rw [Heap.get_push, if_pos rfl], .none, fun h => h, fun i h => h.elim, by simp⟩, Fr.refl.push⟩

theorem Done_ok {h : Heap} {lo p lim : Nat} {st : WSt} (hw : PWs h lo p lim st) :
    Runs Try.prog T0 (.fn fn_wire_Writer_Done) [.pointer (some ⟨p, 0, none⟩)] h
      (fun r h' => ∃ v, r = .tuple ⟨[v, .int .i64 st.e]⟩ ∧ Own h' 1 v (bcells (if st.e = 0 then st.bs else [])) (if st.e = 0 then st.bs else []).length ∧ (∀ i, ownedBy v i → h.n ≤ i) ∧ Fr (fun _ => False) h h') (fun _ _ => False) := by
  obtain ⟨bs, e⟩ := st
  obtain ⟨sv, hw⟩ := hw.ex
  have hw : PW h lo p sv bs lim e := hw
  obtain ⟨a0, cap0, rfl, hl0, _⟩ := hw.own.rd
  haveI : HGet h p _ := ⟨hw.get⟩
  refine wire_Writer_Done_runs ?_
  refine stp ?_
  refine C.ifN (fun he => ?_) (fun he => ?_)
  · refine stp ?_
    rw [if_neg he]
    exact ⟨_, rfl, .none, fun i h => h.elim, Fr.refl⟩
  · subst he
    refine stp ?_
    refine O.call' (Clone_ok hw.own.rd hw.small) (fun r h1 hr => ?_)
    refine stp ?_
    exact ⟨_, rfl, hr.1, hr.2.2, hr.2.1⟩
end Go.Proofs.Ytcapkoclbmaahaa.A
