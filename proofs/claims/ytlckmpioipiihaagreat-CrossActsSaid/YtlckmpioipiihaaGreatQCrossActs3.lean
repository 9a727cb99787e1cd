/- Contracts of functions, over the machine. -/
import Derived.Test.YtlckmpioipiihaaGreatQCrossActs2
import Derived.Test.YtlckmpioipiihaaGreatVK
import Derived.Test.YtlckmpioipiihaaGreatVJ
set_option linter.unusedSimpArgs false
noncomputable section
namespace Go.Proofs.YtlckmpioipiihaaGreat.A
open Go.Proofs.YtlckmpioipiihaaGreat.K
open Go Go.Vm
set_option maxRecDepth 10000
set_option linter.unusedVariables false
def beN (n : Nat) : List UInt8 := if h : n = 0 then [] else beN (n / 256) ++ [UInt8.ofNat (n % 256)]
  termination_by n
  decreasing_by omega
theorem beN_zero : beN 0 = [] := by unfold beN; simp
theorem beN_pos {n : Nat} (h : n ≠ 0) : beN n = beN (n / 256) ++ [UInt8.ofNat (n % 256)] := by rw [beN]; rw [dif_neg h]
def numF (n : Nat) : List UInt8 := UInt8.ofNat (beN n).length :: beN n
theorem beN_len : ∀ (k n : Nat), n < 256 ^ k → (beN n).length ≤ k
  | 0, n, h => by
    obtain rfl : n = 0 := by simpa using h
    rw [beN_zero]; simp
  | k + 1, n, h => by
    by_cases h0 : n = 0
    · subst h0; rw [beN_zero]; simp
    · rw [beN_pos h0, List.length_append]
      have : n / 256 < 256 ^ k := Nat.div_lt_of_lt_mul (by rw [Nat.pow_succ] at h; omega)
      have := beN_len k _ this
      simp; omega
theorem u8nat {n : Nat} (h : n < 256) : (UInt8.ofNat n).toNat = n := by
  rw [UInt8.toNat_ofNat']
  exact Nat.mod_eq_of_lt h
theorem number_ok {h : Heap} {N : Nat} (hN : N ≤ 9223372036854775807) :
    Runs Tryz.prog T0 (.fn fn_zxdQ) [.int .i64 N] h (fun r h' => Rd h' 1 r (bcells (numF N)) (numF N).length ∧ (∀ i, blockOf r i → h.n ≤ i) ∧ Fr (fun _ => False) h h') (fun _ _ => False) := by
  refine zxdQ_runs ?_
  refine stp ?_
  refine loop2 zxdQ_l0_M 0 4 (fun m v0 v4 h' => ∃ (n k : Nat) (c : List Value) (ds : List UInt8), n = m ∧ v0 = .int .i64 n ∧ v4 = .int .i64 k ∧ k ≤ 8 ∧ n < 256 ^ (8 - k) ∧ n ≤ N ∧ h' = h.push (.cells c 0) ∧ c.length = 9 ∧ ds.length = k ∧ c.drop (9 - k) = bcells ds ∧ beN N = beN n ++ ds) ?_ N
    ⟨N, 0, _, [], rfl, rfl, rfl, by omega, by simp; omega, Nat.le_refl _, rfl, rfl, rfl, rfl, by simp⟩
  rintro m v0 v4 h' x5 x6 x7 x8 x9 x10 x11 x12 x13 x14 x15 ⟨n, k, c, ds, hnm, rfl, rfl, hk, hn, hnN, rfl, hc, hds, hd, hbe⟩
  subst hnm
  refine stp ?_
  refine C.if (fun hpos => ?_) (fun hz => ?_)
  · have hk8 : k < 8 := by
      rcases Nat.lt_or_ge k 8 with h | h
      · exact h
      · obtain rfl : k = 8 := by omega
        simp at hn; omega
    have h256 : n % 256 < 256 := Nat.mod_lt _ (by omega)
    have hw : (IntKind.wrap .u8 (n : Int)) = (((UInt8.ofNat (n % 256)).toNat : Nat) : Int) := by
      rw [wrap_u8, u8nat h256]
      omega
    refine stp ?_
    have h8 : ((8 : Int) - (k : Int)).toNat = 8 - k := by omega
    rw [hw, h8]
    simp only [Nat.zero_add, Nat.mul_one]
    refine O.by0 (XOp.mkStore1 (P := Tryz.prog) (h := h.push (.cells c 0)) (c := c) (r := h.n) (o := 8 - k) (v := .int .u8 (UInt8.ofNat (n % 256)).toNat) (sp := none) (by omega)).eq rfl ?_
    refine stp ?_
    refine O.how XOp.shr8 ?_
    refine stp ?_
    have hdiv : ((n : Int) / 256) = ((n / 256 : Nat) : Int) := by omega
    rw [hdiv, Heap.push_set]
    refine loop2a 0 4 (n / 256) (by omega) ⟨n / 256, k + 1, lset c (8 - k) (.int .u8 (UInt8.ofNat (n % 256)).toNat), UInt8.ofNat (n % 256) :: ds, rfl, rfl, by simp, by omega, ?_, by omega, rfl, by rw [lset_len]; exact hc, by simp [hds], ?_, ?_⟩
    · have : 256 ^ (8 - k) = 256 ^ (8 - (k + 1)) * 256 := by rw [← Nat.pow_succ]; congr 1; omega
      exact Nat.div_lt_of_lt_mul (by omega)
    · rw [show 9 - (k + 1) = 8 - k from by omega, lset_drop _ _ _ (by omega), show 8 - k + 1 = 9 - k from by omega, hd]
      rfl
    · rw [hbe, beN_pos (by omega)]
      simp
  · have hn0 : n = 0 := by omega
    subst hn0
    rw [beN_zero, List.nil_append] at hbe
    have hw : (k : Int) = (((UInt8.ofNat k).toNat : Nat) : Int) := by
      rw [u8nat (by omega)]
    refine stp ?_
    have h8 : ((8 : Int) - (k : Int)).toNat = 8 - k := by omega
    rw [h8]
    simp only [Nat.zero_add, Nat.mul_one]
    refine O.by0 (XOp.mkStore1 (P := Tryz.prog) (h := h.push (.cells c 0)) (c := c) (r := h.n) (o := 8 - k) (v := .int .u8 k) (sp := none) (by omega)).eq rfl ?_
    refine stp ?_
    rw [Heap.push_set]
    refine O.how (XOp.mkSliceArrLo (8 - k) (by omega) (by omega)) ?_
    refine stp ?_
    rw [show 9 - (8 - k) = k + 1 from by omega, Nat.zero_add, Nat.mul_one]
    have hlen : (numF N).length = k + 1 := by simp [numF, hbe, hds]
    refine ⟨?_, fun i hi => by rw [← hi.1]; exact Nat.le_refl _, Fr.refl.push⟩
    rw [hlen]
    refine Rd.mk (by simp) ?_
    rw [cellsAt_of (c := lset c (8 - k) (.int .u8 k)) (by rw [Heap.get_push, if_pos rfl]; rfl) (by rw [lset_len]; omega), lset_drop _ _ _ (by omega), show 8 - k + 1 = 9 - k from by omega, hd]
    congr 1
    rw [List.take_of_length_le (by simp [bcells, hds])]
    unfold numF
    rw [hbe, hds]
    show _ :: _ = Value.int .u8 ((UInt8.ofNat k).toNat : Nat) :: _
    rw [u8nat (by omega)]
    rfl
end Go.Proofs.YtlckmpioipiihaaGreat.A

namespace Go.Proofs.YtlckmpioipiihaaGreat.A
open Go.Proofs.YtlckmpioipiihaaGreat.K
open Go Go.Vm
set_option maxRecDepth 10000
set_option linter.unusedVariables false
theorem repeatL_len (n : Nat) : (repeatL [.int .u8 0] n).length = n := by
  induction n with
  | zero => rfl
  | succ n ih => simp [repeatL, ih]
theorem Grow_ok {h : Heap} {n : Nat} (hn : n < 1048576) :
    Runs Tryz.prog T0 (.fn fn_zmdQ) [.slice none 0 0, .int .i64 n] h (fun r h' => Own h' 1 r [] 0 ∧ (∀ i, ownedBy r i → h.n ≤ i) ∧ Fr (fun _ => False) h h') (fun _ _ => False) := by
  refine zmdQ_runs ?_
  refine stp ?_
  refine C.if (fun hpos => ?_) (fun hz => ?_)
  · rw [show ((n : Int) - (((0 : Nat) : Int) - ((0 : Nat) : Int))) = (n : Int) from by omega]
    refine stp ?_
    refine O.by (v := .slice none 0 0) (h' := h) (by rfl) rfl ?_
    refine stp ?_
    have hx : appendOf 1 1 [.int .u8 0] true (.slice none 0 0) (.int .i64 (n : Int)) h = .ok (.slice (some ⟨h.n, 0, some 0⟩) n n) (h.push (.cells (repeatL [.int .u8 0] n) 1)) := by
      unfold appendOf newCells
      rw [if_neg (by omega)]
      simp only [Bool.true_and, show (decide ((0 : Int) ≤ (n : Int))) = true from by simp, if_true, Int.toNat_natCast, Nat.zero_add]
      rw [if_neg (by omega), if_neg (by omega), if_neg (by omega)]
    refine O.by hx rfl ?_
    refine stp ?_
    refine O.by (v := .slice (some ⟨h.n, 0, some 0⟩) 0 n) (h' := h.push (.cells (repeatL [.int .u8 0] n) 1)) ?_ rfl ?_
    · show sliceOf _ 1 (.slice (some ⟨h.n, 0, some 0⟩) n n) none (some _) none _ = _
      simp only [sliceOf, bnd, eval, lget]
      rw [show idx (n + 1) (.int .i64 ((0 : Nat) : Int)) = some 0 from idx_in (by omega)]
      simp
    refine stp ?_
    refine ⟨.grown (c := []) (j := repeatL [.int .u8 0] n) (by simp) (by omega) (by omega) rfl (by simp [repeatL_len]) (by rw [Heap.get_push, if_pos rfl]; rfl), fun i hi => by rw [← hi]; exact Nat.le_refl _, Fr.refl.push⟩
  · refine stp ?_
    exact ⟨.none, fun i hi => hi.elim, Fr.refl⟩
def Parts (h : Heap) (ls : List (Value × List UInt8)) : Prop := ∀ p ∈ ls, Rd h 1 p.1 (bcells p.2) p.2.length
theorem Parts.keep {h h' : Heap} {ls : List (Value × List UInt8)} (hp : Parts h ls) (hf : Fr (fun _ => False) h h') : Parts h' ls := fun p hm => (hp p hm).keep hf fun _ _ => id
def flat (ls : List (Value × List UInt8)) : List UInt8 := ls.flatMap (·.2)
theorem flat_take {ls : List (Value × List UInt8)} {k : Nat} (hk : k < ls.length) : flat (ls.take (k + 1)) = flat (ls.take k) ++ ls[k].2 := by
  unfold flat
  rw [List.take_succ_eq_append_getElem hk]
  simp only [List.flatMap_append, List.flatMap_cons, List.flatMap_nil, List.append_nil]
theorem flat_le {ls : List (Value × List UInt8)} (k : Nat) : (flat (ls.take k)).length ≤ (flat ls).length := by
  conv => rhs; rw [← List.take_append_drop k ls]
  unfold flat
  rw [List.flatMap_append]
  simp
theorem lget_map {ls : List (Value × List UInt8)} {k : Nat} (hk : k < ls.length) : lget (ls.map (·.1)) k = ls[k].1 := by
  induction ls generalizing k with
  | nil => simp at hk
  | cons a l ih =>
    cases k with
    | zero => rfl
    | succ k => exact ih (by simpa using hk)
theorem Concat_ok {h : Heap} {v : Value} {ls : List (Value × List UInt8)} (hv : Rd h 1 v (ls.map (·.1)) ls.length) (hp : Parts h ls) (hn : ls.length < 1048576) (hs : (flat ls).length < 1048576) :
    Runs Tryz.prog T0 (.fn fn_zldQ) [v] h (fun r h' => Own h' 1 r (bcells (flat ls)) (flat ls).length ∧ (∀ i, ownedBy r i → h.n ≤ i) ∧ Fr (fun _ => False) h h') (fun _ _ => False) := by
  have hv' := hv
  obtain ⟨a, cap, rfl, hlen, hc⟩ := hv
  refine zldQ_runs ?_
  refine stp ?_
  refine loop2 zldQ_l0_M 3 11 (fun m v3 v11 h' => ∃ k : Nat, k ≤ ls.length ∧ m = ls.length - k ∧ v3 = .int .i64 (flat (ls.take k)).length ∧ v11 = .int .i64 k ∧ h = h') ?_ ls.length ⟨0, by omega, rfl, rfl, rfl, rfl⟩
  rintro m v3 v11 h' x5 x12 x13 x14 x15 x16 x17 x18 x19 x20 x21 x22 ⟨k, hk, rfl, rfl, rfl, rfl⟩
  refine stp ?_
  refine C.if (fun hlt => ?_) (fun hge => ?_)
  · have hk' : k < ls.length := by omega
    obtain ⟨b, o, sp, rfl, hb, hcc⟩ := hc (by omega)
    rw [Nat.mul_one] at hcc
    haveI := cell_at (k := k) hcc hk'
    rw [lget_map hk'] at this
    haveI := this
    obtain ⟨a1, cap1, hv1, _, _⟩ := hp ls[k] (List.getElem_mem _)
    have hfl := flat_le (ls := ls) (k + 1)
    rw [flat_take hk', List.length_append] at hfl
    refine stp ?_
    rw [hv1]
    refine stp ?_
    refine loop2a 3 11 (ls.length - (k + 1)) (by omega) ⟨k + 1, by omega, rfl, ?_, rfl, rfl⟩
    rw [flat_take hk', List.length_append]
    rfl
  · obtain rfl : k = ls.length := by omega
    rw [List.take_length]
    refine stp ?_
    refine O.call' (Grow_ok hs) (fun r h1 hr => ?_)
    obtain ⟨ho, hnew, hf⟩ := hr
    refine stp ?_
    refine loop2 zldQ_l1_M 6 27 (fun m v6 v27 h' => ∃ k : Nat, k ≤ ls.length ∧ m = ls.length - k ∧ v27 = .int .i64 k ∧ Own h' 1 v6 (bcells (flat (ls.take k))) (flat (ls.take k)).length ∧ (∀ i, ownedBy v6 i → h'.n ≤ i ∨ h.n ≤ i) ∧ Fr (fun _ => False) h h') ?_ ls.length ⟨0, by omega, rfl, rfl, ho, fun i hi => .inr (hnew i hi), hf⟩
    clear ho hnew hf
    rintro m v6 v27 h' x8 x28 x29 x30 x31 x32 x33 x34 ⟨k, hk, rfl, rfl, ho, hnew, hf⟩
    refine stp ?_
    refine C.if (fun hlt => ?_) (fun hge => ?_)
    · have hk' : k < ls.length := by omega
      obtain ⟨b, o, sp, rfl, hb, hcc⟩ := hc (by omega)
      rw [Nat.mul_one, ← cellsAt_keep hf hb id] at hcc
      haveI := cell_at (k := k) hcc hk'
      rw [lget_map hk'] at this
      haveI := this
      have hpk := (hp ls[k] (List.getElem_mem _)).keep hf fun _ _ => id
      have hfl := flat_le (ls := ls) (k + 1)
      rw [flat_take hk', List.length_append] at hfl
      refine stp ?_
      refine O.append ho (hpk.new [.int .u8 0]) (by rw [bcells_len]; omega) (bcells_one _) (by omega) (by omega) (by omega) (fun v' h2 h3 h4 h5 => ?_)
      refine stp ?_
      refine loop2a 6 27 (ls.length - (k + 1)) (by omega) ⟨k + 1, by omega, rfl, rfl, ?_, fun i hi => ?_, ?_⟩
      · rw [flat_take hk', List.length_append, bcells_append]
        exact h3
      · rcases h5 i hi with h6 | h6
        · rcases hnew i h6 with h7 | h7
          · exact .inr (Nat.le_trans hf.n h7)
          · exact .inr h7
        · exact .inr (Nat.le_trans hf.n h6)
      · refine Fr.trans (S := fun _ => False) hf h4 fun i hi ho' => ?_
        rcases hnew i ho' with h7 | h7
        · have := hf.n; omega
        · omega
    · obtain rfl : k = ls.length := by omega
      rw [List.take_length] at ho
      refine stp ?_
      exact ⟨ho, fun i hi => (hnew i hi).elim (Nat.le_trans hf.n) id, hf⟩
end Go.Proofs.YtlckmpioipiihaaGreat.A

namespace Go.Proofs.YtlckmpioipiihaaGreat.A
open Go.Proofs.YtlckmpioipiihaaGreat.K
open Go Go.Vm
set_option maxRecDepth 10000
set_option linter.unusedVariables false
structure PW (h : Heap) (lo p : Nat) (sv : Value) (bs : List UInt8) (lim : Nat) (e : Int) : Prop where
  lt : p < h.n
  le : lo ≤ p
  get : h.get p = .cells [.int .i64 lim, sv, .int .i64 e, .bool true] 0
  own : Own h 1 sv (bcells bs) bs.length
  apart : ¬ ownedBy sv p
  above : ∀ i, ownedBy sv i → lo ≤ i
  small : bs.length < 1048576
structure WSt where
  bs : List UInt8
  e : Int
structure PWs (h : Heap) (lo p lim : Nat) (st : WSt) : Prop where
  ex : ∃ sv, PW h lo p sv st.bs lim st.e
def putS (lim : Nat) (may : Bool) (part : List UInt8) (st : WSt) : WSt :=
  if st.e ≠ 0 then st else if may = false then ⟨st.bs, 3⟩ else if lim < st.bs.length + part.length then ⟨st.bs, 4⟩ else ⟨st.bs ++ part, 0⟩
theorem PW.keep {S : Nat → Prop} {h h' : Heap} {lo p : Nat} {sv : Value} {bs : List UInt8} {lim : Nat} {e : Int} (hp : PW h lo p sv bs lim e) (hf : Fr S h h') (hs : ¬ S p) (hb : ∀ i, ownedBy sv i → ¬ S i) : PW h' lo p sv bs lim e :=
  ⟨hf.lt hp.lt, hp.le, by rw [hf.get p hp.lt hs, hp.get], hp.own.keep hf hb, hp.apart, hp.above, hp.small⟩
theorem PWs.keep {S : Nat → Prop} {h h' : Heap} {lo p lim : Nat} {st : WSt} (hp : PWs h lo p lim st) (hf : Fr S h h') (hs : ∀ i, S i → i < lo) : PWs h' lo p lim st :=
  let ⟨sv, hw⟩ := hp.ex
  ⟨sv, hw.keep hf (fun h => by have := hs _ h; have := hw.le; omega) fun i hi h => by have := hs _ h; have := hw.above i hi; omega⟩
theorem PWs.none {h h' : Heap} {lo p lim : Nat} {st : WSt} (hp : PWs h lo p lim st) (hf : Fr (fun _ => False) h h') : PWs h' lo p lim st := hp.keep hf fun _ h => h.elim
theorem PWs.lo_le {h : Heap} {lo p lim : Nat} {st : WSt} (hp : PWs h lo p lim st) : lo ≤ h.n := let ⟨_, hw⟩ := hp.ex; Nat.le_of_lt (Nat.lt_of_le_of_lt hw.le hw.lt)
def Writes (h : Heap) (lo p lim : Nat) (st : WSt) (r : Value) (h' : Heap) : Prop := r = .int .i64 st.e ∧ PWs h' lo p lim st ∧ Fr (fun i => lo ≤ i) h h'
theorem put_ok {h : Heap} {lo p lim : Nat} {st : WSt} {may : Bool} {v : Value} {ls : List (Value × List UInt8)} (hw : PWs h lo p lim st) (hv : Rd h 1 v (ls.map (·.1)) ls.length) (hp : Parts h ls) (hn : ls.length < 1048576) (hs : st.bs.length + (flat ls).length < 1048576) :
    Runs Tryz.prog T0 (.fn fn_zwdQ) [.pointer (some ⟨p, 0, none⟩), .bool may, v] h (Writes h lo p lim (putS lim may (flat ls) st)) (fun _ _ => False) := by
  obtain ⟨bs, e⟩ := st
  obtain ⟨sv, hw⟩ := hw.ex
  have hs : bs.length + (flat ls).length < 1048576 := hs
  have hw : PW h lo p sv bs lim e := hw
  have hle := hw.le
  have hlt := hw.lt
  obtain ⟨a0, cap0, rfl, hl0, _⟩ := hw.own.rd
  haveI : HGet h p _ := ⟨hw.get⟩
  refine zwdQ_runs ?_
  refine stp ?_
  refine O.call' (Concat_ok hv hp hn (by omega)) (fun r h1 hr => ?_)
  obtain ⟨ho, hnew, hf⟩ := hr
  obtain ⟨a1, cap1, rfl, hl1, _⟩ := ho.rd
  have hw1 := hw.keep hf id fun _ _ => id
  haveI : HGet h1 p _ := ⟨hw1.get⟩
  have hfl : Fr (fun i => lo ≤ i) h h1 := hf.mono fun _ _ h => h.elim
  refine stp ?_
  refine C.ifN (fun he => ?_) (fun he => ?_)
  · refine stp ?_
    unfold putS
    rw [if_pos (by simpa using he)]
    exact ⟨rfl, ⟨_, hw1⟩, hfl⟩
  · subst he
    refine stp ?_
    cases may with
    | false =>
      refine stp ?_
      unfold putS
      rw [if_neg (by simp), if_pos rfl]
      refine ⟨rfl, ⟨.slice a0 bs.length cap0, by simpa using hw1.lt, hw.le, by rw [Heap.get_set, if_pos rfl], hw1.own.keep (S := fun i => i = p) (Fr.refl.set fun _ => rfl) fun i hi hp => hw1.apart (hp ▸ hi), hw1.apart, hw1.above, hw1.small⟩, hfl.set fun _ => hw.le⟩
    | true =>
      refine stp ?_
      refine C.if (fun hlong => ?_) (fun hfit => ?_)
      · refine stp ?_
        unfold putS
        rw [if_neg (by simp), if_neg (by simp), if_pos (by simp only; omega)]
        refine ⟨rfl, ⟨.slice a0 bs.length cap0, by simpa using hw1.lt, hw.le, by rw [Heap.get_set, if_pos rfl], hw1.own.keep (S := fun i => i = p) (Fr.refl.set fun _ => rfl) fun i hi hp => hw1.apart (hp ▸ hi), hw1.apart, hw1.above, hw1.small⟩, hfl.set fun _ => hw.le⟩
      · refine stp ?_
        refine O.append hw1.own (ho.rd.new [.int .u8 0]) (by rw [bcells_len]; omega) (bcells_one _) (by omega) (by omega) (by omega) (fun v' h2 h3 h4 h5 => ?_)
        obtain ⟨a2, cap2, rfl, hl2, _⟩ := h3.rd
        have hp2 : HGet h2 p _ := h4.keep ⟨hw1.get⟩ hw1.lt hw1.apart
        refine stp ?_
        have hnp : ¬ ownedBy (.slice a2 (bs.length + (flat ls).length) cap2) p := fun hi => by
          rcases h5 p hi with h6 | h6
          · exact hw1.apart h6
          · have := hw1.lt; omega
        unfold putS
        rw [if_neg (by simp), if_neg (by simp), if_neg (by simp only; omega)]
        refine ⟨rfl, ⟨_, by have := h4.lt hw1.lt; simpa using this, hw.le, by rw [Heap.get_set, if_pos rfl], ?_, hnp, fun i hi => ?_, by simp; omega⟩, Fr.set (Fr.trans (S := fun i => lo ≤ i) hfl h4 fun i hi ho' => hw1.above i ho') fun _ => hw.le⟩
        · show Own _ 1 (.slice a2 (bs.length + (flat ls).length) cap2) (bcells (bs ++ flat ls)) (bs ++ flat ls).length
          rw [bcells_append, List.length_append]
          exact h3.keep (S := fun i => i = p) (Fr.refl.set fun _ => rfl) fun i hi hp => hnp (hp ▸ hi)
        · rcases h5 i hi with h6 | h6
          · exact hw1.above i h6
          · have := hw1.lt; omega
end Go.Proofs.YtlckmpioipiihaaGreat.A

namespace Go.Proofs.YtlckmpioipiihaaGreat.A
open Go.Proofs.YtlckmpioipiihaaGreat.K
open Go Go.Vm
set_option maxRecDepth 10000
set_option linter.unusedVariables false
theorem numF_len {n : Nat} (h : n ≤ 9223372036854775807) : (numF n).length ≤ 9 := by
  have := beN_len 8 n (by omega)
  simp [numF]; omega
theorem rd_lit {h : Heap} {c : List Value} {n es : Nat} (hc : c.length = n) : Rd (h.push (.cells c es)) 1 (.slice (some ⟨h.n, 0, none⟩) n n) c n := by
  refine Rd.mk (by simp) ?_
  rw [cellsAt_of (c := c) (by rw [Heap.get_push, if_pos rfl]; rfl) (by omega), List.drop_zero, List.take_of_length_le (by omega)]
theorem WNum_ok {h : Heap} {lo p lim : Nat} {st : WSt} {n : Int} (hw : PWs h lo p lim st) (hn : n ≤ 9223372036854775807) (hs : st.bs.length + 9 < 1048576) :
    Runs Tryz.prog T0 (.fn fn_zudQ) [.pointer (some ⟨p, 0, none⟩), .int .i64 n] h (Writes h lo p lim (putS lim (decide (0 ≤ n)) (numF n.toNat) st)) (fun _ _ => False) := by
  have hlo := hw.lo_le
  refine zudQ_runs ?_
  refine stp ?_
  have hm : (if (0 : Int) > n then 0 else n) = ((n.toNat : Nat) : Int) := by split <;> omega
  rw [hm]
  refine O.call' (number_ok (N := n.toNat) (by omega)) (fun r h1 hr => ?_)
  obtain ⟨hrd, hnew, hf⟩ := hr
  have hw1 := hw.none hf
  have hfl := numF_len (n := n.toNat) (by omega)
  obtain ⟨a1, cap1, rfl, hl1, _⟩ := id hrd
  refine stp ?_
  refine O.call' (put_ok (ls := [(.slice a1 (numF n.toNat).length cap1, numF n.toNat)]) (hw1.none Fr.refl.push) (rd_lit rfl) ?_ (by simp) (by simp [flat]; omega)) (fun r h2 hr => ?_)
  · intro q hq
    simp at hq
    subst hq
    exact hrd.keep (S := fun _ => False) Fr.refl.push fun _ _ => id
  · refine stp ?_
    rw [show flat [(Value.slice a1 (numF n.toNat).length cap1, numF n.toNat)] = numF n.toNat from by simp [flat]] at hr
    exact ⟨hr.1, hr.2.1, Fr.trans (S := fun i => lo ≤ i) (hf.mono fun _ _ h => h.elim) (Fr.trans (S := fun i => lo ≤ i) Fr.refl.push hr.2.2 fun _ _ h => h) fun _ _ h => h⟩
theorem WBytes_ok {h : Heap} {lo p lim : Nat} {st : WSt} {v : Value} {l : List UInt8} (hw : PWs h lo p lim st) (hv : Rd h 1 v (bcells l) l.length) (hs : st.bs.length + l.length + 9 < 1048576) :
    Runs Tryz.prog T0 (.fn fn_zrdQ) [.pointer (some ⟨p, 0, none⟩), v] h (Writes h lo p lim (putS lim true (numF l.length ++ l) st)) (fun _ _ => False) := by
  have hlo := hw.lo_le
  have hv' := hv
  obtain ⟨a0, cap0, rfl, hl0, _⟩ := hv
  refine zrdQ_runs ?_
  refine stp ?_
  refine O.call' (number_ok (N := l.length) (by omega)) (fun r h1 hr => ?_)
  obtain ⟨hrd, hnew, hf⟩ := hr
  have hw1 := hw.none hf
  have hfl := numF_len (n := l.length) (by omega)
  obtain ⟨a1, cap1, rfl, hl1, _⟩ := id hrd
  refine stp ?_
  refine O.call' (put_ok (ls := [(.slice a1 (numF l.length).length cap1, numF l.length), (.slice a0 l.length cap0, l)]) (hw1.none Fr.refl.push) (rd_lit rfl) ?_ (by simp) (by simp [flat]; omega)) (fun r h2 hr => ?_)
  · intro q hq
    simp at hq
    rcases hq with rfl | rfl
    · exact hrd.keep (S := fun _ => False) Fr.refl.push fun _ _ => id
    · exact (hv'.keep hf fun _ _ => id).keep (S := fun _ => False) Fr.refl.push fun _ _ => id
  · refine stp ?_
    rw [show flat [(Value.slice a1 (numF l.length).length cap1, numF l.length), (Value.slice a0 l.length cap0, l)] = numF l.length ++ l from by simp [flat]] at hr
    exact ⟨hr.1, hr.2.1, Fr.trans (S := fun i => lo ≤ i) (hf.mono fun _ _ h => h.elim) (Fr.trans (S := fun i => lo ≤ i) Fr.refl.push hr.2.2 fun _ _ h => h) fun _ _ h => h⟩
theorem bcells_data (s : ByteArray) : (bcells s.data.toList).length = s.size := by simp [bcells]
theorem WText_ok {h : Heap} {lo p lim : Nat} {st : WSt} {s : ByteArray} (hw : PWs h lo p lim st) (hs : st.bs.length + s.size + 9 < 1048576) :
    Runs Tryz.prog T0 (.fn fn_zvdQ) [.pointer (some ⟨p, 0, none⟩), .string s] h (Writes h lo p lim (putS lim true (numF s.size ++ s.data.toList) st)) (fun _ _ => False) := by
  have hlo := hw.lo_le
  have hsz : s.data.toList.length = s.size := by simp
  refine zvdQ_runs ?_
  refine stp ?_
  refine O.call' (WBytes_ok (l := s.data.toList) (hw.none Fr.refl.push) ?_ (by omega)) (fun r h2 hr => ?_)
  · rw [hsz]
    refine Rd.mk (by simp) ?_
    rw [cellsAt_of (c := bcells s.data.toList) (by rw [Heap.get_push, if_pos rfl]; rfl) (by rw [bcells_data]; omega), List.drop_zero, List.take_of_length_le (by rw [bcells_data]; omega)]
  · refine stp ?_
    rw [hsz] at hr
    exact ⟨hr.1, hr.2.1, Fr.trans (S := fun i => lo ≤ i) Fr.refl.push hr.2.2 fun _ _ h => h⟩
theorem WHash_ok {h : Heap} {lo p lim : Nat} {st : WSt} {l : List UInt8} (hw : PWs h lo p lim st) (hl : l.length = 32) (hs : st.bs.length + 32 < 1048576) :
    Runs Tryz.prog T0 (.fn fn_ztdQ) [.pointer (some ⟨p, 0, none⟩), .agg ⟨bcells l⟩] h (Writes h lo p lim (putS lim true l st)) (fun _ _ => False) := by
  have hlo := hw.lo_le
  haveI := l32 hl
  refine ztdQ_runs ?_
  refine stp ?_
  refine O.call' (put_ok (ls := [(.slice (some ⟨h.n, 0, none⟩) 32 32, l)]) (hw.none Fr.refl.push.push) (rd_lit rfl) ?_ (by simp) (by simp [flat]; omega)) (fun r h2 hr => ?_)
  · intro q hq
    simp at hq
    subst hq
    rw [hl]
    exact (rd_lit (h := h) (c := bcells l) (es := 0) (n := 32) (by simpa [bcells] using hl)).keep (S := fun _ => False) Fr.refl.push fun _ _ => id
  · refine stp ?_
    rw [show flat [(Value.slice (some ⟨h.n, 0, none⟩) 32 32, l)] = l from by simp [flat]] at hr
    exact ⟨hr.1, hr.2.1, Fr.trans (S := fun i => lo ≤ i) Fr.refl.push.push hr.2.2 fun _ _ h => h⟩
theorem NewWriter_ok {h : Heap} {lim : Nat} (hl : lim ≤ 1048576) :
    Runs Tryz.prog T0 (.fn fn_zqdQ) [.int .i64 lim] h (fun r h' => r = .tuple ⟨[.pointer (some ⟨h.n, 0, none⟩), .int .i64 0]⟩ ∧ PWs h' h.n h.n lim ⟨[], 0⟩ ∧ Fr (fun _ => False) h h') (fun _ _ => False) := by
  refine zqdQ_runs ?_
  refine stp ?_
  refine C.if (fun h1 => by omega) (fun _ => ?_)
  refine stp ?_
  refine ⟨rfl, ⟨.slice none 0 0, by simp, Nat.le_refl _, by rw [Heap.get_push, if_pos rfl], .none, fun h => h, fun i h => h.elim, by simp⟩, Fr.refl.push⟩
theorem Done_ok {h : Heap} {lo p lim : Nat} {st : WSt} (hw : PWs h lo p lim st) :
    Runs Tryz.prog T0 (.fn fn_zsdQ) [.pointer (some ⟨p, 0, none⟩)] h
      (fun r h' => ∃ v, r = .tuple ⟨[v, .int .i64 st.e]⟩ ∧ Own h' 1 v (bcells (if st.e = 0 then st.bs else [])) (if st.e = 0 then st.bs else []).length ∧ (∀ i, ownedBy v i → h.n ≤ i) ∧ Fr (fun _ => False) h h') (fun _ _ => False) := by
  obtain ⟨bs, e⟩ := st
  obtain ⟨sv, hw⟩ := hw.ex
  have hw : PW h lo p sv bs lim e := hw
  obtain ⟨a0, cap0, rfl, hl0, _⟩ := hw.own.rd
  haveI : HGet h p _ := ⟨hw.get⟩
  refine zsdQ_runs ?_
  refine stp ?_
  refine C.ifN (fun he => ?_) (fun he => ?_)
  · refine stp ?_
    rw [if_neg he]
    exact ⟨_, rfl, .none, fun i h => h.elim, Fr.refl⟩
  · subst he
    refine stp ?_
    refine O.call' (Clone_ok hw.own.rd hw.small) (fun r h1 hr => ?_)
    refine stp ?_
    exact ⟨_, rfl, hr.1, hr.2.2, hr.2.1⟩
end Go.Proofs.YtlckmpioipiihaaGreat.A

namespace Go.Proofs.YtlckmpioipiihaaGreat.A
open Go.Proofs.YtlckmpioipiihaaGreat.K
open Go Go.Vm
set_option maxRecDepth 10000
set_option linter.unusedVariables false
def plainP (c : Int) : Prop := (97 ≤ c ∧ c ≤ 122) ∨ (48 ≤ c ∧ c ≤ 57) ∨ c = 45
instance (c : Int) : Decidable (plainP c) := by unfold plainP; infer_instance
theorem plain_ok {h : Heap} {c : Int} : Runs Tryz.prog T0 (.fn fn_zhbQ) [.int .i32 c] h (fun r h' => r = .bool (decide (plainP c)) ∧ h' = h) (fun _ _ => False) := by
  have fin : ∀ {b : Bool}, (b = true ↔ plainP c) → Value.bool b = .bool (decide (plainP c)) := fun {b} hb => by
    congr 1
    by_cases hp : plainP c
    · rw [decide_eq_true hp]; exact hb.2 hp
    · rw [decide_eq_false hp]
      cases b with
      | false => rfl
      | true => exact absurd (hb.1 rfl) hp
  unfold plainP at fin
  refine zhbQ_runs ?_
  refine stp ?_
  refine O.dec (fun h1 => ?_) (fun h1 => ?_)
  · refine stp ?_
    refine O.dec (fun h2 => ?_) (fun h2 => ?_)
    · refine stp ?_
      exact ⟨fin (by simp; omega), rfl⟩
    · refine stp ?_
      refine O.dec (fun h3 => ?_) (fun h3 => ?_)
      · refine stp ?_
        refine O.dec (fun h4 => ?_) (fun h4 => ?_)
        · refine stp ?_
          exact ⟨fin (by simp; omega), rfl⟩
        · refine stp ?_
          exact ⟨fin (by simp; omega), rfl⟩
      · refine stp ?_
        exact ⟨fin (by simp; omega), rfl⟩
  · refine stp ?_
    refine O.dec (fun h3 => ?_) (fun h3 => ?_)
    · refine stp ?_
      refine O.dec (fun h4 => ?_) (fun h4 => ?_)
      · refine stp ?_
        exact ⟨fin (by simp; omega), rfl⟩
      · refine stp ?_
        exact ⟨fin (by simp; omega), rfl⟩
    · refine stp ?_
      exact ⟨fin (by simp; omega), rfl⟩
def plainB (b : UInt8) : Bool := decide (plainP (b.toNat : Nat))
theorem each_ok {h : Heap} {l : List UInt8} : Runs Tryz.prog T0 (.fn fn_zfbQ) [.string ⟨⟨l⟩⟩, .func (.func fn_zhbQ) ⟨[]⟩ ⟨[]⟩] h (fun r h' => r = .bool (l.all plainB) ∧ Fr (fun _ => False) h h') (fun _ _ => False) := by
  refine zfbQ_runs ?_
  refine stp ?_
  refine loop0 zfbQ_l0_M (fun m h' => ∃ pos : Nat, pos ≤ l.length ∧ m = l.length - pos ∧ h' = h.push (.strIter ⟨⟨l⟩⟩ pos) ∧ (l.take pos).all plainB = true) ?_ l.length ⟨0, by omega, rfl, rfl, by simp⟩
  rintro m h' x4 x6 x9 x10 x11 x12 x13 x14 x15 ⟨pos, hpos, rfl, rfl, hall⟩
  refine stp ?_
  by_cases hlt : pos < l.length
  · have hsz : pos < (ByteArray.mk ⟨l⟩).size := hlt
    refine O.how (XOp.mkNextStr hsz) ?_
    refine stp ?_
    refine O.call' plain_ok (fun r h2 hr => ?_)
    obtain ⟨rfl, rfl⟩ := hr
    refine stp ?_
    have hb : (ByteArray.mk ⟨l⟩)[pos] = l[pos] := rfl
    have htake : l.take (pos + 1) = l.take pos ++ [l[pos]] := List.take_succ_eq_append_getElem hlt
    refine C.ifN (fun hp => ?_) (fun hp => ?_)
    · refine stp ?_
      rw [Heap.push_set]
      refine ⟨?_, Fr.refl.push⟩
      have : plainB l[pos] = false := by
        unfold plainB
        by_cases ha : (l[pos]).toNat < 128
        · rw [decode_ascii _ _ hsz (by rw [hb]; exact ha)] at hp
          exact decide_eq_false (by rw [hb] at hp; exact hp)
        · refine decide_eq_false fun h => ?_
          unfold plainP at h
          omega
      congr 1
      refine (List.all_eq_false.2 ⟨l[pos], List.getElem_mem _, by rw [this]; simp⟩).symm
    · have ha : (l[pos]).toNat < 128 := by
        rcases Nat.lt_or_ge (l[pos]).toNat 128 with h | h
        · exact h
        · have := (decode_high _ _ hsz (by rw [hb]; exact h)).1
          unfold plainP at hp
          omega
      rw [decode_ascii _ _ hsz (by rw [hb]; exact ha)] at hp
      rw [decode_ascii _ _ hsz (by rw [hb]; exact ha)]
      refine stp ?_
      rw [Heap.push_set]
      refine loop0a (l.length - (pos + 1)) (by omega) ⟨pos + 1, by omega, rfl, rfl, ?_⟩
      rw [htake, List.all_append, hall]
      simp only [List.all_cons, List.all_nil, Bool.and_true, Bool.true_and]
      exact decide_eq_true (by rw [hb] at hp; exact hp)
  · obtain rfl : pos = l.length := by omega
    refine O.how (XOp.mkNextEnd (s := ⟨⟨l⟩⟩) (pos := l.length) (by show ¬ l.length < l.length; omega)) ?_
    refine stp ?_
    rw [List.take_length] at hall
    rw [hall]
    exact ⟨rfl, Fr.refl.push⟩
def nameS (l : List UInt8) : Bool := decide (1 ≤ l.length) && decide (l.length ≤ 32) && l.all plainB
theorem Name_ok {h : Heap} {l : List UInt8} : Runs Tryz.prog T0 (.fn fn_zebQ) [.string ⟨⟨l⟩⟩] h (fun r h' => r = .bool (nameS l) ∧ Fr (fun _ => False) h h') (fun _ _ => False) := by
  have hsz : (ByteArray.mk ⟨l⟩).size = l.length := rfl
  refine zebQ_runs ?_
  refine stp ?_
  unfold nameS
  refine O.dec (fun h1 => ?_) (fun h1 => ?_)
  · refine stp ?_
    refine O.dec (fun h2 => ?_) (fun h2 => ?_)
    · refine stp ?_
      refine O.callT each_ok (fun r h' hr => ?_)
      obtain ⟨rfl, hf⟩ := hr
      refine stp ?_
      rw [decide_eq_true (show 1 ≤ l.length by omega), decide_eq_true (show l.length ≤ 32 by omega)]
      exact ⟨rfl, hf⟩
    · refine stp ?_
      rw [decide_eq_false (show ¬ l.length ≤ 32 by omega)]
      exact ⟨by simp, Fr.refl⟩
  · refine stp ?_
    rw [decide_eq_false (show ¬ 1 ≤ l.length by omega)]
    exact ⟨by simp, Fr.refl⟩
end Go.Proofs.YtlckmpioipiihaaGreat.A

namespace Go.Proofs.YtlckmpioipiihaaGreat.A
open Go.Proofs.YtlckmpioipiihaaGreat.K
open Go Go.Vm
set_option maxRecDepth 10000
set_option linter.unusedVariables false
structure Hd where
  chain : List UInt8
  height : Int
  time : Int
  prev : List UInt8
  vals : List UInt8
  next : List UInt8
  app : List UInt8
structure Hd.ok (x : Hd) : Prop where
  prev : x.prev.length = 32
  vals : x.vals.length = 32
  next : x.next.length = 32
  app : x.app.length = 32
abbrev Hd.cells (x : Hd) : List Value := .string ⟨⟨x.chain⟩⟩ :: .int .i64 x.height :: .int .i64 x.time :: (bcells x.prev ++ (bcells x.vals ++ (bcells x.next ++ bcells x.app)))
theorem rules1_ok {h : Heap} {x : Hd} (hx : x.ok) : Runs Tryz.prog T0 (.fn fn_zjbQ) [.agg ⟨x.cells⟩] h (fun r h' => r = .bool (nameS x.chain) ∧ Fr (fun _ => False) h h') (fun _ _ => False) := by
  refine zjbQ_runs ?_
  refine stpP ?_
  refine O.call' Name_ok (fun r h' hr => ?_)
  obtain ⟨rfl, hf⟩ := hr
  refine stpP ?_
  exact ⟨rfl, Fr.trans (S := fun _ => False) Fr.refl.push hf fun _ _ h => h⟩
theorem rules2_ok {h : Heap} {x : Hd} (hx : x.ok) : Runs Tryz.prog T0 (.fn fn_zkbQ) [.agg ⟨x.cells⟩] h (fun r h' => r = .bool (decide (1 ≤ x.height ∧ x.height ≤ 1073741824)) ∧ Fr (fun _ => False) h h') (fun _ _ => False) := by
  refine zkbQ_runs ?_
  refine stpP ?_
  refine O.dec (fun h1 => ?_) (fun h1 => ?_)
  · refine stpP ?_
    exact ⟨by simp [h1], Fr.refl.push⟩
  · refine stpP ?_
    exact ⟨by simp [h1], Fr.refl.push⟩
theorem rules3_ok {h : Heap} {x : Hd} (hx : x.ok) : Runs Tryz.prog T0 (.fn fn_zlbQ) [.agg ⟨x.cells⟩] h (fun r h' => r = .bool (decide (0 ≤ x.time ∧ x.time ≤ 1099511627776)) ∧ Fr (fun _ => False) h h') (fun _ _ => False) := by
  refine zlbQ_runs ?_
  refine stpP ?_
  refine O.dec (fun h1 => ?_) (fun h1 => ?_)
  · refine stpP ?_
    exact ⟨by simp [h1], Fr.refl.push⟩
  · refine stpP ?_
    exact ⟨by simp [h1], Fr.refl.push⟩
theorem rules_ok {h : Heap} : Runs Tryz.prog T0 (.fn fn_zibQ) [] h (fun r h' => r = .slice (some ⟨h.n, 0, none⟩) 3 3 ∧ h' = h.push (.cells [.func (.func fn_zjbQ) ⟨[]⟩ ⟨[]⟩, .int .i64 5, .func (.func fn_zkbQ) ⟨[]⟩ ⟨[]⟩, .int .i64 3, .func (.func fn_zlbQ) ⟨[]⟩ ⟨[]⟩, .int .i64 3] 0)) (fun _ _ => False) := by
  refine zibQ_runs (v := undef) ?_
  refine stpP ?_
  exact ⟨rfl, rfl⟩
def checkS (x : Hd) : Int := if nameS x.chain = false then 5 else if ¬ (1 ≤ x.height ∧ x.height ≤ 1073741824) then 3 else if ¬ (0 ≤ x.time ∧ x.time ≤ 1099511627776) then 3 else 0
theorem Check_ok {h : Heap} {x : Hd} (hx : x.ok) : Runs Tryz.prog T0 (.fn fn_zbbQ) [.agg ⟨x.cells⟩] h (fun r h' => r = .int .i64 (checkS x) ∧ Fr (fun _ => False) h h') (fun _ _ => False) := by
  haveI := l32 hx.prev
  haveI := l32 hx.vals
  haveI := l32 hx.next
  haveI := l32 hx.app
  refine zbbQ_runs ?_
  refine stpP ?_
  refine O.call' rules_ok (fun r h1 hr => ?_)
  obtain ⟨rfl, rfl⟩ := hr
  refine stpP ?_
  refine loop1 zbbQ_l0_M 7 (fun m v7 h' => ∃ k : Nat, k ≤ 3 ∧ m = 3 - k ∧ v7 = .int .i64 k ∧ Fr (fun _ => False) ((h.push (.cells x.cells 0)).push (.cells [.func (.func fn_zjbQ) ⟨[]⟩ ⟨[]⟩, .int .i64 5, .func (.func fn_zkbQ) ⟨[]⟩ ⟨[]⟩, .int .i64 3, .func (.func fn_zlbQ) ⟨[]⟩ ⟨[]⟩, .int .i64 3] 0)) h' ∧
    (0 < k → nameS x.chain = true) ∧ (1 < k → 1 ≤ x.height ∧ x.height ≤ 1073741824) ∧ (2 < k → 0 ≤ x.time ∧ x.time ≤ 1099511627776)) ?_ 3 ⟨0, by omega, rfl, rfl, Fr.refl, by omega, by omega, by omega⟩
  rintro m v7 h' x2 x4 x8 x9 x10 x11 x12 x13 x14 x15 x16 x17 x18 ⟨k, hk, rfl, rfl, hf, h1, h2, h3⟩
  have hf0 : Fr (fun _ => False) h h' := Fr.trans (S := fun _ => False) Fr.refl.push.push hf fun _ _ h => h
  haveI : HGet h' h.n _ := hf.keep (b := h.n) (HGet.push (k := BLt.new) (g := HGet.new)) (by simp; omega) id
  haveI : HGet h' (h.push (.cells x.cells 0)).n _ := hf.keep (b := (h.push (.cells x.cells 0)).n) HGet.new (by simp) id
  haveI : BLt h.n h' := ⟨by have := hf.n; simp at this; omega⟩
  haveI : BLt (h.push (.cells x.cells 0)).n h' := ⟨by have := hf.n; simp at this ⊢; omega⟩
  have hend : ∀ {o : AObj} {b : Heap}, Fr (fun _ => False) (h'.push o) b → Fr (fun _ => False) h' b := fun hb => Fr.trans (S := fun _ => False) Fr.refl.push hb fun _ _ h => h
  rcases (show k = 0 ∨ k = 1 ∨ k = 2 ∨ k = 3 by omega) with rfl | rfl | rfl | rfl
  · refine stpP ?_
    rw [Nat.zero_mul]
    refine stpP ?_
    refine O.call' (rules1_ok hx) (fun r h2' hr => ?_)
    obtain ⟨rfl, hf2⟩ := hr
    haveI : HGet h2' h'.n _ := hf2.keep (b := h'.n) HGet.new (by simp) id
    refine stpP ?_
    refine C.ifB (fun hb => ?_) (fun hb => ?_)
    · refine stpP ?_
      unfold checkS
      rw [if_pos (by simpa using hb)]
      exact ⟨rfl, hf0.trans' (hend hf2)⟩
    · refine stpP ?_
      exact loop1a 7 2 (by omega) ⟨1, by omega, rfl, rfl, hf.trans' (hend hf2), fun _ => by simpa using hb, by omega, by omega⟩
  · refine stpP ?_
    refine O.call' (rules2_ok hx) (fun r h2' hr => ?_)
    obtain ⟨rfl, hf2⟩ := hr
    haveI : HGet h2' h'.n _ := hf2.keep (b := h'.n) HGet.new (by simp) id
    refine stpP ?_
    refine C.ifN (fun hb => ?_) (fun hb => ?_)
    · refine stpP ?_
      unfold checkS
      rw [if_neg (by rw [h1 (by omega)]; simp), if_pos hb]
      exact ⟨rfl, hf0.trans' (hend hf2)⟩
    · refine stpP ?_
      exact loop1a 7 1 (by omega) ⟨2, by omega, rfl, rfl, hf.trans' (hend hf2), fun _ => h1 (by omega), fun _ => hb, by omega⟩
  · refine stpP ?_
    refine O.call' (rules3_ok hx) (fun r h2' hr => ?_)
    obtain ⟨rfl, hf2⟩ := hr
    haveI : HGet h2' h'.n _ := hf2.keep (b := h'.n) HGet.new (by simp) id
    refine stpP ?_
    refine C.ifN (fun hb => ?_) (fun hb => ?_)
    · refine stpP ?_
      unfold checkS
      rw [if_neg (by rw [h1 (by omega)]; simp), if_neg (fun h => h (h2 (by omega))), if_pos hb]
      exact ⟨rfl, hf0.trans' (hend hf2)⟩
    · refine stpP ?_
      exact loop1a 7 0 (by omega) ⟨3, by omega, rfl, rfl, hf.trans' (hend hf2), fun _ => h1 (by omega), fun _ => h2 (by omega), fun _ => hb⟩
  · refine stpP ?_
    unfold checkS
    rw [if_neg (by rw [h1 (by omega)]; simp), if_neg (fun h => h (h2 (by omega))), if_neg (fun h => h (h3 (by omega)))]
    exact ⟨rfl, hf0⟩
theorem hashes_ok {h : Heap} {x : Hd} {q : Nat} (hq : h.get q = .cells x.cells 0) (hlt : q < h.n) : Runs Tryz.prog T0 (.fn fn_zgbQ) [.pointer (some ⟨q, 0, none⟩)] h
    (fun r h' => r = .agg ⟨[.pointer (some ⟨q, 3, none⟩), .pointer (some ⟨q, 35, none⟩), .pointer (some ⟨q, 67, none⟩), .pointer (some ⟨q, 99, none⟩)]⟩ ∧ Fr (fun _ => False) h h') (fun _ _ => False) := by
  refine zgbQ_runs ?_
  refine stpP ?_
  exact ⟨rfl, Fr.refl.push⟩
end Go.Proofs.YtlckmpioipiihaaGreat.A

namespace Go.Proofs.YtlckmpioipiihaaGreat.A
open Go.Proofs.YtlckmpioipiihaaGreat.K
open Go Go.Vm
set_option maxRecDepth 10000
set_option linter.unusedVariables false
def encS (x : Hd) : List UInt8 := numF x.chain.length ++ x.chain ++ numF x.height.toNat ++ numF x.time.toNat ++ x.prev ++ x.vals ++ x.next ++ x.app
theorem putS_fit {lim : Nat} {part : List UInt8} {bs : List UInt8} (h : bs.length + part.length ≤ lim) : putS lim true part ⟨bs, 0⟩ = ⟨bs ++ part, 0⟩ := by
  unfold putS
  rw [if_neg (by simp), if_neg (by simp), if_neg (by simp only; omega)]
theorem checkS_ok {x : Hd} (h : checkS x = 0) : nameS x.chain = true ∧ (1 ≤ x.height ∧ x.height ≤ 1073741824) ∧ (0 ≤ x.time ∧ x.time ≤ 1099511627776) := by
  unfold checkS at h
  split at h
  · cases h
  · rename_i h1
    split at h
    · cases h
    · rename_i h2
      split at h
      · cases h
      · rename_i h3
        exact ⟨by simpa using h1, Classical.not_not.1 h2, Classical.not_not.1 h3⟩
theorem nameS_len {l : List UInt8} (h : nameS l = true) : 1 ≤ l.length ∧ l.length ≤ 32 ∧ l.all plainB = true := by
  unfold nameS at h
  simp only [Bool.and_eq_true, decide_eq_true_eq] at h
  exact ⟨h.1.1, h.1.2, h.2⟩
theorem Encode_ok {h : Heap} {x : Hd} (hx : x.ok) : Runs Tryz.prog T0 (.fn fn_zcbQ) [.agg ⟨x.cells⟩] h
    (fun r h' => ∃ v, r = .tuple ⟨[v, .int .i64 (checkS x)]⟩ ∧ Own h' 1 v (bcells (if checkS x = 0 then encS x else [])) (if checkS x = 0 then encS x else []).length ∧ (∀ i, ownedBy v i → h.n ≤ i) ∧ Fr (fun _ => False) h h') (fun _ _ => False) := by
  haveI := l32 hx.prev
  haveI := l32 hx.vals
  haveI := l32 hx.next
  haveI := l32 hx.app
  refine zcbQ_runs ?_
  refine stp ?_
  refine O.call' (Check_ok hx) (fun r h1 hr => ?_)
  obtain ⟨rfl, hf1⟩ := hr
  have hn1 := hf1.n
  simp at hn1
  haveI : HGet h1 h.n _ := hf1.keep (b := h.n) HGet.new (by simp) id
  have hf1' : Fr (fun _ => False) h h1 := Fr.trans (S := fun _ => False) Fr.refl.push hf1 fun _ _ h => h
  refine stp ?_
  refine C.ifN (fun hc => ?_) (fun hc => ?_)
  · refine stp ?_
    rw [if_neg hc]
    exact ⟨_, rfl, .none, fun i h => h.elim, hf1'⟩
  · refine stp ?_
    obtain ⟨c1, c2, c3⟩ := checkS_ok hc
    obtain ⟨d1, d2, d3⟩ := nameS_len c1
    have hsz : (ByteArray.mk ⟨x.chain⟩).size = x.chain.length := rfl
    have l1 := numF_len (n := x.chain.length) (by omega)
    have l2 := numF_len (n := x.height.toNat) (by omega)
    have l3 := numF_len (n := x.time.toNat) (by omega)
    have l4 := hx.prev
    have l5 := hx.vals
    have l6 := hx.next
    have l7 := hx.app
    refine O.call' (NewWriter_ok (lim := 65536) (by omega)) (fun r h2 hr => ?_)
    obtain ⟨rfl, hw2, hf2⟩ := hr
    haveI : HGet h2 h.n _ := hf2.keep (b := h.n) inferInstance (by omega) id
    have hlt2 := hf2.n
    refine stp ?_
    refine O.call' (WText_ok hw2 (by simp only [List.length_nil]; omega)) (fun r h3 hr => ?_)
    obtain ⟨rfl, hw3, hf3⟩ := hr
    haveI : HGet h3 h.n _ := hf3.keep (b := h.n) inferInstance (by omega) (by omega)
    have hlt3 := hf3.n
    have e3 : putS 65536 true (numF x.chain.length ++ x.chain) ⟨[], 0⟩ = ⟨numF x.chain.length ++ x.chain, 0⟩ := putS_fit (by simp only [List.length_nil, List.length_append]; omega)
    have hw3 : PWs h3 h1.n h1.n 65536 ⟨numF x.chain.length ++ x.chain, 0⟩ := by rw [← e3]; exact hw3
    refine stp ?_
    refine O.call' (WNum_ok hw3 (by omega) (by simp only [List.length_append]; omega)) (fun r h4 hr => ?_)
    obtain ⟨rfl, hw4, hf4⟩ := hr
    haveI : HGet h4 h.n _ := hf4.keep (b := h.n) inferInstance (by omega) (by omega)
    have hlt4 := hf4.n
    have e4 : putS 65536 (decide (0 ≤ x.height)) (numF x.height.toNat) ⟨numF x.chain.length ++ x.chain, 0⟩ = ⟨numF x.chain.length ++ x.chain ++ numF x.height.toNat, 0⟩ := by
      rw [decide_eq_true (by omega)]
      exact putS_fit (by simp only [List.length_append]; omega)
    have hw4 : PWs h4 h1.n h1.n 65536 ⟨numF x.chain.length ++ x.chain ++ numF x.height.toNat, 0⟩ := by rw [← e4]; exact hw4
    refine stp ?_
    refine O.call' (WNum_ok hw4 (by omega) (by simp only [List.length_append]; omega)) (fun r h5 hr => ?_)
    obtain ⟨rfl, hw5, hf5⟩ := hr
    haveI : HGet h5 h.n _ := hf5.keep (b := h.n) inferInstance (by omega) (by omega)
    have hlt5 := hf5.n
    have e5 : putS 65536 (decide (0 ≤ x.time)) (numF x.time.toNat) ⟨numF x.chain.length ++ x.chain ++ numF x.height.toNat, 0⟩ = ⟨numF x.chain.length ++ x.chain ++ numF x.height.toNat ++ numF x.time.toNat, 0⟩ := by
      rw [decide_eq_true (by omega)]
      exact putS_fit (by simp only [List.length_append]; omega)
    have hw5 : PWs h5 h1.n h1.n 65536 ⟨numF x.chain.length ++ x.chain ++ numF x.height.toNat ++ numF x.time.toNat, 0⟩ := by rw [← e5]; exact hw5
    have g5 : h5.get h.n = .cells x.cells 0 := HGet.eq
    refine stp ?_
    refine O.call' (hashes_ok (x := x) g5 (by omega)) (fun r h6 hr => ?_)
    obtain ⟨rfl, hf6⟩ := hr
    have hw6 := hw5.none hf6
    have hf06 : Fr (fun _ => False) h h6 := by
      refine Fr.trans (S := fun _ => False) (S' := fun i => h1.n ≤ i) hf1' ?_ (fun i hi h => by omega)
      exact Fr.trans (S := fun i => h1.n ≤ i) (S' := fun i => h1.n ≤ i) (hf2.mono fun _ _ h => h.elim) (hf3.trans' (hf4.trans' (hf5.trans' (hf6.mono fun _ _ h => h.elim)))) fun _ _ h => h
    generalize hB : numF x.chain.length ++ x.chain ++ numF x.height.toNat ++ numF x.time.toNat = bb at *
    have hBl : bb.length ≤ 100 := by rw [← hB]; simp only [List.length_append]; omega
    have g6 : h6.get h.n = .cells x.cells 0 := by rw [hf6.get _ (by omega) id, g5]
    have hn6 := hf6.n
    refine stp ?_
    refine loop1 zcbQ_l0_M 31 (fun m v31 h' => ∃ (k : Nat) (c : List UInt8), k ≤ 4 ∧ m = 4 - k ∧ v31 = .int .i64 k ∧ PWs h' h1.n h1.n 65536 ⟨bb ++ c, 0⟩ ∧ Fr (fun i => h1.n ≤ i) h6 h' ∧
      c = ([x.prev, x.vals, x.next, x.app].take k).flatten) ?_ 4 ⟨0, [], by omega, rfl, rfl, by simpa using hw6, Fr.refl, rfl⟩
    rintro m v31 h' x8 x32 x33 x34 x35 x36 x37 x38 x39 ⟨k, c, hk, rfl, rfl, hw, hf, hc'⟩
    haveI : HGet h' h.n (.cells x.cells 0) := hf.keep (b := h.n) ⟨g6⟩ (by omega) (by omega)
    have hone : ∀ {l : List UInt8} {h2 : Heap}, Fr (fun i => h1.n ≤ i) h' h2 → Fr (fun i => h1.n ≤ i) h6 h2 := fun hx => hf.trans' hx
    rcases (show k = 0 ∨ k = 1 ∨ k = 2 ∨ k = 3 ∨ k = 4 by omega) with rfl | rfl | rfl | rfl | rfl
    · have hcl : c.length = 0 := by rw [hc']; simp
      refine stp ?_
      refine O.how (XOp.mkIndex1 (m := 0) 0 rfl (by omega) rfl) ?_
      refine stp ?_
      refine O.call' (WHash_ok hw l4 (by simp only [List.length_append]; omega)) (fun r h7 hr => ?_)
      obtain ⟨rfl, hw7, hf7⟩ := hr
      rw [putS_fit (by simp only [List.length_append]; omega)] at hw7
      refine stp ?_
      exact loop1a 31 3 (by omega) ⟨1, c ++ x.prev, by omega, rfl, rfl, by rw [← List.append_assoc]; exact hw7, hf.trans' hf7, by rw [hc']; simp⟩
    · have hcl : c.length = 32 := by rw [hc']; simp [l4]
      refine stp ?_
      refine O.how (XOp.mkIndex1 (m := 1) 1 rfl (by omega) rfl) ?_
      refine stp ?_
      refine O.call' (WHash_ok hw l5 (by simp only [List.length_append]; omega)) (fun r h7 hr => ?_)
      obtain ⟨rfl, hw7, hf7⟩ := hr
      rw [putS_fit (by simp only [List.length_append]; omega)] at hw7
      refine stp ?_
      exact loop1a 31 2 (by omega) ⟨2, c ++ x.vals, by omega, rfl, rfl, by rw [← List.append_assoc]; exact hw7, hf.trans' hf7, by rw [hc']; simp⟩
    · have hcl : c.length = 64 := by rw [hc']; simp [l4, l5]
      refine stp ?_
      refine O.how (XOp.mkIndex1 (m := 2) 2 rfl (by omega) rfl) ?_
      refine stp ?_
      refine O.call' (WHash_ok hw l6 (by simp only [List.length_append]; omega)) (fun r h7 hr => ?_)
      obtain ⟨rfl, hw7, hf7⟩ := hr
      rw [putS_fit (by simp only [List.length_append]; omega)] at hw7
      refine stp ?_
      exact loop1a 31 1 (by omega) ⟨3, c ++ x.next, by omega, rfl, rfl, by rw [← List.append_assoc]; exact hw7, hf.trans' hf7, by rw [hc']; simp⟩
    · have hcl : c.length = 96 := by rw [hc']; simp [l4, l5, l6]
      refine stp ?_
      refine O.how (XOp.mkIndex1 (m := 3) 3 rfl (by omega) rfl) ?_
      refine stp ?_
      refine O.call' (WHash_ok hw l7 (by simp only [List.length_append]; omega)) (fun r h7 hr => ?_)
      obtain ⟨rfl, hw7, hf7⟩ := hr
      rw [putS_fit (by simp only [List.length_append]; omega)] at hw7
      refine stp ?_
      exact loop1a 31 0 (by omega) ⟨4, c ++ x.app, by omega, rfl, rfl, by rw [← List.append_assoc]; exact hw7, hf.trans' hf7, by rw [hc']; simp⟩
    · refine stp ?_
      refine O.call' (Done_ok hw) (fun r h7 hr => ?_)
      obtain ⟨v, rfl, ho, hnew, hf7⟩ := hr
      refine stp ?_
      rw [hc] at *
      rw [if_pos rfl]
      have he : encS x = bb ++ c := by
        rw [hc', ← hB]
        simp [encS]
      rw [he]
      refine ⟨v, rfl, by simpa using ho, fun i hi => ?_, Fr.trans (S := fun _ => False) (S' := fun i => h1.n ≤ i) hf06 (hf.trans' (hf7.mono fun _ _ h => h.elim)) fun i hi h => by omega⟩
      have := hnew i hi
      have := hf.n
      omega
end Go.Proofs.YtlckmpioipiihaaGreat.A

namespace Go.Proofs.YtlckmpioipiihaaGreat.A
open Go.Proofs.YtlckmpioipiihaaGreat.K
open Go Go.Vm
set_option maxRecDepth 10000
set_option linter.unusedVariables false
section
variable {P : Program} {T : Table} {ts : List Value} {ds : List Deferred} {h : Heap} {rd : Option Nat} {v w : Value} {dst size bytes n m el q : Nat} {zero c d : List Value} {zeros : Bool} {x y : Operand} {chk : List (Option Nat × AOp × Option (Nat × Bool))} {pan : Bool} {rest : List AOper} {Q : QP} {F : Value → List Value}
theorem O.appendLit [e1 : Ev ts x (.slice (some ⟨q, 0, none⟩) n n)] [e2 : Ev ts y w] [s : LSetF ts dst F] (hc : cellsAt h q 0 (n * size) = some c) (hx : newCells h size zero zeros w = some (m, d)) (hd : d.length = m * size) (hs : size ≠ 0) (hb : bytes < 1048576) (hsm : n + m < 1048576) (hm : 0 < m)
    (hk : ∀ h', Own h' size (.slice (some ⟨h.n, 0, some 0⟩) (n + m) (n + m)) (c ++ d) (n + m) → Fr (fun _ => False) h h' → h'.n = h.n + 1 → RunO P T rest ⟨F (.slice (some ⟨h.n, 0, some 0⟩) (n + m) (n + m)), ds, h', rd⟩ Q) :
    RunO P T (⟨some dst, .append el size bytes zero zeros x y, none, chk, pan⟩ :: rest) ⟨ts, ds, h, rd⟩ Q := by
  have hcl := cellsAt_length hc
  have ho : Own (h.push (.cells (c ++ d) size)) size (.slice (some ⟨h.n, 0, some 0⟩) (n + m) (n + m)) (c ++ d) (n + m) := .grown (j := []) (by simp) (by omega) (Nat.le_refl _) (by rw [List.length_append, hcl, hd, Nat.add_mul]) (by rw [List.append_nil, List.length_append, hcl, hd, Nat.add_mul]) (by rw [Heap.get_push, if_pos rfl, List.append_nil])
  have hop : XOp P ts h (.append el size bytes zero zeros x y) (.slice (some ⟨h.n, 0, some 0⟩) (n + m) (n + m)) (h.push (.cells (c ++ d) size)) := by
    refine ⟨rfl, ?_⟩
    simp only [xop, e1.eq, e2.eq]
    unfold appendOf
    rw [if_neg hs, hx]
    simp only
    rw [if_neg (by omega), if_neg (by omega), hc]
  haveI : LSet ts dst (.slice (some ⟨h.n, 0, some 0⟩) (n + m) (n + m)) (F (.slice (some ⟨h.n, 0, some 0⟩) (n + m) (n + m))) := ⟨s.eq _⟩
  exact O.how hop (hk _ ho Fr.refl.push (by simp))
end
theorem HHash_ok {h : Heap} {x : Hd} (hx : x.ok) : Runs Tryz.prog T0 (.fn fn_zdbQ) [.agg ⟨x.cells⟩] h
    (fun r h' => r = .tuple ⟨[.agg ⟨bcells (if checkS x = 0 then sumS (72 :: encS x) else zb32)⟩, .int .i64 (checkS x)]⟩ ∧ Fr (fun _ => False) h h') (fun _ _ => False) := by
  haveI := l32 hx.prev
  haveI := l32 hx.vals
  haveI := l32 hx.next
  haveI := l32 hx.app
  refine zdbQ_runs ?_
  refine stp ?_
  refine O.call' (Encode_ok hx) (fun r h1 hr => ?_)
  obtain ⟨v, rfl, ho, hnew, hf⟩ := hr
  have hn1 := hf.n
  simp only [Heap.n_push] at hn1
  have hf1 : Fr (fun _ => False) h h1 := Fr.trans (S := fun _ => False) Fr.refl.push.push hf fun _ _ h => h
  haveI gO : HGet h1 (h.n + 1) (.cells z32 0) := hf.keep (b := h.n + 1) (HGet.new (h := h.push _)) (by simp) id
  haveI : BLt (h.n + 1) h1 := ⟨by omega⟩
  simp only [Heap.n_push]
  refine stp ?_
  refine C.ifN (fun he => ?_) (fun he => ?_)
  · refine stp ?_
    rw [if_neg he]
    exact ⟨rfl, Fr.set hf1 fun h => by omega⟩
  · rw [if_pos he] at ho ⊢
    have hel : 0 < (encS x).length ∧ (encS x).length < 1000 := by
      obtain ⟨c1, c2, c3⟩ := checkS_ok he
      obtain ⟨d1, d2, d3⟩ := nameS_len c1
      have l1 := numF_len (n := x.chain.length) (by omega)
      have l2 := numF_len (n := x.height.toNat) (by omega)
      have l3 := numF_len (n := x.time.toNat) (by omega)
      have l4 := hx.prev
      have l5 := hx.vals
      have l6 := hx.next
      have l7 := hx.app
      unfold encS
      simp only [List.length_append]
      omega
    refine stp ?_
    refine O.appendLit (c := [.int .u8 72]) (by rw [cellsAt_of (c := [.int .u8 72]) (by rw [Heap.get_push, if_pos rfl]; rfl) (by simp)]; rfl) ((ho.rd.keep (S := fun _ => False) Fr.refl.push fun _ _ => id).new _) (by rw [bcells_len, Nat.mul_one]) (by omega) (by omega) (by omega) hel.1 (fun h2 ho2 hf2 hn2 => ?_)
    simp only [Heap.n_push] at ho2 hn2 ⊢
    have e1 : 1 + (encS x).length = (72 :: encS x).length := by simp; omega
    rw [e1] at ho2 ⊢
    refine stp ?_
    refine O.call' (Sum_ok (l := 72 :: encS x) ho2.rd (by simp) (by simp; omega)) (fun r h3 hr => ?_)
    obtain ⟨rfl, hf3⟩ := hr
    have hn3 := hf3.n
    have hsl := sumS_len (72 :: encS x)
    haveI : L32 (bcells (sumS (72 :: encS x))) := ⟨by rw [bcells_len, hsl]⟩
    have f13 : Fr (fun _ => False) h1 h3 := Fr.trans (S := fun _ => False) Fr.refl.push (hf2.trans' hf3) fun _ _ h => h
    haveI := f13.keep gO (by omega) id
    haveI : BLt (h.n + 1) h3 := ⟨by omega⟩
    rw [he]
    refine stp ?_
    exact ⟨rfl, Fr.set (Fr.trans (S := fun _ => False) hf1 f13 fun _ _ h => h) fun h => by omega⟩
end Go.Proofs.YtlckmpioipiihaaGreat.A

namespace Go.Proofs.YtlckmpioipiihaaGreat.A
open Go.Proofs.YtlckmpioipiihaaGreat.K
open Go Go.Vm
set_option maxRecDepth 10000
set_option linter.unusedVariables false
theorem under9 : Tryz.prog.underlying 9 = some .string := by kernel_rfl
theorem all_take {l : List UInt8} {k : Nat} (hk : k < l.length) (ha : (l.take k).all plainB = true) (hb : plainP ((l.getD k 0).toNat : Nat)) : (l.take (k + 1)).all plainB = true := by
  rw [take_succ_getD hk, List.all_append, ha]
  simp only [List.all_cons, List.all_nil, Bool.and_true, Bool.true_and]
  exact decide_eq_true hb
theorem all_not {l : List UInt8} {k : Nat} (hk : k < l.length) (hb : ¬ plainP ((l.getD k 0).toNat : Nat)) : nameS l = false := by
  have : l.all plainB = false := by
    refine List.all_eq_false.2 ⟨l.getD k 0, ?_, ?_⟩
    · rw [List.getD_eq_getElem?_getD, List.getElem?_eq_getElem hk]
      exact List.getElem_mem hk
    · intro h
      exact hb (of_decide_eq_true h)
  unfold nameS
  rw [this]
  simp
set_option maxHeartbeats 2000000 in
theorem RName_ok {h : Heap} {l : List UInt8} (hs : l.length < 1048576) : Runs Tryz.prog T0 (.fn fn_zxcQ) [.string ⟨⟨l⟩⟩] h (fun r h' => r = .bool (nameS l) ∧ h' = h) (fun _ _ => False) := by
  have hsz : (ByteArray.mk ⟨l⟩).size = l.length := rfl
  refine zxcQ_runs ?_
  refine stpDP ?_
  refine loop1 zxcQ_l0_M 3 (fun m v3 h' => ∃ k : Nat, k ≤ l.length ∧ m = l.length - k ∧ v3 = .int .i64 k ∧ (l.take k).all plainB = true ∧ h = h') ?_ l.length ⟨0, by omega, rfl, rfl, by simp, rfl⟩
  rintro m v3 h' x2 x4 x5 x6 x7 x8 x9 x10 x11 x12 x13 x14 x15 x16 x17 x18 x19 x20 x21 x22 x23 x24 x25 x26 x27 x28 x29 x30 x31 ⟨k, hk, rfl, rfl, hall, rfl⟩
  refine stpDP ?_
  refine C.if (fun hlt => ?_) (fun hge => ?_)
  · rw [hsz] at hlt
    have hk' : k < l.length := by omega
    refine stpDP ?_
    refine O.how (XOp.mkIndexStr (l := l) (k := k) under9 rfl hk') ?_
    have hgood : ∀ {hp : plainP ((l.getD k 0).toNat : Nat)}, (l.take (k + 1)).all plainB = true := fun {hp} => all_take hk' hall hp
    have hbad : ¬ plainP ((l.getD k 0).toNat : Nat) → Value.bool false = .bool (nameS l) := fun hp => by rw [all_not hk' hp]
    generalize hb : (((l.getD k 0).toNat : Nat) : Int) = b at *
    unfold plainP at hbad hgood
    refine stpDP ?_
    refine O.dec (fun h1 => ?_) (fun h1 => ?_)
    · refine stpDP ?_
      refine O.dec (fun h3 => ?_) (fun h3 => ?_)
      · refine stpDP ?_
        refine C.ifN (fun h5 => ?_) (fun h5 => ?_)
        · refine stpDP ?_
          exact ⟨hbad (by omega), rfl⟩
        · refine stpDP ?_
          exact loop1a 3 (l.length - (k + 1)) (by omega) ⟨k + 1, by omega, rfl, rfl, hgood (hp := by omega), rfl⟩
      · refine stpDP ?_
        refine O.dec (fun h4 => ?_) (fun h4 => ?_)
        · refine stpDP ?_
          refine C.ifN (fun h5 => ?_) (fun h5 => ?_)
          · refine stpDP ?_
            exact ⟨hbad (by omega), rfl⟩
          · exfalso; omega
        · refine stpDP ?_
          exact loop1a 3 (l.length - (k + 1)) (by omega) ⟨k + 1, by omega, rfl, rfl, hgood (hp := by omega), rfl⟩
    · refine stpDP ?_
      refine O.dec (fun h2 => ?_) (fun h2 => ?_)
      · refine stpDP ?_
        refine O.dec (fun h3 => ?_) (fun h3 => ?_)
        · exfalso; omega
        · refine stpDP ?_
          refine O.dec (fun h4 => ?_) (fun h4 => ?_)
          · refine stpDP ?_
            refine C.ifN (fun h5 => ?_) (fun h5 => ?_)
            · refine stpDP ?_
              exact ⟨hbad (by omega), rfl⟩
            · exfalso; omega
          · exfalso; omega
      · refine stpDP ?_
        exact loop1a 3 (l.length - (k + 1)) (by omega) ⟨k + 1, by omega, rfl, rfl, hgood (hp := by omega), rfl⟩
  · rw [hsz] at hge
    obtain rfl : k = l.length := by omega
    rw [List.take_length] at hall
    unfold nameS
    rw [hall]
    refine stpDP ?_
    refine O.dec (fun h1 => ?_) (fun h1 => ?_)
    · refine stpDP ?_
      rw [hsz] at h1
      rw [hsz, decide_eq_true (show 1 ≤ l.length by omega)]
      refine ⟨?_, rfl⟩
      simp only [Bool.true_and, Bool.and_true]
      congr 1
      exact decide_eq_decide.2 (by omega)
    · refine stpDP ?_
      rw [hsz] at h1
      rw [decide_eq_false (show ¬ 1 ≤ l.length by omega)]
      exact ⟨by simp, rfl⟩
set_option maxHeartbeats 2000000 in
theorem RCheck_ok {h : Heap} {x : Hd} (hx : x.ok) (hs : x.chain.length < 1048576) : Runs Tryz.prog T0 (.fn fn_zucQ) [.agg ⟨x.cells⟩] h (fun r h' => r = .int .i64 (checkS x) ∧ Fr (fun _ => False) h h') (fun _ _ => False) := by
  haveI := l32 hx.prev
  haveI := l32 hx.vals
  haveI := l32 hx.next
  haveI := l32 hx.app
  refine zucQ_runs ?_
  refine stpDP ?_
  refine O.call' (RName_ok hs) (fun r h1 hr => ?_)
  obtain ⟨rfl, rfl⟩ := hr
  unfold checkS
  refine stpDP ?_
  refine C.ifB (fun h1 => ?_) (fun h1 => ?_)
  · refine stpDP ?_
    rw [if_pos (by simpa using h1)]
    exact ⟨rfl, Fr.refl.push⟩
  · have hn : nameS x.chain = true := by simpa using h1
    rw [if_neg (by rw [hn]; simp)]
    refine stpDP ?_
    refine O.dec (fun h1 => ?_) (fun h1 => ?_)
    · refine stpDP ?_
      rw [if_pos (by omega)]
      exact ⟨rfl, Fr.refl.push⟩
    · refine stpDP ?_
      refine O.dec (fun h2 => ?_) (fun h2 => ?_)
      · refine stpDP ?_
        rw [if_pos (by omega)]
        exact ⟨rfl, Fr.refl.push⟩
      · refine stpDP ?_
        rw [if_neg (by omega)]
        refine O.dec (fun h3 => ?_) (fun h3 => ?_)
        · refine stpDP ?_
          rw [if_pos (by omega)]
          exact ⟨rfl, Fr.refl.push⟩
        · refine stpDP ?_
          refine C.if (fun h4 => ?_) (fun h4 => ?_)
          · refine stpDP ?_
            rw [if_pos (by omega)]
            exact ⟨rfl, Fr.refl.push⟩
          · refine stpDP ?_
            rw [if_neg (by omega)]
            exact ⟨rfl, Fr.refl.push⟩
end Go.Proofs.YtlckmpioipiihaaGreat.A

namespace Go.Proofs.YtlckmpioipiihaaGreat.A
open Go.Proofs.YtlckmpioipiihaaGreat.K
open Go Go.Vm
set_option maxRecDepth 10000
set_option linter.unusedVariables false
class WLen (v : List UInt32) (n : outParam Nat) : Prop where
  eq : v.length = n
instance {v : List UInt32} {n i : Nat} {w : UInt32} [k : WLen v n] : WLen (v.set i w) n := ⟨by simpa using k.eq⟩
instance (priority := 2000) {v : List UInt32} {n : Nat} [k : WLen v n] : Sub (wcells v) 0 n (wcells v) := ⟨by rw [wcells_len, k.eq]; omega, by rw [List.drop_zero, List.take_of_length_le (by rw [wcells_len, k.eq]; omega)]⟩
instance {v : List UInt32} : One (wcells v) := ⟨wcells_one v⟩
instance (priority := 2000) {v : List UInt32} {n : Nat} [k : WLen v n] : LenN (wcells v) n := ⟨by rw [wcells_len, k.eq]⟩
theorem over_words {l : List Value} {v : List UInt32} {n : Nat} (hl : l.length = n) (hv : v.length = n) : Over l 0 (wcells v) (wcells v) := ⟨by rw [wcells_len]; omega, by
  have := over_whole l (wcells v) [] (by rw [wcells_len, hl, hv])
  simpa using this⟩
instance (priority := 2000) {l : List Value} {v : List UInt32} {n : Nat} [j : WLen v n] [k : LenN l n] : Over l 0 (wcells v) (wcells v) := over_words k.eq j.eq
theorem turn_okD {h : Heap} {x : UInt32} {k : Int} (n : Nat) (hn : 0 < n ∧ n < 32) (hk : k = n) :
    Runs Tryz.prog T0 (.fn fn_zlcQ) [.int .u32 (x.toNat : Nat), .int .u64 k] h (fun r h' => r = .int .u32 ((rr x n).toNat : Nat) ∧ h' = h) (fun _ _ => False) := by
  refine zlcQ_runs ?_
  refine stp ?_
  refine O.how (XOp.shrW n hk hn.2) ?_
  refine stp ?_
  rw [show IntKind.u64.wrap (32 - k) = ((32 - n : Nat) : Int) from by rw [wrap_u64]; omega]
  refine O.how (XOp.shlW (32 - n) rfl (by omega)) ?_
  refine stp ?_
  exact ⟨by rw [rr, UInt32.or_comm], rfl⟩
set_option maxHeartbeats 2000000 in
theorem mix_okD {h : Heap} {v : List UInt32} {a b c d : Nat} {x y : UInt32} (hv : v.length = 16) (ha : a < 16) (hb : b < 16) (hc : c < 16) (hd : d < 16) :
    Runs Tryz.prog T0 (.fn fn_zjcQ) [.agg ⟨wcells v⟩, .int .i64 (a : Nat), .int .i64 (b : Nat), .int .i64 (c : Nat), .int .i64 (d : Nat), .int .u32 (x.toNat : Nat), .int .u32 (y.toNat : Nat)] h (fun r h' => r = .agg ⟨wcells (mixS v a b c d x y)⟩ ∧ Fr (fun _ => False) h h') (fun _ _ => False) := by
  haveI : WIx v a := ⟨by omega⟩
  haveI : WIx v b := ⟨by omega⟩
  haveI : WIx v c := ⟨by omega⟩
  haveI : WIx v d := ⟨by omega⟩
  haveI : WLen v 16 := ⟨hv⟩
  refine zjcQ_runs ?_
  refine stp ?_
  refine D.callX (turn_okD 16 (by omega) rfl) (fun r h1 hr => ?_) (fun r h1 hr => ?_) (fun _ _ hx => hx.elim)
  · obtain ⟨rfl, rfl⟩ := hr
    exact StabL.ok
  obtain ⟨rfl, rfl⟩ := hr
  refine stp ?_
  refine D.callX (turn_okD 12 (by omega) rfl) (fun r h1 hr => ?_) (fun r h1 hr => ?_) (fun _ _ hx => hx.elim)
  · obtain ⟨rfl, rfl⟩ := hr
    exact StabL.ok
  obtain ⟨rfl, rfl⟩ := hr
  refine stp ?_
  refine D.callX (turn_okD 8 (by omega) rfl) (fun r h1 hr => ?_) (fun r h1 hr => ?_) (fun _ _ hx => hx.elim)
  · obtain ⟨rfl, rfl⟩ := hr
    exact StabL.ok
  obtain ⟨rfl, rfl⟩ := hr
  refine stp ?_
  refine D.callX (turn_okD 7 (by omega) rfl) (fun r h1 hr => ?_) (fun r h1 hr => ?_) (fun _ _ hx => hx.elim)
  · obtain ⟨rfl, rfl⟩ := hr
    exact StabL.ok
  obtain ⟨rfl, rfl⟩ := hr
  refine stp ?_
  exact ⟨by simp only [mixS, UInt32.add_assoc], Fr.set (Fr.set Fr.refl.push.push fun h => absurd h (by simp)) fun h => absurd h (by simp)⟩
end Go.Proofs.YtlckmpioipiihaaGreat.A

namespace Go.Proofs.YtlckmpioipiihaaGreat.A
open Go.Proofs.YtlckmpioipiihaaGreat.K
open Go Go.Vm
set_option maxRecDepth 10000
set_option linter.unusedVariables false
def icells (l : List Nat) : List Value := l.map fun n => .int .i64 (n : Nat)
theorem icells_len (l : List Nat) : (icells l).length = l.length := by simp [icells]
class NLen (v : List Nat) (n : outParam Nat) : Prop where
  eq : v.length = n
instance (priority := 2000) {v : List Nat} {n : Nat} [k : NLen v n] : Sub (icells v) 0 n (icells v) := ⟨by rw [icells_len, k.eq]; omega, by rw [List.drop_zero, List.take_of_length_le (by rw [icells_len, k.eq]; omega)]⟩
instance {v : List Nat} : One (icells v) := ⟨by simp [icells, Value.oneCell']⟩
instance (priority := 2000) {v : List Nat} {n : Nat} [k : NLen v n] : LenN (icells v) n := ⟨by rw [icells_len, k.eq]⟩
instance (priority := 2000) {l : List Value} {v : List Nat} {n : Nat} [j : NLen v n] [k : LenN l n] : Over l 0 (icells v) (icells v) := ⟨by rw [icells_len, j.eq, k.eq]; omega, by
  have := over_whole l (icells v) [] (by rw [icells_len, k.eq, j.eq])
  simpa using this⟩
theorem begin_okD {h : Heap} : Runs Tryz.prog T0 (.fn fn_zhcQ) [] h (fun r h' => r = .agg ⟨wcells beginW⟩ ∧ Fr (fun _ => False) h h') (fun _ _ => False) := by
  refine zhcQ_runs (v := undef) ?_
  refine stp ?_
  exact ⟨rfl, Fr.refl.push⟩
theorem begin_okC {h : Heap} : Runs Tryz.prog T0 (.fn fn_zhcQ) [] h (fun r h' => r = .agg ⟨beginC⟩ ∧ Fr (fun _ => False) h h') (fun _ _ => False) := by
  refine zhcQ_runs (v := undef) ?_
  refine stp ?_
  exact ⟨rfl, Fr.refl.push⟩
theorem put_i {h : Heap} {q es : Nat} {c : List Value} {v : List Nat} (hg : h.get q = .cells c es) (hl : c.length = v.length) : putAt h q 0 (icells v) = some (h.set q (.cells (icells v) es)) := by
  simp only [putAt, hg]
  rw [if_pos ⟨by rw [icells_len]; omega, by simp [icells, Value.oneCell']⟩]
  congr 3
  have := over_whole c (icells v) [] (by rw [icells_len, hl])
  simpa using this
theorem XOp.mkStoreAgg {P : Program} {ts : List Value} {h h' : Heap} {a x : Operand} {n r o : Nat} {sp : Option Nat} {l : List Value} [e : Ev ts a (.pointer (some ⟨r, o, sp⟩))] [f : Ev ts x (.agg ⟨l⟩)] (hn : l.length = n) (hp : putAt h r o l = some h') : XOp P ts h (.store n a x) undef h' := ⟨rfl, by
  simp only [xop, e.eq, f.eq]
  rw [if_pos (by simpa [Value.cells] using hn)]
  show (match putAt h r o (Value.cells (.agg ⟨l⟩)).toList with | some h' => R.ok undef h' | none => R.bad) = _
  rw [show (Value.cells (.agg ⟨l⟩)).toList = l from rfl, hp]⟩
theorem O.how0 {P : Program} {T : Table} {ts : List Value} {ds : List Deferred} {h h' : Heap} {rd : Option Nat} {op : AOp} {v : Value} {chk : List (Option Nat × AOp × Option (Nat × Bool))} {pan : Bool} {rest : List AOper} {Q : QP} (k : XOp P ts h op v h') (hr : RunO P T rest ⟨ts, ds, h', rd⟩ Q) : RunO P T (⟨none, op, none, chk, pan⟩ :: rest) ⟨ts, ds, h, rd⟩ Q := O.one0 hr
def rowS (r : Nat) : List Nat := (sigma.drop (r * 16)).take 16
theorem rowS_len {r : Nat} (hr : r < 10) : (rowS r).length = 16 := by
  have : sigma.length = 160 := rfl
  unfold rowS; rw [List.length_take, List.length_drop]; omega
theorem rowS_get {r j : Nat} (hr : r < 10) (hj : j < 16) : (rowS r).getD j 0 = sigma.getD (16 * r + j) 0 := by
  unfold rowS
  simp only [List.getD_eq_getElem?_getD]
  rw [List.getElem?_take_of_lt hj, List.getElem?_drop, Nat.mul_comm]
set_option maxHeartbeats 4000000 in
theorem row_okD {h : Heap} {r : Nat} (hr : r < 10) : Runs Tryz.prog T0 (.fn fn_zkcQ) [.int .i64 (r : Nat)] h (fun v h' => v = .agg ⟨icells (rowS r)⟩ ∧ Fr (fun _ => False) h h') (fun _ _ => False) := by
  refine zkcQ_runs ?_
  refine stp ?_
  generalize hH : h.push (.cells _ 0) = H
  refine O.by (v := .agg ⟨icells [0, 1, 2, 3, 4, 5, 6, 7, 8, 9, 10, 11, 12, 13, 14, 15]⟩) (h' := H) (by kernel_rfl) rfl ?_
  refine O.by (v := .agg ⟨icells [14, 10, 4, 8, 9, 15, 13, 6, 1, 12, 0, 2, 11, 7, 5, 3]⟩) (h' := H) (by kernel_rfl) rfl ?_
  refine O.by (v := .agg ⟨icells [11, 8, 12, 0, 5, 2, 15, 13, 10, 14, 3, 6, 7, 1, 9, 4]⟩) (h' := H) (by kernel_rfl) rfl ?_
  refine O.by (v := .agg ⟨icells [7, 9, 3, 1, 13, 12, 11, 14, 2, 6, 5, 10, 4, 0, 15, 8]⟩) (h' := H) (by kernel_rfl) rfl ?_
  refine O.by (v := .agg ⟨icells [9, 0, 5, 7, 2, 4, 10, 15, 14, 1, 11, 12, 6, 8, 3, 13]⟩) (h' := H) (by kernel_rfl) rfl ?_
  refine O.by (v := .agg ⟨icells [2, 12, 6, 10, 0, 11, 8, 3, 4, 13, 7, 5, 15, 14, 1, 9]⟩) (h' := H) (by kernel_rfl) rfl ?_
  refine O.by (v := .agg ⟨icells [12, 5, 1, 15, 14, 13, 4, 10, 0, 7, 6, 3, 9, 2, 8, 11]⟩) (h' := H) (by kernel_rfl) rfl ?_
  refine O.by (v := .agg ⟨icells [13, 11, 7, 14, 12, 1, 3, 9, 5, 0, 15, 4, 8, 6, 2, 10]⟩) (h' := H) (by kernel_rfl) rfl ?_
  refine O.by (v := .agg ⟨icells [6, 15, 14, 9, 11, 3, 0, 8, 12, 2, 13, 7, 1, 4, 10, 5]⟩) (h' := H) (by kernel_rfl) rfl ?_
  refine O.by (v := .agg ⟨icells [10, 2, 8, 4, 7, 6, 1, 5, 15, 11, 9, 14, 3, 12, 13, 0]⟩) (h' := H) (by kernel_rfl) rfl ?_
  refine O.by (v := .agg ⟨icells sigma⟩) (h' := H) (by kernel_rfl) rfl ?_
  refine stp ?_
  have hrl := rowS_len hr
  haveI : NLen (rowS r) 16 := ⟨hrl⟩
  have gH : HGet H h.n (.cells (List.replicate 16 (.int .i64 0)) 0) := ⟨by rw [← hH, Heap.get_push, if_pos rfl]; rfl⟩
  have hn : H.n = h.n + 1 := by rw [← hH]; simp
  have hF : Fr (fun _ => False) h H := by rw [← hH]; exact Fr.refl.push
  clear hH
  refine O.how0 (XOp.mkStoreAgg rfl (put_i (v := sigma) (es := 0) (by rw [Heap.get_push, if_pos rfl]) (by rfl))) ?_
  generalize hH2 : Heap.set (H.push _) H.n _ = H2
  have g2 : H2.get H.n = .cells (icells sigma) 0 := by rw [← hH2, Heap.get_set, if_pos rfl]
  have g2O : HGet H2 h.n (.cells (List.replicate 16 (.int .i64 0)) 0) := ⟨by rw [← hH2, Heap.get_set, if_neg (by omega), Heap.get_push, if_neg (by omega), gH.eq]⟩
  have hF2 : Fr (fun _ => False) h H2 := by rw [← hH2]; exact Fr.set hF.push fun h => by omega
  clear hH2
  haveI := g2O
  haveI : Cells H2 H.n (r * 16) 16 (icells (rowS r)) := ⟨by
    rw [cellsAt_of (c := icells sigma) (by rw [g2]; rfl) (by rw [icells_len]; show r * 16 + 16 ≤ 160; omega)]
    simp only [icells, rowS, List.map_drop, List.map_take]⟩
  haveI : LenN (List.replicate 16 (Value.int .i64 0)) 16 := ⟨rfl⟩
  refine stp ?_
  exact ⟨rfl, Fr.set hF2 fun h => by omega⟩
end Go.Proofs.YtlckmpioipiihaaGreat.A

namespace Go.Proofs.YtlckmpioipiihaaGreat.A
open Go.Proofs.YtlckmpioipiihaaGreat.K
open Go Go.Vm
set_option maxRecDepth 10000
set_option linter.unusedVariables false
set_option synthInstance.maxSize 1000
set_option synthInstance.maxHeartbeats 200000
theorem word_eq (b : List UInt8) (k : Nat) : wordS b k = (b.getD (4 * k) 0).toUInt32 ||| (b.getD (4 * k + 1) 0).toUInt32 <<< UInt32.ofNat 8 ||| (b.getD (4 * k + 2) 0).toUInt32 <<< UInt32.ofNat 16 ||| (b.getD (4 * k + 3) 0).toUInt32 <<< UInt32.ofNat 24 := by
  have hg : ∀ j, (b.drop (4 * k)).getD j 0 = b.getD (4 * k + j) 0 := fun j => by
    simp only [List.getD_eq_getElem?_getD, List.getElem?_drop]
  unfold wordS
  simp only [pw, hg]
  rw [show UInt32.ofNat (8 * 0) = 0 from rfl, UInt32.shiftLeft_zero, UInt32.zero_or]
  rfl
set_option maxHeartbeats 4000000 in
theorem block_okD {h : Heap} {q : Nat} {hs : List UInt32} {b : List UInt8} {v : Value} {many : Nat} {last : Bool} (hl : hs.length = 8) (hv : Sl h v q b) (hb : b.length = 64) (hm : many < 4294967296) :
    Runs Tryz.prog T0 (.fn fn_zicQ) [.agg ⟨wcells hs⟩, v, .int .i64 (many : Nat), .bool last] h (fun r h' => r = .agg ⟨wcells (blockS hs b many last)⟩ ∧ Fr (fun _ => False) h h') (fun _ _ => False) := by
  haveI : WLen hs 8 := ⟨hl⟩
  obtain ⟨o, sp, cap, cs, es', rfl, hs2, hs3, hs4, hs5, hs6⟩ := hv.ex
  refine zicQ_runs ?_
  refine stp ?_
  generalize hH : ((h.push (.cells (wcells hs) 0)).push (.cells _ 0)).push (.cells _ 0) = H
  have hHn : H.n = h.n + 3 := by rw [← hH]; rfl
  have gh : H.get h.n = .cells (wcells hs) 0 := by rw [← hH, Heap.get_push, if_neg (by simp; omega), Heap.get_push, if_neg (by simp), Heap.get_push, if_pos rfl]
  have go : H.get (h.n + 1) = .cells (wcells (List.replicate 8 0)) 0 := by rw [← hH, Heap.get_push, if_neg (by simp), Heap.get_push, if_pos (by simp)]; rfl
  have gm : H.get (h.n + 2) = .cells (wcells (List.replicate 16 0)) 0 := by rw [← hH, Heap.get_push, if_pos (by simp)]; rfl
  have hF : Fr (fun _ => False) h H := by rw [← hH]; exact Fr.refl.push.push.push
  clear hH
  simp only [Heap.n_push]
  refine loop1 zicQ_l0_M 10 (fun m v10 h' => ∃ k : Nat, k ≤ 16 ∧ m = 16 - k ∧ v10 = .int .i64 k ∧ (∃ ms : List UInt32, h'.get (h.n + 2) = .cells (wcells ms) 0 ∧ ms.length = 16 ∧ ∀ j, j < 16 → ms.getD j 0 = if j < k then wordS b j else 0) ∧ Fr (fun i => i = h.n + 2) H h') ?_ 16 ⟨0, by omega, rfl, rfl, ⟨_, gm, by simp, fun j hj => by rw [if_neg (by omega)]; simp only [List.getD_eq_getElem?_getD, List.getElem?_replicate, if_pos hj]; rfl⟩, Fr.refl⟩
  rintro m v10 h' x18 x19 x20 x21 x22 x23 x24 x25 x26 x27 x28 x29 x30 x31 x32 x33 x34 x35 x36 x37 x38 x39 x40 x41 x42 x43 x44 x45 x46 x47 x48 x49 x50 x51 x52 x53 x54 x55 x56 ⟨k, hk, rfl, rfl, ⟨ms, gms, hml, hms⟩, hf⟩
  refine stp ?_
  refine C.if (fun hlt => ?_) (fun hge => ?_)
  · have hk : k < 16 := by omega
    have hcc : cellsAt h' q o b.length = some (bcells b) := by rw [← hs6, cellsAt_keep hf (by omega) (by omega), cellsAt_keep hF hs3 id]
    haveI c0 := byte_cell (k := 4 * k) hcc (by omega)
    haveI c1 := byte_cell (k := 4 * k + 1) hcc (by omega)
    haveI c2 := byte_cell (k := 4 * k + 2) hcc (by omega)
    haveI c3 := byte_cell (k := 4 * k + 3) hcc (by omega)
    haveI : HGet h' (h.n + 2) _ := ⟨gms⟩
    haveI : WIx ms k := ⟨by omega⟩
    have e4 : IntKind.i64.wrap (4 * (k : Int)) = 4 * k := mul_in (by omega)
    refine stp ?_
    rw [show o + (IntKind.i64.wrap (4 * (k : Int))).toNat * 1 = o + 4 * k from by rw [e4]; omega]
    refine stp ?_
    rw [show o + (IntKind.i64.wrap (4 * (k : Int)) + 1).toNat * 1 = o + (4 * k + 1) from by rw [e4]; omega]
    refine stp ?_
    refine D.how (XOp.shlW 8 rfl (by omega)) rfl ?_
    refine stp ?_
    rw [show o + (IntKind.i64.wrap (4 * (k : Int)) + 2).toNat * 1 = o + (4 * k + 2) from by rw [e4]; omega]
    refine stp ?_
    refine D.how (XOp.shlW 16 rfl (by omega)) rfl ?_
    refine stp ?_
    rw [show o + (IntKind.i64.wrap (4 * (k : Int)) + 3).toNat * 1 = o + (4 * k + 3) from by rw [e4]; omega]
    refine stp ?_
    refine D.how (XOp.shlW 24 rfl (by omega)) rfl ?_
    refine stp ?_
    rw [← word_eq b k]
    refine loop1a 10 (16 - (k + 1)) (by omega) ⟨k + 1, by omega, rfl, rfl, ⟨_, by rw [Heap.get_set, if_pos rfl], by simpa using hml, fun j hj => ?_⟩, hf.set fun _ => rfl⟩
    rw [getD_set (by omega)]
    by_cases e : j = k
    · rw [if_pos e, e, if_pos (by omega)]
    · rw [if_neg e, hms j hj]
      by_cases e2 : j < k
      · rw [if_pos e2, if_pos (by omega)]
      · rw [if_neg e2, if_neg (by omega)]
  · obtain rfl : k = 16 := by omega
    have hmw : ms = wordsS b := words_ext (by rw [hml, wordsS_len]) fun j hj => by rw [hms j (by omega), if_pos (by omega), wordsS_get b (by omega)]
    subst hmw
    clear hms hge hs6 hs5 hs4
    refine stp ?_
    generalize hH1 : h'.push (.cells _ 0) = H1
    have hn' := hf.n
    have g1v : H1.get h'.n = .cells (wcells (List.replicate 16 0)) 0 := by rw [← hH1, Heap.get_push, if_pos rfl]; rfl
    have g1m : H1.get (h.n + 2) = .cells (wcells (wordsS b)) 0 := by rw [← hH1, Heap.get_push, if_neg (by omega), gms]
    have g1h : H1.get h.n = .cells (wcells hs) 0 := by rw [← hH1, Heap.get_push, if_neg (by omega), hf.get _ (by omega) (by omega), gh]
    have g1o : H1.get (h.n + 1) = .cells (wcells (List.replicate 8 0)) 0 := by rw [← hH1, Heap.get_push, if_neg (by omega), hf.get _ (by omega) (by omega), go]
    have hn1 : H1.n = h'.n + 1 := by rw [← hH1]; rfl
    have hF1 : Fr (fun _ => False) h H1 := by rw [← hH1]; exact (Fr.trans (S := fun _ => False) (S' := fun i => i = h.n + 2) hF hf fun i hi h => by omega).push
    clear hH1 gms go gm gh
    generalize h'.n = vq at *
    clear hf hF
    refine loop1 zicQ_l1_M 12 (fun m v12 h' => ∃ k : Nat, k ≤ 8 ∧ m = 8 - k ∧ v12 = .int .i64 k ∧ (∃ vs : List UInt32, h'.get vq = .cells (wcells vs) 0 ∧ vs.length = 16 ∧ ∀ j, j < 16 → vs.getD j 0 = if j < k then hs.getD j 0 else if 8 ≤ j ∧ j < 8 + k then beginW.getD (j - 8) 0 else 0) ∧ Fr (fun i => i = vq) H1 h') ?_ 8 ⟨0, by omega, rfl, rfl, ⟨_, g1v, by simp, fun j hj => by rw [if_neg (by omega), if_neg (by omega)]; simp only [List.getD_eq_getElem?_getD, List.getElem?_replicate, if_pos hj]; rfl⟩, Fr.refl⟩
    rintro m v12 h' x57 x58 x59 x60 x61 x62 x63 x64 x65 x66 x67 x68 x69 x70 x71 ⟨k, hk, rfl, rfl, ⟨vs, gvs, hvl, hvs⟩, hf⟩
    refine stp ?_
    refine C.if (fun hlt => ?_) (fun hge => ?_)
    · have hk : k < 8 := by omega
      haveI : HGet h' vq _ := ⟨gvs⟩
      haveI : HGet h' h.n (.cells (wcells hs) 0) := ⟨by rw [hf.get _ (by omega) (by omega), g1h]⟩
      haveI : WIx hs k := ⟨by omega⟩
      haveI : WIx vs k := ⟨by omega⟩
      haveI : WIx vs (k + 8) := ⟨by omega⟩
      haveI : WIx beginW k := ⟨by show k < 8; omega⟩
      refine stp ?_
      refine O.call' begin_okD (fun r h2 hr => ?_)
      obtain ⟨rfl, hf2⟩ := hr
      have hn2 := hf2.n
      simp only [Heap.n_set] at hn2
      haveI : HGet h2 vq (.cells (wcells (vs.set k (hs.getD k 0))) 0) := ⟨by rw [hf2.get _ (by have := hf.n; simp; omega) id, Heap.get_set, if_pos rfl]⟩
      refine stp ?_
      refine O.how (XOp.mkIndex1 (m := k) k rfl (by omega) (by omega)) ?_
      refine stp ?_
      rw [show 0 + ((k : Int) + 8).toNat * 1 = k + 8 from by omega]
      refine stp ?_
      refine loop1a 12 (8 - (k + 1)) (by omega) ⟨k + 1, by omega, rfl, rfl, ⟨_, by rw [Heap.get_set, if_pos rfl], by simpa using hvl, fun j hj => ?_⟩, Fr.set (Fr.trans' (Fr.set hf fun _ => rfl) (hf2.mono fun _ _ h => h.elim)) fun _ => rfl⟩
      rw [getD_set (by simp; omega), getD_set (by omega), hvs j hj]
      by_cases e1 : j = k + 8
      · rw [if_pos e1, if_neg (show ¬ j < k + 1 by omega), if_pos (show 8 ≤ j ∧ j < 8 + (k + 1) by omega)]
        congr 1; omega
      · rw [if_neg e1]
        by_cases e2 : j = k
        · rw [if_pos e2, if_pos (show j < k + 1 by omega), e2]
        · rw [if_neg e2]
          by_cases e3 : j < k
          · rw [if_pos e3, if_pos (show j < k + 1 by omega)]
          · rw [if_neg e3, if_neg (show ¬ j < k + 1 by omega)]
            by_cases e4 : 8 ≤ j ∧ j < 8 + k
            · rw [if_pos e4, if_pos (show 8 ≤ j ∧ j < 8 + (k + 1) by omega)]
            · rw [if_neg e4, if_neg (show ¬ (8 ≤ j ∧ j < 8 + (k + 1)) by omega)]
    · obtain rfl : k = 8 := by omega
      have hvb : vs = hs ++ beginW := words_ext (by rw [hvl, List.length_append, hl]; rfl) fun j hj => by
        rw [hvs j (by omega)]
        simp only [List.getD_eq_getElem?_getD]
        by_cases e : j < 8
        · rw [if_pos e, List.getElem?_append_left (by omega)]
        · rw [if_neg e, if_pos (by omega), List.getElem?_append_right (by omega), hl]
      subst hvb
      clear hvs hge
      haveI : WIx (hs ++ beginW) 12 := ⟨by omega⟩
      haveI : WIx (hs ++ beginW) 13 := ⟨by omega⟩
      haveI : WIx (hs ++ beginW) 14 := ⟨by omega⟩
      haveI : HGet h' vq _ := ⟨gvs⟩
      refine stp ?_
      refine O.how (XOp.shr (q := 32) (by omega)) ?_
      rw [show ((many : Int)).fdiv (2 ^ (min (32 : Int).toNat IntKind.u64.bits)) = ((many / 4294967296 : Nat) : Int) from by
        rw [show (2 : Int) ^ (min (32 : Int).toNat IntKind.u64.bits) = 4294967296 from rfl, Int.fdiv_eq_ediv_of_nonneg _ (by omega)]; omega]
      refine stp ?_
      refine C.ifB (fun hlast => ?_) (fun hlast => ?_)
      all_goals
        refine stp ?_
        have hn2 := hf.n
        generalize hh4 : h'.set vq _ = h4
        have g4v : h4.get vq = .cells (wcells (startV hs many last)) 0 := by rw [← hh4, Heap.get_set, if_pos rfl, hlast]; rfl
        have g4m : h4.get (h.n + 2) = .cells (wcells (wordsS b)) 0 := by rw [← hh4, Heap.get_set, if_neg (by omega), hf.get _ (by omega) (by omega), g1m]
        have g4h : h4.get h.n = .cells (wcells hs) 0 := by rw [← hh4, Heap.get_set, if_neg (by omega), hf.get _ (by omega) (by omega), g1h]
        have g4o : h4.get (h.n + 1) = .cells (wcells (List.replicate 8 0)) 0 := by rw [← hh4, Heap.get_set, if_neg (by omega), hf.get _ (by omega) (by omega), g1o]
        have hn4 : h4.n = h'.n := by rw [← hh4]; simp
        have hF4 : Fr (fun _ => False) h h4 := by rw [← hh4]; exact Fr.set (Fr.trans (S := fun _ => False) (S' := fun i => i = vq) hF1 hf fun i hi h => by omega) fun h => by omega
        clear hh4 gvs
        have hvl' : (startV hs many last).length = 16 := startV_len hl
        have hwl := wordsS_len b
        generalize hVe : startV hs many last = V at *
        generalize hWe : wordsS b = W at *
        refine loop1 zicQ_l4_M 13 (fun m v13 h' => ∃ r : Nat, r ≤ 10 ∧ m = 10 - r ∧ v13 = .int .i64 r ∧ h'.get vq = .cells (wcells (roundsS W V r)) 0 ∧ Fr (fun i => i = vq) h4 h') ?_ 10 ⟨0, by omega, rfl, rfl, g4v, Fr.refl⟩
        rintro m v13 h5 x14 x15 x16 x92 x93 x94 x95 x96 x97 x98 x99 x100 x101 x102 x103 x104 x105 x106 x107 x108 x109 x110 x111 x112 x113 x114 x115 x116 x117 x118 x119 x120 x121 x122 x123 x124 x125 x126 x127 x128 x129 x130 x131 x132 x133 x134 x135 x136 x137 x138 x139 x140 x141 x142 x143 x144 x145 x146 x147 x148 x149 x150 x151 x152 x153 x154 x155 x156 ⟨r, hr, rfl, rfl, g5v, hf5⟩
        have hn5 := hf5.n
        refine stp ?_
        refine C.if (fun hlt => ?_) (fun hge => ?_)
        · have hr : r < 10 := by omega
          refine stp ?_
          refine O.call' (row_okD hr) (fun r1 h6 hr1 => ?_)
          obtain ⟨rfl, hf6⟩ := hr1
          have hn6 := hf6.n
          have hrl := rowS_len hr
          haveI : NLen (rowS r) 16 := ⟨hrl⟩
          refine stp ?_
          generalize hh7 : h6.push (.cells (icells (rowS r)) 0) = h7
          have g7s : h7.get h6.n = .cells (icells (rowS r)) 0 := by rw [← hh7, Heap.get_push, if_pos rfl]
          have g7v : h7.get vq = .cells (wcells (roundsS W V r)) 0 := by rw [← hh7, Heap.get_push, if_neg (by omega), hf6.get _ (by omega) id, g5v]
          have g7m : h7.get (h.n + 2) = .cells (wcells W) 0 := by rw [← hh7, Heap.get_push, if_neg (by omega), hf6.get _ (by omega) id, hf5.get _ (by omega) (by omega), g4m]
          have hn7 : h7.n = h6.n + 1 := by rw [← hh7]; simp
          have hf7 : Fr (fun i => i = vq) h4 h7 := by rw [← hh7]; exact (hf5.trans' (hf6.mono fun _ _ h => h.elim)).push
          clear hh7
          have hrow : ∀ {h8 : Heap}, h8.get h6.n = .cells (icells (rowS r)) 0 → ∀ j, j < 16 → Cell h8 h6.n j (.int .i64 ((sigma.getD (16 * r + j) 0 : Nat) : Int)) := fun {h8} hg j hj => ⟨by
            rw [cellsAt_of (c := icells (rowS r)) (by rw [hg]; rfl) (by rw [icells_len]; omega), take_one _ _ (by rw [icells_len]; omega)]
            have : ∀ (l : List Nat) (j : Nat), j < l.length → lget (icells l) j = .int .i64 ((l.getD j 0 : Nat) : Int) := by
              intro l
              induction l with
              | nil => intro j hj; simp at hj
              | cons a l ih =>
                intro j hj
                cases j with
                | zero => rfl
                | succ j =>
                  show lget (icells l) j = _
                  rw [ih j (by simpa using hj)]
                  simp
            rw [this _ _ (by omega), rowS_get hr hj]⟩
          refine loop1 zicQ_l2_M 15 (fun m v15 h8 => ∃ i : Nat, i ≤ 4 ∧ m = 4 - i ∧ v15 = .int .i64 i ∧ h8.get vq = .cells (wcells (halfA W r (roundsS W V r) i)) 0 ∧ Fr (fun j => j = vq) h7 h8) ?_ 4 ⟨0, by omega, rfl, rfl, g7v, Fr.refl⟩
          rintro m v15 h8 x98 x99 x100 x101 x102 x103 x104 x105 x106 x107 x108 x109 x110 x111 x112 x113 x114 x115 x116 x117 x118 x119 x120 x121 x122 x123 ⟨i, hi, rfl, rfl, gA, hfA⟩
          have hrl2 : (halfA W r (roundsS W V r) i).length = 16 := by rw [halfA_len, roundsS_len, hvl']
          have hnA := hfA.n
          have g8s : h8.get h6.n = .cells (icells (rowS r)) 0 := by rw [hfA.get _ (by omega) (by omega), g7s]
          refine stp ?_
          refine C.if (fun hlt => ?_) (fun hge => ?_)
          · have hi : i < 4 := by omega
            haveI : HGet h8 vq _ := ⟨gA⟩
            haveI : HGet h8 (h.n + 2) (.cells (wcells W) 0) := ⟨by rw [hfA.get _ (by omega) (by omega), g7m]⟩
            haveI : WLen (halfA W r (roundsS W V r) i) 16 := ⟨hrl2⟩
            have hd0 := (rows_get (show 16 * r + 2 * i < 160 by omega)).2
            have hd1 := (rows_get (show 16 * r + (2 * i + 1) < 160 by omega)).2
            haveI : WIx W (sigma.getD (16 * r + 2 * i) 0) := ⟨by omega⟩
            haveI : WIx W (sigma.getD (16 * r + (2 * i + 1)) 0) := ⟨by omega⟩
            haveI c0 := hrow g8s (2 * i) (by omega)
            haveI c1 := hrow g8s (2 * i + 1) (by omega)
            have e2 : IntKind.i64.wrap (2 * (i : Int)) = 2 * i := mul_in (by omega)
            refine stp ?_
            rw [show 0 + (IntKind.i64.wrap (2 * (i : Int))).toNat * 1 = 2 * i from by rw [e2]; omega]
            refine stp ?_
            rw [show 0 + (IntKind.i64.wrap (2 * (i : Int)) + 1).toNat * 1 = 2 * i + 1 from by rw [e2]; omega]
            refine stp ?_
            rw [show ((i : Int) + 4) = ((4 + i : Nat) : Int) from by omega, show ((i : Int) + 8) = ((8 + i : Nat) : Int) from by omega, show ((i : Int) + 12) = ((12 + i : Nat) : Int) from by omega]
            refine D.callX (mix_okD hrl2 (by omega) (by omega) (by omega) (by omega)) (fun r1 h1' hr1 => rfl) (fun r1 h9 hr1 => ?_) (fun _ _ hx => hx.elim)
            obtain ⟨rfl, hf9⟩ := hr1
            haveI := hf9.keep (S := fun _ => False) (b := vq) ⟨gA⟩ (by omega) id
            haveI : WLen (mixS (halfA W r (roundsS W V r) i) i (4 + i) (8 + i) (12 + i) (W.getD (sigma.getD (16 * r + 2 * i) 0) 0) (W.getD (sigma.getD (16 * r + (2 * i + 1)) 0) 0)) 16 := ⟨by rw [mixS_len, hrl2]⟩
            haveI : LenN (wcells (halfA W r (roundsS W V r) i)) 16 := ⟨by rw [wcells_len, hrl2]⟩
            refine stp ?_
            exact loop1a 15 (4 - (i + 1)) (by omega) ⟨i + 1, by omega, rfl, rfl, by rw [Heap.get_set, if_pos rfl]; rfl, Fr.set (Fr.trans' hfA (hf9.mono fun _ _ h => h.elim)) fun _ => rfl⟩
          · obtain rfl : i = 4 := by omega
            refine stp ?_
            clear hge
            refine loop1 zicQ_l3_M 16 (fun m v16 h8 => ∃ i : Nat, i ≤ 4 ∧ m = 4 - i ∧ v16 = .int .i64 i ∧ h8.get vq = .cells (wcells (halfB W r (halfA W r (roundsS W V r) 4) i)) 0 ∧ Fr (fun j => j = vq) h7 h8) ?_ 4 ⟨0, by omega, rfl, rfl, gA, hfA⟩
            rintro m v16 h9 x124 x125 x126 x127 x128 x129 x130 x131 x132 x133 x134 x135 x136 x137 x138 x139 x140 x141 x142 x143 x144 x145 x146 x147 x148 x149 x150 x151 x152 x153 x154 x155 x156 ⟨i, hi, rfl, rfl, gB, hfB⟩
            have hrl3 : (halfB W r (halfA W r (roundsS W V r) 4) i).length = 16 := by rw [halfB_len, hrl2]
            have hnB := hfB.n
            have g9s : h9.get h6.n = .cells (icells (rowS r)) 0 := by rw [hfB.get _ (by omega) (by omega), g7s]
            refine stp ?_
            refine C.if (fun hlt => ?_) (fun hge => ?_)
            · have hi : i < 4 := by omega
              haveI : HGet h9 vq _ := ⟨gB⟩
              haveI : HGet h9 (h.n + 2) (.cells (wcells W) 0) := ⟨by rw [hfB.get _ (by omega) (by omega), g7m]⟩
              haveI : WLen (halfB W r (halfA W r (roundsS W V r) 4) i) 16 := ⟨hrl3⟩
              have hd0 := (rows_get (show 16 * r + (8 + 2 * i) < 160 by omega)).2
              have hd1 := (rows_get (show 16 * r + (9 + 2 * i) < 160 by omega)).2
              haveI : WIx W (sigma.getD (16 * r + (8 + 2 * i)) 0) := ⟨by omega⟩
              haveI : WIx W (sigma.getD (16 * r + (9 + 2 * i)) 0) := ⟨by omega⟩
              haveI c0 := hrow g9s (8 + 2 * i) (by omega)
              haveI c1 := hrow g9s (9 + 2 * i) (by omega)
              have e2 : IntKind.i64.wrap (2 * (i : Int)) = 2 * i := mul_in (by omega)
              refine stp ?_
              refine D.how (XOp.remI (by decide)) rfl ?_
              rw [show ((i : Int) + 1).tmod 4 = ((i + 1) % 4 : Nat) from by rw [Int.tmod_eq_emod_of_nonneg (by omega)]; omega]
              refine stp ?_
              refine D.how (XOp.remI (by decide)) rfl ?_
              rw [show ((i : Int) + 2).tmod 4 = ((i + 2) % 4 : Nat) from by rw [Int.tmod_eq_emod_of_nonneg (by omega)]; omega]
              refine stp ?_
              refine D.how (XOp.remI (by decide)) rfl ?_
              rw [show ((i : Int) + 3).tmod 4 = ((i + 3) % 4 : Nat) from by rw [Int.tmod_eq_emod_of_nonneg (by omega)]; omega]
              refine stp ?_
              rw [show 0 + (8 + IntKind.i64.wrap (2 * (i : Int))).toNat * 1 = 8 + 2 * i from by rw [e2]; omega]
              refine stp ?_
              rw [show 0 + (9 + IntKind.i64.wrap (2 * (i : Int))).toNat * 1 = 9 + 2 * i from by rw [e2]; omega]
              refine stp ?_
              rw [show ((4 : Int) + (((i + 1) % 4 : Nat) : Int)) = ((4 + (i + 1) % 4 : Nat) : Int) from by omega, show ((8 : Int) + (((i + 2) % 4 : Nat) : Int)) = ((8 + (i + 2) % 4 : Nat) : Int) from by omega, show ((12 : Int) + (((i + 3) % 4 : Nat) : Int)) = ((12 + (i + 3) % 4 : Nat) : Int) from by omega]
              refine D.callX (mix_okD hrl3 (by omega) (by omega) (by omega) (by omega)) (fun r1 h1' hr1 => rfl) (fun r1 h10 hr1 => ?_) (fun _ _ hx => hx.elim)
              obtain ⟨rfl, hf10⟩ := hr1
              haveI := hf10.keep (S := fun _ => False) (b := vq) ⟨gB⟩ (by omega) id
              haveI : WLen (mixS (halfB W r (halfA W r (roundsS W V r) 4) i) i (4 + (i + 1) % 4) (8 + (i + 2) % 4) (12 + (i + 3) % 4) (W.getD (sigma.getD (16 * r + (8 + 2 * i)) 0) 0) (W.getD (sigma.getD (16 * r + (9 + 2 * i)) 0) 0)) 16 := ⟨by rw [mixS_len, hrl3]⟩
              haveI : LenN (wcells (halfB W r (halfA W r (roundsS W V r) 4) i)) 16 := ⟨by rw [wcells_len, hrl3]⟩
              refine stp ?_
              exact loop1a 16 (4 - (i + 1)) (by omega) ⟨i + 1, by omega, rfl, rfl, by rw [Heap.get_set, if_pos rfl]; rfl, Fr.set (Fr.trans' hfB (hf10.mono fun _ _ h => h.elim)) fun _ => rfl⟩
            · obtain rfl : i = 4 := by omega
              refine stp ?_
              exact loop1a 13 (10 - (r + 1)) (by omega) ⟨r + 1, by omega, rfl, rfl, gB, hf7.trans' hfB⟩
        · obtain rfl : r = 10 := by omega
          refine stp ?_
          have hvl5 : (roundsS W V 10).length = 16 := by rw [roundsS_len, hvl']
          have g5h : h5.get h.n = .cells (wcells hs) 0 := by rw [hf5.get _ (by omega) (by omega), g4h]
          have g5o : h5.get (h.n + 1) = .cells (wcells (List.replicate 8 0)) 0 := by rw [hf5.get _ (by omega) (by omega), g4o]
          have hF5 : Fr (fun _ => False) h h5 := Fr.trans (S := fun _ => False) (S' := fun i => i = vq) hF4 hf5 fun i hi h => by omega
          generalize hVV : roundsS W V 10 = VV at *
          refine loop1 zicQ_l5_M 17 (fun m v17 h'' => ∃ k : Nat, k ≤ 8 ∧ m = 8 - k ∧ v17 = .int .i64 k ∧ (∃ hs', h''.get h.n = .cells (wcells hs') 0 ∧ hs'.length = 8 ∧ ∀ j, j < 8 → hs'.getD j 0 = if j < k then hs.getD j 0 ^^^ (VV.getD j 0 ^^^ VV.getD (j + 8) 0) else hs.getD j 0) ∧ Fr (fun i => i = h.n) h5 h'') ?_ 8 ⟨0, by omega, rfl, rfl, ⟨hs, g5h, hl, fun j hj => by rw [if_neg (by omega)]⟩, Fr.refl⟩
          rintro m v17 h'' x157 x158 x159 x160 x161 x162 x163 x164 x165 x166 x167 x168 x169 x170 x171 x172 x173 x174 ⟨k, hk, rfl, rfl, ⟨hs', gp', hl', hgp⟩, hf'⟩
          haveI : HGet h'' h.n _ := ⟨gp'⟩
          haveI : WLen hs' 8 := ⟨hl'⟩
          refine stp ?_
          refine C.if (fun hlt => ?_) (fun hge => ?_)
          · have hk : k < 8 := by omega
            haveI : HGet h'' vq (.cells (wcells VV) 0) := ⟨by rw [hf'.get _ (by omega) (by omega), g5v]⟩
            haveI : WIx VV k := ⟨by omega⟩
            haveI : WIx VV (k + 8) := ⟨by omega⟩
            haveI : WIx hs' k := ⟨by omega⟩
            refine stp ?_
            rw [show 0 + ((k : Int) + 8).toNat * 1 = k + 8 from by omega]
            refine stp ?_
            refine loop1a 17 (8 - (k + 1)) (by omega) ⟨k + 1, by omega, rfl, rfl, ⟨_, by rw [Heap.get_set, if_pos rfl], by simpa using hl', fun j hj => ?_⟩, hf'.set fun _ => rfl⟩
            rw [getD_set (by omega)]
            by_cases e : j = k
            · rw [if_pos e, e, if_pos (by omega), hgp k hk, if_neg (by omega), UInt32.xor_assoc]
            · rw [if_neg e, hgp j hj]
              by_cases e2 : j < k
              · rw [if_pos e2, if_pos (by omega)]
              · rw [if_neg e2, if_neg (by omega)]
          · obtain rfl : k = 8 := by omega
            have hout : hs' = outS hs VV := words_ext (by rw [hl']; rfl) fun j hj => by
              rw [hgp j (by omega), if_pos (by omega)]
              simp [outS, List.getD_eq_getElem?_getD, show j < 8 from by omega]
            have hn'' := hf'.n
            haveI : HGet h'' (h.n + 1) (.cells (wcells (List.replicate 8 0)) 0) := ⟨by rw [hf'.get _ (by omega) (by omega), g5o]⟩
            haveI : LenN (wcells (List.replicate 8 0)) 8 := ⟨rfl⟩
            refine stp ?_
            refine ⟨?_, Fr.set (Fr.trans (S := fun _ => False) (S' := fun i => i = h.n) hF5 hf' fun i hi h => by omega) fun h => by omega⟩
            rw [hout, ← hVV, ← hVe, ← hWe]; rfl
end Go.Proofs.YtlckmpioipiihaaGreat.A

namespace Go.Proofs.YtlckmpioipiihaaGreat.A
open Go.Proofs.YtlckmpioipiihaaGreat.K
open Go Go.Vm
set_option maxRecDepth 10000
set_option linter.unusedVariables false
set_option synthInstance.maxSize 1000
set_option synthInstance.maxHeartbeats 200000
def docS (l : List UInt8) (t : Nat) : List UInt32 := if t ≤ full l then stepsS l t else blockS (stepsS l (full l)) (l.drop (64 * full l) ++ List.replicate (64 - (l.length - 64 * full l)) 0) l.length true
theorem docS_len (l : List UInt8) (t : Nat) : (docS l t).length = 8 := by unfold docS; split; exact stepsS_len _ _; exact blockS_len _ _ _ _
set_option maxHeartbeats 4000000 in
theorem Sum_okD {h : Heap} {v : Value} {l : List UInt8} (hv : Rd h 1 v (bcells l) l.length) (hl : 0 < l.length) (hsm : l.length < 1000000) :
    Runs Tryz.prog T0 (.fn fn_zgcQ) [v] h (fun r h' => r = .agg ⟨bcells (sumS l)⟩ ∧ Fr (fun _ => False) h h') (fun _ _ => False) := by
  have hv0 := hv
  obtain ⟨a0, cap0, rfl, hl0, _⟩ := hv
  refine zgcQ_runs ?_
  refine stp ?_
  simp only [Heap.n_push]
  generalize hH : (h.push (.cells z32 0)).push (.cells [] 0) = H
  have hHn : H.n = h.n + 2 := by rw [← hH]; rfl
  have gO : HGet H h.n (.cells z32 0) := ⟨by rw [← hH, Heap.get_push, if_neg (by simp), Heap.get_push, if_pos rfl]⟩
  have gE : H.get (h.n + 1) = .cells [] 0 := by rw [← hH, Heap.get_push, if_pos (by simp)]
  have hF : Fr (fun _ => False) h H := by rw [← hH]; exact Fr.refl.push.push
  clear hH
  have hvH := hv0.keep hF fun _ _ => id
  refine O.append (.lit (q := h.n + 1) (by omega) gE) (hvH.new _) (by rw [bcells_len]; omega) (bcells_one l) (by omega) (by omega) (by omega) (fun v' h2 ho2 hf2 hnew2 => ?_)
  rw [Nat.zero_add, List.nil_append] at ho2
  have hn2 := hf2.n
  refine stp ?_
  have hfl : 64 * full l < l.length ∧ l.length ≤ 64 * full l + 64 := by unfold full; omega
  have hOne : ∀ i, ownedBy v' i → h.n < i := fun i hi => by
    rcases hnew2 i hi with e | e
    · have : h.n + 1 = i := e
      omega
    · omega
  have gO2 : h2.get h.n = .cells z32 0 := by rw [hf2.get _ (by omega) (fun e => by have : h.n + 1 = h.n := e; omega), gO.eq]
  have hF2 : Fr (fun _ => False) h h2 := Fr.trans (S := fun _ => False) hF hf2 fun i hi e => by have : h.n + 1 = i := e; omega
  refine loop1 zgcQ_l0_M 3 (fun m v3 h' => ∃ k : Nat, k ≤ 64 * full l + 64 - l.length ∧ m = 64 - k ∧ Own h' 1 v3 (bcells (l ++ List.replicate k 0)) (l.length + k) ∧ (∀ i, ownedBy v3 i → h.n < i) ∧ h'.get h.n = .cells z32 0 ∧ h2.n ≤ h'.n ∧ Fr (fun _ => False) h h') ?_ 64 ⟨0, by omega, rfl, by simpa using ho2, hOne, gO2, Nat.le_refl _, hF2⟩
  rintro m v3 h' x11 x12 x13 x14 x15 x16 x17 x18 x19 x20 x21 x22 ⟨k, hk, rfl, ho, hown, gO', hle2, hf⟩
  obtain ⟨a1, cap1, rfl, hl1, hc1⟩ := id ho.rd
  have hn' := hf.n
  refine stp ?_
  refine O.dec (fun h0 => ?_) (fun h0 => ?_)
  · exfalso; omega
  refine stp ?_
  refine O.howT (XOp.remI (by decide)) ?_
  rw [show (((l.length + k : Nat) : Int)).tmod 64 = (((l.length + k) % 64 : Nat) : Int) from by rw [Int.tmod_eq_emod_of_nonneg (by omega)]; omega]
  refine stp ?_
  refine C.ifN (fun hne => ?_) (fun heq => ?_)
  · have hk2 : k < 64 * full l + 64 - l.length := by
      rcases Nat.lt_or_ge k (64 * full l + 64 - l.length) with e | e
      · exact e
      · exfalso; apply hne; omega
    refine stp ?_
    have hpush : Fr (fun _ => False) h' (h'.push (.cells [.int .u8 0] 0)) := Fr.refl.push
    refine O.append (ho.keep hpush fun _ _ => id) (Rd.new (Rd.mk (c := [.int .u8 0]) (by simp) (by rw [cellsAt_of (c := [.int .u8 0]) (by rw [Heap.get_push, if_pos rfl]; rfl) (by simp)]; rfl)) _) (by simp) rfl (by omega) (by omega) (by omega) (fun v'' h3 ho3 hf3 hnew3 => ?_)
    refine stp ?_
    have hs : bcells (l ++ List.replicate k 0) ++ [.int .u8 0] = bcells (l ++ List.replicate (k + 1) 0) := by
      rw [List.replicate_succ', ← List.append_assoc, bcells_append (l ++ List.replicate k 0)]; rfl
    rw [hs] at ho3
    have hn3 := hf3.n
    simp only [Heap.n_push] at hn3 hnew3
    have hk64 : 64 - (k + 1) < 64 - k := by
      have : k < 64 := by omega
      omega
    have hk1 : k + 1 ≤ 64 * full l + 64 - l.length := hk2
    refine loop1a 3 (64 - (k + 1)) hk64 ⟨k + 1, hk1, rfl, ho3, fun i hi => ?_, ?_, by omega, Fr.trans (S := fun _ => False) hf.push hf3 fun i hi e => by have := hown i e; omega⟩
    · rcases hnew3 i hi with e | e
      · exact hown i e
      · omega
    · rw [hf3.get _ (by simp; omega) (fun e => by have := hown _ e; omega), Heap.get_push, if_neg (show h.n ≠ h'.n by omega), gO']
  · have hK : k = 64 * full l + 64 - l.length := by omega
    have hAl : (l ++ List.replicate k 0).length = 64 * full l + 64 := by simp; omega
    have hAl' : l.length + k = (l ++ List.replicate k 0).length := by simp
    rw [hAl'] at ho ⊢
    obtain ⟨qa, hsl, hqo⟩ := own_sl ho (by omega)
    have hqa : h.n < qa := by rw [← hAl'] at hqo; exact hown qa hqo
    have hqlt := hsl.lt
    have hblk : ∀ t, t ≤ full l → ((l ++ List.replicate k 0).drop (64 * t)).take 64 = if t < full l then (l.drop (64 * t)).take 64 else l.drop (64 * full l) ++ List.replicate (64 - (l.length - 64 * full l)) 0 := fun t ht => by
      rw [List.drop_append_of_le_length (by omega)]
      split
      · rw [List.take_append_of_le_length (by rw [List.length_drop]; omega)]
      · obtain rfl : t = full l := by omega
        rw [List.take_of_length_le (by simp; omega)]
        congr 2; omega
    generalize hA : l ++ List.replicate k 0 = A at *
    refine stp ?_
    refine O.call' begin_okC (fun r h3 hr => ?_)
    obtain ⟨rfl, hf3⟩ := hr
    have hn3 := hf3.n
    refine stp ?_
    refine O.how XOp.xorI ?_
    rw [show (IntKind.u32.wrap ((BitVec.ofInt IntKind.u32.bits 1779033703 ^^^ BitVec.ofInt IntKind.u32.bits 16842784).toNat : Nat)) = 1795745351 from by decide]
    refine stp ?_
    generalize hH4 : h3.push (.cells _ 0) = H4
    have g4h : H4.get h3.n = .cells (wcells (docS l 0)) 0 := by rw [← hH4, Heap.get_push, if_pos rfl]; rfl
    have hn4 : H4.n = h3.n + 1 := by rw [← hH4]; rfl
    have f4 : Fr (fun _ => False) h' H4 := by rw [← hH4]; exact hf3.push
    clear hH4
    have hsl4 := hsl.keep f4 id
    have gO4 : H4.get h.n = .cells z32 0 := by rw [f4.get _ (by omega) id, gO']
    have hF4 : Fr (fun _ => False) h H4 := hf.trans' f4
    refine loop1 zgcQ_l1_M 5 (fun m v5 h5 => ∃ t : Nat, t ≤ full l + 1 ∧ m = full l + 1 - t ∧ v5 = .int .i64 ((64 * t : Nat) : Int) ∧ h5.get h3.n = .cells (wcells (docS l t)) 0 ∧ Fr (fun i => i = h3.n) H4 h5) ?_ (full l + 1) ⟨0, by omega, rfl, rfl, g4h, Fr.refl⟩
    rintro m v5 h5 x28 x29 x30 x31 x32 x33 x34 x35 x36 x37 x38 x39 x40 x41 x42 x43 x44 x45 x46 x47 x48 x49 x50 ⟨t, ht, rfl, rfl, g5, hf5⟩
    have hn5 := hf5.n
    have hdl := docS_len l t
    haveI : HGet h5 h3.n _ := ⟨g5⟩
    haveI : WLen (docS l t) 8 := ⟨hdl⟩
    refine stp ?_
    refine C.if (fun hlt => ?_) (fun hge => ?_)
    · have ht : t ≤ full l := by omega
      obtain ⟨v1, hs1, hop⟩ := (hsl4.keep hf5 (by omega)).part (i := 64 * t) (j := 64 * t + 64) (by omega) (by omega)
      rw [show 64 * t + 64 - 64 * t = 64 from by omega, hblk t ht] at hs1
      refine stp ?_
      refine D.how (hop (fun c hc => bnd_at (K := .i64) rfl (by omega) (by omega)) (bnd_at (K := .i64) rfl rfl (by omega))) rfl ?_
      refine stp ?_
      have hcase : (t < full l ∧ (if ((64 * t : Nat) : Int) + 64 < (l.length : Int) then ((64 * t : Nat) : Int) + 64 else (l.length : Int)) = ((64 * (t + 1) : Nat) : Int)) ∨ (t = full l ∧ (if ((64 * t : Nat) : Int) + 64 < (l.length : Int) then ((64 * t : Nat) : Int) + 64 else (l.length : Int)) = ((l.length : Nat) : Int)) := by
        rcases Nat.lt_or_ge t (full l) with e | e
        · exact .inl ⟨e, by rw [if_pos (by omega)]; omega⟩
        · exact .inr ⟨by omega, by rw [if_neg (by omega)]⟩
      rcases hcase with ⟨e, em⟩ | ⟨e, em⟩
      · rw [em, decide_eq_false (show ¬ (((64 * t : Nat) : Int) + 64 = (A.length : Int)) by omega)]
        rw [if_pos e] at hs1
        refine D.callX (block_okD (many := 64 * (t + 1)) (last := false) hdl hs1 (by rw [List.length_take, List.length_drop]; omega) (by omega)) (fun r1 h1' hr1 => rfl) (fun r1 h6 hr1 => ?_) (fun _ _ hx => hx.elim)
        obtain ⟨rfl, hf6⟩ := hr1
        haveI := hf6.keep (S := fun _ => False) (b := h3.n) ⟨g5⟩ (by omega) id
        rw [show blockS (docS l t) ((l.drop (64 * t)).take 64) (64 * (t + 1)) false = docS l (t + 1) from by
          unfold docS; rw [if_pos ht, if_pos (by omega)]; rfl]
        have hdl2 := docS_len l (t + 1)
        haveI : WLen (docS l (t + 1)) 8 := ⟨hdl2⟩
        haveI : LenN (wcells (docS l t)) 8 := ⟨by rw [wcells_len, hdl]⟩
        refine stp ?_
        exact loop1a 5 (full l + 1 - (t + 1)) (by omega) ⟨t + 1, by omega, rfl, by congr 1, by rw [Heap.get_set, if_pos rfl], Fr.set (Fr.trans' hf5 (hf6.mono fun _ _ h => h.elim)) fun _ => rfl⟩
      · rw [em, decide_eq_true (show (((64 * t : Nat) : Int) + 64 = (A.length : Int)) by omega)]
        rw [if_neg (by omega)] at hs1
        refine D.callX (block_okD (many := l.length) (last := true) hdl hs1 (by simp; omega) (by omega)) (fun r1 h1' hr1 => rfl) (fun r1 h6 hr1 => ?_) (fun _ _ hx => hx.elim)
        obtain ⟨rfl, hf6⟩ := hr1
        haveI := hf6.keep (S := fun _ => False) (b := h3.n) ⟨g5⟩ (by omega) id
        rw [show blockS (docS l t) (l.drop (64 * full l) ++ List.replicate (64 - (l.length - 64 * full l)) 0) l.length true = docS l (t + 1) from by
          unfold docS; rw [if_pos ht, if_neg (by omega), e]]
        have hdl2 := docS_len l (t + 1)
        haveI : WLen (docS l (t + 1)) 8 := ⟨hdl2⟩
        haveI : LenN (wcells (docS l t)) 8 := ⟨by rw [wcells_len, hdl]⟩
        refine stp ?_
        exact loop1a 5 (full l + 1 - (t + 1)) (by omega) ⟨t + 1, by omega, rfl, by congr 1, by rw [Heap.get_set, if_pos rfl], Fr.set (Fr.trans' hf5 (hf6.mono fun _ _ h => h.elim)) fun _ => rfl⟩
    · obtain rfl : t = full l + 1 := by omega
      refine stp ?_
      have hF5 : Fr (fun _ => False) h h5 := Fr.trans (S := fun _ => False) (S' := fun i => i = h3.n) hF4 hf5 fun i hi e => by omega
      have gO5 : h5.get h.n = .cells z32 0 := by rw [hf5.get _ (by omega) (by omega), gO4]
      have hBS : docS l (full l + 1) = blockS (stepsS l (full l)) (l.drop (64 * full l) ++ List.replicate (64 - (l.length - 64 * full l)) 0) l.length true := by unfold docS; rw [if_neg (by omega)]
      have hsum : bytes32 (docS l (full l + 1)) = sumS l := by rw [hBS]; rfl
      generalize docS l (full l + 1) = BS at *
      generalize hH6 : h5.push (.cells z32 0) = H6
      have g6o : H6.get h5.n = .cells (bcells (List.replicate 32 0)) 0 := by rw [← hH6, Heap.get_push, if_pos rfl]; rfl
      have g6w : H6.get h3.n = .cells (wcells BS) 0 := by rw [← hH6, Heap.get_push, if_neg (by omega), g5]
      have g6O : H6.get h.n = .cells z32 0 := by rw [← hH6, Heap.get_push, if_neg (by omega), gO5]
      have hn6 : H6.n = h5.n + 1 := by rw [← hH6]; rfl
      have hF6 : Fr (fun _ => False) h H6 := by rw [← hH6]; exact hF5.push
      clear hH6
      refine loop1 zgcQ_l2_M 7 (fun m v7 h' => ∃ k : Nat, k ≤ 32 ∧ m = 32 - k ∧ v7 = .int .i64 k ∧ (∃ bs : List UInt8, h'.get h5.n = .cells (bcells bs) 0 ∧ bs.length = 32 ∧ ∀ j, j < 32 → bs.getD j 0 = if j < k then outB BS j else 0) ∧ Fr (fun i => i = h5.n) H6 h') ?_ 32 ⟨0, by omega, rfl, rfl, ⟨_, g6o, by simp, fun j hj => by rw [if_neg (by omega)]; simp only [List.getD_eq_getElem?_getD, List.getElem?_replicate, if_pos hj]; rfl⟩, Fr.refl⟩
      rintro m v7 h7 x51 x52 x53 x54 x55 x56 x57 x58 x59 x60 x61 x62 x63 x64 x65 x66 ⟨k, hk, rfl, rfl, ⟨bs, gb, hbl, hb⟩, hf7⟩
      refine stp ?_
      refine C.if (fun hlt => ?_) (fun hge => ?_)
      · have hk : k < 32 := by omega
        haveI : HGet h7 h3.n (.cells (wcells BS) 0) := ⟨by rw [hf7.get _ (by omega) (by omega), g6w]⟩
        haveI : WIx BS (k / 4) := ⟨by omega⟩
        haveI := fun b => put_b (b := b) gb (i := k) (by omega)
        refine stp ?_
        refine O.how (XOp.quoI (by decide)) ?_
        rw [show IntKind.i64.wrap ((k : Int).tdiv 4) = ((k / 4 : Nat) : Int) from by rw [Int.tdiv_eq_ediv_of_nonneg (by omega), mul_in (by omega)]; omega]
        refine stp ?_
        refine O.how (XOp.remI (by decide)) ?_
        rw [show (k : Int).tmod 4 = ((k % 4 : Nat) : Int) from by rw [Int.tmod_eq_emod_of_nonneg (by omega)]; omega]
        have e8 : IntKind.i64.wrap (8 * ((k % 4 : Nat) : Int)) = 8 * ((k % 4 : Nat) : Int) := mul_in (by omega)
        refine stp ?_
        refine O.how (XOp.shrW (8 * (k % 4)) (by rw [e8]; omega) (by omega)) ?_
        refine stp ?_
        rw [u8_of32]
        refine stp ?_
        refine loop1a 7 (32 - (k + 1)) (by omega) ⟨k + 1, by omega, rfl, rfl, ⟨_, by rw [Heap.get_set, if_pos rfl], by simpa using hbl, fun j hj => ?_⟩, hf7.set fun _ => rfl⟩
        rw [getD_setB (by omega)]
        by_cases e : j = k
        · rw [if_pos e, e, if_pos (by omega)]; rfl
        · rw [if_neg e, hb j hj]
          by_cases e2 : j < k
          · rw [if_pos e2, if_pos (by omega)]
          · rw [if_neg e2, if_neg (by omega)]
      · obtain rfl : k = 32 := by omega
        have hout : bs = bytes32 BS := bytes_ext (by rw [hbl]; simp [bytes32]) fun j hj => by
          rw [hb j (by omega), if_pos (by omega)]
          simp [bytes32, List.getD_eq_getElem?_getD, show j < 32 from by omega]
        subst hout
        haveI : HGet h7 h5.n _ := ⟨gb⟩
        haveI : HGet h7 h.n (.cells z32 0) := ⟨by rw [hf7.get _ (by omega) (by omega), g6O]⟩
        haveI : L32 (bcells (bytes32 BS)) := ⟨by rw [bcells_len, hbl]⟩
        refine stp ?_
        exact ⟨by rw [hsum], Fr.set (Fr.trans (S := fun _ => False) (S' := fun i => i = h5.n) hF6 hf7 fun i hi e => by omega) fun e => by omega⟩
end Go.Proofs.YtlckmpioipiihaaGreat.A

namespace Go.Proofs.YtlckmpioipiihaaGreat.A
open Go.Proofs.YtlckmpioipiihaaGreat.K
open Go Go.Vm
set_option maxRecDepth 10000
set_option linter.unusedVariables false
inductive OwnL (h : Heap) (size : Nat) : Value → List Value → Nat → Prop
  | own {v : Value} {c : List Value} {n : Nat} : Own h size v c n → OwnL h size v c n
  | lit {q es n : Nat} {c : List Value} : q < h.n → h.get q = .cells c es → c.length = n * size → OwnL h size (.slice (some ⟨q, 0, none⟩) n n) c n
theorem OwnL.rd {h : Heap} {size : Nat} {v : Value} {c : List Value} {n : Nat} (ho : OwnL h size v c n) : Rd h size v c n := by
  cases ho with
  | own ho => exact ho.rd
  | lit hq hg hl => exact Rd.mk hq (by rw [cellsAt_of (by rw [hg]; rfl) (by omega), List.drop_zero, List.take_of_length_le (by omega)])
theorem OwnL.keep {S : Nat → Prop} {h h' : Heap} {size : Nat} {v : Value} {c : List Value} {n : Nat} (ho : OwnL h size v c n) (hf : Fr S h h') (hs : ∀ b, ownedBy v b → ¬ S b) : OwnL h' size v c n := by
  cases ho with
  | own ho => exact .own (ho.keep hf hs)
  | lit hq hg hl => exact .lit (hf.lt hq) (by rw [hf.get _ hq (hs _ rfl), hg]) hl
section
variable {P : Program} {T : Table} {ts : List Value} {ds : List Deferred} {h : Heap} {rd : Option Nat} {v w : Value} {dst size bytes n m el q : Nat} {zero c d : List Value} {zeros : Bool} {x y : Operand} {chk : List (Option Nat × AOp × Option (Nat × Bool))} {pan : Bool} {rest : List AOper} {Q : QP} {F : Value → List Value}
theorem O.appendL [e1 : Ev ts x v] [e2 : Ev ts y w] [s : LSetF ts dst F] (ho : OwnL h size v c n) (hx : newCells h size zero zeros w = some (m, d)) (hd : d.length = m * size) (h1 : d.all Value.oneCell' = true) (hs : size ≠ 0) (hb : bytes < 1048576) (hsm : n + m < 1048576)
    (hk : ∀ v' h', OwnL h' size v' (c ++ d) (n + m) → Fr (ownedBy v) h h' → (∀ i, ownedBy v' i → ownedBy v i ∨ h.n ≤ i) → RunO P T rest ⟨F v', ds, h', rd⟩ Q) : RunO P T (⟨some dst, .append el size bytes zero zeros x y, none, chk, pan⟩ :: rest) ⟨ts, ds, h, rd⟩ Q := by
  cases ho with
  | own ho => exact O.append ho hx hd h1 hs hb hsm fun v' h' h1 h2 h3 => hk v' h' (.own h1) h2 h3
  | lit hq hg hl =>
    rename_i q es
    have hc : cellsAt h q 0 (n * size) = some c := by rw [cellsAt_of (by rw [hg]; rfl) (by omega), List.drop_zero, List.take_of_length_le (by omega)]
    by_cases hm : m = 0
    · subst hm
      have : d = [] := by simpa using hd
      subst this
      have hop : XOp P ts h (.append el size bytes zero zeros x y) (.slice (some ⟨q, 0, none⟩) n n) (h.set q (.cells c es)) := by
        refine ⟨rfl, ?_⟩
        simp only [xop, e1.eq, e2.eq]
        unfold appendOf
        rw [if_neg hs, hx]
        simp only [Nat.add_zero]
        rw [if_neg (by omega), if_pos (Nat.le_refl _)]
        have : putAt h q (0 + n * size) [] = some (h.set q (.cells c es)) := by
          simp only [putAt, hg]
          rw [if_pos ⟨by simp; omega, rfl⟩, over_nil]
        rw [this]
      haveI : LSet ts dst (.slice (some ⟨q, 0, none⟩) n n) (F (.slice (some ⟨q, 0, none⟩) n n)) := ⟨s.eq _⟩
      refine O.how hop (hk _ _ ?_ (Fr.refl.set fun _ => rfl) fun i hi => .inl hi)
      rw [List.append_nil, Nat.add_zero]
      exact .lit (by simpa using hq) (by rw [Heap.get_set, if_pos rfl]) hl
    · have hop : XOp P ts h (.append el size bytes zero zeros x y) (.slice (some ⟨h.n, 0, some 0⟩) (n + m) (n + m)) (h.push (.cells (c ++ d) size)) := by
        refine ⟨rfl, ?_⟩
        simp only [xop, e1.eq, e2.eq]
        unfold appendOf
        rw [if_neg hs, hx]
        simp only
        rw [if_neg (by omega), if_neg (by omega), hc]
      haveI : LSet ts dst (.slice (some ⟨h.n, 0, some 0⟩) (n + m) (n + m)) (F (.slice (some ⟨h.n, 0, some 0⟩) (n + m) (n + m))) := ⟨s.eq _⟩
      refine O.how hop (hk _ _ (.own (.grown (j := []) (by simp) (by omega) (Nat.le_refl _) (by rw [List.length_append, hl, hd, Nat.add_mul]) (by rw [List.append_nil, List.length_append, hl, hd, Nat.add_mul]) (by rw [Heap.get_push, if_pos rfl, List.append_nil]))) Fr.refl.push fun i hi => ?_)
      cases hi
      exact .inr (Nat.le_refl _)
end
theorem Number_okD {h : Heap} {N : Nat} (hN : N ≤ 9223372036854775807) :
    Runs Tryz.prog T0 (.fn fn_zocQ) [.int .i64 N] h (fun r h' => OwnL h' 1 r (bcells (numF N)) (numF N).length ∧ (∀ i, ownedBy r i → h.n ≤ i) ∧ Fr (fun _ => False) h h') (fun _ _ => False) := by
  refine zocQ_runs ?_
  refine stp ?_
  refine loop2 zocQ_l0_M 0 3 (fun m v0 v3 h' => ∃ (n k : Nat) (ds : List UInt8), n = m ∧ v0 = .int .i64 n ∧ k ≤ 8 ∧ n < 256 ^ (8 - k) ∧ n ≤ N ∧ ds.length = k ∧ Rd h' 1 v3 (bcells ds) ds.length ∧ beN N = beN n ++ ds ∧ Fr (fun _ => False) h h') ?_ N
    ⟨N, 0, [], rfl, rfl, by omega, by simp; omega, Nat.le_refl _, rfl, Rd.nil, by simp, Fr.refl⟩
  rintro m v0 v3 h' x4 x5 x6 x7 x8 x9 x10 x11 x12 ⟨n, k, ds, hnm, rfl, hk, hn, hnN, hds, hrd, hbe, hf⟩
  subst hnm
  refine stp ?_
  refine C.if (fun hpos => ?_) (fun hz => ?_)
  · have hk8 : k < 8 := by
      rcases Nat.lt_or_ge k 8 with h | h
      · exact h
      · obtain rfl : k = 8 := by omega
        simp at hn; omega
    have h256 : n % 256 < 256 := Nat.mod_lt _ (by omega)
    have hw : (IntKind.wrap .u8 (n : Int)) = (((UInt8.ofNat (n % 256)).toNat : Nat) : Int) := by
      rw [wrap_u8, u8nat h256]
      omega
    refine stp ?_
    rw [hw]
    have hp : Fr (fun _ => False) h' (h'.push (.cells [.int .u8 ((UInt8.ofNat (n % 256)).toNat : Nat)] 0)) := Fr.refl.push
    refine O.appendL (.lit (q := h'.n) (es := 0) (c := [.int .u8 ((UInt8.ofNat (n % 256)).toNat : Nat)]) (by simp) (by rw [Heap.get_push, if_pos rfl]) rfl) ((hrd.keep hp fun _ _ => id).new _) (by rw [bcells_len]; omega) (bcells_one _) (by omega) (by omega) (by omega) (fun v' h2 ho2 hf2 hnew2 => ?_)
    refine stp ?_
    refine O.how XOp.shr8 ?_
    refine stp ?_
    have hdiv : ((n : Int) / 256) = ((n / 256 : Nat) : Int) := by omega
    rw [hdiv]
    refine loop2a 0 3 (n / 256) (by omega) ⟨n / 256, k + 1, UInt8.ofNat (n % 256) :: ds, rfl, rfl, by omega, ?_, by omega, by simp [hds], ?_, ?_, ?_⟩
    · have : 256 ^ (8 - k) = 256 ^ (8 - (k + 1)) * 256 := by rw [← Nat.pow_succ]; congr 1; omega
      exact Nat.div_lt_of_lt_mul (by omega)
    · have := ho2.rd
      rw [show 1 + ds.length = (UInt8.ofNat (n % 256) :: ds).length from by simp; omega] at this
      exact this
    · rw [hbe, beN_pos (by omega)]
      simp
    · refine Fr.trans (S := fun _ => False) (hf.trans' hp) hf2 fun i hi e => ?_
      have : h'.n = i := e
      have := hf.n
      omega
  · have hn0 : n = 0 := by omega
    subst hn0
    rw [beN_zero, List.nil_append] at hbe
    obtain ⟨a3, c3, rfl, _, _⟩ := id hrd
    have hw : ((ds.length : Nat) : Int) = (((UInt8.ofNat ds.length).toNat : Nat) : Int) := by
      rw [u8nat (by omega)]
    refine stp ?_
    rw [hw]
    have hp : Fr (fun _ => False) h' (h'.push (.cells [.int .u8 ((UInt8.ofNat ds.length).toNat : Nat)] 0)) := Fr.refl.push
    refine O.appendL (.lit (q := h'.n) (es := 0) (c := [.int .u8 ((UInt8.ofNat ds.length).toNat : Nat)]) (by simp) (by rw [Heap.get_push, if_pos rfl]) rfl) ((hrd.keep hp fun _ _ => id).new _) (by rw [bcells_len]; omega) (bcells_one _) (by omega) (by omega) (by omega) (fun v' h2 ho2 hf2 hnew2 => ?_)
    refine stp ?_
    have hlen : (numF N).length = 1 + ds.length := by simp [numF, hbe]; omega
    refine ⟨?_, fun i hi => ?_, ?_⟩
    · rw [hlen, show bcells (numF N) = [.int .u8 ((UInt8.ofNat ds.length).toNat : Nat)] ++ bcells ds from by rw [numF, hbe]; rfl]
      exact ho2
    · have := hf.n
      rcases hnew2 i hi with e | e
      · have : h'.n = i := e
        omega
      · simp at e; omega
    · refine Fr.trans (S := fun _ => False) (hf.trans' hp) hf2 fun i hi e => ?_
      have : h'.n = i := e
      have := hf.n
      omega
theorem Counted_okD {h : Heap} {v : Value} {l : List UInt8} (hv : Rd h 1 v (bcells l) l.length) (hs : l.length + 9 < 1048576) :
    Runs Tryz.prog T0 (.fn fn_zmcQ) [v] h (fun r h' => Rd h' 1 r (bcells (numF l.length ++ l)) (numF l.length ++ l).length ∧ Fr (fun _ => False) h h') (fun _ _ => False) := by
  have hv0 := hv
  obtain ⟨a0, c0, rfl, _, _⟩ := hv
  have hfl := numF_len (n := l.length) (by omega)
  refine zmcQ_runs ?_
  refine stp ?_
  refine O.call' (Number_okD (N := l.length) (by omega)) (fun r h1 hr => ?_)
  obtain ⟨ho, hnew, hf⟩ := hr
  refine stp ?_
  refine O.appendL ho ((hv0.keep hf fun _ _ => id).new _) (by rw [bcells_len]; omega) (bcells_one _) (by omega) (by omega) (by omega) (fun v' h2 ho2 hf2 hnew2 => ?_)
  refine stp ?_
  rw [List.length_append, bcells_append]
  exact ⟨ho2.rd, Fr.trans (S := fun _ => False) hf hf2 fun i hi e => by have := hnew i e; omega⟩
end Go.Proofs.YtlckmpioipiihaaGreat.A

namespace Go.Proofs.YtlckmpioipiihaaGreat.A
open Go.Proofs.YtlckmpioipiihaaGreat.K
open Go Go.Vm
set_option maxRecDepth 10000
set_option linter.unusedVariables false
structure DW (h : Heap) (lo p : Nat) (sv : Value) (bs : List UInt8) (lim : Nat) (e : Int) : Prop where
  lt : p < h.n
  le : lo ≤ p
  get : h.get p = .cells [.int .i64 lim, sv, .int .i64 e] 0
  own : Own h 1 sv (bcells bs) bs.length
  apart : ¬ ownedBy sv p
  above : ∀ i, ownedBy sv i → lo ≤ i
  small : bs.length < 1048577
structure DWs (h : Heap) (lo p lim : Nat) (st : WSt) : Prop where
  ex : ∃ sv, DW h lo p sv st.bs lim st.e
theorem DW.keep {S : Nat → Prop} {h h' : Heap} {lo p : Nat} {sv : Value} {bs : List UInt8} {lim : Nat} {e : Int} (hp : DW h lo p sv bs lim e) (hf : Fr S h h') (hs : ¬ S p) (hb : ∀ i, ownedBy sv i → ¬ S i) : DW h' lo p sv bs lim e :=
  ⟨hf.lt hp.lt, hp.le, by rw [hf.get p hp.lt hs, hp.get], hp.own.keep hf hb, hp.apart, hp.above, hp.small⟩
theorem DWs.keep {S : Nat → Prop} {h h' : Heap} {lo p lim : Nat} {st : WSt} (hp : DWs h lo p lim st) (hf : Fr S h h') (hs : ∀ i, S i → i < lo) : DWs h' lo p lim st :=
  let ⟨sv, hw⟩ := hp.ex
  ⟨sv, hw.keep hf (fun h => by have := hs _ h; have := hw.le; omega) fun i hi h => by have := hs _ h; have := hw.above i hi; omega⟩
theorem DWs.none {h h' : Heap} {lo p lim : Nat} {st : WSt} (hp : DWs h lo p lim st) (hf : Fr (fun _ => False) h h') : DWs h' lo p lim st := hp.keep hf fun _ h => h.elim
theorem DWs.lo_le {h : Heap} {lo p lim : Nat} {st : WSt} (hp : DWs h lo p lim st) : lo ≤ h.n := let ⟨_, hw⟩ := hp.ex; Nat.le_of_lt (Nat.lt_of_le_of_lt hw.le hw.lt)
def DWrites (h : Heap) (lo p lim : Nat) (st : WSt) (r : Value) (h' : Heap) : Prop := r = .int .i64 st.e ∧ DWs h' lo p lim st ∧ Fr (fun i => i = p) h h'
theorem Put_okD {h : Heap} {lo p lim : Nat} {st : WSt} {v : Value} {l : List UInt8} (hw : DWs h lo p lim st) (hv : Rd h 1 v (bcells l) l.length) (hlim : lim < 1048576 ∨ st.bs.length + l.length < 1048576) (hs : l.length < 2000000) :
    Runs Tryz.prog T0 (.fn fn_zscQ) [.pointer (some ⟨p, 0, none⟩), v] h (DWrites h lo p lim (putS lim true l st)) (fun _ _ => False) := by
  obtain ⟨bs, e⟩ := st
  obtain ⟨sv, hw⟩ := hw.ex
  have hw : DW h lo p sv bs lim e := hw
  have hsum : bs.length + l.length ≤ lim → bs.length + l.length < 1048576 := fun h => by
    rcases hlim with h' | h'
    · omega
    · exact h'
  clear hlim
  have hle := hw.le
  have hlt := hw.lt
  have hsmall := hw.small
  have hv0 := hv
  obtain ⟨a0, cap0, rfl, hl0, _⟩ := hw.own.rd
  obtain ⟨a1, cap1, rfl, hl1, _⟩ := hv
  haveI i0 : HGet h p _ := ⟨hw.get⟩
  haveI : BLt p h := ⟨hlt⟩
  refine zscQ_runs ?_
  refine stp ?_
  unfold putS
  refine D.dec (fun he => ?_) (fun he => ?_)
  · subst he
    refine stp ?_
    refine C.if (fun hlong => ?_) (fun hfit => ?_)
    · refine stp ?_
      rw [if_neg (by simp), if_neg (by simp), if_pos (show lim < bs.length + l.length by omega)]
      refine ⟨rfl, ⟨.slice a0 bs.length cap0, by simpa using hlt, hle, by rw [Heap.get_set, if_pos rfl], hw.own.keep (S := fun i => i = p) (Fr.refl.set fun _ => rfl) fun i hi hp => hw.apart (hp ▸ hi), hw.apart, hw.above, hsmall⟩, Fr.refl.set fun _ => rfl⟩
    · refine stp ?_
      have hsum := hsum (by omega)
      rw [if_neg (by simp), if_neg (by simp), if_neg (show ¬ lim < bs.length + l.length by omega)]
      have hp0 : Fr (fun _ => False) h (h.push (.cells [] 0)) := Fr.refl.push
      refine O.append (size := 1) (bytes := 1) (n := 0) (c := []) (m := bs.length) (d := bcells bs) (.lit (q := h.n) (es := 0) (by simp) (by rw [Heap.get_push, if_pos rfl])) ((hw.own.rd.keep hp0 fun _ _ => id).new _) (by rw [bcells_len]; omega) (bcells_one _) (by omega) (by omega) (by omega) (fun v1 h1 ho1 hf1 hnew1 => ?_)
      rw [Nat.zero_add, List.nil_append] at ho1
      have f1 : Fr (fun _ => False) h h1 := Fr.trans (S := fun _ => False) hp0 hf1 fun i hi e => by have : h.n = i := e; omega
      have hn1 := hf1.n
      simp only [Heap.n_push] at hn1
      refine stp ?_
      refine O.append ho1 ((hv0.keep f1 fun _ _ => id).new _) (by rw [bcells_len]; omega) (bcells_one _) (by omega) (by omega) (by omega) (fun v2 h2 ho2 hf2 hnew2 => ?_)
      have hown1 : ∀ i, ownedBy v1 i → h.n ≤ i := fun i hi => by
        rcases hnew1 i hi with e | e
        · have : h.n = i := e; omega
        · simp at e; omega
      have f2 : Fr (fun _ => False) h h2 := Fr.trans (S := fun _ => False) f1 hf2 fun i hi e => by have := hown1 i e; omega
      have hown2 : ∀ i, ownedBy v2 i → h.n ≤ i := fun i hi => (hnew2 i hi).elim (hown1 i) fun e => by omega
      obtain ⟨a2, cap2, rfl, hl2, _⟩ := ho2.rd
      haveI := f2.keep i0 hlt id
      refine stp ?_
      refine ⟨rfl, ⟨.slice a2 (bs.length + l.length) cap2, by simpa using f2.lt hlt, hle, by rw [Heap.get_set, if_pos rfl], ?_, fun e => by have := hown2 _ e; omega, fun i hi => by have := hown2 i hi; omega, by simp; omega⟩, Fr.set (f2.mono fun _ _ h => h.elim) fun _ => rfl⟩
      show Own _ 1 (.slice a2 (bs.length + l.length) cap2) (bcells (bs ++ l)) (bs ++ l).length
      rw [bcells_append, List.length_append]
      exact ho2.keep (S := fun i => i = p) (Fr.refl.set fun _ => rfl) fun i hi e => by have := hown2 i hi; omega
  · refine stp ?_
    refine C.if (fun h0 => absurd h0 he) (fun _ => ?_)
    refine stp ?_
    rw [if_pos (by simpa using he)]
    exact ⟨rfl, ⟨_, hw⟩, Fr.refl⟩
theorem Num_okD {h : Heap} {lo p lim : Nat} {st : WSt} {n : Int} (hw : DWs h lo p lim st) (hn : n ≤ 9223372036854775807) (hlim : lim < 1048576 ∨ st.bs.length + 9 < 1048576) :
    Runs Tryz.prog T0 (.fn fn_zrcQ) [.pointer (some ⟨p, 0, none⟩), .int .i64 n] h (DWrites h lo p lim (putS lim (decide (0 ≤ n)) (numF n.toNat) st)) (fun _ _ => False) := by
  obtain ⟨bs, e⟩ := st
  have hlo := hw.lo_le
  have hw0 := hw
  obtain ⟨sv, hw⟩ := hw.ex
  have hw : DW h lo p sv bs lim e := hw
  have hlt := hw.lt
  obtain ⟨a0, cap0, rfl, hl0, _⟩ := hw.own.rd
  haveI i0 : HGet h p _ := ⟨hw.get⟩
  refine zrcQ_runs ?_
  refine stp ?_
  refine O.dec (fun hneg => ?_) (fun hpos => ?_)
  · rw [decide_eq_false (show ¬ 0 ≤ n by omega)]
    unfold putS
    refine stp ?_
    refine C.if (fun he => ?_) (fun he => ?_)
    · subst he
      refine stp ?_
      rw [if_neg (by simp), if_pos rfl]
      exact ⟨rfl, ⟨.slice a0 bs.length cap0, by simpa using hlt, hw.le, by rw [Heap.get_set, if_pos rfl], hw.own.keep (S := fun i => i = p) (Fr.refl.set fun _ => rfl) fun i hi hp => hw.apart (hp ▸ hi), hw.apart, hw.above, hw.small⟩, Fr.refl.set fun _ => rfl⟩
    · refine stp ?_
      refine C.ifN (fun _ => ?_) (fun h0 => absurd h0 he)
      refine stp ?_
      rw [if_pos (by simpa using he)]
      exact ⟨rfl, ⟨_, hw⟩, Fr.refl⟩
  · rw [decide_eq_true (show 0 ≤ n by omega)]
    refine stp ?_
    refine C.ifN (fun he => ?_) (fun he => ?_)
    · refine stp ?_
      unfold putS
      rw [if_pos (by simpa using he)]
      exact ⟨rfl, ⟨_, hw⟩, Fr.refl⟩
    · subst he
      refine stp ?_
      have e0 : n = ((n.toNat : Nat) : Int) := by omega
      have hfl := numF_len (n := n.toNat) (by omega)
      have kN := Number_okD (h := h) (N := n.toNat) (by omega)
      rw [← e0] at kN
      refine O.call' kN (fun r h1 hr => ?_)
      obtain ⟨ho, hnew, hf⟩ := hr
      refine stp ?_
      refine O.call' (Put_okD (l := numF n.toNat) (hw0.none hf) ho.rd (hlim.imp id fun h => by have h : bs.length + 9 < 1048576 := h; show bs.length + _ < _; omega) (by omega)) (fun r h2 hr => ?_)
      obtain ⟨rfl, hw2, hf2⟩ := hr
      refine stp ?_
      exact ⟨rfl, hw2, Fr.trans' (hf.mono fun _ _ h => h.elim) hf2⟩
theorem Text_okD {h : Heap} {lo p lim : Nat} {st : WSt} {s : ByteArray} (hw : DWs h lo p lim st) (hs : s.size + 9 < 1048576) (hlim : lim < 1048576 ∨ st.bs.length + s.size + 9 < 1048576) :
    Runs Tryz.prog T0 (.fn fn_ztcQ) [.pointer (some ⟨p, 0, none⟩), .string s] h (DWrites h lo p lim (putS lim true (numF s.size ++ s.data.toList) st)) (fun _ _ => False) := by
  have hsz : s.data.toList.length = s.size := by simp
  have hfl := numF_len (n := s.size) (by omega)
  refine ztcQ_runs ?_
  refine stp ?_
  refine O.call' (Counted_okD (l := s.data.toList) ?_ (by omega)) (fun r h1 hr => ?_)
  · rw [hsz]
    refine Rd.mk (by simp) ?_
    rw [cellsAt_of (c := bcells s.data.toList) (by rw [Heap.get_push, if_pos rfl]; rfl) (by rw [bcells_data]; omega), List.drop_zero, List.take_of_length_le (by rw [bcells_data]; omega)]
  obtain ⟨hrd, hf⟩ := hr
  rw [hsz] at hrd
  have hf1 : Fr (fun _ => False) h h1 := Fr.trans (S := fun _ => False) Fr.refl.push hf fun _ _ h => h
  refine stp ?_
  refine O.call' (Put_okD (l := numF s.size ++ s.data.toList) (hw.none hf1) hrd (hlim.imp id fun h => by rw [List.length_append, hsz]; omega) (by rw [List.length_append]; omega)) (fun r h2 hr => ?_)
  obtain ⟨rfl, hw2, hf2⟩ := hr
  refine stp ?_
  exact ⟨rfl, hw2, Fr.trans' (hf1.mono fun _ _ h => h.elim) hf2⟩
theorem Hash_okD {h : Heap} {lo p lim : Nat} {st : WSt} {l : List UInt8} (hw : DWs h lo p lim st) (hl : l.length = 32) (hlim : lim < 1048576 ∨ st.bs.length + 32 < 1048576) :
    Runs Tryz.prog T0 (.fn fn_zqcQ) [.pointer (some ⟨p, 0, none⟩), .agg ⟨bcells l⟩] h (DWrites h lo p lim (putS lim true l st)) (fun _ _ => False) := by
  haveI := l32 hl
  refine zqcQ_runs ?_
  refine stp ?_
  have hp : Fr (fun _ => False) h ((h.push (.cells (bcells l) 0)).push (.cells [] 0)) := Fr.refl.push.push
  refine O.append (size := 1) (bytes := 1) (n := 0) (c := []) (m := 32) (d := bcells l) (.lit (q := h.n + 1) (es := 0) (by simp) (by rw [Heap.get_push, if_pos (by simp)])) (Rd.new (Rd.mk (by simp; omega) (by rw [cellsAt_of (c := bcells l) (by rw [Heap.get_push, if_neg (by simp), Heap.get_push, if_pos rfl]; rfl) (by rw [bcells_len]; omega), List.drop_zero, List.take_of_length_le (by rw [bcells_len]; omega)])) _) (by rw [bcells_len]; omega) (bcells_one _) (by omega) (by omega) (by omega) (fun v1 h1 ho1 hf1 hnew1 => ?_)
  rw [Nat.zero_add, List.nil_append] at ho1
  have f1 : Fr (fun _ => False) h h1 := Fr.trans (S := fun _ => False) hp hf1 fun i hi e => by have : h.n + 1 = i := e; omega
  refine stp ?_
  refine O.call' (Put_okD (l := l) (hw.none f1) (by rw [hl]; exact ho1.rd) (by rw [hl]; exact hlim) (by omega)) (fun r h2 hr => ?_)
  obtain ⟨rfl, hw2, hf2⟩ := hr
  refine stp ?_
  exact ⟨rfl, hw2, Fr.trans' (f1.mono fun _ _ h => h.elim) hf2⟩
theorem NewWriter_okD {h : Heap} {lim : Nat} (hl : lim ≤ 1048576) :
    Runs Tryz.prog T0 (.fn fn_zncQ) [.int .i64 lim] h (fun r h' => r = .tuple ⟨[.pointer (some ⟨h.n, 0, none⟩), .int .i64 0]⟩ ∧ DWs h' h.n h.n lim ⟨[], 0⟩ ∧ Fr (fun _ => False) h h') (fun _ _ => False) := by
  refine zncQ_runs ?_
  refine stp ?_
  refine C.if (fun h1 => by omega) (fun _ => ?_)
  refine stp ?_
  refine ⟨rfl, ⟨.slice none 0 0, by simp, Nat.le_refl _, by rw [Heap.get_push, if_pos rfl], .none, fun h => h, fun i h => h.elim, by simp⟩, Fr.refl.push⟩
theorem Done_okD {h : Heap} {lo p lim : Nat} {st : WSt} (hw : DWs h lo p lim st) (hs : st.bs.length < 1048576) :
    Runs Tryz.prog T0 (.fn fn_zpcQ) [.pointer (some ⟨p, 0, none⟩)] h
      (fun r h' => ∃ v, r = .tuple ⟨[v, .int .i64 st.e]⟩ ∧ Own h' 1 v (bcells (if st.e = 0 then st.bs else [])) (if st.e = 0 then st.bs else []).length ∧ (∀ i, ownedBy v i → h.n ≤ i) ∧ Fr (fun _ => False) h h') (fun _ _ => False) := by
  obtain ⟨bs, e⟩ := st
  obtain ⟨sv, hw⟩ := hw.ex
  have hw : DW h lo p sv bs lim e := hw
  have hs : bs.length < 1048576 := hs
  obtain ⟨a0, cap0, rfl, hl0, _⟩ := hw.own.rd
  haveI : HGet h p _ := ⟨hw.get⟩
  haveI : BLt p h := ⟨hw.lt⟩
  refine zpcQ_runs ?_
  refine stp ?_
  refine C.ifN (fun he => ?_) (fun he => ?_)
  · refine stp ?_
    rw [if_neg he]
    exact ⟨_, rfl, .none, fun i h => h.elim, Fr.refl⟩
  · subst he
    refine stp ?_
    have hp0 : Fr (fun _ => False) h (h.push (.cells [] 0)) := Fr.refl.push
    refine O.append (size := 1) (bytes := 1) (n := 0) (c := []) (m := bs.length) (d := bcells bs) (.lit (q := h.n) (es := 0) (by simp) (by rw [Heap.get_push, if_pos rfl])) ((hw.own.rd.keep hp0 fun _ _ => id).new _) (by rw [bcells_len]; omega) (bcells_one _) (by omega) (by omega) (by omega) (fun v1 h1 ho1 hf1 hnew1 => ?_)
    rw [Nat.zero_add, List.nil_append] at ho1
    refine stp ?_
    refine ⟨v1, rfl, ho1, fun i hi => ?_, Fr.trans (S := fun _ => False) hp0 hf1 fun i hi e => by have : h.n = i := e; omega⟩
    rcases hnew1 i hi with e | e
    · have : h.n = i := e; omega
    · simp at e; omega
end Go.Proofs.YtlckmpioipiihaaGreat.A

namespace Go.Proofs.YtlckmpioipiihaaGreat.A
open Go.Proofs.YtlckmpioipiihaaGreat.K
open Go Go.Vm
set_option maxRecDepth 10000
set_option linter.unusedVariables false
theorem RPut6_ok {h : Heap} {lo p lim : Nat} {x : Hd} (hw : DWs h lo p lim ⟨[], 0⟩) (hx : x.ok) (hc : checkS x = 0) (hlim : 1000 ≤ lim) :
    Runs Tryz.prog T0 (.fn fn_zycQ) [.pointer (some ⟨p, 0, none⟩), .agg ⟨x.cells⟩] h (fun r h' => DWs h' lo p lim ⟨encS x, 0⟩ ∧ Fr (fun i => i = p) h h') (fun _ _ => False) := by
  haveI := l32 hx.prev
  haveI := l32 hx.vals
  haveI := l32 hx.next
  haveI := l32 hx.app
  have hlo := hw.lo_le
  obtain ⟨c1, c2, c3⟩ := checkS_ok hc
  obtain ⟨d1, d2, d3⟩ := nameS_len c1
  have hsz : (ByteArray.mk ⟨x.chain⟩).size = x.chain.length := rfl
  have l1 := numF_len (n := x.chain.length) (by omega)
  have l2 := numF_len (n := x.height.toNat) (by omega)
  have l3 := numF_len (n := x.time.toNat) (by omega)
  have l4 := hx.prev
  have l5 := hx.vals
  have l6 := hx.next
  have l7 := hx.app
  refine zycQ_runs ?_
  have hp := hw.ex.elim fun _ h => h.lt
  refine stp ?_
  have hn0 : (h.push (.cells x.cells 0)).n = h.n + 1 := rfl
  have hw0 : DWs (h.push (.cells x.cells 0)) lo p lim ⟨[], 0⟩ := hw.none Fr.refl.push
  have i0 : HGet (h.push (.cells x.cells 0)) h.n (.cells x.cells 0) := HGet.new
  have f0 : Fr (fun i => i = p) h (h.push (.cells x.cells 0)) := Fr.refl.push
  generalize h.push (.cells x.cells 0) = h0 at *
  haveI := i0
  have h9 : x.chain.length + 9 < 1048576 := by omega
  have h10 : ([] : List UInt8).length + x.chain.length + 9 < 1048576 := by simp only [List.length_nil]; omega
  refine O.call' (Text_okD (s := ByteArray.mk ⟨x.chain⟩) hw0 h9 (.inr h10)) (fun r h1 hr => ?_)
  obtain ⟨rfl, hw1, hf1⟩ := hr
  have hn1 := hf1.n
  have e1 : putS lim true (numF x.chain.length ++ x.chain) ⟨[], 0⟩ = ⟨[] ++ (numF x.chain.length ++ x.chain), 0⟩ := putS_fit (by simp only [List.length_append, List.length_nil]; omega)
  rw [List.nil_append] at e1
  have hw1 : DWs h1 lo p lim ⟨numF x.chain.length ++ x.chain, 0⟩ := by rw [← e1]; exact hw1
  have i1 := hf1.keep (b := h.n) i0 (by omega) (by omega)
  haveI := i1
  refine stp ?_
  refine O.call' (Num_okD hw1 (by omega) (.inr (by simp only [List.length_append]; omega))) (fun r h2 hr => ?_)
  obtain ⟨rfl, hw2, hf2⟩ := hr
  have hn2 := hf2.n
  rw [show decide (0 ≤ x.height) = true from decide_eq_true (by omega)] at hw2
  rw [putS_fit (by simp only [List.length_append, List.length_nil]; omega)] at hw2
  have i2 := hf2.keep (b := h.n) i1 (by omega) (by omega)
  haveI := i2
  refine stp ?_
  refine O.call' (Num_okD hw2 (by omega) (.inr (by simp only [List.length_append]; omega))) (fun r h3 hr => ?_)
  obtain ⟨rfl, hw3, hf3⟩ := hr
  have hn3 := hf3.n
  rw [show decide (0 ≤ x.time) = true from decide_eq_true (by omega)] at hw3
  rw [putS_fit (by simp only [List.length_append, List.length_nil]; omega)] at hw3
  have i3 := hf3.keep (b := h.n) i2 (by omega) (by omega)
  haveI := i3
  refine stp ?_
  refine O.call' (Hash_okD hw3 l4 (.inr (by simp only [List.length_append]; omega))) (fun r h4 hr => ?_)
  obtain ⟨rfl, hw4, hf4⟩ := hr
  have hn4 := hf4.n
  rw [putS_fit (by simp only [List.length_append, List.length_nil]; omega)] at hw4
  have i4 := hf4.keep (b := h.n) i3 (by omega) (by omega)
  haveI := i4
  refine stp ?_
  refine O.call' (Hash_okD hw4 l5 (.inr (by simp only [List.length_append]; omega))) (fun r h5 hr => ?_)
  obtain ⟨rfl, hw5, hf5⟩ := hr
  have hn5 := hf5.n
  rw [putS_fit (by simp only [List.length_append, List.length_nil]; omega)] at hw5
  have i5 := hf5.keep (b := h.n) i4 (by omega) (by omega)
  haveI := i5
  refine stp ?_
  refine O.call' (Hash_okD hw5 l6 (.inr (by simp only [List.length_append]; omega))) (fun r h6 hr => ?_)
  obtain ⟨rfl, hw6, hf6⟩ := hr
  have hn6 := hf6.n
  rw [putS_fit (by simp only [List.length_append, List.length_nil]; omega)] at hw6
  have i6 := hf6.keep (b := h.n) i5 (by omega) (by omega)
  haveI := i6
  refine stp ?_
  refine O.call' (Hash_okD hw6 l7 (.inr (by simp only [List.length_append]; omega))) (fun r h7 hr => ?_)
  obtain ⟨rfl, hw7, hf7⟩ := hr
  have hn7 := hf7.n
  rw [putS_fit (by simp only [List.length_append, List.length_nil]; omega)] at hw7
  have i7 := hf7.keep (b := h.n) i6 (by omega) (by omega)
  haveI := i7
  refine stp ?_
  refine ⟨hw7, f0.trans' (hf1.trans' (hf2.trans' (hf3.trans' (hf4.trans' (hf5.trans' (hf6.trans' hf7))))))⟩
theorem REncode_ok {h : Heap} {x : Hd} (hx : x.ok) (hs : x.chain.length < 1048576) : Runs Tryz.prog T0 (.fn fn_zvcQ) [.agg ⟨x.cells⟩] h
    (fun r h' => ∃ v, r = .tuple ⟨[v, .int .i64 (checkS x)]⟩ ∧ Own h' 1 v (bcells (if checkS x = 0 then encS x else [])) (if checkS x = 0 then encS x else []).length ∧ (∀ i, ownedBy v i → h.n ≤ i) ∧ Fr (fun _ => False) h h') (fun _ _ => False) := by
  haveI := l32 hx.prev
  haveI := l32 hx.vals
  haveI := l32 hx.next
  haveI := l32 hx.app
  refine zvcQ_runs ?_
  refine stp ?_
  have i0 : HGet (h.push (.cells x.cells 0)) h.n (.cells x.cells 0) := HGet.new
  have f0 : Fr (fun _ => False) h (h.push (.cells x.cells 0)) := Fr.refl.push
  have hn0 : (h.push (.cells x.cells 0)).n = h.n + 1 := rfl
  generalize h.push (.cells x.cells 0) = h0 at *
  refine O.call' (RCheck_ok hx hs) (fun r h1 hr => ?_)
  obtain ⟨rfl, hf1⟩ := hr
  have hn1 := hf1.n
  have i1 := hf1.keep (b := h.n) i0 (by omega) id
  haveI := i1
  refine stp ?_
  refine C.ifN (fun hc => ?_) (fun hc => ?_)
  · refine stp ?_
    rw [if_neg hc]
    exact ⟨_, rfl, .none, fun i h => h.elim, f0.trans' hf1⟩
  · refine stp ?_
    refine O.call' (NewWriter_okD (lim := 1048576) (by omega)) (fun r h2 hr => ?_)
    obtain ⟨rfl, hw2, hf2⟩ := hr
    have hn2 := hf2.n
    have i2 := hf2.keep (b := h.n) i1 (by omega) id
    haveI := i2
    refine stp ?_
    refine O.call' (RPut6_ok hw2 hx hc (by omega)) (fun r h3 hr => ?_)
    obtain ⟨hw3, hf3⟩ := hr
    have hn3 := hf3.n
    refine stp ?_
    have hel : (encS x).length < 1048576 := by
      obtain ⟨c1, c2, c3⟩ := checkS_ok hc
      obtain ⟨d1, d2, d3⟩ := nameS_len c1
      have l1 := numF_len (n := x.chain.length) (by omega)
      have l2 := numF_len (n := x.height.toNat) (by omega)
      have l3 := numF_len (n := x.time.toNat) (by omega)
      have l4 := hx.prev
      have l5 := hx.vals
      have l6 := hx.next
      have l7 := hx.app
      unfold encS
      simp only [List.length_append]
      omega
    refine O.call' (Done_okD hw3 hel) (fun r h4 hr => ?_)
    obtain ⟨v, rfl, ho, hnew, hf4⟩ := hr
    refine stp ?_
    rw [hc] at *
    rw [if_pos rfl] at ho ⊢
    refine ⟨v, rfl, ho, fun i hi => ?_, ?_⟩
    · have := hnew i hi; omega
    · refine Fr.trans (S := fun _ => False) (S' := fun i => i = h1.n) (f0.trans' hf1) (Fr.trans (S := fun i => i = h1.n) (hf2.mono fun _ _ h => h.elim) (Fr.trans (S := fun i => i = h1.n) hf3 (hf4.mono fun _ _ h => h.elim) fun _ _ h => h) fun _ _ h => h) fun i hi e => by omega
end Go.Proofs.YtlckmpioipiihaaGreat.A

namespace Go.Proofs.YtlckmpioipiihaaGreat.A
open Go.Proofs.YtlckmpioipiihaaGreat.K
open Go Go.Vm
set_option maxRecDepth 10000
set_option linter.unusedVariables false
theorem encS_lenC {x : Hd} (hx : x.ok) (hc : checkS x = 0) : 0 < (encS x).length ∧ (encS x).length < 1000 := by
  obtain ⟨c1, c2, c3⟩ := checkS_ok hc
  obtain ⟨d1, d2, d3⟩ := nameS_len c1
  have l1 := numF_len (n := x.chain.length) (by omega)
  have l2 := numF_len (n := x.height.toNat) (by omega)
  have l3 := numF_len (n := x.time.toNat) (by omega)
  have l4 := hx.prev
  have l5 := hx.vals
  have l6 := hx.next
  have l7 := hx.app
  unfold encS
  simp only [List.length_append]
  omega
theorem RHash6_ok {h : Heap} {x : Hd} (hx : x.ok) (hs : x.chain.length < 1048576) : Runs Tryz.prog T0 (.fn fn_zwcQ) [.agg ⟨x.cells⟩] h
    (fun r h' => r = .tuple ⟨[.agg ⟨bcells (if checkS x = 0 then sumS (72 :: encS x) else zb32)⟩, .int .i64 (checkS x)]⟩ ∧ Fr (fun _ => False) h h') (fun _ _ => False) := by
  haveI := l32 hx.prev
  haveI := l32 hx.vals
  haveI := l32 hx.next
  haveI := l32 hx.app
  refine zwcQ_runs ?_
  refine stp ?_
  refine O.call' (REncode_ok hx hs) (fun r h1 hr => ?_)
  obtain ⟨v, rfl, ho, hnew, hf⟩ := hr
  have hn1 := hf.n
  simp only [Heap.n_push] at hn1
  have hf1 : Fr (fun _ => False) h h1 := Fr.trans (S := fun _ => False) Fr.refl.push.push hf fun _ _ h => h
  haveI gO : HGet h1 (h.n + 1) (.cells z32 0) := hf.keep (b := h.n + 1) (HGet.new (h := h.push _)) (by simp) id
  haveI : BLt (h.n + 1) h1 := ⟨by omega⟩
  simp only [Heap.n_push]
  refine stp ?_
  refine C.ifN (fun he => ?_) (fun he => ?_)
  · refine stp ?_
    rw [if_neg he]
    exact ⟨rfl, Fr.set hf1 fun h => by omega⟩
  · rw [if_pos he] at ho ⊢
    have hel := encS_lenC hx he
    refine stp ?_
    refine O.appendLit (c := [.int .u8 72]) (by rw [cellsAt_of (c := [.int .u8 72]) (by rw [Heap.get_push, if_pos rfl]; rfl) (by simp)]; rfl) ((ho.rd.keep (S := fun _ => False) Fr.refl.push fun _ _ => id).new _) (by rw [bcells_len, Nat.mul_one]) (by omega) (by omega) (by omega) hel.1 (fun h2 ho2 hf2 hn2 => ?_)
    simp only [Heap.n_push] at ho2 hn2 ⊢
    have e1 : 1 + (encS x).length = (72 :: encS x).length := by simp; omega
    rw [e1] at ho2 ⊢
    refine stp ?_
    refine O.call' (Sum_okD (l := 72 :: encS x) ho2.rd (by simp) (by simp; omega)) (fun r h3 hr => ?_)
    obtain ⟨rfl, hf3⟩ := hr
    have hn3 := hf3.n
    have hsl := sumS_len (72 :: encS x)
    haveI : L32 (bcells (sumS (72 :: encS x))) := ⟨by rw [bcells_len, hsl]⟩
    have f13 : Fr (fun _ => False) h1 h3 := Fr.trans (S := fun _ => False) Fr.refl.push (hf2.trans' hf3) fun _ _ h => h
    haveI := f13.keep gO (by omega) id
    haveI : BLt (h.n + 1) h3 := ⟨by omega⟩
    rw [he]
    refine stp ?_
    exact ⟨rfl, Fr.set (Fr.trans (S := fun _ => False) hf1 f13 fun _ _ h => h) fun h => by omega⟩
end Go.Proofs.YtlckmpioipiihaaGreat.A

namespace Go.Proofs.YtlckmpioipiihaaGreat.A
open Go.Proofs.YtlckmpioipiihaaGreat.K
open Go Go.Vm
set_option maxRecDepth 10000
set_option linter.unusedVariables false
structure Val where
  k0 : UInt8
  k1 : UInt8
  k2 : UInt8
  k3 : UInt8
  p : Int
deriving DecidableEq
abbrev Val.key (v : Val) : List UInt8 := [v.k0, v.k1, v.k2, v.k3]
abbrev Val.cells (v : Val) : List Value := [.int .u8 v.k0.toNat, .int .u8 v.k1.toNat, .int .u8 v.k2.toNat, .int .u8 v.k3.toNat, .int .i64 v.p]
abbrev zVal : Val := ⟨0, 0, 0, 0, 0⟩
def Val.of (l : List UInt8) (p : Int) : Val := ⟨l.getD 0 0, l.getD 1 0, l.getD 2 0, l.getD 3 0, p⟩
def vcells (l : List Val) : List Value := l.flatMap Val.cells
theorem vcells_nil : vcells [] = [] := rfl
theorem vcells_cons (v : Val) (l : List Val) : vcells (v :: l) = v.cells ++ vcells l := rfl
theorem vcells_len : ∀ l : List Val, (vcells l).length = l.length * 5
  | [] => rfl
  | v :: l => by rw [vcells_cons, List.length_append, vcells_len l]; simp; omega
theorem vcells_one : ∀ l : List Val, (vcells l).all Value.oneCell' = true
  | [] => rfl
  | v :: l => by rw [vcells_cons, List.all_append, vcells_one l]; rfl
theorem vcells_at : ∀ {l : List Val} {k : Nat}, k < l.length → ((vcells l).drop (k * 5)).take 5 = (l.getD k zVal).cells
  | v :: l, 0, _ => by rw [vcells_cons]; rfl
  | v :: l, k + 1, h => by
    have := vcells_at (l := l) (k := k) (by simpa using h)
    rw [vcells_cons, show (k + 1) * 5 = v.cells.length + k * 5 from by simp; omega, ← List.drop_drop, List.drop_left]
    exact this
theorem val_cells {h : Heap} {b o n k : Nat} {l : List Val} (hc : cellsAt h b o (n * 5) = some (vcells l)) (hn : l.length = n) (hk : k < n) : Cells h b (o + k * 5) 5 (l.getD k zVal).cells := ⟨by
  rw [cellsAt_sub hc (by omega), vcells_at (by omega)]⟩
end Go.Proofs.YtlckmpioipiihaaGreat.A

namespace Go.Proofs.YtlckmpioipiihaaGreat.A
open Go.Proofs.YtlckmpioipiihaaGreat.K
open Go Go.Vm
set_option maxRecDepth 10000
set_option linter.unusedVariables false
theorem mkStoreN {P : Program} {ts : List Value} {h : Heap} {a x : Operand} {v : Value} {o r n es : Nat} {sp : Option Nat} {xs c : List Value} (ho : o + xs.length ≤ c.length) (h1 : xs.all Value.oneCell' = true) (hn : n = xs.length) [e : Ev ts a (.pointer (some ⟨r, o, sp⟩))] [f : Ev ts x v] [k : CellsOf v xs] [g : HGet h r (.cells c es)] :
    xop P (eval ts) h (.store n a x) = .ok undef (h.set r (.cells (over c o xs) es)) := by
  have hp : putAt h r o xs = some (h.set r (.cells (over c o xs) es)) := by
    unfold putAt
    rw [g.eq]
    show (if o + xs.length ≤ c.length ∧ xs.all Value.oneCell' = true then some (h.set r (.cells (over c o xs) es)) else none) = _
    rw [if_pos ⟨ho, h1⟩]
  subst hn
  simp only [xop, e.eq, f.eq, k.eq, k.len, hp, if_true]
theorem Rd.block_lt {h : Heap} {size n : Nat} {v : Value} {c : List Value} (hv : Rd h size v c n) {i : Nat} (hi : blockOf v i) : i < h.n := by
  obtain ⟨a, cap, rfl, _, hc⟩ := hv
  cases a with
  | none => exact hi.elim
  | some a =>
    obtain ⟨h1, h2⟩ := hi
    obtain ⟨b, o, sp, e, hb, _⟩ := hc h2
    cases e
    subst h1
    exact hb
theorem OverVals_ok {h : Heap} {v : Value} {c : List Value} {n : Nat} (ho : Own h 5 v c n) (hs : n < 1048576) :
    Runs Tryz.prog T0 (.fn fn_zwbQ) [v] h (fun r h' => Fr (ownedBy v) h h') (fun _ _ => False) := by
  refine zwbQ_runs ?_
  cases ho with
  | none =>
    refine stpP ?_
    refine loop1 zwbQ_l0_M 2 (fun m v2 h' => v2 = .int .i64 0 ∧ h' = h) ?_ 0 ⟨rfl, rfl⟩
    rintro m v2 h' x3 x4 x5 x6 x7 x8 x9 x10 x11 x12 ⟨rfl, rfl⟩
    refine stpP ?_
    exact Fr.refl
  | lit hq hg =>
    refine stpP ?_
    refine loop1 zwbQ_l0_M 2 (fun m v2 h' => v2 = .int .i64 0 ∧ h' = h) ?_ 0 ⟨rfl, rfl⟩
    rintro m v2 h' x3 x4 x5 x6 x7 x8 x9 x10 x11 x12 ⟨rfl, rfl⟩
    refine stpP ?_
    exact Fr.refl
  | grown hq hn hle hl hl2 hg =>
    rename_i q kk cap j
    refine stpP ?_
    refine loop1 zwbQ_l0_M 2 (fun m v2 h' => ∃ k : Nat, k ≤ n ∧ m = n - k ∧ v2 = .int .i64 k ∧ (∃ cs, h'.get q = .cells cs 5 ∧ cs.length = cap * 5) ∧ Fr (ownedBy (.slice (some ⟨q, 0, some kk⟩) n cap)) h h') ?_ n ⟨0, by omega, rfl, rfl, ⟨_, hg, hl2⟩, Fr.refl⟩
    rintro m v2 h' x3 x4 x5 x6 x7 x8 x9 x10 x11 x12 ⟨k, hk, rfl, rfl, ⟨cs, hg', hcs⟩, hf⟩
    haveI : HGet h' q _ := ⟨hg'⟩
    refine stpP ?_
    refine C.if (fun hlt => ?_) (fun hge => ?_)
    · refine stpP ?_
      refine O.by0 (mkStoreN (xs := [.int .u8 0, .int .u8 0, .int .u8 0, .int .u8 0, .int .i64 (-7)]) (c := cs) (r := q) (es := 5) (by simp; omega) rfl rfl) rfl ?_
      refine stpP ?_
      refine loop1a 2 (n - (k + 1)) (by omega) ⟨k + 1, by omega, rfl, rfl, ⟨_, by rw [Heap.get_set, if_pos rfl], ?_⟩, Fr.set hf fun _ => rfl⟩
      rw [over_length _ _ _ (by simp; omega), hcs]
    · refine stpP ?_
      exact hf
end Go.Proofs.YtlckmpioipiihaaGreat.A

namespace Go.Proofs.YtlckmpioipiihaaGreat.A
open Go.Proofs.YtlckmpioipiihaaGreat.K
open Go Go.Vm
set_option maxRecDepth 10000
set_option linter.unusedVariables false
structure Vote where
  at' : Int
  sig : Nat
abbrev Vote.cells (v : Vote) : List Value := [.int .i64 v.at', .int .u64 v.sig]
abbrev zVote : Vote := ⟨0, 0⟩
def tcells (l : List Vote) : List Value := l.flatMap Vote.cells
theorem tcells_nil : tcells [] = [] := rfl
theorem tcells_cons (v : Vote) (l : List Vote) : tcells (v :: l) = v.cells ++ tcells l := rfl
theorem tcells_len : ∀ l : List Vote, (tcells l).length = l.length * 2
  | [] => rfl
  | v :: l => by rw [tcells_cons, List.length_append, tcells_len l]; simp; omega
theorem tcells_at : ∀ {l : List Vote} {k : Nat}, k < l.length → ((tcells l).drop (k * 2)).take 2 = (l.getD k zVote).cells
  | v :: l, 0, _ => by rw [tcells_cons]; rfl
  | v :: l, k + 1, h => by
    have := tcells_at (l := l) (k := k) (by simpa using h)
    rw [tcells_cons, show (k + 1) * 2 = v.cells.length + k * 2 from by simp; omega, ← List.drop_drop, List.drop_left]
    exact this
theorem vote_cells {h : Heap} {b o n k : Nat} {l : List Vote} (hc : cellsAt h b o (n * 2) = some (tcells l)) (hn : l.length = n) (hk : k < n) : Cells h b (o + k * 2) 2 (l.getD k zVote).cells := ⟨by
  rw [cellsAt_sub hc (by omega), tcells_at (by omega)]⟩
end Go.Proofs.YtlckmpioipiihaaGreat.A

namespace Go.Proofs.YtlckmpioipiihaaGreat.A
open Go.Proofs.YtlckmpioipiihaaGreat.K
open Go Go.Vm
set_option maxRecDepth 10000
set_option linter.unusedVariables false
structure Cm where
  height : Int
  hash : List UInt8
  votes : List Vote
abbrev Cm.cells (x : Cm) (sv : Value) : List Value := .int .i64 x.height :: (bcells x.hash ++ [sv])
abbrev zCm : Cm := ⟨0, zb32, []⟩
end Go.Proofs.YtlckmpioipiihaaGreat.A

namespace Go.Proofs.YtlckmpioipiihaaGreat.A
open Go.Proofs.YtlckmpioipiihaaGreat.K
open Go Go.Vm
set_option maxRecDepth 10000
set_option linter.unusedVariables false
def zeroHd : Hd := ⟨[], 0, 0, zb32, zb32, zb32, zb32⟩
theorem zeroHd_ok : zeroHd.ok := ⟨rfl, rfl, rfl, rfl⟩
end Go.Proofs.YtlckmpioipiihaaGreat.A

namespace Go.Proofs.YtlckmpioipiihaaGreat.A
open Go.Proofs.YtlckmpioipiihaaGreat.K
open Go Go.Vm
set_option maxRecDepth 10000
set_option linter.unusedVariables false
structure Bk where
  h : Hd
  c : Cm
  vals : List Val
abbrev zBk : Bk := ⟨zeroHd, zCm, []⟩
structure Bk.ok (x : Bk) : Prop where
  h : x.h.ok
  hash : x.c.hash.length = 32
  votes : x.c.votes.length ≤ 64
  vals : x.vals.length ≤ 64
abbrev Bk.cells (x : Bk) (sv sl : Value) : List Value := .string ⟨⟨x.h.chain⟩⟩ :: .int .i64 x.h.height :: .int .i64 x.h.time :: (bcells x.h.prev ++ (bcells x.h.vals ++ (bcells x.h.next ++ (bcells x.h.app ++ (.int .i64 x.c.height :: (bcells x.c.hash ++ [sv, sl]))))))
abbrev zBc : List Value := .string ⟨⟨[]⟩⟩ :: .int .i64 0 :: .int .i64 0 :: (z32 ++ (z32 ++ (z32 ++ (z32 ++ (.int .i64 0 :: (z32 ++ [.slice none 0 0, .slice none 0 0]))))))
structure BkOwn (h : Heap) (lo : Nat) (x : Bk) (sv sl : Value) : Prop where
  votes : Own h 2 sv (tcells x.c.votes) x.c.votes.length
  vals : Own h 5 sl (vcells x.vals) x.vals.length
  vnew : ∀ i, ownedBy sv i → lo ≤ i
  lnew : ∀ i, ownedBy sl i → lo ≤ i
  apart : ∀ i, ownedBy sv i → ¬ ownedBy sl i
theorem BkOwn.keep {S : Nat → Prop} {h h' : Heap} {lo : Nat} {x : Bk} {sv sl : Value} (hb : BkOwn h lo x sv sl) (hf : Fr S h h') (hs : ∀ i, S i → i < lo ∨ h.n ≤ i) : BkOwn h' lo x sv sl :=
  ⟨hb.votes.keep hf fun i hi h => (by have := hb.vnew i hi; have := hb.votes.lt hi; have := hs i h; omega), hb.vals.keep hf fun i hi h => (by have := hb.lnew i hi; have := hb.vals.lt hi; have := hs i h; omega), hb.vnew, hb.lnew, hb.apart⟩
theorem BkOwn.zero {h : Heap} {lo : Nat} : BkOwn h lo zBk (.slice none 0 0) (.slice none 0 0) := ⟨.none, .none, fun i hi => hi.elim, fun i hi => hi.elim, fun i hi => hi.elim⟩
end Go.Proofs.YtlckmpioipiihaaGreat.A

namespace Go.Proofs.YtlckmpioipiihaaGreat.A
open Go.Proofs.YtlckmpioipiihaaGreat.K
open Go Go.Vm
set_option maxRecDepth 10000
set_option linter.unusedVariables false
theorem OverCommit_ok {h : Heap} {x : Cm} {sv : Value} {c : List Value} {n : Nat} (hl : x.hash.length = 32) (ho : Own h 2 sv c n) (hs : n < 1048576) :
    Runs Tryz.prog T0 (.fn fn_zubQ) [.agg ⟨x.cells sv⟩] h (fun r h' => Fr (ownedBy sv) h h') (fun _ _ => False) := by
  haveI := l32 hl
  refine zubQ_runs ?_
  cases ho with
  | none =>
    refine stpP ?_
    refine loop1 zubQ_l0_M 2 (fun m v2 h' => v2 = .int .i64 0 ∧ h' = h.push (.cells (x.cells (.slice none 0 0)) 0)) ?_ 0 ⟨rfl, rfl⟩
    rintro m v2 h' x3 x4 x5 x6 x7 x8 x9 x10 x11 x12 x13 x14 ⟨rfl, rfl⟩
    refine stpP ?_
    exact Fr.refl.push
  | lit hq hg =>
    rename_i q es
    refine stpP ?_
    refine loop1 zubQ_l0_M 2 (fun m v2 h' => v2 = .int .i64 0 ∧ h' = h.push (.cells (x.cells (.slice (some ⟨q, 0, none⟩) 0 0)) 0)) ?_ 0 ⟨rfl, rfl⟩
    rintro m v2 h' x3 x4 x5 x6 x7 x8 x9 x10 x11 x12 x13 x14 ⟨rfl, rfl⟩
    refine stpP ?_
    exact Fr.refl.push
  | grown hq hn hle hl2 hl3 hg =>
    rename_i q kk cap j
    refine stpP ?_
    refine loop1 zubQ_l0_M 2 (fun m v2 h' => ∃ k : Nat, k ≤ n ∧ m = n - k ∧ v2 = .int .i64 k ∧ (∃ cs, h'.get q = .cells cs 2 ∧ cs.length = cap * 2) ∧ h'.get h.n = .cells (x.cells (.slice (some ⟨q, 0, some kk⟩) n cap)) 0 ∧ Fr (ownedBy (.slice (some ⟨q, 0, some kk⟩) n cap)) h h') ?_ n ⟨0, by omega, rfl, rfl, ⟨_, by rw [Heap.get_push, if_neg (by omega), hg], hl3⟩, by rw [Heap.get_push, if_pos rfl], Fr.refl.push⟩
    rintro m v2 h' x3 x4 x5 x6 x7 x8 x9 x10 x11 x12 x13 x14 ⟨k, hk, rfl, rfl, ⟨cs, hg', hcs⟩, hgb, hf⟩
    haveI : HGet h' q _ := ⟨hg'⟩
    haveI : HGet h' h.n _ := ⟨hgb⟩
    refine stpP ?_
    refine C.if (fun hlt => ?_) (fun hge => ?_)
    · refine stpP ?_
      refine O.by0 (mkStoreN (xs := [.int .i64 (-7), .int .u64 0]) (c := cs) (r := q) (es := 2) (by simp; omega) rfl rfl) rfl ?_
      refine stpP ?_
      refine loop1a 2 (n - (k + 1)) (by omega) ⟨k + 1, by omega, rfl, rfl, ⟨_, by rw [Heap.get_set, if_pos rfl], ?_⟩, by rw [Heap.get_set, if_neg (by omega), hgb], Fr.set hf fun _ => rfl⟩
      rw [over_length _ _ _ (by simp; omega), hcs]
    · refine stpP ?_
      exact hf
end Go.Proofs.YtlckmpioipiihaaGreat.A

namespace Go.Proofs.YtlckmpioipiihaaGreat.A
open Go.Proofs.YtlckmpioipiihaaGreat.K
open Go Go.Vm
set_option maxRecDepth 10000
set_option linter.unusedVariables false
theorem appendLitV {P : Program} {T : Table} {ts : List Value} {ds : List Deferred} {h : Heap} {rd : Option Nat} {dst bytes el : Nat} {x y : Operand} {chk : List (Option Nat × AOp × Option (Nat × Bool))} {pan : Bool} {rest : List AOper} {Q : QP} {F : Value → List Value} {w : Value} {l : List Val}
    [e1 : Ev ts x (.slice (some ⟨h.n, 0, none⟩) 0 0)] [e2 : Ev ts y w] [s : LSetF ts dst F] (hv : Rd h 5 w (vcells l) l.length) (hs : l.length < 1048576) (hb : bytes < 1048576)
    (hk : ∀ v' h', Own h' 5 v' (vcells l) l.length → Fr (fun _ => False) h h' → (∀ i, ownedBy v' i → h.n ≤ i) → RunO P T rest ⟨F v', ds, h', rd⟩ Q) :
    RunO P T (⟨some dst, .append el 5 bytes [.int .u8 0, .int .u8 0, .int .u8 0, .int .u8 0, .int .i64 0] false x y, none, chk, pan⟩ :: rest) ⟨ts, ds, h.push (.cells [] 0), rd⟩ Q := by
  have f0 : Fr (fun _ => False) h (h.push (.cells [] 0)) := Fr.refl.push
  have hz : Own (h.push (.cells [] 0)) 5 (.slice (some ⟨h.n, 0, none⟩) 0 0) [] 0 := .lit (by simp) (by rw [Heap.get_push, if_pos rfl])
  refine O.append hz ((hv.keep f0 fun _ _ => id).new _) (vcells_len l) (vcells_one l) (by omega) (by omega) (by omega) (fun v' h' h1 h2 h3 => ?_)
  rw [Nat.zero_add, List.nil_append] at h1
  refine hk v' h' h1 (f0.trans (S := fun _ => False) h2 fun i hi ho => ?_) fun i hi => ?_
  · have : h.n = i := ho
    omega
  · rcases h3 i hi with h4 | h4
    · have : h.n = i := h4
      omega
    · simp at h4; omega
theorem CloneV_ok {h : Heap} {v : Value} {l : List Val} (hr : Rd h 5 v (vcells l) l.length) (hs : l.length < 1048576) :
    Runs Tryz.prog T0 (.fn fn_zidQ) [v] h
      (fun r h' => Own h' 5 r (vcells l) l.length ∧ Fr (fun _ => False) h h' ∧ ∀ i, ownedBy r i → h.n ≤ i) (fun _ _ => False) := by
  have hr0 := hr
  obtain ⟨a, cap, rfl, hlen, hc⟩ := hr
  refine zidQ_runs ?_
  cases a with
  | none =>
    have hl : l = [] := by
      cases l with
      | nil => rfl
      | cons b l => obtain ⟨_, _, _, h1, _⟩ := hc (by simp); cases h1
    subst hl
    refine stp ?_
    exact ⟨.none, Fr.refl, fun i hi => hi.elim⟩
  | some a =>
    refine stp ?_
    refine appendLitV hr0 hs (by omega) (fun v' h' h1 h2 h3 => ?_)
    refine stp ?_
    exact ⟨h1, h2, h3⟩
theorem CopyVals_ok {h : Heap} {v : Value} {l : List Val} (hr : Rd h 5 v (vcells l) l.length) (hs : l.length < 1048576) :
    Runs Tryz.prog T0 (.fn fn_zrbQ) [v] h
      (fun r h' => Own h' 5 r (vcells l) l.length ∧ Fr (fun _ => False) h h' ∧ ∀ i, ownedBy r i → h.n ≤ i) (fun _ _ => False) := by
  have hr0 := hr
  obtain ⟨a, cap, rfl, hlen, hc⟩ := hr
  refine zrbQ_runs ?_
  refine stp ?_
  refine appendLitV hr0 hs (by omega) (fun v' h' h1 h2 h3 => ?_)
  refine stp ?_
  exact ⟨h1, h2, h3⟩
end Go.Proofs.YtlckmpioipiihaaGreat.A

namespace Go.Proofs.YtlckmpioipiihaaGreat.A
open Go.Proofs.YtlckmpioipiihaaGreat.K
open Go Go.Vm
set_option maxRecDepth 10000
set_option linter.unusedVariables false
structure BkRd (h : Heap) (x : Bk) (sv sl : Value) : Prop where
  hd : x.h.ok
  hash : x.c.hash.length = 32
  sv : Rd h 2 sv (tcells x.c.votes) x.c.votes.length
  sl : Rd h 5 sl (vcells x.vals) x.vals.length
theorem BkRd.keep {S : Nat → Prop} {h h' : Heap} {x : Bk} {sv sl : Value} (hb : BkRd h x sv sl) (hf : Fr S h h') (hs : ∀ i, i < h.n → ¬ S i) : BkRd h' x sv sl :=
  ⟨hb.hd, hb.hash, hb.sv.keep hf fun i hi => hs i (Rd.block_lt hb.sv hi), hb.sl.keep hf fun i hi => hs i (Rd.block_lt hb.sl hi)⟩
end Go.Proofs.YtlckmpioipiihaaGreat.A

namespace Go.Proofs.YtlckmpioipiihaaGreat.A
open Go.Proofs.YtlckmpioipiihaaGreat.K
open Go Go.Vm
set_option maxRecDepth 10000
set_option linter.unusedVariables false
theorem LongBlock_ok {h : Heap} {x : Bk} {sv sl : Value} (hb : BkRd h x sv sl) :
    Runs Tryz.prog T0 (.fn fn_zsbQ) [.agg ⟨x.cells sv sl⟩] h (fun r h' => (∃ b : Bool, r = .bool b ∧ (b = false → x.vals.length ≤ 70 ∧ x.c.votes.length ≤ 70 ∧ x.h.chain.length ≤ 60)) ∧ Fr (fun _ => False) h h') (fun _ _ => False) := by
  have hx := hb.hd
  have hch := hb.hash
  haveI := l32 hx.prev
  haveI := l32 hx.vals
  haveI := l32 hx.next
  haveI := l32 hx.app
  haveI := l32 hch
  obtain ⟨a1, c1, rfl, _, _⟩ := id hb.sv
  obtain ⟨a2, c2, rfl, _, _⟩ := id hb.sl
  have hsz : (ByteArray.mk ⟨x.h.chain⟩).size = x.h.chain.length := rfl
  refine zsbQ_runs ?_
  refine stp ?_
  refine O.dec (fun h1 => ?_) (fun h1 => ?_)
  · refine stp ?_
    exact ⟨⟨true, rfl, fun h => by cases h⟩, Fr.refl.push⟩
  refine stp ?_
  refine O.dec (fun h2 => ?_) (fun h2 => ?_)
  · refine stp ?_
    exact ⟨⟨true, rfl, fun h => by cases h⟩, Fr.refl.push⟩
  refine stp ?_
  exact ⟨⟨_, rfl, fun h => by have := of_decide_eq_false h; omega⟩, Fr.refl.push⟩
theorem tcells_oneE : ∀ l : List Vote, (tcells l).all Value.oneCell' = true
  | [] => rfl
  | v :: l => by rw [tcells_cons, List.all_append, tcells_oneE l]; rfl
theorem appendLitC {P : Program} {T : Table} {ts : List Value} {ds : List Deferred} {h : Heap} {rd : Option Nat} {dst bytes el : Nat} {x y : Operand} {chk : List (Option Nat × AOp × Option (Nat × Bool))} {pan : Bool} {rest : List AOper} {Q : QP} {F : Value → List Value} {w : Value} {l : List Vote} {zero : List Value}
    [e1 : Ev ts x (.slice (some ⟨h.n, 0, none⟩) 0 0)] [e2 : Ev ts y w] [s : LSetF ts dst F] (hv : Rd h 2 w (tcells l) l.length) (hs : l.length < 1048576) (hb : bytes < 1048576)
    (hk : ∀ v' h', Own h' 2 v' (tcells l) l.length → Fr (fun _ => False) h h' → (∀ i, ownedBy v' i → h.n ≤ i) → RunO P T rest ⟨F v', ds, h', rd⟩ Q) :
    RunO P T (⟨some dst, .append el 2 bytes zero false x y, none, chk, pan⟩ :: rest) ⟨ts, ds, h.push (.cells [] 0), rd⟩ Q := by
  have f0 : Fr (fun _ => False) h (h.push (.cells [] 0)) := Fr.refl.push
  have hz : Own (h.push (.cells [] 0)) 2 (.slice (some ⟨h.n, 0, none⟩) 0 0) [] 0 := .lit (by simp) (by rw [Heap.get_push, if_pos rfl])
  have one := tcells_oneE l
  refine O.append hz ((hv.keep f0 fun _ _ => id).new _) (tcells_len l) one (by omega) (by omega) (by omega) (fun v' h' h1 h2 h3 => ?_)
  rw [Nat.zero_add, List.nil_append] at h1
  refine hk v' h' h1 (f0.trans (S := fun _ => False) h2 fun i hi ho => ?_) fun i hi => ?_
  · have : h.n = i := ho
    omega
  · rcases h3 i hi with h4 | h4
    · have : h.n = i := h4
      omega
    · simp at h4; omega
set_option maxHeartbeats 4000000 in
theorem CopyCommit_ok {h : Heap} {ht : Int} {hs : List UInt8} {sv : Value} {l : List Vote} (hl : hs.length = 32) (hv : Rd h 2 sv (tcells l) l.length) (hsm : l.length < 1048576) :
    Runs Tryz.prog T0 (.fn fn_zpbQ) [.agg ⟨.int .i64 ht :: (bcells hs ++ [sv])⟩] h
      (fun r h' => ∃ sw, r = .agg ⟨.int .i64 ht :: (bcells hs ++ [sw])⟩ ∧ Own h' 2 sw (tcells l) l.length ∧ (∀ i, ownedBy sw i → h.n ≤ i) ∧ Fr (fun _ => False) h h') (fun _ _ => False) := by
  haveI := l32 hl
  obtain ⟨a1, c1, rfl, _, _⟩ := id hv
  refine zpbQ_runs ?_
  refine stp ?_
  have gA : HGet ((h.push (.cells (.int .i64 ht :: (bcells hs ++ [.slice a1 l.length c1])) 0)).push (.cells (.int .i64 0 :: (z32 ++ [.slice none 0 0])) 0)) h.n (.cells (.int .i64 ht :: (bcells hs ++ [.slice a1 l.length c1])) 0) := HGet.push (k := BLt.new) (g := HGet.new)
  have gB : HGet ((h.push (.cells (.int .i64 ht :: (bcells hs ++ [.slice a1 l.length c1])) 0)).push (.cells (.int .i64 0 :: (z32 ++ [.slice none 0 0])) 0)) (h.push (.cells (.int .i64 ht :: (bcells hs ++ [.slice a1 l.length c1])) 0)).n (.cells (.int .i64 0 :: (z32 ++ [.slice none 0 0])) 0) := HGet.new
  have f0 : Fr (fun _ => False) h ((h.push (.cells (.int .i64 ht :: (bcells hs ++ [.slice a1 l.length c1])) 0)).push (.cells (.int .i64 0 :: (z32 ++ [.slice none 0 0])) 0)) := Fr.refl.push.push
  have n0 : ((h.push (.cells (.int .i64 ht :: (bcells hs ++ [.slice a1 l.length c1])) 0)).push (.cells (.int .i64 0 :: (z32 ++ [.slice none 0 0])) 0)).n = h.n + 2 := rfl
  have nb : (h.push (.cells (.int .i64 ht :: (bcells hs ++ [.slice a1 l.length c1])) 0)).n = h.n + 1 := rfl
  generalize (h.push (.cells (.int .i64 ht :: (bcells hs ++ [.slice a1 l.length c1])) 0)).push (.cells (.int .i64 0 :: (z32 ++ [.slice none 0 0])) 0) = h0 at *
  generalize (h.push (.cells (.int .i64 ht :: (bcells hs ++ [.slice a1 l.length c1])) 0)).n = pb at *
  refine appendLitC (hv.keep f0 fun _ _ => id) (by omega) (by omega) (fun v' h1 ho hf1 hnew => ?_)
  have gA1 := hf1.keep gA (by omega) id
  have gB1 := hf1.keep gB (by omega) id
  have n1 := hf1.n
  haveI := gA1
  haveI := gB1
  haveI : BNe pb h.n := ⟨by omega⟩
  haveI : BNe h.n pb := ⟨by omega⟩
  obtain ⟨a2, c2, rfl, _, _⟩ := id ho.rd
  refine stp ?_
  refine ⟨_, rfl, ho.keep (S := fun i => i = h.n ∨ i = pb) ((Fr.refl.set fun _ => .inl rfl).set fun _ => .inr rfl) fun b hb e => by have := hnew b hb; omega, fun i hi => by have := hnew i hi; omega, ((f0.trans' hf1).set fun e => by omega).set fun e => by omega⟩
end Go.Proofs.YtlckmpioipiihaaGreat.A

namespace Go.Proofs.YtlckmpioipiihaaGreat.A
open Go.Proofs.YtlckmpioipiihaaGreat.K
open Go Go.Vm
set_option maxRecDepth 10000
set_option linter.unusedVariables false
set_option maxHeartbeats 8000000 in
theorem CopyBlock_ok {h : Heap} {x : Bk} {sv sl : Value} (hb : BkRd h x sv sl) (h1 : x.c.votes.length < 1048576) (h2 : x.vals.length < 1048576) :
    Runs Tryz.prog T0 (.fn fn_zobQ) [.agg ⟨x.cells sv sl⟩] h
      (fun r h' => ∃ sw sm, r = .agg ⟨x.cells sw sm⟩ ∧ Own h' 2 sw (tcells x.c.votes) x.c.votes.length ∧ Own h' 5 sm (vcells x.vals) x.vals.length ∧ (∀ i, ownedBy sw i → h.n ≤ i) ∧ (∀ i, ownedBy sm i → h.n ≤ i) ∧ Fr (fun _ => False) h h') (fun _ _ => False) := by
  have hx := hb.hd
  have hch := hb.hash
  haveI := l32 hx.prev
  haveI := l32 hx.vals
  haveI := l32 hx.next
  haveI := l32 hx.app
  haveI := l32 hch
  obtain ⟨a1, c1, rfl, _, _⟩ := id hb.sv
  obtain ⟨a2, c2, rfl, _, _⟩ := id hb.sl
  refine zobQ_runs ?_
  refine stp ?_
  have gA : HGet ((h.push (.cells (x.cells (.slice a1 x.c.votes.length c1) (.slice a2 x.vals.length c2)) 0)).push (.cells zBc 0)) h.n (.cells (x.cells (.slice a1 x.c.votes.length c1) (.slice a2 x.vals.length c2)) 0) := HGet.push (k := BLt.new) (g := HGet.new)
  have gB : HGet ((h.push (.cells (x.cells (.slice a1 x.c.votes.length c1) (.slice a2 x.vals.length c2)) 0)).push (.cells zBc 0)) (h.push (.cells (x.cells (.slice a1 x.c.votes.length c1) (.slice a2 x.vals.length c2)) 0)).n (.cells zBc 0) := HGet.new
  have f0 : Fr (fun _ => False) h ((h.push (.cells (x.cells (.slice a1 x.c.votes.length c1) (.slice a2 x.vals.length c2)) 0)).push (.cells zBc 0)) := Fr.refl.push.push
  have n0 : ((h.push (.cells (x.cells (.slice a1 x.c.votes.length c1) (.slice a2 x.vals.length c2)) 0)).push (.cells zBc 0)).n = h.n + 2 := rfl
  have nb : (h.push (.cells (x.cells (.slice a1 x.c.votes.length c1) (.slice a2 x.vals.length c2)) 0)).n = h.n + 1 := rfl
  generalize (h.push (.cells (x.cells (.slice a1 x.c.votes.length c1) (.slice a2 x.vals.length c2)) 0)).push (.cells zBc 0) = h0 at *
  generalize (h.push (.cells (x.cells (.slice a1 x.c.votes.length c1) (.slice a2 x.vals.length c2)) 0)).n = pb at *
  refine O.call' (CopyCommit_ok hch (hb.keep f0 fun _ _ => id).sv h1) (fun r h3 hr => ?_)
  obtain ⟨sw, rfl, ho, hnew, hf3⟩ := hr
  have gA3 := hf3.keep gA (by omega) id
  have gB3 := hf3.keep gB (by omega) id
  have n3 := hf3.n
  obtain ⟨a3, c3, rfl, _, _⟩ := id ho.rd
  haveI := gA3
  haveI : BLt h.n h3 := ⟨by omega⟩
  refine stp ?_
  have gA4 : HGet (h3.set h.n (.cells (x.cells (.slice a3 x.c.votes.length c3) (.slice a2 x.vals.length c2)) 0)) h.n (.cells (x.cells (.slice a3 x.c.votes.length c3) (.slice a2 x.vals.length c2)) 0) := HGet.same
  have gB4 : HGet (h3.set h.n (.cells (x.cells (.slice a3 x.c.votes.length c3) (.slice a2 x.vals.length c2)) 0)) pb (.cells zBc 0) := HGet.set (k := ⟨by omega⟩) (g := gB3)
  have f4 : Fr (fun i => i = h.n) h3 (h3.set h.n (.cells (x.cells (.slice a3 x.c.votes.length c3) (.slice a2 x.vals.length c2)) 0)) := Fr.refl.set fun _ => rfl
  have F4 : Fr (fun _ => False) h (h3.set h.n (.cells (x.cells (.slice a3 x.c.votes.length c3) (.slice a2 x.vals.length c2)) 0)) := (f0.trans' hf3).trans f4 fun i hi e => by omega
  have ho4 := ho.keep f4 fun b hb e => by have := hnew b hb; omega
  have n4 : (h3.set h.n (.cells (x.cells (.slice a3 x.c.votes.length c3) (.slice a2 x.vals.length c2)) 0)).n = h3.n := rfl
  generalize h3.set h.n (.cells (x.cells (.slice a3 x.c.votes.length c3) (.slice a2 x.vals.length c2)) 0) = h4 at *
  refine O.call' (CopyVals_ok (hb.keep F4 fun _ _ => id).sl h2) (fun r h5 hr => ?_)
  obtain ⟨hov, hf5, hnv⟩ := hr
  have gA5 := hf5.keep gA4 (by omega) id
  have gB5 := hf5.keep gB4 (by omega) id
  have n5 := hf5.n
  have ho5 := ho4.keep hf5 fun _ _ => id
  obtain ⟨a4, c4, rfl, _, _⟩ := id hov.rd
  haveI := gA5
  haveI := gB5
  haveI : BNe pb h.n := ⟨by omega⟩
  haveI : BNe h.n pb := ⟨by omega⟩
  refine stp ?_
  have f6 : ∀ {o1 o2 : AObj}, Fr (fun i => i = h.n ∨ i = pb) h5 ((h5.set h.n o1).set pb o2) := fun {o1 o2} => (Fr.refl.set fun _ => .inl rfl).set fun _ => .inr rfl
  refine ⟨_, _, rfl, ho5.keep f6 fun b hb e => by have := hnew b hb; omega, hov.keep f6 fun b hb e => by have := hnv b hb; omega, fun i hi => by have := hnew i hi; omega, fun i hi => by have := hnv i hi; omega, (F4.trans' hf5).trans f6 fun i hi e => by omega⟩
end Go.Proofs.YtlckmpioipiihaaGreat.A

namespace Go.Proofs.YtlckmpioipiihaaGreat.A
open Go.Proofs.YtlckmpioipiihaaGreat.K
open Go Go.Vm
set_option maxRecDepth 10000
set_option linter.unusedVariables false
def hashH (x : Hd) : List UInt8 := if checkS x = 0 then sumS (72 :: encS x) else zb32
theorem hashH_len (x : Hd) : (hashH x).length = 32 := by
  unfold hashH
  split
  · exact sumS_len _
  · rfl
end Go.Proofs.YtlckmpioipiihaaGreat.A

namespace Go.Proofs.YtlckmpioipiihaaGreat.A
open Go.Proofs.YtlckmpioipiihaaGreat.K
open Go Go.Vm
set_option maxRecDepth 10000
set_option linter.unusedVariables false
theorem BHash_ok {h : Heap} {x : Bk} {sv sl : Value} (hb : BkRd h x sv sl) :
    Runs Tryz.prog T0 (.fn fn_zlQ) [.agg ⟨x.cells sv sl⟩] h (fun r h' => r = .tuple ⟨[.agg ⟨bcells (hashH x.h)⟩, .int .i64 (checkS x.h)]⟩ ∧ Fr (fun _ => False) h h') (fun _ _ => False) := by
  have hx := hb.hd
  have hch := hb.hash
  haveI := l32 hx.prev
  haveI := l32 hx.vals
  haveI := l32 hx.next
  haveI := l32 hx.app
  haveI := l32 hch
  haveI := l32 (hashH_len x.h)
  obtain ⟨a1, c1, rfl, _, _⟩ := id hb.sv
  obtain ⟨a2, c2, rfl, _, _⟩ := id hb.sl
  refine zlQ_runs ?_
  refine stp ?_
  refine O.call' (HHash_ok hx) (fun r h2 hr => ?_)
  obtain ⟨rfl, hf2⟩ := hr
  have n2 := hf2.n
  simp only [Heap.n_push] at n2
  rw [show (if checkS x.h = 0 then sumS (72 :: encS x.h) else zb32) = hashH x.h from rfl]
  haveI gZ : HGet h2 (h.n + 1) (.cells z32 0) := hf2.keep (b := h.n + 1) (HGet.new (h := h.push _)) (by simp) id
  haveI : BLt (h.n + 1) h2 := ⟨by omega⟩
  simp only [Heap.n_push]
  refine stp ?_
  exact ⟨rfl, Fr.set (Fr.trans (S := fun _ => False) Fr.refl.push.push hf2 fun _ _ h => h) fun e => by omega⟩
theorem RBHash_ok {h : Heap} {x : Bk} {sv sl : Value} (hb : BkRd h x sv sl) (hs : x.h.chain.length < 1048576) :
    Runs Tryz.prog T0 (.fn fn_zzcQ) [.agg ⟨x.cells sv sl⟩] h (fun r h' => r = .tuple ⟨[.agg ⟨bcells (hashH x.h)⟩, .int .i64 (checkS x.h)]⟩ ∧ Fr (fun _ => False) h h') (fun _ _ => False) := by
  have hx := hb.hd
  have hch := hb.hash
  haveI := l32 hx.prev
  haveI := l32 hx.vals
  haveI := l32 hx.next
  haveI := l32 hx.app
  haveI := l32 hch
  haveI := l32 (hashH_len x.h)
  obtain ⟨a1, c1, rfl, _, _⟩ := id hb.sv
  obtain ⟨a2, c2, rfl, _, _⟩ := id hb.sl
  refine zzcQ_runs ?_
  refine stp ?_
  refine O.call' (RHash6_ok hx hs) (fun r h2 hr => ?_)
  obtain ⟨rfl, hf2⟩ := hr
  have n2 := hf2.n
  simp only [Heap.n_push] at n2
  rw [show (if checkS x.h = 0 then sumS (72 :: encS x.h) else zb32) = hashH x.h from rfl]
  haveI gZ : HGet h2 (h.n + 1) (.cells z32 0) := hf2.keep (b := h.n + 1) (HGet.new (h := h.push _)) (by simp) id
  haveI : BLt (h.n + 1) h2 := ⟨by omega⟩
  simp only [Heap.n_push]
  refine stp ?_
  exact ⟨rfl, Fr.set (Fr.trans (S := fun _ => False) Fr.refl.push.push hf2 fun _ _ h => h) fun e => by omega⟩
end Go.Proofs.YtlckmpioipiihaaGreat.A

namespace Go.Proofs.YtlckmpioipiihaaGreat.A
open Go.Proofs.YtlckmpioipiihaaGreat.K
open Go Go.Vm
set_option maxRecDepth 10000
set_option linter.unusedVariables false
instance : DecidableEq Vote := fun ⟨a, s⟩ ⟨b, t⟩ => if h : a = b ∧ s = t then .isTrue (by rw [h.1, h.2]) else .isFalse (fun e => h (by injection e with e1 e2; exact ⟨e1, e2⟩))
theorem same_vote {v w : Vote} : same v.cells w.cells = decide (v = w) := by
  by_cases h : v = w
  · rw [h, same_self, decide_eq_true rfl]
  · rw [decide_eq_false h, same_ne]
    intro e
    apply h
    obtain ⟨a, s⟩ := v
    obtain ⟨b, t⟩ := w
    simp only [Vote.cells, List.cons.injEq, Value.int.injEq, true_and, and_true] at e
    obtain ⟨e1, e2⟩ := e
    rw [e1, show s = t from by omega]
theorem take_next {α : Type} {l m : List α} {z : α} {k : Nat} (h1 : k < l.length) (h2 : k < m.length) : l.take (k + 1) = m.take (k + 1) ↔ l.take k = m.take k ∧ l.getD k z = m.getD k z := by
  have g1 : l.getD k z = l[k] := by simp [List.getD_eq_getElem?_getD, h1]
  have g2 : m.getD k z = m[k] := by simp [List.getD_eq_getElem?_getD, h2]
  rw [List.take_succ_eq_append_getElem h1, List.take_succ_eq_append_getElem h2, g1, g2]
  constructor
  · intro h
    have h3 := List.append_inj h (by simp; omega)
    exact ⟨h3.1, by simpa using h3.2⟩
  · rintro ⟨e1, e2⟩
    rw [e1, e2]
theorem SameVotes_ok {h : Heap} {v w : Value} {l m : List Vote} (hv : Rd h 2 v (tcells l) l.length) (hw : Rd h 2 w (tcells m) m.length) (hs : l.length < 1048576) (ht : m.length < 1048576) :
    Runs Tryz.prog T0 (.fn fn_zbcQ) [v, w] h (fun r h' => r = .bool (decide (l = m)) ∧ h' = h) (fun _ _ => False) := by
  obtain ⟨a, cap, rfl, hlen, hc⟩ := hv
  obtain ⟨a', cap', rfl, hlen', hc'⟩ := hw
  refine zbcQ_runs ?_
  refine stp ?_
  refine loop2 zbcQ_l0_M 5 6 (fun q v5 v6 h' => ∃ (k : Nat) (B : Bool), k ≤ l.length ∧ q = l.length - k ∧ v6 = .int .i64 k ∧ v5 = .bool B ∧ (B = true ↔ l.length = m.length ∧ l.take k = m.take k) ∧ h' = h) ?_ l.length ⟨0, _, by omega, rfl, rfl, rfl, by simp; omega, rfl⟩
  rintro m v5 v6 h' x12 x13 x14 x15 x16 x17 x18 x19 x20 x21 x22 x23 x24 x25 x26 x27 x28 x29 ⟨k, B, hk, rfl, rfl, rfl, hB, rfl⟩
  cases B with
  | false =>
    refine stp ?_
    have hne : l ≠ m := fun e => by have := hB.2 ⟨by rw [e], by rw [e]⟩; cases this
    rw [decide_eq_false hne]
    exact ⟨rfl, rfl⟩
  | true =>
    obtain ⟨hl1, hl2⟩ := hB.1 rfl
    refine stp ?_
    refine C.if (fun hlt => ?_) (fun hge => ?_)
    · have hlt : k < l.length := by omega
      obtain ⟨b, o, sp, rfl, hb, hcc⟩ := hc (by omega)
      obtain ⟨b', o', sp', rfl, hb', hcc'⟩ := hc' (by omega)
      haveI := vote_cells hcc rfl hlt
      haveI := vote_cells hcc' rfl (show k < m.length by omega)
      refine stp ?_
      rw [same_vote]
      exact loop2a 5 6 (l.length - (k + 1)) (by omega) ⟨k + 1, _, by omega, rfl, rfl, rfl, by rw [decide_eq_true_eq, take_next (z := zVote) hlt (by omega)]; exact ⟨fun e => ⟨hl1, hl2, e⟩, fun e => e.2.2⟩, rfl⟩
    · refine stp ?_
      have e : l = m := by
        have h1 : l.take l.length = m.take l.length := by rw [show l.length = k by omega]; exact hl2
        rwa [List.take_length, hl1, List.take_length] at h1
      rw [decide_eq_true e]
      exact ⟨rfl, rfl⟩
end Go.Proofs.YtlckmpioipiihaaGreat.A

namespace Go.Proofs.YtlckmpioipiihaaGreat.A
open Go.Proofs.YtlckmpioipiihaaGreat.K
open Go Go.Vm
set_option maxRecDepth 10000
set_option linter.unusedVariables false
theorem u8_of {a b : UInt8} (h : (a.toNat : Int) = (b.toNat : Int)) : a = b := by
  apply UInt8.toNat_inj.1
  omega
theorem same_val {v w : Val} : same v.cells w.cells = decide (v = w) := by
  by_cases h : v = w
  · rw [h, same_self, decide_eq_true rfl]
  · rw [decide_eq_false h, same_ne]
    intro e
    apply h
    obtain ⟨a0, a1, a2, a3, p⟩ := v
    obtain ⟨b0, b1, b2, b3, q⟩ := w
    simp only [Val.cells, List.cons.injEq, Value.int.injEq, true_and, and_true] at e
    obtain ⟨e0, e1, e2, e3, e4⟩ := e
    rw [u8_of e0, u8_of e1, u8_of e2, u8_of e3, e4]
theorem SameVals_ok {h : Heap} {v w : Value} {l m : List Val} (hv : Rd h 5 v (vcells l) l.length) (hw : Rd h 5 w (vcells m) m.length) (hs : l.length < 1048576) (ht : m.length < 1048576) :
    Runs Tryz.prog T0 (.fn fn_zacQ) [v, w] h (fun r h' => r = .bool (decide (l = m)) ∧ h' = h) (fun _ _ => False) := by
  obtain ⟨a, cap, rfl, hlen, hc⟩ := hv
  obtain ⟨a', cap', rfl, hlen', hc'⟩ := hw
  refine zacQ_runs ?_
  refine stp ?_
  refine loop2 zacQ_l0_M 5 6 (fun q v5 v6 h' => ∃ (k : Nat) (B : Bool), k ≤ l.length ∧ q = l.length - k ∧ v6 = .int .i64 k ∧ v5 = .bool B ∧ (B = true ↔ l.length = m.length ∧ l.take k = m.take k) ∧ h' = h) ?_ l.length ⟨0, _, by omega, rfl, rfl, rfl, by simp; omega, rfl⟩
  rintro m v5 v6 h' x12 x13 x14 x15 x16 x17 x18 x19 x20 x21 x22 x23 x24 x25 x26 x27 x28 x29 ⟨k, B, hk, rfl, rfl, rfl, hB, rfl⟩
  cases B with
  | false =>
    refine stp ?_
    have hne : l ≠ m := fun e => by have := hB.2 ⟨by rw [e], by rw [e]⟩; cases this
    rw [decide_eq_false hne]
    exact ⟨rfl, rfl⟩
  | true =>
    obtain ⟨hl1, hl2⟩ := hB.1 rfl
    refine stp ?_
    refine C.if (fun hlt => ?_) (fun hge => ?_)
    · have hlt : k < l.length := by omega
      obtain ⟨b, o, sp, rfl, hb, hcc⟩ := hc (by omega)
      obtain ⟨b', o', sp', rfl, hb', hcc'⟩ := hc' (by omega)
      haveI := val_cells hcc rfl hlt
      haveI := val_cells hcc' rfl (show k < m.length by omega)
      refine stp ?_
      rw [same_val]
      exact loop2a 5 6 (l.length - (k + 1)) (by omega) ⟨k + 1, _, by omega, rfl, rfl, rfl, by rw [decide_eq_true_eq, take_next (z := zVal) hlt (by omega)]; exact ⟨fun e => ⟨hl1, hl2, e⟩, fun e => e.2.2⟩, rfl⟩
    · refine stp ?_
      have e : l = m := by
        have h1 : l.take l.length = m.take l.length := by rw [show l.length = k by omega]; exact hl2
        rwa [List.take_length, hl1, List.take_length] at h1
      rw [decide_eq_true e]
      exact ⟨rfl, rfl⟩
end Go.Proofs.YtlckmpioipiihaaGreat.A

namespace Go.Proofs.YtlckmpioipiihaaGreat.A
open Go.Proofs.YtlckmpioipiihaaGreat.K
open Go Go.Vm
set_option maxRecDepth 10000
set_option linter.unusedVariables false
theorem bcells_eq : ∀ {l m : List UInt8}, bcells l = bcells m → l = m
  | [], [], _ => rfl
  | [], _ :: _, h => by simp [bcells] at h
  | _ :: _, [], h => by simp [bcells] at h
  | a :: l, b :: m, h => by
    simp only [bcells, List.map_cons, List.cons.injEq, Value.int.injEq, true_and] at h
    rw [u8_of h.1, bcells_eq (l := l) (m := m) h.2]
theorem same_bytes {l m : List UInt8} : same (bcells l) (bcells m) = decide (l = m) := by
  by_cases h : l = m
  · rw [h, same_self, decide_eq_true rfl]
  · rw [decide_eq_false h, same_ne]
    exact fun e => h (bcells_eq e)
theorem SameCommit_ok {h : Heap} {x y : Cm} {sv sw : Value} (hx : x.hash.length = 32) (hy : y.hash.length = 32) (hs : x.votes.length < 1048576) (ht : y.votes.length < 1048576) (hv : Rd h 2 sv (tcells x.votes) x.votes.length) (hw : Rd h 2 sw (tcells y.votes) y.votes.length) :
    Runs Tryz.prog T0 (.fn fn_zybQ) [.agg ⟨x.cells sv⟩, .agg ⟨y.cells sw⟩] h (fun r h' => r = .bool (decide (x.height = y.height ∧ x.hash = y.hash ∧ x.votes = y.votes)) ∧ Fr (fun _ => False) h h') (fun _ _ => False) := by
  haveI := l32 hx
  haveI := l32 hy
  refine zybQ_runs ?_
  refine stp ?_
  refine O.dec (fun e1 => ?_) (fun e1 => ?_)
  · refine stp ?_
    rw [same_bytes]
    refine stp ?_
    refine O.dec (fun e2 => ?_) (fun e2 => ?_)
    · refine stp ?_
      refine O.callT (SameVotes_ok (hv.keep (S := fun _ => False) Fr.refl.push.push fun _ _ => id) (hw.keep (S := fun _ => False) Fr.refl.push.push fun _ _ => id) hs ht) (fun r h1 hr => ?_)
      obtain ⟨rfl, rfl⟩ := hr
      refine stp ?_
      exact ⟨by simp [e1, e2], Fr.refl.push.push⟩
    · refine stp ?_
      exact ⟨by simp [e2], Fr.refl.push.push⟩
  · refine stp ?_
    exact ⟨by simp [e1], Fr.refl.push.push⟩
end Go.Proofs.YtlckmpioipiihaaGreat.A

namespace Go.Proofs.YtlckmpioipiihaaGreat.A
open Go.Proofs.YtlckmpioipiihaaGreat.K
open Go Go.Vm
set_option maxRecDepth 10000
set_option linter.unusedVariables false
def sameB (x y : Bk) : Bool := same x.h.cells y.h.cells && (decide (x.c.height = y.c.height ∧ x.c.hash = y.c.hash ∧ x.c.votes = y.c.votes) && decide (x.vals = y.vals))
set_option maxHeartbeats 4000000 in
theorem SameBlock_ok {h : Heap} {x y : Bk} {sv sl sw sm : Value} (hx : BkRd h x sv sl) (hy : BkRd h y sw sm) (h1 : x.c.votes.length < 1048576) (h2 : x.vals.length < 1048576) (h3 : y.c.votes.length < 1048576) (h4 : y.vals.length < 1048576) :
    Runs Tryz.prog T0 (.fn fn_zxbQ) [.agg ⟨x.cells sv sl⟩, .agg ⟨y.cells sw sm⟩] h (fun r h' => r = .bool (sameB x y) ∧ Fr (fun _ => False) h h') (fun _ _ => False) := by
  haveI := l32 hx.hd.prev
  haveI := l32 hx.hd.vals
  haveI := l32 hx.hd.next
  haveI := l32 hx.hd.app
  haveI := l32 hx.hash
  haveI := l32 hy.hd.prev
  haveI := l32 hy.hd.vals
  haveI := l32 hy.hd.next
  haveI := l32 hy.hd.app
  haveI := l32 hy.hash
  obtain ⟨a1, c1, rfl, _, _⟩ := id hx.sv
  obtain ⟨a2, c2, rfl, _, _⟩ := id hx.sl
  obtain ⟨a3, c3, rfl, _, _⟩ := id hy.sv
  obtain ⟨a4, c4, rfl, _, _⟩ := id hy.sl
  refine zxbQ_runs ?_
  refine stp ?_
  generalize hh0 : (h.push (.cells (x.cells (.slice a1 x.c.votes.length c1) (.slice a2 x.vals.length c2)) 0)).push (.cells (y.cells (.slice a3 y.c.votes.length c3) (.slice a4 y.vals.length c4)) 0) = h0
  generalize hb : (h.push (.cells (x.cells (.slice a1 x.c.votes.length c1) (.slice a2 x.vals.length c2)) 0)).n = b
  have hf0 : Fr (fun _ => False) h h0 := by rw [← hh0]; exact Fr.refl.push.push
  have hA : HGet h0 h.n (.cells (x.cells (.slice a1 x.c.votes.length c1) (.slice a2 x.vals.length c2)) 0) := by rw [← hh0]; exact HGet.push (k := BLt.new) (g := HGet.new)
  have hB : HGet h0 b (.cells (y.cells (.slice a3 y.c.votes.length c3) (.slice a4 y.vals.length c4)) 0) := by rw [← hh0, ← hb]; exact HGet.new
  have hb' : b = h.n + 1 := by rw [← hb]; rfl
  have hn0 : h0.n = h.n + 2 := by rw [← hh0]; rfl
  clear hh0 hb
  haveI := hA
  haveI := hB
  refine stp ?_
  unfold sameB
  generalize hS : same x.h.cells y.h.cells = S
  have hS' := hS
  simp only [Hd.cells] at hS'
  try rw [hS']
  cases S with
  | false =>
    refine stp ?_
    exact ⟨rfl, hf0⟩
  | true =>
    refine stp ?_
    refine O.callT (SameCommit_ok hx.hash hy.hash h1 h3 (hx.sv.keep hf0 fun _ _ => id) (hy.sv.keep hf0 fun _ _ => id)) (fun r h5 hr => ?_)
    obtain ⟨rfl, hf5⟩ := hr
    haveI := hf5.keep hA (by omega) id
    haveI := hf5.keep hB (by omega) id
    have hf05 := hf0.trans' hf5
    refine stp ?_
    refine O.dec (fun e1 => ?_) (fun e1 => ?_)
    · refine stp ?_
      refine O.callT (SameVals_ok (hx.sl.keep hf05 fun _ _ => id) (hy.sl.keep hf05 fun _ _ => id) h2 h4) (fun r h6 hr => ?_)
      obtain ⟨rfl, rfl⟩ := hr
      refine stp ?_
      exact ⟨by simp [e1], hf05⟩
    · refine stp ?_
      exact ⟨by rw [decide_eq_false e1]; rfl, hf05⟩
end Go.Proofs.YtlckmpioipiihaaGreat.A

namespace Go.Proofs.YtlckmpioipiihaaGreat.A
open Go.Proofs.YtlckmpioipiihaaGreat.K
open Go Go.Vm
set_option maxRecDepth 10000
set_option linter.unusedVariables false
structure Wit where
  st : Int
  b : Bk
  sv : Value
  sl : Value
abbrev Wit.cells (w : Wit) : List Value := .int .i64 w.st :: w.b.cells w.sv w.sl
structure Wit.ok (w : Wit) : Prop where
  hd : w.b.h.ok
  hash : w.b.c.hash.length = 32
  cv : One1 w.sv
  cl : One1 w.sl
def zWit : Wit := ⟨0, zBk, .slice none 0 0, .slice none 0 0⟩
theorem zWit_ok : zWit.ok := ⟨zeroHd_ok, rfl, inferInstanceAs (One1 (.slice none 0 0)), inferInstanceAs (One1 (.slice none 0 0))⟩
theorem Wit.len {w : Wit} (h : w.ok) : w.cells.length = 167 := by
  have h1 := h.hd.prev
  have h2 := h.hd.vals
  have h3 := h.hd.next
  have h4 := h.hd.app
  have h5 := h.hash
  simp only [Wit.cells, Bk.cells, List.length_cons, List.length_append, bcells_len, List.length_nil]
  omega
def wtc (l : List Wit) : List Value := l.flatMap Wit.cells
theorem wtc_cons (w : Wit) (l : List Wit) : wtc (w :: l) = w.cells ++ wtc l := rfl
theorem wtc_append (l m : List Wit) : wtc (l ++ m) = wtc l ++ wtc m := by simp [wtc]
theorem wtc_len : ∀ {l : List Wit}, (∀ w ∈ l, w.ok) → (wtc l).length = l.length * 167
  | [], _ => rfl
  | w :: l, h => by
    rw [wtc_cons, List.length_append, wtc_len fun w hw => h w (by simp [hw]), Wit.len (h w (by simp)), List.length_cons]
    omega
theorem wtc_split {l : List Wit} {k : Nat} (hk : k < l.length) : wtc l = wtc (l.take k) ++ ((l.getD k zWit).cells ++ wtc (l.drop (k + 1))) := by
  have e : l = l.take k ++ (l.getD k zWit :: l.drop (k + 1)) := by
    have g : l.getD k zWit = l[k] := by simp [List.getD_eq_getElem?_getD, hk]
    rw [g, List.getElem_cons_drop, List.take_append_drop]
  conv => lhs; rw [e]
  rw [wtc_append, wtc_cons]
theorem wtc_set {l : List Wit} {k : Nat} (hk : k < l.length) (w : Wit) : wtc (l.set k w) = wtc (l.take k) ++ (w.cells ++ wtc (l.drop (k + 1))) := by
  rw [List.set_eq_take_append_cons_drop, if_pos hk, wtc_append, wtc_cons]
theorem wit_mem {l : List Wit} {k : Nat} (hk : k < l.length) : l.getD k zWit ∈ l := by
  simp [List.getD, hk]
theorem ok_take {l : List Wit} {k : Nat} (h : ∀ w ∈ l, w.ok) : ∀ w ∈ l.take k, w.ok := fun w hw => h w (List.mem_of_mem_take hw)
structure Cr where
  hash : List UInt8
  ws : List Wit
abbrev Cr.cells (c : Cr) : List Value := bcells c.hash ++ (wtc c.ws ++ [.bool true])
structure Cr.ok (c : Cr) : Prop where
  hash : c.hash.length = 32
  len : c.ws.length = 16
  all : ∀ w ∈ c.ws, w.ok
theorem Cr.get {c : Cr} (h : c.ok) {k : Nat} (hk : k < 16) : (c.ws.getD k zWit).ok := h.all _ (wit_mem (by rw [h.len]; exact hk))
theorem Cr.length {c : Cr} (h : c.ok) : c.cells.length = 2705 := by
  simp only [Cr.cells, List.length_append, bcells_len, h.hash, wtc_len h.all, h.len, List.length_cons, List.length_nil]
theorem Cr.split {c : Cr} (h : c.ok) {k : Nat} (hk : k < 16) : ∃ A B : List Value, A.length = 32 + k * 167 ∧ c.cells = A ++ ((c.ws.getD k zWit).cells ++ B) ∧ ∀ w : Wit, ({ c with ws := c.ws.set k w } : Cr).cells = A ++ (w.cells ++ B) := by
  have hk' : k < c.ws.length := by rw [h.len]; exact hk
  refine ⟨bcells c.hash ++ wtc (c.ws.take k), wtc (c.ws.drop (k + 1)) ++ [.bool true], ?_, ?_, fun w => ?_⟩
  · rw [List.length_append, bcells_len, h.hash, wtc_len (ok_take h.all), List.length_take]
    omega
  · simp only [Cr.cells]
    rw [wtc_split hk']
    simp only [List.append_assoc]
  · simp only [Cr.cells]
    rw [wtc_set hk']
    simp only [List.append_assoc]
theorem Cr.st {h : Heap} {c : Cr} {p k : Nat} (hc : c.ok) (hg : h.get p = .cells c.cells 0) (hk : k < 16) : Cell h p (32 + k * 167) (.int .i64 (c.ws.getD k zWit).st) := ⟨by
  obtain ⟨A, B, hA, hs, _⟩ := Cr.split hc hk
  have hl := Cr.length hc
  rw [cellsAt_of (c := c.cells) (by rw [hg]; rfl) (by omega), hs, ← hA, List.drop_left]
  rfl⟩
theorem Cr.made {h : Heap} {c : Cr} {p : Nat} (hc : c.ok) (hg : h.get p = .cells c.cells 0) : Cell h p 2704 (.bool true) := ⟨by
  have hl := Cr.length hc
  rw [cellsAt_of (c := c.cells) (by rw [hg]; rfl) (by omega)]
  have e : 2704 = (bcells c.hash ++ wtc c.ws).length := by rw [List.length_append, bcells_len, hc.hash, wtc_len hc.all, hc.len]
  rw [show c.cells = (bcells c.hash ++ wtc c.ws) ++ [.bool true] by simp only [Cr.cells, List.append_assoc], e, List.drop_left]
  rfl⟩
theorem Cr.sum {h : Heap} {c : Cr} {p : Nat} (hc : c.ok) (hg : h.get p = .cells c.cells 0) : Cells h p 0 32 (bcells c.hash) := ⟨by
  have hl := Cr.length hc
  have e : 32 = (bcells c.hash).length := by rw [bcells_len, hc.hash]
  rw [cellsAt_of (c := c.cells) (by rw [hg]; rfl) (by omega), List.drop_zero, e, List.take_left]⟩
theorem Cr.arr {h : Heap} {c : Cr} {p : Nat} (hc : c.ok) (hg : h.get p = .cells c.cells 0) : Cells h p 32 2672 (wtc c.ws) := ⟨by
  have hl := Cr.length hc
  have e : 32 = (bcells c.hash).length := by rw [bcells_len, hc.hash]
  have e2 : 2672 = (wtc c.ws).length := by rw [wtc_len hc.all, hc.len]
  rw [cellsAt_of (c := c.cells) (by rw [hg]; rfl) (by omega)]
  rw [e, List.drop_left, e2, List.take_left]⟩
theorem over_mid (A B C D : List Value) (h : D.length ≤ B.length) : over (A ++ (B ++ C)) A.length D = A ++ (D ++ (B.drop D.length ++ C)) := by
  have := over_app A (B ++ C) D 0
  rw [Nat.add_zero] at this
  rw [this, over_front _ _ (by rw [List.length_append]; omega), List.drop_append_of_le_length h]
theorem Cr.putW {h : Heap} {c : Cr} {p k : Nat} {w : Wit} (hc : c.ok) (hw : w.ok) (hg : h.get p = .cells c.cells 0) (hk : k < 16) : Put h p (32 + k * 167) w.cells (h.set p (.cells ({ c with ws := c.ws.set k w } : Cr).cells 0)) := ⟨by
  obtain ⟨A, B, hA, hs, hs2⟩ := Cr.split hc hk
  have hl := Cr.length hc
  have l1 := Wit.len hw
  have l2 := Wit.len (Cr.get hc hk)
  haveI := hw.cv
  haveI := hw.cl
  have ho : w.cells.all Value.oneCell' = true := One.eq
  simp only [putAt, hg]
  rw [if_pos ⟨by omega, ho⟩, hs2, hs, ← hA, over_mid _ _ _ _ (by omega), l1, ← l2, List.drop_length, List.nil_append]⟩
theorem Cr.putS {h : Heap} {c : Cr} {p k : Nat} (hc : c.ok) (hg : h.get p = .cells c.cells 0) (hk : k < 16) (n : Int) : Put h p (32 + k * 167) [.int .i64 n] (h.set p (.cells ({ c with ws := c.ws.set k { c.ws.getD k zWit with st := n } } : Cr).cells 0)) := ⟨by
  obtain ⟨A, B, hA, hs, hs2⟩ := Cr.split hc hk
  have hl := Cr.length hc
  simp only [putAt, hg]
  rw [if_pos ⟨by simp only [List.length_cons, List.length_nil]; omega, rfl⟩, hs2, hs, ← hA, over_mid _ _ _ _ (by simp)]
  rfl⟩
theorem Cr.okS {c : Cr} (hc : c.ok) {k : Nat} {w : Wit} (hw : w.ok) : ({ c with ws := c.ws.set k w } : Cr).ok :=
  ⟨hc.hash, by rw [List.length_set]; exact hc.len, fun v hv => by
    rcases List.mem_or_eq_of_mem_set hv with h | h
    · exact hc.all v h
    · rw [h]; exact hw⟩
theorem wtc_at {l : List Wit} {k : Nat} (h : ∀ w ∈ l, w.ok) (hk : k < l.length) : ((wtc l).drop (k * 167)).take 167 = (l.getD k zWit).cells := by
  have e : k * 167 = (wtc (l.take k)).length := by rw [wtc_len (ok_take h), List.length_take, Nat.min_eq_left (by omega)]
  rw [wtc_split hk, e, List.drop_left, ← Wit.len (h _ (wit_mem hk)), List.take_left]
section
variable {P : Program} {T : Table} {ts ts' : List Value} {ds : List Deferred} {h h' : Heap} {rd : Option Nat} {op : AOp} {v : Value} {d : Nat} {chk : List (Option Nat × AOp × Option (Nat × Bool))} {pan : Bool} {rest : List AOper} {Q : QP} {F : Value → List Value}
theorem O.yieldT {l t : Nat} {b : Bool} {f : Operand} {args : List Operand} {vs : List Value} [g : LGet ts t (.bool b)] [e : Ev ts f (.func (.yield l) ⟨[]⟩ ⟨[]⟩)] [k : EvL ts args vs] [s : LSetF ts d F] {R : RP}
    (hr : Runs P T (.yield l) vs h R (fun _ _ => False)) (hk : ∀ v h', R v h' → RunO P T rest ⟨F v, ds, h', rd⟩ Q) :
    RunO P T (⟨some d, .callV f args, some (t, b), chk, pan⟩ :: rest) ⟨ts, ds, h, rd⟩ Q :=
  RunO.cons (by simp only [wantedT, g.eq]; cases b <;> rfl) (fun _ _ e => by cases e) (RunX.call (t := .yield l) (vs := vs) (by simp only [e.eq, k.eq, target]) (Runs.mono hr (fun v h' hv => by
    show RunO P T rest ⟨lset ts d v, ds, h', rd⟩ Q
    rw [s.eq]; exact hk v h' hv) fun _ _ hx => hx.elim))
theorem put_two {ts ts1 ts2 : List Value} {k j : Nat} {v w : Value} [s : LSet ts k v ts1] [t : LSet ts1 j w ts2] : putAll ts [k, j] [v, w] = ts2 := by
  show lset (lset ts k v) j w = _
  rw [s.eq, t.eq]
theorem XOp.mkWit {x i : Operand} {K : IntKind} {p : Int} {c : Cr} (k : Nat) (hc : c.ok) (hp : p = k) (hk : k < 16) [e : Ev ts x (.agg ⟨wtc c.ws⟩)] [f : Ev ts i (.int K p)] : XOp P ts h (.index 16 167 (some 167) x i) (.agg ⟨(c.ws.getD k zWit).cells⟩) h := ⟨rfl, by
  subst hp
  have hi : idx 16 (.int K (k : Int)) = some k := by rw [idx_in (by omega)]; simp
  simp only [xop, e.eq, f.eq, hi]
  rw [if_pos (by rw [wtc_len hc.all, hc.len]; omega), wtc_at hc.all (by rw [hc.len]; exact hk)]⟩
end
end Go.Proofs.YtlckmpioipiihaaGreat.A

namespace Go.Proofs.YtlckmpioipiihaaGreat.A
open Go.Proofs.YtlckmpioipiihaaGreat.K
open Go Go.Vm
set_option maxRecDepth 10000
set_option linter.unusedVariables false
structure WAt (h : Heap) (p : Nat) (w : Wit) : Prop where
  sv : Rd h 2 w.sv (tcells w.b.c.votes) w.b.c.votes.length
  sl : Rd h 5 w.sl (vcells w.b.vals) w.b.vals.length
  nv : ¬ blockOf w.sv p
  nl : ¬ blockOf w.sl p
  lv : w.b.c.votes.length ≤ 70
  ll : w.b.vals.length ≤ 70
structure CrAt (h : Heap) (p : Nat) (c : Cr) : Prop where
  ok : c.ok
  lt : p < h.n
  get : h.get p = .cells c.cells 0
  ws : ∀ w ∈ c.ws, WAt h p w
theorem WAt.keep {S : Nat → Prop} {h h' : Heap} {p : Nat} {w : Wit} (hw : WAt h p w) (hf : Fr S h h') (hs : ∀ i, i < h.n → i ≠ p → ¬ S i) : WAt h' p w :=
  ⟨hw.sv.keep hf fun i hi => hs i (Rd.block_lt hw.sv hi) fun e => hw.nv (by rw [← e]; exact hi), hw.sl.keep hf fun i hi => hs i (Rd.block_lt hw.sl hi) fun e => hw.nl (by rw [← e]; exact hi), hw.nv, hw.nl, hw.lv, hw.ll⟩
theorem CrAt.keep {S : Nat → Prop} {h h' : Heap} {p : Nat} {c : Cr} (hc : CrAt h p c) (hf : Fr S h h') (hs : ∀ i, i < h.n → ¬ S i) : CrAt h' p c :=
  ⟨hc.ok, hf.lt hc.lt, by rw [hf.get _ hc.lt (hs _ hc.lt)]; exact hc.get, fun w hw => (hc.ws w hw).keep hf fun i hi _ => hs i hi⟩
theorem off_ok {h : Heap} {p : Nat} {c : Cr} (hc : CrAt h p c) : Runs Tryz.prog T0 (.fn fn_zvQ) [.pointer (some ⟨p, 0, none⟩)] h (fun r h' => r = .bool false ∧ h' = h) (fun _ _ => False) := by
  haveI := Cr.made hc.ok hc.get
  refine zvQ_runs ?_
  refine stp ?_
  exact ⟨rfl, rfl⟩
theorem all_ok {h : Heap} {p : Nat} : Runs Tryz.prog T0 (.fn fn_zsQ) [.pointer (some ⟨p, 0, none⟩)] h (fun r h' => r = .func (.func fn_ztQ) ⟨[]⟩ ⟨[.pointer (some ⟨h.n, 0, none⟩)]⟩ ∧ h'.n = h.n + 1 ∧ h'.get h.n = .cells [.pointer (some ⟨p, 0, none⟩)] 0 ∧ Fr (fun _ => False) h h') (fun _ _ => False) := by
  refine zsQ_runs ?_
  refine stp ?_
  exact ⟨rfl, rfl, HGet.new.eq, Fr.refl.push⟩
theorem are_ok {h : Heap} {s : Int} : Runs Tryz.prog T0 (.fn fn_zxQ) [.int .i64 s] h (fun r h' => r = .func (.func fn_zyQ) ⟨[]⟩ ⟨[.pointer (some ⟨h.n, 0, none⟩)]⟩ ∧ h'.n = h.n + 1 ∧ h'.get h.n = .cells [.int .i64 s] 0 ∧ Fr (fun _ => False) h h') (fun _ _ => False) := by
  refine zxQ_runs ?_
  refine stp ?_
  exact ⟨rfl, rfl, HGet.new.eq, Fr.refl.push⟩
theorem are1_ok {h : Heap} {s : Int} {b : Nat} {w : Wit} (hw : w.ok) (hg : h.get b = .cells [.int .i64 s] 0) (hb : b < h.n) : Runs Tryz.prog T0 (.fn fn_zyQ) [.agg ⟨w.cells⟩, .pointer (some ⟨b, 0, none⟩)] h (fun r h' => r = .bool (decide (w.st = s)) ∧ Fr (fun _ => False) h h') (fun _ _ => False) := by
  haveI := l32 hw.hd.prev
  haveI := l32 hw.hd.vals
  haveI := l32 hw.hd.next
  haveI := l32 hw.hd.app
  haveI := l32 hw.hash
  haveI := hw.cv
  haveI := hw.cl
  haveI : HGet h b _ := ⟨hg⟩
  haveI : BLt b h := ⟨hb⟩
  refine zyQ_runs ?_
  refine stp ?_
  exact ⟨rfl, Fr.refl.push⟩
set_option maxHeartbeats 4000000 in
theorem all1_ok {h : Heap} {bx p y : Nat} {c : Cr} {I : Nat → Heap → Prop} {K : Heap → Prop} (hbx : h.get bx = .cells [.pointer (some ⟨p, 0, none⟩)] 0) (hb : bx < h.n) (hc : CrAt h p c)
    (hk : ∀ k hx hx', I k hx → Fr (fun _ => False) hx hx' → I k hx') (h0 : I 0 h)
    (hr : ∀ k hx, k < 16 → I k hx → (c.ws.getD k zWit).st ≠ 0 → Runs Tryz.prog T0 (.yield y) [.int .i64 k, .agg ⟨(c.ws.getD k zWit).cells⟩] hx (fun r h' => (r = .bool true ∧ I (k + 1) h') ∨ (r = .bool false ∧ K h')) (fun _ _ => False))
    (hs : ∀ k hx, k < 16 → I k hx → (c.ws.getD k zWit).st = 0 → I (k + 1) hx) :
    Runs Tryz.prog T0 (.fn fn_ztQ) [.func (.yield y) ⟨[]⟩ ⟨[]⟩, .pointer (some ⟨bx, 0, none⟩)] h (fun _ h' => I 16 h' ∨ K h') (fun _ _ => False) := by
  haveI : HGet h bx _ := ⟨hbx⟩
  haveI : BLt bx h := ⟨hb⟩
  haveI := Cr.arr hc.ok hc.get
  refine ztQ_runs ?_
  refine stp ?_
  refine O.call' (off_ok hc) (fun r h1 hr1 => ?_)
  obtain ⟨rfl, rfl⟩ := hr1
  refine stp ?_
  refine loop1 ztQ_l0_M 11 (fun m v11 h' => ∃ k : Nat, k ≤ 16 ∧ m = 16 - k ∧ v11 = .int .i64 k ∧ I k h') ?_ 16 ⟨0, by omega, rfl, rfl, h0⟩
  rintro m v11 h' x3 x4 x12 x13 x14 x15 x16 x17 x18 x19 x20 x21 x22 x23 x24 x25 ⟨k, hk16, rfl, rfl, hi⟩
  refine stp ?_
  refine C.if (fun hlt => ?_) (fun hge => ?_)
  · have hlt : k < 16 := by omega
    have hw := Cr.get hc.ok hlt
    have hr1 := hr k _ hlt (hk k _ (h'.push (.cells (c.ws.getD k zWit).cells 0)) hi Fr.refl.push)
    have hs1 := hs k _ hlt (hk k _ (h'.push (.cells (c.ws.getD k zWit).cells 0)) hi Fr.refl.push)
    refine stp ?_
    refine O.how (XOp.mkWit k hc.ok rfl hlt) ?_
    generalize c.ws.getD k zWit = w at *
    haveI := l32 hw.hd.prev
    haveI := l32 hw.hd.vals
    haveI := l32 hw.hd.next
    haveI := l32 hw.hd.app
    haveI := l32 hw.hash
    haveI := hw.cv
    haveI := hw.cl
    refine stp ?_
    refine O.decN (fun e1 => ?_) (fun e1 => ?_)
    · refine stp ?_
      refine O.yieldT (hr1 e1) (fun r h3 hr => ?_)
      rcases hr with ⟨rfl, hi3⟩ | ⟨rfl, hk3⟩
      · refine stp ?_
        exact loop1a 11 (16 - (k + 1)) (by omega) ⟨k + 1, by omega, rfl, rfl, hi3⟩
      · refine stp ?_
        exact .inr hk3
    · refine stp ?_
      exact loop1a 11 (16 - (k + 1)) (by omega) ⟨k + 1, by omega, rfl, rfl, hs1 e1⟩
  · obtain rfl : k = 16 := by omega
    refine stp ?_
    exact .inl hi
end Go.Proofs.YtlckmpioipiihaaGreat.A
