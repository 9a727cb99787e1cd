/- Contracts of functions, over the machine. -/
import Derived.Test.YtagmnpeilgnbdaaQSigsBack2
import Derived.Test.YtagmnpeilgnbdaaVK
import Derived.Test.YtagmnpeilgnbdaaVJ
set_option linter.unusedSimpArgs false
set_option linter.unusedSectionVars false
noncomputable section
namespace Go.Proofs.Ytagmnpeilgnbdaa.A
open Go Go.Vm
set_option maxRecDepth 10000
set_option linter.unusedVariables false
theorem gcells_take {L : List Sg} {k : Nat} (hk : k < L.length) : gcells (L.take k) ++ (at' L k).cells = gcells (L.take (k + 1)) := by
  have e : at' L k = L[k] := by simp only [at', List.getD_eq_getElem?_getD, List.getElem?_eq_getElem hk, Option.getD_some]
  rw [List.take_succ_eq_append_getElem hk, gcells_append, e, show gcells [L[k]] = L[k].cells from List.append_nil _]
theorem own_atG {h : Heap} {v : Value} {L : List Sg} (ho : Own h 37 v (gcells L) L.length) (hp : 0 < L.length) : ∃ (q s cap : Nat) (j : List Value), v = .slice (some ⟨q, 0, some s⟩) L.length cap ∧ q < h.n ∧ h.get q = .cells (gcells L ++ j) 37 := by
  generalize hc : gcells L = c at *
  generalize hn : L.length = n at *
  cases ho with
  | none => omega
  | lit => omega
  | grown hq h0 hle h1 h2 hg => exact ⟨_, _, _, _, rfl, hq, hg⟩
section
variable {h : Heap} {p m c : Nat} {l : List GEnt} {most : Int} {L : List Sg} {s : Sg}
set_option maxHeartbeats 4000000 in
theorem gList_ok (ha : TbAt h p m c l most L) :
    Runs Try.prog T0 (.fn fn_zrbQ) [.pointer (some ⟨p, 0, none⟩)] h
      (fun r h' => Own h' 37 r (gcells L) L.length ∧ (∀ i, ownedBy r i → h.n ≤ i) ∧ Fr (fun _ => False) h h') (fun _ _ => False) := by
  have hl := ha.len
  refine zrbQ_runs ?_
  refine stp ?_
  refine O.call' (gnone_ok ha) (fun r h0 hr => ?_)
  obtain ⟨rfl, rfl⟩ := hr
  refine stp ?_
  refine O.call' (gsorted_ok ha) (fun r h1 hr => ?_)
  obtain ⟨ho, hnew, f1⟩ := hr
  have n1 := f1.n
  obtain ⟨a, cc, rfl, _, _⟩ := id ho.rd
  refine stp ?_
  refine loop2 zrbQ_l0_M 2 10 (fun q v2 v10 hx => ∃ k : Nat, k ≤ L.length ∧ q = L.length - k ∧ v10 = .int .i64 k ∧ Own hx 37 v2 (gcells (L.take k)) k ∧ (∀ i, ownedBy v2 i → h1.n ≤ i) ∧ Fr (fun _ => False) h1 hx) ?_ L.length ⟨0, by omega, rfl, rfl, .none, fun i hi => hi.elim, Fr.refl⟩
  rintro m v2 v10 h' x4 x11 x12 x13 x14 x15 x16 x17 x18 ⟨k, hk, rfl, rfl, ho2, hn2, hF⟩
  have nF := hF.n
  obtain ⟨a2, c2, e2, _, _⟩ := id ho2.rd
  subst e2
  rcases Nat.lt_or_ge k L.length with hlt | hge
  · haveI q1 : ∀ {ts : List Value} {h : Heap} {O : Oper} {x z : Operand} [Ev ts x (.int .i64 (k : Nat))] [Ev ts z (.int .i64 (L.length : Nat))], XOp Try.prog ts h (.bin .lss O x z) (.bool true) h := xlss1 (by omega)
    obtain ⟨q, sx, cap, j, e, hq, hg⟩ := own_atG ho (by omega)
    cases e
    haveI : HGet h' q (.cells (gcells L ++ j) 37) := ⟨by rw [hF.get _ hq id]; exact hg⟩
    haveI : BLt q h' := ⟨hF.lt hq⟩
    haveI : IdxOff 0 (k : Int) 37 (k * 37) := ⟨by omega⟩
    haveI : Sub (gcells L ++ j) (k * 37) 37 (at' L k).cells := gsub hlt
    refine stp ?_
    refine O.append (ho2.keep Fr.refl.push.push (fun _ _ => id)) (one_sig (s := at' L k)) (by rw [Sg.len]) (Sg.ones _) (by decide) (by decide) (by omega) (fun v6 h6 o6 f6 n6 => ?_)
    rw [gcells_take hlt] at o6
    refine stp ?_
    refine loop2a 2 10 (L.length - (k + 1)) (by omega) ⟨k + 1, by omega, rfl, rfl, o6, fun i hi => ?_, hF.trans (Fr.trans' (S := ownedBy (.slice a2 k c2)) Fr.refl.push.push f6) fun i hi q => by have := hn2 i q; omega⟩
    rcases n6 i hi with q | q
    · exact hn2 i q
    · simp only [Heap.n_push] at q
      omega
  · obtain rfl : k = L.length := by omega
    haveI q1 : ∀ {ts : List Value} {h : Heap} {O : Oper} {x z : Operand} [Ev ts x (.int .i64 (L.length : Nat))] [Ev ts z (.int .i64 (L.length : Nat))], XOp Try.prog ts h (.bin .lss O x z) (.bool false) h := xlss0 (by omega)
    refine stp ?_
    rw [List.take_length] at ho2
    exact ⟨ho2, fun i hi => by have := hn2 i hi; omega, f1.trans' hF⟩
end
end Go.Proofs.Ytagmnpeilgnbdaa.A

namespace Go.Proofs.Ytagmnpeilgnbdaa.A
open Go Go.Vm
set_option maxRecDepth 10000
set_option linter.unusedVariables false
section
variable {P : Program} {T : Table} {ts : List Value} {ds : List Deferred} {h : Heap} {rd : Option Nat} {d : Nat} {chk : List (Option Nat × AOp × Option (Nat × Bool))} {pan : Bool} {rest : List AOper} {Q : QP} {F : Value → List Value}
end
instance l32H {s : Sg} : L32 (bcells s.hash) := ⟨by rw [bcells_len, s.hl]⟩
end Go.Proofs.Ytagmnpeilgnbdaa.A

namespace Go.Proofs.Ytagmnpeilgnbdaa.A
open Go Go.Vm
set_option maxRecDepth 10000
set_option linter.unusedVariables false
structure K4 where
  a : UInt8
  b : UInt8
  c : UInt8
  d : UInt8
abbrev K4.bs (k : K4) : List UInt8 := [k.a, k.b, k.c, k.d]
abbrev K4.cells (k : K4) : List Value := bcells k.bs
noncomputable instance : DecidableEq K4 := fun _ _ => Classical.propDecidable _
instance {k : K4} : LenN k.cells 4 := ⟨rfl⟩
instance {k : K4} : One k.cells := ⟨rfl⟩
instance l4k {k : K4} : L4 k.cells := ⟨rfl⟩
instance overK {k : K4} : Over [.int .u8 0, .int .u8 0, .int .u8 0, .int .u8 0] 0 k.cells k.cells := ⟨by show 0 + 4 ≤ 4; decide, rfl⟩
instance subK {k : K4} : Sub k.cells 0 4 k.cells := ⟨by show 0 + 4 ≤ 4; decide, rfl⟩
abbrev Sg.k4 (s : Sg) : K4 := ⟨s.k0, s.k1, s.k2, s.k3⟩
theorem K4.ext' {k m : K4} (h : k.bs = m.bs) : k = m := by
  obtain ⟨a, b, c, d⟩ := k
  obtain ⟨a', b', c', d'⟩ := m
  simp only [K4.bs, List.cons.injEq, and_true] at h
  obtain ⟨rfl, rfl, rfl, rfl⟩ := h
  rfl
end Go.Proofs.Ytagmnpeilgnbdaa.A

namespace Go.Proofs.Ytagmnpeilgnbdaa.A
open Go Go.Vm
set_option maxRecDepth 10000
set_option linter.unusedVariables false
section
variable {h : Heap} {p m c : Nat} {l : List GEnt} {most : Int} {L : List Sg} {s : Sg} {hs : List UInt8}
end
end Go.Proofs.Ytagmnpeilgnbdaa.A

namespace Go.Proofs.Ytagmnpeilgnbdaa.A
open Go Go.Vm
set_option maxRecDepth 10000
set_option linter.unusedVariables false
def numS (bs : List UInt8) (pl : Nat) : Except Int (Nat × Nat) :=
  if bs.length < pl + 1 then .error 6 else
  if 8 < (bs.getD pl 0).toNat then .error 5 else
  if bs.length < pl + 1 + (bs.getD pl 0).toNat then .error 6 else
  if (0 < (bs.getD pl 0).toNat ∧ (((bs.drop (pl + 1)).take (bs.getD pl 0).toNat).getD 0 0).toNat = 0) ∨ 9223372036854775807 < bigN ((bs.drop (pl + 1)).take (bs.getD pl 0).toNat) then .error 5
  else .ok (bigN ((bs.drop (pl + 1)).take (bs.getD pl 0).toNat), pl + 1 + (bs.getD pl 0).toNat)
end Go.Proofs.Ytagmnpeilgnbdaa.A

namespace Go.Proofs.Ytagmnpeilgnbdaa.A
open Go Go.Vm
set_option maxRecDepth 10000
set_option linter.unusedVariables false
theorem Clone_ok {h : Heap} {v : Value} {l : List UInt8} (hr : Rd h 1 v (bcells l) l.length) (hs : l.length < 1048576) :
    Runs Try.prog T0 (.fn fn_zzbQ) [v] h
      (fun r h' => Own h' 1 r (bcells l) l.length ∧ Fr (fun _ => False) h h' ∧ ∀ i, ownedBy r i → h.n ≤ i) (fun _ _ => False) := by
  have hnew := hr.new
  obtain ⟨a, cap, rfl, hlen, hc⟩ := hr
  refine zzbQ_runs ?_
  cases a with
  | none =>
    have hl : l = [] := by
      cases l with
      | nil => rfl
      | cons b l => obtain ⟨_, _, _, h1, _⟩ := hc (by simp); cases h1
    subst hl
    refine stp ?_
    exact ⟨.none, Fr.refl, fun i hi => hi.elim⟩
  | some a =>
    refine stp ?_
    have hz : Own (h.push (.cells [] 0)) 1 (.slice (some ⟨h.n, 0, none⟩) 0 0) [] 0 := .lit (by simp) (by rw [Heap.get_push, if_pos rfl])
    have hnew' := ((Rd.keep (S := fun _ => False) ⟨some a, cap, rfl, hlen, hc⟩ (Fr.refl.push (o := .cells [] 0)) fun _ _ => id).new (size := 1)) [.int .u8 0]
    refine O.append hz hnew' hlen (bcells_one l) (by omega) (by omega) (by omega) (fun v' h' h1 h2 h3 => ?_)
    refine stp ?_
    rw [Nat.zero_add, List.nil_append] at h1
    refine ⟨h1, (Fr.refl.push (o := .cells [] 0)).trans (S := fun _ => False) h2 (fun i hi ho => ?_), fun i hi => ?_⟩
    · have : h.n = i := ho
      omega
    · rcases h3 i hi with h4 | h4
      · have : h.n = i := h4
        omega
      · simp at h4; omega
end Go.Proofs.Ytagmnpeilgnbdaa.A

namespace Go.Proofs.Ytagmnpeilgnbdaa.A
open Go Go.Vm
set_option maxRecDepth 10000
set_option linter.unusedVariables false
theorem numS_err {bs : List UInt8} {pl : Nat} {e : Int} (h : numS bs pl = .error e) : e = 5 ∨ e = 6 := by
  unfold numS at h
  split at h
  · cases h; exact .inr rfl
  · split at h
    · cases h; exact .inl rfl
    · split at h
      · cases h; exact .inr rfl
      · split at h
        · cases h; exact .inl rfl
        · cases h
theorem numS_ok {bs : List UInt8} {pl n pl' : Nat} (h : numS bs pl = .ok (n, pl')) : n ≤ 9223372036854775807 ∧ pl' ≤ bs.length ∧ pl < pl' := by
  unfold numS at h
  split at h
  · cases h
  · split at h
    · cases h
    · split at h
      · cases h
      · split at h
        · cases h
        · cases h
          refine ⟨?_, by omega, by omega⟩
          omega
def partS (k : Nat) (bs : List UInt8) (pl : Nat) : Except Int (List UInt8 × Nat) :=
  if bs.length < pl + k then .error 6 else .ok ((bs.drop pl).take k, pl + k)
end Go.Proofs.Ytagmnpeilgnbdaa.A

namespace Go.Proofs.Ytagmnpeilgnbdaa.A
open Go Go.Vm
set_option maxRecDepth 10000
set_option linter.unusedVariables false
theorem l32 {l : List UInt8} (h : l.length = 32) : L32 (bcells l) := ⟨by simpa [bcells] using h⟩
end Go.Proofs.Ytagmnpeilgnbdaa.A

namespace Go.Proofs.Ytagmnpeilgnbdaa.A
open Go Go.Vm
set_option maxRecDepth 10000
set_option linter.unusedVariables false
def beN (n : Nat) : List UInt8 := if h : n = 0 then [] else beN (n / 256) ++ [UInt8.ofNat (n % 256)]
  termination_by n
  decreasing_by omega
theorem beN_zero : beN 0 = [] := by unfold beN; simp
theorem beN_pos {n : Nat} (h : n ≠ 0) : beN n = beN (n / 256) ++ [UInt8.ofNat (n % 256)] := by rw [beN]; rw [dif_neg h]
def numF (n : Nat) : List UInt8 := UInt8.ofNat (beN n).length :: beN n
theorem beN_len : ∀ (k n : Nat), n < 256 ^ k → (beN n).length ≤ k
  | 0, n, h => by
    obtain rfl : n = 0 := by simpa using h
    rw [beN_zero]; simp
  | k + 1, n, h => by
    by_cases h0 : n = 0
    · subst h0; rw [beN_zero]; simp
    · rw [beN_pos h0, List.length_append]
      have : n / 256 < 256 ^ k := Nat.div_lt_of_lt_mul (by rw [Nat.pow_succ] at h; omega)
      have := beN_len k _ this
      simp; omega
theorem u8nat {n : Nat} (h : n < 256) : (UInt8.ofNat n).toNat = n := by
  rw [UInt8.toNat_ofNat']
  exact Nat.mod_eq_of_lt h
theorem number_ok {h : Heap} {N : Nat} (hN : N ≤ 9223372036854775807) :
    Runs Try.prog T0 (.fn fn_zsdQ) [.int .i64 N] h (fun r h' => Rd h' 1 r (bcells (numF N)) (numF N).length ∧ (∀ i, blockOf r i → h.n ≤ i) ∧ Fr (fun _ => False) h h') (fun _ _ => False) := by
  refine zsdQ_runs ?_
  refine stp ?_
  refine loop2 zsdQ_l0_M 0 4 (fun m v0 v4 h' => ∃ (n k : Nat) (c : List Value) (ds : List UInt8), n = m ∧ v0 = .int .i64 n ∧ v4 = .int .i64 k ∧ k ≤ 8 ∧ n < 256 ^ (8 - k) ∧ n ≤ N ∧ h' = h.push (.cells c 0) ∧ c.length = 9 ∧ ds.length = k ∧ c.drop (9 - k) = bcells ds ∧ beN N = beN n ++ ds) ?_ N
    ⟨N, 0, _, [], rfl, rfl, rfl, by omega, by simp; omega, Nat.le_refl _, rfl, rfl, rfl, rfl, by simp⟩
  rintro m v0 v4 h' x5 x6 x7 x8 x9 x10 x11 x12 x13 x14 x15 ⟨n, k, c, ds, hnm, rfl, rfl, hk, hn, hnN, rfl, hc, hds, hd, hbe⟩
  subst hnm
  refine stp ?_
  refine C.if (fun hpos => ?_) (fun hz => ?_)
  · have hk8 : k < 8 := by
      rcases Nat.lt_or_ge k 8 with h | h
      · exact h
      · obtain rfl : k = 8 := by omega
        simp at hn; omega
    have h256 : n % 256 < 256 := Nat.mod_lt _ (by omega)
    have hw : (IntKind.wrap .u8 (n : Int)) = (((UInt8.ofNat (n % 256)).toNat : Nat) : Int) := by
      rw [wrap_u8, u8nat h256]
      omega
    refine stp ?_
    have h8 : ((8 : Int) - (k : Int)).toNat = 8 - k := by omega
    rw [hw, h8]
    simp only [Nat.zero_add, Nat.mul_one]
    refine O.by0 (XOp.mkStore1 (P := Try.prog) (h := h.push (.cells c 0)) (c := c) (r := h.n) (o := 8 - k) (v := .int .u8 (UInt8.ofNat (n % 256)).toNat) (sp := none) (by omega)).eq rfl ?_
    refine stp ?_
    refine O.how XOp.shr8 ?_
    refine stp ?_
    have hdiv : ((n : Int) / 256) = ((n / 256 : Nat) : Int) := by omega
    rw [hdiv, Heap.push_set]
    refine loop2a 0 4 (n / 256) (by omega) ⟨n / 256, k + 1, lset c (8 - k) (.int .u8 (UInt8.ofNat (n % 256)).toNat), UInt8.ofNat (n % 256) :: ds, rfl, rfl, by simp, by omega, ?_, by omega, rfl, by rw [lset_len]; exact hc, by simp [hds], ?_, ?_⟩
    · have : 256 ^ (8 - k) = 256 ^ (8 - (k + 1)) * 256 := by rw [← Nat.pow_succ]; congr 1; omega
      exact Nat.div_lt_of_lt_mul (by omega)
    · rw [show 9 - (k + 1) = 8 - k from by omega, lset_drop _ _ _ (by omega), show 8 - k + 1 = 9 - k from by omega, hd]
      rfl
    · rw [hbe, beN_pos (by omega)]
      simp
  · have hn0 : n = 0 := by omega
    subst hn0
    rw [beN_zero, List.nil_append] at hbe
    have hw : (k : Int) = (((UInt8.ofNat k).toNat : Nat) : Int) := by
      rw [u8nat (by omega)]
    refine stp ?_
    have h8 : ((8 : Int) - (k : Int)).toNat = 8 - k := by omega
    rw [h8]
    simp only [Nat.zero_add, Nat.mul_one]
    refine O.by0 (XOp.mkStore1 (P := Try.prog) (h := h.push (.cells c 0)) (c := c) (r := h.n) (o := 8 - k) (v := .int .u8 k) (sp := none) (by omega)).eq rfl ?_
    refine stp ?_
    rw [Heap.push_set]
    refine O.how (XOp.mkSliceArrLo (8 - k) (by omega) (by omega)) ?_
    refine stp ?_
    rw [show 9 - (8 - k) = k + 1 from by omega, Nat.zero_add, Nat.mul_one]
    have hlen : (numF N).length = k + 1 := by simp [numF, hbe, hds]
    refine ⟨?_, fun i hi => by rw [← hi.1]; exact Nat.le_refl _, Fr.refl.push⟩
    rw [hlen]
    refine Rd.mk (by simp) ?_
    rw [cellsAt_of (c := lset c (8 - k) (.int .u8 k)) (by rw [Heap.get_push, if_pos rfl]; rfl) (by rw [lset_len]; omega), lset_drop _ _ _ (by omega), show 8 - k + 1 = 9 - k from by omega, hd]
    congr 1
    rw [List.take_of_length_le (by simp [bcells, hds])]
    unfold numF
    rw [hbe, hds]
    show _ :: _ = Value.int .u8 ((UInt8.ofNat k).toNat : Nat) :: _
    rw [u8nat (by omega)]
    rfl
end Go.Proofs.Ytagmnpeilgnbdaa.A

namespace Go.Proofs.Ytagmnpeilgnbdaa.A
open Go Go.Vm
set_option maxRecDepth 10000
set_option linter.unusedVariables false
theorem repeatL_len (n : Nat) : (repeatL [.int .u8 0] n).length = n := by
  induction n with
  | zero => rfl
  | succ n ih => simp [repeatL, ih]
theorem Grow_ok {h : Heap} {n : Nat} (hn : n < 1048576) :
    Runs Try.prog T0 (.fn fn_zccQ) [.slice none 0 0, .int .i64 n] h (fun r h' => Own h' 1 r [] 0 ∧ (∀ i, ownedBy r i → h.n ≤ i) ∧ Fr (fun _ => False) h h') (fun _ _ => False) := by
  refine zccQ_runs ?_
  refine stp ?_
  refine C.if (fun hpos => ?_) (fun hz => ?_)
  · rw [show ((n : Int) - (((0 : Nat) : Int) - ((0 : Nat) : Int))) = (n : Int) from by omega]
    refine stp ?_
    refine O.by (v := .slice none 0 0) (h' := h) (by rfl) rfl ?_
    refine stp ?_
    have hx : appendOf 1 1 [.int .u8 0] true (.slice none 0 0) (.int .i64 (n : Int)) h = .ok (.slice (some ⟨h.n, 0, some 0⟩) n n) (h.push (.cells (repeatL [.int .u8 0] n) 1)) := by
      unfold appendOf newCells
      rw [if_neg (by omega)]
      simp only [Bool.true_and, show (decide ((0 : Int) ≤ (n : Int))) = true from by simp, if_true, Int.toNat_natCast, Nat.zero_add]
      rw [if_neg (by omega), if_neg (by omega), if_neg (by omega)]
    refine O.by hx rfl ?_
    refine stp ?_
    refine O.by (v := .slice (some ⟨h.n, 0, some 0⟩) 0 n) (h' := h.push (.cells (repeatL [.int .u8 0] n) 1)) ?_ rfl ?_
    · show sliceOf _ 1 (.slice (some ⟨h.n, 0, some 0⟩) n n) none (some _) none _ = _
      simp only [sliceOf, bnd, eval, lget]
      rw [show idx (n + 1) (.int .i64 ((0 : Nat) : Int)) = some 0 from idx_in (by omega)]
      simp
    refine stp ?_
    refine ⟨.grown (c := []) (j := repeatL [.int .u8 0] n) (by simp) (by omega) (by omega) rfl (by simp [repeatL_len]) (by rw [Heap.get_push, if_pos rfl]; rfl), fun i hi => by rw [← hi]; exact Nat.le_refl _, Fr.refl.push⟩
  · refine stp ?_
    exact ⟨.none, fun i hi => hi.elim, Fr.refl⟩
def Parts (h : Heap) (ls : List (Value × List UInt8)) : Prop := ∀ p ∈ ls, Rd h 1 p.1 (bcells p.2) p.2.length
theorem Parts.keep {h h' : Heap} {ls : List (Value × List UInt8)} (hp : Parts h ls) (hf : Fr (fun _ => False) h h') : Parts h' ls := fun p hm => (hp p hm).keep hf fun _ _ => id
def flat (ls : List (Value × List UInt8)) : List UInt8 := ls.flatMap (·.2)
theorem flat_take {ls : List (Value × List UInt8)} {k : Nat} (hk : k < ls.length) : flat (ls.take (k + 1)) = flat (ls.take k) ++ ls[k].2 := by
  unfold flat
  rw [List.take_succ_eq_append_getElem hk]
  simp only [List.flatMap_append, List.flatMap_cons, List.flatMap_nil, List.append_nil]
theorem flat_le {ls : List (Value × List UInt8)} (k : Nat) : (flat (ls.take k)).length ≤ (flat ls).length := by
  conv => rhs; rw [← List.take_append_drop k ls]
  unfold flat
  rw [List.flatMap_append]
  simp
theorem lget_map {ls : List (Value × List UInt8)} {k : Nat} (hk : k < ls.length) : lget (ls.map (·.1)) k = ls[k].1 := by
  induction ls generalizing k with
  | nil => simp at hk
  | cons a l ih =>
    cases k with
    | zero => rfl
    | succ k => exact ih (by simpa using hk)
theorem Concat_ok {h : Heap} {v : Value} {ls : List (Value × List UInt8)} (hv : Rd h 1 v (ls.map (·.1)) ls.length) (hp : Parts h ls) (hn : ls.length < 1048576) (hs : (flat ls).length < 1048576) :
    Runs Try.prog T0 (.fn fn_zbcQ) [v] h (fun r h' => Own h' 1 r (bcells (flat ls)) (flat ls).length ∧ (∀ i, ownedBy r i → h.n ≤ i) ∧ Fr (fun _ => False) h h') (fun _ _ => False) := by
  have hv' := hv
  obtain ⟨a, cap, rfl, hlen, hc⟩ := hv
  refine zbcQ_runs ?_
  refine stp ?_
  refine loop2 zbcQ_l0_M 3 11 (fun m v3 v11 h' => ∃ k : Nat, k ≤ ls.length ∧ m = ls.length - k ∧ v3 = .int .i64 (flat (ls.take k)).length ∧ v11 = .int .i64 k ∧ h = h') ?_ ls.length ⟨0, by omega, rfl, rfl, rfl, rfl⟩
  rintro m v3 v11 h' x5 x12 x13 x14 x15 x16 x17 x18 x19 x20 x21 x22 ⟨k, hk, rfl, rfl, rfl, rfl⟩
  refine stp ?_
  refine C.if (fun hlt => ?_) (fun hge => ?_)
  · have hk' : k < ls.length := by omega
    obtain ⟨b, o, sp, rfl, hb, hcc⟩ := hc (by omega)
    rw [Nat.mul_one] at hcc
    haveI := cell_at (k := k) hcc hk'
    rw [lget_map hk'] at this
    haveI := this
    obtain ⟨a1, cap1, hv1, _, _⟩ := hp ls[k] (List.getElem_mem _)
    have hfl := flat_le (ls := ls) (k + 1)
    rw [flat_take hk', List.length_append] at hfl
    refine stp ?_
    rw [hv1]
    refine stp ?_
    refine loop2a 3 11 (ls.length - (k + 1)) (by omega) ⟨k + 1, by omega, rfl, ?_, rfl, rfl⟩
    rw [flat_take hk', List.length_append]
    rfl
  · obtain rfl : k = ls.length := by omega
    rw [List.take_length]
    refine stp ?_
    refine O.call' (Grow_ok hs) (fun r h1 hr => ?_)
    obtain ⟨ho, hnew, hf⟩ := hr
    refine stp ?_
    refine loop2 zbcQ_l1_M 6 27 (fun m v6 v27 h' => ∃ k : Nat, k ≤ ls.length ∧ m = ls.length - k ∧ v27 = .int .i64 k ∧ Own h' 1 v6 (bcells (flat (ls.take k))) (flat (ls.take k)).length ∧ (∀ i, ownedBy v6 i → h'.n ≤ i ∨ h.n ≤ i) ∧ Fr (fun _ => False) h h') ?_ ls.length ⟨0, by omega, rfl, rfl, ho, fun i hi => .inr (hnew i hi), hf⟩
    clear ho hnew hf
    rintro m v6 v27 h' x8 x28 x29 x30 x31 x32 x33 x34 ⟨k, hk, rfl, rfl, ho, hnew, hf⟩
    refine stp ?_
    refine C.if (fun hlt => ?_) (fun hge => ?_)
    · have hk' : k < ls.length := by omega
      obtain ⟨b, o, sp, rfl, hb, hcc⟩ := hc (by omega)
      rw [Nat.mul_one, ← cellsAt_keep hf hb id] at hcc
      haveI := cell_at (k := k) hcc hk'
      rw [lget_map hk'] at this
      haveI := this
      have hpk := (hp ls[k] (List.getElem_mem _)).keep hf fun _ _ => id
      have hfl := flat_le (ls := ls) (k + 1)
      rw [flat_take hk', List.length_append] at hfl
      refine stp ?_
      refine O.append ho (hpk.new [.int .u8 0]) (by rw [bcells_len]; omega) (bcells_one _) (by omega) (by omega) (by omega) (fun v' h2 h3 h4 h5 => ?_)
      refine stp ?_
      refine loop2a 6 27 (ls.length - (k + 1)) (by omega) ⟨k + 1, by omega, rfl, rfl, ?_, fun i hi => ?_, ?_⟩
      · rw [flat_take hk', List.length_append, bcells_append]
        exact h3
      · rcases h5 i hi with h6 | h6
        · rcases hnew i h6 with h7 | h7
          · exact .inr (Nat.le_trans hf.n h7)
          · exact .inr h7
        · exact .inr (Nat.le_trans hf.n h6)
      · refine Fr.trans (S := fun _ => False) hf h4 fun i hi ho' => ?_
        rcases hnew i ho' with h7 | h7
        · have := hf.n; omega
        · omega
    · obtain rfl : k = ls.length := by omega
      rw [List.take_length] at ho
      refine stp ?_
      exact ⟨ho, fun i hi => (hnew i hi).elim (Nat.le_trans hf.n) id, hf⟩
end Go.Proofs.Ytagmnpeilgnbdaa.A

namespace Go.Proofs.Ytagmnpeilgnbdaa.A
open Go Go.Vm
set_option maxRecDepth 10000
set_option linter.unusedVariables false
structure PW (h : Heap) (lo p : Nat) (sv : Value) (bs : List UInt8) (lim : Nat) (e : Int) : Prop where
  lt : p < h.n
  le : lo ≤ p
  get : h.get p = .cells [.int .i64 lim, sv, .int .i64 e, .bool true] 0
  own : Own h 1 sv (bcells bs) bs.length
  apart : ¬ ownedBy sv p
  above : ∀ i, ownedBy sv i → lo ≤ i
  small : bs.length < 1048576
structure WSt where
  bs : List UInt8
  e : Int
structure PWs (h : Heap) (lo p lim : Nat) (st : WSt) : Prop where
  ex : ∃ sv, PW h lo p sv st.bs lim st.e
def putS (lim : Nat) (may : Bool) (part : List UInt8) (st : WSt) : WSt :=
  if st.e ≠ 0 then st else if may = false then ⟨st.bs, 3⟩ else if lim < st.bs.length + part.length then ⟨st.bs, 4⟩ else ⟨st.bs ++ part, 0⟩
theorem PW.keep {S : Nat → Prop} {h h' : Heap} {lo p : Nat} {sv : Value} {bs : List UInt8} {lim : Nat} {e : Int} (hp : PW h lo p sv bs lim e) (hf : Fr S h h') (hs : ¬ S p) (hb : ∀ i, ownedBy sv i → ¬ S i) : PW h' lo p sv bs lim e :=
  ⟨hf.lt hp.lt, hp.le, by rw [hf.get p hp.lt hs, hp.get], hp.own.keep hf hb, hp.apart, hp.above, hp.small⟩
theorem PWs.keep {S : Nat → Prop} {h h' : Heap} {lo p lim : Nat} {st : WSt} (hp : PWs h lo p lim st) (hf : Fr S h h') (hs : ∀ i, S i → i < lo) : PWs h' lo p lim st :=
  let ⟨sv, hw⟩ := hp.ex
  ⟨sv, hw.keep hf (fun h => by have := hs _ h; have := hw.le; omega) fun i hi h => by have := hs _ h; have := hw.above i hi; omega⟩
theorem PWs.none {h h' : Heap} {lo p lim : Nat} {st : WSt} (hp : PWs h lo p lim st) (hf : Fr (fun _ => False) h h') : PWs h' lo p lim st := hp.keep hf fun _ h => h.elim
theorem PWs.lo_le {h : Heap} {lo p lim : Nat} {st : WSt} (hp : PWs h lo p lim st) : lo ≤ h.n := let ⟨_, hw⟩ := hp.ex; Nat.le_of_lt (Nat.lt_of_le_of_lt hw.le hw.lt)
end Go.Proofs.Ytagmnpeilgnbdaa.A

namespace Go.Proofs.Ytagmnpeilgnbdaa.A
open Go Go.Vm
set_option maxRecDepth 10000
set_option linter.unusedVariables false
theorem numF_len {n : Nat} (h : n ≤ 9223372036854775807) : (numF n).length ≤ 9 := by
  have := beN_len 8 n (by omega)
  simp [numF]; omega
theorem rd_lit {h : Heap} {c : List Value} {n es : Nat} (hc : c.length = n) : Rd (h.push (.cells c es)) 1 (.slice (some ⟨h.n, 0, none⟩) n n) c n := by
  refine Rd.mk (by simp) ?_
  rw [cellsAt_of (c := c) (by rw [Heap.get_push, if_pos rfl]; rfl) (by omega), List.drop_zero, List.take_of_length_le (by omega)]
theorem NewWriter_ok {h : Heap} {lim : Nat} (hl : lim ≤ 1048576) :
    Runs Try.prog T0 (.fn fn_zvcQ) [.int .i64 lim] h (fun r h' => r = .tuple ⟨[.pointer (some ⟨h.n, 0, none⟩), .int .i64 0]⟩ ∧ PWs h' h.n h.n lim ⟨[], 0⟩ ∧ Fr (fun _ => False) h h') (fun _ _ => False) := by
  refine zvcQ_runs ?_
  refine stp ?_
  refine C.if (fun h1 => by omega) (fun _ => ?_)
  refine stp ?_
  refine ⟨rfl, ⟨.slice none 0 0, by simp, Nat.le_refl _, by rw [Heap.get_push, if_pos rfl], .none, fun h => h, fun i h => h.elim, by simp⟩, Fr.refl.push⟩
theorem Done_ok {h : Heap} {lo p lim : Nat} {st : WSt} (hw : PWs h lo p lim st) :
    Runs Try.prog T0 (.fn fn_zkdQ) [.pointer (some ⟨p, 0, none⟩)] h
      (fun r h' => ∃ v, r = .tuple ⟨[v, .int .i64 st.e]⟩ ∧ Own h' 1 v (bcells (if st.e = 0 then st.bs else [])) (if st.e = 0 then st.bs else []).length ∧ (∀ i, ownedBy v i → h.n ≤ i) ∧ Fr (fun _ => False) h h') (fun _ _ => False) := by
  obtain ⟨bs, e⟩ := st
  obtain ⟨sv, hw⟩ := hw.ex
  have hw : PW h lo p sv bs lim e := hw
  obtain ⟨a0, cap0, rfl, hl0, _⟩ := hw.own.rd
  haveI : HGet h p _ := ⟨hw.get⟩
  refine zkdQ_runs ?_
  refine stp ?_
  refine C.ifN (fun he => ?_) (fun he => ?_)
  · refine stp ?_
    rw [if_neg he]
    exact ⟨_, rfl, .none, fun i h => h.elim, Fr.refl⟩
  · subst he
    refine stp ?_
    refine O.call' (Clone_ok hw.own.rd hw.small) (fun r h1 hr => ?_)
    refine stp ?_
    exact ⟨_, rfl, hr.1, hr.2.2, hr.2.1⟩
end Go.Proofs.Ytagmnpeilgnbdaa.A

namespace Go.Proofs.Ytagmnpeilgnbdaa.A
open Go Go.Vm
set_option maxRecDepth 10000
set_option linter.unusedVariables false
inductive OwnL (h : Heap) (size : Nat) : Value → List Value → Nat → Prop
  | own {v : Value} {c : List Value} {n : Nat} : Own h size v c n → OwnL h size v c n
  | lit {q es n : Nat} {c : List Value} : q < h.n → h.get q = .cells c es → c.length = n * size → OwnL h size (.slice (some ⟨q, 0, none⟩) n n) c n
theorem OwnL.rd {h : Heap} {size : Nat} {v : Value} {c : List Value} {n : Nat} (ho : OwnL h size v c n) : Rd h size v c n := by
  cases ho with
  | own ho => exact ho.rd
  | lit hq hg hl => exact Rd.mk hq (by rw [cellsAt_of (by rw [hg]; rfl) (by omega), List.drop_zero, List.take_of_length_le (by omega)])
theorem OwnL.keep {S : Nat → Prop} {h h' : Heap} {size : Nat} {v : Value} {c : List Value} {n : Nat} (ho : OwnL h size v c n) (hf : Fr S h h') (hs : ∀ b, ownedBy v b → ¬ S b) : OwnL h' size v c n := by
  cases ho with
  | own ho => exact .own (ho.keep hf hs)
  | lit hq hg hl => exact .lit (hf.lt hq) (by rw [hf.get _ hq (hs _ rfl), hg]) hl
section
variable {P : Program} {T : Table} {ts : List Value} {ds : List Deferred} {h : Heap} {rd : Option Nat} {v w : Value} {dst size bytes n m el q : Nat} {zero c d : List Value} {zeros : Bool} {x y : Operand} {chk : List (Option Nat × AOp × Option (Nat × Bool))} {pan : Bool} {rest : List AOper} {Q : QP} {F : Value → List Value}
end
end Go.Proofs.Ytagmnpeilgnbdaa.A

namespace Go.Proofs.Ytagmnpeilgnbdaa.A
open Go Go.Vm
set_option maxRecDepth 10000
set_option linter.unusedVariables false
structure DW (h : Heap) (lo p : Nat) (sv : Value) (bs : List UInt8) (lim : Nat) (e : Int) : Prop where
  lt : p < h.n
  le : lo ≤ p
  get : h.get p = .cells [.int .i64 lim, sv, .int .i64 e] 0
  own : Own h 1 sv (bcells bs) bs.length
  apart : ¬ ownedBy sv p
  above : ∀ i, ownedBy sv i → lo ≤ i
  small : bs.length < 1048577
structure DWs (h : Heap) (lo p lim : Nat) (st : WSt) : Prop where
  ex : ∃ sv, DW h lo p sv st.bs lim st.e
theorem DW.keep {S : Nat → Prop} {h h' : Heap} {lo p : Nat} {sv : Value} {bs : List UInt8} {lim : Nat} {e : Int} (hp : DW h lo p sv bs lim e) (hf : Fr S h h') (hs : ¬ S p) (hb : ∀ i, ownedBy sv i → ¬ S i) : DW h' lo p sv bs lim e :=
  ⟨hf.lt hp.lt, hp.le, by rw [hf.get p hp.lt hs, hp.get], hp.own.keep hf hb, hp.apart, hp.above, hp.small⟩
theorem DWs.keep {S : Nat → Prop} {h h' : Heap} {lo p lim : Nat} {st : WSt} (hp : DWs h lo p lim st) (hf : Fr S h h') (hs : ∀ i, S i → i < lo) : DWs h' lo p lim st :=
  let ⟨sv, hw⟩ := hp.ex
  ⟨sv, hw.keep hf (fun h => by have := hs _ h; have := hw.le; omega) fun i hi h => by have := hs _ h; have := hw.above i hi; omega⟩
theorem DWs.none {h h' : Heap} {lo p lim : Nat} {st : WSt} (hp : DWs h lo p lim st) (hf : Fr (fun _ => False) h h') : DWs h' lo p lim st := hp.keep hf fun _ h => h.elim
theorem DWs.lo_le {h : Heap} {lo p lim : Nat} {st : WSt} (hp : DWs h lo p lim st) : lo ≤ h.n := let ⟨_, hw⟩ := hp.ex; Nat.le_of_lt (Nat.lt_of_le_of_lt hw.le hw.lt)
end Go.Proofs.Ytagmnpeilgnbdaa.A

namespace Go.Proofs.Ytagmnpeilgnbdaa.A
open Go Go.Vm
set_option maxRecDepth 10000
set_option linter.unusedVariables false
structure PVs (h : Heap) (S : Nat → Prop) (p lim : Nat) (st : WSt) : Prop where
  ex : ∃ sv, PW h 0 p sv st.bs lim st.e ∧ S p ∧ ∀ i, ownedBy sv i → S i
theorem PVs.mk' {h : Heap} {S : Nat → Prop} {p lim : Nat} {bs : List UInt8} {e : Int} {sv : Value} (hp : S p) (ho : ∀ i, ownedBy sv i → S i) (hw : PW h 0 p sv bs lim e) : PVs h S p lim ⟨bs, e⟩ := ⟨sv, hw, hp, ho⟩
def WritesV (h : Heap) (S : Nat → Prop) (p lim : Nat) (st : WSt) (r : Value) (h' : Heap) : Prop := r = .int .i64 st.e ∧ PVs h' S p lim st ∧ Fr S h h'
theorem PVs.keep {S S' : Nat → Prop} {h h' : Heap} {p lim : Nat} {st : WSt} (hw : PVs h S p lim st) (hf : Fr S' h h') (hs : ∀ i, S' i → ¬ S i) : PVs h' S p lim st :=
  let ⟨sv, h1, h2, h3⟩ := hw.ex
  ⟨sv, h1.keep hf (fun h => hs _ h h2) fun i hi h => hs _ h (h3 i hi), h2, h3⟩
theorem PVs.none {S : Nat → Prop} {h h' : Heap} {p lim : Nat} {st : WSt} (hw : PVs h S p lim st) (hf : Fr (fun _ => False) h h') : PVs h' S p lim st := hw.keep hf fun _ h => h.elim
theorem PVs.mono {S S' : Nat → Prop} {h : Heap} {p lim : Nat} {st : WSt} (hw : PVs h S p lim st) (hs : ∀ i, i < h.n → S i → S' i) : PVs h S' p lim st :=
  let ⟨sv, h1, h2, h3⟩ := hw.ex
  ⟨sv, h1, hs _ h1.lt h2, fun i hi => hs i (h1.own.lt hi) (h3 i hi)⟩
theorem PVs.of {h : Heap} {lo p lim : Nat} {st : WSt} (hw : PWs h lo p lim st) : PVs h (fun i => lo ≤ i) p lim st :=
  let ⟨sv, h1⟩ := hw.ex
  ⟨sv, ⟨h1.lt, Nat.zero_le _, h1.get, h1.own, h1.apart, fun _ _ => Nat.zero_le _, h1.small⟩, h1.le, h1.above⟩
theorem PVs.to {h : Heap} {lo p lim : Nat} {st : WSt} (hw : PVs h (fun i => lo ≤ i) p lim st) : PWs h lo p lim st :=
  let ⟨sv, h1, h2, h3⟩ := hw.ex
  ⟨sv, ⟨h1.lt, h2, h1.get, h1.own, h1.apart, h3, h1.small⟩⟩
theorem PVs.lt {h : Heap} {S : Nat → Prop} {p lim : Nat} {st : WSt} (hw : PVs h S p lim st) : p < h.n := let ⟨_, h1, _⟩ := hw.ex; h1.lt
theorem put_okV {h : Heap} {S : Nat → Prop} {p lim : Nat} {st : WSt} {may : Bool} {v : Value} {ls : List (Value × List UInt8)} (hw : PVs h S p lim st) (hS : ∀ i, h.n ≤ i → S i) (hv : Rd h 1 v (ls.map (·.1)) ls.length) (hp : Parts h ls) (hn : ls.length < 1048576) (hs : st.bs.length + (flat ls).length < 1048576) :
    Runs Try.prog T0 (.fn fn_zpdQ) [.pointer (some ⟨p, 0, none⟩), .bool may, v] h (WritesV h S p lim (putS lim may (flat ls) st)) (fun _ _ => False) := by
  obtain ⟨bs, e⟩ := st
  obtain ⟨sv, hw, hSp, hSo⟩ := hw.ex
  have hs : bs.length + (flat ls).length < 1048576 := hs
  have hw : PW h 0 p sv bs lim e := hw
  have hlt := hw.lt
  obtain ⟨a0, cap0, rfl, hl0, _⟩ := hw.own.rd
  haveI : HGet h p _ := ⟨hw.get⟩
  refine zpdQ_runs ?_
  refine stp ?_
  refine O.call' (Concat_ok hv hp hn (by omega)) (fun r h1 hr => ?_)
  obtain ⟨ho, hnew, hf⟩ := hr
  obtain ⟨a1, cap1, rfl, hl1, _⟩ := ho.rd
  have hw1 := hw.keep hf id fun _ _ => id
  haveI : HGet h1 p _ := ⟨hw1.get⟩
  have hfl : Fr S h h1 := hf.mono fun _ _ h => h.elim
  refine stp ?_
  refine C.ifN (fun he => ?_) (fun he => ?_)
  · refine stp ?_
    unfold putS
    rw [if_pos (by simpa using he)]
    exact ⟨rfl, ⟨_, hw1, hSp, hSo⟩, hfl⟩
  · subst he
    refine stp ?_
    cases may with
    | false =>
      refine stp ?_
      unfold putS
      rw [if_neg (by simp), if_pos rfl]
      refine ⟨rfl, .mk' hSp hSo ⟨by simpa using hw1.lt, Nat.zero_le _, by rw [Heap.get_set, if_pos rfl], hw1.own.keep (S := fun i => i = p) (Fr.refl.set fun _ => rfl) fun i hi hp => hw1.apart (hp ▸ hi), hw1.apart, fun _ _ => Nat.zero_le _, hw1.small⟩, hfl.set fun _ => hSp⟩
    | true =>
      refine stp ?_
      refine C.if (fun hlong => ?_) (fun hfit => ?_)
      · refine stp ?_
        unfold putS
        rw [if_neg (by simp), if_neg (by simp), if_pos (by simp only; omega)]
        refine ⟨rfl, .mk' hSp hSo ⟨by simpa using hw1.lt, Nat.zero_le _, by rw [Heap.get_set, if_pos rfl], hw1.own.keep (S := fun i => i = p) (Fr.refl.set fun _ => rfl) fun i hi hp => hw1.apart (hp ▸ hi), hw1.apart, fun _ _ => Nat.zero_le _, hw1.small⟩, hfl.set fun _ => hSp⟩
      · refine stp ?_
        refine O.append hw1.own (ho.rd.new [.int .u8 0]) (by rw [bcells_len]; omega) (bcells_one _) (by omega) (by omega) (by omega) (fun v' h2 h3 h4 h5 => ?_)
        obtain ⟨a2, cap2, rfl, hl2, _⟩ := h3.rd
        have hp2 : HGet h2 p _ := h4.keep ⟨hw1.get⟩ hw1.lt hw1.apart
        refine stp ?_
        have hnp : ¬ ownedBy (.slice a2 (bs.length + (flat ls).length) cap2) p := fun hi => by
          rcases h5 p hi with h6 | h6
          · exact hw1.apart h6
          · have := hw1.lt; omega
        unfold putS
        rw [if_neg (by simp), if_neg (by simp), if_neg (by simp only; omega)]
        refine ⟨rfl, .mk' (sv := .slice a2 (bs.length + (flat ls).length) cap2) hSp (fun i hi => ?_) ⟨by have := h4.lt hw1.lt; simpa using this, Nat.zero_le _, by rw [Heap.get_set, if_pos rfl], ?_, hnp, fun _ _ => Nat.zero_le _, by simp; omega⟩, Fr.set (Fr.trans (S := S) hfl h4 fun i hi ho' => hSo i ho') fun _ => hSp⟩
        · rcases h5 i hi with h6 | h6
          · exact hSo i h6
          · have := hf.n; exact hS i (by omega)
        · show Own _ 1 (.slice a2 (bs.length + (flat ls).length) cap2) (bcells (bs ++ flat ls)) (bs ++ flat ls).length
          rw [bcells_append, List.length_append]
          exact h3.keep (S := fun i => i = p) (Fr.refl.set fun _ => rfl) fun i hi hp => hnp (hp ▸ hi)
theorem WNum_okV {h : Heap} {S : Nat → Prop} {p lim : Nat} {st : WSt} {n : Int} (hw : PVs h S p lim st) (hS : ∀ i, h.n ≤ i → S i) (hn : n ≤ 9223372036854775807) (hs : st.bs.length + 9 < 1048576) :
    Runs Try.prog T0 (.fn fn_zndQ) [.pointer (some ⟨p, 0, none⟩), .int .i64 n] h (WritesV h S p lim (putS lim (decide (0 ≤ n)) (numF n.toNat) st)) (fun _ _ => False) := by
  refine zndQ_runs ?_
  refine stp ?_
  have hm : (if (0 : Int) > n then 0 else n) = ((n.toNat : Nat) : Int) := by split <;> omega
  rw [hm]
  refine O.call' (number_ok (N := n.toNat) (by omega)) (fun r h1 hr => ?_)
  obtain ⟨hrd, hnew, hf⟩ := hr
  have hw1 := hw.none hf
  have hfl := numF_len (n := n.toNat) (by omega)
  obtain ⟨a1, cap1, rfl, hl1, _⟩ := id hrd
  refine stp ?_
  refine O.call' (put_okV (ls := [(.slice a1 (numF n.toNat).length cap1, numF n.toNat)]) (hw1.none Fr.refl.push) (fun i hi => hS i (by have := hf.n; simp at hi; omega)) (rd_lit rfl) ?_ (by simp) (by simp [flat]; omega)) (fun r h2 hr => ?_)
  · intro q hq
    simp at hq
    subst hq
    exact hrd.keep (S := fun _ => False) Fr.refl.push fun _ _ => id
  · refine stp ?_
    rw [show flat [(Value.slice a1 (numF n.toNat).length cap1, numF n.toNat)] = numF n.toNat from by simp [flat]] at hr
    exact ⟨hr.1, hr.2.1, Fr.trans (S := S) (hf.mono fun _ _ h => h.elim) (Fr.trans (S := S) Fr.refl.push hr.2.2 fun _ _ h => h) fun _ _ h => h⟩
theorem WHash_okV {h : Heap} {S : Nat → Prop} {p lim : Nat} {st : WSt} {l : List UInt8} (hw : PVs h S p lim st) (hS : ∀ i, h.n ≤ i → S i) (hl : l.length = 32) (hs : st.bs.length + 32 < 1048576) :
    Runs Try.prog T0 (.fn fn_zldQ) [.pointer (some ⟨p, 0, none⟩), .agg ⟨bcells l⟩] h (WritesV h S p lim (putS lim true l st)) (fun _ _ => False) := by
  haveI := l32 hl
  refine zldQ_runs ?_
  refine stp ?_
  refine O.call' (put_okV (ls := [(.slice (some ⟨h.n, 0, none⟩) 32 32, l)]) (hw.none Fr.refl.push.push) (fun i hi => hS i (by simp at hi; omega)) (rd_lit rfl) ?_ (by simp) (by simp [flat]; omega)) (fun r h2 hr => ?_)
  · intro q hq
    simp at hq
    subst hq
    rw [hl]
    exact (rd_lit (h := h) (c := bcells l) (es := 0) (n := 32) (by simpa [bcells] using hl)).keep (S := fun _ => False) Fr.refl.push fun _ _ => id
  · refine stp ?_
    rw [show flat [(Value.slice (some ⟨h.n, 0, none⟩) 32 32, l)] = l from by simp [flat]] at hr
    exact ⟨hr.1, hr.2.1, Fr.trans (S := S) Fr.refl.push.push hr.2.2 fun _ _ h => h⟩
end Go.Proofs.Ytagmnpeilgnbdaa.A

namespace Go.Proofs.Ytagmnpeilgnbdaa.A
open Go Go.Vm
set_option maxRecDepth 10000
set_option linter.unusedVariables false
theorem mkStoreN {P : Program} {ts : List Value} {h : Heap} {a x : Operand} {v : Value} {o r n es : Nat} {sp : Option Nat} {xs c : List Value} (ho : o + xs.length ≤ c.length) (h1 : xs.all Value.oneCell' = true) (hn : n = xs.length) [e : Ev ts a (.pointer (some ⟨r, o, sp⟩))] [f : Ev ts x v] [k : CellsOf v xs] [g : HGet h r (.cells c es)] :
    xop P (eval ts) h (.store n a x) = .ok undef (h.set r (.cells (over c o xs) es)) := by
  have hp : putAt h r o xs = some (h.set r (.cells (over c o xs) es)) := by
    unfold putAt
    rw [g.eq]
    show (if o + xs.length ≤ c.length ∧ xs.all Value.oneCell' = true then some (h.set r (.cells (over c o xs) es)) else none) = _
    rw [if_pos ⟨ho, h1⟩]
  subst hn
  simp only [xop, e.eq, f.eq, k.eq, k.len, hp, if_true]
end Go.Proofs.Ytagmnpeilgnbdaa.A

namespace Go.Proofs.Ytagmnpeilgnbdaa.A
open Go Go.Vm
set_option maxRecDepth 10000
set_option linter.unusedVariables false
def byteAt (n k : Nat) : UInt8 := UInt8.ofNat (n / 2 ^ (8 * k) % 256)
def word8 (n : Nat) : List UInt8 := [byteAt n 7, byteAt n 6, byteAt n 5, byteAt n 4, byteAt n 3, byteAt n 2, byteAt n 1, byteAt n 0]
theorem word8_len (n : Nat) : (word8 n).length = 8 := rfl
theorem shrU {P : Program} {ts : List Value} {h : Heap} {x y : Operand} {t t' ty : TypeId} {N s : Nat} {q : Int} {J : IntKind} (hq : q = s) (hs : s < 64) [e1 : Ev ts x (.int .u64 (N : Nat))] [e2 : Ev ts y (.int J q)] :
    XOp P ts h (.bin .shr (so (.binOp .shr t x y t') ty) x y) (.int .u64 ((N / 2 ^ s : Nat) : Int)) h := by
  have := XOp.shr (P := P) (ts := ts) (h := h) (x := x) (y := y) (t := t) (t' := t') (ty := ty) (K := .u64) (J := J) (p := (N : Int)) (q := q) (by omega)
  rw [show min q.toNat IntKind.u64.bits = s from by rw [hq, show IntKind.u64.bits = 64 from rfl]; omega, Int.fdiv_eq_ediv_of_nonneg _ (by exact_mod_cast Nat.zero_le _)] at this
  rw [show ((N / 2 ^ s : Nat) : Int) = (N : Int) / 2 ^ s from by rw [Int.natCast_ediv, Int.natCast_pow]; rfl]
  exact this
theorem byte_wrap (N : Nat) : IntKind.wrap .u8 ((N : Nat) : Int) = (((UInt8.ofNat (N % 256)).toNat : Nat) : Int) := by
  rw [wrap_u8, u8nat (Nat.mod_lt _ (by omega))]
  omega
def wk (n k : Nat) : List Value := bcells (List.replicate (8 - k) 0 ++ (word8 n).drop (8 - k))
set_option maxHeartbeats 4000000 in
theorem word_ok {h : Heap} {n : Nat} : Runs Try.prog T0 (.fn fn_zaeQ) [.int .u64 n] h (fun r h' => r = .agg ⟨bcells (word8 n)⟩ ∧ Fr (fun _ => False) h h') (fun _ _ => False) := by
  refine zaeQ_runs ?_
  refine stp ?_
  refine loop1 zaeQ_l0_M 5 (fun m v5 h' => ∃ k : Nat, k ≤ 8 ∧ m = 8 - k ∧ v5 = .int .i64 k ∧ h'.get (h.n + 1) = .cells (wk n k) 0 ∧ h'.get h.n = .cells [.int .u8 0, .int .u8 0, .int .u8 0, .int .u8 0, .int .u8 0, .int .u8 0, .int .u8 0, .int .u8 0] 0 ∧ h.n + 1 < h'.n ∧ Fr (fun _ => False) h h') ?_ 8 ⟨0, by omega, rfl, rfl, HGet.new.eq, by rw [Heap.get_push, if_neg (by simp), Heap.get_push, if_pos rfl], by simp, Fr.refl.push.push⟩
  rintro m v5 h' x4 x6 x7 x8 x9 x10 x11 x12 x13 x14 x15 x16 ⟨k, hk, rfl, rfl, hg, hg0, hn, hf⟩
  have hst : ∀ {k : Nat} {b : UInt8}, k < 8 → b = byteAt n k → over (wk n k) (7 - k) [.int .u8 (b.toNat : Nat)] = wk n (k + 1) := by
    intro k b hk hb
    subst hb
    rcases (show k = 0 ∨ k = 1 ∨ k = 2 ∨ k = 3 ∨ k = 4 ∨ k = 5 ∨ k = 6 ∨ k = 7 by omega) with rfl | rfl | rfl | rfl | rfl | rfl | rfl | rfl <;> rfl
  haveI : HGet h' (h.push (.cells [.int .u8 0, .int .u8 0, .int .u8 0, .int .u8 0, .int .u8 0, .int .u8 0, .int .u8 0, .int .u8 0] 0)).n _ := ⟨hg⟩
  haveI : BNe h.n (h.push (.cells [.int .u8 0, .int .u8 0, .int .u8 0, .int .u8 0, .int .u8 0, .int .u8 0, .int .u8 0, .int .u8 0] 0)).n := ⟨by simp⟩
  haveI : HGet h' h.n _ := ⟨hg0⟩
  refine stp ?_
  refine C.if (fun hlt => ?_) (fun hge => ?_)
  · refine stp ?_
    refine O.how (shrU (N := n) (s := 8 * k) (by rw [mul_in (by omega)]; omega) (by omega)) ?_
    refine stp ?_
    rw [byte_wrap]
    have h8 : (7 - (k : Int)).toNat = 7 - k := by omega
    simp only [h8, Nat.zero_add, Nat.mul_one]
    refine O.by0 (mkStoreN (P := Try.prog) (h := h') (xs := [.int .u8 (byteAt n k).toNat]) (c := wk n k) (r := h.n + 1) (o := 7 - k) (sp := none) (es := 0) (by simp [wk, bcells_len, word8_len]) rfl rfl (g := ⟨hg⟩)) rfl ?_
    rw [hst (by omega) rfl]
    refine stp ?_
    exact loop1a 5 (8 - (k + 1)) (by omega) ⟨k + 1, by omega, rfl, rfl, by rw [Heap.get_set, if_pos rfl], by rw [Heap.get_set, if_neg (by omega)]; exact hg0, by simpa using hn, hf.set fun e => absurd e (by omega)⟩
  · obtain rfl : k = 8 := by omega
    have e8 : wk n 8 = [.int .u8 (byteAt n 7).toNat, .int .u8 (byteAt n 6).toNat, .int .u8 (byteAt n 5).toNat, .int .u8 (byteAt n 4).toNat, .int .u8 (byteAt n 3).toNat, .int .u8 (byteAt n 2).toNat, .int .u8 (byteAt n 1).toNat, .int .u8 (byteAt n 0).toNat] := rfl
    rw [e8] at hg
    haveI : HGet h' (h.push (.cells [.int .u8 0, .int .u8 0, .int .u8 0, .int .u8 0, .int .u8 0, .int .u8 0, .int .u8 0, .int .u8 0] 0)).n _ := ⟨hg⟩
    refine stp ?_
    exact ⟨rfl, hf.set fun e => absurd e (by omega)⟩
theorem WWord_okV {h : Heap} {S : Nat → Prop} {p lim : Nat} {st : WSt} {n : Nat} (hw : PVs h S p lim st) (hS : ∀ i, h.n ≤ i → S i) (hs : st.bs.length + 8 < 1048576) :
    Runs Try.prog T0 (.fn fn_zodQ) [.pointer (some ⟨p, 0, none⟩), .int .u64 n] h (WritesV h S p lim (putS lim true (word8 n) st)) (fun _ _ => False) := by
  refine zodQ_runs ?_
  refine stp ?_
  refine O.call' (word_ok (n := n)) (fun r h1 hr => ?_)
  obtain ⟨rfl, hf⟩ := hr
  have hw1 := hw.none hf
  have n1 := hf.n
  rw [show bcells (word8 n) = [.int .u8 (byteAt n 7).toNat, .int .u8 (byteAt n 6).toNat, .int .u8 (byteAt n 5).toNat, .int .u8 (byteAt n 4).toNat, .int .u8 (byteAt n 3).toNat, .int .u8 (byteAt n 2).toNat, .int .u8 (byteAt n 1).toNat, .int .u8 (byteAt n 0).toNat] from rfl]
  refine stp ?_
  refine O.call' (put_okV (ls := [(.slice (some ⟨h1.n, 0, none⟩) 8 8, word8 n)]) (hw1.none Fr.refl.push.push) (fun i hi => hS i (by simp at hi; omega)) (rd_lit rfl) ?_ (by simp) (by simp [flat, word8_len]; omega)) (fun r h2 hr => ?_)
  · intro q hq
    simp at hq
    subst hq
    exact (rd_lit (h := h1) (c := bcells (word8 n)) (es := 0) (n := 8) rfl).keep (S := fun _ => False) Fr.refl.push fun _ _ => id
  · refine stp ?_
    rw [show flat [(Value.slice (some ⟨h1.n, 0, none⟩) 8 8, word8 n)] = word8 n from by simp [flat]] at hr
    exact ⟨hr.1, hr.2.1, Fr.trans (S := S) (hf.mono fun _ _ h => h.elim) (Fr.trans (S := S) Fr.refl.push.push hr.2.2 fun _ _ h => h) fun _ _ h => h⟩
end Go.Proofs.Ytagmnpeilgnbdaa.A

namespace Go.Proofs.Ytagmnpeilgnbdaa.A
open Go Go.Vm
set_option maxRecDepth 10000
set_option linter.unusedVariables false
theorem WKeyG_ok {h : Heap} {S : Nat → Prop} {p lim : Nat} {st : WSt} {k : K4} (hw : PVs h S p lim st) (hS : ∀ i, h.n ≤ i → S i) (hs : st.bs.length + 4 < 1048576) :
    Runs Try.prog T0 (.fn fn_zmdQ) [.pointer (some ⟨p, 0, none⟩), .agg ⟨k.cells⟩] h (WritesV h S p lim (putS lim true k.bs st)) (fun _ _ => False) := by
  refine zmdQ_runs ?_
  refine stp ?_
  refine O.call' (put_okV (ls := [(.slice (some ⟨h.n, 0, none⟩) 4 4, k.bs)]) (hw.none Fr.refl.push.push) (fun i hi => hS i (by simp at hi; omega)) (rd_lit rfl) ?_ (by simp) (by simp [flat]; omega)) (fun r h2 hr => ?_)
  · intro q hq
    simp at hq
    subst hq
    exact (rd_lit (h := h) (c := k.cells) (es := 0) (n := 4) rfl).keep (S := fun _ => False) Fr.refl.push fun _ _ => id
  · refine stp ?_
    rw [show flat [(Value.slice (some ⟨h.n, 0, none⟩) 4 4, k.bs)] = k.bs from by simp [flat]] at hr
    exact ⟨hr.1, hr.2.1, Fr.trans (S := S) Fr.refl.push.push hr.2.2 fun _ _ h => h⟩
theorem put0 {lim : Nat} {bs part : List UInt8} (h : bs.length + part.length ≤ lim) : putS lim true part ⟨bs, 0⟩ = ⟨bs ++ part, 0⟩ := by
  unfold putS
  rw [if_neg (by simp), if_neg (by simp), if_neg (by simp only; omega)]
def encG1 (s : Sg) : List UInt8 := s.key ++ (s.hash ++ word8 s.sg.toNat)
theorem encG1_len (s : Sg) : (encG1 s).length = 44 := by
  unfold encG1
  rw [List.length_append, List.length_append, s.hl, word8_len]
  rfl
def encGs (L : List Sg) : List UInt8 := L.flatMap encG1
theorem encGs_len : ∀ L : List Sg, (encGs L).length = L.length * 44
  | [] => rfl
  | s :: L => by rw [show encGs (s :: L) = encG1 s ++ encGs L from rfl, List.length_append, encG1_len, encGs_len L, List.length_cons]; omega
theorem encGs_take {L : List Sg} {k : Nat} (hk : k < L.length) : encGs (L.take (k + 1)) = encGs (L.take k) ++ encG1 (at' L k) := by
  have e : at' L k = L[k] := by simp only [at', List.getD_eq_getElem?_getD, List.getElem?_eq_getElem hk, Option.getD_some]
  unfold encGs
  rw [List.take_succ_eq_append_getElem hk, List.flatMap_append, e, List.flatMap_singleton]
def encG (L : List Sg) : List UInt8 := numF L.length ++ encGs L
theorem encG_len {L : List Sg} (h : L.length < 256) : (encG L).length ≤ 9 + L.length * 44 := by
  unfold encG
  have := numF_len (n := L.length) (by omega)
  rw [List.length_append, encGs_len]
  omega
section
variable {h : Heap} {p m c : Nat} {l : List GEnt} {most : Int} {L : List Sg}
set_option maxHeartbeats 8000000 in
theorem gEncode_ok (ha : TbAt h p m c l most L) (hp : ∀ s ∈ L, 0 ≤ s.sg) :
    Runs Try.prog T0 (.fn fn_zobQ) [.pointer (some ⟨p, 0, none⟩)] h
      (fun r h' => ∃ v, r = .tuple ⟨[v, .int .i64 0]⟩ ∧ Own h' 1 v (bcells (encG L)) (encG L).length ∧ (∀ i, ownedBy v i → h.n ≤ i) ∧ Fr (fun _ => False) h h') (fun _ _ => False) := by
  have hll := ha.len
  have hnl := numF_len (n := L.length) (by omega)
  refine zobQ_runs ?_
  refine stp ?_
  refine O.call' (gnone_ok ha) (fun r h0 hr => ?_)
  obtain ⟨rfl, rfl⟩ := hr
  refine stp ?_
  refine O.call' (NewWriter_ok (lim := 1048576) (Nat.le_refl _)) (fun r h1 hr => ?_)
  obtain ⟨rfl, hw, f1⟩ := hr
  have ha1 := ha.keep f1 id id
  haveI : HGet h1 p _ := ⟨ha1.g⟩
  haveI : HGet h1 m _ := ⟨ha1.gm⟩
  haveI : BLt p h1 := ⟨ha1.lp⟩
  have n1 := f1.n
  have hg : (gents l).length = L.length := by rw [show (gents l).length = l.length from List.length_map _, ha.ln]
  refine stp ?_
  rw [hg]
  refine O.call' (WNum_okV (n := (L.length : Int)) (PVs.of hw) (fun i hi => by omega) (by omega) (by simp)) (fun r h2 hr => ?_)
  obtain ⟨rfl, hw2, f2⟩ := hr
  rw [show decide (0 ≤ (L.length : Int)) = true from decide_eq_true (by omega), show ((L.length : Int)).toNat = L.length from by omega, put0 (by simp; omega)] at hw2
  have ha2 := ha1.keep f2 (by have := ha.lp; omega) (by have := ha.lm; omega)
  have n2 := f2.n
  refine stp ?_
  refine O.call' (gsorted_ok ha2) (fun r h3 hr => ?_)
  obtain ⟨ho, hnew, f3⟩ := hr
  have n3 := f3.n
  obtain ⟨a, cc, rfl, _, _⟩ := id ho.rd
  have hw3 := (hw2.mono (S' := fun i => h0.n ≤ i ∧ i < h2.n ∨ h3.n ≤ i) (fun i hi e => .inl ⟨e, hi⟩)).none f3
  refine stp ?_
  refine loop1 zobQ_l0_M 24 (fun q v24 hx => ∃ k : Nat, k ≤ L.length ∧ q = L.length - k ∧ v24 = .int .i64 k ∧ PVs hx (fun i => h0.n ≤ i ∧ i < h2.n ∨ h3.n ≤ i) h0.n 1048576 ⟨numF L.length ++ encGs (L.take k), 0⟩ ∧ Fr (fun i => h0.n ≤ i ∧ i < h2.n ∨ h3.n ≤ i) h3 hx) ?_ L.length ⟨0, by omega, rfl, rfl, by rw [List.take_zero]; simpa [encGs] using hw3, Fr.refl⟩
  rintro m v24 h' x7 x25 x26 x27 x28 x29 x30 x31 x32 x33 x34 x35 x36 x37 x38 x39 x40 ⟨k, hk, rfl, rfl, hwk, hF⟩
  have nF := hF.n
  rcases Nat.lt_or_ge k L.length with hlt | hge
  · haveI q1 : ∀ {ts : List Value} {h : Heap} {O : Oper} {x z : Operand} [Ev ts x (.int .i64 (k : Nat))] [Ev ts z (.int .i64 (L.length : Nat))], XOp Try.prog ts h (.bin .lss O x z) (.bool true) h := xlss1 (by omega)
    obtain ⟨q, sx, cap, j, e, hq, hg⟩ := own_atG ho (by omega)
    cases e
    have hqn := hnew q rfl
    haveI : HGet h' q (.cells (gcells L ++ j) 37) := ⟨by rw [hF.get _ hq (by omega)]; exact hg⟩
    haveI : BLt q h' := ⟨hF.lt hq⟩
    haveI : IdxOff 0 (k : Int) 37 (k * 37) := ⟨by omega⟩
    haveI : Sub (gcells L ++ j) (k * 37) 37 (at' L k).cells := gsub hlt
    have hkl : (encGs (L.take k)).length ≤ 255 * 44 := by rw [encGs_len, List.length_take]; omega
    have hwk2 := (hwk.mono (S' := fun i => (h0.n ≤ i ∧ i < h2.n ∨ h3.n ≤ i) ∧ i ≠ h'.n) (fun i hi e => ⟨e, by omega⟩)).none (Fr.refl.push (o := .cells (at' L k).cells 0))
    have hsg : 0 ≤ (at' L k).sg := hp _ (by rw [show at' L k = L[k] from by simp only [at', List.getD_eq_getElem?_getD, List.getElem?_eq_getElem hlt, Option.getD_some]]; exact List.getElem_mem hlt)
    refine stp ?_
    have fG : Fr (fun i => h0.n ≤ i ∧ i < h2.n ∨ h3.n ≤ i) h' (h'.push (.cells (at' L k).cells 0)) := Fr.refl.push
    have nG : (h'.push (.cells (at' L k).cells 0)).n = h'.n + 1 := rfl
    have gG : (h'.push (.cells (at' L k).cells 0)).get h'.n = .cells (at' L k).cells 0 := HGet.new.eq
    generalize h'.push (.cells (at' L k).cells 0) = g at *
    have hb1 : (numF L.length ++ encGs (L.take k)).length ≤ 9 + 255 * 44 := by rw [List.length_append]; omega
    generalize hBB : numF L.length ++ encGs (L.take k) = B at *
    refine O.call' (WKeyG_ok (k := (at' L k).k4) hwk2 (fun i hi => ⟨by omega, by omega⟩) (by simp only; omega)) (fun r g1 hr => ?_)
    obtain ⟨rfl, hwa, fa⟩ := hr
    rw [put0 (by show B.length + 4 ≤ _; omega)] at hwa
    have na := fa.n
    haveI : HGet g1 h'.n (.cells (at' L k).cells 0) := ⟨by rw [fa.get _ (by omega) (fun e => e.2 rfl)]; exact gG⟩
    refine stp ?_
    refine O.call' (WHash_okV (l := (at' L k).hash) hwa (fun i hi => ⟨by omega, by omega⟩) (at' L k).hl (by show (B ++ (at' L k).k4.bs).length + 32 < _; rw [List.length_append]; show B.length + 4 + 32 < _; omega)) (fun r g2 hr => ?_)
    obtain ⟨rfl, hwb, fb⟩ := hr
    rw [put0 (by rw [List.length_append, (at' L k).hl]; show B.length + 4 + 32 ≤ _; omega)] at hwb
    have nb := fb.n
    haveI : HGet g2 h'.n (.cells (at' L k).cells 0) := ⟨by rw [fb.get _ (by omega) (fun e => e.2 rfl), fa.get _ (by omega) (fun e => e.2 rfl)]; exact gG⟩
    have hword := WWord_okV (n := (at' L k).sg.toNat) hwb (fun i hi => ⟨by omega, by omega⟩) (by show (B ++ (at' L k).k4.bs ++ (at' L k).hash).length + 8 < _; rw [List.length_append, List.length_append, (at' L k).hl]; show B.length + 4 + 32 + 8 < _; omega)
    rw [Int.toNat_of_nonneg hsg] at hword
    refine stp ?_
    refine O.call' hword (fun r g3 hr => ?_)
    obtain ⟨rfl, hwc, fc⟩ := hr
    rw [put0 (by rw [List.length_append, List.length_append, (at' L k).hl, word8_len]; show B.length + 4 + 32 + 8 ≤ _; omega)] at hwc
    refine stp ?_
    refine loop1a 24 (L.length - (k + 1)) (by omega) ⟨k + 1, by omega, rfl, rfl, ?_, hF.trans' (fG.trans' ((fa.trans' (fb.trans' fc)).mono fun _ _ e => e.1))⟩
    have hwd := hwc.mono (S' := fun i => h0.n ≤ i ∧ i < h2.n ∨ h3.n ≤ i) (fun i hi e => e.1)
    rw [encGs_take hlt, ← List.append_assoc, hBB]
    simp only [List.append_assoc] at hwd
    exact hwd
  · obtain rfl : k = L.length := by omega
    haveI q1 : ∀ {ts : List Value} {h : Heap} {O : Oper} {x z : Operand} [Ev ts x (.int .i64 (L.length : Nat))] [Ev ts z (.int .i64 (L.length : Nat))], XOp Try.prog ts h (.bin .lss O x z) (.bool false) h := xlss0 (by omega)
    refine stp ?_
    rw [List.take_length] at hwk
    have hwe := (hwk.mono (S' := fun i => h0.n ≤ i) (fun i hi e => by omega)).to
    refine O.call' (Done_ok hwe) (fun r h5 hr => ?_)
    obtain ⟨v, rfl, hov, hnv, f5⟩ := hr
    have hov : Own h5 1 v (bcells (encG L)) (encG L).length := hov
    have n5 := f5.n
    obtain ⟨a5, c5, rfl, _, _⟩ := id hov.rd
    refine stp ?_
    exact ⟨_, rfl, hov, fun i hi => by have := hnv i hi; omega, ((f1.trans f2 fun i hi e => by omega).trans' f3).trans (hF.trans' (f5.mono fun _ _ e => e.elim)) fun i hi e => by omega⟩
end
end Go.Proofs.Ytagmnpeilgnbdaa.A

namespace Go.Proofs.Ytagmnpeilgnbdaa.A
open Go Go.Vm
set_option maxRecDepth 10000
set_option linter.unusedVariables false
instance l4key {s : Sg} : L4 (bcells s.key) := ⟨rfl⟩
end Go.Proofs.Ytagmnpeilgnbdaa.A

namespace Go.Proofs.Ytagmnpeilgnbdaa.A
open Go Go.Vm
set_option maxRecDepth 10000
set_option linter.unusedVariables false
structure DbAt (h : Heap) (w : Nat) (v : Value) (most : Int) (L : List Sg) : Prop where
  g : h.get w = .cells [.int .i64 most, v] 0
  lw : w < h.n
  ow : Own h 37 v (gcells L) L.length
  ap : ¬ ownedBy v w
  len : L.length < 256
theorem DbAt.keep {S : Nat → Prop} {h h' : Heap} {w : Nat} {v : Value} {most : Int} {L : List Sg} (a : DbAt h w v most L) (hf : Fr S h h') (h1 : ¬ S w) (h2 : ∀ i, ownedBy v i → ¬ S i) : DbAt h' w v most L :=
  ⟨by rw [hf.get _ a.lw h1]; exact a.g, hf.lt a.lw, a.ow.keep hf h2, a.ap, a.len⟩
theorem at_eq {L : List Sg} {k : Nat} (hk : k < L.length) : at' L k = L[k] := by simp only [at', List.getD_eq_getElem?_getD, List.getElem?_eq_getElem hk, Option.getD_some]
instance grG {s : Sg} : GrL s.cells := ⟨by
  have := groundG s
  simpa [ground, groundA] using this⟩
section
variable {h : Heap} {w : Nat} {v : Value} {most : Int} {L : List Sg} {s : Sg}
end
end Go.Proofs.Ytagmnpeilgnbdaa.A

namespace Go.Proofs.Ytagmnpeilgnbdaa.A
open Go Go.Vm
set_option maxRecDepth 10000
set_option linter.unusedVariables false
class OwnI (h : Heap) (size : Nat) (v : Value) : Prop where
  ok : ∃ c n, Own h size v c n
instance {h : Heap} {size : Nat} {v : Value} {o : AObj} [k : OwnI h size v] : OwnI (h.push o) size v := ⟨by
  obtain ⟨c, n, h1⟩ := k.ok
  exact ⟨c, n, h1.keep (S := fun _ => False) Fr.refl.push fun _ _ => id⟩⟩
section
variable {P : Program} {ts : List Value} {h h' : Heap} {size n i : Nat} {v : Value} {c : List Value} {x lo hi : Operand} {p : Int}
end
end Go.Proofs.Ytagmnpeilgnbdaa.A

namespace Go.Proofs.Ytagmnpeilgnbdaa.A
open Go Go.Vm
set_option maxRecDepth 10000
set_option linter.unusedVariables false
section
variable {P : Program} {T : Table} {ts : List Value} {ds : List Deferred} {h : Heap} {rd : Option Nat} {dst size bytes n m el : Nat} {zero : List Value} {zeros : Bool} {x y : Operand} {v w : Value} {c d : List Value} {chk : List (Option Nat × AOp × Option (Nat × Bool))} {pan : Bool} {rest : List AOper} {Q : QP} {F : Value → List Value}
end
end Go.Proofs.Ytagmnpeilgnbdaa.A

namespace Go.Proofs.Ytagmnpeilgnbdaa.A
open Go Go.Vm
set_option maxRecDepth 10000
set_option linter.unusedVariables false
section
variable {h : Heap} {w : Nat} {v : Value} {most : Int} {L : List Sg} {s : Sg}
end
end Go.Proofs.Ytagmnpeilgnbdaa.A

namespace Go.Proofs.Ytagmnpeilgnbdaa.A
open Go Go.Vm
set_option maxRecDepth 10000
set_option linter.unusedVariables false
section
variable {h : Heap} {w : Nat} {v : Value} {most : Int} {L : List Sg} {hs : List UInt8}
end
end Go.Proofs.Ytagmnpeilgnbdaa.A

namespace Go.Proofs.Ytagmnpeilgnbdaa.A
open Go Go.Vm
set_option maxRecDepth 10000
set_option linter.unusedVariables false
section
variable {h : Heap} {w : Nat} {v : Value} {most : Int} {L : List Sg}
end
end Go.Proofs.Ytagmnpeilgnbdaa.A

namespace Go.Proofs.Ytagmnpeilgnbdaa.A
open Go Go.Vm
set_option maxRecDepth 10000
set_option linter.unusedVariables false
section
variable {h : Heap} {a b : Value} {L : List Sg} {K : List K4}
set_option maxHeartbeats 4000000 in
theorem SameSigs_same (ha : Own h 37 a (gcells L) L.length) (hb : Own h 37 b (gcells L) L.length) (hl : L.length < 100000) :
    Runs Try.prog T0 (.fn fn_zhQ) [a, b] h (fun r h' => r = .bool true ∧ h' = h) (fun _ _ => False) := by
  obtain ⟨aa, ca, rfl, _, _⟩ := id ha.rd
  obtain ⟨ab, cb, rfl, _, _⟩ := id hb.rd
  refine zhQ_runs ?_
  haveI q0 : ∀ {ts : List Value} {h : Heap} {O : Oper} {x z : Operand} [Ev ts x (.int .i64 (L.length : Nat))] [Ev ts z (.int .i64 (L.length : Nat))], XOp Try.prog ts h (.bin .eql O x z) (.bool true) h := xeql1 rfl
  refine stp ?_
  refine loop2 zhQ_l0_M 5 6 (fun q v5 v6 hx => ∃ k : Nat, k ≤ L.length ∧ q = L.length - k ∧ v5 = .bool true ∧ v6 = .int .i64 k ∧ hx = h) ?_ L.length ⟨0, by omega, rfl, rfl, rfl, rfl⟩
  rintro m v5 v6 h' x12 x13 x14 x15 x16 x17 x18 x19 x20 x21 x22 x23 x24 x25 x26 x27 x28 x29 ⟨k, hk, rfl, rfl, rfl, rfl⟩
  rcases Nat.lt_or_ge k L.length with hlt | hge
  · haveI q1 : ∀ {ts : List Value} {h : Heap} {O : Oper} {x z : Operand} [Ev ts x (.int .i64 (k : Nat))] [Ev ts z (.int .i64 (L.length : Nat))], XOp Try.prog ts h (.bin .lss O x z) (.bool true) h := xlss1 (by omega)
    obtain ⟨q, sx, cap, j, e, hq, hg⟩ := own_atG ha (by omega)
    obtain ⟨q', sx', cap', j', e', hq', hg'⟩ := own_atG hb (by omega)
    cases e
    cases e'
    haveI : HGet h' q (.cells (gcells L ++ j) 37) := ⟨hg⟩
    haveI : HGet h' q' (.cells (gcells L ++ j') 37) := ⟨hg'⟩
    haveI : Sub (gcells L ++ j) (k * 37) 37 (at' L k).cells := gsub hlt
    haveI : Sub (gcells L ++ j') (k * 37) 37 (at' L k).cells := gsub hlt
    haveI : IdxOff 0 (k : Int) 37 (k * 37) := ⟨by omega⟩
    refine stp ?_
    rw [same_self]
    exact loop2a 5 6 (L.length - (k + 1)) (by omega) ⟨k + 1, by omega, rfl, rfl, rfl, rfl⟩
  · obtain rfl : k = L.length := by omega
    haveI q1 : ∀ {ts : List Value} {h : Heap} {O : Oper} {x z : Operand} [Ev ts x (.int .i64 (L.length : Nat))] [Ev ts z (.int .i64 (L.length : Nat))], XOp Try.prog ts h (.bin .lss O x z) (.bool false) h := xlss0 (by omega)
    refine stp ?_
    exact ⟨rfl, rfl⟩
end
end Go.Proofs.Ytagmnpeilgnbdaa.A

namespace Go.Proofs.Ytagmnpeilgnbdaa.A
open Go Go.Vm
set_option maxRecDepth 10000
set_option linter.unusedVariables false
theorem SameBytes_ok {h : Heap} {v w : Value} {a b : List UInt8} (hv : Rd h 1 v (bcells a) a.length) (hw : Rd h 1 w (bcells b) b.length) :
    Runs Try.prog T0 (.fn fn_zgQ) [v, w] h (fun r h' => r = .bool (decide (a = b)) ∧ h' = h) (fun _ _ => False) := by
  refine zgQ_runs ?_
  refine stp ?_
  refine O.how (XOp.mkStr hv) ?_
  refine stp ?_
  refine O.how (XOp.mkStr hw) ?_
  refine stp ?_
  refine ⟨?_, rfl⟩
  congr 1
  rw [ByteArray.toList_eq, ByteArray.toList_eq]
  show (a == b) = decide (a = b)
  by_cases e : a = b
  · subst e; simp
  · simp [e]
end Go.Proofs.Ytagmnpeilgnbdaa.A

namespace Go.Proofs.Ytagmnpeilgnbdaa.A
open Go Go.Vm
set_option maxRecDepth 10000
set_option linter.unusedVariables false
end Go.Proofs.Ytagmnpeilgnbdaa.A

namespace Go.Proofs.Ytagmnpeilgnbdaa.A
open Go Go.Vm
set_option maxRecDepth 10000
set_option linter.unusedVariables false
theorem lget_pre : ∀ (l m : List Value) (k : Nat), k < l.length → lget (l ++ m) k = lget l k
  | [], _, _, h => by simp at h
  | a :: l, m, 0, _ => rfl
  | a :: l, m, k + 1, h => lget_pre l m k (by simpa using h)
theorem byte_cell {h : Heap} {q es k : Nat} {l : List UInt8} {j : List Value} (hg : h.get q = .cells (bcells l ++ j) es) (hk : k < l.length) : Cell h q k (.int .u8 ((l.getD k 0).toNat : Nat)) := ⟨by
  rw [cellsAt_of (c := bcells l ++ j) (by rw [hg]; rfl) (by simp [bcells_len]; omega), take_one _ _ (by simp [bcells_len]; omega), lget_pre _ _ _ (by rw [bcells_len]; exact hk), (bcells_get hk).eq]⟩
end Go.Proofs.Ytagmnpeilgnbdaa.A

namespace Go.Proofs.Ytagmnpeilgnbdaa.A
open Go Go.Vm
set_option maxRecDepth 10000
set_option linter.unusedVariables false
section
variable {h : Heap} {p m c w : Nat} {l : List GEnt} {v : Value} {most : Int} {L : List Sg} {s : Sg}
end
end Go.Proofs.Ytagmnpeilgnbdaa.A
