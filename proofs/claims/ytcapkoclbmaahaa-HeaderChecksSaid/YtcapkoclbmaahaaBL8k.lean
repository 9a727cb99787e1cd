/- Contracts of the document's BLAKE2s (landfallref03), 4: the hash. -/
import Derived.Test.YtcapkoclbmaahaaBL7k
import Derived.Test.YtcapkoclbmaahaaVK
namespace Go.Proofs.Ytcapkoclbmaahaa.A
open Go Go.Vm
set_option maxRecDepth 10000
set_option linter.unusedVariables false
set_option synthInstance.maxSize 1000
set_option synthInstance.maxHeartbeats 200000

/-- the words behind so many blocks, the last one filled up -/
def docS (l : List UInt8) (t : Nat) : List UInt32 := if t ≤ full l then stepsS l t else blockS (stepsS l (full l)) (l.drop (64 * full l) ++ List.replicate (64 - (l.length - 64 * full l)) 0) l.length true
theorem docS_len (l : List UInt8) (t : Nat) : (docS l t).length = 8 := by unfold docS; split; exact stepsS_len _ _; exact blockS_len _ _ _ _

set_option maxHeartbeats 4000000 in
theorem Sum_okD {h : Heap} {v : Value} {l : List UInt8} (hv : Rd h 1 v (bcells l) l.length) (hl : 0 < l.length) (hsm : l.length < 1000000) :
    Runs Try.prog T0 (.fn fn_landfallref03_Sum) [v] h (fun r h' => r = .agg ⟨bcells (sumS l)⟩ ∧ Fr (fun _ => False) h h') (fun _ _ => False) := by
  have hv0 := hv
  obtain ⟨a0, cap0, rfl, hl0, _⟩ := hv
  refine landfallref03_Sum_runs ?_
  refine stp ?_
  simp only [Heap.n_push]
  generalize hH : (h.push (.cells z32 0)).push (.cells [] 0) = H
  have hHn : H.n = h.n + 2 := by rw [← hH]; rfl
  have gO : HGet H h.n (.cells z32 0) := ⟨by rw [← hH, Heap.get_push, if_neg (by simp), Heap.get_push, if_pos rfl]⟩
  have gE : H.get (h.n + 1) = .cells [] 0 := by rw [← hH, Heap.get_push, if_pos (by simp)]
  have hF : Fr (fun _ => False) h H := by rw [← hH]; exact Fr.refl.push.push
  clear hH
  have hvH := hv0.keep hF fun _ _ => id
  refine O.append (.lit (q := h.n + 1) (by omega) gE) (hvH.new _) (by rw [bcells_len]; omega) (bcells_one l) (by omega) (by omega) (by omega) (fun v' h2 ho2 hf2 hnew2 => ?_)
  rw [Nat.zero_add, List.nil_append] at ho2
  have hn2 := hf2.n
  refine stp ?_
  have hfl : 64 * full l < l.length ∧ l.length ≤ 64 * full l + 64 := by unfold full; omega
  have hOne : ∀ i, ownedBy v' i → h.n < i := fun i hi => by
    rcases hnew2 i hi with e | e
    · have : h.n + 1 = i := e
      omega
    · omega
  have gO2 : h2.get h.n = .cells z32 0 := by rw [hf2.get _ (by omega) (fun e => by have : h.n + 1 = h.n := e; omega), gO.eq]
  have hF2 : Fr (fun _ => False) h h2 := Fr.trans (S := fun _ => False) hF hf2 fun i hi e => by have : h.n + 1 = i := e; omega
  refine landfallref03_Sum_l0_rule (fun m v3 h' => ∃ k : Nat, k ≤ 64 * full l + 64 - l.length ∧ m = 64 - k ∧ Own h' 1 v3 (bcells (l ++ List.replicate k 0)) (l.length + k) ∧ (∀ i, ownedBy v3 i → h.n < i) ∧ h'.get h.n = .cells z32 0 ∧ h2.n ≤ h'.n ∧ Fr (fun _ => False) h h') ?_ 64 ⟨0, by omega, rfl, by simpa using ho2, hOne, gO2, Nat.le_refl _, hF2⟩
  rintro m v3 h' x11 x12 x13 x14 x15 x16 x17 x18 x19 x20 x21 x22 ⟨k, hk, rfl, ho, hown, gO', hle2, hf⟩
  obtain ⟨a1, cap1, rfl, hl1, hc1⟩ := id ho.rd
  have hn' := hf.n
  refine stp ?_
  refine O.dec (fun h0 => ?_) (fun h0 => ?_)
  · exfalso; omega
  refine stp ?_
  refine O.howT (XOp.remI (by decide)) ?_
  rw [show (((l.length + k : Nat) : Int)).tmod 64 = (((l.length + k) % 64 : Nat) : Int) from by rw [Int.tmod_eq_emod_of_nonneg (by omega)]; omega]
  refine stp ?_
  refine C.ifN (fun hne => ?_) (fun heq => ?_)
  · have hk2 : k < 64 * full l + 64 - l.length := by
      rcases Nat.lt_or_ge k (64 * full l + 64 - l.length) with e | e
      · exact e
      · exfalso; apply hne; omega
    refine stp ?_
    have hpush : Fr (fun _ => False) h' (h'.push (.cells [.int .u8 0] 0)) := Fr.refl.push
    refine O.append (ho.keep hpush fun _ _ => id) (Rd.new (Rd.mk (c := [.int .u8 0]) (by simp) (by rw [cellsAt_of (c := [.int .u8 0]) (by rw [Heap.get_push, if_pos rfl]; rfl) (by simp)]; rfl)) _) (by simp) rfl (by omega) (by omega) (by omega) (fun v'' h3 ho3 hf3 hnew3 => ?_)
    refine stp ?_
    have hs : bcells (l ++ List.replicate k 0) ++ [.int .u8 0] = bcells (l ++ List.replicate (k + 1) 0) := by
      rw [List.replicate_succ', ← List.append_assoc, bcells_append (l ++ List.replicate k 0)]; rfl
    rw [hs] at ho3
    have hn3 := hf3.n
    simp only [Heap.n_push] at hn3 hnew3
    have hk64 : 64 - (k + 1) < 64 - k := by
      have : k < 64 := by omega
      omega
    have hk1 : k + 1 ≤ 64 * full l + 64 - l.length := hk2
    refine landfallref03_Sum_l0_again (64 - (k + 1)) hk64 ⟨k + 1, hk1, rfl, ho3, fun i hi => ?_, ?_, by omega, Fr.trans (S := fun _ => False) hf.push hf3 fun i hi e => by have := hown i e; omega⟩
    · rcases hnew3 i hi with e | e
      · exact hown i e
      · omega
    · rw [hf3.get _ (by simp; omega) (fun e => by have := hown _ e; omega), Heap.get_push, if_neg (show h.n ≠ h'.n by omega), gO']
  · have hK : k = 64 * full l + 64 - l.length := by omega
    have hAl : (l ++ List.replicate k 0).length = 64 * full l + 64 := by simp; omega
    have hAl' : l.length + k = (l ++ List.replicate k 0).length := by simp
    rw [hAl'] at ho ⊢
    obtain ⟨qa, hsl, hqo⟩ := own_sl ho (by omega)
    have hqa : h.n < qa := by rw [← hAl'] at hqo; exact hown qa hqo
    have hqlt := hsl.lt
    have hblk : ∀ t, t ≤ full l → ((l ++ List.replicate k 0).drop (64 * t)).take 64 = if t < full l then (l.drop (64 * t)).take 64 else l.drop (64 * full l) ++ List.replicate (64 - (l.length - 64 * full l)) 0 := fun t ht => by
      rw [List.drop_append_of_le_length (by omega)]
      split
      · rw [List.take_append_of_le_length (by rw [List.length_drop]; omega)]
      · obtain rfl : t = full l := by omega
        rw [List.take_of_length_le (by simp; omega)]
        congr 2; omega
    generalize hA : l ++ List.replicate k 0 = A at *
    refine stp ?_
    refine O.call' begin_okC (fun r h3 hr => ?_)
    obtain ⟨rfl, hf3⟩ := hr
    have hn3 := hf3.n
    refine stp ?_
    refine O.how XOp.xorI ?_
    rw [show (IntKind.u32.wrap ((BitVec.ofInt IntKind.u32.bits 1779033703 ^^^ BitVec.ofInt IntKind.u32.bits 16842784).toNat : Nat)) = 1795745351 from by decide]
    refine stp ?_
    generalize hH4 : h3.push (.cells _ 0) = H4
    have g4h : H4.get h3.n = .cells (wcells (docS l 0)) 0 := by rw [← hH4, Heap.get_push, if_pos rfl]; rfl
    have hn4 : H4.n = h3.n + 1 := by rw [← hH4]; rfl
    have f4 : Fr (fun _ => False) h' H4 := by rw [← hH4]; exact hf3.push
    clear hH4
    have hsl4 := hsl.keep f4 id
    have gO4 : H4.get h.n = .cells z32 0 := by rw [f4.get _ (by omega) id, gO']
    have hF4 : Fr (fun _ => False) h H4 := hf.trans' f4
    refine landfallref03_Sum_l1_rule (fun m v5 h5 => ∃ t : Nat, t ≤ full l + 1 ∧ m = full l + 1 - t ∧ v5 = .int .i64 ((64 * t : Nat) : Int) ∧ h5.get h3.n = .cells (wcells (docS l t)) 0 ∧ Fr (fun i => i = h3.n) H4 h5) ?_ (full l + 1) ⟨0, by omega, rfl, rfl, g4h, Fr.refl⟩
    rintro m v5 h5 x28 x29 x30 x31 x32 x33 x34 x35 x36 x37 x38 x39 x40 x41 x42 x43 x44 x45 x46 x47 x48 x49 x50 ⟨t, ht, rfl, rfl, g5, hf5⟩
    have hn5 := hf5.n
    have hdl := docS_len l t
    haveI : HGet h5 h3.n _ := ⟨g5⟩
    haveI : WLen (docS l t) 8 := ⟨hdl⟩
    refine stp ?_
    refine C.if (fun hlt => ?_) (fun hge => ?_)
    · have ht : t ≤ full l := by omega
      obtain ⟨v1, hs1, hop⟩ := (hsl4.keep hf5 (by omega)).part (i := 64 * t) (j := 64 * t + 64) (by omega) (by omega)
      rw [show 64 * t + 64 - 64 * t = 64 from by omega, hblk t ht] at hs1
      refine stp ?_
      refine D.how (hop (fun c hc => bnd_at (K := .i64) rfl (by omega) (by omega)) (bnd_at (K := .i64) rfl rfl (by omega))) rfl ?_
      refine stp ?_
      have hcase : (t < full l ∧ (if ((64 * t : Nat) : Int) + 64 < (l.length : Int) then ((64 * t : Nat) : Int) + 64 else (l.length : Int)) = ((64 * (t + 1) : Nat) : Int)) ∨ (t = full l ∧ (if ((64 * t : Nat) : Int) + 64 < (l.length : Int) then ((64 * t : Nat) : Int) + 64 else (l.length : Int)) = ((l.length : Nat) : Int)) := by
        rcases Nat.lt_or_ge t (full l) with e | e
        · exact .inl ⟨e, by rw [if_pos (by omega)]; omega⟩
        · exact .inr ⟨by omega, by rw [if_neg (by omega)]⟩
      rcases hcase with ⟨e, em⟩ | ⟨e, em⟩
      · rw [em, decide_eq_false (show ¬ (((64 * t : Nat) : Int) + 64 = (A.length : Int)) by omega)]
        rw [if_pos e] at hs1
        refine D.callX (block_okD (many := 64 * (t + 1)) (last := false) hdl hs1 (by rw [List.length_take, List.length_drop]; omega) (by omega)) (fun r1 h1' hr1 => rfl) (fun r1 h6 hr1 => ?_) (fun _ _ hx => hx.elim)
        obtain ⟨rfl, hf6⟩ := hr1
        haveI := hf6.keep (S := fun _ => False) (b := h3.n) ⟨g5⟩ (by omega) id
        rw [show blockS (docS l t) ((l.drop (64 * t)).take 64) (64 * (t + 1)) false = docS l (t + 1) from by
          unfold docS; rw [if_pos ht, if_pos (by omega)]; rfl]
        have hdl2 := docS_len l (t + 1)
        haveI : WLen (docS l (t + 1)) 8 := ⟨hdl2⟩
        haveI : LenN (wcells (docS l t)) 8 := ⟨by rw [wcells_len, hdl]⟩
        refine stp ?_
        exact landfallref03_Sum_l1_again (full l + 1 - (t + 1)) (by omega) ⟨t + 1, by omega, rfl, by congr 1, by rw [Heap.get_set, if_pos rfl], Fr.set (Fr.trans' hf5 (hf6.mono fun _ _ h => h.elim)) fun _ => rfl⟩
      · rw [em, decide_eq_true (show (((64 * t : Nat) : Int) + 64 = (A.length : Int)) by omega)]
        rw [if_neg (by omega)] at hs1
        refine D.callX (block_okD (many := l.length) (last := true) hdl hs1 (by simp; omega) (by omega)) (fun r1 h1' hr1 => rfl) (fun r1 h6 hr1 => ?_) (fun _ _ hx => hx.elim)
        obtain ⟨rfl, hf6⟩ := hr1
        haveI := hf6.keep (S := fun _ => False) (b := h3.n) ⟨g5⟩ (by omega) id
        rw [show blockS (docS l t) (l.drop (64 * full l) ++ List.replicate (64 - (l.length - 64 * full l)) 0) l.length true = docS l (t + 1) from by
          unfold docS; rw [if_pos ht, if_neg (by omega), e]]
        have hdl2 := docS_len l (t + 1)
        haveI : WLen (docS l (t + 1)) 8 := ⟨hdl2⟩
        haveI : LenN (wcells (docS l t)) 8 := ⟨by rw [wcells_len, hdl]⟩
        refine stp ?_
        exact landfallref03_Sum_l1_again (full l + 1 - (t + 1)) (by omega) ⟨t + 1, by omega, rfl, by congr 1, by rw [Heap.get_set, if_pos rfl], Fr.set (Fr.trans' hf5 (hf6.mono fun _ _ h => h.elim)) fun _ => rfl⟩
    · obtain rfl : t = full l + 1 := by omega
      refine stp ?_
      have hF5 : Fr (fun _ => False) h h5 := Fr.trans (S := fun _ => False) (S' := fun i => i = h3.n) hF4 hf5 fun i hi e => by omega
      have gO5 : h5.get h.n = .cells z32 0 := by rw [hf5.get _ (by omega) (by omega), gO4]
      have hBS : docS l (full l + 1) = blockS (stepsS l (full l)) (l.drop (64 * full l) ++ List.replicate (64 - (l.length - 64 * full l)) 0) l.length true := by unfold docS; rw [if_neg (by omega)]
      have hsum : bytes32 (docS l (full l + 1)) = sumS l := by rw [hBS]; rfl
      generalize docS l (full l + 1) = BS at *
      generalize hH6 : h5.push (.cells z32 0) = H6
      have g6o : H6.get h5.n = .cells (bcells (List.replicate 32 0)) 0 := by rw [← hH6, Heap.get_push, if_pos rfl]; rfl
      have g6w : H6.get h3.n = .cells (wcells BS) 0 := by rw [← hH6, Heap.get_push, if_neg (by omega), g5]
      have g6O : H6.get h.n = .cells z32 0 := by rw [← hH6, Heap.get_push, if_neg (by omega), gO5]
      have hn6 : H6.n = h5.n + 1 := by rw [← hH6]; rfl
      have hF6 : Fr (fun _ => False) h H6 := by rw [← hH6]; exact hF5.push
      clear hH6
      refine landfallref03_Sum_l2_rule (fun m v7 h' => ∃ k : Nat, k ≤ 32 ∧ m = 32 - k ∧ v7 = .int .i64 k ∧ (∃ bs : List UInt8, h'.get h5.n = .cells (bcells bs) 0 ∧ bs.length = 32 ∧ ∀ j, j < 32 → bs.getD j 0 = if j < k then outB BS j else 0) ∧ Fr (fun i => i = h5.n) H6 h') ?_ 32 ⟨0, by omega, rfl, rfl, ⟨_, g6o, by simp, fun j hj => by rw [if_neg (by omega)]; simp only [List.getD_eq_getElem?_getD, List.getElem?_replicate, if_pos hj]; rfl⟩, Fr.refl⟩
      rintro m v7 h7 x51 x52 x53 x54 x55 x56 x57 x58 x59 x60 x61 x62 x63 x64 x65 x66 ⟨k, hk, rfl, rfl, ⟨bs, gb, hbl, hb⟩, hf7⟩
      refine stp ?_
      refine C.if (fun hlt => ?_) (fun hge => ?_)
      · have hk : k < 32 := by omega
        haveI : HGet h7 h3.n (.cells (wcells BS) 0) := ⟨by rw [hf7.get _ (by omega) (by omega), g6w]⟩
        haveI : WIx BS (k / 4) := ⟨by omega⟩
        haveI := fun b => put_b (b := b) gb (i := k) (by omega)
        refine stp ?_
        refine O.how (XOp.quoI (by decide)) ?_
        rw [show IntKind.i64.wrap ((k : Int).tdiv 4) = ((k / 4 : Nat) : Int) from by rw [Int.tdiv_eq_ediv_of_nonneg (by omega), mul_in (by omega)]; omega]
        refine stp ?_
        refine O.how (XOp.remI (by decide)) ?_
        rw [show (k : Int).tmod 4 = ((k % 4 : Nat) : Int) from by rw [Int.tmod_eq_emod_of_nonneg (by omega)]; omega]
        have e8 : IntKind.i64.wrap (8 * ((k % 4 : Nat) : Int)) = 8 * ((k % 4 : Nat) : Int) := mul_in (by omega)
        refine stp ?_
        refine O.how (XOp.shrW (8 * (k % 4)) (by rw [e8]; omega) (by omega)) ?_
        refine stp ?_
        rw [u8_of32]
        refine stp ?_
        refine landfallref03_Sum_l2_again (32 - (k + 1)) (by omega) ⟨k + 1, by omega, rfl, rfl, ⟨_, by rw [Heap.get_set, if_pos rfl], by simpa using hbl, fun j hj => ?_⟩, hf7.set fun _ => rfl⟩
        rw [getD_setB (by omega)]
        by_cases e : j = k
        · rw [if_pos e, e, if_pos (by omega)]; rfl
        · rw [if_neg e, hb j hj]
          by_cases e2 : j < k
          · rw [if_pos e2, if_pos (by omega)]
          · rw [if_neg e2, if_neg (by omega)]
      · obtain rfl : k = 32 := by omega
        have hout : bs = bytes32 BS := bytes_ext (by rw [hbl]; simp [bytes32]) fun j hj => by
          rw [hb j (by omega), if_pos (by omega)]
          simp [bytes32, List.getD_eq_getElem?_getD, show j < 32 from by omega]
        subst hout
        haveI : HGet h7 h5.n _ := ⟨gb⟩
        haveI : HGet h7 h.n (.cells z32 0) := ⟨by rw [hf7.get _ (by omega) (by omega), g6O]⟩
        haveI : L32 (bcells (bytes32 BS)) := ⟨by rw [bcells_len, hbl]⟩
        refine stp ?_
        exact ⟨by rw [hsum], Fr.set (Fr.trans (S := fun _ => False) (S' := fun i => i = h5.n) hF6 hf7 fun i hi e => by omega) fun e => by omega⟩
end Go.Proofs.Ytcapkoclbmaahaa.A
