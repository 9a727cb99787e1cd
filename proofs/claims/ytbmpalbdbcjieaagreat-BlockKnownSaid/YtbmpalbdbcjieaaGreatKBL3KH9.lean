/- Contracts of BLAKE2s, 3: a block. -/
import Derived.Test.YtbmpalbdbcjieaaGreatKBL2KH9
import Derived.Test.YtbmpalbdbcjieaaGreatVK
namespace Go.Proofs.YtbmpalbdbcjieaaGreat.K
open Go Go.Vm
set_option maxRecDepth 10000
set_option linter.unusedVariables false

def startV (h : List UInt32) (many : Nat) (last : Bool) : List UInt32 :=
  let v := h ++ beginW
  let v := v.set 12 (v.getD 12 0 ^^^ UInt32.ofNat many)
  let v := v.set 13 (v.getD 13 0 ^^^ UInt32.ofNat (many / 4294967296))
  if last then v.set 14 (4294967295 ^^^ v.getD 14 0) else v
def wat (m : List UInt32) (r k : Nat) : UInt32 := m.getD (sigma.getD (16 * r + k) 0) 0
def halfA (m : List UInt32) (r : Nat) (v : List UInt32) : Nat → List UInt32
  | 0 => v
  | k + 1 => mixS (halfA m r v k) k (4 + k) (8 + k) (12 + k) (wat m r (2 * k)) (wat m r (2 * k + 1))
def halfB (m : List UInt32) (r : Nat) (v : List UInt32) : Nat → List UInt32
  | 0 => v
  | k + 1 => mixS (halfB m r v k) k (4 + (k + 1) % 4) (8 + (k + 2) % 4) (12 + (k + 3) % 4) (wat m r (8 + 2 * k)) (wat m r (9 + 2 * k))
def roundsS (m v : List UInt32) : Nat → List UInt32
  | 0 => v
  | r + 1 => halfB m r (halfA m r (roundsS m v r) 4) 4
def outS (h v : List UInt32) : List UInt32 := (List.range 8).map fun i => h.getD i 0 ^^^ (v.getD i 0 ^^^ v.getD (i + 8) 0)
def blockS (h : List UInt32) (b : List UInt8) (many : Nat) (last : Bool) : List UInt32 := outS h (roundsS (wordsS b) (startV h many last) 10)

theorem halfA_len (m : List UInt32) (r : Nat) (v : List UInt32) : ∀ k, (halfA m r v k).length = v.length
  | 0 => rfl
  | k + 1 => by rw [halfA, mixS_len, halfA_len m r v k]
theorem halfB_len (m : List UInt32) (r : Nat) (v : List UInt32) : ∀ k, (halfB m r v k).length = v.length
  | 0 => rfl
  | k + 1 => by rw [halfB, mixS_len, halfB_len m r v k]
theorem roundsS_len (m v : List UInt32) : ∀ r, (roundsS m v r).length = v.length
  | 0 => rfl
  | r + 1 => by rw [roundsS, halfB_len, halfA_len, roundsS_len m v r]
theorem startV_len {h : List UInt32} {many : Nat} {last : Bool} (hl : h.length = 8) : (startV h many last).length = 16 := by
  unfold startV
  cases last <;> simp [beginW, hl]

set_option maxHeartbeats 4000000 in
theorem block_ok {h : Heap} {p q es : Nat} {pre post : List Value} {hs : List UInt32} {b : List UInt8} {v : Value} {many : Nat} {last : Bool} (hg : h.get p = .cells (pre ++ (wcells hs ++ post)) es) (hp : p < h.n) (hl : hs.length = 8) (hv : Sl h v q b) (hb : b.length = 64) (hm : many < 4294967296) :
    Runs Tryz.prog T0 (.fn fn_blake_words_block) [ptr p pre.length, v, .int .i64 (many : Nat), .bool last] h (fun r h' => h'.get p = .cells (pre ++ (wcells (blockS hs b many last) ++ post)) es ∧ Fr (fun i => i = p) h h') (fun _ _ => False) := by
  refine blake_words_block_runs ?_
  refine stp ?_
  generalize hH : (h.push (.cells _ 0)).push (.cells _ 0) = H
  have hHn : H.n = h.n + 2 := by rw [← hH]; rfl
  have gm : H.get h.n = .cells (wcells (List.replicate 16 0)) 0 := by rw [← hH, Heap.get_push, if_neg (by simp), Heap.get_push, if_pos rfl]; rfl
  have gv : H.get (h.n + 1) = .cells (wcells (List.replicate 16 0)) 0 := by rw [← hH, Heap.get_push, if_pos (by simp)]; rfl
  have hF : Fr (fun _ => False) h H := by rw [← hH]; exact Fr.refl.push.push
  have hvH := hv.keep hF id
  have hql := hv.lt
  clear hH
  simp only [Heap.n_push]
  refine blake_words_block_l1_rule (fun m v20 h' => ∃ k : Nat, k ≤ 16 ∧ m = 16 - k ∧ v20 = .int .i64 k ∧ (∃ ms : List UInt32, h'.get h.n = .cells (wcells ms) 0 ∧ ms.length = 16 ∧ ∀ j, j < 16 → ms.getD j 0 = if j < k then wordS b j else 0) ∧ Fr (fun i => i = h.n) H h') ?_ 16 ⟨0, by omega, rfl, rfl, ⟨_, gm, by simp, fun j hj => by rw [if_neg (by omega)]; simp only [List.getD_eq_getElem?_getD, List.getElem?_replicate, if_pos hj]; rfl⟩, Fr.refl⟩
  rintro m v20 h' x10 x11 x12 x21 x22 x23 x24 x25 x26 x27 x28 x29 x30 x31 x32 x33 x34 x35 x36 x37 x38 x39 x40 x41 x42 x43 x44 x45 x46 x47 ⟨k, hk, rfl, rfl, ⟨ms, gms, hml, hms⟩, hf⟩
  refine stp ?_
  refine C.if (fun hlt => ?_) (fun hge => ?_)
  · have hk : k < 16 := by omega
    have hvk := hvH.keep hf (by omega)
    obtain ⟨v', hsl, hop⟩ := hvk.part (i := 4 * k) (j := 4 * k + 4) (by omega) (by omega)
    rw [show 4 * k + 4 - 4 * k = 4 from by omega] at hsl
    have hdl : ((b.drop (4 * k)).take 4).length = 4 := by rw [List.length_take, List.length_drop]; omega
    have hpw : wordS b k = pw ((b.drop (4 * k)).take 4) 4 := by
      have key : ∀ j, j ≤ 4 → pw (b.drop (4 * k)) j = pw ((b.drop (4 * k)).take 4) j := by
        intro j
        induction j with
        | zero => intro _; rfl
        | succ j ih =>
          intro hj
          unfold pw
          rw [ih (by omega)]
          congr 3
          simp only [List.getD_eq_getElem?_getD]
          rw [List.getElem?_take_of_lt (by omega)]
      exact key 4 (by omega)
    generalize (b.drop (4 * k)).take 4 = d at *
    obtain ⟨o, sp, cap, cs, es', rfl, hs2, hs3, hs4, hs5, hs6⟩ := hsl.ex
    rw [hdl] at hs6 hop
    refine stp ?_
    have e4 : IntKind.i64.wrap (4 * (k : Int)) = 4 * k := mul_in (by omega)
    refine O.how (hop (fun c hc => bnd_at (k := 4 * k + 4) rfl (by rw [e4, mul_in (by omega)]; omega) (by omega)) (bnd_at (k := 4 * k) rfl (by rw [e4]; omega) (by omega))) ?_
    refine stp ?_
    refine blake_words_block_l0_rule (fun m v31 h'' => ∃ j : Nat, j ≤ 4 ∧ m = 4 - j ∧ v31 = .int .i64 j ∧ (∃ mt : List UInt32, h''.get h.n = .cells (wcells mt) 0 ∧ mt.length = 16 ∧ ∀ i, i < 16 → mt.getD i 0 = if i = k then pw d j else ms.getD i 0) ∧ Fr (fun i => i = h.n) H h'') ?_ 4 ⟨0, by omega, rfl, rfl, ⟨ms, gms, hml, fun i hi => by
      split
      · rename_i e
        rw [e, hms k hk, if_neg (by omega)]; rfl
      · rfl⟩, hf⟩
    clear hs3 hs4 hs5 hop hvk
    rintro m v31 h'' x11 x12 x32 x33 x34 x35 x36 x37 x38 x39 x40 x41 x42 x43 x44 x45 x46 ⟨j, hj, rfl, rfl, ⟨mt, gmt, htl, hmt⟩, hf2⟩
    refine stp ?_
    refine C.if (fun hlt => ?_) (fun hge => ?_)
    · have hj : j < 4 := by omega
      have hs6' : cellsAt h'' q o 4 = some (bcells d) := by
        rw [← hs6, cellsAt_keep hf2 (by omega) (by omega), cellsAt_keep hf (by omega) (by omega)]
      haveI := byte_cell (k := j) hs6' hj
      haveI : HGet h'' h.n _ := ⟨gmt⟩
      haveI : WIx mt k := ⟨by omega⟩
      refine stp ?_
      have e8 : IntKind.i64.wrap (8 * (j : Int)) = 8 * j := mul_in (by omega)
      refine D.how (XOp.shlW (8 * j) (by rw [e8]; omega) (by omega)) rfl ?_
      refine stp ?_
      refine blake_words_block_l0_again (4 - (j + 1)) (by omega) ⟨j + 1, by omega, rfl, rfl, ⟨_, by rw [Heap.get_set, if_pos rfl], by simpa using htl, fun i hi => ?_⟩, hf2.set fun _ => rfl⟩
      rw [getD_set (by omega)]
      by_cases e : i = k
      · rw [if_pos e, if_pos e, hmt k (by omega), if_pos rfl]; rfl
      · rw [if_neg e, if_neg e, hmt i hi, if_neg e]
    · obtain rfl : j = 4 := by omega
      refine stp ?_
      refine blake_words_block_l1_again (16 - (k + 1)) (by omega) ⟨k + 1, by omega, rfl, rfl, ⟨mt, gmt, htl, fun i hi => ?_⟩, hf2⟩
      rw [hmt i hi]
      by_cases e : i = k
      · rw [if_pos e, e, if_pos (by omega), hpw]
      · rw [if_neg e, hms i hi]
        by_cases e2 : i < k
        · rw [if_pos e2, if_pos (by omega)]
        · rw [if_neg e2, if_neg (by omega)]
  · obtain rfl : k = 16 := by omega
    have hmw : ms = wordsS b := words_ext (by rw [hml, wordsS_len]) fun j hj => by rw [hms j (by omega), if_pos (by omega), wordsS_get b (by omega)]
    subst hmw
    refine stp ?_
    refine O.call' begin_ok (fun r h1 hr => ?_)
    obtain ⟨rfl, hf1⟩ := hr
    have hF1 : Fr (fun i => i = h.n) H h1 := hf.trans' (hf1.mono fun _ _ h => h.elim)
    have hn1 := hF1.n
    refine stp ?_
    have g1v : h1.get (h.n + 1) = .cells (wcells (List.replicate 16 0)) 0 := by rw [hF1.get _ (by omega) (by omega), gv]
    have g1p : h1.get p = .cells (pre ++ (wcells hs ++ post)) es := by rw [hF1.get _ (by omega) (by omega), hF.get _ hp id, hg]
    have g1m : h1.get h.n = .cells (wcells (wordsS b)) 0 := by rw [hf1.get _ (by have := hf.n; omega) id, gms]
    generalize hh2 : h1.push (.cells _ 0) = h2
    have g2v : h2.get (h.n + 1) = .cells (wcells (List.replicate 16 0)) 0 := by rw [← hh2, Heap.get_push, if_neg (by omega), g1v]
    have g2p : h2.get p = .cells (pre ++ (wcells hs ++ post)) es := by rw [← hh2, Heap.get_push, if_neg (by omega), g1p]
    have g2m : h2.get h.n = .cells (wcells (wordsS b)) 0 := by rw [← hh2, Heap.get_push, if_neg (by omega), g1m]
    have g2b : h2.get h1.n = .cells (wcells beginW) 0 := by rw [← hh2, Heap.get_push, if_pos rfl]; rfl
    have hn2 : h2.n = h1.n + 1 := by rw [← hh2]; rfl
    have hF2 : Fr (fun i => i = h.n) H h2 := by rw [← hh2]; exact hF1.push
    clear hh2
    refine D.how (XOp.mkSliceArrHi (j := 8) rfl (by omega) (by omega)) rfl ?_
    refine stp ?_
    refine D.how (XOp.mkCopy (xs := wcells hs) ?_ (put_w (ys := hs) g2v (by simp [hl]))) rfl ?_
    · show cellsAt h2 p pre.length 8 = _
      rw [cellsAt_of (c := pre ++ (wcells hs ++ post)) (by rw [g2p]; rfl) (by simp [wcells_len, hl]), List.drop_left, List.take_append_of_le_length (by simp [wcells_len, hl]), List.take_of_length_le (by simp [wcells_len, hl])]
    refine stp ?_
    rw [show (List.replicate 16 (0 : UInt32)).take 0 ++ (hs ++ (List.replicate 16 0).drop (0 + hs.length)) = hs ++ List.replicate 8 0 from by rw [hl]; rfl]
    refine D.how (XOp.mkSliceArrLo (l := 8) rfl (by omega)) rfl ?_
    refine stp ?_
    refine D.how (XOp.mkCopy (xs := wcells beginW) ?_ (put_w (ws := hs ++ List.replicate 8 0) (es := 0) (ys := beginW) (by rw [Heap.get_set, if_pos rfl]) (by simp [hl, beginW]))) rfl ?_
    · show cellsAt (h2.set (h.n + 1) _) h1.n 0 8 = _
      rw [cellsAt_of (c := wcells beginW) (by rw [Heap.get_set, if_neg (by omega), g2b]; rfl) (by simp [wcells_len, beginW])]
      rfl
    rw [show (hs ++ List.replicate 8 (0 : UInt32)).take (0 + 8 * 1) ++ (beginW ++ List.drop (0 + 8 * 1 + beginW.length) (hs ++ List.replicate 8 (0 : UInt32))) = hs ++ beginW from by
      rw [List.take_append_of_le_length (by omega), List.take_of_length_le (by omega), List.drop_eq_nil_of_le (by simp [hl, beginW]), List.append_nil], Heap.set_set]
    have hl0 : (hs ++ beginW).length = 16 := by simp [hl, beginW]
    haveI : WIx (hs ++ beginW) 12 := ⟨by omega⟩
    haveI : WIx (hs ++ beginW) 13 := ⟨by omega⟩
    haveI : WIx (hs ++ beginW) 14 := ⟨by omega⟩
    refine stp ?_
    refine O.how (XOp.shr (q := 32) (by omega)) ?_
    rw [show ((many : Int)).fdiv (2 ^ (min (32 : Int).toNat IntKind.u64.bits)) = ((many / 4294967296 : Nat) : Int) from by
      rw [show (2 : Int) ^ (min (32 : Int).toNat IntKind.u64.bits) = 4294967296 from rfl, Int.fdiv_eq_ediv_of_nonneg _ (by omega)]; omega]
    refine stp ?_
    refine C.ifB (fun hlast => ?_) (fun hlast => ?_)
    all_goals
      refine stp ?_
      generalize hh4 : Heap.push (h2.set (h.n + 1) _) (.strIter _ 0) = h4
      have g4v : h4.get (h.n + 1) = .cells (wcells (startV hs many last)) 0 := by rw [← hh4, Heap.get_push, if_neg (by simp; omega), Heap.get_set, if_pos rfl, hlast]; rfl
      have g4m : h4.get h.n = .cells (wcells (wordsS b)) 0 := by rw [← hh4, Heap.get_push, if_neg (by simp; omega), Heap.get_set, if_neg (by omega), g2m]
      have g4p : h4.get p = .cells (pre ++ (wcells hs ++ post)) es := by rw [← hh4, Heap.get_push, if_neg (by simp; omega), Heap.get_set, if_neg (by omega), g2p]
      have g4s : h4.get h2.n = .strIter rowsS 0 := by rw [← hh4, Heap.get_push, if_pos (by simp)]
      have hn4 : h4.n = h2.n + 1 := by rw [← hh4]; simp
      have hF4 : Fr (fun i => i = h.n ∨ i = h.n + 1) H h4 := by rw [← hh4]; exact ((hF2.mono fun _ _ h => .inl h).set fun _ => .inr rfl).push
      clear hh4
      simp only [Heap.n_set]
      have hsz : rowsS.size = 160 := by rfl
      have hvl : (startV hs many last).length = 16 := startV_len hl
      have hwl := wordsS_len b
      generalize hVe : startV hs many last = V at *
      generalize hWe : wordsS b = W at *
      clear g2v g2p g2m g2b g1v g1p g1m gms hms gm gv
      refine blake_words_block_l4_rule (fun m v14 h' => ∃ r k : Nat, r ≤ 10 ∧ k < 16 ∧ (r = 10 → k = 0) ∧ m = 160 - (16 * r + k) ∧ Own h' 1 v14 (wcells ((List.range k).map (wat W r))) k ∧ (∀ i, ownedBy v14 i → h4.n ≤ i) ∧ h'.get h2.n = .strIter rowsS (16 * r + k) ∧ h'.get (h.n + 1) = .cells (wcells (roundsS W V r)) 0 ∧ Fr (fun i => i = h.n + 1 ∨ i = h2.n) h4 h') ?_ 160 ⟨0, 0, by omega, by omega, by omega, rfl, .none, fun i hi => hi.elim, g4s, g4v, Fr.refl⟩
      rintro m v14 h' x16 x17 x18 x77 x78 x79 x80 x81 x82 x83 x84 x85 x86 x87 x88 x89 x90 x91 x92 x93 x94 x95 x96 x97 x98 x99 x100 x101 x102 x103 x104 x105 x106 x107 x108 x109 x110 x111 x112 x113 x114 x115 x116 x117 x118 x119 x120 x121 x122 x123 x124 x125 x126 x127 x128 x129 x130 x131 x132 x133 x134 x135 x136 x137 x138 x139 x140 x141 x142 x143 x144 x145 x146 x147 x148 x149 x150 x151 x152 ⟨r, k, hr, hk, hrk, rfl, ho, hnew, gs, gvr, hf⟩
      have gmr : h'.get h.n = .cells (wcells W) 0 := by rw [hf.get _ (by omega) (by omega), g4m]
      have hn' := hf.n
      haveI : HGet h' h2.n _ := ⟨gs⟩
      refine stp ?_
      by_cases hpos : 16 * r + k < 160
      · obtain ⟨hdec, hd⟩ := rows_get hpos
        refine O.how (XOp.mkNextStr (by rw [hsz]; omega)) ?_
        simp only [hdec]
        generalize hh5 : h'.set h2.n (.strIter rowsS (16 * r + k + 1)) = h5
        have g5s : h5.get h2.n = .strIter rowsS (16 * r + k + 1) := by rw [← hh5, Heap.get_set, if_pos rfl]
        have g5m : h5.get h.n = .cells (wcells W) 0 := by rw [← hh5, Heap.get_set, if_neg (by omega), gmr]
        have g5v : h5.get (h.n + 1) = .cells (wcells (roundsS W V r)) 0 := by rw [← hh5, Heap.get_set, if_neg (by omega), gvr]
        have ho5 : Own h5 1 v14 (wcells ((List.range k).map (wat W r))) k := ho.keep (S := fun i => i = h2.n) (by rw [← hh5]; exact Fr.refl.set fun _ => rfl) fun i hi e => by have := hnew i hi; omega
        have hf5 : Fr (fun i => i = h.n + 1 ∨ i = h2.n) h4 h5 := by rw [← hh5]; exact hf.set fun _ => .inr rfl
        have hn5 : h5.n = h'.n := by rw [← hh5]; simp
        clear hh5
        refine stp ?_
        refine O.call' (Index_ok hd) (fun r1 h6 hr1 => ?_)
        obtain ⟨rfl, rfl⟩ := hr1
        haveI : HGet h6 h.n _ := ⟨g5m⟩
        haveI : WIx W (sigma.getD (16 * r + k) 0) := ⟨by omega⟩
        refine stp ?_
        have hpush : Fr (fun _ => False) h6 (h6.push (.cells [.int .u32 ((W.getD (sigma.getD (16 * r + k) 0) 0).toNat : Nat)] 0)) := Fr.refl.push
        refine O.append (ho5.keep hpush fun _ _ => id) (Rd.new (Rd.mk (c := [.int .u32 ((W.getD (sigma.getD (16 * r + k) 0) 0).toNat : Nat)]) (by simp) (by rw [cellsAt_of (c := [.int .u32 ((W.getD (sigma.getD (16 * r + k) 0) 0).toNat : Nat)]) (by rw [Heap.get_push, if_pos rfl]; rfl) (by simp)]; rfl)) _) (by simp) rfl (by omega) (by omega) (by omega) (fun v' h7 h8 h9 h10 => ?_)
        rw [show wcells ((List.range k).map (wat W r)) ++ [.int .u32 ((W.getD (sigma.getD (16 * r + k) 0) 0).toNat : Nat)] = wcells ((List.range (k + 1)).map (wat W r)) from by
          rw [List.range_succ, List.map_append, wcells_append]; rfl] at h8
        have hn9 := h9.n
        simp only [Heap.n_push] at hn9 h10
        have hnew' : ∀ i, ownedBy v' i → h4.n ≤ i := fun i hi => by
          rcases h10 i hi with h | h
          · exact hnew i h
          · omega
        have hf7 : Fr (fun i => i = h.n + 1 ∨ i = h2.n) h4 h7 := Fr.trans (S := fun i => i = h.n + 1 ∨ i = h2.n) hf5.push h9 fun i hi h => by have := hnew i h; omega
        have g7s : h7.get h2.n = .strIter rowsS (16 * r + k + 1) := by rw [h9.get _ (by simp; omega) (fun h => by have := hnew _ h; omega), Heap.get_push, if_neg (by omega), g5s]
        have g7v : h7.get (h.n + 1) = .cells (wcells (roundsS W V r)) 0 := by rw [h9.get _ (by simp; omega) (fun h => by have := hnew _ h; omega), Heap.get_push, if_neg (by omega), g5v]
        obtain ⟨a', cap', rfl, hlen', hcell'⟩ := h8.rd
        refine stp ?_
        refine C.if (fun hlt => ?_) (fun hge => ?_)
        · refine stp ?_
          exact blake_words_block_l4_again (160 - (16 * r + (k + 1))) (by omega) ⟨r, k + 1, hr, by omega, by omega, rfl, h8, hnew', g7s, g7v, hf7⟩
        obtain rfl : k = 15 := by omega
        obtain ⟨q', o', sp', rfl, hq', hcc'⟩ := hcell' (by omega)
        have hqn := hnew' q' rfl
        rw [Nat.mul_one] at hcc'
        refine stp ?_
        refine blake_words_block_l2_rule (fun m v90 h'' => ∃ i : Nat, i ≤ 4 ∧ m = 4 - i ∧ v90 = .int .i64 i ∧ h''.get (h.n + 1) = .cells (wcells (halfA W r (roundsS W V r) i)) 0 ∧ Fr (fun j => j = h.n + 1) h7 h'') ?_ 4 ⟨0, by omega, rfl, rfl, g7v, Fr.refl⟩
        rintro m v90 h'' x17 x91 x92 x93 x94 x95 x96 x97 x98 x99 x100 x101 x102 x103 x104 x105 x106 x107 x108 x109 x110 x111 x112 x113 x114 x115 x116 x117 ⟨i, hi, rfl, rfl, gA, hfA⟩
        refine stp ?_
        have hrl : (halfA W r (roundsS W V r) i).length = 16 := by rw [halfA_len, roundsS_len, hvl]
        have hnA := hfA.n
        refine C.if (fun hlt => ?_) (fun hge => ?_)
        · have hi : i < 4 := by omega
          have hccA : cellsAt h'' q' o' 16 = some (wcells ((List.range 16).map (wat W r))) := by rw [cellsAt_keep hfA hq' (by omega)]; exact hcc'
          have hrow : ∀ j, j < 16 → Cell h'' q' (o' + j) (.int .u32 ((wat W r j).toNat : Nat)) := fun j hj => by
            have := cell_at hccA hj
            rw [wcells_get (by simpa using hj)] at this
            simpa [List.getD_eq_getElem?_getD, hj] using this
          have e2 : IntKind.i64.wrap (2 * (i : Int)) = 2 * i := mul_in (by omega)
          haveI c0 := hrow (2 * i) (by omega)
          haveI c1 := hrow (2 * i + 1) (by omega)
          haveI : WIx (halfA W r (roundsS W V r) i) i := ⟨by omega⟩
          haveI : WIx (halfA W r (roundsS W V r) i) (4 + i) := ⟨by omega⟩
          haveI : WIx (halfA W r (roundsS W V r) i) (8 + i) := ⟨by omega⟩
          haveI : WIx (halfA W r (roundsS W V r) i) (12 + i) := ⟨by omega⟩
          refine stp ?_
          rw [show o' + (IntKind.i64.wrap (2 * (i : Int))).toNat * 1 = o' + 2 * i from by rw [e2]; omega]
          refine stp ?_
          rw [show o' + (IntKind.i64.wrap (2 * (i : Int)) + 1).toNat * 1 = o' + (2 * i + 1) from by rw [e2]; omega]
          refine stp ?_
          rw [show 0 + ((4 : Int) + (i : Int)).toNat * 1 = 4 + i from by omega, show 0 + ((8 : Int) + (i : Int)).toNat * 1 = 8 + i from by omega, show 0 + ((12 : Int) + (i : Int)).toNat * 1 = 12 + i from by omega]
          refine D.callX (mix_ok (a := i) (b := 4 + i) (c := 8 + i) (d := 12 + i) gA (by omega)) (fun r1 h1' hr1 => rfl) (fun r1 h8' hr1 => ?_) (fun _ _ hx => hx.elim)
          refine stp ?_
          exact blake_words_block_l2_again (4 - (i + 1)) (by omega) ⟨i + 1, by omega, rfl, rfl, hr1.1, hfA.trans' hr1.2⟩
        · obtain rfl : i = 4 := by omega
          clear hge
          refine stp ?_
          refine blake_words_block_l3_rule (fun m v118 h3 => ∃ i : Nat, i ≤ 4 ∧ m = 4 - i ∧ v118 = .int .i64 i ∧ h3.get (h.n + 1) = .cells (wcells (halfB W r (halfA W r (roundsS W V r) 4) i)) 0 ∧ Fr (fun j => j = h.n + 1) h7 h3) ?_ 4 ⟨0, by omega, rfl, rfl, gA, hfA⟩
          rintro m v118 h3 x18 x119 x120 x121 x122 x123 x124 x125 x126 x127 x128 x129 x130 x131 x132 x133 x134 x135 x136 x137 x138 x139 x140 x141 x142 x143 x144 x145 x146 x147 x148 x149 x150 x151 x152 ⟨i, hi, rfl, rfl, gB, hfB⟩
          refine stp ?_
          have hrl : (halfB W r (halfA W r (roundsS W V r) 4) i).length = 16 := by rw [halfB_len, hrl]
          have hnB := hfB.n
          refine C.if (fun hlt => ?_) (fun hge => ?_)
          · have hi : i < 4 := by omega
            have hccA : cellsAt h3 q' o' 16 = some (wcells ((List.range 16).map (wat W r))) := by rw [cellsAt_keep hfB hq' (by omega)]; exact hcc'
            have hrow : ∀ j, j < 16 → Cell h3 q' (o' + j) (.int .u32 ((wat W r j).toNat : Nat)) := fun j hj => by
              have := cell_at hccA hj
              rw [wcells_get (by simpa using hj)] at this
              simpa [List.getD_eq_getElem?_getD, hj] using this
            have e2 : IntKind.i64.wrap (2 * (i : Int)) = 2 * i := mul_in (by omega)
            haveI c0 := hrow (8 + 2 * i) (by omega)
            haveI c1 := hrow (9 + 2 * i) (by omega)
            haveI : WIx (halfB W r (halfA W r (roundsS W V r) 4) i) i := ⟨by omega⟩
            haveI : WIx (halfB W r (halfA W r (roundsS W V r) 4) i) (4 + (i + 1) % 4) := ⟨by omega⟩
            haveI : WIx (halfB W r (halfA W r (roundsS W V r) 4) i) (8 + (i + 2) % 4) := ⟨by omega⟩
            haveI : WIx (halfB W r (halfA W r (roundsS W V r) 4) i) (12 + (i + 3) % 4) := ⟨by omega⟩
            refine stp ?_
            refine D.how (XOp.remI (by decide)) rfl ?_
            rw [show ((i : Int) + 1).tmod 4 = ((i + 1) % 4 : Nat) from by rw [Int.tmod_eq_emod_of_nonneg (by omega)]; omega]
            refine stp ?_
            refine D.how (XOp.remI (by decide)) rfl ?_
            rw [show ((i : Int) + 2).tmod 4 = ((i + 2) % 4 : Nat) from by rw [Int.tmod_eq_emod_of_nonneg (by omega)]; omega]
            refine stp ?_
            refine D.how (XOp.remI (by decide)) rfl ?_
            rw [show ((i : Int) + 3).tmod 4 = ((i + 3) % 4 : Nat) from by rw [Int.tmod_eq_emod_of_nonneg (by omega)]; omega]
            refine stp ?_
            rw [show o' + (8 + IntKind.i64.wrap (2 * (i : Int))).toNat * 1 = o' + (8 + 2 * i) from by rw [e2]; omega]
            refine stp ?_
            rw [show o' + (9 + IntKind.i64.wrap (2 * (i : Int))).toNat * 1 = o' + (9 + 2 * i) from by rw [e2]; omega]
            refine stp ?_
            rw [show 0 + ((4 : Int) + (((i + 1) % 4 : Nat) : Int)).toNat * 1 = 4 + (i + 1) % 4 from by omega, show 0 + ((8 : Int) + (((i + 2) % 4 : Nat) : Int)).toNat * 1 = 8 + (i + 2) % 4 from by omega, show 0 + ((12 : Int) + (((i + 3) % 4 : Nat) : Int)).toNat * 1 = 12 + (i + 3) % 4 from by omega]
            refine D.callX (mix_ok (a := i) (b := 4 + (i + 1) % 4) (c := 8 + (i + 2) % 4) (d := 12 + (i + 3) % 4) gB (by omega)) (fun r1 h1' hr1 => rfl) (fun r1 h8' hr1 => ?_) (fun _ _ hx => hx.elim)
            refine stp ?_
            exact blake_words_block_l3_again (4 - (i + 1)) (by omega) ⟨i + 1, by omega, rfl, rfl, hr1.1, hfB.trans' hr1.2⟩
          · obtain rfl : i = 4 := by omega
            refine stp ?_
            exact blake_words_block_l4_again (160 - (16 * (r + 1) + 0)) (by omega) ⟨r + 1, 0, by omega, by omega, by omega, rfl, .none, fun i hi => hi.elim, by rw [hfB.get _ (by omega) (by omega), g7s]; congr 1, gB, Fr.trans (S := fun i => i = h.n + 1 ∨ i = h2.n) hf7 hfB fun i _ h => .inl h⟩
      · obtain ⟨rfl, rfl⟩ : r = 10 ∧ k = 0 := by omega
        refine O.how (XOp.mkNextEnd (by rw [hsz]; omega)) ?_
        refine stp ?_
        have hpp : p ≠ h.n + 1 ∧ p ≠ h2.n := by omega
        have gp : h'.get p = .cells (pre ++ (wcells hs ++ post)) es := by rw [hf.get _ (by omega) (by omega), g4p]
        have hfh : Fr (fun i => i = p) h h' := Fr.trans (S := fun i => i = p) (S' := fun i => i = h.n ∨ i = h.n + 1 ∨ i = h2.n) (hF.mono fun _ _ h => h.elim) (Fr.trans (S := fun i => i = h.n ∨ i = h.n + 1 ∨ i = h2.n) (hF4.mono fun i _ h => by omega) hf fun i _ h => by omega) fun i hi h => by omega
        have hvl' : (roundsS W V 10).length = 16 := by rw [roundsS_len, hvl]
        generalize hVV : roundsS W V 10 = VV at *
        refine blake_words_block_l5_rule (fun m v153 h'' => ∃ k : Nat, k ≤ 8 ∧ m = 8 - k ∧ v153 = .int .i64 k ∧ (∃ hs', h''.get p = .cells (pre ++ (wcells hs' ++ post)) es ∧ hs'.length = 8 ∧ ∀ j, j < 8 → hs'.getD j 0 = if j < k then hs.getD j 0 ^^^ (VV.getD j 0 ^^^ VV.getD (j + 8) 0) else hs.getD j 0) ∧ Fr (fun i => i = p) h' h'') ?_ 8 ⟨0, by omega, rfl, rfl, ⟨hs, gp, hl, fun j hj => by rw [if_neg (by omega)]⟩, Fr.refl⟩
        rintro m v153 h'' x19 x154 x155 x156 x157 x158 x159 x160 x161 x162 x163 x164 x165 x166 x167 x168 x169 x170 x171 x172 ⟨k, hk, rfl, rfl, ⟨hs', gp', hl', hgp⟩, hf'⟩
        refine stp ?_
        refine C.if (fun hlt => ?_) (fun hge => ?_)
        · have hk : k < 8 := by omega
          haveI := mid_cell gp' (k := k) (by omega)
          haveI : HGet h'' (h.n + 1) (.cells (wcells VV) 0) := ⟨by rw [hf'.get _ (by omega) (by omega), gvr]⟩
          haveI : WIx VV k := ⟨by omega⟩
          haveI : WIx VV (k + 8) := ⟨by omega⟩
          haveI := fun w => mid_put (w := w) gp' (k := k) (by omega)
          refine stp ?_
          rw [show 0 + ((k : Int) + 8).toNat * 1 = k + 8 from by omega]
          refine stp ?_
          refine blake_words_block_l5_again (8 - (k + 1)) (by omega) ⟨k + 1, by omega, rfl, rfl, ⟨_, by rw [Heap.get_set, if_pos rfl], by simpa using hl', fun j hj => ?_⟩, hf'.set fun _ => rfl⟩
          rw [getD_set (by omega)]
          by_cases e : j = k
          · rw [if_pos e, e, if_pos (by omega), hgp k hk, if_neg (by omega)]
          · rw [if_neg e, hgp j hj]
            by_cases e2 : j < k
            · rw [if_pos e2, if_pos (by omega)]
            · rw [if_neg e2, if_neg (by omega)]
        · obtain rfl : k = 8 := by omega
          have hout : hs' = outS hs VV := words_ext (by rw [hl']; rfl) fun j hj => by
            rw [hgp j (by omega), if_pos (by omega)]
            simp [outS, List.getD_eq_getElem?_getD, show j < 8 from by omega]
          refine stp ?_
          exact ⟨by rw [gp', hout, ← hVV, ← hVe, ← hWe]; rfl, hfh.trans' hf'⟩
end Go.Proofs.YtbmpalbdbcjieaaGreat.K
