/- Contracts of the document's BLAKE2s (landfallref03), 3: a block. -/
import Derived.Test.YtcapkoclbmaahaaBL6k
import Derived.Test.YtcapkoclbmaahaaVK
namespace Go.Proofs.Ytcapkoclbmaahaa.A
open Go Go.Vm
set_option maxRecDepth 10000
set_option linter.unusedVariables false
set_option synthInstance.maxSize 1000
set_option synthInstance.maxHeartbeats 200000

theorem word_eq (b : List UInt8) (k : Nat) : wordS b k = (b.getD (4 * k) 0).toUInt32 ||| (b.getD (4 * k + 1) 0).toUInt32 <<< UInt32.ofNat 8 ||| (b.getD (4 * k + 2) 0).toUInt32 <<< UInt32.ofNat 16 ||| (b.getD (4 * k + 3) 0).toUInt32 <<< UInt32.ofNat 24 := by
  have hg : ∀ j, (b.drop (4 * k)).getD j 0 = b.getD (4 * k + j) 0 := fun j => by
    simp only [List.getD_eq_getElem?_getD, List.getElem?_drop]
  unfold wordS
  simp only [pw, hg]
  rw [show UInt32.ofNat (8 * 0) = 0 from rfl, UInt32.shiftLeft_zero, UInt32.zero_or]
  rfl

set_option maxHeartbeats 4000000 in
theorem block_okD {h : Heap} {q : Nat} {hs : List UInt32} {b : List UInt8} {v : Value} {many : Nat} {last : Bool} (hl : hs.length = 8) (hv : Sl h v q b) (hb : b.length = 64) (hm : many < 4294967296) :
    Runs Try.prog T0 (.fn fn_landfallref03_block) [.agg ⟨wcells hs⟩, v, .int .i64 (many : Nat), .bool last] h (fun r h' => r = .agg ⟨wcells (blockS hs b many last)⟩ ∧ Fr (fun _ => False) h h') (fun _ _ => False) := by
  haveI : WLen hs 8 := ⟨hl⟩
  obtain ⟨o, sp, cap, cs, es', rfl, hs2, hs3, hs4, hs5, hs6⟩ := hv.ex
  refine landfallref03_block_runs ?_
  refine stp ?_
  generalize hH : ((h.push (.cells (wcells hs) 0)).push (.cells _ 0)).push (.cells _ 0) = H
  have hHn : H.n = h.n + 3 := by rw [← hH]; rfl
  have gh : H.get h.n = .cells (wcells hs) 0 := by rw [← hH, Heap.get_push, if_neg (by simp; omega), Heap.get_push, if_neg (by simp), Heap.get_push, if_pos rfl]
  have go : H.get (h.n + 1) = .cells (wcells (List.replicate 8 0)) 0 := by rw [← hH, Heap.get_push, if_neg (by simp), Heap.get_push, if_pos (by simp)]; rfl
  have gm : H.get (h.n + 2) = .cells (wcells (List.replicate 16 0)) 0 := by rw [← hH, Heap.get_push, if_pos (by simp)]; rfl
  have hF : Fr (fun _ => False) h H := by rw [← hH]; exact Fr.refl.push.push.push
  clear hH
  simp only [Heap.n_push]
  refine landfallref03_block_l0_rule (fun m v10 h' => ∃ k : Nat, k ≤ 16 ∧ m = 16 - k ∧ v10 = .int .i64 k ∧ (∃ ms : List UInt32, h'.get (h.n + 2) = .cells (wcells ms) 0 ∧ ms.length = 16 ∧ ∀ j, j < 16 → ms.getD j 0 = if j < k then wordS b j else 0) ∧ Fr (fun i => i = h.n + 2) H h') ?_ 16 ⟨0, by omega, rfl, rfl, ⟨_, gm, by simp, fun j hj => by rw [if_neg (by omega)]; simp only [List.getD_eq_getElem?_getD, List.getElem?_replicate, if_pos hj]; rfl⟩, Fr.refl⟩
  rintro m v10 h' x18 x19 x20 x21 x22 x23 x24 x25 x26 x27 x28 x29 x30 x31 x32 x33 x34 x35 x36 x37 x38 x39 x40 x41 x42 x43 x44 x45 x46 x47 x48 x49 x50 x51 x52 x53 x54 x55 x56 ⟨k, hk, rfl, rfl, ⟨ms, gms, hml, hms⟩, hf⟩
  refine stp ?_
  refine C.if (fun hlt => ?_) (fun hge => ?_)
  · have hk : k < 16 := by omega
    have hcc : cellsAt h' q o b.length = some (bcells b) := by rw [← hs6, cellsAt_keep hf (by omega) (by omega), cellsAt_keep hF hs3 id]
    haveI c0 := byte_cell (k := 4 * k) hcc (by omega)
    haveI c1 := byte_cell (k := 4 * k + 1) hcc (by omega)
    haveI c2 := byte_cell (k := 4 * k + 2) hcc (by omega)
    haveI c3 := byte_cell (k := 4 * k + 3) hcc (by omega)
    haveI : HGet h' (h.n + 2) _ := ⟨gms⟩
    haveI : WIx ms k := ⟨by omega⟩
    have e4 : IntKind.i64.wrap (4 * (k : Int)) = 4 * k := mul_in (by omega)
    refine stp ?_
    rw [show o + (IntKind.i64.wrap (4 * (k : Int))).toNat * 1 = o + 4 * k from by rw [e4]; omega]
    refine stp ?_
    rw [show o + (IntKind.i64.wrap (4 * (k : Int)) + 1).toNat * 1 = o + (4 * k + 1) from by rw [e4]; omega]
    refine stp ?_
    refine D.how (XOp.shlW 8 rfl (by omega)) rfl ?_
    refine stp ?_
    rw [show o + (IntKind.i64.wrap (4 * (k : Int)) + 2).toNat * 1 = o + (4 * k + 2) from by rw [e4]; omega]
    refine stp ?_
    refine D.how (XOp.shlW 16 rfl (by omega)) rfl ?_
    refine stp ?_
    rw [show o + (IntKind.i64.wrap (4 * (k : Int)) + 3).toNat * 1 = o + (4 * k + 3) from by rw [e4]; omega]
    refine stp ?_
    refine D.how (XOp.shlW 24 rfl (by omega)) rfl ?_
    refine stp ?_
    rw [← word_eq b k]
    refine landfallref03_block_l0_again (16 - (k + 1)) (by omega) ⟨k + 1, by omega, rfl, rfl, ⟨_, by rw [Heap.get_set, if_pos rfl], by simpa using hml, fun j hj => ?_⟩, hf.set fun _ => rfl⟩
    rw [getD_set (by omega)]
    by_cases e : j = k
    · rw [if_pos e, e, if_pos (by omega)]
    · rw [if_neg e, hms j hj]
      by_cases e2 : j < k
      · rw [if_pos e2, if_pos (by omega)]
      · rw [if_neg e2, if_neg (by omega)]
  · obtain rfl : k = 16 := by omega
    have hmw : ms = wordsS b := words_ext (by rw [hml, wordsS_len]) fun j hj => by rw [hms j (by omega), if_pos (by omega), wordsS_get b (by omega)]
    subst hmw
    clear hms hge hs6 hs5 hs4
    refine stp ?_
    generalize hH1 : h'.push (.cells _ 0) = H1
    have hn' := hf.n
    have g1v : H1.get h'.n = .cells (wcells (List.replicate 16 0)) 0 := by rw [← hH1, Heap.get_push, if_pos rfl]; rfl
    have g1m : H1.get (h.n + 2) = .cells (wcells (wordsS b)) 0 := by rw [← hH1, Heap.get_push, if_neg (by omega), gms]
    have g1h : H1.get h.n = .cells (wcells hs) 0 := by rw [← hH1, Heap.get_push, if_neg (by omega), hf.get _ (by omega) (by omega), gh]
    have g1o : H1.get (h.n + 1) = .cells (wcells (List.replicate 8 0)) 0 := by rw [← hH1, Heap.get_push, if_neg (by omega), hf.get _ (by omega) (by omega), go]
    have hn1 : H1.n = h'.n + 1 := by rw [← hH1]; rfl
    have hF1 : Fr (fun _ => False) h H1 := by rw [← hH1]; exact (Fr.trans (S := fun _ => False) (S' := fun i => i = h.n + 2) hF hf fun i hi h => by omega).push
    clear hH1 gms go gm gh
    generalize h'.n = vq at *
    clear hf hF
    refine landfallref03_block_l1_rule (fun m v12 h' => ∃ k : Nat, k ≤ 8 ∧ m = 8 - k ∧ v12 = .int .i64 k ∧ (∃ vs : List UInt32, h'.get vq = .cells (wcells vs) 0 ∧ vs.length = 16 ∧ ∀ j, j < 16 → vs.getD j 0 = if j < k then hs.getD j 0 else if 8 ≤ j ∧ j < 8 + k then beginW.getD (j - 8) 0 else 0) ∧ Fr (fun i => i = vq) H1 h') ?_ 8 ⟨0, by omega, rfl, rfl, ⟨_, g1v, by simp, fun j hj => by rw [if_neg (by omega), if_neg (by omega)]; simp only [List.getD_eq_getElem?_getD, List.getElem?_replicate, if_pos hj]; rfl⟩, Fr.refl⟩
    rintro m v12 h' x57 x58 x59 x60 x61 x62 x63 x64 x65 x66 x67 x68 x69 x70 x71 ⟨k, hk, rfl, rfl, ⟨vs, gvs, hvl, hvs⟩, hf⟩
    refine stp ?_
    refine C.if (fun hlt => ?_) (fun hge => ?_)
    · have hk : k < 8 := by omega
      haveI : HGet h' vq _ := ⟨gvs⟩
      haveI : HGet h' h.n (.cells (wcells hs) 0) := ⟨by rw [hf.get _ (by omega) (by omega), g1h]⟩
      haveI : WIx hs k := ⟨by omega⟩
      haveI : WIx vs k := ⟨by omega⟩
      haveI : WIx vs (k + 8) := ⟨by omega⟩
      haveI : WIx beginW k := ⟨by show k < 8; omega⟩
      refine stp ?_
      refine O.call' begin_okD (fun r h2 hr => ?_)
      obtain ⟨rfl, hf2⟩ := hr
      have hn2 := hf2.n
      simp only [Heap.n_set] at hn2
      haveI : HGet h2 vq (.cells (wcells (vs.set k (hs.getD k 0))) 0) := ⟨by rw [hf2.get _ (by have := hf.n; simp; omega) id, Heap.get_set, if_pos rfl]⟩
      refine stp ?_
      refine O.how (XOp.mkIndex1 (m := k) k rfl (by omega) (by omega)) ?_
      refine stp ?_
      rw [show 0 + ((k : Int) + 8).toNat * 1 = k + 8 from by omega]
      refine stp ?_
      refine landfallref03_block_l1_again (8 - (k + 1)) (by omega) ⟨k + 1, by omega, rfl, rfl, ⟨_, by rw [Heap.get_set, if_pos rfl], by simpa using hvl, fun j hj => ?_⟩, Fr.set (Fr.trans' (Fr.set hf fun _ => rfl) (hf2.mono fun _ _ h => h.elim)) fun _ => rfl⟩
      rw [getD_set (by simp; omega), getD_set (by omega), hvs j hj]
      by_cases e1 : j = k + 8
      · rw [if_pos e1, if_neg (show ¬ j < k + 1 by omega), if_pos (show 8 ≤ j ∧ j < 8 + (k + 1) by omega)]
        congr 1; omega
      · rw [if_neg e1]
        by_cases e2 : j = k
        · rw [if_pos e2, if_pos (show j < k + 1 by omega), e2]
        · rw [if_neg e2]
          by_cases e3 : j < k
          · rw [if_pos e3, if_pos (show j < k + 1 by omega)]
          · rw [if_neg e3, if_neg (show ¬ j < k + 1 by omega)]
            by_cases e4 : 8 ≤ j ∧ j < 8 + k
            · rw [if_pos e4, if_pos (show 8 ≤ j ∧ j < 8 + (k + 1) by omega)]
            · rw [if_neg e4, if_neg (show ¬ (8 ≤ j ∧ j < 8 + (k + 1)) by omega)]
    · obtain rfl : k = 8 := by omega
      have hvb : vs = hs ++ beginW := words_ext (by rw [hvl, List.length_append, hl]; rfl) fun j hj => by
        rw [hvs j (by omega)]
        simp only [List.getD_eq_getElem?_getD]
        by_cases e : j < 8
        · rw [if_pos e, List.getElem?_append_left (by omega)]
        · rw [if_neg e, if_pos (by omega), List.getElem?_append_right (by omega), hl]
      subst hvb
      clear hvs hge
      haveI : WIx (hs ++ beginW) 12 := ⟨by omega⟩
      haveI : WIx (hs ++ beginW) 13 := ⟨by omega⟩
      haveI : WIx (hs ++ beginW) 14 := ⟨by omega⟩
      haveI : HGet h' vq _ := ⟨gvs⟩
      refine stp ?_
      refine O.how (XOp.shr (q := 32) (by omega)) ?_
      rw [show ((many : Int)).fdiv (2 ^ (min (32 : Int).toNat IntKind.u64.bits)) = ((many / 4294967296 : Nat) : Int) from by
        rw [show (2 : Int) ^ (min (32 : Int).toNat IntKind.u64.bits) = 4294967296 from rfl, Int.fdiv_eq_ediv_of_nonneg _ (by omega)]; omega]
      refine stp ?_
      refine C.ifB (fun hlast => ?_) (fun hlast => ?_)
      all_goals
        refine stp ?_
        have hn2 := hf.n
        generalize hh4 : h'.set vq _ = h4
        have g4v : h4.get vq = .cells (wcells (startV hs many last)) 0 := by rw [← hh4, Heap.get_set, if_pos rfl, hlast]; rfl
        have g4m : h4.get (h.n + 2) = .cells (wcells (wordsS b)) 0 := by rw [← hh4, Heap.get_set, if_neg (by omega), hf.get _ (by omega) (by omega), g1m]
        have g4h : h4.get h.n = .cells (wcells hs) 0 := by rw [← hh4, Heap.get_set, if_neg (by omega), hf.get _ (by omega) (by omega), g1h]
        have g4o : h4.get (h.n + 1) = .cells (wcells (List.replicate 8 0)) 0 := by rw [← hh4, Heap.get_set, if_neg (by omega), hf.get _ (by omega) (by omega), g1o]
        have hn4 : h4.n = h'.n := by rw [← hh4]; simp
        have hF4 : Fr (fun _ => False) h h4 := by rw [← hh4]; exact Fr.set (Fr.trans (S := fun _ => False) (S' := fun i => i = vq) hF1 hf fun i hi h => by omega) fun h => by omega
        clear hh4 gvs
        have hvl' : (startV hs many last).length = 16 := startV_len hl
        have hwl := wordsS_len b
        generalize hVe : startV hs many last = V at *
        generalize hWe : wordsS b = W at *
        refine landfallref03_block_l4_rule (fun m v13 h' => ∃ r : Nat, r ≤ 10 ∧ m = 10 - r ∧ v13 = .int .i64 r ∧ h'.get vq = .cells (wcells (roundsS W V r)) 0 ∧ Fr (fun i => i = vq) h4 h') ?_ 10 ⟨0, by omega, rfl, rfl, g4v, Fr.refl⟩
        rintro m v13 h5 x14 x15 x16 x92 x93 x94 x95 x96 x97 x98 x99 x100 x101 x102 x103 x104 x105 x106 x107 x108 x109 x110 x111 x112 x113 x114 x115 x116 x117 x118 x119 x120 x121 x122 x123 x124 x125 x126 x127 x128 x129 x130 x131 x132 x133 x134 x135 x136 x137 x138 x139 x140 x141 x142 x143 x144 x145 x146 x147 x148 x149 x150 x151 x152 x153 x154 x155 x156 ⟨r, hr, rfl, rfl, g5v, hf5⟩
        have hn5 := hf5.n
        refine stp ?_
        refine C.if (fun hlt => ?_) (fun hge => ?_)
        · have hr : r < 10 := by omega
          refine stp ?_
          refine O.call' (row_okD hr) (fun r1 h6 hr1 => ?_)
          obtain ⟨rfl, hf6⟩ := hr1
          have hn6 := hf6.n
          have hrl := rowS_len hr
          haveI : NLen (rowS r) 16 := ⟨hrl⟩
          refine stp ?_
          generalize hh7 : h6.push (.cells (icells (rowS r)) 0) = h7
          have g7s : h7.get h6.n = .cells (icells (rowS r)) 0 := by rw [← hh7, Heap.get_push, if_pos rfl]
          have g7v : h7.get vq = .cells (wcells (roundsS W V r)) 0 := by rw [← hh7, Heap.get_push, if_neg (by omega), hf6.get _ (by omega) id, g5v]
          have g7m : h7.get (h.n + 2) = .cells (wcells W) 0 := by rw [← hh7, Heap.get_push, if_neg (by omega), hf6.get _ (by omega) id, hf5.get _ (by omega) (by omega), g4m]
          have hn7 : h7.n = h6.n + 1 := by rw [← hh7]; simp
          have hf7 : Fr (fun i => i = vq) h4 h7 := by rw [← hh7]; exact (hf5.trans' (hf6.mono fun _ _ h => h.elim)).push
          clear hh7
          have hrow : ∀ {h8 : Heap}, h8.get h6.n = .cells (icells (rowS r)) 0 → ∀ j, j < 16 → Cell h8 h6.n j (.int .i64 ((sigma.getD (16 * r + j) 0 : Nat) : Int)) := fun {h8} hg j hj => ⟨by
            rw [cellsAt_of (c := icells (rowS r)) (by rw [hg]; rfl) (by rw [icells_len]; omega), take_one _ _ (by rw [icells_len]; omega)]
            have : ∀ (l : List Nat) (j : Nat), j < l.length → lget (icells l) j = .int .i64 ((l.getD j 0 : Nat) : Int) := by
              intro l
              induction l with
              | nil => intro j hj; simp at hj
              | cons a l ih =>
                intro j hj
                cases j with
                | zero => rfl
                | succ j =>
                  show lget (icells l) j = _
                  rw [ih j (by simpa using hj)]
                  simp
            rw [this _ _ (by omega), rowS_get hr hj]⟩
          refine landfallref03_block_l2_rule (fun m v15 h8 => ∃ i : Nat, i ≤ 4 ∧ m = 4 - i ∧ v15 = .int .i64 i ∧ h8.get vq = .cells (wcells (halfA W r (roundsS W V r) i)) 0 ∧ Fr (fun j => j = vq) h7 h8) ?_ 4 ⟨0, by omega, rfl, rfl, g7v, Fr.refl⟩
          rintro m v15 h8 x98 x99 x100 x101 x102 x103 x104 x105 x106 x107 x108 x109 x110 x111 x112 x113 x114 x115 x116 x117 x118 x119 x120 x121 x122 x123 ⟨i, hi, rfl, rfl, gA, hfA⟩
          have hrl2 : (halfA W r (roundsS W V r) i).length = 16 := by rw [halfA_len, roundsS_len, hvl']
          have hnA := hfA.n
          have g8s : h8.get h6.n = .cells (icells (rowS r)) 0 := by rw [hfA.get _ (by omega) (by omega), g7s]
          refine stp ?_
          refine C.if (fun hlt => ?_) (fun hge => ?_)
          · have hi : i < 4 := by omega
            haveI : HGet h8 vq _ := ⟨gA⟩
            haveI : HGet h8 (h.n + 2) (.cells (wcells W) 0) := ⟨by rw [hfA.get _ (by omega) (by omega), g7m]⟩
            haveI : WLen (halfA W r (roundsS W V r) i) 16 := ⟨hrl2⟩
            have hd0 := (rows_get (show 16 * r + 2 * i < 160 by omega)).2
            have hd1 := (rows_get (show 16 * r + (2 * i + 1) < 160 by omega)).2
            haveI : WIx W (sigma.getD (16 * r + 2 * i) 0) := ⟨by omega⟩
            haveI : WIx W (sigma.getD (16 * r + (2 * i + 1)) 0) := ⟨by omega⟩
            haveI c0 := hrow g8s (2 * i) (by omega)
            haveI c1 := hrow g8s (2 * i + 1) (by omega)
            have e2 : IntKind.i64.wrap (2 * (i : Int)) = 2 * i := mul_in (by omega)
            refine stp ?_
            rw [show 0 + (IntKind.i64.wrap (2 * (i : Int))).toNat * 1 = 2 * i from by rw [e2]; omega]
            refine stp ?_
            rw [show 0 + (IntKind.i64.wrap (2 * (i : Int)) + 1).toNat * 1 = 2 * i + 1 from by rw [e2]; omega]
            refine stp ?_
            rw [show ((i : Int) + 4) = ((4 + i : Nat) : Int) from by omega, show ((i : Int) + 8) = ((8 + i : Nat) : Int) from by omega, show ((i : Int) + 12) = ((12 + i : Nat) : Int) from by omega]
            refine D.callX (mix_okD hrl2 (by omega) (by omega) (by omega) (by omega)) (fun r1 h1' hr1 => rfl) (fun r1 h9 hr1 => ?_) (fun _ _ hx => hx.elim)
            obtain ⟨rfl, hf9⟩ := hr1
            haveI := hf9.keep (S := fun _ => False) (b := vq) ⟨gA⟩ (by omega) id
            haveI : WLen (mixS (halfA W r (roundsS W V r) i) i (4 + i) (8 + i) (12 + i) (W.getD (sigma.getD (16 * r + 2 * i) 0) 0) (W.getD (sigma.getD (16 * r + (2 * i + 1)) 0) 0)) 16 := ⟨by rw [mixS_len, hrl2]⟩
            haveI : LenN (wcells (halfA W r (roundsS W V r) i)) 16 := ⟨by rw [wcells_len, hrl2]⟩
            refine stp ?_
            exact landfallref03_block_l2_again (4 - (i + 1)) (by omega) ⟨i + 1, by omega, rfl, rfl, by rw [Heap.get_set, if_pos rfl]; rfl, Fr.set (Fr.trans' hfA (hf9.mono fun _ _ h => h.elim)) fun _ => rfl⟩
          · obtain rfl : i = 4 := by omega
            refine stp ?_
            clear hge
            refine landfallref03_block_l3_rule (fun m v16 h8 => ∃ i : Nat, i ≤ 4 ∧ m = 4 - i ∧ v16 = .int .i64 i ∧ h8.get vq = .cells (wcells (halfB W r (halfA W r (roundsS W V r) 4) i)) 0 ∧ Fr (fun j => j = vq) h7 h8) ?_ 4 ⟨0, by omega, rfl, rfl, gA, hfA⟩
            rintro m v16 h9 x124 x125 x126 x127 x128 x129 x130 x131 x132 x133 x134 x135 x136 x137 x138 x139 x140 x141 x142 x143 x144 x145 x146 x147 x148 x149 x150 x151 x152 x153 x154 x155 x156 ⟨i, hi, rfl, rfl, gB, hfB⟩
            have hrl3 : (halfB W r (halfA W r (roundsS W V r) 4) i).length = 16 := by rw [halfB_len, hrl2]
            have hnB := hfB.n
            have g9s : h9.get h6.n = .cells (icells (rowS r)) 0 := by rw [hfB.get _ (by omega) (by omega), g7s]
            refine stp ?_
            refine C.if (fun hlt => ?_) (fun hge => ?_)
            · have hi : i < 4 := by omega
              haveI : HGet h9 vq _ := ⟨gB⟩
              haveI : HGet h9 (h.n + 2) (.cells (wcells W) 0) := ⟨by rw [hfB.get _ (by omega) (by omega), g7m]⟩
              haveI : WLen (halfB W r (halfA W r (roundsS W V r) 4) i) 16 := ⟨hrl3⟩
              have hd0 := (rows_get (show 16 * r + (8 + 2 * i) < 160 by omega)).2
              have hd1 := (rows_get (show 16 * r + (9 + 2 * i) < 160 by omega)).2
              haveI : WIx W (sigma.getD (16 * r + (8 + 2 * i)) 0) := ⟨by omega⟩
              haveI : WIx W (sigma.getD (16 * r + (9 + 2 * i)) 0) := ⟨by omega⟩
              haveI c0 := hrow g9s (8 + 2 * i) (by omega)
              haveI c1 := hrow g9s (9 + 2 * i) (by omega)
              have e2 : IntKind.i64.wrap (2 * (i : Int)) = 2 * i := mul_in (by omega)
              refine stp ?_
              refine D.how (XOp.remI (by decide)) rfl ?_
              rw [show ((i : Int) + 1).tmod 4 = ((i + 1) % 4 : Nat) from by rw [Int.tmod_eq_emod_of_nonneg (by omega)]; omega]
              refine stp ?_
              refine D.how (XOp.remI (by decide)) rfl ?_
              rw [show ((i : Int) + 2).tmod 4 = ((i + 2) % 4 : Nat) from by rw [Int.tmod_eq_emod_of_nonneg (by omega)]; omega]
              refine stp ?_
              refine D.how (XOp.remI (by decide)) rfl ?_
              rw [show ((i : Int) + 3).tmod 4 = ((i + 3) % 4 : Nat) from by rw [Int.tmod_eq_emod_of_nonneg (by omega)]; omega]
              refine stp ?_
              rw [show 0 + (8 + IntKind.i64.wrap (2 * (i : Int))).toNat * 1 = 8 + 2 * i from by rw [e2]; omega]
              refine stp ?_
              rw [show 0 + (9 + IntKind.i64.wrap (2 * (i : Int))).toNat * 1 = 9 + 2 * i from by rw [e2]; omega]
              refine stp ?_
              rw [show ((4 : Int) + (((i + 1) % 4 : Nat) : Int)) = ((4 + (i + 1) % 4 : Nat) : Int) from by omega, show ((8 : Int) + (((i + 2) % 4 : Nat) : Int)) = ((8 + (i + 2) % 4 : Nat) : Int) from by omega, show ((12 : Int) + (((i + 3) % 4 : Nat) : Int)) = ((12 + (i + 3) % 4 : Nat) : Int) from by omega]
              refine D.callX (mix_okD hrl3 (by omega) (by omega) (by omega) (by omega)) (fun r1 h1' hr1 => rfl) (fun r1 h10 hr1 => ?_) (fun _ _ hx => hx.elim)
              obtain ⟨rfl, hf10⟩ := hr1
              haveI := hf10.keep (S := fun _ => False) (b := vq) ⟨gB⟩ (by omega) id
              haveI : WLen (mixS (halfB W r (halfA W r (roundsS W V r) 4) i) i (4 + (i + 1) % 4) (8 + (i + 2) % 4) (12 + (i + 3) % 4) (W.getD (sigma.getD (16 * r + (8 + 2 * i)) 0) 0) (W.getD (sigma.getD (16 * r + (9 + 2 * i)) 0) 0)) 16 := ⟨by rw [mixS_len, hrl3]⟩
              haveI : LenN (wcells (halfB W r (halfA W r (roundsS W V r) 4) i)) 16 := ⟨by rw [wcells_len, hrl3]⟩
              refine stp ?_
              exact landfallref03_block_l3_again (4 - (i + 1)) (by omega) ⟨i + 1, by omega, rfl, rfl, by rw [Heap.get_set, if_pos rfl]; rfl, Fr.set (Fr.trans' hfB (hf10.mono fun _ _ h => h.elim)) fun _ => rfl⟩
            · obtain rfl : i = 4 := by omega
              refine stp ?_
              exact landfallref03_block_l4_again (10 - (r + 1)) (by omega) ⟨r + 1, by omega, rfl, rfl, gB, hf7.trans' hfB⟩
        · obtain rfl : r = 10 := by omega
          refine stp ?_
          have hvl5 : (roundsS W V 10).length = 16 := by rw [roundsS_len, hvl']
          have g5h : h5.get h.n = .cells (wcells hs) 0 := by rw [hf5.get _ (by omega) (by omega), g4h]
          have g5o : h5.get (h.n + 1) = .cells (wcells (List.replicate 8 0)) 0 := by rw [hf5.get _ (by omega) (by omega), g4o]
          have hF5 : Fr (fun _ => False) h h5 := Fr.trans (S := fun _ => False) (S' := fun i => i = vq) hF4 hf5 fun i hi h => by omega
          generalize hVV : roundsS W V 10 = VV at *
          refine landfallref03_block_l5_rule (fun m v17 h'' => ∃ k : Nat, k ≤ 8 ∧ m = 8 - k ∧ v17 = .int .i64 k ∧ (∃ hs', h''.get h.n = .cells (wcells hs') 0 ∧ hs'.length = 8 ∧ ∀ j, j < 8 → hs'.getD j 0 = if j < k then hs.getD j 0 ^^^ (VV.getD j 0 ^^^ VV.getD (j + 8) 0) else hs.getD j 0) ∧ Fr (fun i => i = h.n) h5 h'') ?_ 8 ⟨0, by omega, rfl, rfl, ⟨hs, g5h, hl, fun j hj => by rw [if_neg (by omega)]⟩, Fr.refl⟩
          rintro m v17 h'' x157 x158 x159 x160 x161 x162 x163 x164 x165 x166 x167 x168 x169 x170 x171 x172 x173 x174 ⟨k, hk, rfl, rfl, ⟨hs', gp', hl', hgp⟩, hf'⟩
          haveI : HGet h'' h.n _ := ⟨gp'⟩
          haveI : WLen hs' 8 := ⟨hl'⟩
          refine stp ?_
          refine C.if (fun hlt => ?_) (fun hge => ?_)
          · have hk : k < 8 := by omega
            haveI : HGet h'' vq (.cells (wcells VV) 0) := ⟨by rw [hf'.get _ (by omega) (by omega), g5v]⟩
            haveI : WIx VV k := ⟨by omega⟩
            haveI : WIx VV (k + 8) := ⟨by omega⟩
            haveI : WIx hs' k := ⟨by omega⟩
            refine stp ?_
            rw [show 0 + ((k : Int) + 8).toNat * 1 = k + 8 from by omega]
            refine stp ?_
            refine landfallref03_block_l5_again (8 - (k + 1)) (by omega) ⟨k + 1, by omega, rfl, rfl, ⟨_, by rw [Heap.get_set, if_pos rfl], by simpa using hl', fun j hj => ?_⟩, hf'.set fun _ => rfl⟩
            rw [getD_set (by omega)]
            by_cases e : j = k
            · rw [if_pos e, e, if_pos (by omega), hgp k hk, if_neg (by omega), UInt32.xor_assoc]
            · rw [if_neg e, hgp j hj]
              by_cases e2 : j < k
              · rw [if_pos e2, if_pos (by omega)]
              · rw [if_neg e2, if_neg (by omega)]
          · obtain rfl : k = 8 := by omega
            have hout : hs' = outS hs VV := words_ext (by rw [hl']; rfl) fun j hj => by
              rw [hgp j (by omega), if_pos (by omega)]
              simp [outS, List.getD_eq_getElem?_getD, show j < 8 from by omega]
            have hn'' := hf'.n
            haveI : HGet h'' (h.n + 1) (.cells (wcells (List.replicate 8 0)) 0) := ⟨by rw [hf'.get _ (by omega) (by omega), g5o]⟩
            haveI : LenN (wcells (List.replicate 8 0)) 8 := ⟨rfl⟩
            refine stp ?_
            refine ⟨?_, Fr.set (Fr.trans (S := fun _ => False) (S' := fun i => i = h.n) hF5 hf' fun i hi h => by omega) fun h => by omega⟩
            rw [hout, ← hVV, ← hVe, ← hWe]; rfl
end Go.Proofs.Ytcapkoclbmaahaa.A
