/- Contracts of BLAKE2s, 2: words of bytes, rounds, blocks. -/
import Derived.Test.YtbmpalbdbcjieaaGreatKBL1KH9
import Derived.Test.YtbmpalbdbcjieaaGreatVK
namespace Go.Proofs.YtbmpalbdbcjieaaGreat.K
open Go Go.Vm
set_option maxRecDepth 10000
set_option linter.unusedVariables false

abbrev digitsS : ByteArray := ⟨⟨[48, 49, 50, 51, 52, 53, 54, 55, 56, 57, 97, 98, 99, 100, 101, 102]⟩⟩
abbrev rowsS : ByteArray := ⟨⟨[48, 49, 50, 51, 52, 53, 54, 55, 56, 57, 97, 98, 99, 100, 101, 102, 101, 97, 52, 56, 57, 102, 100, 54, 49, 99, 48, 50, 98, 55, 53, 51, 98, 56, 99, 48, 53, 50, 102, 100, 97, 101, 51, 54, 55, 49, 57, 52, 55, 57, 51, 49, 100, 99, 98, 101, 50, 54, 53, 97, 52, 48, 102, 56, 57, 48, 53, 55, 50, 52, 97, 102, 101, 49, 98, 99, 54, 56, 51, 100, 50, 99, 54, 97, 48, 98, 56, 51, 52, 100, 55, 53, 102, 101, 49, 57, 99, 53, 49, 102, 101, 100, 52, 97, 48, 55, 54, 51, 57, 50, 56, 98, 100, 98, 55, 101, 99, 49, 51, 57, 53, 48, 102, 52, 56, 54, 50, 97, 54, 102, 101, 57, 98, 51, 48, 56, 99, 50, 100, 55, 49, 52, 97, 53, 97, 50, 56, 52, 55, 54, 49, 53, 102, 98, 57, 101, 51, 99, 100, 48]⟩⟩
/-- the table, row behind row -/
def sigma : List Nat := [0, 1, 2, 3, 4, 5, 6, 7, 8, 9, 10, 11, 12, 13, 14, 15, 14, 10, 4, 8, 9, 15, 13, 6, 1, 12, 0, 2, 11, 7, 5, 3, 11, 8, 12, 0, 5, 2, 15, 13, 10, 14, 3, 6, 7, 1, 9, 4, 7, 9, 3, 1, 13, 12, 11, 14, 2, 6, 5, 10, 4, 0, 15, 8, 9, 0, 5, 7, 2, 4, 10, 15, 14, 1, 11, 12, 6, 8, 3, 13, 2, 12, 6, 10, 0, 11, 8, 3, 4, 13, 7, 5, 15, 14, 1, 9, 12, 5, 1, 15, 14, 13, 4, 10, 0, 7, 6, 3, 9, 2, 8, 11, 13, 11, 7, 14, 12, 1, 3, 9, 5, 0, 15, 4, 8, 6, 2, 10, 6, 15, 14, 9, 11, 3, 0, 8, 12, 2, 13, 7, 1, 4, 10, 5, 10, 2, 8, 4, 7, 6, 1, 5, 15, 11, 9, 14, 3, 12, 13, 0]
def chr16 (d : Nat) : Nat := if d < 10 then 48 + d else 87 + d
theorem rows_at : (List.range 160).all (fun p => decide (Utf8.decode rowsS p = (chr16 (sigma.getD p 0), 1)) && decide (sigma.getD p 0 < 16)) = true := by kernel_rfl
theorem rows_get {p : Nat} (hp : p < 160) : Utf8.decode rowsS p = (chr16 (sigma.getD p 0), 1) ∧ sigma.getD p 0 < 16 := by
  have := List.all_eq_true.1 rows_at p (List.mem_range.2 hp)
  simpa using this
theorem digits_at : (List.range 16).all (fun d => match extV Heap.init .indexByte [.string digitsS, .int .u8 (chr16 d)] with | some (.int .i64 k) => decide (k = d) | _ => false) = true := by kernel_rfl
theorem digits_get {h : Heap} {d : Nat} (hd : d < 16) : extV h .indexByte [.string digitsS, .int .u8 (chr16 d)] = some (.int .i64 (d : Nat)) := by
  have hx := List.all_eq_true.1 digits_at d (List.mem_range.2 hd)
  have hx : (match extV Heap.init .indexByte [.string digitsS, .int .u8 (chr16 d)] with | some (.int .i64 k) => decide (k = (d : Int)) | _ => false) = true := hx
  have e : extV h .indexByte [.string digitsS, .int .u8 (chr16 d)] = extV Heap.init .indexByte [.string digitsS, .int .u8 (chr16 d)] := rfl
  rw [e]
  split at hx
  · rename_i k hk
    rw [hk]
    simp at hx
    rw [hx]
  · cases hx

theorem Index_ok {h : Heap} {d : Nat} (hd : d < 16) :
    Runs Tryz.prog T0 (.fn fn_strings_IndexRune) [.string digitsS, .int .i32 (chr16 d)] h (fun r h' => r = .int .i64 (d : Nat) ∧ h' = h) (fun _ _ => False) := by
  have hx := digits_get (h := h) hd
  have hc : (0 : Int) ≤ (chr16 d : Nat) ∧ ((chr16 d : Nat) : Int) < 128 := by unfold chr16; split <;> omega
  generalize chr16 d = c at *
  refine strings_IndexRune_runs ?_
  refine stp ?_
  refine C.if (fun h1 => ?_) (fun h1 => ?_)
  rotate_left
  · exact absurd hc.2 h1
  refine stp ?_
  refine O.call' (R := fun r h' => r = .int .i64 (d : Nat) ∧ h' = h) ?_ (fun r h1 hr => ?_)
  · refine strings_IndexByte_runs ?_
    refine stp ?_
    refine O.call' (R := fun r h' => r = .int .i64 (d : Nat) ∧ h' = h) ?_ (fun r h1 hr => ?_)
    · refine internal_stringslite_IndexByte_runs ?_
      refine stp ?_
      refine O.by (v := .int .i64 (d : Nat)) (h' := h) ?_ rfl ?_
      · simp only [xop, eval]
        rw [if_pos (by kernel_rfl)]
        show (match extV h .indexByte [.string digitsS, .int .u8 (c : Nat)] with | some v => R.ok v h | none => R.bad) = _
        rw [hx]
      refine stp ?_
      exact ⟨rfl, rfl⟩
    · obtain ⟨rfl, rfl⟩ := hr
      refine stp ?_
      exact ⟨rfl, rfl⟩
  · obtain ⟨rfl, rfl⟩ := hr
    refine stp ?_
    exact ⟨rfl, rfl⟩

/-! words of bytes -/
def pw (b : List UInt8) : Nat → UInt32
  | 0 => 0
  | k + 1 => pw b k ||| (b.getD k 0).toUInt32 <<< UInt32.ofNat (8 * k)
def wordS (b : List UInt8) (i : Nat) : UInt32 := pw (b.drop (4 * i)) 4
def wordsS (b : List UInt8) : List UInt32 := (List.range 16).map (wordS b)

/-- a slice that shows bytes, at a block -/
structure Sl (h : Heap) (v : Value) (q : Nat) (l : List UInt8) : Prop where
  ex : ∃ o sp cap cs es, v = .slice (some ⟨q, o, sp⟩) l.length cap ∧ l.length ≤ cap ∧ q < h.n ∧ h.get q = .cells cs es ∧ (sp ≠ none → es = 1) ∧ cellsAt h q o l.length = some (bcells l)
theorem Sl.keep {S : Nat → Prop} {h h' : Heap} {v : Value} {q : Nat} {l : List UInt8} (hs : Sl h v q l) (hf : Fr S h h') (hq : ¬ S q) : Sl h' v q l := by
  obtain ⟨o, sp, cap, cs, es, h1, h2, h3, h4, h5, h6⟩ := hs.ex
  exact ⟨o, sp, cap, cs, es, h1, h2, hf.lt h3, by rw [hf.get _ h3 hq, h4], h5, by rw [cellsAt_keep hf h3 hq]; exact h6⟩
theorem Sl.lt {h : Heap} {v : Value} {q : Nat} {l : List UInt8} (hs : Sl h v q l) : q < h.n := let ⟨_, _, _, _, _, _, _, h3, _⟩ := hs.ex; h3
theorem Sl.part {h : Heap} {v : Value} {q : Nat} {l : List UInt8} (hs : Sl h v q l) {i j : Nat} (hij : i < j) (hj : j ≤ l.length) :
    ∃ v', Sl h v' q ((l.drop i).take (j - i)) ∧ ∀ {P : Program} {ts : List Value} {x : Operand} {lo hi : Option Operand} [e1 : Ev ts x v], (∀ c, l.length ≤ c → bnd (eval ts) c l.length hi = some j) → bnd (eval ts) j 0 lo = some i → XOp P ts h (.sliceSl 1 x lo hi none) v' h := by
  obtain ⟨o, sp, cap, cs, es, rfl, h2, h3, h4, h5, h6⟩ := hs.ex
  have hl : ((l.drop i).take (j - i)).length = j - i := by rw [List.length_take, List.length_drop]; omega
  refine ⟨.slice (some ⟨q, o + i * 1, sp⟩) (j - i) (cap - i), ⟨o + i * 1, sp, cap - i, cs, es, by rw [hl], by rw [hl]; omega, h3, h4, h5, ?_⟩, fun hh hlo => XOp.mkSl (hh cap h2) hlo hij hj h2 (by omega) h4 h5⟩
  rw [hl, Nat.mul_one, cellsAt_sub h6 (by omega), bcells_drop, bcells_take]

theorem getD_set {l : List UInt32} {i j : Nat} {w : UInt32} (hi : i < l.length) : (l.set i w).getD j 0 = if j = i then w else l.getD j 0 := by
  simp only [List.getD_eq_getElem?_getD, List.getElem?_set]
  by_cases h : i = j
  · subst h; simp [hi]
  · rw [if_neg h, if_neg (Ne.symm h)]
theorem words_ext {l m : List UInt32} (h : l.length = m.length) (hg : ∀ j, j < l.length → l.getD j 0 = m.getD j 0) : l = m := by
  apply List.ext_getElem h
  intro i h1 h2
  have := hg i h1
  simpa [List.getD_eq_getElem?_getD, List.getElem?_eq_getElem h1, List.getElem?_eq_getElem h2] using this
theorem wordsS_len (b : List UInt8) : (wordsS b).length = 16 := by simp [wordsS]
theorem wordsS_get (b : List UInt8) {j : Nat} (hj : j < 16) : (wordsS b).getD j 0 = wordS b j := by
  simp [wordsS, List.getD_eq_getElem?_getD, hj]

def beginW : List UInt32 := [1779033703, 3144134277, 1013904242, 2773480762, 1359893119, 2600822924, 528734635, 1541459225]
abbrev beginC : List Value := [.int .u32 1779033703, .int .u32 3144134277, .int .u32 1013904242, .int .u32 2773480762, .int .u32 1359893119, .int .u32 2600822924, .int .u32 528734635, .int .u32 1541459225]
theorem beginC_eq : beginC = wcells beginW := rfl
theorem begin_ok {h : Heap} : Runs Tryz.prog T0 (.fn fn_blake_begin) [] h (fun r h' => r = .agg ⟨beginC⟩ ∧ Fr (fun _ => False) h h') (fun _ _ => False) := by
  refine blake_begin_runs (v := undef) ?_
  refine stp ?_
  exact ⟨rfl, Fr.refl.push⟩
end Go.Proofs.YtbmpalbdbcjieaaGreat.K
