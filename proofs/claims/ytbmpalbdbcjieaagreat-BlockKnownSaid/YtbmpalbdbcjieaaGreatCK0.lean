/- A run that is cut: states, and how it goes on. -/
import Derived.Test.YtbmpalbdbcjieaaGreatGHB
namespace Go.Proofs.YtbmpalbdbcjieaaGreat.R
open Go Go.Vm
set_option maxRecDepth 100000
/-- what came of a piece of code: these states -/
def stsOK : List Out → List St → Bool
  | [], [] => true
  | .mk .normal s :: l, t :: m => stEq s t && stsOK l m
  | _, _ => false
theorem stsOK_eq : ∀ {l : List Out} {m : List St}, stsOK l m = true → l = m.map (Out.mk .normal)
  | [], [], _ => rfl
  | .mk .normal s :: l, t :: m, h => by
    simp only [stsOK, Bool.and_eq_true] at h
    rw [List.map_cons, stsOK_eq h.2, stEq_eq h.1]
  | .bad :: _, _ :: _, h => by simp [stsOK] at h
  | [], _ :: _, h => by simp [stsOK] at h
  | _ :: _, [], h => by simp [stsOK] at h
  | .mk .ret _ :: _, _ :: _, h => by simp [stsOK] at h
  | .mk (.exit _) _ :: _, _ :: _, h => by simp [stsOK] at h
  | .mk (.panic _) _ :: _, _ :: _, h => by simp [stsOK] at h
def stO : Option St → St → Bool
  | some s, t => stEq s t
  | none, _ => false
theorem stO_eq {o : Option St} {s : St} (h : stO o s = true) : o = some s := by
  cases o with
  | none => simp [stO] at h
  | some t => rw [stEq_eq (show stEq t s = true from h)]
theorem stEq_left {s t : St} (h : stEq s t = true) : stEq t t = true := by
  have e := stEq_eq h
  subst e
  exact h
theorem stO_self {o : Option St} {s : St} (h : stO o s = true) : stEq s s = true := by
  cases o with
  | none => simp [stO] at h
  | some t => exact stEq_left (show stEq t s = true from h)
theorem xc_cut {P : Program} {call : Caller} {L : Nat} {a b : ACode} {s t : St} (h : stsOK (xc P call L a s) [t] = true) : xc P call L (.seq a b) s = xc P call L b t := by
  simp [xc, stsOK_eq h]
theorem xc_cut3 {P : Program} {call : Caller} {L : Nat} {a b : ACode} {s : St} {m : List St} (h : stsOK (xc P call L a s) m = true) : xc P call L (.seq a b) s = m.flatMap (xc P call L b) := by
  simp [xc, stsOK_eq h, List.flatMap_map]
theorem succ_no {P : Program} {call : Caller} {n0 : Nat} {rd : List AOper} {l : List Nat} {s : St} {g : GOp} {gs : List GOp} {acc : LevG} (h : readyG l g = false) : succG P call n0 rd (l, s) (g :: gs) acc = succG P call n0 rd (l, s) gs acc := by
  simp [succG, h]
theorem succ_new {P : Program} {call : Caller} {n0 : Nat} {rd : List AOper} {l k : List Nat} {s t : St} {g : GOp} {gs : List GOp} {acc : LevG} (h : readyG l g = true) (hk : insN g.i l = k) (hw : stO (writeG P call n0 rd s g) t = true) (hf : acc.find? (fun p => p.1 == k) = none) : succG P call n0 rd (l, s) (g :: gs) acc = succG P call n0 rd (l, s) gs ((k, t) :: acc) := by
  simp [succG, h, hk, stO_eq hw, mergeG, hf]
theorem succ_old {P : Program} {call : Caller} {n0 : Nat} {rd : List AOper} {l k k' : List Nat} {s t : St} {g : GOp} {gs : List GOp} {acc : LevG} (h : readyG l g = true) (hk : insN g.i l = k) (hw : stO (writeG P call n0 rd s g) t = true) (hf : acc.find? (fun p => p.1 == k) = some (k', t)) : succG P call n0 rd (l, s) (g :: gs) acc = succG P call n0 rd (l, s) gs acc := by
  simp [succG, h, hk, stO_eq hw, mergeG, hf, stO_self hw]
theorem next_to {P : Program} {call : Caller} {n0 : Nat} {rd : List AOper} {wr : List GOp} {p : List Nat × St} {L acc acc1 : LevG} (h : succG P call n0 rd p wr acc = some acc1) : nextG P call n0 rd wr (p :: L) acc = nextG P call n0 rd wr L acc1 := by
  simp [nextG, h]
theorem levels_to {P : Program} {call : Caller} {n0 n : Nat} {rd : List AOper} {wr : List GOp} {L L1 : LevG} (h : nextG P call n0 rd wr L [] = some L1) : levelsG P call n0 rd wr (n + 1) L = levelsG P call n0 rd wr n L1 := by
  simp [levelsG, h]
theorem out_to {P : Program} {call : Caller} {L : Nat} {rd : List AOper} {wr : List GOp} {s s1 s2 : St} {k : List Nat} {b : ACode} (h1 : stO (readsG P rd { s with h := asideH (countG wr) (gcH s.h (liveG s.h 4000 (blocksL s.ts) [])) }) s1 = true) (h2 : levelsG P call s.h.n rd wr wr.length [([], s1)] = some [(k, s2)]) : xc P call L (.seq (.regionG rd wr) b) s = xc P call L b s2 := by
  simp [xc, outG, runG, stO_eq h1, h2]
def finK (P : Program) (T : Table) (call : Caller) (af : AFunc) : Out → List CO
  | .mk .normal s | .mk .ret s => leave P T call af.results s.ts s.ds .returning s.h
  | .mk (.panic chain) s => leave P T call af.results s.ts s.ds (.panicking chain) s.h
  | _ => [.bad]
theorem xfun_cut {P : Program} {T : Table} {call : Caller} {L : Nat} {af : AFunc} {args : List Value} {h : Heap} {s : St} (hs : { ts := pad args af.ntmps, ds := [], h := h } = s) : xfun P T call L af args h = (xc P call L af.body s).flatMap (finK P T call af) := by
  subst hs
  rfl
theorem allTrue_flat {P : Program} {T : Table} {call : Caller} {L : Nat} {af : AFunc} {c : ACode} : ∀ {m : List St}, (∀ s ∈ m, allTrue ((xc P call L c s).flatMap (finK P T call af)) = true) → allTrue ((m.flatMap (xc P call L c)).flatMap (finK P T call af)) = true
  | [], _ => rfl
  | s :: m, h => by
    have h1 := h s (List.mem_cons_self ..)
    have h2 := allTrue_flat (m := m) fun s hs => h s (List.mem_cons_of_mem _ hs)
    rw [List.flatMap_cons, List.flatMap_append]
    unfold allTrue at h1 h2 ⊢
    rw [List.all_append, h1, h2]
    rfl
noncomputable abbrev cK_call : Caller := xcall Tryz.prog tab 1000 59
noncomputable def cK_rd : List AOper := [
      ⟨(some 35), .load (some 166) (.tmp 1), none, [], false⟩,
      ⟨(some 37), .load (some 166) (.tmp 1), none, [], false⟩,
      ⟨(some 39), .load (some 166) (.tmp 1), none, [], false⟩,
      ⟨(some 41), .load (some 166) (.tmp 1), none, [], false⟩]
noncomputable def cK_w1 : GOp := ⟨1, ⟨(some 36), .callV (.func 20) [(.tmp 35)], none, [], false⟩, [], none⟩
noncomputable def cK_w3 : GOp := ⟨3, ⟨(some 38), .callV (.func 20) [(.tmp 37)], none, [], false⟩, [1], none⟩
noncomputable def cK_w5 : GOp := ⟨5, ⟨(some 40), .callV (.func 20) [(.tmp 39)], none, [], false⟩, [1, 3], none⟩
noncomputable def cK_w7 : GOp := ⟨7, ⟨(some 42), .callV (.func 20) [(.tmp 41)], none, [], false⟩, [1, 3, 5], none⟩
noncomputable def cK_w8 : GOp := ⟨8, ⟨(some 3), .alloc 33 ((.string ⟨⟨[]⟩⟩) :: ((.int .i64 0) :: ((.int .i64 0) :: (z32 ++ (z32 ++ (z32 ++ (z32 ++ ((.int .i64 0) :: (z32 ++ [(.slice none 0 0), (.slice none 0 0)]))))))))), none, [], false⟩, [], (some 0)⟩
noncomputable def cK_w9 : GOp := ⟨9, ⟨(some 4), .alloc 33 ((.string ⟨⟨[]⟩⟩) :: ((.int .i64 0) :: ((.int .i64 0) :: (z32 ++ (z32 ++ (z32 ++ (z32 ++ ((.int .i64 0) :: (z32 ++ [(.slice none 0 0), (.slice none 0 0)]))))))))), none, [], false⟩, [], (some 1)⟩
noncomputable def cK_w10 : GOp := ⟨10, ⟨(some 5), .alloc 33 ((.string ⟨⟨[]⟩⟩) :: ((.int .i64 0) :: ((.int .i64 0) :: (z32 ++ (z32 ++ (z32 ++ (z32 ++ ((.int .i64 0) :: (z32 ++ [(.slice none 0 0), (.slice none 0 0)]))))))))), none, [], false⟩, [], (some 2)⟩
noncomputable def cK_w11 : GOp := ⟨11, ⟨(some 6), .alloc 33 ((.string ⟨⟨[]⟩⟩) :: ((.int .i64 0) :: ((.int .i64 0) :: (z32 ++ (z32 ++ (z32 ++ (z32 ++ ((.int .i64 0) :: (z32 ++ [(.slice none 0 0), (.slice none 0 0)]))))))))), none, [], false⟩, [], (some 3)⟩
noncomputable def cK_w12 : GOp := ⟨12, ⟨none, .store 166 (.tmp 3) (.tmp 36), none, [], false⟩, [1, 3, 5, 7, 8, 9, 10, 11], none⟩
noncomputable def cK_w13 : GOp := ⟨13, ⟨none, .store 166 (.tmp 4) (.tmp 38), none, [], false⟩, [1, 3, 5, 7, 8, 9, 10, 11, 12], none⟩
noncomputable def cK_w14 : GOp := ⟨14, ⟨none, .store 166 (.tmp 5) (.tmp 40), none, [], false⟩, [1, 3, 5, 7, 8, 9, 10, 11, 12, 13], none⟩
noncomputable def cK_w15 : GOp := ⟨15, ⟨none, .store 166 (.tmp 6) (.tmp 42), none, [], false⟩, [1, 3, 5, 7, 8, 9, 10, 11, 12, 13, 14], none⟩
noncomputable def cK_wr : List GOp := [cK_w1, cK_w3, cK_w5, cK_w7, cK_w8, cK_w9, cK_w10, cK_w11, cK_w12, cK_w13, cK_w14, cK_w15]
noncomputable def cK_0 : ACode := (.region [
      ⟨(some 0), .mov (.const (.bool false)), none, [], false⟩])
noncomputable def cK_1 : ACode := (.region [
      ⟨(some 22), .callV (.func 18) [], none, [], false⟩,
      ⟨(some 23), .callV (.func 19) [], none, [], false⟩,
      ⟨(some 24), .callV (.func 9) [(.tmp 22), (.tmp 23)], none, [], false⟩,
      ⟨(some 21), .mov (.tmp 24), none, [], false⟩,
      ⟨(some 25), .extract 0 (.tmp 21), none, [], false⟩,
      ⟨(some 26), .extract 1 (.tmp 21), none, [], false⟩,
      ⟨(some 1), .alloc 33 ((.string ⟨⟨[]⟩⟩) :: ((.int .i64 0) :: ((.int .i64 0) :: (z32 ++ (z32 ++ (z32 ++ (z32 ++ ((.int .i64 0) :: (z32 ++ [(.slice none 0 0), (.slice none 0 0)]))))))))), none, [], false⟩,
      ⟨none, .store 166 (.tmp 1) (.tmp 25), none, [], false⟩,
      ⟨(some 2), .mov (.tmp 26), none, [], false⟩])
noncomputable def cK_2 : ACode := (.seq (.region [
      ⟨(some 27), .mov (.tmp 2), none, [], false⟩,
      ⟨(some 28), .bin .neq (so (.binOp .neq 34 (.tmp 27) (.const (.int .i64 0)) 34) 4) (.tmp 27) (.const (.int .i64 0)), none, [], false⟩,
      ⟨(some 29), .mov (.tmp 28), none, [], false⟩,
      ⟨(some 30), .fieldAddr 165 (.tmp 1), (some (29, false)), [], false⟩,
      ⟨(some 31), .load none (.tmp 30), (some (29, false)), [], false⟩,
      ⟨(some 32), .lenSl (.tmp 31), (some (29, false)), [], false⟩,
      ⟨(some 33), .bin .neq (so (.binOp .neq 3 (.tmp 32) (.const (.int .i64 2)) 3) 4) (.tmp 32) (.const (.int .i64 2)), (some (29, false)), [], false⟩,
      ⟨(some 34), .pick (.tmp 29) (.const (.bool true)) (.tmp 33), none, [], false⟩]) (.cond (.tmp 34)
    (.seq (.region [
      ⟨(some 0), .mov (.const (.bool false)), none, [], false⟩]) .ret)
    .skip))
noncomputable def cK_3 : ACode := .regionG cK_rd cK_wr
noncomputable def cK_4 : ACode := (.region [
      ⟨(some 43), .fieldAddr 0 (.tmp 3), none, [], false⟩,
      ⟨(some 44), .fieldAddr 2 (.tmp 43), none, [], false⟩,
      ⟨none, .store 1 (.tmp 44) (.const (.int .i64 5)), none, [], false⟩])
noncomputable def cK_5 : ACode := (.region [
      ⟨(some 45), .fieldAddr 165 (.tmp 4), none, [], false⟩,
      ⟨(some 46), .load none (.tmp 45), none, [], false⟩,
      ⟨(some 47), .sliceSl 5 (.tmp 46) none (some (.const (.int .i64 1))) none, none, [], false⟩,
      ⟨(some 48), .fieldAddr 165 (.tmp 4), none, [], false⟩,
      ⟨none, .store 1 (.tmp 48) (.tmp 47), none, [], false⟩])
noncomputable def cK_6 : ACode := (.region [
      ⟨(some 49), .fieldAddr 0 (.tmp 5), none, [], false⟩,
      ⟨(some 50), .fieldAddr 1 (.tmp 49), none, [], false⟩,
      ⟨none, .store 1 (.tmp 50) (.const (.int .i64 0)), none, [], false⟩])
noncomputable def cK_7 : ACode := (.region [
      ⟨(some 51), .fieldAddr 165 (.tmp 6), none, [], false⟩,
      ⟨none, .store 1 (.tmp 51) (.const (.slice none 0 0)), none, [], false⟩])
noncomputable def cK_8 : ACode := (.region [
      ⟨(some 52), .load (some 166) (.tmp 3), none, [], false⟩,
      ⟨(some 53), .callV (.func 21) [(.tmp 52)], none, [], false⟩,
      ⟨(some 54), .bin .eql (so (.binOp .eql 34 (.tmp 53) (.const (.int .i64 12)) 34) 4) (.tmp 53) (.const (.int .i64 12)), none, [], false⟩,
      ⟨(some 55), .mov (.tmp 54), none, [], false⟩,
      ⟨(some 56), .load (some 166) (.tmp 4), (some (55, true)), [], false⟩,
      ⟨(some 57), .callV (.func 21) [(.tmp 56)], (some (55, true)), [], false⟩,
      ⟨(some 58), .bin .eql (so (.binOp .eql 34 (.tmp 57) (.const (.int .i64 12)) 34) 4) (.tmp 57) (.const (.int .i64 12)), (some (55, true)), [], false⟩,
      ⟨(some 59), .pick (.tmp 55) (.tmp 58) (.const (.bool false)), none, [], false⟩,
      ⟨(some 60), .mov (.tmp 59), none, [], false⟩,
      ⟨(some 61), .load (some 166) (.tmp 5), (some (60, true)), [], false⟩,
      ⟨(some 62), .callV (.func 21) [(.tmp 61)], (some (60, true)), [], false⟩,
      ⟨(some 63), .bin .eql (so (.binOp .eql 34 (.tmp 62) (.const (.int .i64 3)) 34) 4) (.tmp 62) (.const (.int .i64 3)), (some (60, true)), [], false⟩,
      ⟨(some 64), .pick (.tmp 60) (.tmp 63) (.const (.bool false)), none, [], false⟩,
      ⟨(some 65), .mov (.tmp 64), none, [], false⟩,
      ⟨(some 66), .load (some 166) (.tmp 6), (some (65, true)), [], false⟩,
      ⟨(some 67), .callV (.func 21) [(.tmp 66)], (some (65, true)), [], false⟩,
      ⟨(some 68), .bin .eql (so (.binOp .eql 34 (.tmp 67) (.const (.int .i64 6)) 34) 4) (.tmp 67) (.const (.int .i64 6)), (some (65, true)), [], false⟩,
      ⟨(some 69), .pick (.tmp 65) (.tmp 68) (.const (.bool false)), none, [], false⟩,
      ⟨(some 7), .mov (.tmp 69), none, [], false⟩])
noncomputable def cK_9 : ACode := (.region [
      ⟨(some 71), .callV (.func 18) [], none, [], false⟩,
      ⟨(some 72), .callV (.func 9) [(.tmp 71), (.const (.slice none 0 0))], none, [], false⟩,
      ⟨(some 70), .mov (.tmp 72), none, [], false⟩,
      ⟨(some 73), .extract 0 (.tmp 70), none, [], false⟩,
      ⟨(some 74), .extract 1 (.tmp 70), none, [], false⟩,
      ⟨(some 8), .alloc 33 ((.string ⟨⟨[]⟩⟩) :: ((.int .i64 0) :: ((.int .i64 0) :: (z32 ++ (z32 ++ (z32 ++ (z32 ++ ((.int .i64 0) :: (z32 ++ [(.slice none 0 0), (.slice none 0 0)]))))))))), none, [], false⟩,
      ⟨none, .store 166 (.tmp 8) (.tmp 73), none, [], false⟩,
      ⟨(some 9), .mov (.tmp 74), none, [], false⟩])
noncomputable def cK_10 : ACode := (.region [
      ⟨(some 75), .callV (.func 18) [], none, [], false⟩,
      ⟨(some 10), .alloc 25 ((.string ⟨⟨[]⟩⟩) :: ((.int .i64 0) :: ((.int .i64 0) :: (z32 ++ (z32 ++ (z32 ++ z32)))))), none, [], false⟩,
      ⟨none, .store 131 (.tmp 10) (.tmp 75), none, [], false⟩])
noncomputable def cK_11 : ACode := (.region [
      ⟨(some 76), .fieldAddr 0 (.tmp 10), none, [], false⟩,
      ⟨none, .store 1 (.tmp 76) (.const (.string ⟨⟨[65]⟩⟩)), none, [], false⟩])
noncomputable def cK_12 : ACode := (.regionM [[
      ⟨(some 78), .load (some 131) (.tmp 10), none, [], false⟩,
      ⟨(some 79), .callV (.func 19) [], none, [((some 78), .load (some 131) (.tmp 10), none)], false⟩,
      ⟨(some 80), .callV (.func 9) [(.tmp 78), (.tmp 79)], none, [], true⟩,
      ⟨(some 77), .mov (.tmp 80), none, [], false⟩,
      ⟨(some 81), .extract 0 (.tmp 77), none, [], false⟩,
      ⟨(some 82), .extract 1 (.tmp 77), none, [], false⟩,
      ⟨(some 11), .alloc 33 ((.string ⟨⟨[]⟩⟩) :: ((.int .i64 0) :: ((.int .i64 0) :: (z32 ++ (z32 ++ (z32 ++ (z32 ++ ((.int .i64 0) :: (z32 ++ [(.slice none 0 0), (.slice none 0 0)]))))))))), none, [((some 82), .extract 1 (.tmp 77), none), ((some 81), .extract 0 (.tmp 77), none), ((some 77), .mov (.tmp 80), none), ((some 78), .load (some 131) (.tmp 10), none)], false⟩,
      ⟨none, .store 166 (.tmp 11) (.tmp 81), none, [((some 82), .extract 1 (.tmp 77), none)], false⟩,
      ⟨(some 12), .mov (.tmp 82), none, [], true⟩],
    [
      ⟨(some 78), .load (some 131) (.tmp 10), none, [], false⟩,
      ⟨(some 79), .callV (.func 19) [], none, [((some 78), .load (some 131) (.tmp 10), none)], false⟩,
      ⟨(some 11), .alloc 33 ((.string ⟨⟨[]⟩⟩) :: ((.int .i64 0) :: ((.int .i64 0) :: (z32 ++ (z32 ++ (z32 ++ (z32 ++ ((.int .i64 0) :: (z32 ++ [(.slice none 0 0), (.slice none 0 0)]))))))))), none, [((some 78), .load (some 131) (.tmp 10), none)], false⟩,
      ⟨(some 80), .callV (.func 9) [(.tmp 78), (.tmp 79)], none, [], false⟩,
      ⟨(some 77), .mov (.tmp 80), none, [], false⟩,
      ⟨(some 81), .extract 0 (.tmp 77), none, [], false⟩,
      ⟨(some 82), .extract 1 (.tmp 77), none, [], false⟩,
      ⟨none, .store 166 (.tmp 11) (.tmp 81), none, [((some 82), .extract 1 (.tmp 77), none)], false⟩,
      ⟨(some 12), .mov (.tmp 82), none, [], true⟩],
    [
      ⟨(some 78), .load (some 131) (.tmp 10), none, [], false⟩,
      ⟨(some 11), .alloc 33 ((.string ⟨⟨[]⟩⟩) :: ((.int .i64 0) :: ((.int .i64 0) :: (z32 ++ (z32 ++ (z32 ++ (z32 ++ ((.int .i64 0) :: (z32 ++ [(.slice none 0 0), (.slice none 0 0)]))))))))), none, [((some 78), .load (some 131) (.tmp 10), none)], false⟩,
      ⟨(some 79), .callV (.func 19) [], none, [((some 78), .load (some 131) (.tmp 10), none)], false⟩,
      ⟨(some 80), .callV (.func 9) [(.tmp 78), (.tmp 79)], none, [], false⟩,
      ⟨(some 77), .mov (.tmp 80), none, [], false⟩,
      ⟨(some 81), .extract 0 (.tmp 77), none, [], false⟩,
      ⟨(some 82), .extract 1 (.tmp 77), none, [], false⟩,
      ⟨none, .store 166 (.tmp 11) (.tmp 81), none, [((some 82), .extract 1 (.tmp 77), none)], false⟩,
      ⟨(some 12), .mov (.tmp 82), none, [], true⟩]])
noncomputable def cK_13 : ACode := (.region [
      ⟨(some 84), .load (some 166) (.tmp 1), none, [], false⟩,
      ⟨(some 85), .callV (.func 22) [(.tmp 84)], none, [], false⟩,
      ⟨(some 83), .mov (.tmp 85), none, [], false⟩,
      ⟨(some 86), .extract 0 (.tmp 83), none, [], false⟩,
      ⟨(some 87), .extract 1 (.tmp 83), none, [], false⟩,
      ⟨(some 13), .mov (.tmp 86), none, [], false⟩,
      ⟨(some 14), .mov (.tmp 87), none, [], false⟩])
noncomputable def cK_14 : ACode := (.region [
      ⟨(some 89), .callV (.func 15) [(.const (.slice none 0 0))], none, [], false⟩,
      ⟨(some 88), .mov (.tmp 89), none, [], false⟩,
      ⟨(some 90), .extract 0 (.tmp 88), none, [], false⟩,
      ⟨(some 91), .extract 1 (.tmp 88), none, [], false⟩,
      ⟨(some 15), .alloc 33 ((.string ⟨⟨[]⟩⟩) :: ((.int .i64 0) :: ((.int .i64 0) :: (z32 ++ (z32 ++ (z32 ++ (z32 ++ ((.int .i64 0) :: (z32 ++ [(.slice none 0 0), (.slice none 0 0)]))))))))), none, [], false⟩,
      ⟨(some 16), .alloc 44 [(.int .i64 0), (.int .i64 0)], none, [], false⟩,
      ⟨none, .store 166 (.tmp 15) (.tmp 90), none, [], false⟩,
      ⟨none, .store 2 (.tmp 16) (.tmp 91), none, [], false⟩])
noncomputable def cK_15 : ACode := (.seq (.region [
      ⟨(some 92), .mov (.tmp 14), none, [], false⟩,
      ⟨(some 93), .bin .neq (so (.binOp .neq 34 (.tmp 92) (.const (.int .i64 0)) 34) 4) (.tmp 92) (.const (.int .i64 0)), none, [], false⟩,
      ⟨(some 94), .mov (.tmp 93), none, [], false⟩,
      ⟨(some 95), .mov (.tmp 13), (some (94, false)), [], false⟩,
      ⟨(some 96), .lenSl (.tmp 95), (some (94, false)), [], false⟩,
      ⟨(some 97), .bin .lss (so (.binOp .lss 3 (.tmp 96) (.const (.int .i64 19)) 3) 4) (.tmp 96) (.const (.int .i64 19)), (some (94, false)), [], false⟩,
      ⟨(some 98), .pick (.tmp 94) (.const (.bool true)) (.tmp 97), none, [], false⟩]) (.cond (.tmp 98)
    (.seq (.region [
      ⟨(some 0), .mov (.const (.bool false)), none, [], false⟩]) .ret)
    .skip))
noncomputable def cK_16 : ACode := (.region [
      ⟨(some 100), .mov (.tmp 13), none, [], false⟩,
      ⟨(some 101), .mov (.tmp 13), none, [], false⟩,
      ⟨(some 102), .lenSl (.tmp 101), none, [], false⟩,
      ⟨(some 103), .bin .sub (so (.binOp .sub 3 (.tmp 102) (.const (.int .i64 1)) 3) 3) (.tmp 102) (.const (.int .i64 1)), none, [], false⟩,
      ⟨(some 104), .sliceSl 1 (.tmp 100) none (some (.tmp 103)) none, none, [], false⟩,
      ⟨(some 105), .callV (.func 15) [(.tmp 104)], none, [], false⟩,
      ⟨(some 99), .mov (.tmp 105), none, [], false⟩,
      ⟨(some 106), .extract 0 (.tmp 99), none, [], false⟩,
      ⟨(some 107), .extract 1 (.tmp 99), none, [], false⟩,
      ⟨(some 17), .alloc 33 ((.string ⟨⟨[]⟩⟩) :: ((.int .i64 0) :: ((.int .i64 0) :: (z32 ++ (z32 ++ (z32 ++ (z32 ++ ((.int .i64 0) :: (z32 ++ [(.slice none 0 0), (.slice none 0 0)]))))))))), none, [], false⟩,
      ⟨(some 18), .alloc 44 [(.int .i64 0), (.int .i64 0)], none, [], false⟩,
      ⟨none, .store 166 (.tmp 17) (.tmp 106), none, [], false⟩,
      ⟨none, .store 2 (.tmp 18) (.tmp 107), none, [], false⟩])
noncomputable def cK_17 : ACode := (.region [
      ⟨(some 109), .callV (.func 19) [], none, [], false⟩,
      ⟨(some 110), .callV (.func 23) [(.tmp 109)], none, [], false⟩,
      ⟨(some 108), .mov (.tmp 110), none, [], false⟩,
      ⟨(some 111), .extract 0 (.tmp 108), none, [], false⟩,
      ⟨(some 112), .extract 1 (.tmp 108), none, [], false⟩,
      ⟨(some 19), .mov (.tmp 111), none, [], false⟩,
      ⟨(some 20), .mov (.tmp 112), none, [], false⟩])
noncomputable def cK_18 : ACode := (.regionD [
      ⟨(some 113), .callV (.func 7) [], none, [], true⟩,
      ⟨(some 114), .mov (.tmp 113), none, [], true⟩,
      ⟨(some 115), .mov (.tmp 7), (some (114, true)), [], true⟩,
      ⟨(some 116), .pick (.tmp 114) (.tmp 115) (.const (.bool false)), none, [], true⟩,
      ⟨(some 117), .mov (.tmp 116), none, [], true⟩,
      ⟨(some 118), .mov (.tmp 9), (some (117, true)), [], true⟩,
      ⟨(some 119), .bin .eql (so (.binOp .eql 34 (.tmp 118) (.const (.int .i64 6)) 34) 4) (.tmp 118) (.const (.int .i64 6)), (some (117, true)), [], true⟩,
      ⟨(some 120), .pick (.tmp 117) (.tmp 119) (.const (.bool false)), none, [], true⟩,
      ⟨(some 121), .mov (.tmp 120), none, [], true⟩,
      ⟨(some 122), .mov (.tmp 12), (some (121, true)), [], true⟩,
      ⟨(some 123), .bin .eql (so (.binOp .eql 34 (.tmp 122) (.const (.int .i64 5)) 34) 4) (.tmp 122) (.const (.int .i64 5)), (some (121, true)), [], true⟩,
      ⟨(some 124), .pick (.tmp 121) (.tmp 123) (.const (.bool false)), none, [], true⟩,
      ⟨(some 125), .mov (.tmp 124), none, [], true⟩,
      ⟨(some 126), .load (some 166) (.tmp 1), (some (125, true)), [], false⟩,
      ⟨(some 127), .load (some 166) (.tmp 1), (some (125, true)), [], false⟩,
      ⟨(some 128), .callV (.func 24) [(.tmp 126), (.tmp 127)], (some (125, true)), [], true⟩,
      ⟨(some 129), .pick (.tmp 125) (.tmp 128) (.const (.bool false)), none, [], true⟩,
      ⟨(some 130), .mov (.tmp 129), none, [], true⟩,
      ⟨(some 131), .load (some 166) (.tmp 1), (some (130, true)), [], false⟩,
      ⟨(some 132), .load (some 166) (.tmp 1), (some (130, true)), [], false⟩,
      ⟨(some 133), .callV (.func 25) [(.tmp 132), (.const (.int .i64 1))], (some (130, true)), [((some 131), .load (some 166) (.tmp 1), (some (130, true)))], false⟩,
      ⟨(some 134), .callV (.func 24) [(.tmp 131), (.tmp 133)], (some (130, true)), [], true⟩,
      ⟨(some 135), .raw (so (.unOp .not 4 (.tmp 134)) 4), (some (130, true)), [], true⟩,
      ⟨(some 136), .pick (.tmp 130) (.tmp 135) (.const (.bool false)), none, [], true⟩,
      ⟨(some 137), .mov (.tmp 136), none, [], true⟩,
      ⟨(some 138), .load (some 2) (.tmp 16), (some (137, true)), [], false⟩,
      ⟨(some 139), .build [(.int .i64 0), (.int .i64 0)] [(0, 1, (.const (.int .i64 6)))], (some (137, true)), [], false⟩,
      ⟨(some 140), .bin .eql (so (.binOp .eql 44 (.tmp 138) (.tmp 139) 44) 4) (.tmp 138) (.tmp 139), (some (137, true)), [], true⟩,
      ⟨(some 141), .pick (.tmp 137) (.tmp 140) (.const (.bool false)), none, [], true⟩,
      ⟨(some 142), .mov (.tmp 141), none, [], true⟩,
      ⟨(some 143), .mov (.tmp 20), (some (142, true)), [], true⟩,
      ⟨(some 144), .bin .eql (so (.binOp .eql 34 (.tmp 143) (.const (.int .i64 0)) 34) 4) (.tmp 143) (.const (.int .i64 0)), (some (142, true)), [], true⟩,
      ⟨(some 145), .pick (.tmp 142) (.tmp 144) (.const (.bool false)), none, [], true⟩,
      ⟨(some 146), .mov (.tmp 145), none, [], true⟩,
      ⟨(some 147), .load (some 2) (.tmp 18), (some (146, true)), [], false⟩,
      ⟨(some 148), .mov (.tmp 13), (some (146, true)), [], false⟩,
      ⟨(some 149), .lenSl (.tmp 148), (some (146, true)), [], false⟩,
      ⟨(some 150), .mov (.tmp 19), (some (146, true)), [], false⟩,
      ⟨(some 151), .lenSl (.tmp 150), (some (146, true)), [], false⟩,
      ⟨(some 152), .bin .sub (so (.binOp .sub 3 (.tmp 149) (.tmp 151) 3) 3) (.tmp 149) (.tmp 151), (some (146, true)), [], false⟩,
      ⟨(some 153), .bin .sub (so (.binOp .sub 3 (.tmp 152) (.const (.int .i64 2)) 3) 3) (.tmp 152) (.const (.int .i64 2)), (some (146, true)), [], false⟩,
      ⟨(some 154), .build [(.int .i64 0), (.int .i64 0)] [(0, 1, (.const (.int .i64 6))), (1, 1, (.tmp 153))], (some (146, true)), [], false⟩,
      ⟨(some 155), .bin .eql (so (.binOp .eql 44 (.tmp 147) (.tmp 154) 44) 4) (.tmp 147) (.tmp 154), (some (146, true)), [], true⟩,
      ⟨(some 156), .pick (.tmp 146) (.tmp 155) (.const (.bool false)), none, [], true⟩,
      ⟨(some 0), .mov (.tmp 156), none, [], true⟩])
noncomputable def cK_19 : ACode := .ret
noncomputable def cK_t19 : ACode := cK_19
noncomputable def cK_t18 : ACode := .seq cK_18 cK_t19
noncomputable def cK_t17 : ACode := .seq cK_17 cK_t18
noncomputable def cK_t16 : ACode := .seq cK_16 cK_t17
noncomputable def cK_t15 : ACode := .seq cK_15 cK_t16
noncomputable def cK_t14 : ACode := .seq cK_14 cK_t15
noncomputable def cK_t13 : ACode := .seq cK_13 cK_t14
noncomputable def cK_t12 : ACode := .seq cK_12 cK_t13
noncomputable def cK_t11 : ACode := .seq cK_11 cK_t12
noncomputable def cK_t10 : ACode := .seq cK_10 cK_t11
noncomputable def cK_t9 : ACode := .seq cK_9 cK_t10
noncomputable def cK_t8 : ACode := .seq cK_8 cK_t9
noncomputable def cK_t7 : ACode := .seq cK_7 cK_t8
noncomputable def cK_t6 : ACode := .seq cK_6 cK_t7
noncomputable def cK_t5 : ACode := .seq cK_5 cK_t6
noncomputable def cK_t4 : ACode := .seq cK_4 cK_t5
noncomputable def cK_t3 : ACode := .seq cK_3 cK_t4
noncomputable def cK_t2 : ACode := .seq cK_2 cK_t3
noncomputable def cK_t1 : ACode := .seq cK_1 cK_t2
noncomputable def cK_t0 : ACode := .seq cK_0 cK_t1
noncomputable def cK_f : AFunc := ⟨157, [(0, none)], cK_t0, none⟩
noncomputable def cv_1 : Value := .agg ⟨(.string ⟨⟨[97]⟩⟩) :: (.int .i64 3) :: (.int .i64 4) :: rep 32 (.int .u8 0) ((.int .u8 6) :: (.int .u8 42) :: (.int .u8 8) :: (.int .u8 140) :: (.int .u8 251) :: (.int .u8 91) :: (.int .u8 124) :: (.int .u8 64) :: (.int .u8 45) :: (.int .u8 135) :: (.int .u8 23) :: (.int .u8 48) :: (.int .u8 171) :: (.int .u8 198) :: (.int .u8 50) :: (.int .u8 83) :: (.int .u8 6) :: (.int .u8 143) :: (.int .u8 224) :: (.int .u8 191) :: (.int .u8 80) :: (.int .u8 205) :: (.int .u8 63) :: (.int .u8 101) :: (.int .u8 68) :: (.int .u8 82) :: (.int .u8 26) :: (.int .u8 114) :: (.int .u8 181) :: (.int .u8 102) :: (.int .u8 136) :: (.int .u8 230) :: rep 64 (.int .u8 0) ((.int .i64 3) :: (.int .u8 7) :: (.int .u8 218) :: (.int .u8 153) :: (.int .u8 245) :: (.int .u8 22) :: (.int .u8 243) :: (.int .u8 57) :: (.int .u8 53) :: (.int .u8 12) :: (.int .u8 62) :: (.int .u8 187) :: (.int .u8 40) :: (.int .u8 219) :: (.int .u8 60) :: (.int .u8 114) :: (.int .u8 108) :: (.int .u8 145) :: (.int .u8 194) :: (.int .u8 110) :: (.int .u8 193) :: (.int .u8 43) :: (.int .u8 222) :: (.int .u8 143) :: (.int .u8 29) :: (.int .u8 210) :: (.int .u8 188) :: (.int .u8 35) :: (.int .u8 66) :: (.int .u8 31) :: (.int .u8 219) :: (.int .u8 29) :: (.int .u8 161) :: (.slice none 0 0) :: (.slice (some ⟨86, 0, (some 0)⟩) 2 2) :: []))⟩
noncomputable def cv_2 : Value := .agg ⟨(.string ⟨⟨[97]⟩⟩) :: (.int .i64 3) :: (.int .i64 4) :: rep 128 (.int .u8 0) ([])⟩
noncomputable def co_3 : AObj := .cells ((.string ⟨⟨[97]⟩⟩) :: (.int .i64 3) :: (.int .i64 4) :: rep 128 (.int .u8 0) ([])) 0
noncomputable def co_4 : AObj := .cells ((.string ⟨⟨[97]⟩⟩) :: (.int .i64 3) :: (.int .i64 4) :: rep 32 (.int .u8 0) ((.int .u8 6) :: (.int .u8 42) :: (.int .u8 8) :: (.int .u8 140) :: (.int .u8 251) :: (.int .u8 91) :: (.int .u8 124) :: (.int .u8 64) :: (.int .u8 45) :: (.int .u8 135) :: (.int .u8 23) :: (.int .u8 48) :: (.int .u8 171) :: (.int .u8 198) :: (.int .u8 50) :: (.int .u8 83) :: (.int .u8 6) :: (.int .u8 143) :: (.int .u8 224) :: (.int .u8 191) :: (.int .u8 80) :: (.int .u8 205) :: (.int .u8 63) :: (.int .u8 101) :: (.int .u8 68) :: (.int .u8 82) :: (.int .u8 26) :: (.int .u8 114) :: (.int .u8 181) :: (.int .u8 102) :: (.int .u8 136) :: (.int .u8 230) :: rep 64 (.int .u8 0) ((.int .i64 3) :: (.int .u8 7) :: (.int .u8 218) :: (.int .u8 153) :: (.int .u8 245) :: (.int .u8 22) :: (.int .u8 243) :: (.int .u8 57) :: (.int .u8 53) :: (.int .u8 12) :: (.int .u8 62) :: (.int .u8 187) :: (.int .u8 40) :: (.int .u8 219) :: (.int .u8 60) :: (.int .u8 114) :: (.int .u8 108) :: (.int .u8 145) :: (.int .u8 194) :: (.int .u8 110) :: (.int .u8 193) :: (.int .u8 43) :: (.int .u8 222) :: (.int .u8 143) :: (.int .u8 29) :: (.int .u8 210) :: (.int .u8 188) :: (.int .u8 35) :: (.int .u8 66) :: (.int .u8 31) :: (.int .u8 219) :: (.int .u8 29) :: (.int .u8 161) :: (.slice none 0 0) :: (.slice (some ⟨86, 0, (some 0)⟩) 2 2) :: []))) 0
noncomputable def co_5 : AObj := .cells ((.int .u8 0) :: (.int .u8 0) :: (.int .u8 0) :: (.int .u8 1) :: (.int .i64 5) :: (.int .u8 0) :: (.int .u8 0) :: (.int .u8 0) :: (.int .u8 2) :: (.int .i64 7) :: []) 0
noncomputable def co_6 : AObj := .cells ((.int .u8 0) :: (.int .u8 0) :: (.int .u8 0) :: (.int .u8 1) :: (.int .i64 5) :: (.int .u8 0) :: (.int .u8 0) :: (.int .u8 0) :: (.int .u8 2) :: (.int .i64 7) :: []) 5
noncomputable def co_7 : AObj := .cells ((.string ⟨⟨[]⟩⟩) :: (.int .i64 0) :: (.int .i64 0) :: rep 128 (.int .u8 0) ((.int .i64 0) :: rep 32 (.int .u8 0) ((.slice none 0 0) :: (.slice none 0 0) :: []))) 0
noncomputable def cv_8 : Value := .agg ⟨(.string ⟨⟨[97]⟩⟩) :: (.int .i64 3) :: (.int .i64 4) :: rep 32 (.int .u8 0) ((.int .u8 6) :: (.int .u8 42) :: (.int .u8 8) :: (.int .u8 140) :: (.int .u8 251) :: (.int .u8 91) :: (.int .u8 124) :: (.int .u8 64) :: (.int .u8 45) :: (.int .u8 135) :: (.int .u8 23) :: (.int .u8 48) :: (.int .u8 171) :: (.int .u8 198) :: (.int .u8 50) :: (.int .u8 83) :: (.int .u8 6) :: (.int .u8 143) :: (.int .u8 224) :: (.int .u8 191) :: (.int .u8 80) :: (.int .u8 205) :: (.int .u8 63) :: (.int .u8 101) :: (.int .u8 68) :: (.int .u8 82) :: (.int .u8 26) :: (.int .u8 114) :: (.int .u8 181) :: (.int .u8 102) :: (.int .u8 136) :: (.int .u8 230) :: rep 64 (.int .u8 0) ((.int .i64 3) :: (.int .u8 7) :: (.int .u8 218) :: (.int .u8 153) :: (.int .u8 245) :: (.int .u8 22) :: (.int .u8 243) :: (.int .u8 57) :: (.int .u8 53) :: (.int .u8 12) :: (.int .u8 62) :: (.int .u8 187) :: (.int .u8 40) :: (.int .u8 219) :: (.int .u8 60) :: (.int .u8 114) :: (.int .u8 108) :: (.int .u8 145) :: (.int .u8 194) :: (.int .u8 110) :: (.int .u8 193) :: (.int .u8 43) :: (.int .u8 222) :: (.int .u8 143) :: (.int .u8 29) :: (.int .u8 210) :: (.int .u8 188) :: (.int .u8 35) :: (.int .u8 66) :: (.int .u8 31) :: (.int .u8 219) :: (.int .u8 29) :: (.int .u8 161) :: (.slice (some ⟨96, 0, none⟩) 0 0) :: (.slice (some ⟨98, 0, (some 0)⟩) 2 2) :: []))⟩
noncomputable def co_9 : AObj := .cells ((.int .i64 3) :: (.int .u8 7) :: (.int .u8 218) :: (.int .u8 153) :: (.int .u8 245) :: (.int .u8 22) :: (.int .u8 243) :: (.int .u8 57) :: (.int .u8 53) :: (.int .u8 12) :: (.int .u8 62) :: (.int .u8 187) :: (.int .u8 40) :: (.int .u8 219) :: (.int .u8 60) :: (.int .u8 114) :: (.int .u8 108) :: (.int .u8 145) :: (.int .u8 194) :: (.int .u8 110) :: (.int .u8 193) :: (.int .u8 43) :: (.int .u8 222) :: (.int .u8 143) :: (.int .u8 29) :: (.int .u8 210) :: (.int .u8 188) :: (.int .u8 35) :: (.int .u8 66) :: (.int .u8 31) :: (.int .u8 219) :: (.int .u8 29) :: (.int .u8 161) :: (.slice (some ⟨96, 0, none⟩) 0 0) :: []) 0
noncomputable def co_10 : AObj := .cells ((.string ⟨⟨[97]⟩⟩) :: (.int .i64 3) :: (.int .i64 4) :: rep 32 (.int .u8 0) ((.int .u8 6) :: (.int .u8 42) :: (.int .u8 8) :: (.int .u8 140) :: (.int .u8 251) :: (.int .u8 91) :: (.int .u8 124) :: (.int .u8 64) :: (.int .u8 45) :: (.int .u8 135) :: (.int .u8 23) :: (.int .u8 48) :: (.int .u8 171) :: (.int .u8 198) :: (.int .u8 50) :: (.int .u8 83) :: (.int .u8 6) :: (.int .u8 143) :: (.int .u8 224) :: (.int .u8 191) :: (.int .u8 80) :: (.int .u8 205) :: (.int .u8 63) :: (.int .u8 101) :: (.int .u8 68) :: (.int .u8 82) :: (.int .u8 26) :: (.int .u8 114) :: (.int .u8 181) :: (.int .u8 102) :: (.int .u8 136) :: (.int .u8 230) :: rep 64 (.int .u8 0) ((.int .i64 3) :: (.int .u8 7) :: (.int .u8 218) :: (.int .u8 153) :: (.int .u8 245) :: (.int .u8 22) :: (.int .u8 243) :: (.int .u8 57) :: (.int .u8 53) :: (.int .u8 12) :: (.int .u8 62) :: (.int .u8 187) :: (.int .u8 40) :: (.int .u8 219) :: (.int .u8 60) :: (.int .u8 114) :: (.int .u8 108) :: (.int .u8 145) :: (.int .u8 194) :: (.int .u8 110) :: (.int .u8 193) :: (.int .u8 43) :: (.int .u8 222) :: (.int .u8 143) :: (.int .u8 29) :: (.int .u8 210) :: (.int .u8 188) :: (.int .u8 35) :: (.int .u8 66) :: (.int .u8 31) :: (.int .u8 219) :: (.int .u8 29) :: (.int .u8 161) :: (.slice (some ⟨96, 0, none⟩) 0 0) :: (.slice (some ⟨98, 0, (some 0)⟩) 2 2) :: []))) 0
noncomputable def cv_11 : Value := .agg ⟨(.string ⟨⟨[97]⟩⟩) :: (.int .i64 3) :: (.int .i64 4) :: rep 32 (.int .u8 0) ((.int .u8 6) :: (.int .u8 42) :: (.int .u8 8) :: (.int .u8 140) :: (.int .u8 251) :: (.int .u8 91) :: (.int .u8 124) :: (.int .u8 64) :: (.int .u8 45) :: (.int .u8 135) :: (.int .u8 23) :: (.int .u8 48) :: (.int .u8 171) :: (.int .u8 198) :: (.int .u8 50) :: (.int .u8 83) :: (.int .u8 6) :: (.int .u8 143) :: (.int .u8 224) :: (.int .u8 191) :: (.int .u8 80) :: (.int .u8 205) :: (.int .u8 63) :: (.int .u8 101) :: (.int .u8 68) :: (.int .u8 82) :: (.int .u8 26) :: (.int .u8 114) :: (.int .u8 181) :: (.int .u8 102) :: (.int .u8 136) :: (.int .u8 230) :: rep 64 (.int .u8 0) ((.int .i64 3) :: (.int .u8 7) :: (.int .u8 218) :: (.int .u8 153) :: (.int .u8 245) :: (.int .u8 22) :: (.int .u8 243) :: (.int .u8 57) :: (.int .u8 53) :: (.int .u8 12) :: (.int .u8 62) :: (.int .u8 187) :: (.int .u8 40) :: (.int .u8 219) :: (.int .u8 60) :: (.int .u8 114) :: (.int .u8 108) :: (.int .u8 145) :: (.int .u8 194) :: (.int .u8 110) :: (.int .u8 193) :: (.int .u8 43) :: (.int .u8 222) :: (.int .u8 143) :: (.int .u8 29) :: (.int .u8 210) :: (.int .u8 188) :: (.int .u8 35) :: (.int .u8 66) :: (.int .u8 31) :: (.int .u8 219) :: (.int .u8 29) :: (.int .u8 161) :: (.slice (some ⟨103, 0, none⟩) 0 0) :: (.slice (some ⟨105, 0, (some 0)⟩) 2 2) :: []))⟩
noncomputable def co_12 : AObj := .cells ((.string ⟨⟨[97]⟩⟩) :: (.int .i64 3) :: (.int .i64 4) :: rep 32 (.int .u8 0) ((.int .u8 6) :: (.int .u8 42) :: (.int .u8 8) :: (.int .u8 140) :: (.int .u8 251) :: (.int .u8 91) :: (.int .u8 124) :: (.int .u8 64) :: (.int .u8 45) :: (.int .u8 135) :: (.int .u8 23) :: (.int .u8 48) :: (.int .u8 171) :: (.int .u8 198) :: (.int .u8 50) :: (.int .u8 83) :: (.int .u8 6) :: (.int .u8 143) :: (.int .u8 224) :: (.int .u8 191) :: (.int .u8 80) :: (.int .u8 205) :: (.int .u8 63) :: (.int .u8 101) :: (.int .u8 68) :: (.int .u8 82) :: (.int .u8 26) :: (.int .u8 114) :: (.int .u8 181) :: (.int .u8 102) :: (.int .u8 136) :: (.int .u8 230) :: rep 64 (.int .u8 0) ((.int .i64 3) :: (.int .u8 7) :: (.int .u8 218) :: (.int .u8 153) :: (.int .u8 245) :: (.int .u8 22) :: (.int .u8 243) :: (.int .u8 57) :: (.int .u8 53) :: (.int .u8 12) :: (.int .u8 62) :: (.int .u8 187) :: (.int .u8 40) :: (.int .u8 219) :: (.int .u8 60) :: (.int .u8 114) :: (.int .u8 108) :: (.int .u8 145) :: (.int .u8 194) :: (.int .u8 110) :: (.int .u8 193) :: (.int .u8 43) :: (.int .u8 222) :: (.int .u8 143) :: (.int .u8 29) :: (.int .u8 210) :: (.int .u8 188) :: (.int .u8 35) :: (.int .u8 66) :: (.int .u8 31) :: (.int .u8 219) :: (.int .u8 29) :: (.int .u8 161) :: (.slice (some ⟨103, 0, none⟩) 0 0) :: (.slice (some ⟨105, 0, (some 0)⟩) 2 2) :: []))) 0
noncomputable def co_13 : AObj := .cells ((.int .i64 3) :: (.int .u8 7) :: (.int .u8 218) :: (.int .u8 153) :: (.int .u8 245) :: (.int .u8 22) :: (.int .u8 243) :: (.int .u8 57) :: (.int .u8 53) :: (.int .u8 12) :: (.int .u8 62) :: (.int .u8 187) :: (.int .u8 40) :: (.int .u8 219) :: (.int .u8 60) :: (.int .u8 114) :: (.int .u8 108) :: (.int .u8 145) :: (.int .u8 194) :: (.int .u8 110) :: (.int .u8 193) :: (.int .u8 43) :: (.int .u8 222) :: (.int .u8 143) :: (.int .u8 29) :: (.int .u8 210) :: (.int .u8 188) :: (.int .u8 35) :: (.int .u8 66) :: (.int .u8 31) :: (.int .u8 219) :: (.int .u8 29) :: (.int .u8 161) :: (.slice (some ⟨103, 0, none⟩) 0 0) :: []) 0
noncomputable def cv_14 : Value := .agg ⟨(.string ⟨⟨[97]⟩⟩) :: (.int .i64 3) :: (.int .i64 4) :: rep 32 (.int .u8 0) ((.int .u8 6) :: (.int .u8 42) :: (.int .u8 8) :: (.int .u8 140) :: (.int .u8 251) :: (.int .u8 91) :: (.int .u8 124) :: (.int .u8 64) :: (.int .u8 45) :: (.int .u8 135) :: (.int .u8 23) :: (.int .u8 48) :: (.int .u8 171) :: (.int .u8 198) :: (.int .u8 50) :: (.int .u8 83) :: (.int .u8 6) :: (.int .u8 143) :: (.int .u8 224) :: (.int .u8 191) :: (.int .u8 80) :: (.int .u8 205) :: (.int .u8 63) :: (.int .u8 101) :: (.int .u8 68) :: (.int .u8 82) :: (.int .u8 26) :: (.int .u8 114) :: (.int .u8 181) :: (.int .u8 102) :: (.int .u8 136) :: (.int .u8 230) :: rep 64 (.int .u8 0) ((.int .i64 3) :: (.int .u8 7) :: (.int .u8 218) :: (.int .u8 153) :: (.int .u8 245) :: (.int .u8 22) :: (.int .u8 243) :: (.int .u8 57) :: (.int .u8 53) :: (.int .u8 12) :: (.int .u8 62) :: (.int .u8 187) :: (.int .u8 40) :: (.int .u8 219) :: (.int .u8 60) :: (.int .u8 114) :: (.int .u8 108) :: (.int .u8 145) :: (.int .u8 194) :: (.int .u8 110) :: (.int .u8 193) :: (.int .u8 43) :: (.int .u8 222) :: (.int .u8 143) :: (.int .u8 29) :: (.int .u8 210) :: (.int .u8 188) :: (.int .u8 35) :: (.int .u8 66) :: (.int .u8 31) :: (.int .u8 219) :: (.int .u8 29) :: (.int .u8 161) :: (.slice (some ⟨110, 0, none⟩) 0 0) :: (.slice (some ⟨112, 0, (some 0)⟩) 2 2) :: []))⟩
noncomputable def co_15 : AObj := .cells ((.string ⟨⟨[97]⟩⟩) :: (.int .i64 3) :: (.int .i64 4) :: rep 32 (.int .u8 0) ((.int .u8 6) :: (.int .u8 42) :: (.int .u8 8) :: (.int .u8 140) :: (.int .u8 251) :: (.int .u8 91) :: (.int .u8 124) :: (.int .u8 64) :: (.int .u8 45) :: (.int .u8 135) :: (.int .u8 23) :: (.int .u8 48) :: (.int .u8 171) :: (.int .u8 198) :: (.int .u8 50) :: (.int .u8 83) :: (.int .u8 6) :: (.int .u8 143) :: (.int .u8 224) :: (.int .u8 191) :: (.int .u8 80) :: (.int .u8 205) :: (.int .u8 63) :: (.int .u8 101) :: (.int .u8 68) :: (.int .u8 82) :: (.int .u8 26) :: (.int .u8 114) :: (.int .u8 181) :: (.int .u8 102) :: (.int .u8 136) :: (.int .u8 230) :: rep 64 (.int .u8 0) ((.int .i64 3) :: (.int .u8 7) :: (.int .u8 218) :: (.int .u8 153) :: (.int .u8 245) :: (.int .u8 22) :: (.int .u8 243) :: (.int .u8 57) :: (.int .u8 53) :: (.int .u8 12) :: (.int .u8 62) :: (.int .u8 187) :: (.int .u8 40) :: (.int .u8 219) :: (.int .u8 60) :: (.int .u8 114) :: (.int .u8 108) :: (.int .u8 145) :: (.int .u8 194) :: (.int .u8 110) :: (.int .u8 193) :: (.int .u8 43) :: (.int .u8 222) :: (.int .u8 143) :: (.int .u8 29) :: (.int .u8 210) :: (.int .u8 188) :: (.int .u8 35) :: (.int .u8 66) :: (.int .u8 31) :: (.int .u8 219) :: (.int .u8 29) :: (.int .u8 161) :: (.slice (some ⟨110, 0, none⟩) 0 0) :: (.slice (some ⟨112, 0, (some 0)⟩) 2 2) :: []))) 0
noncomputable def co_16 : AObj := .cells ((.int .i64 3) :: (.int .u8 7) :: (.int .u8 218) :: (.int .u8 153) :: (.int .u8 245) :: (.int .u8 22) :: (.int .u8 243) :: (.int .u8 57) :: (.int .u8 53) :: (.int .u8 12) :: (.int .u8 62) :: (.int .u8 187) :: (.int .u8 40) :: (.int .u8 219) :: (.int .u8 60) :: (.int .u8 114) :: (.int .u8 108) :: (.int .u8 145) :: (.int .u8 194) :: (.int .u8 110) :: (.int .u8 193) :: (.int .u8 43) :: (.int .u8 222) :: (.int .u8 143) :: (.int .u8 29) :: (.int .u8 210) :: (.int .u8 188) :: (.int .u8 35) :: (.int .u8 66) :: (.int .u8 31) :: (.int .u8 219) :: (.int .u8 29) :: (.int .u8 161) :: (.slice (some ⟨110, 0, none⟩) 0 0) :: []) 0
noncomputable def cv_17 : Value := .agg ⟨(.string ⟨⟨[97]⟩⟩) :: (.int .i64 3) :: (.int .i64 4) :: rep 32 (.int .u8 0) ((.int .u8 6) :: (.int .u8 42) :: (.int .u8 8) :: (.int .u8 140) :: (.int .u8 251) :: (.int .u8 91) :: (.int .u8 124) :: (.int .u8 64) :: (.int .u8 45) :: (.int .u8 135) :: (.int .u8 23) :: (.int .u8 48) :: (.int .u8 171) :: (.int .u8 198) :: (.int .u8 50) :: (.int .u8 83) :: (.int .u8 6) :: (.int .u8 143) :: (.int .u8 224) :: (.int .u8 191) :: (.int .u8 80) :: (.int .u8 205) :: (.int .u8 63) :: (.int .u8 101) :: (.int .u8 68) :: (.int .u8 82) :: (.int .u8 26) :: (.int .u8 114) :: (.int .u8 181) :: (.int .u8 102) :: (.int .u8 136) :: (.int .u8 230) :: rep 64 (.int .u8 0) ((.int .i64 3) :: (.int .u8 7) :: (.int .u8 218) :: (.int .u8 153) :: (.int .u8 245) :: (.int .u8 22) :: (.int .u8 243) :: (.int .u8 57) :: (.int .u8 53) :: (.int .u8 12) :: (.int .u8 62) :: (.int .u8 187) :: (.int .u8 40) :: (.int .u8 219) :: (.int .u8 60) :: (.int .u8 114) :: (.int .u8 108) :: (.int .u8 145) :: (.int .u8 194) :: (.int .u8 110) :: (.int .u8 193) :: (.int .u8 43) :: (.int .u8 222) :: (.int .u8 143) :: (.int .u8 29) :: (.int .u8 210) :: (.int .u8 188) :: (.int .u8 35) :: (.int .u8 66) :: (.int .u8 31) :: (.int .u8 219) :: (.int .u8 29) :: (.int .u8 161) :: (.slice (some ⟨117, 0, none⟩) 0 0) :: (.slice (some ⟨119, 0, (some 0)⟩) 2 2) :: []))⟩
noncomputable def co_18 : AObj := .cells ((.int .i64 3) :: (.int .u8 7) :: (.int .u8 218) :: (.int .u8 153) :: (.int .u8 245) :: (.int .u8 22) :: (.int .u8 243) :: (.int .u8 57) :: (.int .u8 53) :: (.int .u8 12) :: (.int .u8 62) :: (.int .u8 187) :: (.int .u8 40) :: (.int .u8 219) :: (.int .u8 60) :: (.int .u8 114) :: (.int .u8 108) :: (.int .u8 145) :: (.int .u8 194) :: (.int .u8 110) :: (.int .u8 193) :: (.int .u8 43) :: (.int .u8 222) :: (.int .u8 143) :: (.int .u8 29) :: (.int .u8 210) :: (.int .u8 188) :: (.int .u8 35) :: (.int .u8 66) :: (.int .u8 31) :: (.int .u8 219) :: (.int .u8 29) :: (.int .u8 161) :: (.slice (some ⟨117, 0, none⟩) 0 0) :: []) 0
noncomputable def co_19 : AObj := .cells ((.string ⟨⟨[97]⟩⟩) :: (.int .i64 3) :: (.int .i64 4) :: rep 32 (.int .u8 0) ((.int .u8 6) :: (.int .u8 42) :: (.int .u8 8) :: (.int .u8 140) :: (.int .u8 251) :: (.int .u8 91) :: (.int .u8 124) :: (.int .u8 64) :: (.int .u8 45) :: (.int .u8 135) :: (.int .u8 23) :: (.int .u8 48) :: (.int .u8 171) :: (.int .u8 198) :: (.int .u8 50) :: (.int .u8 83) :: (.int .u8 6) :: (.int .u8 143) :: (.int .u8 224) :: (.int .u8 191) :: (.int .u8 80) :: (.int .u8 205) :: (.int .u8 63) :: (.int .u8 101) :: (.int .u8 68) :: (.int .u8 82) :: (.int .u8 26) :: (.int .u8 114) :: (.int .u8 181) :: (.int .u8 102) :: (.int .u8 136) :: (.int .u8 230) :: rep 64 (.int .u8 0) ((.int .i64 3) :: (.int .u8 7) :: (.int .u8 218) :: (.int .u8 153) :: (.int .u8 245) :: (.int .u8 22) :: (.int .u8 243) :: (.int .u8 57) :: (.int .u8 53) :: (.int .u8 12) :: (.int .u8 62) :: (.int .u8 187) :: (.int .u8 40) :: (.int .u8 219) :: (.int .u8 60) :: (.int .u8 114) :: (.int .u8 108) :: (.int .u8 145) :: (.int .u8 194) :: (.int .u8 110) :: (.int .u8 193) :: (.int .u8 43) :: (.int .u8 222) :: (.int .u8 143) :: (.int .u8 29) :: (.int .u8 210) :: (.int .u8 188) :: (.int .u8 35) :: (.int .u8 66) :: (.int .u8 31) :: (.int .u8 219) :: (.int .u8 29) :: (.int .u8 161) :: (.slice (some ⟨117, 0, none⟩) 0 0) :: (.slice (some ⟨119, 0, (some 0)⟩) 2 2) :: []))) 0
noncomputable def co_20 : AObj := .cells ((.string ⟨⟨[97]⟩⟩) :: (.int .i64 3) :: (.int .i64 5) :: rep 32 (.int .u8 0) ((.int .u8 6) :: (.int .u8 42) :: (.int .u8 8) :: (.int .u8 140) :: (.int .u8 251) :: (.int .u8 91) :: (.int .u8 124) :: (.int .u8 64) :: (.int .u8 45) :: (.int .u8 135) :: (.int .u8 23) :: (.int .u8 48) :: (.int .u8 171) :: (.int .u8 198) :: (.int .u8 50) :: (.int .u8 83) :: (.int .u8 6) :: (.int .u8 143) :: (.int .u8 224) :: (.int .u8 191) :: (.int .u8 80) :: (.int .u8 205) :: (.int .u8 63) :: (.int .u8 101) :: (.int .u8 68) :: (.int .u8 82) :: (.int .u8 26) :: (.int .u8 114) :: (.int .u8 181) :: (.int .u8 102) :: (.int .u8 136) :: (.int .u8 230) :: rep 64 (.int .u8 0) ((.int .i64 3) :: (.int .u8 7) :: (.int .u8 218) :: (.int .u8 153) :: (.int .u8 245) :: (.int .u8 22) :: (.int .u8 243) :: (.int .u8 57) :: (.int .u8 53) :: (.int .u8 12) :: (.int .u8 62) :: (.int .u8 187) :: (.int .u8 40) :: (.int .u8 219) :: (.int .u8 60) :: (.int .u8 114) :: (.int .u8 108) :: (.int .u8 145) :: (.int .u8 194) :: (.int .u8 110) :: (.int .u8 193) :: (.int .u8 43) :: (.int .u8 222) :: (.int .u8 143) :: (.int .u8 29) :: (.int .u8 210) :: (.int .u8 188) :: (.int .u8 35) :: (.int .u8 66) :: (.int .u8 31) :: (.int .u8 219) :: (.int .u8 29) :: (.int .u8 161) :: (.slice (some ⟨96, 0, none⟩) 0 0) :: (.slice (some ⟨98, 0, (some 0)⟩) 2 2) :: []))) 0
noncomputable def co_21 : AObj := .cells ((.string ⟨⟨[97]⟩⟩) :: (.int .i64 3) :: (.int .i64 4) :: rep 32 (.int .u8 0) ((.int .u8 6) :: (.int .u8 42) :: (.int .u8 8) :: (.int .u8 140) :: (.int .u8 251) :: (.int .u8 91) :: (.int .u8 124) :: (.int .u8 64) :: (.int .u8 45) :: (.int .u8 135) :: (.int .u8 23) :: (.int .u8 48) :: (.int .u8 171) :: (.int .u8 198) :: (.int .u8 50) :: (.int .u8 83) :: (.int .u8 6) :: (.int .u8 143) :: (.int .u8 224) :: (.int .u8 191) :: (.int .u8 80) :: (.int .u8 205) :: (.int .u8 63) :: (.int .u8 101) :: (.int .u8 68) :: (.int .u8 82) :: (.int .u8 26) :: (.int .u8 114) :: (.int .u8 181) :: (.int .u8 102) :: (.int .u8 136) :: (.int .u8 230) :: rep 64 (.int .u8 0) ((.int .i64 3) :: (.int .u8 7) :: (.int .u8 218) :: (.int .u8 153) :: (.int .u8 245) :: (.int .u8 22) :: (.int .u8 243) :: (.int .u8 57) :: (.int .u8 53) :: (.int .u8 12) :: (.int .u8 62) :: (.int .u8 187) :: (.int .u8 40) :: (.int .u8 219) :: (.int .u8 60) :: (.int .u8 114) :: (.int .u8 108) :: (.int .u8 145) :: (.int .u8 194) :: (.int .u8 110) :: (.int .u8 193) :: (.int .u8 43) :: (.int .u8 222) :: (.int .u8 143) :: (.int .u8 29) :: (.int .u8 210) :: (.int .u8 188) :: (.int .u8 35) :: (.int .u8 66) :: (.int .u8 31) :: (.int .u8 219) :: (.int .u8 29) :: (.int .u8 161) :: (.slice (some ⟨103, 0, none⟩) 0 0) :: (.slice (some ⟨105, 0, (some 0)⟩) 1 2) :: []))) 0
noncomputable def co_22 : AObj := .cells ((.string ⟨⟨[97]⟩⟩) :: (.int .i64 0) :: (.int .i64 4) :: rep 32 (.int .u8 0) ((.int .u8 6) :: (.int .u8 42) :: (.int .u8 8) :: (.int .u8 140) :: (.int .u8 251) :: (.int .u8 91) :: (.int .u8 124) :: (.int .u8 64) :: (.int .u8 45) :: (.int .u8 135) :: (.int .u8 23) :: (.int .u8 48) :: (.int .u8 171) :: (.int .u8 198) :: (.int .u8 50) :: (.int .u8 83) :: (.int .u8 6) :: (.int .u8 143) :: (.int .u8 224) :: (.int .u8 191) :: (.int .u8 80) :: (.int .u8 205) :: (.int .u8 63) :: (.int .u8 101) :: (.int .u8 68) :: (.int .u8 82) :: (.int .u8 26) :: (.int .u8 114) :: (.int .u8 181) :: (.int .u8 102) :: (.int .u8 136) :: (.int .u8 230) :: rep 64 (.int .u8 0) ((.int .i64 3) :: (.int .u8 7) :: (.int .u8 218) :: (.int .u8 153) :: (.int .u8 245) :: (.int .u8 22) :: (.int .u8 243) :: (.int .u8 57) :: (.int .u8 53) :: (.int .u8 12) :: (.int .u8 62) :: (.int .u8 187) :: (.int .u8 40) :: (.int .u8 219) :: (.int .u8 60) :: (.int .u8 114) :: (.int .u8 108) :: (.int .u8 145) :: (.int .u8 194) :: (.int .u8 110) :: (.int .u8 193) :: (.int .u8 43) :: (.int .u8 222) :: (.int .u8 143) :: (.int .u8 29) :: (.int .u8 210) :: (.int .u8 188) :: (.int .u8 35) :: (.int .u8 66) :: (.int .u8 31) :: (.int .u8 219) :: (.int .u8 29) :: (.int .u8 161) :: (.slice (some ⟨110, 0, none⟩) 0 0) :: (.slice (some ⟨112, 0, (some 0)⟩) 2 2) :: []))) 0
noncomputable def co_23 : AObj := .cells ((.string ⟨⟨[97]⟩⟩) :: (.int .i64 3) :: (.int .i64 4) :: rep 32 (.int .u8 0) ((.int .u8 6) :: (.int .u8 42) :: (.int .u8 8) :: (.int .u8 140) :: (.int .u8 251) :: (.int .u8 91) :: (.int .u8 124) :: (.int .u8 64) :: (.int .u8 45) :: (.int .u8 135) :: (.int .u8 23) :: (.int .u8 48) :: (.int .u8 171) :: (.int .u8 198) :: (.int .u8 50) :: (.int .u8 83) :: (.int .u8 6) :: (.int .u8 143) :: (.int .u8 224) :: (.int .u8 191) :: (.int .u8 80) :: (.int .u8 205) :: (.int .u8 63) :: (.int .u8 101) :: (.int .u8 68) :: (.int .u8 82) :: (.int .u8 26) :: (.int .u8 114) :: (.int .u8 181) :: (.int .u8 102) :: (.int .u8 136) :: (.int .u8 230) :: rep 64 (.int .u8 0) ((.int .i64 3) :: (.int .u8 7) :: (.int .u8 218) :: (.int .u8 153) :: (.int .u8 245) :: (.int .u8 22) :: (.int .u8 243) :: (.int .u8 57) :: (.int .u8 53) :: (.int .u8 12) :: (.int .u8 62) :: (.int .u8 187) :: (.int .u8 40) :: (.int .u8 219) :: (.int .u8 60) :: (.int .u8 114) :: (.int .u8 108) :: (.int .u8 145) :: (.int .u8 194) :: (.int .u8 110) :: (.int .u8 193) :: (.int .u8 43) :: (.int .u8 222) :: (.int .u8 143) :: (.int .u8 29) :: (.int .u8 210) :: (.int .u8 188) :: (.int .u8 35) :: (.int .u8 66) :: (.int .u8 31) :: (.int .u8 219) :: (.int .u8 29) :: (.int .u8 161) :: (.slice (some ⟨117, 0, none⟩) 0 0) :: (.slice none 0 0) :: []))) 0
noncomputable def cv_24 : Value := .agg ⟨(.string ⟨⟨[97]⟩⟩) :: (.int .i64 3) :: (.int .i64 5) :: rep 32 (.int .u8 0) ((.int .u8 6) :: (.int .u8 42) :: (.int .u8 8) :: (.int .u8 140) :: (.int .u8 251) :: (.int .u8 91) :: (.int .u8 124) :: (.int .u8 64) :: (.int .u8 45) :: (.int .u8 135) :: (.int .u8 23) :: (.int .u8 48) :: (.int .u8 171) :: (.int .u8 198) :: (.int .u8 50) :: (.int .u8 83) :: (.int .u8 6) :: (.int .u8 143) :: (.int .u8 224) :: (.int .u8 191) :: (.int .u8 80) :: (.int .u8 205) :: (.int .u8 63) :: (.int .u8 101) :: (.int .u8 68) :: (.int .u8 82) :: (.int .u8 26) :: (.int .u8 114) :: (.int .u8 181) :: (.int .u8 102) :: (.int .u8 136) :: (.int .u8 230) :: rep 64 (.int .u8 0) ((.int .i64 3) :: (.int .u8 7) :: (.int .u8 218) :: (.int .u8 153) :: (.int .u8 245) :: (.int .u8 22) :: (.int .u8 243) :: (.int .u8 57) :: (.int .u8 53) :: (.int .u8 12) :: (.int .u8 62) :: (.int .u8 187) :: (.int .u8 40) :: (.int .u8 219) :: (.int .u8 60) :: (.int .u8 114) :: (.int .u8 108) :: (.int .u8 145) :: (.int .u8 194) :: (.int .u8 110) :: (.int .u8 193) :: (.int .u8 43) :: (.int .u8 222) :: (.int .u8 143) :: (.int .u8 29) :: (.int .u8 210) :: (.int .u8 188) :: (.int .u8 35) :: (.int .u8 66) :: (.int .u8 31) :: (.int .u8 219) :: (.int .u8 29) :: (.int .u8 161) :: (.slice (some ⟨96, 0, none⟩) 0 0) :: (.slice (some ⟨98, 0, (some 0)⟩) 2 2) :: []))⟩
noncomputable def cv_25 : Value := .agg ⟨(.string ⟨⟨[97]⟩⟩) :: (.int .i64 3) :: (.int .i64 4) :: rep 32 (.int .u8 0) ((.int .u8 6) :: (.int .u8 42) :: (.int .u8 8) :: (.int .u8 140) :: (.int .u8 251) :: (.int .u8 91) :: (.int .u8 124) :: (.int .u8 64) :: (.int .u8 45) :: (.int .u8 135) :: (.int .u8 23) :: (.int .u8 48) :: (.int .u8 171) :: (.int .u8 198) :: (.int .u8 50) :: (.int .u8 83) :: (.int .u8 6) :: (.int .u8 143) :: (.int .u8 224) :: (.int .u8 191) :: (.int .u8 80) :: (.int .u8 205) :: (.int .u8 63) :: (.int .u8 101) :: (.int .u8 68) :: (.int .u8 82) :: (.int .u8 26) :: (.int .u8 114) :: (.int .u8 181) :: (.int .u8 102) :: (.int .u8 136) :: (.int .u8 230) :: rep 64 (.int .u8 0) ((.int .i64 3) :: (.int .u8 7) :: (.int .u8 218) :: (.int .u8 153) :: (.int .u8 245) :: (.int .u8 22) :: (.int .u8 243) :: (.int .u8 57) :: (.int .u8 53) :: (.int .u8 12) :: (.int .u8 62) :: (.int .u8 187) :: (.int .u8 40) :: (.int .u8 219) :: (.int .u8 60) :: (.int .u8 114) :: (.int .u8 108) :: (.int .u8 145) :: (.int .u8 194) :: (.int .u8 110) :: (.int .u8 193) :: (.int .u8 43) :: (.int .u8 222) :: (.int .u8 143) :: (.int .u8 29) :: (.int .u8 210) :: (.int .u8 188) :: (.int .u8 35) :: (.int .u8 66) :: (.int .u8 31) :: (.int .u8 219) :: (.int .u8 29) :: (.int .u8 161) :: (.slice (some ⟨103, 0, none⟩) 0 0) :: (.slice (some ⟨105, 0, (some 0)⟩) 1 2) :: []))⟩
noncomputable def cv_26 : Value := .agg ⟨(.string ⟨⟨[97]⟩⟩) :: (.int .i64 0) :: (.int .i64 4) :: rep 32 (.int .u8 0) ((.int .u8 6) :: (.int .u8 42) :: (.int .u8 8) :: (.int .u8 140) :: (.int .u8 251) :: (.int .u8 91) :: (.int .u8 124) :: (.int .u8 64) :: (.int .u8 45) :: (.int .u8 135) :: (.int .u8 23) :: (.int .u8 48) :: (.int .u8 171) :: (.int .u8 198) :: (.int .u8 50) :: (.int .u8 83) :: (.int .u8 6) :: (.int .u8 143) :: (.int .u8 224) :: (.int .u8 191) :: (.int .u8 80) :: (.int .u8 205) :: (.int .u8 63) :: (.int .u8 101) :: (.int .u8 68) :: (.int .u8 82) :: (.int .u8 26) :: (.int .u8 114) :: (.int .u8 181) :: (.int .u8 102) :: (.int .u8 136) :: (.int .u8 230) :: rep 64 (.int .u8 0) ((.int .i64 3) :: (.int .u8 7) :: (.int .u8 218) :: (.int .u8 153) :: (.int .u8 245) :: (.int .u8 22) :: (.int .u8 243) :: (.int .u8 57) :: (.int .u8 53) :: (.int .u8 12) :: (.int .u8 62) :: (.int .u8 187) :: (.int .u8 40) :: (.int .u8 219) :: (.int .u8 60) :: (.int .u8 114) :: (.int .u8 108) :: (.int .u8 145) :: (.int .u8 194) :: (.int .u8 110) :: (.int .u8 193) :: (.int .u8 43) :: (.int .u8 222) :: (.int .u8 143) :: (.int .u8 29) :: (.int .u8 210) :: (.int .u8 188) :: (.int .u8 35) :: (.int .u8 66) :: (.int .u8 31) :: (.int .u8 219) :: (.int .u8 29) :: (.int .u8 161) :: (.slice (some ⟨110, 0, none⟩) 0 0) :: (.slice (some ⟨112, 0, (some 0)⟩) 2 2) :: []))⟩
noncomputable def cv_27 : Value := .agg ⟨(.string ⟨⟨[97]⟩⟩) :: (.int .i64 3) :: (.int .i64 4) :: rep 32 (.int .u8 0) ((.int .u8 6) :: (.int .u8 42) :: (.int .u8 8) :: (.int .u8 140) :: (.int .u8 251) :: (.int .u8 91) :: (.int .u8 124) :: (.int .u8 64) :: (.int .u8 45) :: (.int .u8 135) :: (.int .u8 23) :: (.int .u8 48) :: (.int .u8 171) :: (.int .u8 198) :: (.int .u8 50) :: (.int .u8 83) :: (.int .u8 6) :: (.int .u8 143) :: (.int .u8 224) :: (.int .u8 191) :: (.int .u8 80) :: (.int .u8 205) :: (.int .u8 63) :: (.int .u8 101) :: (.int .u8 68) :: (.int .u8 82) :: (.int .u8 26) :: (.int .u8 114) :: (.int .u8 181) :: (.int .u8 102) :: (.int .u8 136) :: (.int .u8 230) :: rep 64 (.int .u8 0) ((.int .i64 3) :: (.int .u8 7) :: (.int .u8 218) :: (.int .u8 153) :: (.int .u8 245) :: (.int .u8 22) :: (.int .u8 243) :: (.int .u8 57) :: (.int .u8 53) :: (.int .u8 12) :: (.int .u8 62) :: (.int .u8 187) :: (.int .u8 40) :: (.int .u8 219) :: (.int .u8 60) :: (.int .u8 114) :: (.int .u8 108) :: (.int .u8 145) :: (.int .u8 194) :: (.int .u8 110) :: (.int .u8 193) :: (.int .u8 43) :: (.int .u8 222) :: (.int .u8 143) :: (.int .u8 29) :: (.int .u8 210) :: (.int .u8 188) :: (.int .u8 35) :: (.int .u8 66) :: (.int .u8 31) :: (.int .u8 219) :: (.int .u8 29) :: (.int .u8 161) :: (.slice (some ⟨117, 0, none⟩) 0 0) :: (.slice none 0 0) :: []))⟩
noncomputable def cv_28 : Value := .agg ⟨(.string ⟨⟨[]⟩⟩) :: (.int .i64 0) :: (.int .i64 0) :: rep 128 (.int .u8 0) ((.int .i64 0) :: rep 32 (.int .u8 0) ((.slice none 0 0) :: (.slice none 0 0) :: []))⟩
noncomputable def co_29 : AObj := .cells ((.string ⟨⟨[65]⟩⟩) :: (.int .i64 3) :: (.int .i64 4) :: rep 128 (.int .u8 0) ([])) 0
noncomputable def cv_30 : Value := .agg ⟨(.string ⟨⟨[65]⟩⟩) :: (.int .i64 3) :: (.int .i64 4) :: rep 128 (.int .u8 0) ([])⟩
noncomputable def co_31 : AObj := .cells ((.int .u8 1) :: (.int .u8 135) :: (.int .u8 1) :: (.int .u8 1) :: (.int .u8 97) :: (.int .u8 1) :: (.int .u8 3) :: (.int .u8 1) :: (.int .u8 4) :: rep 32 (.int .u8 0) ((.int .u8 6) :: (.int .u8 42) :: (.int .u8 8) :: (.int .u8 140) :: (.int .u8 251) :: (.int .u8 91) :: (.int .u8 124) :: (.int .u8 64) :: (.int .u8 45) :: (.int .u8 135) :: (.int .u8 23) :: (.int .u8 48) :: (.int .u8 171) :: (.int .u8 198) :: (.int .u8 50) :: (.int .u8 83) :: (.int .u8 6) :: (.int .u8 143) :: (.int .u8 224) :: (.int .u8 191) :: (.int .u8 80) :: (.int .u8 205) :: (.int .u8 63) :: (.int .u8 101) :: (.int .u8 68) :: (.int .u8 82) :: (.int .u8 26) :: (.int .u8 114) :: (.int .u8 181) :: (.int .u8 102) :: (.int .u8 136) :: (.int .u8 230) :: rep 64 (.int .u8 0) ((.int .u8 1) :: (.int .u8 35) :: (.int .u8 1) :: (.int .u8 3) :: (.int .u8 7) :: (.int .u8 218) :: (.int .u8 153) :: (.int .u8 245) :: (.int .u8 22) :: (.int .u8 243) :: (.int .u8 57) :: (.int .u8 53) :: (.int .u8 12) :: (.int .u8 62) :: (.int .u8 187) :: (.int .u8 40) :: (.int .u8 219) :: (.int .u8 60) :: (.int .u8 114) :: (.int .u8 108) :: (.int .u8 145) :: (.int .u8 194) :: (.int .u8 110) :: (.int .u8 193) :: (.int .u8 43) :: (.int .u8 222) :: (.int .u8 143) :: (.int .u8 29) :: (.int .u8 210) :: (.int .u8 188) :: (.int .u8 35) :: (.int .u8 66) :: (.int .u8 31) :: (.int .u8 219) :: (.int .u8 29) :: (.int .u8 161) :: (.int .u8 0) :: (.int .u8 1) :: (.int .u8 14) :: (.int .u8 1) :: (.int .u8 2) :: (.int .u8 0) :: (.int .u8 0) :: (.int .u8 0) :: (.int .u8 1) :: (.int .u8 1) :: (.int .u8 5) :: (.int .u8 0) :: (.int .u8 0) :: (.int .u8 0) :: (.int .u8 2) :: (.int .u8 1) :: (.int .u8 7) :: []))) 1
noncomputable def co_32 : AObj := .cells ((.int .u8 1) :: (.int .u8 2) :: (.int .u8 0) :: (.int .u8 0) :: (.int .u8 0) :: (.int .u8 1) :: (.int .u8 1) :: (.int .u8 5) :: (.int .u8 0) :: (.int .u8 0) :: (.int .u8 0) :: (.int .u8 2) :: (.int .u8 1) :: (.int .u8 7) :: []) 1
noncomputable def cv_33 : Value := .agg ⟨(.string ⟨⟨[97]⟩⟩) :: (.int .i64 3) :: (.int .i64 4) :: rep 32 (.int .u8 0) ((.int .u8 6) :: (.int .u8 42) :: (.int .u8 8) :: (.int .u8 140) :: (.int .u8 251) :: (.int .u8 91) :: (.int .u8 124) :: (.int .u8 64) :: (.int .u8 45) :: (.int .u8 135) :: (.int .u8 23) :: (.int .u8 48) :: (.int .u8 171) :: (.int .u8 198) :: (.int .u8 50) :: (.int .u8 83) :: (.int .u8 6) :: (.int .u8 143) :: (.int .u8 224) :: (.int .u8 191) :: (.int .u8 80) :: (.int .u8 205) :: (.int .u8 63) :: (.int .u8 101) :: (.int .u8 68) :: (.int .u8 82) :: (.int .u8 26) :: (.int .u8 114) :: (.int .u8 181) :: (.int .u8 102) :: (.int .u8 136) :: (.int .u8 230) :: rep 64 (.int .u8 0) ((.int .i64 3) :: (.int .u8 7) :: (.int .u8 218) :: (.int .u8 153) :: (.int .u8 245) :: (.int .u8 22) :: (.int .u8 243) :: (.int .u8 57) :: (.int .u8 53) :: (.int .u8 12) :: (.int .u8 62) :: (.int .u8 187) :: (.int .u8 40) :: (.int .u8 219) :: (.int .u8 60) :: (.int .u8 114) :: (.int .u8 108) :: (.int .u8 145) :: (.int .u8 194) :: (.int .u8 110) :: (.int .u8 193) :: (.int .u8 43) :: (.int .u8 222) :: (.int .u8 143) :: (.int .u8 29) :: (.int .u8 210) :: (.int .u8 188) :: (.int .u8 35) :: (.int .u8 66) :: (.int .u8 31) :: (.int .u8 219) :: (.int .u8 29) :: (.int .u8 161) :: (.slice (some ⟨1533, 0, (some 0)⟩) 1 1) :: (.slice (some ⟨1531, 0, (some 0)⟩) 2 2) :: []))⟩
noncomputable def co_34 : AObj := .cells ((.int .i64 3) :: (.int .u8 7) :: (.int .u8 218) :: (.int .u8 153) :: (.int .u8 245) :: (.int .u8 22) :: (.int .u8 243) :: (.int .u8 57) :: (.int .u8 53) :: (.int .u8 12) :: (.int .u8 62) :: (.int .u8 187) :: (.int .u8 40) :: (.int .u8 219) :: (.int .u8 60) :: (.int .u8 114) :: (.int .u8 108) :: (.int .u8 145) :: (.int .u8 194) :: (.int .u8 110) :: (.int .u8 193) :: (.int .u8 43) :: (.int .u8 222) :: (.int .u8 143) :: (.int .u8 29) :: (.int .u8 210) :: (.int .u8 188) :: (.int .u8 35) :: (.int .u8 66) :: (.int .u8 31) :: (.int .u8 219) :: (.int .u8 29) :: (.int .u8 161) :: (.slice (some ⟨1296, 0, none⟩) 0 0) :: []) 0
noncomputable def co_35 : AObj := .cells ((.int .i64 3) :: (.int .u8 7) :: (.int .u8 218) :: (.int .u8 153) :: (.int .u8 245) :: (.int .u8 22) :: (.int .u8 243) :: (.int .u8 57) :: (.int .u8 53) :: (.int .u8 12) :: (.int .u8 62) :: (.int .u8 187) :: (.int .u8 40) :: (.int .u8 219) :: (.int .u8 60) :: (.int .u8 114) :: (.int .u8 108) :: (.int .u8 145) :: (.int .u8 194) :: (.int .u8 110) :: (.int .u8 193) :: (.int .u8 43) :: (.int .u8 222) :: (.int .u8 143) :: (.int .u8 29) :: (.int .u8 210) :: (.int .u8 188) :: (.int .u8 35) :: (.int .u8 66) :: (.int .u8 31) :: (.int .u8 219) :: (.int .u8 29) :: (.int .u8 161) :: (.slice (some ⟨1169, 0, none⟩) 0 0) :: []) 0
noncomputable def co_36 : AObj := .cells ((.int .i64 3) :: (.int .u8 7) :: (.int .u8 218) :: (.int .u8 153) :: (.int .u8 245) :: (.int .u8 22) :: (.int .u8 243) :: (.int .u8 57) :: (.int .u8 53) :: (.int .u8 12) :: (.int .u8 62) :: (.int .u8 187) :: (.int .u8 40) :: (.int .u8 219) :: (.int .u8 60) :: (.int .u8 114) :: (.int .u8 108) :: (.int .u8 145) :: (.int .u8 194) :: (.int .u8 110) :: (.int .u8 193) :: (.int .u8 43) :: (.int .u8 222) :: (.int .u8 143) :: (.int .u8 29) :: (.int .u8 210) :: (.int .u8 188) :: (.int .u8 35) :: (.int .u8 66) :: (.int .u8 31) :: (.int .u8 219) :: (.int .u8 29) :: (.int .u8 161) :: (.slice (some ⟨1529, 0, none⟩) 0 0) :: []) 0
noncomputable def co_37 : AObj := .cells ((.string ⟨⟨[97]⟩⟩) :: (.int .i64 3) :: (.int .i64 4) :: rep 32 (.int .u8 0) ((.int .u8 6) :: (.int .u8 42) :: (.int .u8 8) :: (.int .u8 140) :: (.int .u8 251) :: (.int .u8 91) :: (.int .u8 124) :: (.int .u8 64) :: (.int .u8 45) :: (.int .u8 135) :: (.int .u8 23) :: (.int .u8 48) :: (.int .u8 171) :: (.int .u8 198) :: (.int .u8 50) :: (.int .u8 83) :: (.int .u8 6) :: (.int .u8 143) :: (.int .u8 224) :: (.int .u8 191) :: (.int .u8 80) :: (.int .u8 205) :: (.int .u8 63) :: (.int .u8 101) :: (.int .u8 68) :: (.int .u8 82) :: (.int .u8 26) :: (.int .u8 114) :: (.int .u8 181) :: (.int .u8 102) :: (.int .u8 136) :: (.int .u8 230) :: rep 64 (.int .u8 0) ((.int .i64 3) :: (.int .u8 7) :: (.int .u8 218) :: (.int .u8 153) :: (.int .u8 245) :: (.int .u8 22) :: (.int .u8 243) :: (.int .u8 57) :: (.int .u8 53) :: (.int .u8 12) :: (.int .u8 62) :: (.int .u8 187) :: (.int .u8 40) :: (.int .u8 219) :: (.int .u8 60) :: (.int .u8 114) :: (.int .u8 108) :: (.int .u8 145) :: (.int .u8 194) :: (.int .u8 110) :: (.int .u8 193) :: (.int .u8 43) :: (.int .u8 222) :: (.int .u8 143) :: (.int .u8 29) :: (.int .u8 210) :: (.int .u8 188) :: (.int .u8 35) :: (.int .u8 66) :: (.int .u8 31) :: (.int .u8 219) :: (.int .u8 29) :: (.int .u8 161) :: (.slice (some ⟨1046, 0, none⟩) 0 0) :: (.slice (some ⟨1048, 0, (some 0)⟩) 2 2) :: []))) 0
noncomputable def co_38 : AObj := .cells ((.string ⟨⟨[97]⟩⟩) :: (.int .i64 3) :: (.int .i64 4) :: rep 32 (.int .u8 0) ((.int .u8 6) :: (.int .u8 42) :: (.int .u8 8) :: (.int .u8 140) :: (.int .u8 251) :: (.int .u8 91) :: (.int .u8 124) :: (.int .u8 64) :: (.int .u8 45) :: (.int .u8 135) :: (.int .u8 23) :: (.int .u8 48) :: (.int .u8 171) :: (.int .u8 198) :: (.int .u8 50) :: (.int .u8 83) :: (.int .u8 6) :: (.int .u8 143) :: (.int .u8 224) :: (.int .u8 191) :: (.int .u8 80) :: (.int .u8 205) :: (.int .u8 63) :: (.int .u8 101) :: (.int .u8 68) :: (.int .u8 82) :: (.int .u8 26) :: (.int .u8 114) :: (.int .u8 181) :: (.int .u8 102) :: (.int .u8 136) :: (.int .u8 230) :: rep 64 (.int .u8 0) ((.int .i64 3) :: (.int .u8 7) :: (.int .u8 218) :: (.int .u8 153) :: (.int .u8 245) :: (.int .u8 22) :: (.int .u8 243) :: (.int .u8 57) :: (.int .u8 53) :: (.int .u8 12) :: (.int .u8 62) :: (.int .u8 187) :: (.int .u8 40) :: (.int .u8 219) :: (.int .u8 60) :: (.int .u8 114) :: (.int .u8 108) :: (.int .u8 145) :: (.int .u8 194) :: (.int .u8 110) :: (.int .u8 193) :: (.int .u8 43) :: (.int .u8 222) :: (.int .u8 143) :: (.int .u8 29) :: (.int .u8 210) :: (.int .u8 188) :: (.int .u8 35) :: (.int .u8 66) :: (.int .u8 31) :: (.int .u8 219) :: (.int .u8 29) :: (.int .u8 161) :: (.slice (some ⟨1533, 0, (some 0)⟩) 1 1) :: (.slice (some ⟨1531, 0, (some 0)⟩) 2 2) :: []))) 0
noncomputable def co_39 : AObj := .cells ((.string ⟨⟨[97]⟩⟩) :: (.int .i64 3) :: (.int .i64 4) :: rep 32 (.int .u8 0) ((.int .u8 6) :: (.int .u8 42) :: (.int .u8 8) :: (.int .u8 140) :: (.int .u8 251) :: (.int .u8 91) :: (.int .u8 124) :: (.int .u8 64) :: (.int .u8 45) :: (.int .u8 135) :: (.int .u8 23) :: (.int .u8 48) :: (.int .u8 171) :: (.int .u8 198) :: (.int .u8 50) :: (.int .u8 83) :: (.int .u8 6) :: (.int .u8 143) :: (.int .u8 224) :: (.int .u8 191) :: (.int .u8 80) :: (.int .u8 205) :: (.int .u8 63) :: (.int .u8 101) :: (.int .u8 68) :: (.int .u8 82) :: (.int .u8 26) :: (.int .u8 114) :: (.int .u8 181) :: (.int .u8 102) :: (.int .u8 136) :: (.int .u8 230) :: rep 64 (.int .u8 0) ((.int .i64 3) :: (.int .u8 7) :: (.int .u8 218) :: (.int .u8 153) :: (.int .u8 245) :: (.int .u8 22) :: (.int .u8 243) :: (.int .u8 57) :: (.int .u8 53) :: (.int .u8 12) :: (.int .u8 62) :: (.int .u8 187) :: (.int .u8 40) :: (.int .u8 219) :: (.int .u8 60) :: (.int .u8 114) :: (.int .u8 108) :: (.int .u8 145) :: (.int .u8 194) :: (.int .u8 110) :: (.int .u8 193) :: (.int .u8 43) :: (.int .u8 222) :: (.int .u8 143) :: (.int .u8 29) :: (.int .u8 210) :: (.int .u8 188) :: (.int .u8 35) :: (.int .u8 66) :: (.int .u8 31) :: (.int .u8 219) :: (.int .u8 29) :: (.int .u8 161) :: (.slice (some ⟨1300, 0, (some 0)⟩) 1 1) :: (.slice (some ⟨1298, 0, (some 0)⟩) 2 2) :: []))) 0
noncomputable def co_40 : AObj := .cells ((.string ⟨⟨[97]⟩⟩) :: (.int .i64 3) :: (.int .i64 4) :: rep 32 (.int .u8 0) ((.int .u8 6) :: (.int .u8 42) :: (.int .u8 8) :: (.int .u8 140) :: (.int .u8 251) :: (.int .u8 91) :: (.int .u8 124) :: (.int .u8 64) :: (.int .u8 45) :: (.int .u8 135) :: (.int .u8 23) :: (.int .u8 48) :: (.int .u8 171) :: (.int .u8 198) :: (.int .u8 50) :: (.int .u8 83) :: (.int .u8 6) :: (.int .u8 143) :: (.int .u8 224) :: (.int .u8 191) :: (.int .u8 80) :: (.int .u8 205) :: (.int .u8 63) :: (.int .u8 101) :: (.int .u8 68) :: (.int .u8 82) :: (.int .u8 26) :: (.int .u8 114) :: (.int .u8 181) :: (.int .u8 102) :: (.int .u8 136) :: (.int .u8 230) :: rep 64 (.int .u8 0) ((.int .i64 3) :: (.int .u8 7) :: (.int .u8 218) :: (.int .u8 153) :: (.int .u8 245) :: (.int .u8 22) :: (.int .u8 243) :: (.int .u8 57) :: (.int .u8 53) :: (.int .u8 12) :: (.int .u8 62) :: (.int .u8 187) :: (.int .u8 40) :: (.int .u8 219) :: (.int .u8 60) :: (.int .u8 114) :: (.int .u8 108) :: (.int .u8 145) :: (.int .u8 194) :: (.int .u8 110) :: (.int .u8 193) :: (.int .u8 43) :: (.int .u8 222) :: (.int .u8 143) :: (.int .u8 29) :: (.int .u8 210) :: (.int .u8 188) :: (.int .u8 35) :: (.int .u8 66) :: (.int .u8 31) :: (.int .u8 219) :: (.int .u8 29) :: (.int .u8 161) :: (.slice (some ⟨1173, 0, (some 0)⟩) 1 1) :: (.slice (some ⟨1171, 0, (some 0)⟩) 2 2) :: []))) 0
noncomputable def co_41 : AObj := .cells ((.string ⟨⟨[97]⟩⟩) :: (.int .i64 3) :: (.int .i64 4) :: rep 32 (.int .u8 0) ((.int .u8 6) :: (.int .u8 42) :: (.int .u8 8) :: (.int .u8 140) :: (.int .u8 251) :: (.int .u8 91) :: (.int .u8 124) :: (.int .u8 64) :: (.int .u8 45) :: (.int .u8 135) :: (.int .u8 23) :: (.int .u8 48) :: (.int .u8 171) :: (.int .u8 198) :: (.int .u8 50) :: (.int .u8 83) :: (.int .u8 6) :: (.int .u8 143) :: (.int .u8 224) :: (.int .u8 191) :: (.int .u8 80) :: (.int .u8 205) :: (.int .u8 63) :: (.int .u8 101) :: (.int .u8 68) :: (.int .u8 82) :: (.int .u8 26) :: (.int .u8 114) :: (.int .u8 181) :: (.int .u8 102) :: (.int .u8 136) :: (.int .u8 230) :: rep 64 (.int .u8 0) ((.int .i64 3) :: (.int .u8 7) :: (.int .u8 218) :: (.int .u8 153) :: (.int .u8 245) :: (.int .u8 22) :: (.int .u8 243) :: (.int .u8 57) :: (.int .u8 53) :: (.int .u8 12) :: (.int .u8 62) :: (.int .u8 187) :: (.int .u8 40) :: (.int .u8 219) :: (.int .u8 60) :: (.int .u8 114) :: (.int .u8 108) :: (.int .u8 145) :: (.int .u8 194) :: (.int .u8 110) :: (.int .u8 193) :: (.int .u8 43) :: (.int .u8 222) :: (.int .u8 143) :: (.int .u8 29) :: (.int .u8 210) :: (.int .u8 188) :: (.int .u8 35) :: (.int .u8 66) :: (.int .u8 31) :: (.int .u8 219) :: (.int .u8 29) :: (.int .u8 161) :: (.slice none 0 0) :: (.slice (some ⟨771, 0, (some 0)⟩) 2 2) :: []))) 0
noncomputable def co_42 : AObj := .cells ((.string ⟨⟨[97]⟩⟩) :: (.int .i64 3) :: (.int .i64 4) :: rep 32 (.int .u8 0) ((.int .u8 6) :: (.int .u8 42) :: (.int .u8 8) :: (.int .u8 140) :: (.int .u8 251) :: (.int .u8 91) :: (.int .u8 124) :: (.int .u8 64) :: (.int .u8 45) :: (.int .u8 135) :: (.int .u8 23) :: (.int .u8 48) :: (.int .u8 171) :: (.int .u8 198) :: (.int .u8 50) :: (.int .u8 83) :: (.int .u8 6) :: (.int .u8 143) :: (.int .u8 224) :: (.int .u8 191) :: (.int .u8 80) :: (.int .u8 205) :: (.int .u8 63) :: (.int .u8 101) :: (.int .u8 68) :: (.int .u8 82) :: (.int .u8 26) :: (.int .u8 114) :: (.int .u8 181) :: (.int .u8 102) :: (.int .u8 136) :: (.int .u8 230) :: rep 64 (.int .u8 0) ((.int .i64 4) :: (.int .u8 7) :: (.int .u8 218) :: (.int .u8 153) :: (.int .u8 245) :: (.int .u8 22) :: (.int .u8 243) :: (.int .u8 57) :: (.int .u8 53) :: (.int .u8 12) :: (.int .u8 62) :: (.int .u8 187) :: (.int .u8 40) :: (.int .u8 219) :: (.int .u8 60) :: (.int .u8 114) :: (.int .u8 108) :: (.int .u8 145) :: (.int .u8 194) :: (.int .u8 110) :: (.int .u8 193) :: (.int .u8 43) :: (.int .u8 222) :: (.int .u8 143) :: (.int .u8 29) :: (.int .u8 210) :: (.int .u8 188) :: (.int .u8 35) :: (.int .u8 66) :: (.int .u8 31) :: (.int .u8 219) :: (.int .u8 29) :: (.int .u8 161) :: (.slice (some ⟨1046, 0, none⟩) 0 0) :: (.slice (some ⟨1048, 0, (some 0)⟩) 2 2) :: []))) 0
noncomputable def co_43 : AObj := .cells ((.int .i64 3) :: (.int .u8 7) :: (.int .u8 218) :: (.int .u8 153) :: (.int .u8 245) :: (.int .u8 22) :: (.int .u8 243) :: (.int .u8 57) :: (.int .u8 53) :: (.int .u8 12) :: (.int .u8 62) :: (.int .u8 187) :: (.int .u8 40) :: (.int .u8 219) :: (.int .u8 60) :: (.int .u8 114) :: (.int .u8 108) :: (.int .u8 145) :: (.int .u8 194) :: (.int .u8 110) :: (.int .u8 193) :: (.int .u8 43) :: (.int .u8 222) :: (.int .u8 143) :: (.int .u8 29) :: (.int .u8 210) :: (.int .u8 188) :: (.int .u8 35) :: (.int .u8 66) :: (.int .u8 31) :: (.int .u8 219) :: (.int .u8 29) :: (.int .u8 161) :: (.slice (some ⟨1046, 0, none⟩) 0 0) :: []) 0
noncomputable def co_44 : AObj := .cells ((.string ⟨⟨[97]⟩⟩) :: (.int .i64 3) :: (.int .i64 4) :: rep 32 (.int .u8 0) ((.int .u8 6) :: (.int .u8 42) :: (.int .u8 8) :: (.int .u8 140) :: (.int .u8 251) :: (.int .u8 91) :: (.int .u8 124) :: (.int .u8 64) :: (.int .u8 45) :: (.int .u8 135) :: (.int .u8 23) :: (.int .u8 48) :: (.int .u8 171) :: (.int .u8 198) :: (.int .u8 50) :: (.int .u8 83) :: (.int .u8 6) :: (.int .u8 143) :: (.int .u8 224) :: (.int .u8 191) :: (.int .u8 80) :: (.int .u8 205) :: (.int .u8 63) :: (.int .u8 101) :: (.int .u8 68) :: (.int .u8 82) :: (.int .u8 26) :: (.int .u8 114) :: (.int .u8 181) :: (.int .u8 102) :: (.int .u8 136) :: (.int .u8 230) :: rep 64 (.int .u8 0) ((.int .i64 3) :: (.int .u8 7) :: (.int .u8 218) :: (.int .u8 153) :: (.int .u8 245) :: (.int .u8 22) :: (.int .u8 243) :: (.int .u8 57) :: (.int .u8 53) :: (.int .u8 12) :: (.int .u8 62) :: (.int .u8 187) :: (.int .u8 40) :: (.int .u8 219) :: (.int .u8 60) :: (.int .u8 114) :: (.int .u8 108) :: (.int .u8 145) :: (.int .u8 194) :: (.int .u8 110) :: (.int .u8 193) :: (.int .u8 43) :: (.int .u8 222) :: (.int .u8 143) :: (.int .u8 29) :: (.int .u8 210) :: (.int .u8 188) :: (.int .u8 35) :: (.int .u8 66) :: (.int .u8 31) :: (.int .u8 219) :: (.int .u8 29) :: (.int .u8 161) :: (.slice (some ⟨1529, 0, none⟩) 0 0) :: (.slice (some ⟨1531, 0, (some 0)⟩) 2 2) :: []))) 0
noncomputable def co_45 : AObj := .cells ((.string ⟨⟨[97]⟩⟩) :: (.int .i64 3) :: (.int .i64 4) :: rep 32 (.int .u8 0) ((.int .u8 6) :: (.int .u8 42) :: (.int .u8 8) :: (.int .u8 140) :: (.int .u8 251) :: (.int .u8 91) :: (.int .u8 124) :: (.int .u8 64) :: (.int .u8 45) :: (.int .u8 135) :: (.int .u8 23) :: (.int .u8 48) :: (.int .u8 171) :: (.int .u8 198) :: (.int .u8 50) :: (.int .u8 83) :: (.int .u8 6) :: (.int .u8 143) :: (.int .u8 224) :: (.int .u8 191) :: (.int .u8 80) :: (.int .u8 205) :: (.int .u8 63) :: (.int .u8 101) :: (.int .u8 68) :: (.int .u8 82) :: (.int .u8 26) :: (.int .u8 114) :: (.int .u8 181) :: (.int .u8 102) :: (.int .u8 136) :: (.int .u8 230) :: rep 64 (.int .u8 0) ((.int .i64 3) :: (.int .u8 7) :: (.int .u8 218) :: (.int .u8 153) :: (.int .u8 245) :: (.int .u8 22) :: (.int .u8 243) :: (.int .u8 57) :: (.int .u8 53) :: (.int .u8 12) :: (.int .u8 62) :: (.int .u8 187) :: (.int .u8 40) :: (.int .u8 219) :: (.int .u8 60) :: (.int .u8 114) :: (.int .u8 108) :: (.int .u8 145) :: (.int .u8 194) :: (.int .u8 110) :: (.int .u8 193) :: (.int .u8 43) :: (.int .u8 222) :: (.int .u8 143) :: (.int .u8 29) :: (.int .u8 210) :: (.int .u8 188) :: (.int .u8 35) :: (.int .u8 66) :: (.int .u8 31) :: (.int .u8 219) :: (.int .u8 29) :: (.int .u8 161) :: (.slice (some ⟨1296, 0, none⟩) 0 0) :: (.slice (some ⟨1298, 0, (some 0)⟩) 2 2) :: []))) 0
noncomputable def co_46 : AObj := .cells ((.string ⟨⟨[97]⟩⟩) :: (.int .i64 3) :: (.int .i64 4) :: rep 32 (.int .u8 0) ((.int .u8 6) :: (.int .u8 42) :: (.int .u8 8) :: (.int .u8 140) :: (.int .u8 251) :: (.int .u8 91) :: (.int .u8 124) :: (.int .u8 64) :: (.int .u8 45) :: (.int .u8 135) :: (.int .u8 23) :: (.int .u8 48) :: (.int .u8 171) :: (.int .u8 198) :: (.int .u8 50) :: (.int .u8 83) :: (.int .u8 6) :: (.int .u8 143) :: (.int .u8 224) :: (.int .u8 191) :: (.int .u8 80) :: (.int .u8 205) :: (.int .u8 63) :: (.int .u8 101) :: (.int .u8 68) :: (.int .u8 82) :: (.int .u8 26) :: (.int .u8 114) :: (.int .u8 181) :: (.int .u8 102) :: (.int .u8 136) :: (.int .u8 230) :: rep 64 (.int .u8 0) ((.int .i64 3) :: (.int .u8 7) :: (.int .u8 218) :: (.int .u8 153) :: (.int .u8 245) :: (.int .u8 22) :: (.int .u8 243) :: (.int .u8 57) :: (.int .u8 53) :: (.int .u8 12) :: (.int .u8 62) :: (.int .u8 187) :: (.int .u8 40) :: (.int .u8 219) :: (.int .u8 60) :: (.int .u8 114) :: (.int .u8 108) :: (.int .u8 145) :: (.int .u8 194) :: (.int .u8 110) :: (.int .u8 193) :: (.int .u8 43) :: (.int .u8 222) :: (.int .u8 143) :: (.int .u8 29) :: (.int .u8 210) :: (.int .u8 188) :: (.int .u8 35) :: (.int .u8 66) :: (.int .u8 31) :: (.int .u8 219) :: (.int .u8 29) :: (.int .u8 161) :: (.slice (some ⟨1169, 0, none⟩) 0 0) :: (.slice (some ⟨1171, 0, (some 0)⟩) 2 2) :: []))) 0
noncomputable def co_47 : AObj := .cells ((.int .i64 3) :: (.int .u8 7) :: (.int .u8 218) :: (.int .u8 153) :: (.int .u8 245) :: (.int .u8 22) :: (.int .u8 243) :: (.int .u8 57) :: (.int .u8 53) :: (.int .u8 12) :: (.int .u8 62) :: (.int .u8 187) :: (.int .u8 40) :: (.int .u8 219) :: (.int .u8 60) :: (.int .u8 114) :: (.int .u8 108) :: (.int .u8 145) :: (.int .u8 194) :: (.int .u8 110) :: (.int .u8 193) :: (.int .u8 43) :: (.int .u8 222) :: (.int .u8 143) :: (.int .u8 29) :: (.int .u8 210) :: (.int .u8 188) :: (.int .u8 35) :: (.int .u8 66) :: (.int .u8 31) :: (.int .u8 219) :: (.int .u8 29) :: (.int .u8 161) :: (.slice none 0 0) :: []) 0
noncomputable def co_48 : AObj := .cells ((.string ⟨⟨[97]⟩⟩) :: (.int .i64 3) :: (.int .i64 4) :: rep 32 (.int .u8 0) ((.int .u8 6) :: (.int .u8 42) :: (.int .u8 8) :: (.int .u8 140) :: (.int .u8 251) :: (.int .u8 91) :: (.int .u8 124) :: (.int .u8 64) :: (.int .u8 45) :: (.int .u8 135) :: (.int .u8 23) :: (.int .u8 48) :: (.int .u8 171) :: (.int .u8 198) :: (.int .u8 50) :: (.int .u8 83) :: (.int .u8 6) :: (.int .u8 143) :: (.int .u8 224) :: (.int .u8 191) :: (.int .u8 80) :: (.int .u8 205) :: (.int .u8 63) :: (.int .u8 101) :: (.int .u8 68) :: (.int .u8 82) :: (.int .u8 26) :: (.int .u8 114) :: (.int .u8 181) :: (.int .u8 102) :: (.int .u8 136) :: (.int .u8 230) :: rep 64 (.int .u8 0) ((.int .i64 3) :: (.int .u8 7) :: (.int .u8 218) :: (.int .u8 153) :: (.int .u8 245) :: (.int .u8 22) :: (.int .u8 243) :: (.int .u8 57) :: (.int .u8 53) :: (.int .u8 12) :: (.int .u8 62) :: (.int .u8 187) :: (.int .u8 40) :: (.int .u8 219) :: (.int .u8 60) :: (.int .u8 114) :: (.int .u8 108) :: (.int .u8 145) :: (.int .u8 194) :: (.int .u8 110) :: (.int .u8 193) :: (.int .u8 43) :: (.int .u8 222) :: (.int .u8 143) :: (.int .u8 29) :: (.int .u8 210) :: (.int .u8 188) :: (.int .u8 35) :: (.int .u8 66) :: (.int .u8 31) :: (.int .u8 219) :: (.int .u8 29) :: (.int .u8 161) :: (.slice none 0 0) :: (.slice (some ⟨1031, 0, (some 0)⟩) 2 2) :: []))) 0
noncomputable def ct_1 : Tr := .node .dead .nil .nil
noncomputable def ct_2 : Tr := .node .dead ct_1 .nil
noncomputable def ct_3 : Tr := .node .dead ct_2 ct_2
noncomputable def ct_4 : Tr := .node co_4 .nil .nil
noncomputable def ct_5 : Tr := .node .dead ct_4 .nil
noncomputable def ct_6 : Tr := .node .dead ct_2 ct_1
noncomputable def ct_7 : Tr := .node .dead ct_3 ct_6
noncomputable def ct_8 : Tr := .node .dead ct_7 ct_7
noncomputable def ct_9 : Tr := .node co_6 .nil .nil
noncomputable def ct_10 : Tr := .node .dead ct_9 .nil
noncomputable def ct_11 : Tr := .node .dead ct_2 ct_10
noncomputable def ct_12 : Tr := .node .dead (.node co_3 (.node .dead (.node .dead ct_3 (.node .dead ct_2 ct_5)) ct_7) ct_8) (.node co_5 ct_8 (.node .dead ct_7 (.node .dead ct_11 ct_6)))
noncomputable def ct_13 : Tr := .node .dead .nil ct_5
noncomputable def ct_14 : Tr := .node .dead .nil ct_13
noncomputable def ct_15 : Tr := .node .dead .nil ct_2
noncomputable def ct_16 : Tr := .node .dead .nil ct_15
noncomputable def ct_17 : Tr := .node .dead ct_14 ct_16
noncomputable def ct_18 : Tr := .node .dead ct_16 .nil
noncomputable def ct_19 : Tr := .node .dead ct_17 ct_18
noncomputable def ct_20 : Tr := .node .dead .nil ct_10
noncomputable def ct_21 : Tr := .node .dead ct_20 .nil
noncomputable def ct_22 : Tr := .node .dead ct_16 ct_21
noncomputable def ct_23 : Tr := .node co_5 ct_18 ct_22
noncomputable def ct_24 : Tr := .node co_7 .nil .nil
noncomputable def ct_25 : Tr := .node .dead ct_24 .nil
noncomputable def ct_26 : Tr := .node .dead .nil ct_25
noncomputable def ct_27 : Tr := .node .dead .nil ct_26
noncomputable def ct_28 : Tr := .node .dead ct_14 ct_27
noncomputable def ct_29 : Tr := .node .dead ct_28 ct_18
noncomputable def ct_30 : Tr := .node .dead ct_27 ct_21
noncomputable def ct_31 : Tr := .node co_5 ct_18 ct_30
noncomputable def ct_32 : Tr := .node .dead ct_27 .nil
noncomputable def ct_33 : Tr := .node .dead ct_17 ct_32
noncomputable def ct_34 : Tr := .node co_5 ct_32 ct_22
noncomputable def ct_35 : Tr := .node co_9 .nil .nil
noncomputable def ct_36 : Tr := .node .dead .nil ct_35
noncomputable def ct_37 : Tr := .node .dead ct_36 .nil
noncomputable def ct_38 : Tr := .node .dead ct_37 ct_13
noncomputable def ct_39 : Tr := .node .dead ct_38 ct_16
noncomputable def ct_40 : Tr := .node (.cells [] 0) .nil .nil
noncomputable def ct_41 : Tr := .node .dead .nil ct_40
noncomputable def ct_42 : Tr := .node .dead ct_41 .nil
noncomputable def ct_43 : Tr := .node .dead (.node co_10 .nil .nil) .nil
noncomputable def ct_44 : Tr := .node .dead .nil ct_43
noncomputable def ct_45 : Tr := .node .dead .nil ct_44
noncomputable def ct_46 : Tr := .node .dead (.node .dead ct_42 ct_15) ct_45
noncomputable def ct_47 : Tr := .node .dead ct_39 ct_46
noncomputable def ct_48 : Tr := .node .dead .nil ct_9
noncomputable def ct_49 : Tr := .node .dead ct_48 .nil
noncomputable def ct_50 : Tr := .node .dead ct_49 ct_15
noncomputable def ct_51 : Tr := .node .dead ct_35 .nil
noncomputable def ct_52 : Tr := .node .dead .nil ct_51
noncomputable def ct_53 : Tr := .node .dead ct_20 ct_52
noncomputable def ct_54 : Tr := .node .dead ct_50 ct_53
noncomputable def ct_55 : Tr := .node co_5 ct_46 ct_54
noncomputable def ct_56 : Tr := .node .dead ct_41 ct_5
noncomputable def ct_57 : Tr := .node .dead ct_37 ct_56
noncomputable def ct_58 : Tr := .node co_12 .nil .nil
noncomputable def ct_59 : Tr := .node .dead .nil ct_58
noncomputable def ct_60 : Tr := .node .dead ct_59 .nil
noncomputable def ct_61 : Tr := .node .dead ct_57 (.node .dead ct_60 ct_15)
noncomputable def ct_62 : Tr := .node .dead ct_48 ct_2
noncomputable def ct_63 : Tr := .node .dead ct_42 ct_62
noncomputable def ct_64 : Tr := .node .dead .nil (.node co_13 .nil .nil)
noncomputable def ct_65 : Tr := .node .dead ct_64 .nil
noncomputable def ct_66 : Tr := .node .dead ct_65 ct_44
noncomputable def ct_67 : Tr := .node .dead ct_63 ct_66
noncomputable def ct_68 : Tr := .node .dead ct_61 ct_67
noncomputable def ct_69 : Tr := .node .dead ct_41 ct_2
noncomputable def ct_70 : Tr := .node .dead ct_60 ct_44
noncomputable def ct_71 : Tr := .node .dead (.node .dead ct_42 ct_69) ct_70
noncomputable def ct_72 : Tr := .node .dead ct_64 ct_10
noncomputable def ct_73 : Tr := .node .dead ct_72 ct_52
noncomputable def ct_74 : Tr := .node .dead ct_50 ct_73
noncomputable def ct_75 : Tr := .node co_5 ct_71 ct_74
noncomputable def ct_76 : Tr := .node .dead (.node .dead ct_42 ct_26) ct_45
noncomputable def ct_77 : Tr := .node co_5 ct_76 ct_54
noncomputable def ct_78 : Tr := .node .dead ct_39 ct_76
noncomputable def ct_79 : Tr := .node co_5 ct_32 ct_30
noncomputable def ct_80 : Tr := .node .dead ct_49 ct_26
noncomputable def ct_81 : Tr := .node .dead ct_80 ct_53
noncomputable def ct_82 : Tr := .node co_5 ct_46 ct_81
noncomputable def ct_83 : Tr := .node .dead ct_28 ct_32
noncomputable def ct_84 : Tr := .node .dead ct_38 ct_27
noncomputable def ct_85 : Tr := .node .dead ct_84 ct_46
noncomputable def ct_86 : Tr := .node .dead ct_84 ct_76
noncomputable def ct_87 : Tr := .node co_5 ct_76 ct_81
noncomputable def ct_88 : Tr := .node .dead ct_57 (.node .dead ct_60 ct_26)
noncomputable def ct_89 : Tr := .node .dead ct_88 ct_67
noncomputable def ct_90 : Tr := .node .dead ct_80 ct_73
noncomputable def ct_91 : Tr := .node co_5 ct_71 ct_90
noncomputable def ct_92 : Tr := .node .dead ct_48 ct_25
noncomputable def ct_93 : Tr := .node .dead ct_42 ct_92
noncomputable def ct_94 : Tr := .node .dead ct_93 ct_66
noncomputable def ct_95 : Tr := .node .dead ct_61 ct_94
noncomputable def ct_96 : Tr := .node .dead ct_41 ct_25
noncomputable def ct_97 : Tr := .node .dead (.node .dead ct_42 ct_96) ct_70
noncomputable def ct_98 : Tr := .node co_5 ct_97 ct_74
noncomputable def ct_99 : Tr := .node .dead ct_36 ct_41
noncomputable def ct_100 : Tr := .node .dead ct_99 ct_56
noncomputable def ct_101 : Tr := .node co_15 .nil .nil
noncomputable def ct_102 : Tr := .node .dead .nil ct_101
noncomputable def ct_103 : Tr := .node .dead ct_102 ct_2
noncomputable def ct_104 : Tr := .node .dead ct_100 (.node .dead ct_60 ct_103)
noncomputable def ct_105 : Tr := .node .dead (.node .dead .nil (.node co_16 .nil .nil)) ct_43
noncomputable def ct_106 : Tr := .node .dead ct_65 ct_105
noncomputable def ct_107 : Tr := .node .dead ct_63 ct_106
noncomputable def ct_108 : Tr := .node .dead ct_104 ct_107
noncomputable def ct_109 : Tr := .node .dead ct_41 ct_48
noncomputable def ct_110 : Tr := .node .dead ct_109 ct_69
noncomputable def ct_111 : Tr := .node .dead ct_60 ct_105
noncomputable def ct_112 : Tr := .node .dead ct_110 ct_111
noncomputable def ct_113 : Tr := .node .dead ct_41 ct_51
noncomputable def ct_114 : Tr := .node .dead ct_72 ct_113
noncomputable def ct_115 : Tr := .node .dead (.node .dead ct_49 ct_103) ct_114
noncomputable def ct_116 : Tr := .node co_5 ct_112 ct_115
noncomputable def ct_117 : Tr := .node .dead ct_99 (.node .dead ct_41 (.node .dead ct_4 ct_9))
noncomputable def ct_118 : Tr := .node .dead ct_59 (.node .dead .nil (.node co_18 .nil .nil))
noncomputable def ct_119 : Tr := .node .dead ct_117 (.node .dead ct_118 ct_103)
noncomputable def ct_120 : Tr := .node co_19 .nil .nil
noncomputable def ct_121 : Tr := .node .dead .nil ct_120
noncomputable def ct_122 : Tr := .node .dead ct_41 ct_121
noncomputable def ct_123 : Tr := .node .dead (.node .dead ct_64 ct_41) ct_105
noncomputable def ct_124 : Tr := .node .dead (.node .dead ct_122 ct_62) ct_123
noncomputable def ct_125 : Tr := .node .dead ct_119 ct_124
noncomputable def ct_126 : Tr := .node .dead ct_118 ct_105
noncomputable def ct_127 : Tr := .node .dead ct_110 ct_126
noncomputable def ct_128 : Tr := .node .dead ct_48 ct_121
noncomputable def ct_129 : Tr := .node .dead (.node .dead ct_64 (.node .dead ct_9 ct_40)) ct_113
noncomputable def ct_130 : Tr := .node .dead (.node .dead ct_128 ct_103) ct_129
noncomputable def ct_131 : Tr := .node co_5 ct_127 ct_130
noncomputable def ct_132 : Tr := .node .dead ct_109 ct_96
noncomputable def ct_133 : Tr := .node .dead ct_132 ct_111
noncomputable def ct_134 : Tr := .node co_5 ct_133 ct_115
noncomputable def ct_135 : Tr := .node .dead ct_93 ct_106
noncomputable def ct_136 : Tr := .node .dead ct_104 ct_135
noncomputable def ct_137 : Tr := .node .dead ct_102 ct_25
noncomputable def ct_138 : Tr := .node .dead (.node .dead ct_49 ct_137) ct_114
noncomputable def ct_139 : Tr := .node co_5 ct_112 ct_138
noncomputable def ct_140 : Tr := .node .dead ct_100 (.node .dead ct_60 ct_137)
noncomputable def ct_141 : Tr := .node .dead ct_140 ct_107
noncomputable def ct_142 : Tr := .node co_5 ct_97 ct_90
noncomputable def ct_143 : Tr := .node .dead ct_88 ct_94
noncomputable def ct_144 : Tr := .node .dead ct_140 ct_135
noncomputable def ct_145 : Tr := .node co_5 ct_133 ct_138
noncomputable def ct_146 : Tr := .node .dead ct_117 (.node .dead ct_118 ct_137)
noncomputable def ct_147 : Tr := .node .dead ct_146 ct_124
noncomputable def ct_148 : Tr := .node .dead (.node .dead ct_128 ct_137) ct_129
noncomputable def ct_149 : Tr := .node co_5 ct_127 ct_148
noncomputable def ct_150 : Tr := .node .dead (.node .dead ct_122 ct_92) ct_123
noncomputable def ct_151 : Tr := .node .dead ct_119 ct_150
noncomputable def ct_152 : Tr := .node .dead ct_132 ct_126
noncomputable def ct_153 : Tr := .node co_5 ct_152 ct_130
noncomputable def ct_154 : Tr := .node co_5 ct_152 ct_148
noncomputable def ct_155 : Tr := .node .dead ct_146 ct_150
noncomputable def ct_156 : Tr := .node .dead (.node .dead ct_109 (.node .dead ct_41 ct_43)) ct_126
noncomputable def ct_157 : Tr := .node co_5 ct_156 ct_148
noncomputable def ct_158 : Tr := .node .dead (.node .dead ct_122 (.node .dead ct_48 (.node .dead ct_58 .nil))) ct_123
noncomputable def ct_159 : Tr := .node .dead ct_146 ct_158
noncomputable def ct_160 : Tr := .node .dead (.node .dead ct_128 (.node .dead ct_102 (.node .dead ct_101 .nil))) ct_129
noncomputable def ct_161 : Tr := .node co_5 ct_156 ct_160
noncomputable def ct_162 : Tr := .node .dead ct_117 (.node .dead ct_118 (.node .dead ct_102 (.node .dead ct_120 .nil)))
noncomputable def ct_163 : Tr := .node .dead ct_162 ct_158
noncomputable def ct_164 : Tr := .node .dead ct_163 ct_161
noncomputable def ct_165 : Tr := .node .dead (.node .dead ct_109 (.node .dead ct_41 (.node .dead (.node co_20 .nil .nil) .nil))) ct_126
noncomputable def ct_166 : Tr := .node co_5 ct_165 ct_160
noncomputable def ct_167 : Tr := .node .dead (.node .dead ct_122 (.node .dead ct_48 (.node .dead (.node co_21 .nil .nil) .nil))) ct_123
noncomputable def ct_168 : Tr := .node .dead ct_162 ct_167
noncomputable def ct_169 : Tr := .node co_5 ct_165 (.node .dead (.node .dead ct_128 (.node .dead ct_102 (.node .dead (.node co_22 .nil .nil) .nil))) ct_129)
noncomputable def ct_170 : Tr := .node co_9 ct_2 ct_2
noncomputable def ct_171 : Tr := .node (.cells [] 0) ct_2 ct_1
noncomputable def ct_172 : Tr := .node .dead ct_3 ct_171
noncomputable def ct_173 : Tr := .node .dead (.node .dead ct_3 ct_170) ct_172
noncomputable def ct_174 : Tr := .node co_6 ct_2 ct_1
noncomputable def ct_175 : Tr := .node .dead (.node co_4 ct_2 ct_2) ct_174
noncomputable def ct_176 : Tr := .node .dead ct_3 (.node co_18 ct_2 ct_1)
noncomputable def ct_177 : Tr := .node .dead (.node .dead ct_3 (.node co_12 ct_2 ct_1)) ct_176
noncomputable def ct_178 : Tr := .node .dead ct_3 (.node co_15 ct_2 ct_1)
noncomputable def ct_179 : Tr := .node co_23 ct_2 ct_2
noncomputable def ct_180 : Tr := .node .dead ct_178 (.node .dead ct_179 ct_6)
noncomputable def ct_181 : Tr := .node (.cells [] 0) ct_2 ct_2
noncomputable def ct_182 : Tr := .node .dead ct_3 ct_181
noncomputable def ct_183 : Tr := .node .dead ct_3 (.node co_19 ct_2 ct_1)
noncomputable def ct_184 : Tr := .node .dead ct_182 ct_183
noncomputable def ct_185 : Tr := .node .dead ct_3 ct_174
noncomputable def ct_186 : Tr := .node co_21 ct_2 ct_2
noncomputable def ct_187 : Tr := .node .dead ct_186 ct_6
noncomputable def ct_188 : Tr := .node .dead ct_184 (.node .dead ct_185 ct_187)
noncomputable def ct_189 : Tr := .node .dead ct_3 (.node co_13 ct_2 ct_1)
noncomputable def ct_190 : Tr := .node co_10 ct_2 ct_2
noncomputable def ct_191 : Tr := .node .dead (.node .dead ct_3 (.node co_16 ct_2 ct_1)) (.node .dead ct_190 ct_6)
noncomputable def ct_192 : Tr := .node .dead ct_182 ct_185
noncomputable def ct_193 : Tr := .node co_20 ct_2 ct_2
noncomputable def ct_194 : Tr := .node .dead ct_193 ct_6
noncomputable def ct_195 : Tr := .node co_6 ct_2 ct_2
noncomputable def ct_196 : Tr := .node .dead (.node .dead ct_3 ct_195) ct_183
noncomputable def ct_197 : Tr := .node co_22 ct_2 ct_2
noncomputable def ct_198 : Tr := .node .dead ct_197 ct_6
noncomputable def ct_199 : Tr := .node .dead ct_196 (.node .dead ct_178 ct_198)
noncomputable def ct_200 : Tr := .node .dead ct_195 ct_171
noncomputable def ct_201 : Tr := .node .dead ct_172 (.node .dead ct_170 ct_6)
noncomputable def ct_202 : Tr := .node co_3 .nil .nil
noncomputable def ct_203 : Tr := .node .dead ct_202 .nil
noncomputable def ct_204 : Tr := .node co_12 ct_2 ct_203
noncomputable def ct_205 : Tr := .node .dead (.node .dead ct_173 (.node .dead ct_182 ct_175)) (.node .dead (.node .dead (.node .dead ct_3 ct_204) ct_176) ct_180)
noncomputable def ct_206 : Tr := .node co_13 ct_2 ct_2
noncomputable def ct_207 : Tr := .node .dead ct_3 ct_206
noncomputable def ct_208 : Tr := .node .dead (.node .dead ct_207 ct_172) ct_191
noncomputable def ct_209 : Tr := .node (.cells [] 0) ct_2 ct_25
noncomputable def ct_210 : Tr := .node co_12 ct_2 ct_2
noncomputable def ct_211 : Tr := .node .dead (.node .dead ct_192 (.node .dead (.node .dead ct_3 ct_209) ct_194)) (.node .dead (.node .dead (.node .dead ct_3 ct_210) ct_176) ct_191)
noncomputable def ct_212 : Tr := .node .dead (.node .dead ct_207 ct_200) ct_201
noncomputable def ct_213 : Tr := .node co_6 ct_2 ct_203
noncomputable def ct_214 : Tr := .node .dead ct_205 (.node .dead (.node .dead ct_184 (.node .dead (.node .dead ct_3 ct_213) ct_187)) ct_208)
noncomputable def ct_215 : Tr := .node co_29 .nil .nil
noncomputable def ct_216 : Tr := .node co_15 ct_2 (.node .dead ct_215 .nil)
noncomputable def ct_217 : Tr := .node .dead ct_1 ct_1
noncomputable def ct_218 : Tr := .node .dead ct_217 ct_2
noncomputable def ct_219 : Tr := .node .dead ct_218 ct_181
noncomputable def ct_220 : Tr := .node .dead (.node .dead ct_218 ct_170) ct_219
noncomputable def ct_221 : Tr := .node .dead ct_218 (.node co_18 ct_2 ct_2)
noncomputable def ct_222 : Tr := .node .dead (.node .dead ct_218 ct_204) ct_221
noncomputable def ct_223 : Tr := .node co_5 .nil .nil
noncomputable def ct_224 : Tr := .node .dead ct_223 .nil
noncomputable def ct_225 : Tr := .node .dead ct_179 ct_3
noncomputable def ct_226 : Tr := .node .dead ct_222 (.node .dead (.node .dead ct_218 (.node co_15 ct_2 ct_224)) ct_225)
noncomputable def ct_227 : Tr := .node .dead ct_218 (.node co_19 ct_2 ct_2)
noncomputable def ct_228 : Tr := .node .dead ct_218 ct_206
noncomputable def ct_229 : Tr := .node .dead ct_190 ct_3
noncomputable def ct_230 : Tr := .node .dead (.node .dead ct_218 (.node co_16 ct_2 ct_2)) ct_229
noncomputable def ct_231 : Tr := .node .dead (.node .dead (.node .dead ct_219 ct_227) (.node .dead (.node .dead ct_218 ct_213) (.node .dead ct_186 ct_3))) (.node .dead (.node .dead ct_228 ct_219) ct_230)
noncomputable def ct_232 : Tr := .node .dead ct_218 ct_195
noncomputable def ct_233 : Tr := .node .dead (.node .dead ct_219 ct_232) (.node .dead (.node .dead ct_218 ct_209) (.node .dead ct_193 ct_3))
noncomputable def ct_234 : Tr := .node .dead (.node .dead ct_218 ct_210) ct_221
noncomputable def ct_235 : Tr := .node .dead (.node .dead (.node .dead ct_232 ct_227) (.node .dead (.node .dead ct_218 ct_216) (.node .dead ct_197 ct_3))) (.node .dead (.node .dead ct_228 (.node .dead (.node co_6 ct_217 ct_2) ct_181)) (.node .dead ct_219 (.node .dead ct_170 ct_3)))
noncomputable def ct_236 : Tr := .node .dead ct_220 (.node .dead ct_219 (.node .dead (.node co_4 ct_217 ct_2) ct_195))
noncomputable def ct_237 : Tr := .node .dead ct_6 ct_217
noncomputable def ct_238 : Tr := .node co_9 ct_217 ct_217
noncomputable def ct_239 : Tr := .node (.cells [] 0) ct_217 ct_217
noncomputable def ct_240 : Tr := .node .dead ct_237 ct_239
noncomputable def ct_241 : Tr := .node .dead (.node .dead ct_237 ct_238) ct_240
noncomputable def ct_242 : Tr := .node .dead ct_2 ct_24
noncomputable def ct_243 : Tr := .node co_6 ct_217 ct_217
noncomputable def ct_244 : Tr := .node .dead ct_240 (.node .dead (.node co_4 ct_242 ct_217) ct_243)
noncomputable def ct_245 : Tr := .node .dead ct_202 ct_1
noncomputable def ct_246 : Tr := .node .dead ct_237 (.node co_18 ct_217 ct_217)
noncomputable def ct_247 : Tr := .node .dead (.node .dead ct_237 (.node co_12 ct_217 ct_245)) ct_246
noncomputable def ct_248 : Tr := .node .dead ct_223 ct_1
noncomputable def ct_249 : Tr := .node .dead ct_237 (.node co_15 ct_217 ct_248)
noncomputable def ct_250 : Tr := .node .dead ct_217 ct_217
noncomputable def ct_251 : Tr := .node .dead (.node co_23 ct_217 ct_217) ct_250
noncomputable def ct_252 : Tr := .node .dead ct_247 (.node .dead ct_249 ct_251)
noncomputable def ct_253 : Tr := .node .dead ct_237 (.node co_19 ct_217 ct_217)
noncomputable def ct_254 : Tr := .node .dead ct_237 (.node co_6 ct_217 ct_245)
noncomputable def ct_255 : Tr := .node .dead ct_237 (.node co_13 ct_217 ct_217)
noncomputable def ct_256 : Tr := .node .dead ct_237 (.node co_16 ct_217 ct_217)
noncomputable def ct_257 : Tr := .node .dead (.node co_10 ct_217 ct_217) ct_250
noncomputable def ct_258 : Tr := .node .dead ct_256 ct_257
noncomputable def ct_259 : Tr := .node .dead (.node .dead (.node .dead ct_240 ct_253) (.node .dead ct_254 (.node .dead (.node co_21 ct_217 ct_217) ct_250))) (.node .dead (.node .dead ct_255 ct_240) ct_258)
noncomputable def ct_260 : Tr := .node .dead ct_237 ct_243
noncomputable def ct_261 : Tr := .node .dead ct_24 ct_1
noncomputable def ct_262 : Tr := .node .dead (.node co_31 .nil .nil) .nil
noncomputable def ct_263 : Tr := .node .dead ct_262 ct_1
noncomputable def ct_264 : Tr := .node .dead (.node .dead ct_237 (.node (.cells [] 0) ct_217 ct_261)) (.node .dead (.node co_20 ct_263 ct_217) ct_250)
noncomputable def ct_265 : Tr := .node .dead (.node .dead ct_240 ct_260) ct_264
noncomputable def ct_266 : Tr := .node .dead (.node .dead ct_237 (.node co_12 ct_217 ct_217)) ct_246
noncomputable def ct_267 : Tr := .node .dead ct_237 (.node co_15 ct_217 (.node .dead ct_215 ct_1))
noncomputable def ct_268 : Tr := .node co_6 ct_6 ct_217
noncomputable def ct_269 : Tr := .node .dead ct_268 ct_239
noncomputable def ct_270 : Tr := .node .dead (.node .dead (.node .dead ct_260 ct_253) (.node .dead ct_267 (.node .dead (.node co_22 ct_217 ct_217) ct_250))) (.node .dead (.node .dead ct_255 ct_269) (.node .dead ct_240 (.node .dead ct_238 ct_250)))
noncomputable def ct_271 : Tr := .node .dead ct_240 (.node .dead (.node co_4 ct_6 ct_217) ct_243)
noncomputable def ct_272 : Tr := .node .dead ct_241 ct_271
noncomputable def ct_273 : Tr := .node .dead ct_237 (.node co_16 ct_217 ct_261)
noncomputable def ct_274 : Tr := .node .dead ct_237 (.node co_15 ct_217 ct_261)
noncomputable def ct_275 : Tr := .node .dead ct_237 (.node co_16 ct_217 ct_248)
noncomputable def ct_276 : Tr := .node co_9 ct_6 ct_217
noncomputable def ct_277 : Tr := .node .dead (.node .dead ct_237 ct_276) ct_240
noncomputable def ct_278 : Tr := .node .dead (.node .dead ct_237 (.node co_12 ct_6 ct_245)) ct_246
noncomputable def ct_279 : Tr := .node .dead (.node co_23 ct_6 ct_217) ct_250
noncomputable def ct_280 : Tr := .node .dead ct_278 (.node .dead ct_249 ct_279)
noncomputable def ct_281 : Tr := .node .dead ct_237 (.node (.cells [] 0) ct_6 ct_217)
noncomputable def ct_282 : Tr := .node .dead ct_25 ct_1
noncomputable def ct_283 : Tr := .node .dead (.node co_10 ct_6 ct_217) ct_250
noncomputable def ct_284 : Tr := .node .dead ct_256 ct_283
noncomputable def ct_285 : Tr := .node .dead (.node .dead (.node .dead ct_281 ct_253) (.node .dead ct_254 (.node .dead (.node co_21 ct_6 ct_217) ct_250))) (.node .dead (.node .dead (.node .dead ct_237 (.node co_13 ct_282 ct_217)) ct_240) ct_284)
noncomputable def ct_286 : Tr := .node .dead (.node .dead ct_281 ct_260) ct_264
noncomputable def ct_287 : Tr := .node .dead (.node .dead ct_237 (.node co_12 ct_6 ct_217)) ct_246
noncomputable def ct_288 : Tr := .node .dead (.node (.cells [(.int .i64 6), (.int .i64 0)] 0) .nil .nil) .nil
noncomputable def ct_289 : Tr := .node .dead ct_288 ct_1
noncomputable def ct_290 : Tr := .node .dead (.node .dead (.node .dead (.node .dead ct_237 ct_268) ct_253) (.node .dead ct_267 (.node .dead (.node co_22 ct_6 ct_217) ct_250))) (.node .dead (.node .dead (.node .dead ct_237 (.node co_13 ct_289 ct_217)) ct_269) (.node .dead ct_240 (.node .dead ct_276 ct_250)))
noncomputable def ct_291 : Tr := .node .dead (.node .dead (.node .dead (.node .dead ct_277 ct_244) ct_280) ct_285) (.node co_5 (.node .dead ct_286 (.node .dead ct_287 ct_284)) ct_290)
noncomputable def ct_292 : Tr := .node .dead ct_277 ct_271
noncomputable def ct_293 : Tr := .node .dead (.node .dead (.node .dead ct_292 ct_280) ct_285) (.node co_5 (.node .dead ct_286 (.node .dead ct_287 (.node .dead ct_273 ct_283))) ct_290)
noncomputable def ct_294 : Tr := .node .dead (.node .dead (.node .dead ct_292 (.node .dead ct_278 (.node .dead ct_274 ct_279))) ct_285) (.node co_5 (.node .dead ct_286 (.node .dead ct_287 (.node .dead ct_275 ct_283))) ct_290)
noncomputable def ct_295 : Tr := .node co_9 ct_6 ct_6
noncomputable def ct_296 : Tr := .node .dead ct_6 ct_6
noncomputable def ct_297 : Tr := .node (.cells [] 0) ct_6 ct_6
noncomputable def ct_298 : Tr := .node .dead ct_296 ct_297
noncomputable def ct_299 : Tr := .node .dead (.node .dead ct_7 ct_295) ct_298
noncomputable def ct_300 : Tr := .node .dead ct_7 ct_297
noncomputable def ct_301 : Tr := .node co_6 ct_6 ct_6
noncomputable def ct_302 : Tr := .node co_3 ct_1 .nil
noncomputable def ct_303 : Tr := .node .dead ct_302 ct_1
noncomputable def ct_304 : Tr := .node co_18 ct_6 ct_6
noncomputable def ct_305 : Tr := .node .dead ct_296 ct_304
noncomputable def ct_306 : Tr := .node .dead (.node .dead ct_7 (.node co_12 ct_6 ct_303)) ct_305
noncomputable def ct_307 : Tr := .node co_5 ct_1 .nil
noncomputable def ct_308 : Tr := .node .dead ct_307 ct_1
noncomputable def ct_309 : Tr := .node .dead (.node co_23 ct_6 ct_6) ct_296
noncomputable def ct_310 : Tr := .node .dead ct_306 (.node .dead (.node .dead ct_7 (.node co_15 ct_6 ct_308)) ct_309)
noncomputable def ct_311 : Tr := .node co_19 ct_6 ct_6
noncomputable def ct_312 : Tr := .node .dead ct_296 ct_311
noncomputable def ct_313 : Tr := .node .dead (.node .dead ct_2 ct_25) ct_6
noncomputable def ct_314 : Tr := .node co_16 ct_6 ct_6
noncomputable def ct_315 : Tr := .node .dead (.node co_10 ct_6 ct_6) ct_296
noncomputable def ct_316 : Tr := .node .dead (.node .dead (.node .dead ct_300 ct_312) (.node .dead (.node .dead ct_7 (.node co_6 ct_6 ct_303)) (.node .dead (.node co_21 ct_6 ct_6) ct_296))) (.node .dead (.node .dead (.node .dead ct_7 (.node co_13 ct_282 ct_6)) ct_298) (.node .dead (.node .dead ct_313 ct_314) ct_315))
noncomputable def ct_317 : Tr := .node co_7 ct_1 .nil
noncomputable def ct_318 : Tr := .node .dead ct_317 ct_1
noncomputable def ct_319 : Tr := .node .dead (.node .dead ct_300 (.node .dead ct_296 ct_301)) (.node .dead (.node .dead ct_7 (.node (.cells [] 0) ct_6 ct_318)) (.node .dead (.node co_20 ct_263 ct_6) ct_296))
noncomputable def ct_320 : Tr := .node .dead (.node .dead ct_7 (.node co_12 ct_6 ct_6)) ct_305
noncomputable def ct_321 : Tr := .node .dead ct_7 ct_301
noncomputable def ct_322 : Tr := .node .dead (.node co_29 ct_1 .nil) ct_1
noncomputable def ct_323 : Tr := .node .dead (.node .dead (.node .dead ct_2 (.node .dead (.node (.cells [(.int .i64 6), (.int .i64 174)] 0) .nil .nil) .nil)) ct_6) ct_297
noncomputable def ct_324 : Tr := .node .dead (.node .dead (.node .dead ct_321 ct_312) (.node .dead (.node .dead ct_7 (.node co_15 ct_6 ct_322)) (.node .dead (.node co_22 ct_6 ct_6) ct_296))) (.node .dead (.node .dead (.node .dead ct_7 (.node co_13 ct_289 ct_6)) (.node .dead ct_301 ct_297)) (.node .dead ct_323 (.node .dead ct_295 ct_296)))
noncomputable def ct_325 : Tr := .node .dead ct_299 (.node .dead ct_300 (.node .dead (.node co_4 ct_6 ct_6) ct_301))
noncomputable def ct_326 : Tr := .node co_9 ct_3 ct_6
noncomputable def ct_327 : Tr := .node .dead (.node .dead ct_7 ct_326) (.node .dead (.node .dead (.node .dead ct_2 ct_224) ct_6) ct_297)
noncomputable def ct_328 : Tr := .node .dead ct_7 (.node (.cells [] 0) ct_3 ct_6)
noncomputable def ct_329 : Tr := .node .dead ct_7 ct_304
noncomputable def ct_330 : Tr := .node .dead (.node .dead ct_7 (.node co_12 ct_3 ct_303)) ct_329
noncomputable def ct_331 : Tr := .node .dead (.node co_23 ct_3 ct_6) ct_296
noncomputable def ct_332 : Tr := .node .dead ct_330 (.node .dead (.node .dead ct_7 (.node co_15 ct_3 ct_308)) ct_331)
noncomputable def ct_333 : Tr := .node .dead ct_7 ct_311
noncomputable def ct_334 : Tr := .node .dead (.node co_10 ct_3 ct_6) ct_296
noncomputable def ct_335 : Tr := .node .dead (.node .dead (.node .dead ct_328 ct_333) (.node .dead (.node .dead ct_7 (.node co_6 ct_3 ct_303)) (.node .dead (.node co_21 ct_3 ct_6) ct_296))) (.node .dead (.node .dead (.node .dead ct_7 (.node co_13 (.node .dead ct_25 ct_2) ct_6)) ct_300) (.node .dead (.node .dead ct_313 (.node co_16 (.node .dead ct_2 (.node .dead (.node co_32 .nil .nil) .nil)) ct_6)) ct_334))
noncomputable def ct_336 : Tr := .node .dead (.node .dead ct_328 ct_321) (.node .dead (.node .dead ct_7 (.node (.cells [] 0) ct_3 ct_318)) (.node .dead (.node co_20 (.node .dead ct_262 ct_2) ct_6) ct_296))
noncomputable def ct_337 : Tr := .node .dead (.node .dead ct_7 (.node co_12 ct_3 ct_6)) ct_329
noncomputable def ct_338 : Tr := .node co_6 ct_3 ct_6
noncomputable def ct_339 : Tr := .node .dead (.node .dead (.node .dead (.node .dead ct_7 ct_338) ct_333) (.node .dead (.node .dead ct_7 (.node co_15 ct_3 ct_322)) (.node .dead (.node co_22 ct_3 ct_6) ct_296))) (.node .dead (.node .dead (.node .dead ct_7 (.node co_13 (.node .dead ct_288 ct_2) ct_6)) (.node .dead ct_338 ct_297)) (.node .dead ct_323 (.node .dead ct_326 ct_296)))
noncomputable def ct_340 : Tr := .node .dead ct_327 (.node .dead ct_328 (.node .dead (.node co_4 ct_3 ct_6) ct_301))
noncomputable def ct_341 : Tr := .node .dead ct_3 ct_3
noncomputable def ct_342 : Tr := .node co_9 ct_341 ct_341
noncomputable def ct_343 : Tr := .node .dead ct_2 (.node .dead (.node co_34 .nil .nil) .nil)
noncomputable def ct_344 : Tr := .node co_35 .nil .nil
noncomputable def ct_345 : Tr := .node .dead (.node .dead (.node .dead (.node .dead ct_218 ct_3) ct_341) ct_342) (.node .dead (.node .dead (.node .dead ct_343 (.node .dead (.node co_5 ct_344 .nil) ct_2)) ct_341) (.node (.cells [] 0) (.node .dead ct_3 (.node .dead ct_307 ct_2)) ct_341))
noncomputable def ct_346 : Tr := .node .dead ct_10 ct_2
noncomputable def ct_347 : Tr := .node (.cells [] 0) ct_341 ct_341
noncomputable def ct_348 : Tr := .node .dead (.node .dead (.node .dead ct_346 ct_3) ct_341) ct_347
noncomputable def ct_349 : Tr := .node .dead ct_40 .nil
noncomputable def ct_350 : Tr := .node .dead ct_349 ct_2
noncomputable def ct_351 : Tr := .node co_7 ct_2 ct_2
noncomputable def ct_352 : Tr := .node .dead ct_3 (.node .dead ct_2 (.node .dead (.node co_36 .nil .nil) .nil))
noncomputable def ct_353 : Tr := .node co_6 ct_341 ct_352
noncomputable def ct_354 : Tr := .node .dead (.node co_3 ct_2 ct_2) ct_3
noncomputable def ct_355 : Tr := .node .dead (.node co_37 .nil .nil) .nil
noncomputable def ct_356 : Tr := .node co_18 ct_341 (.node .dead ct_3 (.node .dead ct_2 (.node .dead (.node co_38 .nil .nil) .nil)))
noncomputable def ct_357 : Tr := .node .dead (.node .dead (.node .dead (.node .dead (.node .dead ct_2 (.node co_6 ct_1 .nil)) ct_3) ct_341) (.node co_12 ct_341 ct_354)) (.node .dead (.node .dead (.node .dead (.node .dead ct_355 (.node .dead (.node (.cells [(.int .i64 2), (.int .u64 9)] 0) .nil .nil) .nil)) ct_346) ct_341) ct_356)
noncomputable def ct_358 : Tr := .node .dead ct_2 (.node .dead (.node co_39 .nil .nil) .nil)
noncomputable def ct_359 : Tr := .node .dead (.node .dead (.node co_40 .nil .nil) .nil) ct_2
noncomputable def ct_360 : Tr := .node .dead (.node .dead ct_358 ct_359) ct_341
noncomputable def ct_361 : Tr := .node .dead (.node co_5 ct_2 ct_2) ct_3
noncomputable def ct_362 : Tr := .node .dead (.node co_23 (.node .dead (.node .dead (.node .dead (.node co_41 .nil .nil) .nil) ct_2) ct_3) ct_341) (.node .dead ct_341 (.node .dead ct_3 ct_11))
noncomputable def ct_363 : Tr := .node .dead ct_357 (.node .dead (.node .dead ct_360 (.node co_15 ct_341 ct_361)) ct_362)
noncomputable def ct_364 : Tr := .node .dead ct_341 ct_341
noncomputable def ct_365 : Tr := .node .dead ct_364 ct_347
noncomputable def ct_366 : Tr := .node co_19 ct_341 ct_341
noncomputable def ct_367 : Tr := .node .dead ct_341 (.node .dead ct_3 (.node .dead ct_2 ct_349))
noncomputable def ct_368 : Tr := .node .dead (.node co_43 .nil .nil) .nil
noncomputable def ct_369 : Tr := .node .dead (.node (.cells [(.int .i64 1), (.int .u64 9)] 2) .nil .nil) .nil
noncomputable def ct_370 : Tr := .node (.cells [] 0) ct_341 (.node .dead ct_3 (.node .dead ct_2 (.node .dead (.node co_44 .nil .nil) .nil)))
noncomputable def ct_371 : Tr := .node .dead ct_2 (.node .dead (.node co_45 .nil .nil) .nil)
noncomputable def ct_372 : Tr := .node co_46 .nil .nil
noncomputable def ct_373 : Tr := .node co_10 (.node .dead (.node .dead (.node .dead (.node co_47 .nil .nil) .nil) ct_2) ct_3) ct_341
noncomputable def ct_374 : Tr := .node .dead (.node .dead (.node .dead ct_365 (.node .dead (.node .dead (.node .dead (.node .dead (.node .dead (.node (.cells [(.int .i64 0), (.int .i64 0)] 0) .nil .nil) .nil) ct_349) ct_350) ct_341) ct_366)) (.node .dead (.node .dead ct_364 (.node co_6 ct_341 ct_354)) (.node .dead (.node co_21 (.node .dead (.node .dead (.node .dead (.node co_42 .nil .nil) .nil) ct_2) ct_3) ct_341) ct_367))) (.node .dead (.node .dead (.node .dead (.node .dead (.node .dead ct_3 (.node .dead ct_2 (.node co_31 ct_1 .nil))) ct_341) (.node co_13 (.node .dead (.node .dead ct_317 ct_2) ct_3) ct_341)) (.node .dead (.node .dead (.node .dead (.node .dead ct_368 ct_2) (.node .dead ct_369 ct_2)) ct_341) ct_370)) (.node .dead (.node .dead (.node .dead (.node .dead ct_371 (.node .dead (.node co_7 ct_372 .nil) ct_2)) ct_341) (.node co_16 (.node .dead ct_3 (.node .dead (.node co_32 ct_1 .nil) ct_2)) ct_341)) (.node .dead ct_373 (.node .dead ct_341 (.node .dead ct_3 (.node .dead ct_2 ct_369))))))
noncomputable def ct_375 : Tr := .node .dead (.node co_48 .nil .nil) .nil
noncomputable def ct_376 : Tr := .node co_6 ct_341 ct_341
noncomputable def ct_377 : Tr := .node .dead ct_351 ct_3
noncomputable def ct_378 : Tr := .node .dead (.node .dead ct_365 (.node .dead (.node .dead (.node .dead (.node .dead ct_375 ct_349) (.node .dead (.node .dead ct_344 .nil) ct_2)) ct_341) ct_376)) (.node .dead (.node .dead ct_364 (.node (.cells [] 0) ct_341 ct_377)) (.node .dead (.node co_20 (.node .dead (.node .dead (.node co_31 ct_9 .nil) ct_2) ct_3) ct_341) (.node .dead ct_341 ct_352)))
noncomputable def ct_379 : Tr := .node .dead (.node (.cells [(.int .i64 1), (.int .u64 9)] 0) .nil .nil) .nil
noncomputable def ct_380 : Tr := .node .dead (.node .dead (.node .dead (.node .dead (.node .dead ct_2 (.node co_41 ct_1 .nil)) ct_3) ct_341) (.node co_12 ct_341 ct_341)) (.node .dead (.node .dead (.node .dead (.node .dead ct_368 (.node .dead (.node (.cells [(.int .i64 2), (.int .u64 9)] 2) .nil .nil) .nil)) (.node .dead ct_379 ct_2)) ct_341) ct_356)
noncomputable def ct_381 : Tr := .node .dead (.node .dead ct_371 ct_359) ct_341
noncomputable def ct_382 : Tr := .node .dead ct_373 (.node .dead ct_341 (.node .dead ct_3 (.node .dead ct_2 ct_379)))
noncomputable def ct_383 : Tr := .node .dead ct_350 ct_3
noncomputable def ct_384 : Tr := .node .dead (.node .dead (.node .dead (.node .dead ct_364 ct_376) (.node .dead (.node .dead (.node .dead (.node .dead ct_355 ct_10) ct_350) ct_341) ct_366)) (.node .dead (.node .dead (.node .dead (.node .dead ct_358 ct_3) ct_341) (.node co_15 ct_341 (.node .dead (.node co_29 ct_2 ct_2) ct_3))) (.node .dead (.node co_22 (.node .dead (.node .dead ct_375 ct_2) ct_3) ct_341) ct_367))) (.node .dead (.node .dead (.node .dead ct_364 (.node co_13 (.node .dead (.node .dead (.node (.cells [(.int .i64 6), (.int .i64 0)] 0) ct_1 .nil) ct_2) ct_3) ct_341)) (.node .dead (.node co_6 ct_383 ct_341) ct_370)) (.node .dead (.node .dead (.node .dead (.node .dead ct_343 (.node .dead (.node (.cells [(.int .i64 6), (.int .i64 174)] 0) ct_372 .nil) ct_2)) ct_341) (.node (.cells [] 0) (.node .dead ct_3 (.node .dead ct_302 ct_2)) ct_341)) (.node .dead ct_342 ct_364)))
noncomputable def ct_385 : Tr := .node .dead (.node .dead (.node .dead (.node .dead ct_345 (.node .dead ct_348 (.node .dead (.node co_4 (.node .dead ct_350 ct_351) ct_341) ct_353))) ct_363) ct_374) (.node co_5 (.node .dead ct_378 (.node .dead ct_380 (.node .dead (.node .dead ct_381 (.node co_16 ct_341 ct_341)) ct_382))) ct_384)
noncomputable def ct_386 : Tr := .node .dead ct_345 (.node .dead ct_348 (.node .dead (.node co_4 ct_383 ct_341) ct_353))
noncomputable def ct_387 : Tr := .node .dead (.node .dead (.node .dead ct_386 ct_363) ct_374) (.node co_5 (.node .dead ct_378 (.node .dead ct_380 (.node .dead (.node .dead ct_381 (.node co_16 ct_341 ct_377)) ct_382))) ct_384)
noncomputable def ct_388 : Tr := .node .dead (.node .dead (.node .dead ct_386 (.node .dead ct_357 (.node .dead (.node .dead ct_360 (.node co_15 ct_341 ct_377)) ct_362))) ct_374) (.node co_5 (.node .dead ct_378 (.node .dead ct_380 (.node .dead (.node .dead ct_381 (.node co_16 ct_341 ct_361)) ct_382))) ct_384)
noncomputable def cl_1 : List Value := rep 157 (.tuple ⟨[]⟩) ([])
noncomputable def cl_2 : List Value := (.bool false) :: rep 156 (.tuple ⟨[]⟩) ([])
noncomputable def cl_3 : List Value := (.bool false) :: (.pointer (some ⟨87, 0, none⟩)) :: (.int .i64 0) :: rep 18 (.tuple ⟨[]⟩) ((.tuple ⟨[cv_1, (.int .i64 0)]⟩) :: cv_2 :: (.slice (some ⟨2, 0, none⟩) 2 2) :: (.tuple ⟨[cv_1, (.int .i64 0)]⟩) :: cv_1 :: (.int .i64 0) :: rep 130 (.tuple ⟨[]⟩) ([]))
noncomputable def cl_4 : List Value := (.bool false) :: (.pointer (some ⟨87, 0, none⟩)) :: (.int .i64 0) :: rep 18 (.tuple ⟨[]⟩) ((.tuple ⟨[cv_1, (.int .i64 0)]⟩) :: cv_2 :: (.slice (some ⟨2, 0, none⟩) 2 2) :: (.tuple ⟨[cv_1, (.int .i64 0)]⟩) :: cv_1 :: (.int .i64 0) :: (.int .i64 0) :: (.bool false) :: (.bool false) :: (.pointer (some ⟨87, 165, none⟩)) :: (.slice (some ⟨86, 0, (some 0)⟩) 2 2) :: (.int .i64 2) :: (.bool false) :: (.bool false) :: rep 122 (.tuple ⟨[]⟩) ([]))
noncomputable def cl_5 : List Value := cv_1 :: rep 115 (.tuple ⟨[]⟩) ([])
noncomputable def cl_6 : List Value := cv_1 :: (.tuple ⟨[]⟩) :: cl_5
noncomputable def cl_7 : List Value := cv_1 :: (.tuple ⟨[]⟩) :: cl_6
noncomputable def cl_8 : List Value := (.tuple ⟨[cv_1, (.int .i64 0)]⟩) :: cv_2 :: (.slice (some ⟨2, 0, none⟩) 2 2) :: (.tuple ⟨[cv_1, (.int .i64 0)]⟩) :: cv_1 :: (.int .i64 0) :: (.int .i64 0) :: (.bool false) :: (.bool false) :: (.pointer (some ⟨87, 165, none⟩)) :: (.slice (some ⟨86, 0, (some 0)⟩) 2 2) :: (.int .i64 2) :: (.bool false) :: (.bool false) :: cv_1 :: (.tuple ⟨[]⟩) :: cl_7
noncomputable def cl_9 : List Value := (.bool false) :: (.pointer (some ⟨87, 0, none⟩)) :: (.int .i64 0) :: rep 18 (.tuple ⟨[]⟩) (cl_8)
noncomputable def cl_10 : List Value := (.pointer (some ⟨91, 0, none⟩)) :: rep 14 (.tuple ⟨[]⟩) (cl_8)
noncomputable def cl_11 : List Value := (.tuple ⟨[]⟩) :: cl_10
noncomputable def cl_12 : List Value := (.tuple ⟨[]⟩) :: cl_11
noncomputable def cl_13 : List Value := (.bool false) :: (.pointer (some ⟨87, 0, none⟩)) :: (.int .i64 0) :: (.tuple ⟨[]⟩) :: cl_12
noncomputable def cl_14 : List Value := (.pointer (some ⟨90, 0, none⟩)) :: rep 15 (.tuple ⟨[]⟩) (cl_8)
noncomputable def cl_15 : List Value := (.tuple ⟨[]⟩) :: cl_14
noncomputable def cl_16 : List Value := (.bool false) :: (.pointer (some ⟨87, 0, none⟩)) :: (.int .i64 0) :: (.tuple ⟨[]⟩) :: cl_15
noncomputable def cl_17 : List Value := (.pointer (some ⟨89, 0, none⟩)) :: rep 16 (.tuple ⟨[]⟩) (cl_8)
noncomputable def cl_18 : List Value := (.bool false) :: (.pointer (some ⟨87, 0, none⟩)) :: (.int .i64 0) :: (.tuple ⟨[]⟩) :: cl_17
noncomputable def cl_19 : List Value := (.bool false) :: (.pointer (some ⟨87, 0, none⟩)) :: (.int .i64 0) :: (.pointer (some ⟨88, 0, none⟩)) :: rep 17 (.tuple ⟨[]⟩) (cl_8)
noncomputable def cl_20 : List Value := (.tuple ⟨[cv_1, (.int .i64 0)]⟩) :: cv_2 :: (.slice (some ⟨2, 0, none⟩) 2 2) :: (.tuple ⟨[cv_1, (.int .i64 0)]⟩) :: cv_1 :: (.int .i64 0) :: (.int .i64 0) :: (.bool false) :: (.bool false) :: (.pointer (some ⟨87, 165, none⟩)) :: (.slice (some ⟨86, 0, (some 0)⟩) 2 2) :: (.int .i64 2) :: (.bool false) :: (.bool false) :: cv_1 :: cv_8 :: cl_7
noncomputable def cl_21 : List Value := (.bool false) :: (.pointer (some ⟨87, 0, none⟩)) :: (.int .i64 0) :: rep 18 (.tuple ⟨[]⟩) (cl_20)
noncomputable def cl_22 : List Value := (.tuple ⟨[cv_1, (.int .i64 0)]⟩) :: cv_2 :: (.slice (some ⟨2, 0, none⟩) 2 2) :: (.tuple ⟨[cv_1, (.int .i64 0)]⟩) :: cv_1 :: (.int .i64 0) :: (.int .i64 0) :: (.bool false) :: (.bool false) :: (.pointer (some ⟨87, 165, none⟩)) :: (.slice (some ⟨86, 0, (some 0)⟩) 2 2) :: (.int .i64 2) :: (.bool false) :: (.bool false) :: cv_1 :: cv_8 :: cv_1 :: cv_11 :: cl_6
noncomputable def cl_23 : List Value := (.bool false) :: (.pointer (some ⟨87, 0, none⟩)) :: (.int .i64 0) :: rep 18 (.tuple ⟨[]⟩) (cl_22)
noncomputable def cl_24 : List Value := (.bool false) :: (.pointer (some ⟨87, 0, none⟩)) :: (.int .i64 0) :: (.pointer (some ⟨88, 0, none⟩)) :: rep 17 (.tuple ⟨[]⟩) (cl_20)
noncomputable def cl_25 : List Value := (.bool false) :: (.pointer (some ⟨87, 0, none⟩)) :: (.int .i64 0) :: (.pointer (some ⟨88, 0, none⟩)) :: cl_17
noncomputable def cl_26 : List Value := (.pointer (some ⟨89, 0, none⟩)) :: rep 16 (.tuple ⟨[]⟩) (cl_20)
noncomputable def cl_27 : List Value := (.bool false) :: (.pointer (some ⟨87, 0, none⟩)) :: (.int .i64 0) :: (.tuple ⟨[]⟩) :: cl_26
noncomputable def cl_28 : List Value := (.pointer (some ⟨89, 0, none⟩)) :: cl_14
noncomputable def cl_29 : List Value := (.bool false) :: (.pointer (some ⟨87, 0, none⟩)) :: (.int .i64 0) :: (.tuple ⟨[]⟩) :: cl_28
noncomputable def cl_30 : List Value := (.bool false) :: (.pointer (some ⟨87, 0, none⟩)) :: (.int .i64 0) :: (.pointer (some ⟨88, 0, none⟩)) :: cl_15
noncomputable def cl_31 : List Value := (.pointer (some ⟨90, 0, none⟩)) :: rep 15 (.tuple ⟨[]⟩) (cl_20)
noncomputable def cl_32 : List Value := (.tuple ⟨[]⟩) :: cl_31
noncomputable def cl_33 : List Value := (.bool false) :: (.pointer (some ⟨87, 0, none⟩)) :: (.int .i64 0) :: (.tuple ⟨[]⟩) :: cl_32
noncomputable def cl_34 : List Value := (.pointer (some ⟨90, 0, none⟩)) :: cl_10
noncomputable def cl_35 : List Value := (.tuple ⟨[]⟩) :: cl_34
noncomputable def cl_36 : List Value := (.bool false) :: (.pointer (some ⟨87, 0, none⟩)) :: (.int .i64 0) :: (.tuple ⟨[]⟩) :: cl_35
noncomputable def cl_37 : List Value := (.pointer (some ⟨89, 0, none⟩)) :: cl_11
noncomputable def cl_38 : List Value := (.bool false) :: (.pointer (some ⟨87, 0, none⟩)) :: (.int .i64 0) :: (.tuple ⟨[]⟩) :: cl_37
noncomputable def cl_39 : List Value := (.bool false) :: (.pointer (some ⟨87, 0, none⟩)) :: (.int .i64 0) :: (.pointer (some ⟨88, 0, none⟩)) :: cl_12
noncomputable def cl_40 : List Value := (.pointer (some ⟨91, 0, none⟩)) :: rep 14 (.tuple ⟨[]⟩) (cl_20)
noncomputable def cl_41 : List Value := (.tuple ⟨[]⟩) :: cl_40
noncomputable def cl_42 : List Value := (.tuple ⟨[]⟩) :: cl_41
noncomputable def cl_43 : List Value := (.bool false) :: (.pointer (some ⟨87, 0, none⟩)) :: (.int .i64 0) :: (.tuple ⟨[]⟩) :: cl_42
noncomputable def cl_44 : List Value := (.pointer (some ⟨90, 0, none⟩)) :: cl_40
noncomputable def cl_45 : List Value := (.tuple ⟨[]⟩) :: cl_44
noncomputable def cl_46 : List Value := (.bool false) :: (.pointer (some ⟨87, 0, none⟩)) :: (.int .i64 0) :: (.tuple ⟨[]⟩) :: cl_45
noncomputable def cl_47 : List Value := (.bool false) :: (.pointer (some ⟨87, 0, none⟩)) :: (.int .i64 0) :: (.pointer (some ⟨88, 0, none⟩)) :: cl_35
noncomputable def cl_48 : List Value := (.pointer (some ⟨89, 0, none⟩)) :: cl_34
noncomputable def cl_49 : List Value := (.bool false) :: (.pointer (some ⟨87, 0, none⟩)) :: (.int .i64 0) :: (.tuple ⟨[]⟩) :: cl_48
noncomputable def cl_50 : List Value := (.pointer (some ⟨89, 0, none⟩)) :: cl_41
noncomputable def cl_51 : List Value := (.bool false) :: (.pointer (some ⟨87, 0, none⟩)) :: (.int .i64 0) :: (.tuple ⟨[]⟩) :: cl_50
noncomputable def cl_52 : List Value := (.pointer (some ⟨89, 0, none⟩)) :: cl_31
noncomputable def cl_53 : List Value := (.bool false) :: (.pointer (some ⟨87, 0, none⟩)) :: (.int .i64 0) :: (.tuple ⟨[]⟩) :: cl_52
noncomputable def cl_54 : List Value := (.bool false) :: (.pointer (some ⟨87, 0, none⟩)) :: (.int .i64 0) :: (.pointer (some ⟨88, 0, none⟩)) :: cl_37
noncomputable def cl_55 : List Value := (.bool false) :: (.pointer (some ⟨87, 0, none⟩)) :: (.int .i64 0) :: (.pointer (some ⟨88, 0, none⟩)) :: cl_28
noncomputable def cl_56 : List Value := (.bool false) :: (.pointer (some ⟨87, 0, none⟩)) :: (.int .i64 0) :: (.pointer (some ⟨88, 0, none⟩)) :: cl_42
noncomputable def cl_57 : List Value := (.bool false) :: (.pointer (some ⟨87, 0, none⟩)) :: (.int .i64 0) :: (.pointer (some ⟨88, 0, none⟩)) :: cl_32
noncomputable def cl_58 : List Value := (.bool false) :: (.pointer (some ⟨87, 0, none⟩)) :: (.int .i64 0) :: (.pointer (some ⟨88, 0, none⟩)) :: cl_26
noncomputable def cl_59 : List Value := (.pointer (some ⟨91, 0, none⟩)) :: rep 14 (.tuple ⟨[]⟩) (cl_22)
noncomputable def cl_60 : List Value := (.tuple ⟨[]⟩) :: cl_59
noncomputable def cl_61 : List Value := (.tuple ⟨[]⟩) :: cl_60
noncomputable def cl_62 : List Value := (.bool false) :: (.pointer (some ⟨87, 0, none⟩)) :: (.int .i64 0) :: (.tuple ⟨[]⟩) :: cl_61
noncomputable def cl_63 : List Value := (.pointer (some ⟨90, 0, none⟩)) :: rep 15 (.tuple ⟨[]⟩) (cl_22)
noncomputable def cl_64 : List Value := (.tuple ⟨[]⟩) :: cl_63
noncomputable def cl_65 : List Value := (.bool false) :: (.pointer (some ⟨87, 0, none⟩)) :: (.int .i64 0) :: (.tuple ⟨[]⟩) :: cl_64
noncomputable def cl_66 : List Value := (.pointer (some ⟨89, 0, none⟩)) :: rep 16 (.tuple ⟨[]⟩) (cl_22)
noncomputable def cl_67 : List Value := (.bool false) :: (.pointer (some ⟨87, 0, none⟩)) :: (.int .i64 0) :: (.tuple ⟨[]⟩) :: cl_66
noncomputable def cl_68 : List Value := (.bool false) :: (.pointer (some ⟨87, 0, none⟩)) :: (.int .i64 0) :: (.pointer (some ⟨88, 0, none⟩)) :: rep 17 (.tuple ⟨[]⟩) (cl_22)
noncomputable def cl_69 : List Value := (.tuple ⟨[cv_1, (.int .i64 0)]⟩) :: cv_2 :: (.slice (some ⟨2, 0, none⟩) 2 2) :: (.tuple ⟨[cv_1, (.int .i64 0)]⟩) :: cv_1 :: (.int .i64 0) :: (.int .i64 0) :: (.bool false) :: (.bool false) :: (.pointer (some ⟨87, 165, none⟩)) :: (.slice (some ⟨86, 0, (some 0)⟩) 2 2) :: (.int .i64 2) :: (.bool false) :: (.bool false) :: cv_1 :: cv_8 :: cv_1 :: cv_11 :: cv_1 :: cv_14 :: cl_5
noncomputable def cl_70 : List Value := (.bool false) :: (.pointer (some ⟨87, 0, none⟩)) :: (.int .i64 0) :: rep 18 (.tuple ⟨[]⟩) (cl_69)
noncomputable def cl_71 : List Value := (.tuple ⟨[cv_1, (.int .i64 0)]⟩) :: cv_2 :: (.slice (some ⟨2, 0, none⟩) 2 2) :: (.tuple ⟨[cv_1, (.int .i64 0)]⟩) :: cv_1 :: (.int .i64 0) :: (.int .i64 0) :: (.bool false) :: (.bool false) :: (.pointer (some ⟨87, 165, none⟩)) :: (.slice (some ⟨86, 0, (some 0)⟩) 2 2) :: (.int .i64 2) :: (.bool false) :: (.bool false) :: cv_1 :: cv_8 :: cv_1 :: cv_11 :: cv_1 :: cv_14 :: cv_1 :: cv_17 :: rep 114 (.tuple ⟨[]⟩) ([])
noncomputable def cl_72 : List Value := (.bool false) :: (.pointer (some ⟨87, 0, none⟩)) :: (.int .i64 0) :: rep 18 (.tuple ⟨[]⟩) (cl_71)
noncomputable def cl_73 : List Value := (.bool false) :: (.pointer (some ⟨87, 0, none⟩)) :: (.int .i64 0) :: (.pointer (some ⟨88, 0, none⟩)) :: rep 17 (.tuple ⟨[]⟩) (cl_69)
noncomputable def cl_74 : List Value := (.pointer (some ⟨89, 0, none⟩)) :: rep 16 (.tuple ⟨[]⟩) (cl_69)
noncomputable def cl_75 : List Value := (.bool false) :: (.pointer (some ⟨87, 0, none⟩)) :: (.int .i64 0) :: (.tuple ⟨[]⟩) :: cl_74
noncomputable def cl_76 : List Value := (.pointer (some ⟨90, 0, none⟩)) :: rep 15 (.tuple ⟨[]⟩) (cl_69)
noncomputable def cl_77 : List Value := (.tuple ⟨[]⟩) :: cl_76
noncomputable def cl_78 : List Value := (.bool false) :: (.pointer (some ⟨87, 0, none⟩)) :: (.int .i64 0) :: (.tuple ⟨[]⟩) :: cl_77
noncomputable def cl_79 : List Value := (.pointer (some ⟨91, 0, none⟩)) :: rep 14 (.tuple ⟨[]⟩) (cl_69)
noncomputable def cl_80 : List Value := (.tuple ⟨[]⟩) :: cl_79
noncomputable def cl_81 : List Value := (.tuple ⟨[]⟩) :: cl_80
noncomputable def cl_82 : List Value := (.bool false) :: (.pointer (some ⟨87, 0, none⟩)) :: (.int .i64 0) :: (.tuple ⟨[]⟩) :: cl_81
noncomputable def cl_83 : List Value := (.bool false) :: (.pointer (some ⟨87, 0, none⟩)) :: (.int .i64 0) :: (.pointer (some ⟨88, 0, none⟩)) :: cl_66
noncomputable def cl_84 : List Value := (.bool false) :: (.pointer (some ⟨87, 0, none⟩)) :: (.int .i64 0) :: (.pointer (some ⟨88, 0, none⟩)) :: cl_64
noncomputable def cl_85 : List Value := (.bool false) :: (.pointer (some ⟨87, 0, none⟩)) :: (.int .i64 0) :: (.pointer (some ⟨88, 0, none⟩)) :: cl_61
noncomputable def cl_86 : List Value := (.bool false) :: (.pointer (some ⟨87, 0, none⟩)) :: (.int .i64 0) :: (.pointer (some ⟨88, 0, none⟩)) :: cl_52
noncomputable def cl_87 : List Value := (.pointer (some ⟨89, 0, none⟩)) :: cl_63
noncomputable def cl_88 : List Value := (.bool false) :: (.pointer (some ⟨87, 0, none⟩)) :: (.int .i64 0) :: (.tuple ⟨[]⟩) :: cl_87
noncomputable def cl_89 : List Value := (.bool false) :: (.pointer (some ⟨87, 0, none⟩)) :: (.int .i64 0) :: (.pointer (some ⟨88, 0, none⟩)) :: cl_50
noncomputable def cl_90 : List Value := (.pointer (some ⟨89, 0, none⟩)) :: cl_60
noncomputable def cl_91 : List Value := (.bool false) :: (.pointer (some ⟨87, 0, none⟩)) :: (.int .i64 0) :: (.tuple ⟨[]⟩) :: cl_90
noncomputable def cl_92 : List Value := (.bool false) :: (.pointer (some ⟨87, 0, none⟩)) :: (.int .i64 0) :: (.pointer (some ⟨88, 0, none⟩)) :: cl_48
noncomputable def cl_93 : List Value := (.pointer (some ⟨89, 0, none⟩)) :: cl_44
noncomputable def cl_94 : List Value := (.bool false) :: (.pointer (some ⟨87, 0, none⟩)) :: (.int .i64 0) :: (.tuple ⟨[]⟩) :: cl_93
noncomputable def cl_95 : List Value := (.bool false) :: (.pointer (some ⟨87, 0, none⟩)) :: (.int .i64 0) :: (.pointer (some ⟨88, 0, none⟩)) :: cl_45
noncomputable def cl_96 : List Value := (.pointer (some ⟨90, 0, none⟩)) :: cl_59
noncomputable def cl_97 : List Value := (.tuple ⟨[]⟩) :: cl_96
noncomputable def cl_98 : List Value := (.bool false) :: (.pointer (some ⟨87, 0, none⟩)) :: (.int .i64 0) :: (.tuple ⟨[]⟩) :: cl_97
noncomputable def cl_99 : List Value := (.pointer (some ⟨89, 0, none⟩)) :: cl_96
noncomputable def cl_100 : List Value := (.bool false) :: (.pointer (some ⟨87, 0, none⟩)) :: (.int .i64 0) :: (.tuple ⟨[]⟩) :: cl_99
noncomputable def cl_101 : List Value := (.bool false) :: (.pointer (some ⟨87, 0, none⟩)) :: (.int .i64 0) :: (.pointer (some ⟨88, 0, none⟩)) :: cl_93
noncomputable def cl_102 : List Value := (.bool false) :: (.pointer (some ⟨87, 0, none⟩)) :: (.int .i64 0) :: (.pointer (some ⟨88, 0, none⟩)) :: cl_97
noncomputable def cl_103 : List Value := (.bool false) :: (.pointer (some ⟨87, 0, none⟩)) :: (.int .i64 0) :: (.pointer (some ⟨88, 0, none⟩)) :: cl_90
noncomputable def cl_104 : List Value := (.bool false) :: (.pointer (some ⟨87, 0, none⟩)) :: (.int .i64 0) :: (.pointer (some ⟨88, 0, none⟩)) :: cl_87
noncomputable def cl_105 : List Value := (.pointer (some ⟨90, 0, none⟩)) :: cl_79
noncomputable def cl_106 : List Value := (.tuple ⟨[]⟩) :: cl_105
noncomputable def cl_107 : List Value := (.bool false) :: (.pointer (some ⟨87, 0, none⟩)) :: (.int .i64 0) :: (.tuple ⟨[]⟩) :: cl_106
noncomputable def cl_108 : List Value := (.pointer (some ⟨89, 0, none⟩)) :: cl_80
noncomputable def cl_109 : List Value := (.bool false) :: (.pointer (some ⟨87, 0, none⟩)) :: (.int .i64 0) :: (.tuple ⟨[]⟩) :: cl_108
noncomputable def cl_110 : List Value := (.pointer (some ⟨89, 0, none⟩)) :: cl_76
noncomputable def cl_111 : List Value := (.bool false) :: (.pointer (some ⟨87, 0, none⟩)) :: (.int .i64 0) :: (.tuple ⟨[]⟩) :: cl_110
noncomputable def cl_112 : List Value := (.bool false) :: (.pointer (some ⟨87, 0, none⟩)) :: (.int .i64 0) :: (.pointer (some ⟨88, 0, none⟩)) :: cl_81
noncomputable def cl_113 : List Value := (.bool false) :: (.pointer (some ⟨87, 0, none⟩)) :: (.int .i64 0) :: (.pointer (some ⟨88, 0, none⟩)) :: cl_77
noncomputable def cl_114 : List Value := (.bool false) :: (.pointer (some ⟨87, 0, none⟩)) :: (.int .i64 0) :: (.pointer (some ⟨88, 0, none⟩)) :: cl_74
noncomputable def cl_115 : List Value := (.pointer (some ⟨91, 0, none⟩)) :: rep 14 (.tuple ⟨[]⟩) (cl_71)
noncomputable def cl_116 : List Value := (.tuple ⟨[]⟩) :: cl_115
noncomputable def cl_117 : List Value := (.tuple ⟨[]⟩) :: cl_116
noncomputable def cl_118 : List Value := (.bool false) :: (.pointer (some ⟨87, 0, none⟩)) :: (.int .i64 0) :: (.tuple ⟨[]⟩) :: cl_117
noncomputable def cl_119 : List Value := (.pointer (some ⟨90, 0, none⟩)) :: rep 15 (.tuple ⟨[]⟩) (cl_71)
noncomputable def cl_120 : List Value := (.tuple ⟨[]⟩) :: cl_119
noncomputable def cl_121 : List Value := (.bool false) :: (.pointer (some ⟨87, 0, none⟩)) :: (.int .i64 0) :: (.tuple ⟨[]⟩) :: cl_120
noncomputable def cl_122 : List Value := (.pointer (some ⟨89, 0, none⟩)) :: rep 16 (.tuple ⟨[]⟩) (cl_71)
noncomputable def cl_123 : List Value := (.bool false) :: (.pointer (some ⟨87, 0, none⟩)) :: (.int .i64 0) :: (.tuple ⟨[]⟩) :: cl_122
noncomputable def cl_124 : List Value := (.bool false) :: (.pointer (some ⟨87, 0, none⟩)) :: (.int .i64 0) :: (.pointer (some ⟨88, 0, none⟩)) :: rep 17 (.tuple ⟨[]⟩) (cl_71)
noncomputable def cl_125 : List Value := (.bool false) :: (.pointer (some ⟨87, 0, none⟩)) :: (.int .i64 0) :: (.pointer (some ⟨88, 0, none⟩)) :: cl_122
noncomputable def cl_126 : List Value := (.bool false) :: (.pointer (some ⟨87, 0, none⟩)) :: (.int .i64 0) :: (.pointer (some ⟨88, 0, none⟩)) :: cl_120
noncomputable def cl_127 : List Value := (.bool false) :: (.pointer (some ⟨87, 0, none⟩)) :: (.int .i64 0) :: (.pointer (some ⟨88, 0, none⟩)) :: cl_117
noncomputable def cl_128 : List Value := (.pointer (some ⟨89, 0, none⟩)) :: cl_119
noncomputable def cl_129 : List Value := (.bool false) :: (.pointer (some ⟨87, 0, none⟩)) :: (.int .i64 0) :: (.tuple ⟨[]⟩) :: cl_128
noncomputable def cl_130 : List Value := (.pointer (some ⟨89, 0, none⟩)) :: cl_116
noncomputable def cl_131 : List Value := (.bool false) :: (.pointer (some ⟨87, 0, none⟩)) :: (.int .i64 0) :: (.tuple ⟨[]⟩) :: cl_130
noncomputable def cl_132 : List Value := (.pointer (some ⟨90, 0, none⟩)) :: cl_115
noncomputable def cl_133 : List Value := (.tuple ⟨[]⟩) :: cl_132
noncomputable def cl_134 : List Value := (.bool false) :: (.pointer (some ⟨87, 0, none⟩)) :: (.int .i64 0) :: (.tuple ⟨[]⟩) :: cl_133
noncomputable def cl_135 : List Value := (.bool false) :: (.pointer (some ⟨87, 0, none⟩)) :: (.int .i64 0) :: (.pointer (some ⟨88, 0, none⟩)) :: cl_110
noncomputable def cl_136 : List Value := (.bool false) :: (.pointer (some ⟨87, 0, none⟩)) :: (.int .i64 0) :: (.pointer (some ⟨88, 0, none⟩)) :: cl_108
noncomputable def cl_137 : List Value := (.bool false) :: (.pointer (some ⟨87, 0, none⟩)) :: (.int .i64 0) :: (.pointer (some ⟨88, 0, none⟩)) :: cl_106
noncomputable def cl_138 : List Value := (.bool false) :: (.pointer (some ⟨87, 0, none⟩)) :: (.int .i64 0) :: (.pointer (some ⟨88, 0, none⟩)) :: cl_99
noncomputable def cl_139 : List Value := (.pointer (some ⟨89, 0, none⟩)) :: cl_105
noncomputable def cl_140 : List Value := (.bool false) :: (.pointer (some ⟨87, 0, none⟩)) :: (.int .i64 0) :: (.tuple ⟨[]⟩) :: cl_139
noncomputable def cl_141 : List Value := (.bool false) :: (.pointer (some ⟨87, 0, none⟩)) :: (.int .i64 0) :: (.pointer (some ⟨88, 0, none⟩)) :: cl_139
noncomputable def cl_142 : List Value := (.pointer (some ⟨89, 0, none⟩)) :: cl_132
noncomputable def cl_143 : List Value := (.bool false) :: (.pointer (some ⟨87, 0, none⟩)) :: (.int .i64 0) :: (.tuple ⟨[]⟩) :: cl_142
noncomputable def cl_144 : List Value := (.bool false) :: (.pointer (some ⟨87, 0, none⟩)) :: (.int .i64 0) :: (.pointer (some ⟨88, 0, none⟩)) :: cl_133
noncomputable def cl_145 : List Value := (.bool false) :: (.pointer (some ⟨87, 0, none⟩)) :: (.int .i64 0) :: (.pointer (some ⟨88, 0, none⟩)) :: cl_130
noncomputable def cl_146 : List Value := (.bool false) :: (.pointer (some ⟨87, 0, none⟩)) :: (.int .i64 0) :: (.pointer (some ⟨88, 0, none⟩)) :: cl_128
noncomputable def cl_147 : List Value := (.bool false) :: (.pointer (some ⟨87, 0, none⟩)) :: (.int .i64 0) :: (.pointer (some ⟨88, 0, none⟩)) :: cl_142
noncomputable def cl_148 : List Value := (.bool false) :: (.pointer (some ⟨87, 0, none⟩)) :: (.int .i64 0) :: (.pointer (some ⟨88, 0, none⟩)) :: (.pointer (some ⟨89, 0, none⟩)) :: (.pointer (some ⟨90, 0, none⟩)) :: (.pointer (some ⟨91, 0, none⟩)) :: rep 14 (.tuple ⟨[]⟩) ((.tuple ⟨[cv_1, (.int .i64 0)]⟩) :: cv_2 :: (.slice (some ⟨2, 0, none⟩) 2 2) :: (.tuple ⟨[cv_1, (.int .i64 0)]⟩) :: cv_1 :: (.int .i64 0) :: (.int .i64 0) :: (.bool false) :: (.bool false) :: (.pointer (some ⟨87, 165, none⟩)) :: (.slice (some ⟨86, 0, (some 0)⟩) 2 2) :: (.int .i64 2) :: (.bool false) :: (.bool false) :: cv_1 :: cv_8 :: cv_1 :: cv_11 :: cv_1 :: cv_14 :: cv_1 :: cv_17 :: (.pointer (some ⟨88, 0, none⟩)) :: (.pointer (some ⟨88, 2, none⟩)) :: rep 112 (.tuple ⟨[]⟩) ([]))
noncomputable def cl_149 : List Value := (.bool false) :: (.pointer (some ⟨87, 0, none⟩)) :: (.int .i64 0) :: (.pointer (some ⟨88, 0, none⟩)) :: (.pointer (some ⟨89, 0, none⟩)) :: (.pointer (some ⟨90, 0, none⟩)) :: (.pointer (some ⟨91, 0, none⟩)) :: rep 14 (.tuple ⟨[]⟩) ((.tuple ⟨[cv_1, (.int .i64 0)]⟩) :: cv_2 :: (.slice (some ⟨2, 0, none⟩) 2 2) :: (.tuple ⟨[cv_1, (.int .i64 0)]⟩) :: cv_1 :: (.int .i64 0) :: (.int .i64 0) :: (.bool false) :: (.bool false) :: (.pointer (some ⟨87, 165, none⟩)) :: (.slice (some ⟨86, 0, (some 0)⟩) 2 2) :: (.int .i64 2) :: (.bool false) :: (.bool false) :: cv_1 :: cv_8 :: cv_1 :: cv_11 :: cv_1 :: cv_14 :: cv_1 :: cv_17 :: (.pointer (some ⟨88, 0, none⟩)) :: (.pointer (some ⟨88, 2, none⟩)) :: (.pointer (some ⟨89, 165, none⟩)) :: (.slice (some ⟨105, 0, (some 0)⟩) 2 2) :: (.slice (some ⟨105, 0, (some 0)⟩) 1 2) :: (.pointer (some ⟨89, 165, none⟩)) :: rep 108 (.tuple ⟨[]⟩) ([]))
noncomputable def cl_150 : List Value := (.bool false) :: (.pointer (some ⟨87, 0, none⟩)) :: (.int .i64 0) :: (.pointer (some ⟨88, 0, none⟩)) :: (.pointer (some ⟨89, 0, none⟩)) :: (.pointer (some ⟨90, 0, none⟩)) :: (.pointer (some ⟨91, 0, none⟩)) :: rep 14 (.tuple ⟨[]⟩) ((.tuple ⟨[cv_1, (.int .i64 0)]⟩) :: cv_2 :: (.slice (some ⟨2, 0, none⟩) 2 2) :: (.tuple ⟨[cv_1, (.int .i64 0)]⟩) :: cv_1 :: (.int .i64 0) :: (.int .i64 0) :: (.bool false) :: (.bool false) :: (.pointer (some ⟨87, 165, none⟩)) :: (.slice (some ⟨86, 0, (some 0)⟩) 2 2) :: (.int .i64 2) :: (.bool false) :: (.bool false) :: cv_1 :: cv_8 :: cv_1 :: cv_11 :: cv_1 :: cv_14 :: cv_1 :: cv_17 :: (.pointer (some ⟨88, 0, none⟩)) :: (.pointer (some ⟨88, 2, none⟩)) :: (.pointer (some ⟨89, 165, none⟩)) :: (.slice (some ⟨105, 0, (some 0)⟩) 2 2) :: (.slice (some ⟨105, 0, (some 0)⟩) 1 2) :: (.pointer (some ⟨89, 165, none⟩)) :: (.pointer (some ⟨90, 0, none⟩)) :: (.pointer (some ⟨90, 1, none⟩)) :: rep 106 (.tuple ⟨[]⟩) ([]))
noncomputable def cl_151 : List Value := (.bool false) :: (.pointer (some ⟨87, 0, none⟩)) :: (.int .i64 0) :: (.pointer (some ⟨88, 0, none⟩)) :: (.pointer (some ⟨89, 0, none⟩)) :: (.pointer (some ⟨90, 0, none⟩)) :: (.pointer (some ⟨91, 0, none⟩)) :: rep 14 (.tuple ⟨[]⟩) ((.tuple ⟨[cv_1, (.int .i64 0)]⟩) :: cv_2 :: (.slice (some ⟨2, 0, none⟩) 2 2) :: (.tuple ⟨[cv_1, (.int .i64 0)]⟩) :: cv_1 :: (.int .i64 0) :: (.int .i64 0) :: (.bool false) :: (.bool false) :: (.pointer (some ⟨87, 165, none⟩)) :: (.slice (some ⟨86, 0, (some 0)⟩) 2 2) :: (.int .i64 2) :: (.bool false) :: (.bool false) :: cv_1 :: cv_8 :: cv_1 :: cv_11 :: cv_1 :: cv_14 :: cv_1 :: cv_17 :: (.pointer (some ⟨88, 0, none⟩)) :: (.pointer (some ⟨88, 2, none⟩)) :: (.pointer (some ⟨89, 165, none⟩)) :: (.slice (some ⟨105, 0, (some 0)⟩) 2 2) :: (.slice (some ⟨105, 0, (some 0)⟩) 1 2) :: (.pointer (some ⟨89, 165, none⟩)) :: (.pointer (some ⟨90, 0, none⟩)) :: (.pointer (some ⟨90, 1, none⟩)) :: (.pointer (some ⟨91, 165, none⟩)) :: rep 105 (.tuple ⟨[]⟩) ([]))
noncomputable def cl_152 : List Value := (.bool false) :: (.pointer (some ⟨87, 0, none⟩)) :: (.int .i64 0) :: (.pointer (some ⟨88, 0, none⟩)) :: (.pointer (some ⟨89, 0, none⟩)) :: (.pointer (some ⟨90, 0, none⟩)) :: (.pointer (some ⟨91, 0, none⟩)) :: (.bool true) :: rep 13 (.tuple ⟨[]⟩) ((.tuple ⟨[cv_1, (.int .i64 0)]⟩) :: cv_2 :: (.slice (some ⟨2, 0, none⟩) 2 2) :: (.tuple ⟨[cv_1, (.int .i64 0)]⟩) :: cv_1 :: (.int .i64 0) :: (.int .i64 0) :: (.bool false) :: (.bool false) :: (.pointer (some ⟨87, 165, none⟩)) :: (.slice (some ⟨86, 0, (some 0)⟩) 2 2) :: (.int .i64 2) :: (.bool false) :: (.bool false) :: cv_1 :: cv_8 :: cv_1 :: cv_11 :: cv_1 :: cv_14 :: cv_1 :: cv_17 :: (.pointer (some ⟨88, 0, none⟩)) :: (.pointer (some ⟨88, 2, none⟩)) :: (.pointer (some ⟨89, 165, none⟩)) :: (.slice (some ⟨105, 0, (some 0)⟩) 2 2) :: (.slice (some ⟨105, 0, (some 0)⟩) 1 2) :: (.pointer (some ⟨89, 165, none⟩)) :: (.pointer (some ⟨90, 0, none⟩)) :: (.pointer (some ⟨90, 1, none⟩)) :: (.pointer (some ⟨91, 165, none⟩)) :: cv_24 :: (.int .i64 12) :: (.bool true) :: (.bool true) :: cv_25 :: (.int .i64 12) :: (.bool true) :: (.bool true) :: (.bool true) :: cv_26 :: (.int .i64 3) :: (.bool true) :: (.bool true) :: (.bool true) :: cv_27 :: (.int .i64 6) :: (.bool true) :: (.bool true) :: rep 87 (.tuple ⟨[]⟩) ([]))
noncomputable def cl_153 : List Value := (.bool false) :: (.pointer (some ⟨87, 0, none⟩)) :: (.int .i64 0) :: (.pointer (some ⟨88, 0, none⟩)) :: (.pointer (some ⟨89, 0, none⟩)) :: (.pointer (some ⟨90, 0, none⟩)) :: (.pointer (some ⟨91, 0, none⟩)) :: (.bool true) :: (.pointer (some ⟨360, 0, none⟩)) :: (.int .i64 6) :: rep 11 (.tuple ⟨[]⟩) ((.tuple ⟨[cv_1, (.int .i64 0)]⟩) :: cv_2 :: (.slice (some ⟨2, 0, none⟩) 2 2) :: (.tuple ⟨[cv_1, (.int .i64 0)]⟩) :: cv_1 :: (.int .i64 0) :: (.int .i64 0) :: (.bool false) :: (.bool false) :: (.pointer (some ⟨87, 165, none⟩)) :: (.slice (some ⟨86, 0, (some 0)⟩) 2 2) :: (.int .i64 2) :: (.bool false) :: (.bool false) :: cv_1 :: cv_8 :: cv_1 :: cv_11 :: cv_1 :: cv_14 :: cv_1 :: cv_17 :: (.pointer (some ⟨88, 0, none⟩)) :: (.pointer (some ⟨88, 2, none⟩)) :: (.pointer (some ⟨89, 165, none⟩)) :: (.slice (some ⟨105, 0, (some 0)⟩) 2 2) :: (.slice (some ⟨105, 0, (some 0)⟩) 1 2) :: (.pointer (some ⟨89, 165, none⟩)) :: (.pointer (some ⟨90, 0, none⟩)) :: (.pointer (some ⟨90, 1, none⟩)) :: (.pointer (some ⟨91, 165, none⟩)) :: cv_24 :: (.int .i64 12) :: (.bool true) :: (.bool true) :: cv_25 :: (.int .i64 12) :: (.bool true) :: (.bool true) :: (.bool true) :: cv_26 :: (.int .i64 3) :: (.bool true) :: (.bool true) :: (.bool true) :: cv_27 :: (.int .i64 6) :: (.bool true) :: (.bool true) :: (.tuple ⟨[cv_28, (.int .i64 6)]⟩) :: cv_2 :: (.tuple ⟨[cv_28, (.int .i64 6)]⟩) :: cv_28 :: (.int .i64 6) :: rep 82 (.tuple ⟨[]⟩) ([]))
noncomputable def cl_154 : List Value := (.bool false) :: (.pointer (some ⟨87, 0, none⟩)) :: (.int .i64 0) :: (.pointer (some ⟨88, 0, none⟩)) :: (.pointer (some ⟨89, 0, none⟩)) :: (.pointer (some ⟨90, 0, none⟩)) :: (.pointer (some ⟨91, 0, none⟩)) :: (.bool true) :: (.pointer (some ⟨360, 0, none⟩)) :: (.int .i64 6) :: (.pointer (some ⟨362, 0, none⟩)) :: rep 10 (.tuple ⟨[]⟩) ((.tuple ⟨[cv_1, (.int .i64 0)]⟩) :: cv_2 :: (.slice (some ⟨2, 0, none⟩) 2 2) :: (.tuple ⟨[cv_1, (.int .i64 0)]⟩) :: cv_1 :: (.int .i64 0) :: (.int .i64 0) :: (.bool false) :: (.bool false) :: (.pointer (some ⟨87, 165, none⟩)) :: (.slice (some ⟨86, 0, (some 0)⟩) 2 2) :: (.int .i64 2) :: (.bool false) :: (.bool false) :: cv_1 :: cv_8 :: cv_1 :: cv_11 :: cv_1 :: cv_14 :: cv_1 :: cv_17 :: (.pointer (some ⟨88, 0, none⟩)) :: (.pointer (some ⟨88, 2, none⟩)) :: (.pointer (some ⟨89, 165, none⟩)) :: (.slice (some ⟨105, 0, (some 0)⟩) 2 2) :: (.slice (some ⟨105, 0, (some 0)⟩) 1 2) :: (.pointer (some ⟨89, 165, none⟩)) :: (.pointer (some ⟨90, 0, none⟩)) :: (.pointer (some ⟨90, 1, none⟩)) :: (.pointer (some ⟨91, 165, none⟩)) :: cv_24 :: (.int .i64 12) :: (.bool true) :: (.bool true) :: cv_25 :: (.int .i64 12) :: (.bool true) :: (.bool true) :: (.bool true) :: cv_26 :: (.int .i64 3) :: (.bool true) :: (.bool true) :: (.bool true) :: cv_27 :: (.int .i64 6) :: (.bool true) :: (.bool true) :: (.tuple ⟨[cv_28, (.int .i64 6)]⟩) :: cv_2 :: (.tuple ⟨[cv_28, (.int .i64 6)]⟩) :: cv_28 :: (.int .i64 6) :: cv_2 :: rep 81 (.tuple ⟨[]⟩) ([]))
noncomputable def cl_155 : List Value := (.bool false) :: (.pointer (some ⟨87, 0, none⟩)) :: (.int .i64 0) :: (.pointer (some ⟨88, 0, none⟩)) :: (.pointer (some ⟨89, 0, none⟩)) :: (.pointer (some ⟨90, 0, none⟩)) :: (.pointer (some ⟨91, 0, none⟩)) :: (.bool true) :: (.pointer (some ⟨360, 0, none⟩)) :: (.int .i64 6) :: (.pointer (some ⟨362, 0, none⟩)) :: rep 10 (.tuple ⟨[]⟩) ((.tuple ⟨[cv_1, (.int .i64 0)]⟩) :: cv_2 :: (.slice (some ⟨2, 0, none⟩) 2 2) :: (.tuple ⟨[cv_1, (.int .i64 0)]⟩) :: cv_1 :: (.int .i64 0) :: (.int .i64 0) :: (.bool false) :: (.bool false) :: (.pointer (some ⟨87, 165, none⟩)) :: (.slice (some ⟨86, 0, (some 0)⟩) 2 2) :: (.int .i64 2) :: (.bool false) :: (.bool false) :: cv_1 :: cv_8 :: cv_1 :: cv_11 :: cv_1 :: cv_14 :: cv_1 :: cv_17 :: (.pointer (some ⟨88, 0, none⟩)) :: (.pointer (some ⟨88, 2, none⟩)) :: (.pointer (some ⟨89, 165, none⟩)) :: (.slice (some ⟨105, 0, (some 0)⟩) 2 2) :: (.slice (some ⟨105, 0, (some 0)⟩) 1 2) :: (.pointer (some ⟨89, 165, none⟩)) :: (.pointer (some ⟨90, 0, none⟩)) :: (.pointer (some ⟨90, 1, none⟩)) :: (.pointer (some ⟨91, 165, none⟩)) :: cv_24 :: (.int .i64 12) :: (.bool true) :: (.bool true) :: cv_25 :: (.int .i64 12) :: (.bool true) :: (.bool true) :: (.bool true) :: cv_26 :: (.int .i64 3) :: (.bool true) :: (.bool true) :: (.bool true) :: cv_27 :: (.int .i64 6) :: (.bool true) :: (.bool true) :: (.tuple ⟨[cv_28, (.int .i64 6)]⟩) :: cv_2 :: (.tuple ⟨[cv_28, (.int .i64 6)]⟩) :: cv_28 :: (.int .i64 6) :: cv_2 :: (.pointer (some ⟨362, 0, none⟩)) :: rep 80 (.tuple ⟨[]⟩) ([]))
noncomputable def cl_156 : List Value := (.tuple ⟨[cv_28, (.int .i64 5)]⟩) :: cv_28 :: (.int .i64 5) :: rep 74 (.tuple ⟨[]⟩) ([])
noncomputable def cl_157 : List Value := (.int .i64 5) :: rep 8 (.tuple ⟨[]⟩) ((.tuple ⟨[cv_1, (.int .i64 0)]⟩) :: cv_2 :: (.slice (some ⟨2, 0, none⟩) 2 2) :: (.tuple ⟨[cv_1, (.int .i64 0)]⟩) :: cv_1 :: (.int .i64 0) :: (.int .i64 0) :: (.bool false) :: (.bool false) :: (.pointer (some ⟨87, 165, none⟩)) :: (.slice (some ⟨86, 0, (some 0)⟩) 2 2) :: (.int .i64 2) :: (.bool false) :: (.bool false) :: cv_1 :: cv_8 :: cv_1 :: cv_11 :: cv_1 :: cv_14 :: cv_1 :: cv_17 :: (.pointer (some ⟨88, 0, none⟩)) :: (.pointer (some ⟨88, 2, none⟩)) :: (.pointer (some ⟨89, 165, none⟩)) :: (.slice (some ⟨105, 0, (some 0)⟩) 2 2) :: (.slice (some ⟨105, 0, (some 0)⟩) 1 2) :: (.pointer (some ⟨89, 165, none⟩)) :: (.pointer (some ⟨90, 0, none⟩)) :: (.pointer (some ⟨90, 1, none⟩)) :: (.pointer (some ⟨91, 165, none⟩)) :: cv_24 :: (.int .i64 12) :: (.bool true) :: (.bool true) :: cv_25 :: (.int .i64 12) :: (.bool true) :: (.bool true) :: (.bool true) :: cv_26 :: (.int .i64 3) :: (.bool true) :: (.bool true) :: (.bool true) :: cv_27 :: (.int .i64 6) :: (.bool true) :: (.bool true) :: (.tuple ⟨[cv_28, (.int .i64 6)]⟩) :: cv_2 :: (.tuple ⟨[cv_28, (.int .i64 6)]⟩) :: cv_28 :: (.int .i64 6) :: cv_2 :: (.pointer (some ⟨362, 0, none⟩)) :: (.tuple ⟨[cv_28, (.int .i64 5)]⟩) :: cv_30 :: (.slice (some ⟨363, 0, none⟩) 2 2) :: cl_156)
noncomputable def cl_158 : List Value := (.bool false) :: (.pointer (some ⟨87, 0, none⟩)) :: (.int .i64 0) :: (.pointer (some ⟨88, 0, none⟩)) :: (.pointer (some ⟨89, 0, none⟩)) :: (.pointer (some ⟨90, 0, none⟩)) :: (.pointer (some ⟨91, 0, none⟩)) :: (.bool true) :: (.pointer (some ⟨360, 0, none⟩)) :: (.int .i64 6) :: (.pointer (some ⟨362, 0, none⟩)) :: (.pointer (some ⟨407, 0, none⟩)) :: cl_157
noncomputable def cl_159 : List Value := (.bool false) :: (.pointer (some ⟨87, 0, none⟩)) :: (.int .i64 0) :: (.pointer (some ⟨88, 0, none⟩)) :: (.pointer (some ⟨89, 0, none⟩)) :: (.pointer (some ⟨90, 0, none⟩)) :: (.pointer (some ⟨91, 0, none⟩)) :: (.bool true) :: (.pointer (some ⟨360, 0, none⟩)) :: (.int .i64 6) :: (.pointer (some ⟨362, 0, none⟩)) :: (.pointer (some ⟨364, 0, none⟩)) :: cl_157
noncomputable def cl_160 : List Value := (.bool false) :: (.pointer (some ⟨87, 0, none⟩)) :: (.int .i64 0) :: (.pointer (some ⟨88, 0, none⟩)) :: (.pointer (some ⟨89, 0, none⟩)) :: (.pointer (some ⟨90, 0, none⟩)) :: (.pointer (some ⟨91, 0, none⟩)) :: (.bool true) :: (.pointer (some ⟨360, 0, none⟩)) :: (.int .i64 6) :: (.pointer (some ⟨362, 0, none⟩)) :: (.pointer (some ⟨363, 0, none⟩)) :: (.int .i64 5) :: rep 8 (.tuple ⟨[]⟩) ((.tuple ⟨[cv_1, (.int .i64 0)]⟩) :: cv_2 :: (.slice (some ⟨2, 0, none⟩) 2 2) :: (.tuple ⟨[cv_1, (.int .i64 0)]⟩) :: cv_1 :: (.int .i64 0) :: (.int .i64 0) :: (.bool false) :: (.bool false) :: (.pointer (some ⟨87, 165, none⟩)) :: (.slice (some ⟨86, 0, (some 0)⟩) 2 2) :: (.int .i64 2) :: (.bool false) :: (.bool false) :: cv_1 :: cv_8 :: cv_1 :: cv_11 :: cv_1 :: cv_14 :: cv_1 :: cv_17 :: (.pointer (some ⟨88, 0, none⟩)) :: (.pointer (some ⟨88, 2, none⟩)) :: (.pointer (some ⟨89, 165, none⟩)) :: (.slice (some ⟨105, 0, (some 0)⟩) 2 2) :: (.slice (some ⟨105, 0, (some 0)⟩) 1 2) :: (.pointer (some ⟨89, 165, none⟩)) :: (.pointer (some ⟨90, 0, none⟩)) :: (.pointer (some ⟨90, 1, none⟩)) :: (.pointer (some ⟨91, 165, none⟩)) :: cv_24 :: (.int .i64 12) :: (.bool true) :: (.bool true) :: cv_25 :: (.int .i64 12) :: (.bool true) :: (.bool true) :: (.bool true) :: cv_26 :: (.int .i64 3) :: (.bool true) :: (.bool true) :: (.bool true) :: cv_27 :: (.int .i64 6) :: (.bool true) :: (.bool true) :: (.tuple ⟨[cv_28, (.int .i64 6)]⟩) :: cv_2 :: (.tuple ⟨[cv_28, (.int .i64 6)]⟩) :: cv_28 :: (.int .i64 6) :: cv_2 :: (.pointer (some ⟨362, 0, none⟩)) :: (.tuple ⟨[cv_28, (.int .i64 5)]⟩) :: cv_30 :: (.slice (some ⟨364, 0, none⟩) 2 2) :: cl_156)
noncomputable def cl_161 : List Value := (.tuple ⟨[cv_28, (.int .i64 5)]⟩) :: cv_28 :: (.int .i64 5) :: (.tuple ⟨[(.slice (some ⟨536, 0, (some 0)⟩) 190 190), (.int .i64 0)]⟩) :: cv_1 :: (.tuple ⟨[(.slice (some ⟨536, 0, (some 0)⟩) 190 190), (.int .i64 0)]⟩) :: (.slice (some ⟨536, 0, (some 0)⟩) 190 190) :: (.int .i64 0) :: rep 69 (.tuple ⟨[]⟩) ([])
noncomputable def cl_162 : List Value := (.int .i64 5) :: (.slice (some ⟨536, 0, (some 0)⟩) 190 190) :: (.int .i64 0) :: (.tuple ⟨[]⟩) :: (.tuple ⟨[]⟩) :: (.tuple ⟨[]⟩) :: (.tuple ⟨[]⟩) :: (.tuple ⟨[]⟩) :: (.tuple ⟨[]⟩) :: (.tuple ⟨[cv_1, (.int .i64 0)]⟩) :: cv_2 :: (.slice (some ⟨2, 0, none⟩) 2 2) :: (.tuple ⟨[cv_1, (.int .i64 0)]⟩) :: cv_1 :: (.int .i64 0) :: (.int .i64 0) :: (.bool false) :: (.bool false) :: (.pointer (some ⟨87, 165, none⟩)) :: (.slice (some ⟨86, 0, (some 0)⟩) 2 2) :: (.int .i64 2) :: (.bool false) :: (.bool false) :: cv_1 :: cv_8 :: cv_1 :: cv_11 :: cv_1 :: cv_14 :: cv_1 :: cv_17 :: (.pointer (some ⟨88, 0, none⟩)) :: (.pointer (some ⟨88, 2, none⟩)) :: (.pointer (some ⟨89, 165, none⟩)) :: (.slice (some ⟨105, 0, (some 0)⟩) 2 2) :: (.slice (some ⟨105, 0, (some 0)⟩) 1 2) :: (.pointer (some ⟨89, 165, none⟩)) :: (.pointer (some ⟨90, 0, none⟩)) :: (.pointer (some ⟨90, 1, none⟩)) :: (.pointer (some ⟨91, 165, none⟩)) :: cv_24 :: (.int .i64 12) :: (.bool true) :: (.bool true) :: cv_25 :: (.int .i64 12) :: (.bool true) :: (.bool true) :: (.bool true) :: cv_26 :: (.int .i64 3) :: (.bool true) :: (.bool true) :: (.bool true) :: cv_27 :: (.int .i64 6) :: (.bool true) :: (.bool true) :: (.tuple ⟨[cv_28, (.int .i64 6)]⟩) :: cv_2 :: (.tuple ⟨[cv_28, (.int .i64 6)]⟩) :: cv_28 :: (.int .i64 6) :: cv_2 :: (.pointer (some ⟨362, 0, none⟩)) :: (.tuple ⟨[cv_28, (.int .i64 5)]⟩) :: cv_30 :: (.slice (some ⟨363, 0, none⟩) 2 2) :: cl_161
noncomputable def cl_163 : List Value := (.bool false) :: (.pointer (some ⟨87, 0, none⟩)) :: (.int .i64 0) :: (.pointer (some ⟨88, 0, none⟩)) :: (.pointer (some ⟨89, 0, none⟩)) :: (.pointer (some ⟨90, 0, none⟩)) :: (.pointer (some ⟨91, 0, none⟩)) :: (.bool true) :: (.pointer (some ⟨360, 0, none⟩)) :: (.int .i64 6) :: (.pointer (some ⟨362, 0, none⟩)) :: (.pointer (some ⟨407, 0, none⟩)) :: cl_162
noncomputable def cl_164 : List Value := (.bool false) :: (.pointer (some ⟨87, 0, none⟩)) :: (.int .i64 0) :: (.pointer (some ⟨88, 0, none⟩)) :: (.pointer (some ⟨89, 0, none⟩)) :: (.pointer (some ⟨90, 0, none⟩)) :: (.pointer (some ⟨91, 0, none⟩)) :: (.bool true) :: (.pointer (some ⟨360, 0, none⟩)) :: (.int .i64 6) :: (.pointer (some ⟨362, 0, none⟩)) :: (.pointer (some ⟨364, 0, none⟩)) :: cl_162
noncomputable def cl_165 : List Value := (.bool false) :: (.pointer (some ⟨87, 0, none⟩)) :: (.int .i64 0) :: (.pointer (some ⟨88, 0, none⟩)) :: (.pointer (some ⟨89, 0, none⟩)) :: (.pointer (some ⟨90, 0, none⟩)) :: (.pointer (some ⟨91, 0, none⟩)) :: (.bool true) :: (.pointer (some ⟨360, 0, none⟩)) :: (.int .i64 6) :: (.pointer (some ⟨362, 0, none⟩)) :: (.pointer (some ⟨363, 0, none⟩)) :: (.int .i64 5) :: (.slice (some ⟨536, 0, (some 0)⟩) 190 190) :: (.int .i64 0) :: (.tuple ⟨[]⟩) :: (.tuple ⟨[]⟩) :: (.tuple ⟨[]⟩) :: (.tuple ⟨[]⟩) :: (.tuple ⟨[]⟩) :: (.tuple ⟨[]⟩) :: (.tuple ⟨[cv_1, (.int .i64 0)]⟩) :: cv_2 :: (.slice (some ⟨2, 0, none⟩) 2 2) :: (.tuple ⟨[cv_1, (.int .i64 0)]⟩) :: cv_1 :: (.int .i64 0) :: (.int .i64 0) :: (.bool false) :: (.bool false) :: (.pointer (some ⟨87, 165, none⟩)) :: (.slice (some ⟨86, 0, (some 0)⟩) 2 2) :: (.int .i64 2) :: (.bool false) :: (.bool false) :: cv_1 :: cv_8 :: cv_1 :: cv_11 :: cv_1 :: cv_14 :: cv_1 :: cv_17 :: (.pointer (some ⟨88, 0, none⟩)) :: (.pointer (some ⟨88, 2, none⟩)) :: (.pointer (some ⟨89, 165, none⟩)) :: (.slice (some ⟨105, 0, (some 0)⟩) 2 2) :: (.slice (some ⟨105, 0, (some 0)⟩) 1 2) :: (.pointer (some ⟨89, 165, none⟩)) :: (.pointer (some ⟨90, 0, none⟩)) :: (.pointer (some ⟨90, 1, none⟩)) :: (.pointer (some ⟨91, 165, none⟩)) :: cv_24 :: (.int .i64 12) :: (.bool true) :: (.bool true) :: cv_25 :: (.int .i64 12) :: (.bool true) :: (.bool true) :: (.bool true) :: cv_26 :: (.int .i64 3) :: (.bool true) :: (.bool true) :: (.bool true) :: cv_27 :: (.int .i64 6) :: (.bool true) :: (.bool true) :: (.tuple ⟨[cv_28, (.int .i64 6)]⟩) :: cv_2 :: (.tuple ⟨[cv_28, (.int .i64 6)]⟩) :: cv_28 :: (.int .i64 6) :: cv_2 :: (.pointer (some ⟨362, 0, none⟩)) :: (.tuple ⟨[cv_28, (.int .i64 5)]⟩) :: cv_30 :: (.slice (some ⟨364, 0, none⟩) 2 2) :: cl_161
noncomputable def cl_166 : List Value := (.tuple ⟨[cv_28, (.int .i64 5)]⟩) :: cv_28 :: (.int .i64 5) :: (.tuple ⟨[(.slice (some ⟨536, 0, (some 0)⟩) 190 190), (.int .i64 0)]⟩) :: cv_1 :: (.tuple ⟨[(.slice (some ⟨536, 0, (some 0)⟩) 190 190), (.int .i64 0)]⟩) :: (.slice (some ⟨536, 0, (some 0)⟩) 190 190) :: (.int .i64 0) :: (.tuple ⟨[cv_28, (.agg ⟨[(.int .i64 6), (.int .i64 0)]⟩)]⟩) :: (.tuple ⟨[cv_28, (.agg ⟨[(.int .i64 6), (.int .i64 0)]⟩)]⟩) :: cv_28 :: (.agg ⟨[(.int .i64 6), (.int .i64 0)]⟩) :: rep 65 (.tuple ⟨[]⟩) ([])
noncomputable def cl_167 : List Value := (.int .i64 5) :: (.slice (some ⟨536, 0, (some 0)⟩) 190 190) :: (.int .i64 0) :: (.pointer (some ⟨549, 0, none⟩)) :: (.pointer (some ⟨550, 0, none⟩)) :: (.tuple ⟨[]⟩) :: (.tuple ⟨[]⟩) :: (.tuple ⟨[]⟩) :: (.tuple ⟨[]⟩) :: (.tuple ⟨[cv_1, (.int .i64 0)]⟩) :: cv_2 :: (.slice (some ⟨2, 0, none⟩) 2 2) :: (.tuple ⟨[cv_1, (.int .i64 0)]⟩) :: cv_1 :: (.int .i64 0) :: (.int .i64 0) :: (.bool false) :: (.bool false) :: (.pointer (some ⟨87, 165, none⟩)) :: (.slice (some ⟨86, 0, (some 0)⟩) 2 2) :: (.int .i64 2) :: (.bool false) :: (.bool false) :: cv_1 :: cv_8 :: cv_1 :: cv_11 :: cv_1 :: cv_14 :: cv_1 :: cv_17 :: (.pointer (some ⟨88, 0, none⟩)) :: (.pointer (some ⟨88, 2, none⟩)) :: (.pointer (some ⟨89, 165, none⟩)) :: (.slice (some ⟨105, 0, (some 0)⟩) 2 2) :: (.slice (some ⟨105, 0, (some 0)⟩) 1 2) :: (.pointer (some ⟨89, 165, none⟩)) :: (.pointer (some ⟨90, 0, none⟩)) :: (.pointer (some ⟨90, 1, none⟩)) :: (.pointer (some ⟨91, 165, none⟩)) :: cv_24 :: (.int .i64 12) :: (.bool true) :: (.bool true) :: cv_25 :: (.int .i64 12) :: (.bool true) :: (.bool true) :: (.bool true) :: cv_26 :: (.int .i64 3) :: (.bool true) :: (.bool true) :: (.bool true) :: cv_27 :: (.int .i64 6) :: (.bool true) :: (.bool true) :: (.tuple ⟨[cv_28, (.int .i64 6)]⟩) :: cv_2 :: (.tuple ⟨[cv_28, (.int .i64 6)]⟩) :: cv_28 :: (.int .i64 6) :: cv_2 :: (.pointer (some ⟨362, 0, none⟩)) :: (.tuple ⟨[cv_28, (.int .i64 5)]⟩) :: cv_30 :: (.slice (some ⟨363, 0, none⟩) 2 2) :: cl_166
noncomputable def cl_168 : List Value := (.bool false) :: (.pointer (some ⟨87, 0, none⟩)) :: (.int .i64 0) :: (.pointer (some ⟨88, 0, none⟩)) :: (.pointer (some ⟨89, 0, none⟩)) :: (.pointer (some ⟨90, 0, none⟩)) :: (.pointer (some ⟨91, 0, none⟩)) :: (.bool true) :: (.pointer (some ⟨360, 0, none⟩)) :: (.int .i64 6) :: (.pointer (some ⟨362, 0, none⟩)) :: (.pointer (some ⟨407, 0, none⟩)) :: cl_167
noncomputable def cl_169 : List Value := (.bool false) :: (.pointer (some ⟨87, 0, none⟩)) :: (.int .i64 0) :: (.pointer (some ⟨88, 0, none⟩)) :: (.pointer (some ⟨89, 0, none⟩)) :: (.pointer (some ⟨90, 0, none⟩)) :: (.pointer (some ⟨91, 0, none⟩)) :: (.bool true) :: (.pointer (some ⟨360, 0, none⟩)) :: (.int .i64 6) :: (.pointer (some ⟨362, 0, none⟩)) :: (.pointer (some ⟨364, 0, none⟩)) :: cl_167
noncomputable def cl_170 : List Value := (.bool false) :: (.pointer (some ⟨87, 0, none⟩)) :: (.int .i64 0) :: (.pointer (some ⟨88, 0, none⟩)) :: (.pointer (some ⟨89, 0, none⟩)) :: (.pointer (some ⟨90, 0, none⟩)) :: (.pointer (some ⟨91, 0, none⟩)) :: (.bool true) :: (.pointer (some ⟨360, 0, none⟩)) :: (.int .i64 6) :: (.pointer (some ⟨362, 0, none⟩)) :: (.pointer (some ⟨363, 0, none⟩)) :: (.int .i64 5) :: (.slice (some ⟨536, 0, (some 0)⟩) 190 190) :: (.int .i64 0) :: (.pointer (some ⟨549, 0, none⟩)) :: (.pointer (some ⟨550, 0, none⟩)) :: (.tuple ⟨[]⟩) :: (.tuple ⟨[]⟩) :: (.tuple ⟨[]⟩) :: (.tuple ⟨[]⟩) :: (.tuple ⟨[cv_1, (.int .i64 0)]⟩) :: cv_2 :: (.slice (some ⟨2, 0, none⟩) 2 2) :: (.tuple ⟨[cv_1, (.int .i64 0)]⟩) :: cv_1 :: (.int .i64 0) :: (.int .i64 0) :: (.bool false) :: (.bool false) :: (.pointer (some ⟨87, 165, none⟩)) :: (.slice (some ⟨86, 0, (some 0)⟩) 2 2) :: (.int .i64 2) :: (.bool false) :: (.bool false) :: cv_1 :: cv_8 :: cv_1 :: cv_11 :: cv_1 :: cv_14 :: cv_1 :: cv_17 :: (.pointer (some ⟨88, 0, none⟩)) :: (.pointer (some ⟨88, 2, none⟩)) :: (.pointer (some ⟨89, 165, none⟩)) :: (.slice (some ⟨105, 0, (some 0)⟩) 2 2) :: (.slice (some ⟨105, 0, (some 0)⟩) 1 2) :: (.pointer (some ⟨89, 165, none⟩)) :: (.pointer (some ⟨90, 0, none⟩)) :: (.pointer (some ⟨90, 1, none⟩)) :: (.pointer (some ⟨91, 165, none⟩)) :: cv_24 :: (.int .i64 12) :: (.bool true) :: (.bool true) :: cv_25 :: (.int .i64 12) :: (.bool true) :: (.bool true) :: (.bool true) :: cv_26 :: (.int .i64 3) :: (.bool true) :: (.bool true) :: (.bool true) :: cv_27 :: (.int .i64 6) :: (.bool true) :: (.bool true) :: (.tuple ⟨[cv_28, (.int .i64 6)]⟩) :: cv_2 :: (.tuple ⟨[cv_28, (.int .i64 6)]⟩) :: cv_28 :: (.int .i64 6) :: cv_2 :: (.pointer (some ⟨362, 0, none⟩)) :: (.tuple ⟨[cv_28, (.int .i64 5)]⟩) :: cv_30 :: (.slice (some ⟨364, 0, none⟩) 2 2) :: cl_166
noncomputable def cl_171 : List Value := (.tuple ⟨[cv_28, (.int .i64 5)]⟩) :: cv_28 :: (.int .i64 5) :: (.tuple ⟨[(.slice (some ⟨536, 0, (some 0)⟩) 190 190), (.int .i64 0)]⟩) :: cv_1 :: (.tuple ⟨[(.slice (some ⟨536, 0, (some 0)⟩) 190 190), (.int .i64 0)]⟩) :: (.slice (some ⟨536, 0, (some 0)⟩) 190 190) :: (.int .i64 0) :: (.tuple ⟨[cv_28, (.agg ⟨[(.int .i64 6), (.int .i64 0)]⟩)]⟩) :: (.tuple ⟨[cv_28, (.agg ⟨[(.int .i64 6), (.int .i64 0)]⟩)]⟩) :: cv_28 :: (.agg ⟨[(.int .i64 6), (.int .i64 0)]⟩) :: (.int .i64 0) :: (.bool false) :: (.bool false) :: (.slice (some ⟨536, 0, (some 0)⟩) 190 190) :: (.int .i64 190) :: (.bool false) :: (.bool false) :: rep 58 (.tuple ⟨[]⟩) ([])
noncomputable def cl_172 : List Value := (.int .i64 5) :: (.slice (some ⟨536, 0, (some 0)⟩) 190 190) :: (.int .i64 0) :: (.pointer (some ⟨549, 0, none⟩)) :: (.pointer (some ⟨550, 0, none⟩)) :: (.tuple ⟨[]⟩) :: (.tuple ⟨[]⟩) :: (.tuple ⟨[]⟩) :: (.tuple ⟨[]⟩) :: (.tuple ⟨[cv_1, (.int .i64 0)]⟩) :: cv_2 :: (.slice (some ⟨2, 0, none⟩) 2 2) :: (.tuple ⟨[cv_1, (.int .i64 0)]⟩) :: cv_1 :: (.int .i64 0) :: (.int .i64 0) :: (.bool false) :: (.bool false) :: (.pointer (some ⟨87, 165, none⟩)) :: (.slice (some ⟨86, 0, (some 0)⟩) 2 2) :: (.int .i64 2) :: (.bool false) :: (.bool false) :: cv_1 :: cv_8 :: cv_1 :: cv_11 :: cv_1 :: cv_14 :: cv_1 :: cv_17 :: (.pointer (some ⟨88, 0, none⟩)) :: (.pointer (some ⟨88, 2, none⟩)) :: (.pointer (some ⟨89, 165, none⟩)) :: (.slice (some ⟨105, 0, (some 0)⟩) 2 2) :: (.slice (some ⟨105, 0, (some 0)⟩) 1 2) :: (.pointer (some ⟨89, 165, none⟩)) :: (.pointer (some ⟨90, 0, none⟩)) :: (.pointer (some ⟨90, 1, none⟩)) :: (.pointer (some ⟨91, 165, none⟩)) :: cv_24 :: (.int .i64 12) :: (.bool true) :: (.bool true) :: cv_25 :: (.int .i64 12) :: (.bool true) :: (.bool true) :: (.bool true) :: cv_26 :: (.int .i64 3) :: (.bool true) :: (.bool true) :: (.bool true) :: cv_27 :: (.int .i64 6) :: (.bool true) :: (.bool true) :: (.tuple ⟨[cv_28, (.int .i64 6)]⟩) :: cv_2 :: (.tuple ⟨[cv_28, (.int .i64 6)]⟩) :: cv_28 :: (.int .i64 6) :: cv_2 :: (.pointer (some ⟨362, 0, none⟩)) :: (.tuple ⟨[cv_28, (.int .i64 5)]⟩) :: cv_30 :: (.slice (some ⟨363, 0, none⟩) 2 2) :: cl_171
noncomputable def cl_173 : List Value := (.bool false) :: (.pointer (some ⟨87, 0, none⟩)) :: (.int .i64 0) :: (.pointer (some ⟨88, 0, none⟩)) :: (.pointer (some ⟨89, 0, none⟩)) :: (.pointer (some ⟨90, 0, none⟩)) :: (.pointer (some ⟨91, 0, none⟩)) :: (.bool true) :: (.pointer (some ⟨360, 0, none⟩)) :: (.int .i64 6) :: (.pointer (some ⟨362, 0, none⟩)) :: (.pointer (some ⟨407, 0, none⟩)) :: cl_172
noncomputable def cl_174 : List Value := (.bool false) :: (.pointer (some ⟨87, 0, none⟩)) :: (.int .i64 0) :: (.pointer (some ⟨88, 0, none⟩)) :: (.pointer (some ⟨89, 0, none⟩)) :: (.pointer (some ⟨90, 0, none⟩)) :: (.pointer (some ⟨91, 0, none⟩)) :: (.bool true) :: (.pointer (some ⟨360, 0, none⟩)) :: (.int .i64 6) :: (.pointer (some ⟨362, 0, none⟩)) :: (.pointer (some ⟨364, 0, none⟩)) :: cl_172
noncomputable def cl_175 : List Value := (.bool false) :: (.pointer (some ⟨87, 0, none⟩)) :: (.int .i64 0) :: (.pointer (some ⟨88, 0, none⟩)) :: (.pointer (some ⟨89, 0, none⟩)) :: (.pointer (some ⟨90, 0, none⟩)) :: (.pointer (some ⟨91, 0, none⟩)) :: (.bool true) :: (.pointer (some ⟨360, 0, none⟩)) :: (.int .i64 6) :: (.pointer (some ⟨362, 0, none⟩)) :: (.pointer (some ⟨363, 0, none⟩)) :: (.int .i64 5) :: (.slice (some ⟨536, 0, (some 0)⟩) 190 190) :: (.int .i64 0) :: (.pointer (some ⟨549, 0, none⟩)) :: (.pointer (some ⟨550, 0, none⟩)) :: (.tuple ⟨[]⟩) :: (.tuple ⟨[]⟩) :: (.tuple ⟨[]⟩) :: (.tuple ⟨[]⟩) :: (.tuple ⟨[cv_1, (.int .i64 0)]⟩) :: cv_2 :: (.slice (some ⟨2, 0, none⟩) 2 2) :: (.tuple ⟨[cv_1, (.int .i64 0)]⟩) :: cv_1 :: (.int .i64 0) :: (.int .i64 0) :: (.bool false) :: (.bool false) :: (.pointer (some ⟨87, 165, none⟩)) :: (.slice (some ⟨86, 0, (some 0)⟩) 2 2) :: (.int .i64 2) :: (.bool false) :: (.bool false) :: cv_1 :: cv_8 :: cv_1 :: cv_11 :: cv_1 :: cv_14 :: cv_1 :: cv_17 :: (.pointer (some ⟨88, 0, none⟩)) :: (.pointer (some ⟨88, 2, none⟩)) :: (.pointer (some ⟨89, 165, none⟩)) :: (.slice (some ⟨105, 0, (some 0)⟩) 2 2) :: (.slice (some ⟨105, 0, (some 0)⟩) 1 2) :: (.pointer (some ⟨89, 165, none⟩)) :: (.pointer (some ⟨90, 0, none⟩)) :: (.pointer (some ⟨90, 1, none⟩)) :: (.pointer (some ⟨91, 165, none⟩)) :: cv_24 :: (.int .i64 12) :: (.bool true) :: (.bool true) :: cv_25 :: (.int .i64 12) :: (.bool true) :: (.bool true) :: (.bool true) :: cv_26 :: (.int .i64 3) :: (.bool true) :: (.bool true) :: (.bool true) :: cv_27 :: (.int .i64 6) :: (.bool true) :: (.bool true) :: (.tuple ⟨[cv_28, (.int .i64 6)]⟩) :: cv_2 :: (.tuple ⟨[cv_28, (.int .i64 6)]⟩) :: cv_28 :: (.int .i64 6) :: cv_2 :: (.pointer (some ⟨362, 0, none⟩)) :: (.tuple ⟨[cv_28, (.int .i64 5)]⟩) :: cv_30 :: (.slice (some ⟨364, 0, none⟩) 2 2) :: cl_171
noncomputable def cl_176 : List Value := (.tuple ⟨[cv_28, (.int .i64 5)]⟩) :: cv_28 :: (.int .i64 5) :: (.tuple ⟨[(.slice (some ⟨536, 0, (some 0)⟩) 190 190), (.int .i64 0)]⟩) :: cv_1 :: (.tuple ⟨[(.slice (some ⟨536, 0, (some 0)⟩) 190 190), (.int .i64 0)]⟩) :: (.slice (some ⟨536, 0, (some 0)⟩) 190 190) :: (.int .i64 0) :: (.tuple ⟨[cv_28, (.agg ⟨[(.int .i64 6), (.int .i64 0)]⟩)]⟩) :: (.tuple ⟨[cv_28, (.agg ⟨[(.int .i64 6), (.int .i64 0)]⟩)]⟩) :: cv_28 :: (.agg ⟨[(.int .i64 6), (.int .i64 0)]⟩) :: (.int .i64 0) :: (.bool false) :: (.bool false) :: (.slice (some ⟨536, 0, (some 0)⟩) 190 190) :: (.int .i64 190) :: (.bool false) :: (.bool false) :: (.tuple ⟨[cv_28, (.agg ⟨[(.int .i64 6), (.int .i64 174)]⟩)]⟩) :: (.slice (some ⟨536, 0, (some 0)⟩) 190 190) :: (.slice (some ⟨536, 0, (some 0)⟩) 190 190) :: (.int .i64 190) :: (.int .i64 189) :: (.slice (some ⟨536, 0, (some 0)⟩) 189 190) :: (.tuple ⟨[cv_28, (.agg ⟨[(.int .i64 6), (.int .i64 174)]⟩)]⟩) :: cv_28 :: (.agg ⟨[(.int .i64 6), (.int .i64 174)]⟩) :: rep 49 (.tuple ⟨[]⟩) ([])
noncomputable def cl_177 : List Value := (.int .i64 5) :: (.slice (some ⟨536, 0, (some 0)⟩) 190 190) :: (.int .i64 0) :: (.pointer (some ⟨549, 0, none⟩)) :: (.pointer (some ⟨550, 0, none⟩)) :: (.pointer (some ⟨653, 0, none⟩)) :: (.pointer (some ⟨654, 0, none⟩)) :: (.tuple ⟨[]⟩) :: (.tuple ⟨[]⟩) :: (.tuple ⟨[cv_1, (.int .i64 0)]⟩) :: cv_2 :: (.slice (some ⟨2, 0, none⟩) 2 2) :: (.tuple ⟨[cv_1, (.int .i64 0)]⟩) :: cv_1 :: (.int .i64 0) :: (.int .i64 0) :: (.bool false) :: (.bool false) :: (.pointer (some ⟨87, 165, none⟩)) :: (.slice (some ⟨86, 0, (some 0)⟩) 2 2) :: (.int .i64 2) :: (.bool false) :: (.bool false) :: cv_1 :: cv_8 :: cv_1 :: cv_11 :: cv_1 :: cv_14 :: cv_1 :: cv_17 :: (.pointer (some ⟨88, 0, none⟩)) :: (.pointer (some ⟨88, 2, none⟩)) :: (.pointer (some ⟨89, 165, none⟩)) :: (.slice (some ⟨105, 0, (some 0)⟩) 2 2) :: (.slice (some ⟨105, 0, (some 0)⟩) 1 2) :: (.pointer (some ⟨89, 165, none⟩)) :: (.pointer (some ⟨90, 0, none⟩)) :: (.pointer (some ⟨90, 1, none⟩)) :: (.pointer (some ⟨91, 165, none⟩)) :: cv_24 :: (.int .i64 12) :: (.bool true) :: (.bool true) :: cv_25 :: (.int .i64 12) :: (.bool true) :: (.bool true) :: (.bool true) :: cv_26 :: (.int .i64 3) :: (.bool true) :: (.bool true) :: (.bool true) :: cv_27 :: (.int .i64 6) :: (.bool true) :: (.bool true) :: (.tuple ⟨[cv_28, (.int .i64 6)]⟩) :: cv_2 :: (.tuple ⟨[cv_28, (.int .i64 6)]⟩) :: cv_28 :: (.int .i64 6) :: cv_2 :: (.pointer (some ⟨362, 0, none⟩)) :: (.tuple ⟨[cv_28, (.int .i64 5)]⟩) :: cv_30 :: (.slice (some ⟨363, 0, none⟩) 2 2) :: cl_176
noncomputable def cl_178 : List Value := (.bool false) :: (.pointer (some ⟨87, 0, none⟩)) :: (.int .i64 0) :: (.pointer (some ⟨88, 0, none⟩)) :: (.pointer (some ⟨89, 0, none⟩)) :: (.pointer (some ⟨90, 0, none⟩)) :: (.pointer (some ⟨91, 0, none⟩)) :: (.bool true) :: (.pointer (some ⟨360, 0, none⟩)) :: (.int .i64 6) :: (.pointer (some ⟨362, 0, none⟩)) :: (.pointer (some ⟨407, 0, none⟩)) :: cl_177
noncomputable def cl_179 : List Value := (.bool false) :: (.pointer (some ⟨87, 0, none⟩)) :: (.int .i64 0) :: (.pointer (some ⟨88, 0, none⟩)) :: (.pointer (some ⟨89, 0, none⟩)) :: (.pointer (some ⟨90, 0, none⟩)) :: (.pointer (some ⟨91, 0, none⟩)) :: (.bool true) :: (.pointer (some ⟨360, 0, none⟩)) :: (.int .i64 6) :: (.pointer (some ⟨362, 0, none⟩)) :: (.pointer (some ⟨364, 0, none⟩)) :: cl_177
noncomputable def cl_180 : List Value := (.bool false) :: (.pointer (some ⟨87, 0, none⟩)) :: (.int .i64 0) :: (.pointer (some ⟨88, 0, none⟩)) :: (.pointer (some ⟨89, 0, none⟩)) :: (.pointer (some ⟨90, 0, none⟩)) :: (.pointer (some ⟨91, 0, none⟩)) :: (.bool true) :: (.pointer (some ⟨360, 0, none⟩)) :: (.int .i64 6) :: (.pointer (some ⟨362, 0, none⟩)) :: (.pointer (some ⟨363, 0, none⟩)) :: (.int .i64 5) :: (.slice (some ⟨536, 0, (some 0)⟩) 190 190) :: (.int .i64 0) :: (.pointer (some ⟨549, 0, none⟩)) :: (.pointer (some ⟨550, 0, none⟩)) :: (.pointer (some ⟨653, 0, none⟩)) :: (.pointer (some ⟨654, 0, none⟩)) :: (.tuple ⟨[]⟩) :: (.tuple ⟨[]⟩) :: (.tuple ⟨[cv_1, (.int .i64 0)]⟩) :: cv_2 :: (.slice (some ⟨2, 0, none⟩) 2 2) :: (.tuple ⟨[cv_1, (.int .i64 0)]⟩) :: cv_1 :: (.int .i64 0) :: (.int .i64 0) :: (.bool false) :: (.bool false) :: (.pointer (some ⟨87, 165, none⟩)) :: (.slice (some ⟨86, 0, (some 0)⟩) 2 2) :: (.int .i64 2) :: (.bool false) :: (.bool false) :: cv_1 :: cv_8 :: cv_1 :: cv_11 :: cv_1 :: cv_14 :: cv_1 :: cv_17 :: (.pointer (some ⟨88, 0, none⟩)) :: (.pointer (some ⟨88, 2, none⟩)) :: (.pointer (some ⟨89, 165, none⟩)) :: (.slice (some ⟨105, 0, (some 0)⟩) 2 2) :: (.slice (some ⟨105, 0, (some 0)⟩) 1 2) :: (.pointer (some ⟨89, 165, none⟩)) :: (.pointer (some ⟨90, 0, none⟩)) :: (.pointer (some ⟨90, 1, none⟩)) :: (.pointer (some ⟨91, 165, none⟩)) :: cv_24 :: (.int .i64 12) :: (.bool true) :: (.bool true) :: cv_25 :: (.int .i64 12) :: (.bool true) :: (.bool true) :: (.bool true) :: cv_26 :: (.int .i64 3) :: (.bool true) :: (.bool true) :: (.bool true) :: cv_27 :: (.int .i64 6) :: (.bool true) :: (.bool true) :: (.tuple ⟨[cv_28, (.int .i64 6)]⟩) :: cv_2 :: (.tuple ⟨[cv_28, (.int .i64 6)]⟩) :: cv_28 :: (.int .i64 6) :: cv_2 :: (.pointer (some ⟨362, 0, none⟩)) :: (.tuple ⟨[cv_28, (.int .i64 5)]⟩) :: cv_30 :: (.slice (some ⟨364, 0, none⟩) 2 2) :: cl_176
noncomputable def cl_181 : List Value := (.tuple ⟨[cv_28, (.int .i64 5)]⟩) :: cv_28 :: (.int .i64 5) :: (.tuple ⟨[(.slice (some ⟨536, 0, (some 0)⟩) 190 190), (.int .i64 0)]⟩) :: cv_1 :: (.tuple ⟨[(.slice (some ⟨536, 0, (some 0)⟩) 190 190), (.int .i64 0)]⟩) :: (.slice (some ⟨536, 0, (some 0)⟩) 190 190) :: (.int .i64 0) :: (.tuple ⟨[cv_28, (.agg ⟨[(.int .i64 6), (.int .i64 0)]⟩)]⟩) :: (.tuple ⟨[cv_28, (.agg ⟨[(.int .i64 6), (.int .i64 0)]⟩)]⟩) :: cv_28 :: (.agg ⟨[(.int .i64 6), (.int .i64 0)]⟩) :: (.int .i64 0) :: (.bool false) :: (.bool false) :: (.slice (some ⟨536, 0, (some 0)⟩) 190 190) :: (.int .i64 190) :: (.bool false) :: (.bool false) :: (.tuple ⟨[cv_28, (.agg ⟨[(.int .i64 6), (.int .i64 174)]⟩)]⟩) :: (.slice (some ⟨536, 0, (some 0)⟩) 190 190) :: (.slice (some ⟨536, 0, (some 0)⟩) 190 190) :: (.int .i64 190) :: (.int .i64 189) :: (.slice (some ⟨536, 0, (some 0)⟩) 189 190) :: (.tuple ⟨[cv_28, (.agg ⟨[(.int .i64 6), (.int .i64 174)]⟩)]⟩) :: cv_28 :: (.agg ⟨[(.int .i64 6), (.int .i64 174)]⟩) :: (.tuple ⟨[(.slice (some ⟨685, 0, (some 0)⟩) 14 14), (.int .i64 0)]⟩) :: (.slice (some ⟨655, 0, none⟩) 2 2) :: (.tuple ⟨[(.slice (some ⟨685, 0, (some 0)⟩) 14 14), (.int .i64 0)]⟩) :: (.slice (some ⟨685, 0, (some 0)⟩) 14 14) :: (.int .i64 0) :: rep 44 (.tuple ⟨[]⟩) ([])
noncomputable def cl_182 : List Value := (.int .i64 5) :: (.slice (some ⟨536, 0, (some 0)⟩) 190 190) :: (.int .i64 0) :: (.pointer (some ⟨549, 0, none⟩)) :: (.pointer (some ⟨550, 0, none⟩)) :: (.pointer (some ⟨653, 0, none⟩)) :: (.pointer (some ⟨654, 0, none⟩)) :: (.slice (some ⟨685, 0, (some 0)⟩) 14 14) :: (.int .i64 0) :: (.tuple ⟨[cv_1, (.int .i64 0)]⟩) :: cv_2 :: (.slice (some ⟨2, 0, none⟩) 2 2) :: (.tuple ⟨[cv_1, (.int .i64 0)]⟩) :: cv_1 :: (.int .i64 0) :: (.int .i64 0) :: (.bool false) :: (.bool false) :: (.pointer (some ⟨87, 165, none⟩)) :: (.slice (some ⟨86, 0, (some 0)⟩) 2 2) :: (.int .i64 2) :: (.bool false) :: (.bool false) :: cv_1 :: cv_8 :: cv_1 :: cv_11 :: cv_1 :: cv_14 :: cv_1 :: cv_17 :: (.pointer (some ⟨88, 0, none⟩)) :: (.pointer (some ⟨88, 2, none⟩)) :: (.pointer (some ⟨89, 165, none⟩)) :: (.slice (some ⟨105, 0, (some 0)⟩) 2 2) :: (.slice (some ⟨105, 0, (some 0)⟩) 1 2) :: (.pointer (some ⟨89, 165, none⟩)) :: (.pointer (some ⟨90, 0, none⟩)) :: (.pointer (some ⟨90, 1, none⟩)) :: (.pointer (some ⟨91, 165, none⟩)) :: cv_24 :: (.int .i64 12) :: (.bool true) :: (.bool true) :: cv_25 :: (.int .i64 12) :: (.bool true) :: (.bool true) :: (.bool true) :: cv_26 :: (.int .i64 3) :: (.bool true) :: (.bool true) :: (.bool true) :: cv_27 :: (.int .i64 6) :: (.bool true) :: (.bool true) :: (.tuple ⟨[cv_28, (.int .i64 6)]⟩) :: cv_2 :: (.tuple ⟨[cv_28, (.int .i64 6)]⟩) :: cv_28 :: (.int .i64 6) :: cv_2 :: (.pointer (some ⟨362, 0, none⟩)) :: (.tuple ⟨[cv_28, (.int .i64 5)]⟩) :: cv_30 :: (.slice (some ⟨363, 0, none⟩) 2 2) :: cl_181
noncomputable def cl_183 : List Value := (.bool false) :: (.pointer (some ⟨87, 0, none⟩)) :: (.int .i64 0) :: (.pointer (some ⟨88, 0, none⟩)) :: (.pointer (some ⟨89, 0, none⟩)) :: (.pointer (some ⟨90, 0, none⟩)) :: (.pointer (some ⟨91, 0, none⟩)) :: (.bool true) :: (.pointer (some ⟨360, 0, none⟩)) :: (.int .i64 6) :: (.pointer (some ⟨362, 0, none⟩)) :: (.pointer (some ⟨407, 0, none⟩)) :: cl_182
noncomputable def cl_184 : List Value := (.bool false) :: (.pointer (some ⟨87, 0, none⟩)) :: (.int .i64 0) :: (.pointer (some ⟨88, 0, none⟩)) :: (.pointer (some ⟨89, 0, none⟩)) :: (.pointer (some ⟨90, 0, none⟩)) :: (.pointer (some ⟨91, 0, none⟩)) :: (.bool true) :: (.pointer (some ⟨360, 0, none⟩)) :: (.int .i64 6) :: (.pointer (some ⟨362, 0, none⟩)) :: (.pointer (some ⟨364, 0, none⟩)) :: cl_182
noncomputable def cl_185 : List Value := (.bool false) :: (.pointer (some ⟨87, 0, none⟩)) :: (.int .i64 0) :: (.pointer (some ⟨88, 0, none⟩)) :: (.pointer (some ⟨89, 0, none⟩)) :: (.pointer (some ⟨90, 0, none⟩)) :: (.pointer (some ⟨91, 0, none⟩)) :: (.bool true) :: (.pointer (some ⟨360, 0, none⟩)) :: (.int .i64 6) :: (.pointer (some ⟨362, 0, none⟩)) :: (.pointer (some ⟨363, 0, none⟩)) :: (.int .i64 5) :: (.slice (some ⟨536, 0, (some 0)⟩) 190 190) :: (.int .i64 0) :: (.pointer (some ⟨549, 0, none⟩)) :: (.pointer (some ⟨550, 0, none⟩)) :: (.pointer (some ⟨653, 0, none⟩)) :: (.pointer (some ⟨654, 0, none⟩)) :: (.slice (some ⟨685, 0, (some 0)⟩) 14 14) :: (.int .i64 0) :: (.tuple ⟨[cv_1, (.int .i64 0)]⟩) :: cv_2 :: (.slice (some ⟨2, 0, none⟩) 2 2) :: (.tuple ⟨[cv_1, (.int .i64 0)]⟩) :: cv_1 :: (.int .i64 0) :: (.int .i64 0) :: (.bool false) :: (.bool false) :: (.pointer (some ⟨87, 165, none⟩)) :: (.slice (some ⟨86, 0, (some 0)⟩) 2 2) :: (.int .i64 2) :: (.bool false) :: (.bool false) :: cv_1 :: cv_8 :: cv_1 :: cv_11 :: cv_1 :: cv_14 :: cv_1 :: cv_17 :: (.pointer (some ⟨88, 0, none⟩)) :: (.pointer (some ⟨88, 2, none⟩)) :: (.pointer (some ⟨89, 165, none⟩)) :: (.slice (some ⟨105, 0, (some 0)⟩) 2 2) :: (.slice (some ⟨105, 0, (some 0)⟩) 1 2) :: (.pointer (some ⟨89, 165, none⟩)) :: (.pointer (some ⟨90, 0, none⟩)) :: (.pointer (some ⟨90, 1, none⟩)) :: (.pointer (some ⟨91, 165, none⟩)) :: cv_24 :: (.int .i64 12) :: (.bool true) :: (.bool true) :: cv_25 :: (.int .i64 12) :: (.bool true) :: (.bool true) :: (.bool true) :: cv_26 :: (.int .i64 3) :: (.bool true) :: (.bool true) :: (.bool true) :: cv_27 :: (.int .i64 6) :: (.bool true) :: (.bool true) :: (.tuple ⟨[cv_28, (.int .i64 6)]⟩) :: cv_2 :: (.tuple ⟨[cv_28, (.int .i64 6)]⟩) :: cv_28 :: (.int .i64 6) :: cv_2 :: (.pointer (some ⟨362, 0, none⟩)) :: (.tuple ⟨[cv_28, (.int .i64 5)]⟩) :: cv_30 :: (.slice (some ⟨364, 0, none⟩) 2 2) :: cl_181
noncomputable def cl_186 : List Value := (.tuple ⟨[cv_28, (.int .i64 5)]⟩) :: cv_28 :: (.int .i64 5) :: (.tuple ⟨[(.slice (some ⟨536, 0, (some 0)⟩) 190 190), (.int .i64 0)]⟩) :: cv_1 :: (.tuple ⟨[(.slice (some ⟨536, 0, (some 0)⟩) 190 190), (.int .i64 0)]⟩) :: (.slice (some ⟨536, 0, (some 0)⟩) 190 190) :: (.int .i64 0) :: (.tuple ⟨[cv_28, (.agg ⟨[(.int .i64 6), (.int .i64 0)]⟩)]⟩) :: (.tuple ⟨[cv_28, (.agg ⟨[(.int .i64 6), (.int .i64 0)]⟩)]⟩) :: cv_28 :: (.agg ⟨[(.int .i64 6), (.int .i64 0)]⟩) :: (.int .i64 0) :: (.bool false) :: (.bool false) :: (.slice (some ⟨536, 0, (some 0)⟩) 190 190) :: (.int .i64 190) :: (.bool false) :: (.bool false) :: (.tuple ⟨[cv_28, (.agg ⟨[(.int .i64 6), (.int .i64 174)]⟩)]⟩) :: (.slice (some ⟨536, 0, (some 0)⟩) 190 190) :: (.slice (some ⟨536, 0, (some 0)⟩) 190 190) :: (.int .i64 190) :: (.int .i64 189) :: (.slice (some ⟨536, 0, (some 0)⟩) 189 190) :: (.tuple ⟨[cv_28, (.agg ⟨[(.int .i64 6), (.int .i64 174)]⟩)]⟩) :: cv_28 :: (.agg ⟨[(.int .i64 6), (.int .i64 174)]⟩) :: (.tuple ⟨[(.slice (some ⟨685, 0, (some 0)⟩) 14 14), (.int .i64 0)]⟩) :: (.slice (some ⟨655, 0, none⟩) 2 2) :: (.tuple ⟨[(.slice (some ⟨685, 0, (some 0)⟩) 14 14), (.int .i64 0)]⟩) :: (.slice (some ⟨685, 0, (some 0)⟩) 14 14) :: (.int .i64 0) :: (.bool true) :: (.bool true) :: (.bool true) :: (.bool true) :: (.bool true) :: (.int .i64 6) :: (.bool true) :: (.bool true) :: (.bool true) :: (.int .i64 5) :: (.bool true) :: (.bool true) :: (.bool true) :: cv_1 :: cv_1 :: (.bool true) :: (.bool true) :: (.bool true) :: cv_1 :: cv_1 :: cv_33 :: (.bool false) :: (.bool true) :: (.bool true) :: (.bool true) :: (.agg ⟨[(.int .i64 6), (.int .i64 0)]⟩) :: (.agg ⟨[(.int .i64 6), (.int .i64 0)]⟩) :: (.bool true) :: (.bool true) :: (.bool true) :: (.int .i64 0) :: (.bool true) :: (.bool true) :: (.bool true) :: (.agg ⟨[(.int .i64 6), (.int .i64 174)]⟩) :: (.slice (some ⟨536, 0, (some 0)⟩) 190 190) :: (.int .i64 190) :: (.slice (some ⟨685, 0, (some 0)⟩) 14 14) :: (.int .i64 14) :: (.int .i64 176) :: (.int .i64 174) :: (.agg ⟨[(.int .i64 6), (.int .i64 174)]⟩) :: (.bool true) :: (.bool true) :: []
noncomputable def cl_187 : List Value := (.int .i64 5) :: (.slice (some ⟨536, 0, (some 0)⟩) 190 190) :: (.int .i64 0) :: (.pointer (some ⟨549, 0, none⟩)) :: (.pointer (some ⟨550, 0, none⟩)) :: (.pointer (some ⟨653, 0, none⟩)) :: (.pointer (some ⟨654, 0, none⟩)) :: (.slice (some ⟨685, 0, (some 0)⟩) 14 14) :: (.int .i64 0) :: (.tuple ⟨[cv_1, (.int .i64 0)]⟩) :: cv_2 :: (.slice (some ⟨2, 0, none⟩) 2 2) :: (.tuple ⟨[cv_1, (.int .i64 0)]⟩) :: cv_1 :: (.int .i64 0) :: (.int .i64 0) :: (.bool false) :: (.bool false) :: (.pointer (some ⟨87, 165, none⟩)) :: (.slice (some ⟨86, 0, (some 0)⟩) 2 2) :: (.int .i64 2) :: (.bool false) :: (.bool false) :: cv_1 :: cv_8 :: cv_1 :: cv_11 :: cv_1 :: cv_14 :: cv_1 :: cv_17 :: (.pointer (some ⟨88, 0, none⟩)) :: (.pointer (some ⟨88, 2, none⟩)) :: (.pointer (some ⟨89, 165, none⟩)) :: (.slice (some ⟨105, 0, (some 0)⟩) 2 2) :: (.slice (some ⟨105, 0, (some 0)⟩) 1 2) :: (.pointer (some ⟨89, 165, none⟩)) :: (.pointer (some ⟨90, 0, none⟩)) :: (.pointer (some ⟨90, 1, none⟩)) :: (.pointer (some ⟨91, 165, none⟩)) :: cv_24 :: (.int .i64 12) :: (.bool true) :: (.bool true) :: cv_25 :: (.int .i64 12) :: (.bool true) :: (.bool true) :: (.bool true) :: cv_26 :: (.int .i64 3) :: (.bool true) :: (.bool true) :: (.bool true) :: cv_27 :: (.int .i64 6) :: (.bool true) :: (.bool true) :: (.tuple ⟨[cv_28, (.int .i64 6)]⟩) :: cv_2 :: (.tuple ⟨[cv_28, (.int .i64 6)]⟩) :: cv_28 :: (.int .i64 6) :: cv_2 :: (.pointer (some ⟨362, 0, none⟩)) :: (.tuple ⟨[cv_28, (.int .i64 5)]⟩) :: cv_30 :: (.slice (some ⟨363, 0, none⟩) 2 2) :: cl_186
noncomputable def cl_188 : List Value := (.bool true) :: (.pointer (some ⟨87, 0, none⟩)) :: (.int .i64 0) :: (.pointer (some ⟨88, 0, none⟩)) :: (.pointer (some ⟨89, 0, none⟩)) :: (.pointer (some ⟨90, 0, none⟩)) :: (.pointer (some ⟨91, 0, none⟩)) :: (.bool true) :: (.pointer (some ⟨360, 0, none⟩)) :: (.int .i64 6) :: (.pointer (some ⟨362, 0, none⟩)) :: (.pointer (some ⟨407, 0, none⟩)) :: cl_187
noncomputable def cl_189 : List Value := (.bool true) :: (.pointer (some ⟨87, 0, none⟩)) :: (.int .i64 0) :: (.pointer (some ⟨88, 0, none⟩)) :: (.pointer (some ⟨89, 0, none⟩)) :: (.pointer (some ⟨90, 0, none⟩)) :: (.pointer (some ⟨91, 0, none⟩)) :: (.bool true) :: (.pointer (some ⟨360, 0, none⟩)) :: (.int .i64 6) :: (.pointer (some ⟨362, 0, none⟩)) :: (.pointer (some ⟨364, 0, none⟩)) :: cl_187
noncomputable def cl_190 : List Value := (.bool true) :: (.pointer (some ⟨87, 0, none⟩)) :: (.int .i64 0) :: (.pointer (some ⟨88, 0, none⟩)) :: (.pointer (some ⟨89, 0, none⟩)) :: (.pointer (some ⟨90, 0, none⟩)) :: (.pointer (some ⟨91, 0, none⟩)) :: (.bool true) :: (.pointer (some ⟨360, 0, none⟩)) :: (.int .i64 6) :: (.pointer (some ⟨362, 0, none⟩)) :: (.pointer (some ⟨363, 0, none⟩)) :: (.int .i64 5) :: (.slice (some ⟨536, 0, (some 0)⟩) 190 190) :: (.int .i64 0) :: (.pointer (some ⟨549, 0, none⟩)) :: (.pointer (some ⟨550, 0, none⟩)) :: (.pointer (some ⟨653, 0, none⟩)) :: (.pointer (some ⟨654, 0, none⟩)) :: (.slice (some ⟨685, 0, (some 0)⟩) 14 14) :: (.int .i64 0) :: (.tuple ⟨[cv_1, (.int .i64 0)]⟩) :: cv_2 :: (.slice (some ⟨2, 0, none⟩) 2 2) :: (.tuple ⟨[cv_1, (.int .i64 0)]⟩) :: cv_1 :: (.int .i64 0) :: (.int .i64 0) :: (.bool false) :: (.bool false) :: (.pointer (some ⟨87, 165, none⟩)) :: (.slice (some ⟨86, 0, (some 0)⟩) 2 2) :: (.int .i64 2) :: (.bool false) :: (.bool false) :: cv_1 :: cv_8 :: cv_1 :: cv_11 :: cv_1 :: cv_14 :: cv_1 :: cv_17 :: (.pointer (some ⟨88, 0, none⟩)) :: (.pointer (some ⟨88, 2, none⟩)) :: (.pointer (some ⟨89, 165, none⟩)) :: (.slice (some ⟨105, 0, (some 0)⟩) 2 2) :: (.slice (some ⟨105, 0, (some 0)⟩) 1 2) :: (.pointer (some ⟨89, 165, none⟩)) :: (.pointer (some ⟨90, 0, none⟩)) :: (.pointer (some ⟨90, 1, none⟩)) :: (.pointer (some ⟨91, 165, none⟩)) :: cv_24 :: (.int .i64 12) :: (.bool true) :: (.bool true) :: cv_25 :: (.int .i64 12) :: (.bool true) :: (.bool true) :: (.bool true) :: cv_26 :: (.int .i64 3) :: (.bool true) :: (.bool true) :: (.bool true) :: cv_27 :: (.int .i64 6) :: (.bool true) :: (.bool true) :: (.tuple ⟨[cv_28, (.int .i64 6)]⟩) :: cv_2 :: (.tuple ⟨[cv_28, (.int .i64 6)]⟩) :: cv_28 :: (.int .i64 6) :: cv_2 :: (.pointer (some ⟨362, 0, none⟩)) :: (.tuple ⟨[cv_28, (.int .i64 5)]⟩) :: cv_30 :: (.slice (some ⟨364, 0, none⟩) 2 2) :: cl_186
noncomputable def cs_S0_0 : St := ⟨cl_1, [], ⟨1, ct_1⟩, none⟩
noncomputable def cs_S1_0 : St := ⟨cl_2, [], ⟨1, ct_1⟩, none⟩
noncomputable def cs_S2_0 : St := ⟨cl_3, [], ⟨88, ct_12⟩, none⟩
noncomputable def cs_S3_0 : St := ⟨cl_4, [], ⟨88, ct_12⟩, none⟩
noncomputable def cs_L0_ : St := ⟨cl_9, [], ⟨92, (.node .dead ct_19 ct_23)⟩, none⟩
noncomputable def cs_L1_11 : St := ⟨cl_13, [], ⟨92, (.node .dead ct_29 ct_23)⟩, none⟩
noncomputable def cs_L1_10 : St := ⟨cl_16, [], ⟨92, (.node .dead ct_19 ct_31)⟩, none⟩
noncomputable def cs_L1_9 : St := ⟨cl_18, [], ⟨92, (.node .dead ct_33 ct_23)⟩, none⟩
noncomputable def cs_L1_8 : St := ⟨cl_19, [], ⟨92, (.node .dead ct_19 ct_34)⟩, none⟩
noncomputable def cs_L1_1 : St := ⟨cl_21, [], ⟨99, (.node .dead ct_47 ct_55)⟩, none⟩
noncomputable def cs_L2_1_3 : St := ⟨cl_23, [], ⟨106, (.node .dead ct_68 ct_75)⟩, none⟩
noncomputable def cs_L2_1_8 : St := ⟨cl_24, [], ⟨99, (.node .dead ct_47 ct_77)⟩, none⟩
noncomputable def cs_L2_8_9 : St := ⟨cl_25, [], ⟨92, (.node .dead ct_33 ct_34)⟩, none⟩
noncomputable def cs_L2_1_9 : St := ⟨cl_27, [], ⟨99, (.node .dead ct_78 ct_55)⟩, none⟩
noncomputable def cs_L2_9_10 : St := ⟨cl_29, [], ⟨92, (.node .dead ct_33 ct_31)⟩, none⟩
noncomputable def cs_L2_8_10 : St := ⟨cl_30, [], ⟨92, (.node .dead ct_19 ct_79)⟩, none⟩
noncomputable def cs_L2_1_10 : St := ⟨cl_33, [], ⟨99, (.node .dead ct_47 ct_82)⟩, none⟩
noncomputable def cs_L2_10_11 : St := ⟨cl_36, [], ⟨92, (.node .dead ct_29 ct_31)⟩, none⟩
noncomputable def cs_L2_9_11 : St := ⟨cl_38, [], ⟨92, (.node .dead ct_83 ct_23)⟩, none⟩
noncomputable def cs_L2_8_11 : St := ⟨cl_39, [], ⟨92, (.node .dead ct_29 ct_34)⟩, none⟩
noncomputable def cs_L2_1_11 : St := ⟨cl_43, [], ⟨99, (.node .dead ct_85 ct_55)⟩, none⟩
noncomputable def cs_L3_1_10_11 : St := ⟨cl_46, [], ⟨99, (.node .dead ct_85 ct_82)⟩, none⟩
noncomputable def cs_L3_8_10_11 : St := ⟨cl_47, [], ⟨92, (.node .dead ct_29 ct_79)⟩, none⟩
noncomputable def cs_L3_9_10_11 : St := ⟨cl_49, [], ⟨92, (.node .dead ct_83 ct_31)⟩, none⟩
noncomputable def cs_L3_1_9_11 : St := ⟨cl_51, [], ⟨99, (.node .dead ct_86 ct_55)⟩, none⟩
noncomputable def cs_L3_1_9_10 : St := ⟨cl_53, [], ⟨99, (.node .dead ct_78 ct_82)⟩, none⟩
noncomputable def cs_L3_8_9_11 : St := ⟨cl_54, [], ⟨92, (.node .dead ct_83 ct_34)⟩, none⟩
noncomputable def cs_L3_8_9_10 : St := ⟨cl_55, [], ⟨92, (.node .dead ct_33 ct_79)⟩, none⟩
noncomputable def cs_L3_1_8_11 : St := ⟨cl_56, [], ⟨99, (.node .dead ct_85 ct_77)⟩, none⟩
noncomputable def cs_L3_1_8_10 : St := ⟨cl_57, [], ⟨99, (.node .dead ct_47 ct_87)⟩, none⟩
noncomputable def cs_L3_1_8_9 : St := ⟨cl_58, [], ⟨99, (.node .dead ct_78 ct_77)⟩, none⟩
noncomputable def cs_L3_1_3_11 : St := ⟨cl_62, [], ⟨106, (.node .dead ct_89 ct_75)⟩, none⟩
noncomputable def cs_L3_1_3_10 : St := ⟨cl_65, [], ⟨106, (.node .dead ct_68 ct_91)⟩, none⟩
noncomputable def cs_L3_1_3_9 : St := ⟨cl_67, [], ⟨106, (.node .dead ct_95 ct_75)⟩, none⟩
noncomputable def cs_L3_1_3_8 : St := ⟨cl_68, [], ⟨106, (.node .dead ct_68 ct_98)⟩, none⟩
noncomputable def cs_L3_1_3_5 : St := ⟨cl_70, [], ⟨113, (.node .dead ct_108 ct_116)⟩, none⟩
noncomputable def cs_L4_1_3_5_7 : St := ⟨cl_72, [], ⟨120, (.node .dead ct_125 ct_131)⟩, none⟩
noncomputable def cs_L4_1_3_5_8 : St := ⟨cl_73, [], ⟨113, (.node .dead ct_108 ct_134)⟩, none⟩
noncomputable def cs_L4_1_3_5_9 : St := ⟨cl_75, [], ⟨113, (.node .dead ct_136 ct_116)⟩, none⟩
noncomputable def cs_L4_1_3_5_10 : St := ⟨cl_78, [], ⟨113, (.node .dead ct_108 ct_139)⟩, none⟩
noncomputable def cs_L4_1_3_5_11 : St := ⟨cl_82, [], ⟨113, (.node .dead ct_141 ct_116)⟩, none⟩
noncomputable def cs_L4_1_3_8_9 : St := ⟨cl_83, [], ⟨106, (.node .dead ct_95 ct_98)⟩, none⟩
noncomputable def cs_L4_1_3_8_10 : St := ⟨cl_84, [], ⟨106, (.node .dead ct_68 ct_142)⟩, none⟩
noncomputable def cs_L4_1_3_8_11 : St := ⟨cl_85, [], ⟨106, (.node .dead ct_89 ct_98)⟩, none⟩
noncomputable def cs_L4_1_8_9_10 : St := ⟨cl_86, [], ⟨99, (.node .dead ct_78 ct_87)⟩, none⟩
noncomputable def cs_L4_1_3_9_10 : St := ⟨cl_88, [], ⟨106, (.node .dead ct_95 ct_91)⟩, none⟩
noncomputable def cs_L4_1_8_9_11 : St := ⟨cl_89, [], ⟨99, (.node .dead ct_86 ct_77)⟩, none⟩
noncomputable def cs_L4_1_3_9_11 : St := ⟨cl_91, [], ⟨106, (.node .dead ct_143 ct_75)⟩, none⟩
noncomputable def cs_L4_8_9_10_11 : St := ⟨cl_92, [], ⟨92, (.node .dead ct_83 ct_79)⟩, none⟩
noncomputable def cs_L4_1_9_10_11 : St := ⟨cl_94, [], ⟨99, (.node .dead ct_86 ct_82)⟩, none⟩
noncomputable def cs_L4_1_8_10_11 : St := ⟨cl_95, [], ⟨99, (.node .dead ct_85 ct_87)⟩, none⟩
noncomputable def cs_L4_1_3_10_11 : St := ⟨cl_98, [], ⟨106, (.node .dead ct_89 ct_91)⟩, none⟩
noncomputable def cs_L5_1_3_9_10_11 : St := ⟨cl_100, [], ⟨106, (.node .dead ct_143 ct_91)⟩, none⟩
noncomputable def cs_L5_1_8_9_10_11 : St := ⟨cl_101, [], ⟨99, (.node .dead ct_86 ct_87)⟩, none⟩
noncomputable def cs_L5_1_3_8_10_11 : St := ⟨cl_102, [], ⟨106, (.node .dead ct_89 ct_142)⟩, none⟩
noncomputable def cs_L5_1_3_8_9_11 : St := ⟨cl_103, [], ⟨106, (.node .dead ct_143 ct_98)⟩, none⟩
noncomputable def cs_L5_1_3_8_9_10 : St := ⟨cl_104, [], ⟨106, (.node .dead ct_95 ct_142)⟩, none⟩
noncomputable def cs_L5_1_3_5_10_11 : St := ⟨cl_107, [], ⟨113, (.node .dead ct_141 ct_139)⟩, none⟩
noncomputable def cs_L5_1_3_5_9_11 : St := ⟨cl_109, [], ⟨113, (.node .dead ct_144 ct_116)⟩, none⟩
noncomputable def cs_L5_1_3_5_9_10 : St := ⟨cl_111, [], ⟨113, (.node .dead ct_136 ct_139)⟩, none⟩
noncomputable def cs_L5_1_3_5_8_11 : St := ⟨cl_112, [], ⟨113, (.node .dead ct_141 ct_134)⟩, none⟩
noncomputable def cs_L5_1_3_5_8_10 : St := ⟨cl_113, [], ⟨113, (.node .dead ct_108 ct_145)⟩, none⟩
noncomputable def cs_L5_1_3_5_8_9 : St := ⟨cl_114, [], ⟨113, (.node .dead ct_136 ct_134)⟩, none⟩
noncomputable def cs_L5_1_3_5_7_11 : St := ⟨cl_118, [], ⟨120, (.node .dead ct_147 ct_131)⟩, none⟩
noncomputable def cs_L5_1_3_5_7_10 : St := ⟨cl_121, [], ⟨120, (.node .dead ct_125 ct_149)⟩, none⟩
noncomputable def cs_L5_1_3_5_7_9 : St := ⟨cl_123, [], ⟨120, (.node .dead ct_151 ct_131)⟩, none⟩
noncomputable def cs_L5_1_3_5_7_8 : St := ⟨cl_124, [], ⟨120, (.node .dead ct_125 ct_153)⟩, none⟩
noncomputable def cs_L6_1_3_5_7_8_9 : St := ⟨cl_125, [], ⟨120, (.node .dead ct_151 ct_153)⟩, none⟩
noncomputable def cs_L6_1_3_5_7_8_10 : St := ⟨cl_126, [], ⟨120, (.node .dead ct_125 ct_154)⟩, none⟩
noncomputable def cs_L6_1_3_5_7_8_11 : St := ⟨cl_127, [], ⟨120, (.node .dead ct_147 ct_153)⟩, none⟩
noncomputable def cs_L6_1_3_5_7_9_10 : St := ⟨cl_129, [], ⟨120, (.node .dead ct_151 ct_149)⟩, none⟩
noncomputable def cs_L6_1_3_5_7_9_11 : St := ⟨cl_131, [], ⟨120, (.node .dead ct_155 ct_131)⟩, none⟩
noncomputable def cs_L6_1_3_5_7_10_11 : St := ⟨cl_134, [], ⟨120, (.node .dead ct_147 ct_149)⟩, none⟩
noncomputable def cs_L6_1_3_5_8_9_10 : St := ⟨cl_135, [], ⟨113, (.node .dead ct_136 ct_145)⟩, none⟩
noncomputable def cs_L6_1_3_5_8_9_11 : St := ⟨cl_136, [], ⟨113, (.node .dead ct_144 ct_134)⟩, none⟩
noncomputable def cs_L6_1_3_5_8_10_11 : St := ⟨cl_137, [], ⟨113, (.node .dead ct_141 ct_145)⟩, none⟩
noncomputable def cs_L6_1_3_8_9_10_11 : St := ⟨cl_138, [], ⟨106, (.node .dead ct_143 ct_142)⟩, none⟩
noncomputable def cs_L6_1_3_5_9_10_11 : St := ⟨cl_140, [], ⟨113, (.node .dead ct_144 ct_139)⟩, none⟩
noncomputable def cs_L7_1_3_5_8_9_10_11 : St := ⟨cl_141, [], ⟨113, (.node .dead ct_144 ct_145)⟩, none⟩
noncomputable def cs_L7_1_3_5_7_9_10_11 : St := ⟨cl_143, [], ⟨120, (.node .dead ct_155 ct_149)⟩, none⟩
noncomputable def cs_L7_1_3_5_7_8_10_11 : St := ⟨cl_144, [], ⟨120, (.node .dead ct_147 ct_154)⟩, none⟩
noncomputable def cs_L7_1_3_5_7_8_9_11 : St := ⟨cl_145, [], ⟨120, (.node .dead ct_155 ct_153)⟩, none⟩
noncomputable def cs_L7_1_3_5_7_8_9_10 : St := ⟨cl_146, [], ⟨120, (.node .dead ct_151 ct_154)⟩, none⟩
noncomputable def cs_L8_1_3_5_7_8_9_10_11 : St := ⟨cl_147, [], ⟨120, (.node .dead ct_155 ct_154)⟩, none⟩
noncomputable def cs_L9_1_3_5_7_8_9_10_11_12 : St := ⟨cl_147, [], ⟨120, (.node .dead ct_155 ct_157)⟩, none⟩
noncomputable def cs_L10_1_3_5_7_8_9_10_11_12_13 : St := ⟨cl_147, [], ⟨120, (.node .dead ct_159 ct_157)⟩, none⟩
noncomputable def cs_L11_1_3_5_7_8_9_10_11_12_13_14 : St := ⟨cl_147, [], ⟨120, (.node .dead ct_159 ct_161)⟩, none⟩
noncomputable def cs_L12_1_3_5_7_8_9_10_11_12_13_14_15 : St := ⟨cl_147, [], ⟨120, ct_164⟩, none⟩
noncomputable def cs_S5_0 : St := ⟨cl_148, [], ⟨120, (.node .dead ct_163 ct_166)⟩, none⟩
noncomputable def cs_S6_0 : St := ⟨cl_149, [], ⟨120, (.node .dead ct_168 ct_166)⟩, none⟩
noncomputable def cs_S7_0 : St := ⟨cl_150, [], ⟨120, (.node .dead ct_168 ct_169)⟩, none⟩
noncomputable def cs_S8_0 : St := ⟨cl_151, [], ⟨120, (.node .dead (.node .dead (.node .dead ct_117 (.node .dead ct_118 (.node .dead ct_102 (.node .dead (.node co_23 .nil .nil) .nil)))) ct_167) ct_169)⟩, none⟩
noncomputable def cs_S9_0 : St := ⟨cl_152, [], ⟨355, (.node .dead (.node .dead (.node .dead (.node .dead ct_173 (.node .dead ct_172 ct_175)) (.node .dead ct_177 ct_180)) (.node .dead ct_188 (.node .dead (.node .dead ct_189 ct_172) ct_191))) (.node co_5 (.node .dead (.node .dead ct_192 (.node .dead ct_172 ct_194)) (.node .dead ct_177 ct_191)) (.node .dead ct_199 (.node .dead (.node .dead ct_189 ct_200) ct_201))))⟩, none⟩
noncomputable def cs_S10_0 : St := ⟨cl_153, [], ⟨361, (.node .dead (.node .dead ct_205 (.node .dead ct_188 ct_208)) (.node co_5 ct_211 (.node .dead ct_199 ct_212)))⟩, none⟩
noncomputable def cs_S11_0 : St := ⟨cl_154, [], ⟨363, (.node .dead ct_214 (.node co_5 ct_211 (.node .dead (.node .dead ct_196 (.node .dead (.node .dead ct_3 (.node co_15 ct_2 ct_203)) ct_198)) ct_212)))⟩, none⟩
noncomputable def cs_S12_0 : St := ⟨cl_155, [], ⟨363, (.node .dead ct_214 (.node co_5 ct_211 (.node .dead (.node .dead ct_196 (.node .dead (.node .dead ct_3 ct_216) ct_198)) ct_212)))⟩, none⟩
noncomputable def cs_S13_0 : St := ⟨cl_158, [], ⟨408, (.node .dead (.node .dead (.node .dead (.node .dead ct_220 (.node .dead ct_219 (.node .dead (.node co_4 (.node .dead ct_1 ct_24) ct_2) ct_195))) ct_226) ct_231) (.node co_5 (.node .dead ct_233 (.node .dead ct_234 ct_230)) ct_235))⟩, none⟩
noncomputable def cs_S13_1 : St := ⟨cl_159, [], ⟨408, (.node .dead (.node .dead (.node .dead ct_236 ct_226) ct_231) (.node co_5 (.node .dead ct_233 (.node .dead ct_234 (.node .dead (.node .dead ct_218 (.node co_16 ct_2 ct_25)) ct_229))) ct_235))⟩, none⟩
noncomputable def cs_S13_2 : St := ⟨cl_160, [], ⟨408, (.node .dead (.node .dead (.node .dead ct_236 (.node .dead ct_222 (.node .dead (.node .dead ct_218 (.node co_15 ct_2 ct_25)) ct_225))) ct_231) (.node co_5 (.node .dead ct_233 (.node .dead ct_234 (.node .dead (.node .dead ct_218 (.node co_16 ct_2 ct_224)) ct_229))) ct_235))⟩, none⟩
noncomputable def cs_S14_0 : St := ⟨cl_163, [], ⟨537, (.node .dead (.node .dead (.node .dead (.node .dead ct_241 ct_244) ct_252) ct_259) (.node co_5 (.node .dead ct_265 (.node .dead ct_266 ct_258)) ct_270))⟩, none⟩
noncomputable def cs_S14_1 : St := ⟨cl_164, [], ⟨537, (.node .dead (.node .dead (.node .dead ct_272 ct_252) ct_259) (.node co_5 (.node .dead ct_265 (.node .dead ct_266 (.node .dead ct_273 ct_257))) ct_270))⟩, none⟩
noncomputable def cs_S14_2 : St := ⟨cl_165, [], ⟨537, (.node .dead (.node .dead (.node .dead ct_272 (.node .dead ct_247 (.node .dead ct_274 ct_251))) ct_259) (.node co_5 (.node .dead ct_265 (.node .dead ct_266 (.node .dead ct_275 ct_257))) ct_270))⟩, none⟩
noncomputable def cs_S15_0 : St := ⟨cl_168, [], ⟨551, ct_291⟩, none⟩
noncomputable def cs_S15_1 : St := ⟨cl_169, [], ⟨551, ct_293⟩, none⟩
noncomputable def cs_S15_2 : St := ⟨cl_170, [], ⟨551, ct_294⟩, none⟩
noncomputable def cs_S16_0 : St := ⟨cl_173, [], ⟨551, ct_291⟩, none⟩
noncomputable def cs_S16_1 : St := ⟨cl_174, [], ⟨551, ct_293⟩, none⟩
noncomputable def cs_S16_2 : St := ⟨cl_175, [], ⟨551, ct_294⟩, none⟩
noncomputable def cs_S17_0 : St := ⟨cl_178, [], ⟨655, (.node .dead (.node .dead (.node .dead (.node .dead ct_299 (.node .dead ct_300 (.node .dead (.node co_4 ct_242 ct_6) ct_301))) ct_310) ct_316) (.node co_5 (.node .dead ct_319 (.node .dead ct_320 (.node .dead (.node .dead ct_7 ct_314) ct_315))) ct_324))⟩, none⟩
noncomputable def cs_S17_1 : St := ⟨cl_179, [], ⟨655, (.node .dead (.node .dead (.node .dead ct_325 ct_310) ct_316) (.node co_5 (.node .dead ct_319 (.node .dead ct_320 (.node .dead (.node .dead ct_7 (.node co_16 ct_6 ct_318)) ct_315))) ct_324))⟩, none⟩
noncomputable def cs_S17_2 : St := ⟨cl_180, [], ⟨655, (.node .dead (.node .dead (.node .dead ct_325 (.node .dead ct_306 (.node .dead (.node .dead ct_7 (.node co_15 ct_6 ct_318)) ct_309))) ct_316) (.node co_5 (.node .dead ct_319 (.node .dead ct_320 (.node .dead (.node .dead ct_7 (.node co_16 ct_6 ct_308)) ct_315))) ct_324))⟩, none⟩
noncomputable def cs_S18_0 : St := ⟨cl_183, [], ⟨686, (.node .dead (.node .dead (.node .dead (.node .dead ct_327 (.node .dead ct_328 (.node .dead (.node co_4 (.node .dead ct_2 ct_317) ct_6) ct_301))) ct_332) ct_335) (.node co_5 (.node .dead ct_336 (.node .dead ct_337 (.node .dead (.node .dead ct_7 (.node co_16 ct_3 ct_6)) ct_334))) ct_339))⟩, none⟩
noncomputable def cs_S18_1 : St := ⟨cl_184, [], ⟨686, (.node .dead (.node .dead (.node .dead ct_340 ct_332) ct_335) (.node co_5 (.node .dead ct_336 (.node .dead ct_337 (.node .dead (.node .dead ct_7 (.node co_16 ct_3 ct_318)) ct_334))) ct_339))⟩, none⟩
noncomputable def cs_S18_2 : St := ⟨cl_185, [], ⟨686, (.node .dead (.node .dead (.node .dead ct_340 (.node .dead ct_330 (.node .dead (.node .dead ct_7 (.node co_15 ct_3 ct_318)) ct_331))) ct_335) (.node co_5 (.node .dead ct_336 (.node .dead ct_337 (.node .dead (.node .dead ct_7 (.node co_16 ct_3 ct_308)) ct_334))) ct_339))⟩, none⟩
noncomputable def cs_S19_0 : St := ⟨cl_188, [], ⟨1536, ct_385⟩, none⟩
noncomputable def cs_S19_1 : St := ⟨cl_189, [], ⟨1536, ct_387⟩, none⟩
noncomputable def cs_S19_2 : St := ⟨cl_190, [], ⟨1536, ct_388⟩, none⟩
end Go.Proofs.YtbmpalbdbcjieaaGreat.R
