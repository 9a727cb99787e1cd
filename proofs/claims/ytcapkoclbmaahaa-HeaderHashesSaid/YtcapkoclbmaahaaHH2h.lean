/- The law HeaderHashes. -/
import Derived.Test.YtcapkoclbmaahaaHH1h
import Derived.Test.YtcapkoclbmaahaaVK
namespace Go.Proofs.Ytcapkoclbmaahaa.A
open Go Go.Vm
set_option maxRecDepth 10000
set_option linter.unusedVariables false
set_option linter.unusedSimpArgs false

/-- a header's bytes tell it -/
theorem encS_inj {x y : Hd} (hx : x.ok) (hy : y.ok) (cx : checkS x = 0) (cy : checkS y = 0) (h : encS x = encS y) : x = y := by
  obtain ⟨c1, c2, c3⟩ := checkS_ok cx
  obtain ⟨d1, d2, d3⟩ := checkS_ok cy
  have l1 := nameS_len c1
  have l2 := nameS_len d1
  have ex : ∀ z : Hd, encS z = [] ++ (numF z.chain.length ++ (z.chain ++ (numF z.height.toNat ++ (numF z.time.toNat ++ (z.prev ++ (z.vals ++ (z.next ++ (z.app ++ [])))))))) := fun z => by simp [encS]
  rw [ex x, ex y] at h
  have e1 : bytesS ([] ++ (numF x.chain.length ++ (x.chain ++ (numF x.height.toNat ++ (numF x.time.toNat ++ (x.prev ++ (x.vals ++ (x.next ++ (x.app ++ []))))))))) 32 0 = _ := bytesS_back (a := []) (l := x.chain) (b := numF x.height.toNat ++ (numF x.time.toNat ++ (x.prev ++ (x.vals ++ (x.next ++ (x.app ++ [])))))) (most := 32) l1.2.1 (by omega)
  have e2 : bytesS ([] ++ (numF y.chain.length ++ (y.chain ++ (numF y.height.toNat ++ (numF y.time.toNat ++ (y.prev ++ (y.vals ++ (y.next ++ (y.app ++ []))))))))) 32 0 = _ := bytesS_back (a := []) (l := y.chain) (b := numF y.height.toNat ++ (numF y.time.toNat ++ (y.prev ++ (y.vals ++ (y.next ++ (y.app ++ [])))))) (most := 32) l2.2.1 (by omega)
  rw [h, e2] at e1
  have hc : x.chain = y.chain := by
    have := Except.ok.inj e1
    exact (Prod.mk.inj this).1.symm
  rw [List.nil_append, List.nil_append, hc] at h
  have h := List.append_cancel_left (List.append_cancel_left h)
  have n1 : numS ([] ++ (numF x.height.toNat ++ (numF x.time.toNat ++ (x.prev ++ (x.vals ++ (x.next ++ (x.app ++ []))))))) 0 = _ := numS_back (a := []) (by omega)
  have n2 : numS ([] ++ (numF y.height.toNat ++ (numF y.time.toNat ++ (y.prev ++ (y.vals ++ (y.next ++ (y.app ++ []))))))) 0 = _ := numS_back (a := []) (by omega)
  rw [h, n2] at n1
  have hh : x.height.toNat = y.height.toNat := (Prod.mk.inj (Except.ok.inj n1)).1.symm
  rw [hh] at h
  have h := List.append_cancel_left h
  have m1 : numS ([] ++ (numF x.time.toNat ++ (x.prev ++ (x.vals ++ (x.next ++ (x.app ++ [])))))) 0 = _ := numS_back (a := []) (by omega)
  have m2 : numS ([] ++ (numF y.time.toNat ++ (y.prev ++ (y.vals ++ (y.next ++ (y.app ++ [])))))) 0 = _ := numS_back (a := []) (by omega)
  rw [h, m2] at m1
  have ht : x.time.toNat = y.time.toNat := (Prod.mk.inj (Except.ok.inj m1)).1.symm
  rw [ht] at h
  have h := List.append_cancel_left h
  obtain ⟨p1, p2⟩ := List.append_inj h (by rw [hx.prev, hy.prev])
  obtain ⟨q1, q2⟩ := List.append_inj p2 (by rw [hx.vals, hy.vals])
  obtain ⟨r1, r2⟩ := List.append_inj q2 (by rw [hx.next, hy.next])
  obtain ⟨s1, _⟩ := List.append_inj r2 (by rw [hx.app, hy.app])
  cases x; cases y
  simp only at hc p1 q1 r1 s1 c2 c3 d2 d3 hh ht ⊢
  congr 1
  · omega
  · omega

theorem cells_inj {x y : Hd} (hx : x.ok) (hy : y.ok) (h : x.cells = y.cells) : x = y := by
  have bi : ∀ {l m : List UInt8}, bcells l = bcells m → l = m := by
    intro l
    induction l with
    | nil => intro m h; cases m with
      | nil => rfl
      | cons => simp [bcells] at h
    | cons a l ih => intro m h; cases m with
      | nil => simp [bcells] at h
      | cons b m =>
        simp only [bcells, List.map_cons, List.cons.injEq, Value.int.injEq] at h
        have h1 : a = b := UInt8.toNat_inj.1 (by have := h.1.2; omega)
        rw [h1, ih h.2]
  cases x; cases y
  have h : _ :: _ :: _ :: _ = _ :: _ :: _ :: _ := h
  simp only [List.cons.injEq, Value.string.injEq, Value.int.injEq, ByteArray.mk.injEq, Array.mk.injEq] at h
  obtain ⟨h1, ⟨_, h2⟩, ⟨_, h3⟩, h4⟩ := h
  obtain ⟨p1, p2⟩ := List.append_inj h4 (by rw [bcells_len, bcells_len, hx.prev, hy.prev])
  obtain ⟨q1, q2⟩ := List.append_inj p2 (by rw [bcells_len, bcells_len, hx.vals, hy.vals])
  obtain ⟨r1, r2⟩ := List.append_inj q2 (by rw [bcells_len, bcells_len, hx.next, hy.next])
  rw [bi p1, bi q1, bi r1, bi r2, h1, h2, h3]

theorem encS_lenH {x : Hd} (hx : x.ok) (hc : checkS x = 0) : 0 < (encS x).length ∧ (encS x).length < 1000 := by
  obtain ⟨c1, c2, c3⟩ := checkS_ok hc
  obtain ⟨d1, d2, d3⟩ := nameS_len c1
  have l1 := numF_len (n := x.chain.length) (by omega)
  have l2 := numF_len (n := x.height.toNat) (by omega)
  have l3 := numF_len (n := x.time.toNat) (by omega)
  have l4 := hx.prev
  have l5 := hx.vals
  have l6 := hx.next
  have l7 := hx.app
  unfold encS
  simp only [List.length_append]
  omega

/-- the blocks that the law has -/
structure HHs (H : Heap) (pa pb px py : Nat) (a b : Hd) (XA XB : List UInt8) : Prop where
  ga : HGet H pa (.cells a.cells 0)
  gb : HGet H pb (.cells b.cells 0)
  gx : HGet H px (.cells (bcells XA) 0)
  gy : HGet H py (.cells (bcells XB) 0)
  la : BLt pa H
  lb : BLt pb H
  lx : BLt px H
  ly : BLt py H
theorem HHs.keep {H H' : Heap} {pa pb px py : Nat} {a b : Hd} {XA XB : List UInt8} (hs : HHs H pa pb px py a b XA XB) (hf : Fr (fun _ => False) H H') : HHs H' pa pb px py a b XA XB :=
  ⟨hf.keep hs.ga hs.la.lt id, hf.keep hs.gb hs.lb.lt id, hf.keep hs.gx hs.lx.lt id, hf.keep hs.gy hs.ly.lt id, ⟨hf.lt hs.la.lt⟩, ⟨hf.lt hs.lb.lt⟩, ⟨hf.lt hs.lx.lt⟩, ⟨hf.lt hs.ly.lt⟩⟩

set_option maxHeartbeats 4000000 in
theorem HeaderHashes_true {h : Heap} {a b : Hd} (ha : a.ok) (hb : b.ok) : Runs Try.prog T0 (.fn fn_landfalllaw06_HeaderHashes) [.agg ⟨a.cells⟩, .agg ⟨b.cells⟩] h (fun r h' => r = .bool true) (fun _ _ => False) := by
  haveI := l32 ha.prev
  haveI := l32 ha.vals
  haveI := l32 ha.next
  haveI := l32 ha.app
  haveI := l32 hb.prev
  haveI := l32 hb.vals
  haveI := l32 hb.next
  haveI := l32 hb.app
  refine landfalllaw06_HeaderHashes_runs ?_
  refine stp ?_
  simp only [Heap.n_push]
  generalize hh0 : (h.push (.cells a.cells 0)).push (.cells b.cells 0) = H
  have gA : HGet H h.n (.cells a.cells 0) := ⟨by rw [← hh0, Heap.get_push, if_neg (by simp), Heap.get_push, if_pos rfl]⟩
  have gB : HGet H (h.n + 1) (.cells b.cells 0) := ⟨by rw [← hh0, Heap.get_push, if_pos (by simp)]⟩
  have hn0 : H.n = h.n + 2 := by rw [← hh0]; simp
  clear hh0
  refine O.call' landfalllaw06_HeaderKnown_known (fun r h1 hr => ?_)
  obtain ⟨rfl, rfl⟩ := hr
  haveI := gA
  haveI := gB
  refine stp ?_
  refine O.dec (fun hla => ?_) (fun hla => ?_)
  · refine stp ?_
    rfl
  refine stp ?_
  refine C.if (fun hlb => ?_) (fun hlb => ?_)
  · refine stp ?_
    rfl
  refine stp ?_
  refine O.call' (HHash_ok ha) (fun r h2 hr => ?_)
  obtain ⟨rfl, hf2⟩ := hr
  haveI gA2 := hf2.keep gA (by omega) id
  haveI gB2 := hf2.keep gB (by omega) id
  have hn2 := hf2.n
  have hAl : (if checkS a = 0 then sumS (72 :: encS a) else zb32).length = 32 := by split; exact sumS_len _; rfl
  have hBl : (if checkS b = 0 then sumS (72 :: encS b) else zb32).length = 32 := by split; exact sumS_len _; rfl
  generalize hA : (if checkS a = 0 then sumS (72 :: encS a) else zb32) = XA at *
  haveI := l32 hAl
  haveI : BLt h.n h2 := ⟨by omega⟩
  haveI : BLt (h.n + 1) h2 := ⟨by omega⟩
  refine stp ?_
  refine O.call' (HHash_ok hb) (fun r h3 hr => ?_)
  obtain ⟨rfl, hf3⟩ := hr
  have hn3 := hf3.n
  simp only [Heap.n_push] at hn3
  generalize hB : (if checkS b = 0 then sumS (72 :: encS b) else zb32) = XB at *
  haveI := l32 hBl
  haveI gX3 : HGet h3 h2.n (.cells (bcells XA) 0) := hf3.keep HGet.new (by simp) id
  haveI gA3 : HGet h3 h.n (.cells a.cells 0) := hf3.keep (b := h.n) (HGet.push (k := ⟨by omega⟩) (g := gA2)) (by simp; omega) id
  haveI gB3 : HGet h3 (h.n + 1) (.cells b.cells 0) := hf3.keep (b := h.n + 1) (HGet.push (k := ⟨by omega⟩) (g := gB2)) (by simp; omega) id
  haveI : BLt h.n h3 := ⟨by omega⟩
  haveI : BLt (h.n + 1) h3 := ⟨by omega⟩
  haveI : BLt h2.n h3 := ⟨by omega⟩
  refine stp ?_
  have hs4 : HHs (h3.push (.cells (bcells XB) 0)) h.n (h.n + 1) h2.n h3.n a b XA XB := ⟨inferInstance, inferInstance, inferInstance, inferInstance, inferInstance, inferInstance, inferInstance, inferInstance⟩
  generalize h3.push (.cells (bcells XB) 0) = h4 at *
  refine O.call' (Check_ok ha) (fun r h5 hr => ?_)
  obtain ⟨rfl, hf5⟩ := hr
  have hs5 := hs4.keep hf5
  haveI := hs5.ga
  haveI := hs5.gb
  haveI := hs5.gx
  haveI := hs5.gy
  haveI := hs5.la
  haveI := hs5.lb
  haveI := hs5.lx
  haveI := hs5.ly
  refine stp ?_
  simp only [eq_self, decide_true, Bool.not_true, Bool.not_false]
  refine stp ?_
  refine O.callT (Check_ok hb) (fun r h6 hr => ?_)
  obtain ⟨rfl, hf6⟩ := hr
  have hs6 := hs5.keep hf6
  haveI := hs6.ga
  haveI := hs6.gb
  haveI := hs6.gx
  haveI := hs6.gy
  haveI := hs6.la
  haveI := hs6.lb
  haveI := hs6.lx
  haveI := hs6.ly
  refine stp ?_
  simp only [eq_self, decide_true, Bool.not_true, Bool.not_false]
  refine stp ?_
  by_cases ca : checkS a = 0
  · by_cases cb : checkS b = 0
    · rw [ca, cb]
      rw [if_pos ca] at hA
      rw [if_pos cb] at hB
      simp only [eq_self, decide_true, Bool.not_true, Bool.not_false]
      refine stp ?_
      refine O.call' (Encode_ok ha) (fun r h7 hr => ?_)
      obtain ⟨va, rfl, hoa, hna, hf7⟩ := hr
      rw [if_pos ca] at hoa
      have hs7 := hs6.keep hf7
      haveI := hs7.ga
      haveI := hs7.gb
      haveI := hs7.gx
      haveI := hs7.gy
      haveI := hs7.la
      haveI := hs7.lb
      haveI := hs7.lx
      haveI := hs7.ly
      refine stp ?_
      refine O.call' (Encode_ok hb) (fun r h8 hr => ?_)
      obtain ⟨vb, rfl, hob, hnb, hf8⟩ := hr
      rw [if_pos cb] at hob
      have hoa := hoa.keep (S := fun _ => False) hf8 fun _ _ => id
      have hs8 := hs7.keep hf8
      haveI := hs8.ga
      haveI := hs8.gb
      haveI := hs8.gx
      haveI := hs8.gy
      haveI := hs8.la
      haveI := hs8.lb
      haveI := hs8.lx
      haveI := hs8.ly
      have hea := encS_lenH ha ca
      have heb := encS_lenH hb cb
      refine stp ?_
      refine O.appendLit (c := [.int .u8 72]) (by rw [cellsAt_of (c := [.int .u8 72]) (by rw [Heap.get_push, if_pos rfl]; rfl) (by simp)]; rfl) ((hoa.rd.keep (S := fun _ => False) Fr.refl.push fun _ _ => id).new _) (by rw [bcells_len, Nat.mul_one]) (by omega) (by omega) (by omega) hea.1 (fun h9 ho9 hf9 hn9 => ?_)
      have f9 : Fr (fun _ => False) h8 h9 := Fr.trans (S := fun _ => False) Fr.refl.push hf9 fun _ _ h => h
      simp only [Heap.n_push] at ho9 hn9 ⊢
      have e1 : 1 + (encS a).length = (72 :: encS a).length := by simp; omega
      rw [e1] at ho9 ⊢
      have hs9 := hs8.keep f9
      have hob := hob.keep (S := fun _ => False) f9 fun _ _ => id
      haveI := hs9.ga
      haveI := hs9.gb
      haveI := hs9.gx
      haveI := hs9.gy
      haveI := hs9.la
      haveI := hs9.lb
      haveI := hs9.lx
      haveI := hs9.ly
      refine stp ?_
      refine O.appendLit (c := [.int .u8 72]) (by rw [cellsAt_of (c := [.int .u8 72]) (by rw [Heap.get_push, if_pos rfl]; rfl) (by simp)]; rfl) ((hob.rd.keep (S := fun _ => False) Fr.refl.push fun _ _ => id).new _) (by rw [bcells_len, Nat.mul_one]) (by omega) (by omega) (by omega) heb.1 (fun h10 ho10 hf10 hn10 => ?_)
      have f10 : Fr (fun _ => False) h9 h10 := Fr.trans (S := fun _ => False) Fr.refl.push hf10 fun _ _ h => h
      simp only [Heap.n_push] at ho10 hn10 ⊢
      have e2 : 1 + (encS b).length = (72 :: encS b).length := by simp; omega
      rw [e2] at ho10 ⊢
      have hs10 := hs9.keep f10
      have ho9 := ho9.keep (S := fun _ => False) f10 fun _ _ => id
      haveI := hs10.ga
      haveI := hs10.gb
      haveI := hs10.gx
      haveI := hs10.gy
      haveI := hs10.la
      haveI := hs10.lb
      haveI := hs10.lx
      haveI := hs10.ly
      subst hA
      subst hB
      have hsame : same a.cells b.cells = decide (encS a = encS b) := by
        by_cases e : encS a = encS b
        · rw [decide_eq_true e, encS_inj ha hb ca cb e]; exact same_self _
        · rw [decide_eq_false e]; exact same_ne.2 fun h => e (by rw [cells_inj ha hb h])
      have hsameX : ∀ l : List Value, same l l = true := same_self
      refine stp ?_
      refine D.callX (Sum_ok (l := 72 :: encS a) ho9.rd (by simp) (by simp; omega)) (fun r h11 hr => ?_) (fun r h11 hr => ?_) (fun _ _ hx => hx.elim)
      · haveI := (hs10.keep hr.2).gx
        exact StabL.ok
      obtain ⟨rfl, hf11⟩ := hr
      have hs11 := hs10.keep hf11
      have ho10 := ho10.keep (S := fun _ => False) hf11 fun _ _ => id
      have ho9 := ho9.keep (S := fun _ => False) hf11 fun _ _ => id
      haveI := hs11.ga
      haveI := hs11.gb
      haveI := hs11.gx
      haveI := hs11.gy
      haveI := hs11.la
      haveI := hs11.lb
      refine stp ?_
      simp only [hsameX, Bool.not_true]
      refine stp ?_
      refine D.callT (Sum_ok (l := 72 :: encS b) ho10.rd (by simp) (by simp; omega)) (fun r h12 hr => ?_) (fun r h12 hr => ?_)
      · haveI := (hs11.keep hr.2).gy
        exact StabL.ok
      obtain ⟨rfl, hf12⟩ := hr
      have hs12 := hs11.keep hf12
      have ho10 := ho10.keep (S := fun _ => False) hf12 fun _ _ => id
      have ho9 := ho9.keep (S := fun _ => False) hf12 fun _ _ => id
      have hoa := hoa.keep (S := fun _ => False) (f9.trans' (f10.trans' (hf11.trans' hf12))) fun _ _ => id
      have hob := hob.keep (S := fun _ => False) (f10.trans' (hf11.trans' hf12)) fun _ _ => id
      haveI := hs12.ga
      haveI := hs12.gb
      haveI := hs12.gx
      haveI := hs12.gy
      haveI := hs12.la
      haveI := hs12.lb
      refine stp ?_
      simp only [hsameX, Bool.not_true]
      refine stp ?_
      refine D.callT (SameBytes_ok hoa.rd hob.rd) (fun r h13 hr => ?_) (fun r h13 hr => ?_)
      · obtain ⟨rfl, rfl⟩ := hr
        refine stab_consT XOp.eqlAgg ?_
        refine stab_consT XOp.loadN ?_
        exact StabL.ok
      obtain ⟨rfl, rfl⟩ := hr
      refine stp ?_
      rw [hsame]
      simp only [beq_self_eq_true, Bool.not_true]
      refine stp ?_
      rw [hsame]
      by_cases e : encS a = encS b
      · rw [decide_eq_true e]
        simp only [Bool.not_true]
        refine stp ?_
        rw [e]
        simp only [hsameX]
        refine stp ?_
        simp only [hsame, decide_eq_true e]
        refine stp ?_
        rfl
      · rw [decide_eq_false e]
        simp only [Bool.not_false]
        refine stp ?_
        simp only [hsame, decide_eq_false e]
        refine stp ?_
        cases hD : same (bcells (sumS (72 :: encS a))) (bcells (sumS (72 :: encS b))) with
        | false =>
          simp only [Bool.not_false]
          refine stp ?_
          rfl
        | true =>
          simp only [Bool.not_true]
          refine stp ?_
          refine O.callT (Sum_ok (l := 72 :: encS a) ho9.rd (by simp) (by simp; omega)) (fun r h14 hr => ?_)
          obtain ⟨rfl, hf14⟩ := hr
          have ho10 := ho10.keep (S := fun _ => False) hf14 fun _ _ => id
          refine stp ?_
          refine O.callT (Sum_ok (l := 72 :: encS b) ho10.rd (by simp) (by simp; omega)) (fun r h15 hr => ?_)
          obtain ⟨rfl, hf15⟩ := hr
          have hsl1 := sumS_len (72 :: encS a)
          have hsl2 := sumS_len (72 :: encS b)
          haveI := l32 hsl1
          haveI := l32 hsl2
          refine stp ?_
          exact congrArg Value.bool hD
    · rw [if_neg cb] at hB
      subst hB
      rw [ca]
      simp only [eq_self, decide_true, Bool.not_true, Bool.not_false, if_true, decide_eq_false cb]
      refine stp ?_
      simp only [eq_self, decide_true, Bool.not_true, Bool.not_false, if_true, decide_eq_false cb]
      refine stp ?_
      simp only [eq_self, decide_true, Bool.not_true, Bool.not_false, if_true, decide_eq_false cb]
      refine stp ?_
      simp only [show same (bcells zb32) z32 = true from same_self _, if_true]
  · rw [if_neg ca] at hA
    subst hA
    simp only [eq_self, decide_true, Bool.not_true, Bool.not_false, if_true, decide_eq_false ca]
    refine stp ?_
    simp only [eq_self, decide_true, Bool.not_true, Bool.not_false, if_true, decide_eq_false ca]
    refine stp ?_
    rw [show same (bcells zb32) z32 = true from same_self _]
    refine stp ?_
    by_cases cb : checkS b = 0
    · rw [cb]
      simp only [eq_self, decide_true]
      refine stp ?_
      rfl
    · rw [if_neg cb] at hB
      subst hB
      simp only [decide_eq_false cb]
      refine stp ?_
      simp only [show same (bcells zb32) z32 = true from same_self _]
end Go.Proofs.Ytcapkoclbmaahaa.A
