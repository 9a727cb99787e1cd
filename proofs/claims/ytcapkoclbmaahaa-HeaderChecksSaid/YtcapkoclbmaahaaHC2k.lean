/- The law HeaderChecks. -/
import Derived.Test.YtcapkoclbmaahaaHC1k
import Derived.Test.YtcapkoclbmaahaaVK
namespace Go.Proofs.Ytcapkoclbmaahaa.A
open Go Go.Vm
set_option maxRecDepth 10000
set_option linter.unusedVariables false
set_option linter.unusedSimpArgs false

/-- the blocks that the law has -/
structure HCs (H : Heap) (pa px py : Nat) (a : Hd) (XA : List UInt8) : Prop where
  ga : HGet H pa (.cells a.cells 0)
  gx : HGet H px (.cells (bcells XA) 0)
  gy : HGet H py (.cells (bcells XA) 0)
  la : BLt pa H
  lx : BLt px H
  ly : BLt py H
theorem HCs.keep {H H' : Heap} {pa px py : Nat} {a : Hd} {XA : List UInt8} (hs : HCs H pa px py a XA) (hf : Fr (fun _ => False) H H') : HCs H' pa px py a XA :=
  ⟨hf.keep hs.ga hs.la.lt id, hf.keep hs.gx hs.lx.lt id, hf.keep hs.gy hs.ly.lt id, ⟨hf.lt hs.la.lt⟩, ⟨hf.lt hs.lx.lt⟩, ⟨hf.lt hs.ly.lt⟩⟩

set_option maxHeartbeats 4000000 in
theorem HeaderChecks_true {h : Heap} {x : Hd} (hx : x.ok) : Runs Try.prog T0 (.fn fn_landfalllaw06_HeaderChecks) [.agg ⟨x.cells⟩] h (fun r h' => r = .bool true) (fun _ _ => False) := by
  haveI := l32 hx.prev
  haveI := l32 hx.vals
  haveI := l32 hx.next
  haveI := l32 hx.app
  refine landfalllaw06_HeaderChecks_runs ?_
  refine stp ?_
  have hn0 : (h.push (.cells x.cells 0)).n = h.n + 1 := rfl
  have gA : HGet (h.push (.cells x.cells 0)) h.n (.cells x.cells 0) := HGet.new
  generalize h.push (.cells x.cells 0) = H at *
  haveI := gA
  haveI : BLt h.n H := ⟨by omega⟩
  refine stp ?_
  refine C.if (fun hlong => ?_) (fun hshort => ?_)
  · refine stp ?_
    refine O.call' landfalllaw06_awake_known (fun r h1 hr => ?_)
    obtain ⟨rfl, rfl⟩ := hr
    refine stp ?_
    rfl
  have hs : x.chain.length < 1048576 := by
    have hsz : (ByteArray.mk ⟨x.chain⟩).size = x.chain.length := rfl
    omega
  refine stp ?_
  refine O.call' (Encode_ok hx) (fun r h1 hr => ?_)
  obtain ⟨va, rfl, hoa, hna, hf1⟩ := hr
  haveI gA1 := hf1.keep gA (by omega) id
  have hn1 := hf1.n
  haveI : BLt h.n h1 := ⟨by omega⟩
  refine stp ?_
  refine O.call' (REncode_ok hx hs) (fun r h2 hr => ?_)
  obtain ⟨vb, rfl, hob, hnb, hf2⟩ := hr
  have hoa := hoa.keep (S := fun _ => False) hf2 fun _ _ => id
  haveI gA2 := hf2.keep gA1 (by omega) id
  have hn2 := hf2.n
  haveI : BLt h.n h2 := ⟨by omega⟩
  have hEl : (if checkS x = 0 then encS x else []).length < 1048576 := by
    split
    · have := encS_lenC hx (by assumption); omega
    · simp
  generalize (if checkS x = 0 then encS x else []) = E at *
  refine stp ?_
  refine O.call' (HHash_ok hx) (fun r h3 hr => ?_)
  obtain ⟨rfl, hf3⟩ := hr
  have hn3 := hf3.n
  haveI gA3 := hf3.keep gA2 (by omega) id
  haveI : BLt h.n h3 := ⟨by omega⟩
  have hXl : (if checkS x = 0 then sumS (72 :: encS x) else zb32).length = 32 := by split; exact sumS_len _; rfl
  haveI := l32 hXl
  refine stp ?_
  have f34 : Fr (fun _ => False) h3 (h3.push (.cells (bcells (if checkS x = 0 then sumS (72 :: encS x) else zb32)) 0)) := Fr.refl.push
  have gX4 : HGet (h3.push (.cells (bcells (if checkS x = 0 then sumS (72 :: encS x) else zb32)) 0)) h3.n (.cells (bcells (if checkS x = 0 then sumS (72 :: encS x) else zb32)) 0) := HGet.new
  have hn4 : (h3.push (.cells (bcells (if checkS x = 0 then sumS (72 :: encS x) else zb32)) 0)).n = h3.n + 1 := rfl
  generalize h3.push (.cells (bcells (if checkS x = 0 then sumS (72 :: encS x) else zb32)) 0) = h4 at *
  haveI gA4 := f34.keep gA3 (by omega) id
  haveI : BLt h.n h4 := ⟨by omega⟩
  refine stp ?_
  refine O.call' (RHash6_ok hx hs) (fun r h5 hr => ?_)
  obtain ⟨rfl, hf5⟩ := hr
  have hn5 := hf5.n
  refine stp ?_
  generalize (if checkS x = 0 then sumS (72 :: encS x) else zb32) = X at *
  have hs6 : HCs (h5.push (.cells (bcells X) 0)) h.n h3.n h5.n x X := ⟨(Fr.trans (S := fun _ => False) hf5 (Fr.refl.push) fun _ _ h => h).keep gA4 (by omega) id, (Fr.trans (S := fun _ => False) hf5 (Fr.refl.push) fun _ _ h => h).keep gX4 (by omega) id, HGet.new, ⟨by simp; omega⟩, ⟨by simp; omega⟩, ⟨by simp⟩⟩
  have hf26 : Fr (fun _ => False) h2 (h5.push (.cells (bcells X) 0)) := Fr.trans (S := fun _ => False) (hf3.trans' (f34.trans' hf5)) Fr.refl.push fun _ _ h => h
  generalize h5.push (.cells (bcells X) 0) = h6 at *
  have hoa := hoa.keep (S := fun _ => False) hf26 fun _ _ => id
  have hob := hob.keep (S := fun _ => False) hf26 fun _ _ => id
  haveI := hs6.ga
  haveI := hs6.gx
  haveI := hs6.gy
  haveI := hs6.la
  haveI := hs6.lx
  haveI := hs6.ly
  have hsameX : ∀ l : List Value, same l l = true := same_self
  refine D.callX (SameBytes_ok hoa.rd hob.rd) (fun _ _ _ => rfl) (fun r h7 hr => ?_) (fun _ _ hx => hx.elim)
  obtain ⟨rfl, rfl⟩ := hr
  simp only [decide_true]
  refine stp ?_
  simp only [eq_self, decide_true, hsameX]
  refine stp ?_
  simp only [eq_self, decide_true, hsameX]
  refine stp ?_
  simp only [eq_self, decide_true, hsameX]
  refine stp ?_
  refine D.callT (Check_ok hx) (fun r h8 hr => ?_) (fun r h8 hr => ?_)
  · haveI := (hs6.keep hr.2).ga
    haveI := (hs6.keep hr.2).la
    exact StabL.ok
  obtain ⟨rfl, hf8⟩ := hr
  have hs8 := hs6.keep hf8
  have hoa := hoa.keep (S := fun _ => False) hf8 fun _ _ => id
  haveI := hs8.ga
  haveI := hs8.la
  refine stp ?_
  refine D.callT (RCheck_ok hx hs) (fun r h9 hr => rfl) (fun r h9 hr => ?_)
  obtain ⟨rfl, hf9⟩ := hr
  have hs9 := hs8.keep hf9
  have hoa := hoa.keep (S := fun _ => False) hf9 fun _ _ => id
  haveI := hs9.ga
  haveI := hs9.la
  refine stp ?_
  simp only [eq_self, decide_true, hsameX]
  refine stp ?_
  refine D.callT (Name_ok (l := x.chain)) (fun r h10 hr => ?_) (fun r h10 hr => ?_)
  · haveI := (hs9.keep hr.2).ga
    haveI := (hs9.keep hr.2).la
    exact StabL.ok
  obtain ⟨rfl, hf10⟩ := hr
  have hs10 := hs9.keep hf10
  have hoa := hoa.keep (S := fun _ => False) hf10 fun _ _ => id
  haveI := hs10.ga
  haveI := hs10.la
  refine stp ?_
  refine D.callT (RName_ok (l := x.chain) hs) (fun r h11 hr => rfl) (fun r h11 hr => ?_)
  obtain ⟨rfl, rfl⟩ := hr
  refine stp ?_
  simp only [beq_self_eq_true]
  refine O.call' (OverBytes_ok hoa hEl) (fun r h12 hf12 => ?_)
  refine stp ?_
  refine O.callT landfalllaw06_awake_known (fun r h13 hr => ?_)
  obtain ⟨rfl, rfl⟩ := hr
  refine stp ?_
  rfl
end Go.Proofs.Ytcapkoclbmaahaa.A
