/- Contracts of BLAKE2s, 1: words turned and mixed. -/
import Derived.Test.YtbmpalbdbcjieaaGreatKH9
import Derived.Test.YtbmpalbdbcjieaaGreatVK
namespace Go.Proofs.YtbmpalbdbcjieaaGreat.K
open Go Go.Vm
set_option maxRecDepth 10000
set_option linter.unusedVariables false

/-- a word turned to the right -/
def rr (x : UInt32) (n : Nat) : UInt32 := x <<< UInt32.ofNat (32 - n) ||| x >>> UInt32.ofNat n

theorem rot_ok {h : Heap} {x : UInt32} {k : Int} (n : Nat) (hn : 0 < n ∧ n < 32) (hk : IntKind.u64.wrap ((BitVec.ofInt IntKind.u64.bits (IntKind.u64.wrap k) &&& BitVec.ofInt IntKind.u64.bits 31).toNat : Nat) = ((32 - n : Nat) : Int)) :
    Runs Tryz.prog T0 (.fn fn_math_bits_RotateLeft32) [.int .u32 (x.toNat : Nat), .int .i64 k] h (fun r h' => r = .int .u32 ((rr x n).toNat : Nat) ∧ h' = h) (fun _ _ => False) := by
  refine math_bits_RotateLeft32_runs ?_
  refine stp ?_
  refine O.how XOp.andI ?_
  rw [hk]
  refine stp ?_
  refine O.how (XOp.shlW (32 - n) rfl (by omega)) ?_
  refine stp ?_
  rw [show IntKind.u64.wrap (32 - ((32 - n : Nat) : Int)) = (n : Int) from by rw [wrap_u64]; omega]
  refine O.how (XOp.shrW n rfl (by omega)) ?_
  refine stp ?_
  exact ⟨rfl, rfl⟩

/-- four words mixed with two others -/
def mixS (v : List UInt32) (a b c d : Nat) (x y : UInt32) : List UInt32 :=
  let v := v.set a (v.getD a 0 + (v.getD b 0 + x))
  let v := v.set d (rr (v.getD d 0 ^^^ v.getD a 0) 16)
  let v := v.set c (v.getD c 0 + v.getD d 0)
  let v := v.set b (rr (v.getD b 0 ^^^ v.getD c 0) 12)
  let v := v.set a (v.getD a 0 + (v.getD b 0 + y))
  let v := v.set d (rr (v.getD d 0 ^^^ v.getD a 0) 8)
  let v := v.set c (v.getD c 0 + v.getD d 0)
  v.set b (rr (v.getD b 0 ^^^ v.getD c 0) 7)
theorem mixS_len (v : List UInt32) (a b c d : Nat) (x y : UInt32) : (mixS v a b c d x y).length = v.length := by simp [mixS]

abbrev ptr (q o : Nat) : Value := .pointer (some ⟨q, o, none⟩)

set_option maxHeartbeats 2000000 in
theorem mix_ok {h : Heap} {q es : Nat} {v : List UInt32} {a b c d : Nat} {x y : UInt32} (hg : h.get q = .cells (wcells v) es) (hq : q < h.n) [ia : WIx v a] [ib : WIx v b] [ic : WIx v c] [id' : WIx v d] :
    Runs Tryz.prog T0 (.fn fn_blake_mix) [.agg ⟨[ptr q a, ptr q b, ptr q c, ptr q d]⟩, .int .u32 (x.toNat : Nat), .int .u32 (y.toNat : Nat)] h (fun r h' => h'.get q = .cells (wcells (mixS v a b c d x y)) es ∧ Fr (fun i => i = q) h h') (fun _ _ => False) := by
  haveI : HGet h q _ := ⟨hg⟩
  haveI : BLt q h := ⟨hq⟩
  refine blake_mix_runs ?_
  refine stp ?_
  refine D.callX (rot_ok 16 (by omega) (by decide)) (fun r h1 hr => ?_) (fun r h1 hr => ?_) (fun _ _ hx => hx.elim)
  · obtain ⟨rfl, rfl⟩ := hr
    exact StabL.ok
  obtain ⟨rfl, rfl⟩ := hr
  refine stp ?_
  refine D.callX (rot_ok 12 (by omega) (by decide)) (fun r h1 hr => ?_) (fun r h1 hr => ?_) (fun _ _ hx => hx.elim)
  · obtain ⟨rfl, rfl⟩ := hr
    exact StabL.ok
  obtain ⟨rfl, rfl⟩ := hr
  refine stp ?_
  refine D.callX (rot_ok 8 (by omega) (by decide)) (fun r h1 hr => ?_) (fun r h1 hr => ?_) (fun _ _ hx => hx.elim)
  · obtain ⟨rfl, rfl⟩ := hr
    exact StabL.ok
  obtain ⟨rfl, rfl⟩ := hr
  refine stp ?_
  refine D.callX (rot_ok 7 (by omega) (by decide)) (fun r h1 hr => ?_) (fun r h1 hr => ?_) (fun _ _ hx => hx.elim)
  · obtain ⟨rfl, rfl⟩ := hr
    exact StabL.ok
  obtain ⟨rfl, rfl⟩ := hr
  refine stp ?_
  exact ⟨by rw [Heap.get_set, if_pos rfl]; rfl, Fr.refl.push.set fun _ => rfl⟩
end Go.Proofs.YtbmpalbdbcjieaaGreat.K
