/- Contracts of the document's BLAKE2s (landfallref03), 1: words turned and mixed, rows. -/
import Derived.Test.YtcapkoclbmaahaaY5k
import Derived.Test.YtcapkoclbmaahaaVK
namespace Go.Proofs.Ytcapkoclbmaahaa.A
open Go Go.Vm
set_option maxRecDepth 10000
set_option linter.unusedVariables false

/-- a list of so many words -/
class WLen (v : List UInt32) (n : outParam Nat) : Prop where
  eq : v.length = n
instance {v : List UInt32} {n i : Nat} {w : UInt32} [k : WLen v n] : WLen (v.set i w) n := ⟨by simpa using k.eq⟩
instance (priority := 2000) {v : List UInt32} {n : Nat} [k : WLen v n] : Sub (wcells v) 0 n (wcells v) := ⟨by rw [wcells_len, k.eq]; omega, by rw [List.drop_zero, List.take_of_length_le (by rw [wcells_len, k.eq]; omega)]⟩
instance {v : List UInt32} : One (wcells v) := ⟨wcells_one v⟩
instance (priority := 2000) {v : List UInt32} {n : Nat} [k : WLen v n] : LenN (wcells v) n := ⟨by rw [wcells_len, k.eq]⟩
theorem over_words {l : List Value} {v : List UInt32} {n : Nat} (hl : l.length = n) (hv : v.length = n) : Over l 0 (wcells v) (wcells v) := ⟨by rw [wcells_len]; omega, by
  have := over_whole l (wcells v) [] (by rw [wcells_len, hl, hv])
  simpa using this⟩

instance (priority := 2000) {l : List Value} {v : List UInt32} {n : Nat} [j : WLen v n] [k : LenN l n] : Over l 0 (wcells v) (wcells v) := over_words k.eq j.eq

theorem turn_okD {h : Heap} {x : UInt32} {k : Int} (n : Nat) (hn : 0 < n ∧ n < 32) (hk : k = n) :
    Runs Try.prog T0 (.fn fn_landfallref03_turn) [.int .u32 (x.toNat : Nat), .int .u64 k] h (fun r h' => r = .int .u32 ((rr x n).toNat : Nat) ∧ h' = h) (fun _ _ => False) := by
  refine landfallref03_turn_runs ?_
  refine stp ?_
  refine O.how (XOp.shrW n hk hn.2) ?_
  refine stp ?_
  rw [show IntKind.u64.wrap (32 - k) = ((32 - n : Nat) : Int) from by rw [wrap_u64]; omega]
  refine O.how (XOp.shlW (32 - n) rfl (by omega)) ?_
  refine stp ?_
  exact ⟨by rw [rr, UInt32.or_comm], rfl⟩

set_option maxHeartbeats 2000000 in
theorem mix_okD {h : Heap} {v : List UInt32} {a b c d : Nat} {x y : UInt32} (hv : v.length = 16) (ha : a < 16) (hb : b < 16) (hc : c < 16) (hd : d < 16) :
    Runs Try.prog T0 (.fn fn_landfallref03_mix) [.agg ⟨wcells v⟩, .int .i64 (a : Nat), .int .i64 (b : Nat), .int .i64 (c : Nat), .int .i64 (d : Nat), .int .u32 (x.toNat : Nat), .int .u32 (y.toNat : Nat)] h (fun r h' => r = .agg ⟨wcells (mixS v a b c d x y)⟩ ∧ Fr (fun _ => False) h h') (fun _ _ => False) := by
  haveI : WIx v a := ⟨by omega⟩
  haveI : WIx v b := ⟨by omega⟩
  haveI : WIx v c := ⟨by omega⟩
  haveI : WIx v d := ⟨by omega⟩
  haveI : WLen v 16 := ⟨hv⟩
  refine landfallref03_mix_runs ?_
  refine stp ?_
  refine D.callX (turn_okD 16 (by omega) rfl) (fun r h1 hr => ?_) (fun r h1 hr => ?_) (fun _ _ hx => hx.elim)
  · obtain ⟨rfl, rfl⟩ := hr
    exact StabL.ok
  obtain ⟨rfl, rfl⟩ := hr
  refine stp ?_
  refine D.callX (turn_okD 12 (by omega) rfl) (fun r h1 hr => ?_) (fun r h1 hr => ?_) (fun _ _ hx => hx.elim)
  · obtain ⟨rfl, rfl⟩ := hr
    exact StabL.ok
  obtain ⟨rfl, rfl⟩ := hr
  refine stp ?_
  refine D.callX (turn_okD 8 (by omega) rfl) (fun r h1 hr => ?_) (fun r h1 hr => ?_) (fun _ _ hx => hx.elim)
  · obtain ⟨rfl, rfl⟩ := hr
    exact StabL.ok
  obtain ⟨rfl, rfl⟩ := hr
  refine stp ?_
  refine D.callX (turn_okD 7 (by omega) rfl) (fun r h1 hr => ?_) (fun r h1 hr => ?_) (fun _ _ hx => hx.elim)
  · obtain ⟨rfl, rfl⟩ := hr
    exact StabL.ok
  obtain ⟨rfl, rfl⟩ := hr
  refine stp ?_
  exact ⟨by simp only [mixS, UInt32.add_assoc], Fr.set (Fr.set Fr.refl.push.push fun h => absurd h (by simp)) fun h => absurd h (by simp)⟩
end Go.Proofs.Ytcapkoclbmaahaa.A
