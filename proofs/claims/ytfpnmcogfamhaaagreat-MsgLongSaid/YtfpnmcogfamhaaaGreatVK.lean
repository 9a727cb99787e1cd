/- A small machine over an abstract heap: keys of four bytes, side by side; calls under a guard in a drawn region. -/
import Derived.Test.YtfpnmcogfamhaaaGreatVJ
namespace Go.Vm
open Go
set_option linter.unusedVariables false
set_option linter.unusedSimpArgs false
def cmpB (a b : List UInt8) : Int := Extern.BytealgCompare.cmp ⟨⟨a⟩⟩ ⟨⟨b⟩⟩
def keyLt (a b : List UInt8) : Bool := decide (cmpB a b < 0)
theorem cmp4 (a0 a1 a2 a3 b0 b1 b2 b3 : UInt8) : cmpB [a0, a1, a2, a3] [b0, b1, b2, b3] =
    if a0 ≠ b0 then (if a0 < b0 then -1 else 1) else if a1 ≠ b1 then (if a1 < b1 then -1 else 1) else if a2 ≠ b2 then (if a2 < b2 then -1 else 1) else if a3 ≠ b3 then (if a3 < b3 then -1 else 1) else 0 := by
  unfold cmpB Extern.BytealgCompare.cmp
  have hr : (List.range (min (ByteArray.size ⟨⟨[a0, a1, a2, a3]⟩⟩) (ByteArray.size ⟨⟨[b0, b1, b2, b3]⟩⟩))) = [0, 1, 2, 3] := rfl
  rw [hr]
  have g0 : ∀ (x0 x1 x2 x3 : UInt8), (⟨⟨[x0, x1, x2, x3]⟩⟩ : ByteArray)[0]! = x0 := fun _ _ _ _ => rfl
  have g1 : ∀ (x0 x1 x2 x3 : UInt8), (⟨⟨[x0, x1, x2, x3]⟩⟩ : ByteArray)[1]! = x1 := fun _ _ _ _ => rfl
  have g2 : ∀ (x0 x1 x2 x3 : UInt8), (⟨⟨[x0, x1, x2, x3]⟩⟩ : ByteArray)[2]! = x2 := fun _ _ _ _ => rfl
  have g3 : ∀ (x0 x1 x2 x3 : UInt8), (⟨⟨[x0, x1, x2, x3]⟩⟩ : ByteArray)[3]! = x3 := fun _ _ _ _ => rfl
  have hs : ∀ (x0 x1 x2 x3 : UInt8), ByteArray.size ⟨⟨[x0, x1, x2, x3]⟩⟩ = 4 := fun _ _ _ _ => rfl
  by_cases h0 : a0 = b0
  · have e0 : (a0 != b0) = false := by simp [h0]
    rw [if_neg (show ¬ (a0 ≠ b0) from fun h => h h0)]
    by_cases h1 : a1 = b1
    · have e1 : (a1 != b1) = false := by simp [h1]
      rw [if_neg (show ¬ (a1 ≠ b1) from fun h => h h1)]
      by_cases h2 : a2 = b2
      · have e2 : (a2 != b2) = false := by simp [h2]
        rw [if_neg (show ¬ (a2 ≠ b2) from fun h => h h2)]
        by_cases h3 : a3 = b3
        · have e3 : (a3 != b3) = false := by simp [h3]
          rw [if_neg (show ¬ (a3 ≠ b3) from fun h => h h3)]
          simp only [List.find?, g0, g1, g2, g3, hs, e0, e1, e2, e3]
          rfl
        · have e3 : (a3 != b3) = true := by simp [h3]
          rw [if_pos (show a3 ≠ b3 from h3)]
          simp only [List.find?, g0, g1, g2, g3, hs, e0, e1, e2, e3]
      · have e2 : (a2 != b2) = true := by simp [h2]
        rw [if_pos (show a2 ≠ b2 from h2)]
        simp only [List.find?, g0, g1, g2, g3, hs, e0, e1, e2]
    · have e1 : (a1 != b1) = true := by simp [h1]
      rw [if_pos (show a1 ≠ b1 from h1)]
      simp only [List.find?, g0, g1, g2, g3, hs, e0, e1]
  · have e0 : (a0 != b0) = true := by simp [h0]
    rw [if_pos (show a0 ≠ b0 from h0)]
    simp only [List.find?, g0, g1, g2, g3, hs, e0]
theorem keyLt4 (a0 a1 a2 a3 b0 b1 b2 b3 : UInt8) : keyLt [a0, a1, a2, a3] [b0, b1, b2, b3] =
    if a0 ≠ b0 then decide (a0 < b0) else if a1 ≠ b1 then decide (a1 < b1) else if a2 ≠ b2 then decide (a2 < b2) else if a3 ≠ b3 then decide (a3 < b3) else false := by
  unfold keyLt
  rw [cmp4]
  have hk : ∀ x y : UInt8, decide ((if x < y then (-1 : Int) else 1) < 0) = decide (x < y) := fun x y => by
    by_cases h : x < y <;> simp [h]
  split
  · exact hk _ _
  · split
    · exact hk _ _
    · split
      · exact hk _ _
      · split
        · exact hk _ _
        · rfl
section
variable {P : Program} {ts : List Value} {h : Heap} {x y f : Operand} {v w : Value} {a b : List UInt8} {n m : Nat} {fid : FuncId}
theorem bytesV_rd (hr : Rd h 1 v (bcells a) n) : bytesV h v = some a := by
  obtain ⟨ad, cap, rfl, hl, hc⟩ := hr
  have hl : a.length = n := by simpa [bcells] using hl
  have hb : bytesOf (bcells a) = some a := bytesOf_bcells a
  cases ad with
  | none =>
    by_cases h0 : n = 0
    · have : a = [] := List.length_eq_zero_iff.1 (by omega)
      subst this; rfl
    · obtain ⟨_, _, _, h1, _⟩ := hc h0; cases h1
  | some ad =>
    by_cases h0 : n = 0
    · have : a = [] := List.length_eq_zero_iff.1 (by omega)
      subst this
      subst h0
      simp [bytesV, cellsAt_zero]
      rfl
    · obtain ⟨q, o, sp, h1, hb1, h2⟩ := hc h0
      cases h1
      rw [Nat.mul_one] at h2
      simp only [bytesV, h2]
      exact hb
theorem XOp.mkCompare (h1 : Rd h 1 v (bcells a) n) (h2 : Rd h 1 w (bcells b) m) (hx : extFn P fid = some .compare) [e0 : Ev ts f (.func (.func fid) ⟨[]⟩ ⟨[]⟩)] [e1 : Ev ts x v] [e2 : Ev ts y w] : XOp P ts h (.ext .compare f [x, y]) (.int .i64 (cmpB a b)) h := ⟨rfl, by
  simp only [xop, e0.eq, hx, if_true, extV, List.map_cons, List.map_nil, e1.eq, e2.eq, bytesV_rd h1, bytesV_rd h2, cmpB]⟩
end
section
variable {P : Program} {T : Table} {ts ts' : List Value} {ds : List Deferred} {h h' : Heap} {rd : Option Nat} {op : AOp} {v : Value} {d : Nat} {chk : List (Option Nat × AOp × Option (Nat × Bool))} {pan : Bool} {rest : List AOper} {Q : QP} {F : Value → List Value}
theorem D.callT {t : Nat} {b : Bool} {f : Operand} {args : List Operand} {fid : FuncId} {first captured vs mid all : List Value} [g : LGet ts t (.bool b)] [e : Ev ts f (.func (.func fid) ⟨first⟩ ⟨captured⟩)] [k : EvL ts args vs] [a1 : App2 first vs mid] [a2 : App2 mid captured all] [s : LSetF ts d F] {R : RP}
    (hr : Runs P T (.fn fid) all h R (fun _ _ => False)) (hc : ∀ v h', R v h' → chk.all (stable P (F v) h') = true) (hk : ∀ v h', R v h' → RunD P T rest ⟨F v, ds, h', rd⟩ Q) :
    RunD P T (⟨some d, .callV f args, some (t, b), chk, pan⟩ :: rest) ⟨ts, ds, h, rd⟩ Q :=
  RunD.cons (by simp only [wantedT, g.eq]; cases b <;> rfl) (RunX.call (t := .fn fid) (vs := all) (by simp only [e.eq, k.eq, target]; rw [← a2.eq, ← a1.eq]) (Runs.mono hr (fun v h' hv => by
    show chk.all (stable P (lset ts d v) h') = true ∧ RunD P T rest ⟨lset ts d v, ds, h', rd⟩ Q
    rw [s.eq]; exact ⟨hc v h' hv, hk v h' hv⟩) fun _ _ hx => hx.elim))
end
end Go.Vm

/- A small machine over an abstract heap: an operation without a slot in a drawn region, behind which others are read again. -/
namespace Go.Vm
set_option linter.unusedVariables false
section
variable {P : Program} {T : Table} {ts ts' : List Value} {ds : List Deferred} {h h' : Heap} {rd : Option Nat} {op : AOp} {v : Value} {d : Nat} {chk : List (Option Nat × AOp × Option (Nat × Bool))} {pan : Bool} {rest : List AOper} {Q : QP} {F : Value → List Value}
theorem D.one0S [k : XOp P ts h op v h'] [c : StabL P ts h' chk] (hr : RunD P T rest ⟨ts, ds, h', rd⟩ Q) : RunD P T (⟨none, op, none, chk, pan⟩ :: rest) ⟨ts, ds, h, rd⟩ Q := D.one0 c.ok hr
end
end Go.Vm
