/- A small machine over an abstract heap: shifts, bits, division; the cells of slices of bytes. -/
import Derived.Test.YtoadcfjkkoemdaaVm36
set_option linter.unusedSimpArgs false
set_option linter.unusedVariables false
namespace Go.Vm
open Go.IntWalk

section
variable {P : Program} {ts : List Value} {h h' : Heap} {x y a b c i : Operand} {u v w : Value} {l l' out : List Value} {o n k size len r off m : Nat} {sp : Option Nat} {K J : IntKind} {p q : Int} {A B : Bool} {t t' ty : TypeId}

theorem bin_raw_ne {op : BinOp} {O : Oper} (hop : ∀ k a b, binInt op k a b = none) (e1 : eval ts x = u) (e2 : eval ts y = v) : xop P (eval ts) h (.bin op O x y) = rawOp P (eval ts) O h :=
  bin_raw (fun k a b _ _ => hop k a b) e1 e2

theorem XOp.shl (hq : 0 ≤ q) [e1 : Ev ts x (.int K p)] [e2 : Ev ts y (.int J q)] : XOp P ts h (.bin .shl (so (.binOp .shl t x y t') ty) x y) (.int K (K.wrap (p * 2 ^ (min q.toNat K.bits)))) h :=
  ⟨rfl, (bin_raw_ne (fun _ _ _ => rfl) e1.eq e2.eq).trans (raw_bin e1.eq e2.eq rfl rfl (by
    show pr P (Op.shift .shl K p J q) = _
    unfold Op.shift
    rw [if_neg (by omega)]; rfl) rfl)⟩
theorem XOp.shr (hq : 0 ≤ q) [e1 : Ev ts x (.int K p)] [e2 : Ev ts y (.int J q)] : XOp P ts h (.bin .shr (so (.binOp .shr t x y t') ty) x y) (.int K (p.fdiv (2 ^ (min q.toNat K.bits)))) h :=
  ⟨rfl, (bin_raw_ne (fun _ _ _ => rfl) e1.eq e2.eq).trans (raw_bin e1.eq e2.eq rfl rfl (by
    show pr P (Op.shift .shr K p J q) = _
    unfold Op.shift
    rw [if_neg (by omega)]; rfl) rfl)⟩

/-- a shift by a byte to the left, where there is room -/
theorem XOp.shl8 (hb : 0 ≤ p ∧ p * 256 ≤ 18446744073709551615) [e1 : Ev ts x (.int .u64 p)] [e2 : Ev ts y (.int J 8)] : XOp P ts h (.bin .shl (so (.binOp .shl t x y t') ty) x y) (.int .u64 (p * 256)) h := by
  have := XOp.shl (P := P) (ts := ts) (h := h) (x := x) (y := y) (t := t) (t' := t') (ty := ty) (K := .u64) (J := J) (p := p) (q := 8) (by omega)
  rw [show (2 : Int) ^ (min (8 : Int).toNat IntKind.u64.bits) = 256 from rfl, u64_in _ (by omega)] at this
  exact this
/-- a shift by a byte to the right -/
theorem XOp.shr8 [e1 : Ev ts x (.int K p)] [e2 : Ev ts y (.int J 8)] : XOp P ts h (.bin .shr (so (.binOp .shr t x y t') ty) x y) (.int K (p / 256)) h := by
  have := XOp.shr (P := P) (ts := ts) (h := h) (x := x) (y := y) (t := t) (t' := t') (ty := ty) (K := K) (J := J) (p := p) (q := 8) (by omega)
  rw [show (2 : Int) ^ (min (8 : Int).toNat K.bits) = 256 from by cases K <;> rfl, Int.fdiv_eq_ediv_of_nonneg _ (by omega)] at this
  exact this
theorem XOp.shr63 (hb : 0 ≤ p ∧ p ≤ 18446744073709551615) [e1 : Ev ts x (.int .u64 p)] [e2 : Ev ts y (.int J 63)] : XOp P ts h (.bin .shr (so (.binOp .shr t x y t') ty) x y) (.int .u64 (p / 9223372036854775808)) h := by
  have := XOp.shr (P := P) (ts := ts) (h := h) (x := x) (y := y) (t := t) (t' := t') (ty := ty) (K := .u64) (J := J) (p := p) (q := 63) (by omega)
  rw [show (2 : Int) ^ (min (63 : Int).toNat IntKind.u64.bits) = 9223372036854775808 from rfl, Int.fdiv_eq_ediv_of_nonneg _ (by omega)] at this
  exact this

theorem XOp.orI [e1 : Ev ts x (.int K p)] [e2 : Ev ts y (.int K q)] : XOp P ts h (.bin .or (so (.binOp .or t x y t') ty) x y) (.int K (K.wrap ((BitVec.ofInt K.bits p ||| BitVec.ofInt K.bits q).toNat : Nat))) h :=
  ⟨rfl, (bin_raw_ne (fun _ _ _ => rfl) e1.eq e2.eq).trans (raw_bin e1.eq e2.eq rfl rfl (by
    show pr P (if K ≠ K then _ else _) = _
    rw [if_neg (by simp)]; rfl) rfl)⟩
theorem XOp.andI [e1 : Ev ts x (.int K p)] [e2 : Ev ts y (.int K q)] : XOp P ts h (.bin .and (so (.binOp .and t x y t') ty) x y) (.int K (K.wrap ((BitVec.ofInt K.bits p &&& BitVec.ofInt K.bits q).toNat : Nat))) h :=
  ⟨rfl, (bin_raw_ne (fun _ _ _ => rfl) e1.eq e2.eq).trans (raw_bin e1.eq e2.eq rfl rfl (by
    show pr P (if K ≠ K then _ else _) = _
    rw [if_neg (by simp)]; rfl) rfl)⟩
theorem XOp.xorI [e1 : Ev ts x (.int K p)] [e2 : Ev ts y (.int K q)] : XOp P ts h (.bin .xor (so (.binOp .xor t x y t') ty) x y) (.int K (K.wrap ((BitVec.ofInt K.bits p ^^^ BitVec.ofInt K.bits q).toNat : Nat))) h :=
  ⟨rfl, (bin_raw_ne (fun _ _ _ => rfl) e1.eq e2.eq).trans (raw_bin e1.eq e2.eq rfl rfl (by
    show pr P (if K ≠ K then _ else _) = _
    rw [if_neg (by simp)]; rfl) rfl)⟩
theorem XOp.quoI (hq : q ≠ 0) [e1 : Ev ts x (.int K p)] [e2 : Ev ts y (.int K q)] : XOp P ts h (.bin .quo (so (.binOp .quo t x y t') ty) x y) (.int K (K.wrap (p.tdiv q))) h :=
  ⟨rfl, (bin_raw_ne (fun _ _ _ => rfl) e1.eq e2.eq).trans (raw_bin e1.eq e2.eq rfl rfl (by
    show pr P (if K ≠ K then _ else Op.intDiv .quo K p q) = _
    rw [if_neg (by simp)]
    unfold Op.intDiv
    rw [if_neg hq]; rfl) rfl)⟩
theorem XOp.remI (hq : q ≠ 0) [e1 : Ev ts x (.int K p)] [e2 : Ev ts y (.int K q)] : XOp P ts h (.bin .rem (so (.binOp .rem t x y t') ty) x y) (.int K (p.tmod q)) h :=
  ⟨rfl, (bin_raw_ne (fun _ _ _ => rfl) e1.eq e2.eq).trans (raw_bin e1.eq e2.eq rfl rfl (by
    show pr P (if K ≠ K then _ else Op.intDiv .rem K p q) = _
    rw [if_neg (by simp)]
    unfold Op.intDiv
    rw [if_neg hq]; rfl) rfl)⟩

theorem or_byte {m n : Nat} (hn : n < 256) (hm : m * 256 + n < 18446744073709551616) : (BitVec.ofInt 64 ((m : Int) * 256) ||| BitVec.ofInt 64 (n : Int)).toNat = m * 256 + n := by
  have e1 : BitVec.ofInt 64 ((m : Int) * 256) = BitVec.ofNat 64 (m * 256) := by
    rw [show ((m : Int) * 256) = ((m * 256 : Nat) : Int) from by omega, BitVec.ofInt_natCast]
  have h64 : (2 : Nat) ^ 64 = 18446744073709551616 := by simp
  have h1 : m * 256 < 18446744073709551616 := Nat.lt_of_le_of_lt (Nat.le_add_right _ _) hm
  have h2 : n < 18446744073709551616 := Nat.lt_of_le_of_lt (Nat.le_add_left _ _) hm
  rw [e1, BitVec.ofInt_natCast, BitVec.toNat_or, BitVec.toNat_ofNat, BitVec.toNat_ofNat, h64, Nat.mod_eq_of_lt h1, Nat.mod_eq_of_lt h2]
  have := Nat.two_pow_add_eq_or_of_lt (b := n) (i := 8) (by omega) m
  rw [show (2 : Nat) ^ 8 * m = m * 256 from by omega] at this
  exact this.symm

/-- a byte laid behind others -/
theorem XOp.orByte {m n : Nat} (hn : n < 256) (hm : m * 256 + n < 18446744073709551616) [e1 : Ev ts x (.int .u64 ((m : Int) * 256))] [e2 : Ev ts y (.int .u64 (n : Int))] : XOp P ts h (.bin .or (so (.binOp .or t x y t') ty) x y) (.int .u64 ((m * 256 + n : Nat) : Int)) h := by
  have := XOp.orI (P := P) (ts := ts) (h := h) (x := x) (y := y) (t := t) (t' := t') (ty := ty) (K := .u64) (p := (m : Int) * 256) (q := (n : Int))
  rw [show IntKind.u64.bits = 64 from rfl, or_byte hn hm, u64_in _ (by omega)] at this
  exact this
end

section
variable {P : Program} {T : Table} {ts : List Value} {ds : List Deferred} {h : Heap} {rd : Option Nat} {v : Value} {d size n i j : Nat} {c : List Value} {x lo hi : Operand} {p q : Int} {K J : IntKind} {chk : List (Option Nat × AOp × Option (Nat × Bool))} {pan : Bool} {rest : List AOper} {Q : QP} {F : Value → List Value}
theorem O.slice (i j : Nat) (hs : size ≠ 0) (ho : Own h size v c n) [e1 : Ev ts x v] [e2 : Ev ts lo (.int K p)] [e3 : Ev ts hi (.int J q)] [s : LSetF ts d F] (hp : p = i) (hq : q = j) (hij : i ≤ j) (hj : j ≤ n)
    (hk : ∀ v', (∀ b, blockOf v' b → ownedBy v b) → Rd h size v' ((c.drop (i * size)).take ((j - i) * size)) (j - i) → RunO P T rest ⟨F v', ds, h, rd⟩ Q) : RunO P T (⟨some d, .sliceSl size x (some lo) (some hi) none, none, chk, pan⟩ :: rest) ⟨ts, ds, h, rd⟩ Q := by
  obtain ⟨v', hx, hbl, hr⟩ := slice_own (e := eval ts) (lo := lo) (hi := hi) (K := K) (J := J) hs ho (by rw [e2.eq, hp]) (by rw [e3.eq, hq]) hij hj
  exact RunO.cons rfl (fun _ _ e => by cases e) (RunX.ok (h' := h) (v := v') (fun call => by rw [xo_plain rfl]; simp only [xop, e1.eq, hx]) (by
    show RunO P T rest ⟨lset ts d v', ds, h, rd⟩ Q
    rw [s.eq]; exact hk v' hbl hr))
theorem D.slice (i j : Nat) (hs : size ≠ 0) (ho : Own h size v c n) [e1 : Ev ts x v] [e2 : Ev ts lo (.int K p)] [e3 : Ev ts hi (.int J q)] [s : LSetF ts d F] (hp : p = i) (hq : q = j) (hij : i ≤ j) (hj : j ≤ n)
    (hk : ∀ v', (∀ b, blockOf v' b → ownedBy v b) → Rd h size v' ((c.drop (i * size)).take ((j - i) * size)) (j - i) → RunD P T rest ⟨F v', ds, h, rd⟩ Q) : RunD P T (⟨some d, .sliceSl size x (some lo) (some hi) none, none, [], pan⟩ :: rest) ⟨ts, ds, h, rd⟩ Q := by
  obtain ⟨v', hx, hbl, hr⟩ := slice_own (e := eval ts) (lo := lo) (hi := hi) (K := K) (J := J) hs ho (by rw [e2.eq, hp]) (by rw [e3.eq, hq]) hij hj
  exact RunD.cons rfl (RunX.ok (h' := h) (v := v') (fun call => by rw [xo_plain rfl]; simp only [xop, e1.eq, hx]) (by
    show _ ∧ RunD P T rest ⟨lset ts d v', ds, h, rd⟩ Q
    rw [s.eq]; exact ⟨rfl, hk v' hbl hr⟩))
end

section
variable {P : Program} {T : Table} {ts : List Value} {ds : List Deferred} {h : Heap} {rd : Option Nat} {v w : Value} {dst size bytes n m el : Nat} {zero c d : List Value} {zeros : Bool} {x y : Operand} {chk : List (Option Nat × AOp × Option (Nat × Bool))} {pan : Bool} {rest : List AOper} {Q : QP} {F : Value → List Value}
theorem O.append [e1 : Ev ts x v] [e2 : Ev ts y w] [s : LSetF ts dst F] (ho : Own h size v c n) (hx : newCells h size zero zeros w = some (m, d)) (hd : d.length = m * size) (h1 : d.all Value.oneCell' = true) (hs : size ≠ 0) (hb : bytes < 1048576) (hsm : n + m < 1048576)
    (hk : ∀ v' h', Own h' size v' (c ++ d) (n + m) → Fr (ownedBy v) h h' → (∀ i, ownedBy v' i → ownedBy v i ∨ h.n ≤ i) → RunO P T rest ⟨F v', ds, h', rd⟩ Q) : RunO P T (⟨some dst, .append el size bytes zero zeros x y, none, chk, pan⟩ :: rest) ⟨ts, ds, h, rd⟩ Q := by
  obtain ⟨v', h', hx, h2, h3, h4⟩ := append_own hs hb hsm ho hx hd h1
  exact RunO.cons rfl (fun _ _ e => by cases e) (RunX.ok (h' := h') (v := v') (fun call => by rw [xo_plain rfl]; simp only [xop, e1.eq, e2.eq, hx]) (by
    show RunO P T rest ⟨lset ts dst v', ds, h', rd⟩ Q
    rw [s.eq]; exact hk v' h' h2 h3 h4))
end

/-- a byte of a slice -/
theorem byte_cell {h : Heap} {b o n k : Nat} {l : List UInt8} (hc : cellsAt h b o n = some (bcells l)) (hk : k < n) : Cell h b (o + k) (.int .u8 (l.getD k 0).toNat) := by
  have hl := cellsAt_length hc
  have := cellsAt_sub (k := k) (m := 1) hc (by omega)
  refine ⟨by rw [this, take_one _ _ (by omega)]; congr 2; exact (bcells_get (l := l) (k := k) (by rw [bcells_len] at hl; omega)).eq⟩

/-- the number of bytes, the highest first -/
def bigN (l : List UInt8) : Nat := l.foldl (fun n b => n * 256 + b.toNat) 0
theorem bigN_snoc (l : List UInt8) (b : UInt8) : bigN (l ++ [b]) = bigN l * 256 + b.toNat := by simp [bigN]
theorem bigN_lt (l : List UInt8) : bigN l < 256 ^ l.length := by
  have key : ∀ (l : List UInt8) (n k : Nat), n < 256 ^ k → l.foldl (fun n b => n * 256 + b.toNat) n < 256 ^ (k + l.length) := by
    intro l
    induction l with
    | nil => intro n k h; simpa using h
    | cons b l ih =>
      intro n k h
      have := ih (n * 256 + b.toNat) (k + 1) (by
        have := b.toNat_lt
        rw [Nat.pow_succ]; omega)
      rw [List.foldl_cons, List.length_cons, show k + (l.length + 1) = (k + 1) + l.length from by omega]
      exact this
  have := key l 0 0 (by simp)
  rw [Nat.zero_add] at this
  exact this
theorem take_succ_getD {l : List UInt8} {k : Nat} (hk : k < l.length) : l.take (k + 1) = l.take k ++ [l.getD k 0] := by
  rw [List.take_succ_eq_append_getElem hk]
  simp [List.getD_eq_getElem?_getD, List.getElem?_eq_getElem hk]
theorem bigN_take {l : List UInt8} {k : Nat} (hk : k < l.length) : bigN (l.take (k + 1)) = bigN (l.take k) * 256 + (l.getD k 0).toNat := by
  rw [take_succ_getD hk, bigN_snoc]
theorem bigN_take_lt {l : List UInt8} {k : Nat} (hk : k < 8) : bigN (l.take k) < 72057594037927936 := by
  have h1 := bigN_lt (l.take k)
  have h2 : 256 ^ (l.take k).length ≤ 256 ^ 7 := Nat.pow_le_pow_right (by omega) (by simp; omega)
  omega

end Go.Vm
