/- Texts YF, W1, W2, ZG, ZJ, W3, WD, ZU, YA, YB, ZC. -/
import Derived.Test.YtkiheclcmgbmnaaG5
import Derived.Test.YtkiheclcmgbmnaaProg
set_option linter.unusedSimpArgs false
set_option linter.unusedVariables false
namespace Go.Proofs
open Go Go.Eng

abbrev F := BitVec 8
def toF (x : Int) : F := BitVec.ofInt 8 x
def ofF (x : F) : Int := (x.toNat : Nat)
def isB (x : Int) : Prop := 0 ≤ x ∧ x < 256
theorem ofF_isB {x : F} : isB (ofF x) := ⟨Int.natCast_nonneg _, by have := x.isLt; unfold ofF; omega⟩
theorem toF_ofF {x : F} : toF (ofF x) = x := by
  unfold toF ofF
  apply BitVec.eq_of_toNat_eq
  rw [BitVec.toNat_ofInt]
  have := x.isLt
  omega
theorem toF_toNat {x : Int} (h : isB x) : (toF x).toNat = x.toNat := by
  obtain ⟨h0, h1⟩ := h
  unfold toF
  rw [BitVec.toNat_ofInt]
  omega
theorem ofF_toF {x : Int} (h : isB x) : ofF (toF x) = x := by
  unfold ofF
  rw [toF_toNat h]
  obtain ⟨h0, h1⟩ := h
  omega
theorem toF_inj {x y : Int} (hx : isB x) (hy : isB y) (h : toF x = toF y) : x = y := by rw [← ofF_toF hx, ← ofF_toF hy, h]
theorem toF_zero : toF 0 = 0 := rfl
theorem toF_eq_zero {x : Int} (h : isB x) : toF x = 0 ↔ x = 0 := ⟨fun e => toF_inj h ⟨by omega, by omega⟩ e, fun e => by rw [e]; rfl⟩
theorem xorB_F {x y : Int} : xorB x y = ofF (toF x ^^^ toF y) := by
  have h : (BitVec.ofInt 8 x ^^^ BitVec.ofInt 8 y).toNat < 256 := (BitVec.ofInt 8 x ^^^ BitVec.ofInt 8 y).isLt
  unfold xorB arithOf ofF toF
  show IntKind.u8.wrap _ = _
  have hb : IntKind.u8.bits = 8 := rfl
  rw [hb]
  generalize (BitVec.ofInt 8 x ^^^ BitVec.ofInt 8 y).toNat = z at h ⊢
  simp only [IntKind.wrap, IntKind.bits, IntKind.signed]
  simp
  omega
theorem toF_xorB {x y : Int} : toF (xorB x y) = toF x ^^^ toF y := by rw [xorB_F, toF_ofF]

/-! ### Powers and exponents -/
def expF (n : Nat) : F := BitVec.ofNat 8 (expL.getD (n % 255) 0).toNat
def logF (x : F) : Nat := (logL.getD x.toNat 0).toNat
def fmul (x y : F) : F := if x = 0 ∨ y = 0 then 0 else expF (logF x + logF y)
def finv (x : F) : F := if x = 0 then 0 else expF (255 - logF x)
theorem expF_mod {n : Nat} : expF (n % 255) = expF n := by unfold expF; rw [Nat.mod_mod]
theorem expF_congr {n m : Nat} (h : n % 255 = m % 255) : expF n = expF m := by rw [← expF_mod, h, expF_mod]
theorem expF_toNat {n : Nat} : (expF n).toNat = (expL.getD (n % 255) 0).toNat := by
  have h := expL_range ⟨n % 255, by omega⟩
  simp only at h
  unfold expF
  rw [BitVec.toNat_ofNat]
  omega
theorem expF_ne {n : Nat} : expF n ≠ 0 := fun h => by
  have h1 := congrArg BitVec.toNat h
  rw [expF_toNat] at h1
  have h2 := expL_range ⟨n % 255, by omega⟩
  simp only at h2
  rw [show (0 : F).toNat = 0 by rfl] at h1
  omega
theorem logF_lt {x : F} : logF x < 255 := by
  have := logL_range ⟨x.toNat, x.isLt⟩
  simp only at this
  unfold logF
  omega
theorem exp_logF {x : F} (h : x ≠ 0) : expF (logF x) = x := by
  apply BitVec.eq_of_toNat_eq
  have h0 : x.toNat ≠ 0 := fun e => h (BitVec.eq_of_toNat_eq (by rw [e]; rfl))
  have h1 := exp_log ⟨x.toNat, x.isLt⟩ h0
  simp only at h1
  rw [expF_toNat, Nat.mod_eq_of_lt logF_lt, logF, h1]
  omega
theorem log_expF {n : Nat} : logF (expF n) = n % 255 := by
  have h := log_exp ⟨n % 255, by omega⟩
  simp only at h
  unfold logF
  rw [expF_toNat, h]
  omega
theorem expF_zero : expF 0 = 1 := by decide
/-! ### Products -/
theorem fmul_comm {x y : F} : fmul x y = fmul y x := by
  unfold fmul
  by_cases hx : x = 0
  · simp [hx]
  · by_cases hy : y = 0
    · simp [hy]
    · rw [if_neg (not_or.2 ⟨hx, hy⟩), if_neg (not_or.2 ⟨hy, hx⟩), Nat.add_comm]
theorem fmul_zero {x : F} : fmul x 0 = 0 := by simp [fmul]
theorem zero_fmul {x : F} : fmul 0 x = 0 := by simp [fmul]
theorem fmul_ne {x y : F} (hx : x ≠ 0) (hy : y ≠ 0) : fmul x y = expF (logF x + logF y) := by rw [fmul, if_neg (not_or.2 ⟨hx, hy⟩)]
theorem fmul_ne_zero {x y : F} (hx : x ≠ 0) (hy : y ≠ 0) : fmul x y ≠ 0 := by rw [fmul_ne hx hy]; exact expF_ne
theorem fmul_eq_zero {x y : F} : fmul x y = 0 ↔ x = 0 ∨ y = 0 := ⟨fun h => by
  by_cases hx : x = 0
  · exact .inl hx
  · by_cases hy : y = 0
    · exact .inr hy
    · exact (fmul_ne_zero hx hy h).elim, fun h => by rcases h with rfl | rfl; exact zero_fmul; exact fmul_zero⟩
theorem fmul_exp {n m : Nat} : fmul (expF n) (expF m) = expF (n + m) := by
  rw [fmul_ne expF_ne expF_ne, log_expF, log_expF]
  exact expF_congr (by omega)
theorem fmul_one {x : F} : fmul x 1 = x := by
  by_cases h : x = 0
  · rw [h, zero_fmul]
  · rw [← expF_zero]; conv => lhs; arg 1; rw [← exp_logF h]
    rw [fmul_exp, Nat.add_zero, exp_logF h]
theorem one_fmul {x : F} : fmul 1 x = x := by rw [fmul_comm, fmul_one]
theorem exists_exp {x : F} (h : x ≠ 0) : ∃ n, n < 255 ∧ x = expF n := ⟨logF x, logF_lt, (exp_logF h).symm⟩
theorem fmul_assoc {x y z : F} : fmul (fmul x y) z = fmul x (fmul y z) := by
  by_cases hx : x = 0
  · rw [hx, zero_fmul, zero_fmul, zero_fmul]
  by_cases hy : y = 0
  · rw [hy, fmul_zero, zero_fmul, fmul_zero]
  by_cases hz : z = 0
  · rw [hz, fmul_zero, fmul_zero, fmul_zero]
  obtain ⟨a, _, rfl⟩ := exists_exp hx
  obtain ⟨b, _, rfl⟩ := exists_exp hy
  obtain ⟨c, _, rfl⟩ := exists_exp hz
  rw [fmul_exp, fmul_exp, fmul_exp, fmul_exp, Nat.add_assoc]
theorem finv_ne {x : F} (h : x ≠ 0) : finv x ≠ 0 := by rw [finv, if_neg h]; exact expF_ne
theorem fmul_finv {x : F} (h : x ≠ 0) : fmul x (finv x) = 1 := by
  rw [finv, if_neg h]
  conv => lhs; arg 1; rw [← exp_logF h]
  have := logF_lt (x := x)
  rw [fmul_exp, ← expF_zero]
  exact expF_congr (by omega)
/-! ### Sums -/
def xt (x : F) : F := x <<< 1 ^^^ (if x.msb then 29#8 else 0#8)
theorem fmul_two' : ∀ i : Fin 256, fmul (BitVec.ofFin i) 2 = xt (BitVec.ofFin i) := by decide +kernel
theorem fmul_two {x : F} : fmul x 2 = xt x := fmul_two' x.toFin
theorem xt_xor {x y : F} : xt (x ^^^ y) = xt x ^^^ xt y := by
  unfold xt
  rw [BitVec.shiftLeft_xor_distrib, BitVec.msb_xor]
  have h1 : ∀ a b c : F, a ^^^ b ^^^ c = a ^^^ c ^^^ b := fun a b c => by rw [BitVec.xor_assoc, BitVec.xor_comm b c, ← BitVec.xor_assoc]
  cases x.msb <;> cases y.msb
  · simp
  · simp [BitVec.xor_assoc]
  · simp [h1 (x <<< 1) (29#8) (y <<< 1)]
  · simp only [bne_self_eq_false, Bool.false_eq_true, if_true, if_false, BitVec.xor_zero]
    rw [h1 (x <<< 1) (29#8), BitVec.xor_assoc (x <<< 1), BitVec.xor_assoc (y <<< 1), BitVec.xor_self, BitVec.xor_zero]
theorem fmul_xor_exp {x y : F} : ∀ n : Nat, fmul (x ^^^ y) (expF n) = fmul x (expF n) ^^^ fmul y (expF n)
  | 0 => by rw [expF_zero, fmul_one, fmul_one, fmul_one]
  | n + 1 => by
    have he : expF (n + 1) = fmul (expF n) 2 := by
      have : (2 : F) = expF 1 := by decide
      rw [this, fmul_exp]
    rw [he, ← fmul_assoc, ← fmul_assoc, ← fmul_assoc, fmul_xor_exp n, fmul_two, fmul_two, fmul_two, xt_xor]
theorem fmul_xor {x y z : F} : fmul (x ^^^ y) z = fmul x z ^^^ fmul y z := by
  by_cases hz : z = 0
  · rw [hz, fmul_zero, fmul_zero, fmul_zero]; rfl
  · obtain ⟨n, _, rfl⟩ := exists_exp hz
    exact fmul_xor_exp n
theorem xor_fmul {x y z : F} : fmul z (x ^^^ y) = fmul z x ^^^ fmul z y := by rw [fmul_comm, fmul_xor, fmul_comm, fmul_comm (x := y)]

/-! ### The tables' functions -/
theorem expT_F {i : Nat} (h : i < 510) : expT i = ofF (expF i) := by
  rw [expT_eq h, ofF, expF_toNat]
  by_cases hi : i < 255
  · rw [Nat.mod_eq_of_lt hi]
    have := expL_range ⟨i, h⟩
    simp only at this
    omega
  · have h1 := exp_per ⟨i - 255, by omega⟩
    have h2 := expL_range ⟨i, h⟩
    simp only at h1 h2
    rw [show i - 255 + 255 = i by omega] at h1
    rw [show i % 255 = i - 255 by omega, ← h1]
    omega
theorem logT_F {a : Int} (h : isB a) : logT a.toNat = (logF (toF a) : Nat) := by
  obtain ⟨h0, h1⟩ := h
  rw [logT_eq (by omega), logF, toF_toNat ⟨h0, h1⟩]
  have := logL_range ⟨a.toNat, by omega⟩
  simp only at this
  omega
theorem mulF_F {a b : Int} (ha : isB a) (hb : isB b) : mulF a b = ofF (fmul (toF a) (toF b)) := by
  unfold mulF fmul
  simp only [toF_eq_zero ha, toF_eq_zero hb]
  split
  · rfl
  · have h1 := logF_lt (x := toF a)
    have h2 := logF_lt (x := toF b)
    rw [logT_F ha, logT_F hb, expT_F (by omega)]
    congr 2
theorem invF_F {a : Int} (ha : isB a) : invF a = ofF (finv (toF a)) := by
  unfold invF finv
  simp only [toF_eq_zero ha]
  split
  · rfl
  · have h1 := logF_lt (x := toF a)
    rw [logT_F ha, expT_F (by omega)]
    congr 2
    omega
theorem mulF_isB {a b : Int} (ha : isB a) (hb : isB b) : isB (mulF a b) := by rw [mulF_F ha hb]; exact ofF_isB
theorem toF_mulF {a b : Int} (ha : isB a) (hb : isB b) : toF (mulF a b) = fmul (toF a) (toF b) := by rw [mulF_F ha hb, toF_ofF]
theorem invF_isB {a : Int} (ha : isB a) : isB (invF a) := by rw [invF_F ha]; exact ofF_isB
theorem toF_invF {a : Int} (ha : isB a) : toF (invF a) = finv (toF a) := by rw [invF_F ha, toF_ofF]
theorem xorB_isB {a b : Int} : isB (xorB a b) := by rw [xorB_F]; exact ofF_isB
def fpow (x : F) : Nat → F
  | 0 => 1
  | n + 1 => fmul (fpow x n) x
theorem fpow_exp {n : Nat} : ∀ m, fpow (expF n) m = expF (n * m)
  | 0 => by rw [Nat.mul_zero]; exact expF_zero.symm
  | m + 1 => by rw [fpow, fpow_exp m, fmul_exp, Nat.mul_succ]
theorem fpow_zero' {m : Nat} (h : 0 < m) : fpow 0 m = 0 := by
  cases m with
  | zero => omega
  | succ m => rw [fpow, fmul_zero]
theorem powF_F {a e : Int} (ha : isB a) (he : e < 9223372036854775808) : powF a e = ofF (fpow (toF a) e.toNat) := by
  unfold powF
  by_cases h0 : e ≤ 0
  · rw [if_pos h0, show e.toNat = 0 by omega]; rfl
  rw [if_neg h0]
  by_cases h1 : a = 0
  · rw [if_pos h1, h1, toF_zero, fpow_zero' (by omega)]; rfl
  rw [if_neg h1]
  have hx : toF a ≠ 0 := fun h => h1 ((toF_eq_zero ha).1 h)
  have hl := logF_lt (x := toF a)
  rw [logT_F ha]
  have e1 : e.tmod 255 = ((e.toNat % 255 : Nat) : Int) := by
    rw [Int.tmod_eq_emod_of_nonneg (by omega)]; omega
  rw [e1, ← Int.natCast_mul, Int.tmod_eq_emod_of_nonneg (by omega), expT_F (by omega)]
  congr 1
  conv => rhs; rw [← exp_logF hx, fpow_exp]
  refine expF_congr ?_
  have : ((logF (toF a) * (e.toNat % 255) : Nat) : Int) % 255 = ((logF (toF a) * (e.toNat % 255) % 255 : Nat) : Int) := by omega
  rw [this, Int.toNat_natCast, Nat.mod_mod, Nat.mul_mod, Nat.mod_mod, ← Nat.mul_mod]
theorem powF_isB {a e : Int} (ha : isB a) (he : e < 9223372036854775808) : isB (powF a e) := by rw [powF_F ha he]; exact ofF_isB
end Go.Proofs

set_option linter.unusedSimpArgs false
set_option linter.unusedVariables false
namespace Go.Proofs
open Go Go.Eng

theorem xor_left_comm (a b c : F) : a ^^^ (b ^^^ c) = b ^^^ (a ^^^ c) := by rw [← BitVec.xor_assoc, BitVec.xor_comm a b, BitVec.xor_assoc]
theorem xor_swap (a b c d : F) : (a ^^^ b) ^^^ (c ^^^ d) = (a ^^^ c) ^^^ (b ^^^ d) := by rw [BitVec.xor_assoc, BitVec.xor_assoc, xor_left_comm b c d]
theorem xor_eq_zero {a b : F} : a ^^^ b = 0 ↔ a = b := ⟨fun h => by
  have : a ^^^ b ^^^ b = b := by rw [h]; simp
  rwa [BitVec.xor_assoc, BitVec.xor_self, BitVec.xor_zero] at this, fun h => by rw [h]; exact BitVec.xor_self⟩
theorem xor_zero' {a : F} : a ^^^ 0 = a := BitVec.xor_zero
theorem zero_xor' {a : F} : 0 ^^^ a = a := BitVec.zero_xor
theorem xor_self' {a : F} : a ^^^ a = 0 := BitVec.xor_self
theorem xor_cancel {a b : F} : a ^^^ b ^^^ b = a := by rw [BitVec.xor_assoc, BitVec.xor_self, BitVec.xor_zero]
def fsum (f : Nat → F) : Nat → F
  | 0 => 0
  | n + 1 => fsum f n ^^^ f n
theorem fsum_congr {f g : Nat → F} {n : Nat} (h : ∀ i, i < n → f i = g i) : fsum f n = fsum g n := by
  induction n with
  | zero => rfl
  | succ n ih => rw [fsum, fsum, ih fun i hi => h i (by omega), h n (by omega)]
theorem fsum_zero {f : Nat → F} {n : Nat} (h : ∀ i, i < n → f i = 0) : fsum f n = 0 := by
  induction n with
  | zero => rfl
  | succ n ih => rw [fsum, ih fun i hi => h i (by omega), h n (by omega), xor_zero']
theorem fsum_xor {f g : Nat → F} {n : Nat} : fsum (fun i => f i ^^^ g i) n = fsum f n ^^^ fsum g n := by
  induction n with
  | zero => exact xor_zero'.symm
  | succ n ih => rw [fsum, fsum, fsum, ih, xor_swap]
theorem fsum_mul {f : Nat → F} {c : F} {n : Nat} : fsum (fun i => fmul c (f i)) n = fmul c (fsum f n) := by
  induction n with
  | zero => exact fmul_zero.symm
  | succ n ih => rw [fsum, fsum, ih, xor_fmul]
theorem fsum_mul' {f : Nat → F} {c : F} {n : Nat} : fsum (fun i => fmul (f i) c) n = fmul (fsum f n) c := by
  rw [fmul_comm, ← fsum_mul]
  exact fsum_congr fun i _ => fmul_comm
/-- All but one are 0. -/
theorem fsum_one {f : Nat → F} {n k : Nat} (hk : k < n) (h : ∀ i, i < n → i ≠ k → f i = 0) : fsum f n = f k := by
  induction n with
  | zero => omega
  | succ n ih =>
    rw [fsum]
    by_cases hkn : k = n
    · rw [fsum_zero fun i hi => h i (by omega) (by omega), hkn, zero_xor']
    · rw [ih (by omega) fun i hi => h i (by omega), h n (by omega) (by omega), xor_zero']
theorem fsum_swap {f : Nat → Nat → F} {n m : Nat} : fsum (fun i => fsum (fun j => f i j) m) n = fsum (fun j => fsum (fun i => f i j) n) m := by
  induction n with
  | zero => exact (fsum_zero fun _ _ => rfl).symm
  | succ n ih =>
    rw [fsum, ih, ← fsum_xor]
    rfl
def del (i j : Nat) : F := if i = j then 1 else 0
theorem fsum_del {f : Nat → F} {n k : Nat} (hk : k < n) : fsum (fun i => fmul (del i k) (f i)) n = f k := by
  rw [fsum_one hk fun i hi hik => by rw [del, if_neg hik, zero_fmul], del, if_pos rfl, one_fmul]
theorem fsum_del' {f : Nat → F} {n k : Nat} (hk : k < n) : fsum (fun i => fmul (f i) (del i k)) n = f k := by
  rw [fsum_one hk fun i hi hik => by rw [del, if_neg hik, fmul_zero], del, if_pos rfl, fmul_one]

/-! ### Rows and what they span -/
abbrev Mat := Nat → Nat → F
/-- v is a sum of multiples of the r rows of T, in the first w columns. -/
def spans (r w : Nat) (T : Mat) (v : Nat → F) : Prop := ∃ x : Nat → F, ∀ j, j < w → v j = fsum (fun i => fmul (x i) (T i j)) r
theorem spans_row {r w : Nat} {T : Mat} {i : Nat} (hi : i < r) : spans r w T (T i) := ⟨fun a => del a i, fun j _ => (fsum_del (f := fun a => T a j) hi).symm⟩
theorem spans_congr {r w : Nat} {T : Mat} {v v' : Nat → F} (h : spans r w T v) (he : ∀ j, j < w → v' j = v j) : spans r w T v' := by
  obtain ⟨x, hx⟩ := h
  exact ⟨x, fun j hj => by rw [he j hj, hx j hj]⟩
theorem spans_xor {r w : Nat} {T : Mat} {v v' : Nat → F} (h : spans r w T v) (h' : spans r w T v') : spans r w T (fun j => v j ^^^ v' j) := by
  obtain ⟨x, hx⟩ := h
  obtain ⟨y, hy⟩ := h'
  refine ⟨fun i => x i ^^^ y i, fun j hj => ?_⟩
  show v j ^^^ v' j = _
  rw [hx j hj, hy j hj, ← fsum_xor]
  exact fsum_congr fun i _ => fmul_xor.symm
theorem spans_mul {r w : Nat} {T : Mat} {v : Nat → F} {c : F} (h : spans r w T v) : spans r w T (fun j => fmul c (v j)) := by
  obtain ⟨x, hx⟩ := h
  refine ⟨fun i => fmul c (x i), fun j hj => ?_⟩
  show fmul c (v j) = _
  rw [hx j hj, ← fsum_mul]
  exact fsum_congr fun i _ => fmul_assoc.symm
theorem spans_trans {r w : Nat} {T T' : Mat} {v : Nat → F} (h : spans r w T' v) (hr : ∀ i, i < r → spans r w T (T' i)) : spans r w T v := by
  obtain ⟨x, hx⟩ := h
  let y : Nat → Nat → F := fun i => if h : i < r then (hr i h).choose else fun _ => 0
  have hy : ∀ i, i < r → ∀ j, j < w → T' i j = fsum (fun a => fmul (y i a) (T a j)) r := fun i hi j hj => by
    simp only [y, dif_pos hi]
    exact (hr i hi).choose_spec j hj
  refine ⟨fun a => fsum (fun i => fmul (x i) (y i a)) r, fun j hj => ?_⟩
  rw [hx j hj, fsum_congr fun i hi => by rw [hy i hi j hj, ← fsum_mul], fsum_swap]
  refine fsum_congr fun a _ => ?_
  rw [← fsum_mul']
  exact fsum_congr fun i _ => fmul_assoc.symm
/-- Two matrices whose rows span the same. -/
structure Same (r w : Nat) (T T' : Mat) : Prop where
  to : ∀ i, i < r → spans r w T (T' i)
  back : ∀ i, i < r → spans r w T' (T i)
theorem Same.refl {r w : Nat} {T : Mat} : Same r w T T := ⟨fun i hi => spans_row hi, fun i hi => spans_row hi⟩
theorem Same.trans {r w : Nat} {T T' T'' : Mat} (h : Same r w T T') (h' : Same r w T' T'') : Same r w T T'' :=
  ⟨fun i hi => spans_trans (h'.to i hi) h.to, fun i hi => spans_trans (h.back i hi) h'.back⟩
theorem Same.symm {r w : Nat} {T T' : Mat} (h : Same r w T T') : Same r w T' T := ⟨h.back, h.to⟩
theorem Same.spans {r w : Nat} {T T' : Mat} (h : Same r w T T') {v : Nat → F} : spans r w T v ↔ Go.Proofs.spans r w T' v := ⟨fun hv => spans_trans hv h.back, fun hv => spans_trans hv h.to⟩
/-- A multiple of one row added to another. -/
theorem same_add {r w : Nat} {T T' : Mat} {i p : Nat} {g : F} (hi : i < r) (hp : p < r) (hip : i ≠ p) (h1 : ∀ j, j < w → T' i j = T i j ^^^ fmul g (T p j)) (h2 : ∀ a, a < r → a ≠ i → ∀ j, j < w → T' a j = T a j) : Same r w T T' := by
  refine ⟨fun a ha => ?_, fun a ha => ?_⟩
  · by_cases hai : a = i
    · subst hai
      exact spans_congr (spans_xor (spans_row ha) (spans_mul (c := g) (spans_row hp))) h1
    · exact spans_congr (spans_row ha) (h2 a ha hai)
  · by_cases hai : a = i
    · subst hai
      refine spans_congr (spans_xor (spans_row ha) (spans_mul (c := g) (spans_row hp))) fun j hj => ?_
      rw [h1 j hj, h2 p hp (Ne.symm hip) j hj, xor_cancel]
    · exact spans_congr (spans_row ha) fun j hj => (h2 a ha hai j hj).symm
/-- One row multiplied by what is not 0. -/
theorem same_mul {r w : Nat} {T T' : Mat} {i : Nat} {g : F} (hi : i < r) (hg : g ≠ 0) (h1 : ∀ j, j < w → T' i j = fmul (T i j) g) (h2 : ∀ a, a < r → a ≠ i → ∀ j, j < w → T' a j = T a j) : Same r w T T' := by
  refine ⟨fun a ha => ?_, fun a ha => ?_⟩
  · by_cases hai : a = i
    · subst hai
      exact spans_congr (spans_mul (c := g) (spans_row ha)) fun j hj => by rw [h1 j hj, fmul_comm]
    · exact spans_congr (spans_row ha) (h2 a ha hai)
  · by_cases hai : a = i
    · subst hai
      refine spans_congr (spans_mul (c := finv g) (spans_row ha)) fun j hj => ?_
      rw [h1 j hj, fmul_comm, fmul_assoc, fmul_finv hg, fmul_one]
    · exact spans_congr (spans_row ha) fun j hj => (h2 a ha hai j hj).symm
/-! ### Steps -/
/-- Something that is spanned begins in this column. -/
def lead (r w : Nat) (T : Mat) (c : Nat) : Prop := ∃ v, spans r w T v ∧ (∀ j, j < c → v j = 0) ∧ v c ≠ 0
open Classical in
noncomputable def cnt (r w : Nat) (T : Mat) : Nat → Nat
  | 0 => 0
  | c + 1 => cnt r w T c + if lead r w T c then 1 else 0
theorem Same.lead {r w : Nat} {T T' : Mat} (h : Same r w T T') {c : Nat} : lead r w T c ↔ Go.Proofs.lead r w T' c := by
  unfold Go.Proofs.lead
  simp only [h.spans]
theorem cnt_le {r w : Nat} {T : Mat} : ∀ c, cnt r w T c ≤ c
  | 0 => Nat.le_refl _
  | c + 1 => by
    have := cnt_le (r := r) (w := w) (T := T) c
    unfold cnt; split <;> omega
theorem cnt_mono {r w : Nat} {T : Mat} {c : Nat} : ∀ d, cnt r w T c ≤ cnt r w T (c + d)
  | 0 => Nat.le_refl _
  | d + 1 => by
    have := cnt_mono (r := r) (w := w) (T := T) (c := c) d
    rw [← Nat.add_assoc]
    conv => rhs; unfold cnt
    omega
theorem cnt_lead {r w : Nat} {T : Mat} {c : Nat} (h : lead r w T c) : cnt r w T (c + 1) = cnt r w T c + 1 := by rw [cnt, if_pos h]
theorem cnt_not {r w : Nat} {T : Mat} {c : Nat} (h : ¬ lead r w T c) : cnt r w T (c + 1) = cnt r w T c := by rw [cnt, if_neg h]; rfl
theorem cnt_lt {r w : Nat} {T : Mat} {c c' : Nat} (h : lead r w T c) (hlt : c < c') : cnt r w T c < cnt r w T c' := by
  have := cnt_mono (r := r) (w := w) (T := T) (c := c + 1) (c' - (c + 1))
  rw [show c + 1 + (c' - (c + 1)) = c' by omega, cnt_lead h] at this
  omega
theorem cnt_inj {r w : Nat} {T : Mat} {c c' : Nat} (h : lead r w T c) (h' : lead r w T c') (he : cnt r w T c = cnt r w T c') : c = c' := by
  rcases Nat.lt_trichotomy c c' with h1 | h1 | h1
  · have := cnt_lt h h1; omega
  · exact h1
  · have := cnt_lt h' h1; omega
theorem cnt_onto {r w : Nat} {T : Mat} : ∀ {c i : Nat}, i < cnt r w T c → ∃ c', c' < c ∧ lead r w T c' ∧ cnt r w T c' = i
  | 0, i, h => by simp [cnt] at h
  | c + 1, i, h => by
    by_cases hl : lead r w T c
    · rw [cnt_lead hl] at h
      by_cases hi : i = cnt r w T c
      · exact ⟨c, by omega, hl, hi.symm⟩
      · obtain ⟨c', h1, h2, h3⟩ := cnt_onto (r := r) (w := w) (T := T) (c := c) (i := i) (by omega)
        exact ⟨c', by omega, h2, h3⟩
    · rw [cnt_not hl] at h
      obtain ⟨c', h1, h2, h3⟩ := cnt_onto (c := c) h
      exact ⟨c', by omega, h2, h3⟩
/-- T is T0 brought to steps in its first c columns. -/
structure Ech (r w : Nat) (T0 T : Mat) (c rank : Nat) : Prop where
  same : Same r w T0 T
  num : rank = cnt r w T0 c
  le : rank ≤ r
  col : ∀ c', c' < c → lead r w T0 c' → ∀ i, i < r → T i c' = del i (cnt r w T0 c')
  low : ∀ i, rank ≤ i → i < r → ∀ c', c' < c → T i c' = 0
theorem ech_start {r w : Nat} {T : Mat} : Ech r w T T 0 0 := ⟨Same.refl, rfl, Nat.zero_le _, fun c' h => by omega, fun i _ _ c' h => by omega⟩
/-- What is spanned and begins behind the columns so far is a sum of the lower rows. -/
theorem ech_low {r w : Nat} {T0 T : Mat} {c rank : Nat} (h : Ech r w T0 T c rank) (hc : c ≤ w) {v : Nat → F} (hv : spans r w T0 v) (h0 : ∀ j, j < c → v j = 0) :
    ∃ x : Nat → F, (∀ i, i < rank → x i = 0) ∧ ∀ j, j < w → v j = fsum (fun i => fmul (x i) (T i j)) r := by
  obtain ⟨x, hx⟩ := h.same.spans.1 hv
  refine ⟨x, fun i hi => ?_, hx⟩
  rw [h.num] at hi
  obtain ⟨c', h1, h2, h3⟩ := cnt_onto hi
  have hle := h.le
  have h4 := hx c' (by omega)
  rw [h0 c' h1, fsum_congr fun a ha => by rw [h.col c' h1 h2 a ha, h3]] at h4
  rw [fsum_del' (f := x) (by have := h.num; omega)] at h4
  exact h4.symm
theorem ech_skip {r w : Nat} {T0 T : Mat} {c rank : Nat} (h : Ech r w T0 T c rank) (hc : c < w) (hz : ∀ i, rank ≤ i → i < r → T i c = 0) : Ech r w T0 T (c + 1) rank := by
  have hn : ¬ lead r w T0 c := fun ⟨v, h1, h2, h3⟩ => by
    obtain ⟨x, hx, he⟩ := ech_low h (by omega) h1 h2
    apply h3
    rw [he c hc]
    refine fsum_zero fun i hi => ?_
    by_cases hir : i < rank
    · rw [hx i hir, zero_fmul]
    · rw [hz i (by omega) hi, fmul_zero]
  refine ⟨h.same, by rw [cnt_not hn]; exact h.num, h.le, fun c' hc' hl i hi => ?_, fun i h1 h2 c' hc' => ?_⟩
  · by_cases he : c' = c
    · rw [he] at hl; exact (hn hl).elim
    · exact h.col c' (by omega) hl i hi
  · by_cases he : c' = c
    · rw [he]; exact hz i h1 h2
    · exact h.low i h1 h2 c' (by omega)
/-- A step with a pivot: all that is asked of the new matrix. -/
theorem ech_step {r w : Nat} {T0 T T' : Mat} {c rank : Nat} (h : Ech r w T0 T c rank) (hc : c < w) (hr : rank < r) (hs : Same r w T T') (hcol : ∀ i, i < r → T' i c = del i rank)
    (hold : ∀ c', c' < c → ∀ i, i < r → T' i c' = T i c') : Ech r w T0 T' (c + 1) (rank + 1) := by
  have hl : lead r w T0 c := by
    refine ⟨T' rank, (h.same.trans hs).spans.2 (spans_row hr), fun j hj => ?_, ?_⟩
    · rw [hold j hj rank hr]; exact h.low rank (Nat.le_refl _) hr j hj
    · rw [hcol rank hr, del, if_pos rfl]; decide
  refine ⟨h.same.trans hs, by rw [cnt_lead hl, ← h.num], hr, fun c' hc' hl' i hi => ?_, fun i h1 h2 c' hc' => ?_⟩
  · by_cases he : c' = c
    · rw [he, hcol i hi, h.num]
    · rw [hold c' (by omega) i hi]; exact h.col c' (by omega) hl' i hi
  · by_cases he : c' = c
    · rw [he, hcol i h2, del, if_neg (by omega)]
    · rw [hold c' (by omega) i h2]; exact h.low i (by omega) h2 c' (by omega)
/-- Full rank: the first columns are the identity's. -/
theorem cnt_full {r w : Nat} {T : Mat} : ∀ {n : Nat}, cnt r w T n = n → ∀ c, c < n → lead r w T c ∧ cnt r w T c = c
  | 0, _, c, h => by omega
  | n + 1, he, c, h => by
    by_cases hl : lead r w T n
    · rw [cnt_lead hl] at he
      by_cases hc : c = n
      · exact ⟨by rw [hc]; exact hl, by rw [hc]; omega⟩
      · exact cnt_full (n := n) (by omega) c (by omega)
    · rw [cnt_not hl] at he
      have := cnt_le (r := r) (w := w) (T := T) n
      omega
theorem ech_full {r w : Nat} {T0 T : Mat} {n : Nat} (h : Ech r w T0 T n n) : ∀ i, i < r → ∀ c, c < n → T i c = del i c := fun i hi c hc => by
  obtain ⟨h1, h2⟩ := cnt_full h.num.symm c hc
  rw [h.col c hc h1 i hi, h2]
/-- Of a smaller rank: a column vector that the matrix brings to 0. -/
theorem ech_null {r w : Nat} {T0 T : Mat} {n rank : Nat} (h : Ech r w T0 T n rank) (hn : n ≤ w) (hlt : rank < n) : ∃ y : Nat → F, (∃ c, c < n ∧ y c ≠ 0) ∧ ∀ i, i < r → fsum (fun j => fmul (T0 i j) (y j)) n = 0 := by
  have hex : ∃ c, c < n ∧ ¬ lead r w T0 c := by
    refine Classical.byContradiction fun hno => ?_
    have hall : ∀ c, c < n → lead r w T0 c := fun c hc => Classical.byContradiction fun hl => hno ⟨c, hc, hl⟩
    have : ∀ c, c ≤ n → cnt r w T0 c = c := fun c => by
      induction c with
      | zero => intro _; rfl
      | succ c ih => intro hc; rw [cnt_lead (hall c (by omega)), ih (by omega)]
    have := this n (Nat.le_refl _)
    have := h.num
    omega
  obtain ⟨c, hc, hnl⟩ := hex
  let y : Nat → F := fun j => open Classical in if j = c then 1 else if lead r w T0 j then T (cnt r w T0 j) c else 0
  have hyc : y c = 1 := by simp [y]
  have hT : ∀ i, i < r → fsum (fun j => fmul (T i j) (y j)) n = 0 := fun i hi => by
    have hsplit : fsum (fun j => fmul (T i j) (y j)) n = fsum (fun j => fmul (if j = c then T i c else 0) 1) n ^^^ fsum (fun j => open Classical in if j ≠ c ∧ lead r w T0 j then fmul (del i (cnt r w T0 j)) (T (cnt r w T0 j) c) else 0) n := by
      rw [← fsum_xor]
      refine fsum_congr fun j hj => ?_
      by_cases hjc : j = c
      · subst hjc
        simp only [hyc, fmul_one, if_true, ne_eq, not_true, false_and, if_false, xor_zero']
      · simp only [if_neg hjc, zero_fmul, zero_xor']
        by_cases hl : lead r w T0 j
        · rw [if_pos ⟨hjc, hl⟩, h.col j hj hl i hi]; simp only [y, if_neg hjc, if_pos hl]
        · rw [if_neg fun hh => hl hh.2]; simp only [y, if_neg hjc, if_neg hl, fmul_zero]
    rw [hsplit, fsum_one hc fun j _ hj => by rw [if_neg hj, zero_fmul], if_pos rfl, fmul_one]
    by_cases hir : i < rank
    · rw [h.num] at hir
      obtain ⟨c', h1, h2, h3⟩ := cnt_onto hir
      have hcc : c' ≠ c := fun e => hnl (e ▸ h2)
      rw [fsum_one (k := c') h1 fun j hj hjc => ?_, if_pos ⟨hcc, h2⟩, h3, del, if_pos rfl, one_fmul, xor_self']
      split
      · rename_i hh
        rw [del, if_neg, zero_fmul]
        intro e
        exact hjc (cnt_inj hh.2 h2 (by rw [h3, e]))
      · rfl
    · rw [h.low i (by omega) hi c hc, zero_xor']
      refine fsum_zero fun j hj => ?_
      split
      · rename_i hh
        rw [del, if_neg, zero_fmul]
        have := cnt_lt hh.2 hj
        have := h.num
        omega
      · rfl
  refine ⟨y, ⟨c, hc, by rw [hyc]; decide⟩, fun i hi => ?_⟩
  obtain ⟨x, hx⟩ := h.same.back i hi
  rw [fsum_congr fun j hj => by rw [hx j (by omega), ← fsum_mul'], fsum_swap]
  refine fsum_zero fun a ha => ?_
  rw [fsum_congr (g := fun j => fmul (x a) (fmul (T a j) (y j))) fun j _ => fmul_assoc, fsum_mul, hT a ha, fmul_zero]
end Go.Proofs

set_option linter.unusedSimpArgs false
set_option linter.unusedVariables false
namespace Go.Proofs
open Go Go.Eng

def hornF (x : F) : List F → F
  | [] => 0
  | c :: l => fmul (hornF x l) x ^^^ c
theorem horn_nil {x : F} : hornF x [] = 0 := rfl
theorem horn_one {x c : F} : hornF x [c] = c := by rw [hornF, horn_nil, zero_fmul, zero_xor']
def divL (r : F) : List F → List F
  | [] => []
  | [_] => []
  | _ :: c' :: l => hornF r (c' :: l) :: divL r (c' :: l)
theorem divL_len {r : F} : ∀ {l : List F}, (divL r l).length = l.length - 1
  | [] => rfl
  | [_] => rfl
  | _ :: c' :: l => by simp only [divL, List.length_cons, divL_len (l := c' :: l)]; omega
theorem horn_div {x r : F} : ∀ {l : List F}, hornF x l ^^^ hornF r l = fmul (x ^^^ r) (hornF x (divL r l))
  | [] => by rw [divL, horn_nil, horn_nil, xor_self', fmul_zero]
  | [c] => by rw [divL, horn_one, horn_one, horn_nil, xor_self', fmul_zero]
  | c :: c' :: l => by
    have ih := horn_div (x := x) (r := r) (l := c' :: l)
    rw [divL, show hornF x (c :: c' :: l) = fmul (hornF x (c' :: l)) x ^^^ c from rfl, show hornF r (c :: c' :: l) = fmul (hornF r (c' :: l)) r ^^^ c from rfl]
    conv => rhs; rw [hornF]
    have h1 : ∀ a b d : F, a ^^^ b = fmul (x ^^^ r) d → fmul a x ^^^ c ^^^ (fmul b r ^^^ c) = fmul (x ^^^ r) (fmul d x ^^^ b) := fun a b d h => by
      rw [xor_swap, xor_self', xor_zero', xor_fmul (z := x ^^^ r), ← fmul_assoc, ← h, fmul_xor, fmul_comm (x := x ^^^ r), xor_fmul, ← BitVec.xor_assoc, xor_cancel]
    exact h1 _ _ _ ih
theorem div_zero {r : F} : ∀ {l : List F} {c : F}, (∀ y ∈ divL r (c :: l), y = 0) → ∀ y ∈ l, y = 0
  | [], _, _ => by simp
  | c' :: l, c, h => by
    simp only [divL, List.mem_cons, forall_eq_or_imp] at h
    have ht := div_zero (l := l) (c := c') h.2
    have hh : hornF r l = 0 := by
      clear h
      induction l with
      | nil => rfl
      | cons a l ih => rw [hornF, ih fun y hy => ht y (List.mem_cons_of_mem _ hy), zero_fmul, ht a (List.mem_cons_self ..), xor_zero']
    have h1 := h.1
    rw [hornF, hh, zero_fmul, zero_xor'] at h1
    intro y hy
    rcases List.mem_cons.1 hy with rfl | hy
    · exact h1
    · exact ht y hy
theorem horn_zero {x : F} : ∀ {l : List F}, (∀ y ∈ l, y = 0) → hornF x l = 0
  | [], _ => rfl
  | a :: l, h => by rw [hornF, horn_zero fun y hy => h y (List.mem_cons_of_mem _ hy), zero_fmul, h a (List.mem_cons_self ..), xor_zero']
def distinct (n : Nat) (xs : Nat → F) : Prop := ∀ i j, i < n → j < n → xs i = xs j → i = j
/-- As many different roots as coefficients: 0. -/
theorem roots_zero {xs : Nat → F} : ∀ {n : Nat} {l : List F}, l.length ≤ n → distinct n xs → (∀ i, i < n → hornF (xs i) l = 0) → ∀ y ∈ l, y = 0
  | 0, l, hl, _, _ => by
    have : l = [] := List.eq_nil_of_length_eq_zero (by omega)
    rw [this]; simp
  | n + 1, [], _, _, _ => by simp
  | n + 1, c :: t, hl, hd, hr => by
    simp only [List.length_cons] at hl
    have hq := roots_zero (n := n) (l := divL (xs n) (c :: t)) (by rw [divL_len, List.length_cons]; omega) (fun i j hi hj => hd i j (by omega) (by omega)) fun i hi => by
      have h := horn_div (x := xs i) (r := xs n) (l := c :: t)
      rw [hr i (by omega), hr n (by omega), xor_self'] at h
      rcases fmul_eq_zero.1 h.symm with h1 | h1
      · have := hd i n (by omega) (by omega) (xor_eq_zero.1 h1); omega
      · exact h1
    have ht := div_zero hq
    have h1 := hr n (by omega)
    rw [hornF, horn_zero ht, zero_fmul, zero_xor'] at h1
    intro y hy
    rcases List.mem_cons.1 hy with rfl | hy
    · exact h1
    · exact ht y hy
/-- A polynomial by its first n coefficients. -/
def pval (n : Nat) (y : Nat → F) (x : F) : F := fsum (fun j => fmul (y j) (fpow x j)) n
theorem horn_snoc {x c : F} : ∀ {l : List F}, hornF x (l ++ [c]) = hornF x l ^^^ fmul c (fpow x l.length)
  | [] => by rw [List.nil_append, horn_one, horn_nil, zero_xor', List.length_nil, fpow, fmul_one]
  | a :: l => by
    rw [List.cons_append, hornF, horn_snoc (l := l), hornF, fmul_xor, List.length_cons, fpow, BitVec.xor_assoc, BitVec.xor_assoc, fmul_assoc, BitVec.xor_comm a]
theorem horn_pval {y : Nat → F} {x : F} : ∀ n, hornF x ((List.range n).map y) = pval n y x
  | 0 => rfl
  | n + 1 => by
    rw [List.range_succ, List.map_append, List.map_cons, List.map_nil, horn_snoc, horn_pval n]
    simp [pval, fsum]
theorem pval_roots {n : Nat} {y : Nat → F} {xs : Nat → F} (hd : distinct n xs) (h : ∀ i, i < n → pval n y (xs i) = 0) : ∀ j, j < n → y j = 0 := fun j hj => by
  have := roots_zero (l := (List.range n).map y) (by simp) hd (fun i hi => by rw [horn_pval]; exact h i hi) (y j)
  exact this (List.mem_map.2 ⟨j, List.mem_range.2 hj, rfl⟩)
theorem horn_getD {x : F} {l : List F} {n : Nat} (hl : l.length ≤ n) : hornF x l = pval n (fun j => l.getD j 0) x := by
  have h1 : ∀ m, pval (l.length + m) (fun j => l.getD j 0) x = pval l.length (fun j => l.getD j 0) x := fun m => by
    induction m with
    | zero => rfl
    | succ m ih =>
      rw [← Nat.add_assoc, pval, fsum]
      rw [show fsum (fun j => fmul (l.getD j 0) (fpow x j)) (l.length + m) = pval (l.length + m) (fun j => l.getD j 0) x from rfl, ih]
      rw [show l.getD (l.length + m) 0 = 0 by rw [List.getD_eq_getElem?_getD, List.getElem?_eq_none (by omega)]; rfl, zero_fmul, xor_zero']
  rw [show n = l.length + (n - l.length) by omega, h1, ← horn_pval]
  congr 1
  apply List.ext_getElem?
  intro j
  by_cases hj : j < l.length
  · simp [List.getElem?_range hj, List.getD_eq_getElem?_getD, List.getElem?_eq_getElem hj]
  · simp [hj]

/-! ### Products of factors -/
def fprod (f : Nat → F) : Nat → F
  | 0 => 1
  | n + 1 => fmul (fprod f n) (f n)
theorem fprod_congr {f g : Nat → F} {n : Nat} (h : ∀ i, i < n → f i = g i) : fprod f n = fprod g n := by
  induction n with
  | zero => rfl
  | succ n ih => rw [fprod, fprod, ih fun i hi => h i (by omega), h n (by omega)]
theorem fprod_ne {f : Nat → F} {n : Nat} (h : ∀ i, i < n → f i ≠ 0) : fprod f n ≠ 0 := by
  induction n with
  | zero => exact (by decide : (1 : F) ≠ 0)
  | succ n ih => exact fmul_ne_zero (ih fun i hi => h i (by omega)) (h n (by omega))
theorem fprod_zero {f : Nat → F} {n k : Nat} (hk : k < n) (h : f k = 0) : fprod f n = 0 := by
  induction n with
  | zero => omega
  | succ n ih =>
    rw [fprod]
    by_cases hkn : k = n
    · rw [← hkn, h, fmul_zero]
    · rw [ih (by omega), zero_fmul]
/-- One factor apart. -/
theorem fprod_out {f : Nat → F} {n k : Nat} (hk : k < n) : fprod f n = fmul (f k) (fprod (fun m => if m = k then 1 else f m) n) := by
  induction n with
  | zero => omega
  | succ n ih =>
    rw [fprod, fprod]
    by_cases hkn : k = n
    · subst hkn
      rw [if_pos rfl, fmul_one, fmul_comm, fprod_congr (g := fun m => if m = k then 1 else f m) fun i hi => by rw [if_neg (by omega)]]
    · rw [ih (by omega), if_neg (by omega), fmul_assoc]
def byGo (r : F) : F → List F → List F
  | p, [] => [p]
  | p, c :: l => (p ^^^ fmul r c) :: byGo r c l
theorem byGo_len {r : F} : ∀ {p : F} {l : List F}, (byGo r p l).length = l.length + 1
  | _, [] => rfl
  | _, c :: l => by simp [byGo, byGo_len]
theorem byGo_horn {r x : F} : ∀ {p : F} {l : List F}, hornF x (byGo r p l) = p ^^^ fmul (x ^^^ r) (hornF x l)
  | p, [] => by rw [byGo, horn_one, horn_nil, fmul_zero, xor_zero']
  | p, c :: l => by
    rw [byGo, hornF, byGo_horn, hornF, fmul_xor, xor_fmul, BitVec.xor_comm _ (p ^^^ fmul r c), BitVec.xor_assoc, fmul_xor (x := x) (y := r) (z := c), ← fmul_assoc]
    congr 1
    rw [fmul_comm (x := c) (y := x), ← BitVec.xor_assoc, BitVec.xor_comm (fmul r c), BitVec.xor_comm]
theorem prod_poly (xs : Nat → F) (i : Nat) : ∀ n, ∃ l : List F, l.length = (if i < n then n else n + 1) ∧ ∀ x, hornF x l = fprod (fun m => if m = i then 1 else x ^^^ xs m) n
  | 0 => ⟨[1], by simp, fun x => by rw [horn_one, fprod]⟩
  | n + 1 => by
    obtain ⟨l, h1, h2⟩ := prod_poly xs i n
    by_cases hn : n = i
    · subst hn
      refine ⟨l, by rw [h1]; simp, fun x => by rw [h2, fprod, if_pos rfl, fmul_one]⟩
    · refine ⟨byGo (xs n) 0 l, ?_, fun x => ?_⟩
      · rw [byGo_len, h1]; split <;> split <;> omega
      · rw [byGo_horn, h2, fprod, if_neg hn, zero_xor', fmul_comm]
/-- The value at x of the polynomial that is 1 at point i and 0 at the others. -/
def lagF (n : Nat) (xs : Nat → F) (x : F) (i : Nat) : F := fmul (fprod (fun m => if m = i then 1 else x ^^^ xs m) n) (finv (fprod (fun m => if m = i then 1 else xs i ^^^ xs m) n))
theorem lag_del {n : Nat} {xs : Nat → F} (hd : distinct n xs) {i k : Nat} (hi : i < n) (hk : k < n) : lagF n xs (xs k) i = del i k := by
  unfold lagF del
  by_cases hik : i = k
  · subst hik
    rw [if_pos rfl, fmul_finv]
    refine fprod_ne fun m hm => ?_
    split
    · decide
    · rename_i hmi
      exact fun h => hmi (hd i m hi hm (xor_eq_zero.1 h)).symm
  · rw [if_neg hik, fprod_zero (k := k) hk (by rw [if_neg (Ne.symm hik)]; exact xor_self'), zero_fmul]
theorem lagrange {n : Nat} {xs : Nat → F} (hd : distinct n xs) {y : Nat → F} {x : F} : pval n y x = fsum (fun i => fmul (lagF n xs x i) (pval n y (xs i))) n := by
  have hex : ∀ i, ∃ l : Nat → F, i < n → ∀ x, pval n l x = lagF n xs x i := fun i => by
    obtain ⟨l, h1, h2⟩ := prod_poly xs i n
    refine ⟨fun j => fmul (l.getD j 0) (finv (fprod (fun m => if m = i then 1 else xs i ^^^ xs m) n)), fun hi x => ?_⟩
    rw [lagF, ← h2 x, horn_getD (n := n) (by rw [h1, if_pos hi]; exact Nat.le_refl _), pval, pval, ← fsum_mul']
    refine fsum_congr fun j _ => ?_
    rw [fmul_assoc, fmul_comm (x := finv _), ← fmul_assoc]
  let lc : Nat → Nat → F := fun i => (hex i).choose
  have hlc : ∀ i, i < n → ∀ x, pval n (lc i) x = lagF n xs x i := fun i hi => (hex i).choose_spec hi
  let S : Nat → F := fun j => y j ^^^ fsum (fun i => fmul (pval n y (xs i)) (lc i j)) n
  have hS : ∀ x, pval n S x = pval n y x ^^^ fsum (fun i => fmul (lagF n xs x i) (pval n y (xs i))) n := fun x => by
    have h1 : pval n S x = pval n y x ^^^ fsum (fun j => fsum (fun i => fmul (pval n y (xs i)) (fmul (lc i j) (fpow x j))) n) n := by
      simp only [pval]
      rw [← fsum_xor]
      refine fsum_congr fun j _ => ?_
      simp only [S]
      rw [fmul_xor]
      congr 1
      rw [← fsum_mul']
      exact fsum_congr fun i _ => fmul_assoc
    rw [h1, fsum_swap]
    congr 1
    refine fsum_congr fun i hi => ?_
    rw [fsum_mul, ← hlc i hi x, fmul_comm]
    rfl
  have h0 := pval_roots (y := S) hd fun k hk => by
    rw [hS, fsum_congr fun i hi => by rw [lag_del hd hi hk], fsum_del (f := fun i => pval n y (xs i)) hk, xor_self']
  have := hS x
  rw [show pval n S x = 0 from fsum_zero fun j hj => by rw [h0 j hj, zero_fmul]] at this
  exact xor_eq_zero.1 this.symm
/-- Rows of powers: only 0 is brought to 0. -/
theorem vander_inj {n : Nat} {xs : Nat → F} (hd : distinct n xs) {y : Nat → F} (h : ∀ i, i < n → fsum (fun j => fmul (fpow (xs i) j) (y j)) n = 0) : ∀ j, j < n → y j = 0 :=
  pval_roots hd fun i hi => by
    rw [pval, ← h i hi]
    exact fsum_congr fun j _ => fmul_comm
end Go.Proofs

set_option linter.unusedSimpArgs false
set_option linter.unusedVariables false
namespace Go.Eng
open Go

/-! ### What they compute -/
/-- The first n places filled, the others 0. -/
def fillTo (f : Nat → Int) (len n : Nat) : List Int := (List.range len).map fun i => if i < n then f i else 0
def identTo (n m : Nat) : List Int := (List.range (n * n)).map fun t => if t / n = t % n ∧ t / n < m then 1 else 0
def vanderF (cols : Nat) (i : Nat) : Int := powF (i / cols : Nat) (i % cols : Nat)
def vanderL (rows cols : Nat) : List Int := fillTo (vanderF cols) (rows * cols) (rows * cols)
/-- The product after t additions of rows. -/
def prodN (a b : List Int) (ra ca cb : Nat) : Nat → List Int
  | 0 => List.replicate (ra * cb) 0
  | t + 1 => addToL (prodN a b ra ca cb t) (t / ca * cb) (seg b (t % ca * cb) cb) (a.getD t 0)
def prodL (a b : List Int) (ra ca cb : Nat) : List Int := prodN a b ra ca cb (ra * ca)
/-- The row of the pivot. -/
def pivF (a : List Int) (ca c : Nat) : Nat → Nat → Nat
  | p, 0 => p
  | p, n + 1 => if a.getD (p * ca + c) 0 = 0 then pivF a ca c (p + 1) n else p
def elimRows (ca cb rank c : Nat) (a b : List Int) : Nat → List Int × List Int
  | 0 => (a, b)
  | i + 1 =>
    let s := elimRows ca cb rank c a b i
    if i = rank then s else
      (addToL s.1 (i * ca) (seg s.1 (rank * ca) ca) (s.1.getD (i * ca + c) 0), addToL s.2 (i * cb) (seg s.2 (rank * cb) cb) (s.1.getD (i * ca + c) 0))
def swapR (ca cb rank p : Nat) (a b : List Int) : List Int × List Int :=
  if p = rank then (a, b) else (addToL a (rank * ca) (seg a (p * ca) ca) 1, addToL b (rank * cb) (seg b (p * cb) cb) 1)
def scaleR (ca cb rank c : Nat) (a b : List Int) : List Int × List Int :=
  (scaleL a (rank * ca) ca (invF (a.getD (rank * ca + c) 0)), scaleL b (rank * cb) cb (invF (a.getD (rank * ca + c) 0)))
/-- The pivot's row is brought up and scaled. -/
def elimMid (rows ca cb c : Nat) (s : List Int × List Int × Nat) : List Int × List Int :=
  let s1 := swapR ca cb s.2.2 (pivF s.1 ca c s.2.2 (rows - s.2.2)) s.1 s.2.1
  scaleR ca cb s.2.2 c s1.1 s1.2
def elimStep (rows ca cb c : Nat) (s : List Int × List Int × Nat) : List Int × List Int × Nat :=
  if rows ≤ s.2.2 then s else
    if pivF s.1 ca c s.2.2 (rows - s.2.2) = rows then s else
      let s3 := elimRows ca cb s.2.2 c (elimMid rows ca cb c s).1 (elimMid rows ca cb c s).2 rows
      (s3.1, s3.2, s.2.2 + 1)
def elimN (rows ca cb : Nat) (a b : List Int) : Nat → List Int × List Int × Nat
  | 0 => (a, b, 0)
  | c + 1 => elimStep rows ca cb c (elimN rows ca cb a b c)

/-! ### Contracts -/
def mRet (a b : T) (r l c : Nat) : Bool × List T := (true, [.vint .i64 a, .vint .i64 b, .vslice r (.lit 0) (.var l) (.var c) 1])
def nilM : Bool × List T := (true, [.vint .i64 (.lit 0), .vint .i64 (.lit 0), .vnils])
def eRet (t : T) : Bool × List T := (false, [.vint .i64 t])
def ident40C : Ctr := { fn := 40, nv := 1, args := [iv .i64 (.var 0)], heap := [], ro := [], pre := fun _ => True, alts := [
  { k := 0, ret := .tup [nilM, eRet (.lit 2)], heap := [], post := fun ρ => (ρ 0).i < 1 ∨ 255 < (ρ 0).i },
  { k := 4, ret := .tup [mRet (.var 0) (.var 0) 1 2 3, eRet (.lit 0)], heap := [bHp 1 4 3], post := fun ρ => 1 ≤ (ρ 0).i ∧ (ρ 0).i ≤ 255 ∧ matOk (ρ 0).i (ρ 0).i (ρ 2).i (ρ 3).i (ρ 4).d ∧ (ρ 2).i = (ρ 4).d.length ∧ bI (ρ 4).d = identTo (ρ 0).i.toNat (ρ 0).i.toNat }] }
/-- 1000 the round, 1001 .. 1004 the matrix, 1005 its box. -/
def ident40I : Inv := { key := 5, nv := 7, env := [(0, iv .i64 (.var 0)), (2, .one (.vptr 1006 (.lit 0) 3 0)), (4, .one (.vptr 1005 (.lit 0) 3 0)), (16, iv .i64 (.var 0)), (17, iv .i64 (.var 1000))], heap := [.cells 1005 43 [.vint .i64 (.var 0), .vint .i64 (.var 0), .vslice 1001 (.lit 0) (.var 1002) (.var 1003) 1], .cells 1006 43 [.vint .i64 (.lit 0), .vint .i64 (.lit 0), .vnils], bHp 1001 1004 1003], inv := (fun ρ => 1 ≤ (ρ 0).i ∧ (ρ 0).i ≤ 255 ∧ 0 ≤ (ρ 1000).i ∧ (ρ 1000).i ≤ (ρ 0).i ∧ matOk (ρ 0).i (ρ 0).i (ρ 1002).i (ρ 1003).i (ρ 1004).d ∧ (ρ 1002).i = (ρ 1004).d.length ∧ bI (ρ 1004).d = identTo (ρ 0).i.toNat (ρ 1000).i.toNat), mu := (fun ρ => ((ρ 0).i - (ρ 1000).i).toNat) }
def vanderBad (r c : Int) : Prop := r < 1 ∨ 255 < r ∨ c < 1 ∨ 255 < c
def vander45C : Ctr := { fn := 45, nv := 4, args := [fArg, iv .i64 (.var 2), iv .i64 (.var 3)], heap := [fHp 1], ro := [], pre := fun ρ => fieldD (ρ 1).d, alts := [
  { k := 1, ret := .tup [nilM, eRet (.lit 2)], heap := [fHp 4], post := fun ρ => fieldD (ρ 4).d ∧ vanderBad (ρ 2).i (ρ 3).i },
  { k := 5, ret := .tup [mRet (.var 2) (.var 3) 4 5 6, eRet (.lit 0)], heap := [fHp 7, bHp 4 8 6], post := fun ρ => fieldD (ρ 7).d ∧ ¬ vanderBad (ρ 2).i (ρ 3).i ∧ matOk (ρ 2).i (ρ 3).i (ρ 5).i (ρ 6).i (ρ 8).d ∧ (ρ 5).i = (ρ 8).d.length ∧ bI (ρ 8).d = vanderL (ρ 2).i.toNat (ρ 3).i.toNat }] }
def vandHp : List SH := [fHp 1006, .cells 1007 43 [.vint .i64 (.lit 0), .vint .i64 (.lit 0), .vnils], .cells 1005 43 [.vint .i64 (.var 2), .vint .i64 (.var 3), .vslice 1001 (.lit 0) (.var 1002) (.var 1003) 1], bHp 1001 1004 1003]
def vandInv (ρ : Env) (n : Int) : Prop := ¬ vanderBad (ρ 2).i (ρ 3).i ∧ fieldD (ρ 1006).d ∧ matOk (ρ 2).i (ρ 3).i (ρ 1002).i (ρ 1003).i (ρ 1004).d ∧ (ρ 1002).i = (ρ 1004).d.length ∧ bI (ρ 1004).d = fillTo (vanderF (ρ 3).i.toNat) ((ρ 2).i.toNat * (ρ 3).i.toNat) n.toNat
/-- 1000 the row, 1001 .. 1004 the matrix, 1005 its box, 1006 the field. -/
def vander45I : Inv := { key := 7, nv := 8, env := [(0, fArg), (1, iv .i64 (.var 2)), (2, iv .i64 (.var 3)), (6, .one (.vptr 1007 (.lit 0) 3 0)), (8, .one (.vptr 1005 (.lit 0) 3 0)), (32, iv .i64 (.var 2)), (33, iv .i64 (.var 1000))], heap := vandHp, inv := (fun ρ => 0 ≤ (ρ 1000).i ∧ (ρ 1000).i ≤ (ρ 2).i ∧ vandInv ρ ((ρ 1000).i * (ρ 3).i)), mu := (fun ρ => ((ρ 2).i - (ρ 1000).i).toNat) }
/-- 1008 the column. -/
def vander45J : Inv := { key := 10, nv := 9, env := [(0, fArg), (1, iv .i64 (.var 2)), (2, iv .i64 (.var 3)), (6, .one (.vptr 1007 (.lit 0) 3 0)), (8, .one (.vptr 1005 (.lit 0) 3 0)), (32, iv .i64 (.var 2)), (33, iv .i64 (.var 1000)), (9, iv .i64 (.var 1000)), (36, iv .i64 (.var 3)), (37, iv .i64 (.var 1008))], heap := vandHp, inv := (fun ρ => 0 ≤ (ρ 1000).i ∧ (ρ 1000).i < (ρ 2).i ∧ 0 ≤ (ρ 1008).i ∧ (ρ 1008).i ≤ (ρ 3).i ∧ vandInv ρ ((ρ 1000).i * (ρ 3).i + (ρ 1008).i) ∧ (ρ 1000).i = (ρ 10).i), mu := (fun ρ => ((ρ 3).i - (ρ 1008).i).toNat) }
/-- Two matrices: a at 2 .. 8, b at 9 .. 15. -/
def argA : SV := mArg 2 3 4 5 6
def argB : SV := mArg 9 10 11 12 13
def validM (r c l : Int) : Prop := 1 ≤ r ∧ r ≤ 255 ∧ 1 ≤ c ∧ c ≤ 255 ∧ l = r * c
def prod49C : Ctr := { fn := 49, nv := 16, args := [fArg, argA, argB], heap := [fHp 1], ro := [bHp 4 7 8, bHp 11 14 15], pre := fun ρ => fieldD (ρ 1).d ∧ 0 ≤ (ρ 5).i ∧ (ρ 5).i ≤ (ρ 6).i ∧ (ρ 5).i ≤ (ρ 7).d.length ∧ allB (ρ 7).d ∧ 0 ≤ (ρ 12).i ∧ (ρ 12).i ≤ (ρ 13).i ∧ (ρ 12).i ≤ (ρ 14).d.length ∧ allB (ρ 14).d, alts := [
  { k := 1, ret := .tup [nilM, eRet (.lit 2)], heap := [fHp 16], post := fun ρ => fieldD (ρ 16).d ∧ ¬ (validM (ρ 2).i (ρ 3).i (ρ 5).i ∧ validM (ρ 9).i (ρ 10).i (ρ 12).i) },
  { k := 1, ret := .tup [nilM, eRet (.lit 10)], heap := [fHp 16], post := fun ρ => fieldD (ρ 16).d ∧ validM (ρ 2).i (ρ 3).i (ρ 5).i ∧ validM (ρ 9).i (ρ 10).i (ρ 12).i ∧ (ρ 3).i ≠ (ρ 9).i },
  { k := 5, ret := .tup [mRet (.var 2) (.var 10) 16 17 18, eRet (.lit 0)], heap := [fHp 19, bHp 16 20 18], post := fun ρ => fieldD (ρ 19).d ∧ validM (ρ 2).i (ρ 3).i (ρ 5).i ∧ validM (ρ 9).i (ρ 10).i (ρ 12).i ∧ (ρ 3).i = (ρ 9).i ∧ matOk (ρ 2).i (ρ 10).i (ρ 17).i (ρ 18).i (ρ 20).d ∧ (ρ 17).i = (ρ 20).d.length ∧ bI (ρ 20).d = prodL ((bI (ρ 7).d).take (ρ 5).i.toNat) ((bI (ρ 14).d).take (ρ 12).i.toNat) (ρ 2).i.toNat (ρ 3).i.toNat (ρ 10).i.toNat }] }
def zBox (r : Nat) : SH := .cells r 43 [.vint .i64 (.lit 0), .vint .i64 (.lit 0), .vnils]
def boxM (r a b s l c : Nat) : SH := .cells r 43 [.vint .i64 (.var a), .vint .i64 (.var b), .vslice s (.lit 0) (.var l) (.var c) 1]
def prodHp : List SH := [fHp 1006, zBox 1009, boxM 1007 2 3 4 5 6, boxM 1008 9 10 11 12 13, boxM 1005 2 10 1001 1002 1003, bHp 1001 1004 1003]
def prodEnv : List (Nat × SV) := [(0, fArg), (6, .one (.vptr 1009 (.lit 0) 3 0)), (4, .one (.vptr 1007 (.lit 0) 3 0)), (5, .one (.vptr 1008 (.lit 0) 3 0)), (8, .one (.vptr 1005 (.lit 0) 3 0)), (36, iv .i64 (.var 2)), (37, iv .i64 (.var 1000))]
def prodInv (ρ : Env) (t : Int) : Prop := validM (ρ 2).i (ρ 3).i (ρ 5).i ∧ validM (ρ 9).i (ρ 10).i (ρ 12).i ∧ (ρ 3).i = (ρ 9).i ∧ fieldD (ρ 1006).d ∧ matOk (ρ 2).i (ρ 10).i (ρ 1002).i (ρ 1003).i (ρ 1004).d ∧ (ρ 1002).i = (ρ 1004).d.length ∧ bI (ρ 1004).d = prodN ((bI (ρ 7).d).take (ρ 5).i.toNat) ((bI (ρ 14).d).take (ρ 12).i.toNat) (ρ 2).i.toNat (ρ 3).i.toNat (ρ 10).i.toNat t.toNat
def prod49I : Inv := { key := 9, nv := 10, env := prodEnv, heap := prodHp, inv := (fun ρ => 0 ≤ (ρ 1000).i ∧ (ρ 1000).i ≤ (ρ 2).i ∧ prodInv ρ ((ρ 1000).i * (ρ 3).i)), mu := (fun ρ => ((ρ 2).i - (ρ 1000).i).toNat) }
/-- 1009 the round, 1010 .. 1012 the row's place, length and capacity. -/
def prod49J : Inv := { key := 12, nv := 14, env := prodEnv ++ [(9, iv .i64 (.var 1000)), (42, bSl 4 1011 1012 1013), (43, iv .i64 (.var 1012)), (44, iv .i64 (.var 1010))], heap := prodHp, inv := (fun ρ => 0 ≤ (ρ 1000).i ∧ (ρ 1000).i < (ρ 2).i ∧ 0 ≤ (ρ 1010).i ∧ (ρ 1010).i ≤ (ρ 3).i ∧ (ρ 1011).i = (ρ 1000).i * (ρ 3).i ∧ (ρ 1012).i = (ρ 3).i ∧ prodInv ρ ((ρ 1000).i * (ρ 3).i + (ρ 1010).i) ∧ (ρ 1000).i = (ρ 26).i), mu := (fun ρ => ((ρ 3).i - (ρ 1010).i).toNat) }
end Go.Eng

set_option linter.unusedSimpArgs false
set_option linter.unusedVariables false
namespace Go.Eng
open Go

/-- An identity of a size that is allowed; powers of sizes that are. -/
def identGC : Ctr := { ident40C with pre := fun ρ => 1 ≤ (ρ 0).i ∧ (ρ 0).i ≤ 255, alts := ident40C.alts.drop 1 }
def vanderGC : Ctr := { vander45C with pre := fun ρ => fieldD (ρ 1).d ∧ ¬ vanderBad (ρ 2).i (ρ 3).i, alts := vander45C.alts.drop 1 }
/-- A copy, whose capacity is told of. -/
def cloneKC : Ctr := { clone84C with alts := [{ k := 3, ret := .agg [.vint .i64 (.var 0), .vint .i64 (.var 1), .vslice 7 (.lit 0) (.var 3) (.var 8) 1], heap := [bHp 7 9 8], post := fun ρ => (ρ 9).d = (ρ 5).d.take (ρ 3).i.toNat ∧ ((ρ 9).d.length : Int) ≤ (ρ 8).i }] }
def fullM (r c l cap : Int) (d : Rows') : Prop := matOk r c l cap d ∧ l = d.length
def elim83C : Ctr := { fn := 83, nv := 16, args := [fArg, argA, argB], heap := [fHp 1, bHp 4 7 8, bHp 11 14 15], ro := [], pre := fun ρ => fieldD (ρ 1).d ∧ fullM (ρ 2).i (ρ 3).i (ρ 5).i (ρ 6).i (ρ 7).d ∧ fullM (ρ 9).i (ρ 10).i (ρ 12).i (ρ 13).i (ρ 14).d ∧ (ρ 9).i = (ρ 2).i, alts := [
  { k := 4, ret := iv .i64 (.var 16), heap := [fHp 17, bHp 4 18 8, bHp 11 19 15], post := fun ρ => fieldD (ρ 17).d ∧ fullM (ρ 2).i (ρ 3).i (ρ 5).i (ρ 6).i (ρ 18).d ∧ fullM (ρ 9).i (ρ 10).i (ρ 12).i (ρ 13).i (ρ 19).d ∧ 0 ≤ (ρ 16).i ∧ (ρ 16).i ≤ (ρ 2).i ∧ (bI (ρ 18).d, bI (ρ 19).d, (ρ 16).i.toNat) = elimN (ρ 2).i.toNat (ρ 3).i.toNat (ρ 10).i.toNat (bI (ρ 7).d) (bI (ρ 14).d) (ρ 3).i.toNat }] }
def elimHp : List SH := [fHp 1002, boxM 1003 2 3 4 5 6, boxM 1004 9 10 11 12 13, bHp 4 1005 8, bHp 11 1006 15]
def elimEnv : List (Nat × SV) := [(0, fArg), (4, .one (.vptr 1003 (.lit 0) 3 0)), (5, .one (.vptr 1004 (.lit 0) 3 0)), (7, iv .i64 (.var 1000)), (8, iv .i64 (.var 1001))]
/-- The matrices are in order; the rank and the column. -/
def elimW (r ca cb l1 c1 l2 c2 rank c : Int) (f da db : Rows') : Prop := fieldD f ∧ fullM r ca l1 c1 da ∧ fullM r cb l2 c2 db ∧ 0 ≤ rank ∧ rank ≤ r ∧ 0 ≤ c ∧ c ≤ ca
def elimO (r ca cb l1 c1 l2 c2 rank c : Int) (f da db a0 b0 : Rows') : Prop := elimW r ca cb l1 c1 l2 c2 rank c f da db ∧ (bI da, bI db, rank.toNat) = elimN r.toNat ca.toNat cb.toNat (bI a0) (bI b0) c.toNat
def elim83I : Inv := { key := 3, nv := 7, env := elimEnv, heap := elimHp, inv := (fun ρ => elimO (ρ 2).i (ρ 3).i (ρ 10).i (ρ 5).i (ρ 6).i (ρ 12).i (ρ 13).i (ρ 1000).i (ρ 1001).i (ρ 1002).d (ρ 1005).d (ρ 1006).d (ρ 7).d (ρ 14).d), mu := (fun ρ => ((ρ 3).i - (ρ 1001).i).toNat) }
/-- 1007 the row that is looked at. -/
def elimP (r ca cb l1 c1 l2 c2 rank c p : Int) (f da db a0 b0 : Rows') : Prop := elimO r ca cb l1 c1 l2 c2 rank c f da db a0 b0 ∧ rank < r ∧ c < ca ∧ rank ≤ p ∧ p ≤ r ∧ pivF (bI da) ca.toNat c.toNat p.toNat (r.toNat - p.toNat) = pivF (bI da) ca.toNat c.toNat rank.toNat (r.toNat - rank.toNat)
def elim83J : Inv := { key := 6, nv := 8, env := elimEnv ++ [(9, iv .i64 (.var 1007))], heap := elimHp, inv := (fun ρ => elimP (ρ 2).i (ρ 3).i (ρ 10).i (ρ 5).i (ρ 6).i (ρ 12).i (ρ 13).i (ρ 1000).i (ρ 1001).i (ρ 1007).i (ρ 1002).d (ρ 1005).d (ρ 1006).d (ρ 7).d (ρ 14).d ∧ (ρ 1001).i = (ρ 19).i), mu := (fun ρ => ((ρ 2).i - (ρ 1007).i).toNat) }
/-- 1007 the row from which is taken. -/
def elimQ (r ca cb l1 c1 l2 c2 rank c i : Int) (f da db a0 b0 : Rows') : Prop :=
  elimW r ca cb l1 c1 l2 c2 rank c f da db ∧ rank < r ∧ c < ca ∧ 0 ≤ i ∧ i ≤ r ∧ ∃ s, s = elimN r.toNat ca.toNat cb.toNat (bI a0) (bI b0) c.toNat ∧ s.2.2 = rank.toNat ∧
    pivF s.1 ca.toNat c.toNat rank.toNat (r.toNat - rank.toNat) ≠ r.toNat ∧
    (bI da, bI db) = elimRows ca.toNat cb.toNat rank.toNat c.toNat (elimMid r.toNat ca.toNat cb.toNat c.toNat s).1 (elimMid r.toNat ca.toNat cb.toNat c.toNat s).2 i.toNat
def elim83K : Inv := { key := 16, nv := 8, env := elimEnv ++ [(97, iv .i64 (.var 2)), (98, iv .i64 (.var 1007))], heap := elimHp, inv := (fun ρ => elimQ (ρ 2).i (ρ 3).i (ρ 10).i (ρ 5).i (ρ 6).i (ρ 12).i (ρ 13).i (ρ 1000).i (ρ 1001).i (ρ 1007).i (ρ 1002).d (ρ 1005).d (ρ 1006).d (ρ 7).d (ρ 14).d ∧ (ρ 1001).i = (ρ 19).i), mu := (fun ρ => ((ρ 2).i - (ρ 1007).i).toNat) }
/-- The elimination of a square matrix beside the identity. -/
def invE (m : List Int) (n : Nat) : List Int × List Int × Nat := elimN n n n m (identTo n n) n
def inverse55C : Ctr := { fn := 55, nv := 9, args := [fArg, argA], heap := [fHp 1], ro := [bHp 4 7 8], pre := fun ρ => fieldD (ρ 1).d ∧ 0 ≤ (ρ 5).i ∧ (ρ 5).i ≤ (ρ 6).i ∧ (ρ 5).i ≤ (ρ 7).d.length ∧ allB (ρ 7).d, alts := [
  { k := 2, ret := .tup [nilM, eRet (.var 9)], heap := [fHp 10], post := fun ρ => fieldD (ρ 10).d ∧ ((¬ validM (ρ 2).i (ρ 3).i (ρ 5).i ∧ (ρ 9).i = 2) ∨ (validM (ρ 2).i (ρ 3).i (ρ 5).i ∧ (ρ 2).i ≠ (ρ 3).i ∧ (ρ 9).i = 10) ∨ (validM (ρ 2).i (ρ 3).i (ρ 5).i ∧ (ρ 2).i = (ρ 3).i ∧ (invE ((bI (ρ 7).d).take (ρ 5).i.toNat) (ρ 2).i.toNat).2.2 < (ρ 2).i.toNat ∧ (ρ 9).i = 11)) },
  { k := 5, ret := .tup [mRet (.var 2) (.var 2) 9 10 11, eRet (.lit 0)], heap := [fHp 12, bHp 9 13 11], post := fun ρ => fieldD (ρ 12).d ∧ validM (ρ 2).i (ρ 3).i (ρ 5).i ∧ (ρ 2).i = (ρ 3).i ∧ fullM (ρ 2).i (ρ 2).i (ρ 10).i (ρ 11).i (ρ 13).d ∧ (invE ((bI (ρ 7).d).take (ρ 5).i.toNat) (ρ 2).i.toNat).2.2 = (ρ 2).i.toNat ∧ bI (ρ 13).d = (invE ((bI (ρ 7).d).take (ρ 5).i.toNat) (ρ 2).i.toNat).2.1 }] }
def topE (k total : Nat) : List Int × List Int × Nat := invE ((vanderL total k).take (k * k)) k
def genL (k total : Nat) : List Int := prodL (vanderL total k) (topE k total).2.1 total k k
def gen35C : Ctr := { fn := 35, nv := 4, args := [fArg, iv .i64 (.var 2), iv .i64 (.var 3)], heap := [fHp 1], ro := [], pre := fun ρ => fieldD (ρ 1).d, alts := [
  { k := 1, ret := .tup [nilM, eRet (.lit 2)], heap := [fHp 4], post := fun ρ => fieldD (ρ 4).d ∧ (sizesB (ρ 2).i (ρ 3).i = true → (topE (ρ 2).i.toNat (ρ 3).i.toNat).2.2 < (ρ 2).i.toNat) },
  { k := 6, ret := .tup [mRet (.var 3) (.var 2) 4 5 6, eRet (.lit 0)], heap := [fHp 7, bHp 4 8 6, .abs 9 2], post := fun ρ => fieldD (ρ 7).d ∧ sizesB (ρ 2).i (ρ 3).i = true ∧ fullM (ρ 3).i (ρ 2).i (ρ 5).i (ρ 6).i (ρ 8).d ∧ (topE (ρ 2).i.toNat (ρ 3).i.toNat).2.2 = (ρ 2).i.toNat ∧ bI (ρ 8).d = genL (ρ 2).i.toNat (ρ 3).i.toNat }] }
end Go.Eng

set_option linter.unusedSimpArgs false
set_option linter.unusedVariables false
namespace Go.Proofs
open Go Go.Eng

def bytesL (l : List Int) : Prop := ∀ x ∈ l, isB x
theorem bytesL_get {l : List Int} (h : bytesL l) (i : Nat) : isB (l.getD i 0) := by
  rw [List.getD_eq_getElem?_getD]
  by_cases hi : i < l.length
  · rw [List.getElem?_eq_getElem hi]; exact h _ (List.getElem_mem hi)
  · rw [List.getElem?_eq_none (by omega)]; exact ⟨by simp, by simp⟩
def matL (ca : Nat) (l : List Int) : Mat := fun i j => toF (l.getD (i * ca + j) 0)
def augL (ca cb : Nat) (a b : List Int) : Mat := fun i j => if j < ca then matL ca a i j else matL cb b i (j - ca)
theorem row_in {i i' ca j : Nat} (hj : j < ca) : (i * ca ≤ i' * ca + j ∧ i' * ca + j < i * ca + ca) ↔ i' = i := by
  constructor
  · intro ⟨h1, h2⟩
    rcases Nat.lt_trichotomy i' i with h | h | h
    · have := Nat.mul_le_mul_right ca (show i' + 1 ≤ i by omega)
      rw [Nat.add_mul, Nat.one_mul] at this; omega
    · exact h
    · have := Nat.mul_le_mul_right ca (show i + 1 ≤ i' by omega)
      rw [Nat.add_mul, Nat.one_mul] at this; omega
  · rintro rfl; omega
theorem cell_lt {i r ca j : Nat} (hi : i < r) (hj : j < ca) : i * ca + j < r * ca := by
  have := Nat.mul_le_mul_right ca (show i + 1 ≤ r by omega)
  rw [Nat.add_mul, Nat.one_mul] at this; omega
theorem row_le {i r ca : Nat} (hi : i < r) : i * ca + ca ≤ r * ca := by
  have := Nat.mul_le_mul_right ca (show i + 1 ≤ r by omega)
  rwa [Nat.add_mul, Nat.one_mul] at this
theorem addToL_bytes {l s : List Int} {off : Nat} {c : Int} (h : bytesL l) : bytesL (addToL l off s c) := fun x hx => by
  obtain ⟨i, hi⟩ := List.getElem?_of_mem hx
  rw [addToL_get] at hi
  obtain ⟨y, hy, rfl⟩ := Option.map_eq_some_iff.1 hi
  split
  · exact xorB_isB
  · exact h y (List.mem_of_getElem? hy)
theorem scaleL_bytes {l : List Int} {off n : Nat} {c : Int} (h : bytesL l) (hc : isB c) : bytesL (scaleL l off n c) := fun x hx => by
  obtain ⟨i, hi⟩ := List.getElem?_of_mem hx
  rw [scaleL_get] at hi
  obtain ⟨y, hy, rfl⟩ := Option.map_eq_some_iff.1 hi
  have := h y (List.mem_of_getElem? hy)
  split
  · exact mulF_isB this hc
  · exact this
theorem matL_add {ca r i p : Nat} {a : List Int} {g : Int} (ha : a.length = r * ca) (hb : bytesL a) (hg : isB g) (hi : i < r) (hp : p < r) {i' j : Nat} (hi' : i' < r) (hj : j < ca) :
    matL ca (addToL a (i * ca) (seg a (p * ca) ca) g) i' j = if i' = i then matL ca a i j ^^^ fmul (toF g) (matL ca a p j) else matL ca a i' j := by
  have hlt := cell_lt hi' hj
  have hsl : (seg a (p * ca) ca).length = ca := seg_len (by rw [ha]; exact row_le hp)
  unfold matL
  rw [List.getD_eq_getElem?_getD, addToL_get, List.getElem?_eq_getElem (by omega), Option.map_some, Option.getD_some, hsl]
  by_cases he : i' = i
  · subst he
    rw [if_pos ⟨by omega, by omega⟩, if_pos rfl, show i' * ca + j - i' * ca = j by omega]
    have hs : (seg a (p * ca) ca).getD j 0 = a.getD (p * ca + j) 0 := by
      rw [List.getD_eq_getElem?_getD, seg_get, if_pos hj, List.getD_eq_getElem?_getD]
    rw [hs, toF_xorB, toF_mulF hg (bytesL_get hb _), List.getD_eq_getElem?_getD (l := a) (i := i' * ca + j), List.getElem?_eq_getElem (by omega), Option.getD_some]
  · rw [if_neg (fun h => he ((row_in hj).1 h)), if_neg he, List.getD_eq_getElem?_getD, List.getElem?_eq_getElem (by omega), Option.getD_some]
theorem matL_scale {ca r i : Nat} {a : List Int} {g : Int} (ha : a.length = r * ca) (hb : bytesL a) (hg : isB g) (hi : i < r) {i' j : Nat} (hi' : i' < r) (hj : j < ca) :
    matL ca (scaleL a (i * ca) ca g) i' j = if i' = i then fmul (matL ca a i j) (toF g) else matL ca a i' j := by
  have hlt := cell_lt hi' hj
  unfold matL
  rw [List.getD_eq_getElem?_getD, scaleL_get, List.getElem?_eq_getElem (by omega), Option.map_some, Option.getD_some]
  by_cases he : i' = i
  · subst he
    rw [if_pos ⟨by omega, by omega⟩, if_pos rfl, List.getD_eq_getElem?_getD, List.getElem?_eq_getElem (by omega), Option.getD_some, toF_mulF (hb _ (List.getElem_mem _)) hg]
  · rw [if_neg (fun h => he ((row_in hj).1 h)), if_neg he, List.getD_eq_getElem?_getD, List.getElem?_eq_getElem (by omega), Option.getD_some]
/-- Two lists of bytes, as many rows of ca and of cb. -/
structure Two (r ca cb : Nat) (a b : List Int) : Prop where
  la : a.length = r * ca
  lb : b.length = r * cb
  ba : bytesL a
  bb : bytesL b
variable {r ca cb : Nat} {a b : List Int}
theorem Two.add (h : Two r ca cb a b) {i p : Nat} {g : Int} : Two r ca cb (addToL a (i * ca) (seg a (p * ca) ca) g) (addToL b (i * cb) (seg b (p * cb) cb) g) :=
  ⟨by rw [addToL_len, h.la], by rw [addToL_len, h.lb], addToL_bytes h.ba, addToL_bytes h.bb⟩
theorem Two.scale (h : Two r ca cb a b) {i : Nat} {g : Int} (hg : isB g) : Two r ca cb (scaleL a (i * ca) ca g) (scaleL b (i * cb) cb g) :=
  ⟨by rw [scaleL_len, h.la], by rw [scaleL_len, h.lb], scaleL_bytes h.ba hg, scaleL_bytes h.bb hg⟩
theorem aug_add (h : Two r ca cb a b) {i p : Nat} {g : Int} (hg : isB g) (hi : i < r) (hp : p < r) {i' j : Nat} (hi' : i' < r) (hj : j < ca + cb) :
    augL ca cb (addToL a (i * ca) (seg a (p * ca) ca) g) (addToL b (i * cb) (seg b (p * cb) cb) g) i' j = if i' = i then augL ca cb a b i j ^^^ fmul (toF g) (augL ca cb a b p j) else augL ca cb a b i' j := by
  unfold augL
  by_cases hjc : j < ca
  · simp only [if_pos hjc]; exact matL_add h.la h.ba hg hi hp hi' hjc
  · simp only [if_neg hjc]; exact matL_add h.lb h.bb hg hi hp hi' (by omega)
theorem aug_scale (h : Two r ca cb a b) {i : Nat} {g : Int} (hg : isB g) (hi : i < r) {i' j : Nat} (hi' : i' < r) (hj : j < ca + cb) :
    augL ca cb (scaleL a (i * ca) ca g) (scaleL b (i * cb) cb g) i' j = if i' = i then fmul (augL ca cb a b i j) (toF g) else augL ca cb a b i' j := by
  unfold augL
  by_cases hjc : j < ca
  · simp only [if_pos hjc]; exact matL_scale h.la h.ba hg hi hi' hjc
  · simp only [if_neg hjc]; exact matL_scale h.lb h.bb hg hi hi' (by omega)
theorem aug_left {c i : Nat} (hc : c < ca) : augL ca cb a b i c = toF (a.getD (i * ca + c) 0) := by rw [augL, if_pos hc, matL]
theorem piv_facts (a : List Int) (ca c : Nat) : ∀ n p, p ≤ pivF a ca c p n ∧ pivF a ca c p n ≤ p + n ∧ (pivF a ca c p n < p + n → a.getD (pivF a ca c p n * ca + c) 0 ≠ 0) ∧ ∀ i, p ≤ i → i < pivF a ca c p n → a.getD (i * ca + c) 0 = 0
  | 0, p => by simp only [pivF]; exact ⟨Nat.le_refl _, Nat.le_refl _, fun h => by omega, fun i h1 h2 => by omega⟩
  | n + 1, p => by
    obtain ⟨h1, h2, h3, h4⟩ := piv_facts a ca c n (p + 1)
    simp only [pivF]
    split
    · rename_i hz
      refine ⟨by omega, by omega, fun h => h3 (by omega), fun i hi1 hi2 => ?_⟩
      by_cases hip : i = p
      · rw [hip]; exact hz
      · exact h4 i (by omega) hi2
    · rename_i hz
      exact ⟨Nat.le_refl _, by omega, fun _ => hz, fun i h1 h2 => by omega⟩
theorem Two.rows (h : Two r ca cb a b) {rank c : Nat} : ∀ i, Two r ca cb (elimRows ca cb rank c a b i).1 (elimRows ca cb rank c a b i).2
  | 0 => h
  | i + 1 => by
    have ih := Two.rows h (rank := rank) (c := c) i
    simp only [elimRows]
    split
    · exact ih
    · exact ih.add
/-- The other rows are cleared. -/
theorem aug_rows (h : Two r ca cb a b) {rank c : Nat} (hr : rank < r) (hc : c < ca) : ∀ i, i ≤ r →
    (∀ i' j, i' < r → j < ca + cb → augL ca cb (elimRows ca cb rank c a b i).1 (elimRows ca cb rank c a b i).2 i' j = if i' < i ∧ i' ≠ rank then augL ca cb a b i' j ^^^ fmul (augL ca cb a b i' c) (augL ca cb a b rank j) else augL ca cb a b i' j) ∧
    Same r (ca + cb) (augL ca cb a b) (augL ca cb (elimRows ca cb rank c a b i).1 (elimRows ca cb rank c a b i).2)
  | 0, _ => ⟨fun i' j _ _ => by rw [if_neg (by omega)]; rfl, Same.refl⟩
  | i + 1, hi => by
    obtain ⟨ih, ihs⟩ := aug_rows h hr hc i (by omega)
    have hT := h.rows (rank := rank) (c := c) i
    simp only [elimRows]
    by_cases hir : i = rank
    · rw [if_pos hir]
      refine ⟨fun i' j hi' hj => ?_, ihs⟩
      rw [ih i' j hi' hj]
      by_cases h1 : i' < i ∧ i' ≠ rank
      · rw [if_pos h1, if_pos ⟨by omega, h1.2⟩]
      · rw [if_neg h1, if_neg (by omega)]
    · rw [if_neg hir]
      simp only
      have hg := bytesL_get hT.ba (i * ca + c)
      have hgv : toF ((elimRows ca cb rank c a b i).1.getD (i * ca + c) 0) = augL ca cb a b i c := by
        rw [← aug_left (cb := cb) (b := (elimRows ca cb rank c a b i).2) hc, ih i c (by omega) (by omega), if_neg (by omega)]
      have hstep := fun i' j (hi' : i' < r) (hj : j < ca + cb) => aug_add hT (g := (elimRows ca cb rank c a b i).1.getD (i * ca + c) 0) hg (show i < r by omega) hr hi' hj
      refine ⟨fun i' j hi' hj => ?_, ihs.trans (same_add (i := i) (p := rank) (g := toF ((elimRows ca cb rank c a b i).1.getD (i * ca + c) 0)) (by omega) hr hir (fun j hj => by rw [hstep i j (by omega) hj, if_pos rfl]) fun a' ha' hne j hj => by rw [hstep a' j ha' hj, if_neg hne])⟩
      rw [hstep i' j hi' hj]
      by_cases he : i' = i
      · subst he
        rw [if_pos rfl, hgv, ih i' j hi' hj, if_neg (by omega), ih rank j hr hj, if_neg (by omega), if_pos ⟨by omega, hir⟩]
      · rw [if_neg he, ih i' j hi' hj]
        by_cases h1 : i' < i ∧ i' ≠ rank
        · rw [if_pos h1, if_pos ⟨by omega, h1.2⟩]
        · rw [if_neg h1, if_neg (by omega)]
/-- One column. -/
theorem elim_step {T0 : Mat} {c rank : Nat} (h2 : Two r ca cb a b) (h : Ech r (ca + cb) T0 (augL ca cb a b) c rank) (hc : c < ca) :
    Two r ca cb (elimStep r ca cb c (a, b, rank)).1 (elimStep r ca cb c (a, b, rank)).2.1 ∧ Ech r (ca + cb) T0 (augL ca cb (elimStep r ca cb c (a, b, rank)).1 (elimStep r ca cb c (a, b, rank)).2.1) (c + 1) (elimStep r ca cb c (a, b, rank)).2.2 := by
  unfold elimStep
  simp only
  by_cases hr : r ≤ rank
  · rw [if_pos hr]
    exact ⟨h2, ech_skip h (by omega) fun i (h1 : rank ≤ i) h3 => by omega⟩
  rw [if_neg hr]
  obtain ⟨p1, p2, p3, p4⟩ := piv_facts a ca c (r - rank) rank
  by_cases hp : pivF a ca c rank (r - rank) = r
  · rw [if_pos hp]
    refine ⟨h2, ech_skip h (by omega) fun i (h1 : rank ≤ i) h3 => ?_⟩
    rw [aug_left hc, p4 i h1 (by omega)]; rfl
  rw [if_neg hp]
  simp only
  generalize hpv : pivF a ca c rank (r - rank) = p at p1 p2 p3 p4 hp
  have hpr : p < r := by omega
  have hnz := p3 (by omega)
  have hmid : elimMid r ca cb c (a, b, rank) = scaleR ca cb rank c (swapR ca cb rank p a b).1 (swapR ca cb rank p a b).2 := by
    unfold elimMid; simp only [hpv]
  -- the pivot's row is added
  have h1 : Two r ca cb (swapR ca cb rank p a b).1 (swapR ca cb rank p a b).2 ∧ Same r (ca + cb) (augL ca cb a b) (augL ca cb (swapR ca cb rank p a b).1 (swapR ca cb rank p a b).2) ∧
      augL ca cb (swapR ca cb rank p a b).1 (swapR ca cb rank p a b).2 rank c ≠ 0 ∧ (∀ i j, i < r → j < ca + cb → i ≠ rank → augL ca cb (swapR ca cb rank p a b).1 (swapR ca cb rank p a b).2 i j = augL ca cb a b i j) ∧
      ∀ c', c' < c → augL ca cb (swapR ca cb rank p a b).1 (swapR ca cb rank p a b).2 rank c' = 0 := by
    have hpc : augL ca cb a b p c ≠ 0 := by
      rw [aug_left hc]
      intro h0
      exact hnz ((toF_eq_zero (bytesL_get h2.ba _)).1 h0)
    unfold swapR
    by_cases hpe : p = rank
    · rw [if_pos hpe]
      exact ⟨h2, Same.refl, by rw [← hpe]; exact hpc, fun _ _ _ _ _ => rfl, fun c' hc' => h.low rank (Nat.le_refl _) (by omega) c' hc'⟩
    · rw [if_neg hpe]
      have hst := fun i' j (hi' : i' < r) (hj : j < ca + cb) => aug_add h2 (g := 1) ⟨by omega, by omega⟩ (show rank < r by omega) hpr hi' hj
      have h1 : toF 1 = 1 := rfl
      refine ⟨h2.add, same_add (i := rank) (p := p) (g := toF 1) (by omega) hpr (Ne.symm hpe) (fun j hj => by simp only; rw [hst rank j (by omega) hj, if_pos rfl]) (fun a' ha' hne j hj => by simp only; rw [hst a' j ha' hj, if_neg hne]), ?_, fun i j hi hj hne => by simp only; rw [hst i j hi hj, if_neg hne], fun c' hc' => ?_⟩
      · simp only
        rw [hst rank c (by omega) (by omega), if_pos rfl, h1, one_fmul]
        rw [aug_left hc (i := rank), p4 rank (Nat.le_refl _) (by omega), toF_zero, zero_xor']
        exact hpc
      · simp only
        rw [hst rank c' (by omega) (by omega), if_pos rfl, h1, one_fmul, h.low rank (Nat.le_refl _) (by omega) c' hc', h.low p (by omega) hpr c' hc', xor_zero']
  rw [hmid]
  generalize swapR ca cb rank p a b = s1 at h1
  obtain ⟨t1, same1, nz1, oth1, low1⟩ := h1
  -- it is scaled
  have hgB := invF_isB (bytesL_get t1.ba (rank * ca + c))
  have hgv : toF (invF (s1.1.getD (rank * ca + c) 0)) = finv (augL ca cb s1.1 s1.2 rank c) := by rw [toF_invF (bytesL_get t1.ba _), aug_left hc]
  have t2 : Two r ca cb (scaleR ca cb rank c s1.1 s1.2).1 (scaleR ca cb rank c s1.1 s1.2).2 := t1.scale hgB
  have hsc : ∀ i j, i < r → j < ca + cb → augL ca cb (scaleR ca cb rank c s1.1 s1.2).1 (scaleR ca cb rank c s1.1 s1.2).2 i j = if i = rank then fmul (augL ca cb s1.1 s1.2 rank j) (finv (augL ca cb s1.1 s1.2 rank c)) else augL ca cb s1.1 s1.2 i j := fun i j hi hj => by
    rw [← hgv]
    exact aug_scale t1 hgB (by omega) hi hj
  generalize scaleR ca cb rank c s1.1 s1.2 = s2 at t2 hsc
  have same2 : Same r (ca + cb) (augL ca cb s1.1 s1.2) (augL ca cb s2.1 s2.2) := same_mul (i := rank) (g := finv (augL ca cb s1.1 s1.2 rank c)) (by omega) (finv_ne nz1) (fun j hj => by rw [hsc rank j (by omega) hj, if_pos rfl]) fun a' ha' hne j hj => by rw [hsc a' j ha' hj, if_neg hne]
  have one2 : augL ca cb s2.1 s2.2 rank c = 1 := by rw [hsc rank c (by omega) (by omega), if_pos rfl, fmul_finv nz1]
  have low2 : ∀ c', c' < c → augL ca cb s2.1 s2.2 rank c' = 0 := fun c' hc' => by rw [hsc rank c' (by omega) (by omega), if_pos rfl, low1 c' hc', zero_fmul]
  have oth2 : ∀ i j, i < r → j < ca + cb → i ≠ rank → augL ca cb s2.1 s2.2 i j = augL ca cb a b i j := fun i j hi hj hne => by rw [hsc i j hi hj, if_neg hne, oth1 i j hi hj hne]
  -- the others are cleared
  obtain ⟨r3, same3⟩ := aug_rows t2 (rank := rank) (c := c) (by omega) hc r (Nat.le_refl _)
  refine ⟨t2.rows r, ech_step h (by omega) (by omega) ((same1.trans same2).trans same3) (fun i hi => ?_) fun c' hc' i hi => ?_⟩
  · rw [r3 i c hi (by omega), one2, fmul_one]
    by_cases hir : i = rank
    · rw [if_neg (by omega), hir, one2, del, if_pos rfl]
    · rw [if_pos ⟨hi, hir⟩, xor_self', del, if_neg hir]
  · rw [r3 i c' hi (by omega), low2 c' hc', fmul_zero, xor_zero']
    by_cases hir : i = rank
    · rw [if_neg (by omega), hir, low2 c' hc', h.low rank (Nat.le_refl _) (by omega) c' hc']
    · rw [if_pos ⟨hi, hir⟩, oth2 i c' hi (by omega) hir]
theorem elim_ech (h : Two r ca cb a b) : ∀ c, c ≤ ca → Two r ca cb (elimN r ca cb a b c).1 (elimN r ca cb a b c).2.1 ∧ Ech r (ca + cb) (augL ca cb a b) (augL ca cb (elimN r ca cb a b c).1 (elimN r ca cb a b c).2.1) c (elimN r ca cb a b c).2.2
  | 0, _ => ⟨h, ech_start⟩
  | c + 1, hc => by
    obtain ⟨h1, h2⟩ := elim_ech h c (by omega)
    rw [elimN]
    exact elim_step h1 h2 (by omega)
end Go.Proofs

set_option linter.unusedSimpArgs false
set_option linter.unusedVariables false
namespace Go.Proofs
open Go Go.Eng
/-! ### Plainly -/
theorem toList_loop (bs : ByteArray) : ∀ (n i : Nat) (r : List UInt8), bs.size - i = n → ByteArray.toList.loop bs i r = r.reverse ++ bs.data.toList.drop i
  | 0, i, r, h => by
    unfold ByteArray.toList.loop
    have hs : bs.size = bs.data.size := rfl
    rw [if_neg (by omega), List.drop_eq_nil_of_le (by simp; omega), List.append_nil]
  | n + 1, i, r, h => by
    unfold ByteArray.toList.loop
    have hs : bs.size = bs.data.size := rfl
    have hi : i < bs.data.toList.length := by simp; omega
    rw [if_pos (by omega), toList_loop bs n (i + 1) _ (by omega), List.drop_eq_getElem_cons hi, List.reverse_cons, List.append_assoc]
    congr 1
    simp only [List.singleton_append, List.cons.injEq, and_true]
    show bs.data[i]! = _
    have hi2 : i < bs.data.size := by simpa using hi
    rw [getElem!_pos bs.data i hi2]
    simp
theorem toList_mk (l : List UInt8) : ByteArray.toList ⟨l.toArray⟩ = l := by
  unfold ByteArray.toList
  rw [toList_loop _ _ 0 [] rfl]
  simp
theorem str_eq {a : List UInt8} : vStr (.string ⟨a.toArray⟩) = a := toList_mk a
theorem bytes_of {d : Rows'} (h : allB d) : bytesL (bI d) := allB_list h
theorem allB_of {d : Rows'} (h : bytesL (bI d)) : allB d := fun row hr => h (rowI row 0) (List.mem_map.2 ⟨row, hr, rfl⟩)
theorem bytesOf_eq {d : Rows'} : bytesOf d = (bI d).map fun x => UInt8.ofNat x.toNat := by
  simp only [bytesOf, bI, List.map_map]
  exact List.map_congr_left fun r hr => rfl
theorem u8_inj {x y : Int} (hx : isB x) (hy : isB y) (h : UInt8.ofNat x.toNat = UInt8.ofNat y.toNat) : x = y := by
  have h1 := congrArg UInt8.toNat h
  simp only [UInt8.toNat_ofNat'] at h1
  obtain ⟨a0, a1⟩ := hx
  obtain ⟨b0, b1⟩ := hy
  omega
theorem bytesOf_inj {d d' : Rows'} (h : allB d) (h' : allB d') : bytesOf d = bytesOf d' ↔ bI d = bI d' := by
  rw [bytesOf_eq, bytesOf_eq]
  refine ⟨fun he => ?_, fun he => by rw [he]⟩
  have hb := bytes_of h
  have hb' := bytes_of h'
  revert hb hb' he
  generalize bI d = l
  generalize bI d' = l'
  clear h h'
  induction l generalizing l' with
  | nil => intro he _ _; cases l' with
    | nil => rfl
    | cons y l' => cases he
  | cons x l ih => intro he hb hb'; cases l' with
    | nil => cases he
    | cons y l' =>
      simp only [List.map_cons, List.cons.injEq] at he
      rw [u8_inj (hb x (List.mem_cons_self ..)) (hb' y (List.mem_cons_self ..)) he.1, ih l' he.2 (fun z hz => hb z (List.mem_cons_of_mem _ hz)) fun z hz => hb' z (List.mem_cons_of_mem _ hz)]
end Go.Proofs

set_option linter.unusedSimpArgs false
set_option linter.unusedVariables false
namespace Go.Eng
open Go

/-- A generator of sizes that are allowed, if the square of the first rows has full rank. -/
def genGC : Ctr := { gen35C with pre := fun ρ => fieldD (ρ 1).d ∧ sizesB (ρ 2).i (ρ 3).i = true ∧ (topE (ρ 2).i.toNat (ρ 3).i.toNat).2.2 = (ρ 2).i.toNat, alts := gen35C.alts.drop 1 }
/-! ### Encode, plainly -/
def fullL (data : List Int) (n : Nat) : List Int := data ++ List.replicate (n - data.length) 0
def pieceLen (k len : Nat) : Nat := (len + k - 1) / k
def pieceN (g full : List Int) (k l i : Nat) : Nat → List Int
  | 0 => List.replicate l 0
  | j + 1 => addToL (pieceN g full k l i j) 0 (seg full (j * l) l) (g.getD (i * k + j) 0)
/-- Piece i of an object. -/
def encP (k total : Nat) (data : List Int) (i : Nat) : List Int :=
  pieceN (genL k total) (fullL data (k * pieceLen k data.length)) k (pieceLen k data.length) i k
def kPiece : List CK := [.int .i64, .any]
/-- The first n pieces. -/
def encAt (h : Hp) (D : Rows') (n : Nat) (f : Nat → List Int) : Prop := ∀ j, j < n → ∃ v d, D[j]? = some [.int .i64 j, v] ∧ Rd h kB v d ∧ bI d = f j ∧ allB d
def encode31C : Ctr := { fn := 31, nv := 9, args := [fArg, iv .i64 (.var 2), iv .i64 (.var 3), .one (.vslice 4 (.lit 0) (.var 5) (.var 6) 1)], heap := [fHp 1], ro := [bHp 4 7 8], pre := fun ρ => fieldD (ρ 1).d ∧ (ρ 5).i = (ρ 7).d.length ∧ allB (ρ 7).d ∧ (sizesB (ρ 2).i (ρ 3).i = true → (topE (ρ 2).i.toNat (ρ 3).i.toNat).2.2 = (ρ 2).i.toNat), alts := [
  { k := 2, ret := .tup [(false, [.vnils]), eRet (.var 9)], heap := [fHp 10], post := fun ρ => fieldD (ρ 10).d ∧ ((sizesB (ρ 2).i (ρ 3).i = false ∧ (ρ 9).i = 2) ∨ (sizesB (ρ 2).i (ρ 3).i = true ∧ 8192 < (ρ 5).i ∧ (ρ 9).i = 3)) },
  { k := 5, ret := .tup [(false, [.vslice 9 (.lit 0) (.var 3) (.var 10) 2]), eRet (.lit 0)], heap := [fHp 11, .arr 9 36 kPiece (.var 12) (.var 10), .abs 13 2], post := fun ρ => fieldD (ρ 11).d ∧ sizesB (ρ 2).i (ρ 3).i = true ∧ (ρ 5).i ≤ 8192 ∧ (ρ 12).d.length = (ρ 3).i.toNat ∧ encAt (ρ 13).h (ρ 12).d (ρ 3).i.toNat (encP (ρ 2).i.toNat (ρ 3).i.toNat (bI (ρ 7).d)) }] }
def encHp : List SH := [fHp 1008, boxM 1004 3 2 1009 1010 1011, bHp 1009 1012 1011, bHp 1001 1013 1003, .arr 1005 36 kPiece (.var 1014) (.var 1006)]
def encEnv : List (Nat × SV) := [(0, fArg), (10, iv .i64 (.var 1000)), (12, .one (.vslice 1001 (.lit 0) (.var 1002) (.var 1003) 1)), (13, .one (.vptr 1004 (.lit 0) 3 0)), (15, .one (.vslice 1005 (.lit 0) (.var 3) (.var 1006) 2)), (53, iv .i64 (.var 3)), (54, iv .i64 (.var 1007))]
/-- What stands while pieces are made: the piece's length, the object with its zeros, the generator. -/
def encW (k total len l lf cf lg cg i : Int) (f dg df D data : Rows') : Prop :=
  fieldD f ∧ sizesB k total = true ∧ len ≤ 8192 ∧ len = data.length ∧ allB data ∧ l = (pieceLen k.toNat data.length : Nat) ∧ l ≤ 8192 ∧ lf = k * l ∧ lf = df.length ∧ allB df ∧ bI df = fullL (bI data) (k.toNat * l.toNat) ∧
    fullM total k lg cg dg ∧ bI dg = genL k.toNat total.toNat ∧ D.length = total.toNat ∧ (∀ row ∈ D, row.length = 2) ∧ 0 ≤ i ∧ i ≤ total
def encode31I : Inv := { key := 13, nv := 16, env := encEnv, heap := encHp ++ [.abs 1015 2], inv := (fun ρ => encW (ρ 2).i (ρ 3).i (ρ 5).i (ρ 1000).i (ρ 1002).i (ρ 1003).i (ρ 1010).i (ρ 1011).i (ρ 1007).i (ρ 1008).d (ρ 1012).d (ρ 1013).d (ρ 1014).d (ρ 7).d ∧ encAt (ρ 1015).h (ρ 1014).d (ρ 1007).i.toNat (encP (ρ 2).i.toNat (ρ 3).i.toNat (bI (ρ 7).d))), mu := (fun ρ => ((ρ 3).i - (ρ 1007).i).toNat) }
/-- 1016 .. 1018 the piece, 1019 .. 1021 the generator's row, 1022 the round. -/
def encode31J : Inv := { key := 17, nv := 23, env := encEnv ++ [(16, iv .i64 (.var 1007)), (17, .one (.vslice 1016 (.lit 0) (.var 1000) (.var 1017) 1)), (61, bSl 1009 1019 1020 1021), (62, iv .i64 (.var 1020)), (63, iv .i64 (.var 1022))], heap := encHp ++ [bHp 1016 1018 1017, .abs 1015 2], inv := (fun ρ => encW (ρ 2).i (ρ 3).i (ρ 5).i (ρ 1000).i (ρ 1002).i (ρ 1003).i (ρ 1010).i (ρ 1011).i (ρ 1007).i (ρ 1008).d (ρ 1012).d (ρ 1013).d (ρ 1014).d (ρ 7).d ∧ encAt (ρ 1015).h (ρ 1014).d (ρ 1007).i.toNat (encP (ρ 2).i.toNat (ρ 3).i.toNat (bI (ρ 7).d)) ∧ (ρ 1007).i = (ρ 29).i ∧ (ρ 1007).i < (ρ 3).i ∧ (ρ 1019).i = (ρ 1007).i * (ρ 2).i ∧ (ρ 1020).i = (ρ 2).i ∧ 0 ≤ (ρ 1022).i ∧ (ρ 1022).i ≤ (ρ 2).i ∧ (ρ 1018).d.length = (ρ 1000).i.toNat ∧ allB (ρ 1018).d ∧ bI (ρ 1018).d = pieceN (bI (ρ 1012).d) (bI (ρ 1013).d) (ρ 2).i.toNat (ρ 1000).i.toNat (ρ 1007).i.toNat (ρ 1022).i.toNat), mu := (fun ρ => ((ρ 2).i - (ρ 1022).i).toNat) }
def lawRet : Alt := { k := 0, ret := .one (.vbool (.bl true)), heap := [], post := fun _ => True }
def knownC : Ctr := { fn := 28, nv := 0, args := [], heap := [], ro := [], pre := fun _ => True, alts := [lawRet] }
end Go.Eng

set_option linter.unusedSimpArgs false
set_option linter.unusedVariables false
namespace Go.Eng
open Go

def lawIs (fn nv : Nat) (args : List SV) (ro : List SH) (pre : Env → Prop) : Ctr := { fn := fn, nv := nv, args := args, heap := [], ro := ro, pre := pre, alts := [lawRet] }
def byteP (x : Int) : Prop := 0 ≤ x ∧ x < 256
/-! ### Sizes -/
def len27C : Ctr := { piece26C with fn := 27 }
def len27I : Inv := { key := 4, nv := 1, env := [(0, iv .i64 (.var 0)), (1, iv .i64 (.var 1)), (6, iv .i64 (.var 1000))], heap := [], inv := (fun ρ => ¬ pieceBad (ρ 0).i (ρ 1).i ∧ 0 ≤ (ρ 1000).i ∧ (ρ 1000).i ≤ (ρ 1).i ∧ ((ρ 1000).i = 0 ∨ (ρ 0).i * ((ρ 1000).i - 1) < (ρ 1).i)), mu := (fun ρ => ((ρ 1).i - (ρ 1000).i).toNat) }
/-! ### Products bit by bit -/
def timesStep (b : Int) (i : Nat) (s : Int × Int) : Int × Int :=
  (if arithOf .and .u8 s.1 128 = 0 then arithOf .shl .u8 s.1 1 else arithOf .xor .u8 (arithOf .shl .u8 s.1 1) 29,
   if arithOf .and .u8 b (arithOf .shl .u8 1 i) = 0 then s.2 else arithOf .xor .u8 s.2 s.1)
def timesN (a b : Int) : Nat → Int × Int
  | 0 => (a, 0)
  | i + 1 => timesStep b i (timesN a b i)
def times53C : Ctr := { fn := 53, nv := 2, args := [iv .u8 (.var 0), iv .u8 (.var 1)], heap := [], ro := [], pre := fun ρ => byteP (ρ 0).i ∧ byteP (ρ 1).i, alts := [{ k := 1, ret := iv .u8 (.var 2), heap := [], post := fun ρ => (ρ 2).i = mulF (ρ 0).i (ρ 1).i }] }
/-- 1000 the first factor, 1001 the sum, 1002 the round. -/
def times53I : Inv := { key := 3, nv := 3, env := [(0, iv .u8 (.var 1000)), (1, iv .u8 (.var 1)), (5, iv .u8 (.var 1001)), (6, iv .i64 (.var 1002))], heap := [], inv := (fun ρ => 0 ≤ (ρ 1002).i ∧ (ρ 1002).i ≤ 8 ∧ ((ρ 1000).i, (ρ 1001).i) = timesN (ρ 0).i (ρ 1).i (ρ 1002).i.toNat), mu := (fun ρ => (8 - (ρ 1002).i).toNat) }
def over54C : Ctr := { fn := 54, nv := 1, args := [iv .u8 (.var 0)], heap := [], ro := [], pre := fun ρ => byteP (ρ 0).i, alts := [{ k := 1, ret := iv .u8 (.var 1), heap := [], post := fun ρ => (ρ 1).i = invF (ρ 0).i }] }
def over54I : Inv := { key := 2, nv := 1, env := [(0, iv .u8 (.var 0)), (3, iv .i64 (.var 1000))], heap := [], inv := (fun ρ => 1 ≤ (ρ 1000).i ∧ (ρ 1000).i ≤ 256 ∧ ∀ j : Int, 1 ≤ j → j < (ρ 1000).i → mulF (ρ 0).i j ≠ 1), mu := (fun ρ => (256 - (ρ 1000).i).toNat) }
/-! ### Values of polynomials -/
end Go.Eng

set_option linter.unusedSimpArgs false
set_option linter.unusedVariables false
set_option maxRecDepth 100000
namespace Go.Proofs
open Go Go.Eng

def o_len27 : Out := (.br (.cmp .lss (.var 0) (.lit (1)))
 (.ret 0 ⟨2, [(3, (.t (.lit (2)))), (2, (.t (.lit (0))))], [], [], []⟩)
 (.br (.cmp .gtr (.var 0) (.lit (255)))
 (.ret 0 ⟨2, [(3, (.t (.lit (2)))), (2, (.t (.lit (0))))], [], [], []⟩)
 (.br (.cmp .lss (.var 1) (.lit (0)))
 (.ret 0 ⟨2, [(3, (.t (.lit (2)))), (2, (.t (.lit (0))))], [], [], []⟩)
 (.br (.cmp .gtr (.var 1) (.lit (8192)))
 (.ret 0 ⟨2, [(3, (.t (.lit (2)))), (2, (.t (.lit (0))))], [], [], []⟩)
 (.inv 0 2 ⟨1000, [(1000, (.t (.lit (0))))], [((.var 1), (.var 1)), ((.var 0), (.var 0))], [], []⟩ (.fresh 2 (.hyp 0 2 (.br (.cmp .lss (.arith .mul .i64 (.var 0) (.var 2)) (.var 1))
 (.back 0 2 ⟨1000, [(1000, (.t (.arith .add .i64 (.var 2) (.lit (1)))))], [((.var 1), (.var 1)), ((.var 0), (.var 0))], [], []⟩)
 (.ret 0 ⟨2, [(3, (.t (.lit (0)))), (2, (.t (.var 2)))], [], [], []⟩)))))))))
theorem o_len27_eq : treeOf ⟨Try.prog, len27C, [], [len27I]⟩ 100000 Try.f27 = o_len27 := by kernel_rfl
theorem len27_of (hd : ∀ c ∈ ([] : List Ctr), c.ok Try.prog) (h : ∀ ρ : Env, ρ.good → (len27C).pre ρ → o_len27.den ⟨Try.prog, len27C, [], [len27I]⟩ ρ) : (len27C).ok Try.prog :=
  ok_of_tree Try.func27 (fun a w => Try.call27 a w) hd 100000 (fun ρ hg hp => by rw [o_len27_eq]; exact h ρ hg hp)
def o_times53 : Out := (.inv 0 2 ⟨1000, [(1002, (.t (.lit (0)))), (1001, (.t (.lit (0)))), (1000, (.t (.var 0)))], [((.var 1), (.var 1))], [], []⟩ (.fresh 2 (.fresh 3 (.fresh 4 (.hyp 0 2 (.br (.cmp .lss (.var 4) (.lit (8)))
 (.need (.cmp .geq (.conv .u64 (.var 4)) (.lit (0))) (.br (.cmp .neq (.arith .and .u8 (.var 1) (.arith .shl .u8 (.lit (1)) (.conv .u64 (.var 4)))) (.lit (0)))
 (.br (.cmp .neq (.arith .and .u8 (.var 2) (.lit (128))) (.lit (0)))
 (.back 0 2 ⟨1000, [(1002, (.t (.arith .add .i64 (.var 4) (.lit (1))))), (1001, (.t (.arith .xor .u8 (.var 3) (.var 2)))), (1000, (.t (.arith .xor .u8 (.arith .shl .u8 (.var 2) (.lit (1))) (.lit (29)))))], [((.var 1), (.var 1))], [], []⟩)
 (.back 0 2 ⟨1000, [(1002, (.t (.arith .add .i64 (.var 4) (.lit (1))))), (1001, (.t (.arith .xor .u8 (.var 3) (.var 2)))), (1000, (.t (.arith .shl .u8 (.var 2) (.lit (1)))))], [((.var 1), (.var 1))], [], []⟩))
 (.br (.cmp .neq (.arith .and .u8 (.var 2) (.lit (128))) (.lit (0)))
 (.back 0 2 ⟨1000, [(1002, (.t (.arith .add .i64 (.var 4) (.lit (1))))), (1001, (.t (.var 3))), (1000, (.t (.arith .xor .u8 (.arith .shl .u8 (.var 2) (.lit (1))) (.lit (29)))))], [((.var 1), (.var 1))], [], []⟩)
 (.back 0 2 ⟨1000, [(1002, (.t (.arith .add .i64 (.var 4) (.lit (1))))), (1001, (.t (.var 3))), (1000, (.t (.arith .shl .u8 (.var 2) (.lit (1)))))], [((.var 1), (.var 1))], [], []⟩))))
 (.ret 0 ⟨2, [(2, (.t (.var 3)))], [], [], []⟩)))))))
theorem o_times53_eq : treeOf ⟨Try.prog, times53C, [], [times53I]⟩ 100000 Try.f53 = o_times53 := by kernel_rfl
theorem times53_of (hd : ∀ c ∈ ([] : List Ctr), c.ok Try.prog) (h : ∀ ρ : Env, ρ.good → (times53C).pre ρ → o_times53.den ⟨Try.prog, times53C, [], [times53I]⟩ ρ) : (times53C).ok Try.prog :=
  ok_of_tree Try.func53 (fun a w => Try.call53 a w) hd 100000 (fun ρ hg hp => by rw [o_times53_eq]; exact h ρ hg hp)
def o_over54 : Out := (.inv 0 1 ⟨1000, [(1000, (.t (.lit (1))))], [((.var 0), (.var 0))], [], []⟩ (.fresh 1 (.hyp 0 1 (.br (.cmp .lss (.var 1) (.lit (256)))
 (.pre 0 ⟨0, [(1, (.t (.conv .u8 (.var 1)))), (0, (.t (.var 0)))], [], [], []⟩ (.both (.fresh 2 (.post 0 0 ⟨0, [(1, (.t (.conv .u8 (.var 1)))), (0, (.t (.var 0)))], [], [], []⟩ 2 (.br (.cmp .eql (.var 2) (.lit (1)))
 (.ret 0 ⟨1, [(1, (.t (.conv .u8 (.var 1))))], [], [], []⟩)
 (.back 0 1 ⟨1000, [(1000, (.t (.arith .add .i64 (.var 1) (.lit (1)))))], [((.var 0), (.var 0))], [], []⟩)))) .top))
 (.ret 0 ⟨1, [(1, (.t (.lit (0))))], [], [], []⟩)))))
theorem o_over54_eq : treeOf ⟨Try.prog, over54C, [times53C], [over54I]⟩ 100000 Try.f54 = o_over54 := by kernel_rfl
theorem over54_of (hd : ∀ c ∈ ([times53C] : List Ctr), c.ok Try.prog) (h : ∀ ρ : Env, ρ.good → (over54C).pre ρ → o_over54.den ⟨Try.prog, over54C, [times53C], [over54I]⟩ ρ) : (over54C).ok Try.prog :=
  ok_of_tree Try.func54 (fun a w => Try.call54 a w) hd 100000 (fun ρ hg hp => by rw [o_over54_eq]; exact h ρ hg hp)
end Go.Proofs

set_option linter.unusedSimpArgs false
set_option linter.unusedVariables false
set_option maxRecDepth 100000
namespace Go.Proofs
open Go Go.Eng

def o_sizes74 : Out := (.br (.cmp .leq (.lit (1)) (.var 0))
 (.br (.cmp .leq (.var 0) (.var 1))
 (.ret 0 ⟨2, [(2, (.t (.cmp .leq (.var 1) (.lit (255)))))], [], [], []⟩)
 (.ret 0 ⟨2, [(2, (.t (.bl false)))], [], [], []⟩))
 (.ret 0 ⟨2, [(2, (.t (.bl false)))], [], [], []⟩))
theorem o_sizes74_eq : treeOf ⟨Try.prog, sizes74C, [], []⟩ 100000 Try.f74 = o_sizes74 := by kernel_rfl
theorem sizes74_of (hd : ∀ c ∈ ([] : List Ctr), c.ok Try.prog) (h : ∀ ρ : Env, ρ.good → (sizes74C).pre ρ → o_sizes74.den ⟨Try.prog, sizes74C, [], []⟩ ρ) : (sizes74C).ok Try.prog :=
  ok_of_tree Try.func74 (fun a w => Try.call74 a w) hd 100000 (fun ρ hg hp => by rw [o_sizes74_eq]; exact h ρ hg hp)
def o_piece26 : Out := (.br (.cmp .lss (.var 0) (.lit (1)))
 (.ret 0 ⟨2, [(3, (.t (.lit (2)))), (2, (.t (.lit (0))))], [], [], []⟩)
 (.br (.cmp .gtr (.var 0) (.lit (255)))
 (.ret 0 ⟨2, [(3, (.t (.lit (2)))), (2, (.t (.lit (0))))], [], [], []⟩)
 (.br (.cmp .lss (.var 1) (.lit (0)))
 (.ret 0 ⟨2, [(3, (.t (.lit (2)))), (2, (.t (.lit (0))))], [], [], []⟩)
 (.br (.cmp .gtr (.var 1) (.lit (8192)))
 (.ret 0 ⟨2, [(3, (.t (.lit (2)))), (2, (.t (.lit (0))))], [], [], []⟩)
 (.need (.cmp .neq (.var 0) (.lit (0))) (.ret 0 ⟨2, [(3, (.t (.lit (0)))), (2, (.t (.arith .quo .i64 (.arith .sub .i64 (.arith .add .i64 (.var 1) (.var 0)) (.lit (1))) (.var 0))))], [], [], []⟩))))))
theorem o_piece26_eq : treeOf ⟨Try.prog, piece26C, [], []⟩ 100000 Try.f26 = o_piece26 := by kernel_rfl
theorem piece26_of (hd : ∀ c ∈ ([] : List Ctr), c.ok Try.prog) (h : ∀ ρ : Env, ρ.good → (piece26C).pre ρ → o_piece26.den ⟨Try.prog, piece26C, [], []⟩ ρ) : (piece26C).ok Try.prog :=
  ok_of_tree Try.func26 (fun a w => Try.call26 a w) hd 100000 (fun ρ hg hp => by rw [o_piece26_eq]; exact h ρ hg hp)
def o_zero82 : Out := (.fresh 2 (.need (.cmp .leq (.lit (0)) (.arith .mul .i64 (.var 0) (.var 1))) (.need (.cmp .leq (.tims (.lit (1)) (.arith .mul .i64 (.var 0) (.var 1))) (.lit (281474976710656))) (.fresh 3 (.ret 0 ⟨2, [(5, (.t (.drep (.arith .mul .i64 (.var 0) (.var 1)) (.rcons (.vint .u8 (.lit (0))) .rnil)))), (4, (.t (.arith .mul .i64 (.var 0) (.var 1)))), (3, (.t (.arith .mul .i64 (.var 0) (.var 1)))), (2, (.r 3))], [((.var 4), (.arith .mul .i64 (.var 0) (.var 1))), ((.lit (0)), (.lit (0))), ((.var 1), (.var 1)), ((.var 0), (.var 0))], [], []⟩)))))
theorem o_zero82_eq : treeOf ⟨Try.prog, zero82C, [], []⟩ 100000 Try.f82 = o_zero82 := by kernel_rfl
theorem zero82_of (hd : ∀ c ∈ ([] : List Ctr), c.ok Try.prog) (h : ∀ ρ : Env, ρ.good → (zero82C).pre ρ → o_zero82.den ⟨Try.prog, zero82C, [], []⟩ ρ) : (zero82C).ok Try.prog :=
  ok_of_tree Try.func82 (fun a w => Try.call82 a w) hd 100000 (fun ρ hg hp => by rw [o_zero82_eq]; exact h ρ hg hp)
def o_row75 : Out := (.fresh 8 (.need (.cmp .leq (.lit (0)) (.var 3)) (.need (.cmp .leq (.lit (0)) (.var 4)) (.need (.cmp .leq (.lit (0)) (.arith .mul .i64 (.var 7) (.var 1))) (.need (.cmp .leq (.arith .mul .i64 (.var 7) (.var 1)) (.arith .mul .i64 (.arith .add .i64 (.var 7) (.lit (1))) (.var 1))) (.need (.cmp .leq (.arith .mul .i64 (.arith .add .i64 (.var 7) (.lit (1))) (.var 1)) (.var 4)) (.ret 0 ⟨8, [(10, (.t (.minus (.arith .mul .i64 (.arith .add .i64 (.var 7) (.lit (1))) (.var 1)) (.arith .mul .i64 (.var 7) (.var 1))))), (9, (.t (.minus (.arith .mul .i64 (.arith .add .i64 (.var 7) (.lit (1))) (.var 1)) (.arith .mul .i64 (.var 7) (.var 1))))), (8, (.t (.ife (.arith .mul .i64 (.arith .add .i64 (.var 7) (.lit (1))) (.var 1)) (.arith .mul .i64 (.var 7) (.var 1)) (.lit (0)) (.arith .mul .i64 (.var 7) (.var 1)))))], [], [], []⟩)))))))
theorem o_row75_eq : treeOf ⟨Try.prog, row75C, [], []⟩ 100000 Try.f75 = o_row75 := by kernel_rfl
theorem row75_of (hd : ∀ c ∈ ([] : List Ctr), c.ok Try.prog) (h : ∀ ρ : Env, ρ.good → (row75C).pre ρ → o_row75.den ⟨Try.prog, row75C, [], []⟩ ρ) : (row75C).ok Try.prog :=
  ok_of_tree Try.func75 (fun a w => Try.call75 a w) hd 100000 (fun ρ hg hp => by rw [o_row75_eq]; exact h ρ hg hp)
def o_valid36 : Out := (.fresh 7 (.br (.cmp .geq (.var 0) (.lit (1)))
 (.br (.cmp .leq (.var 0) (.lit (255)))
 (.br (.cmp .geq (.var 1) (.lit (1)))
 (.br (.cmp .leq (.var 1) (.lit (255)))
 (.need (.cmp .leq (.lit (0)) (.var 3)) (.ret 0 ⟨7, [(7, (.t (.cmp .eql (.var 3) (.arith .mul .i64 (.var 0) (.var 1)))))], [], [], []⟩))
 (.ret 0 ⟨7, [(7, (.t (.bl false)))], [], [], []⟩))
 (.ret 0 ⟨7, [(7, (.t (.bl false)))], [], [], []⟩))
 (.ret 0 ⟨7, [(7, (.t (.bl false)))], [], [], []⟩))
 (.ret 0 ⟨7, [(7, (.t (.bl false)))], [], [], []⟩)))
theorem o_valid36_eq : treeOf ⟨Try.prog, valid36C, [], []⟩ 100000 Try.f36 = o_valid36 := by kernel_rfl
theorem valid36_of (hd : ∀ c ∈ ([] : List Ctr), c.ok Try.prog) (h : ∀ ρ : Env, ρ.good → (valid36C).pre ρ → o_valid36.den ⟨Try.prog, valid36C, [], []⟩ ρ) : (valid36C).ok Try.prog :=
  ok_of_tree Try.func36 (fun a w => Try.call36 a w) hd 100000 (fun ρ hg hp => by rw [o_valid36_eq]; exact h ρ hg hp)
def o_clone84 : Out := (.fresh 7 (.fresh 8 (.both (.fresh 9 (.both (.need (.cmp .leq (.lit (0)) (.var 3)) (.need (.cmp .leq (.var 3) (.dlen (.var 5))) (.need (.cmp .leq (.tims (.lit (1)) (.var 3)) (.lit (140737488355328))) (.fresh 10 (.fresh 11 (.both (.both (.ret 0 ⟨7, [(9, (.t (.dtake (.var 5) (.var 3)))), (8, (.t (.var 11))), (7, (.r 10))], [((.var 8), (.var 11)), ((.var 3), (.var 3)), ((.lit (0)), (.lit (0))), ((.var 1), (.var 1)), ((.var 0), (.var 0))], [], []⟩) .top) .top)))))) .top)) .top)))
theorem o_clone84_eq : treeOf ⟨Try.prog, clone84C, [], []⟩ 100000 Try.f84 = o_clone84 := by kernel_rfl
theorem clone84_of (hd : ∀ c ∈ ([] : List Ctr), c.ok Try.prog) (h : ∀ ρ : Env, ρ.good → (clone84C).pre ρ → o_clone84.den ⟨Try.prog, clone84C, [], []⟩ ρ) : (clone84C).ok Try.prog :=
  ok_of_tree Try.func84 (fun a w => Try.call84 a w) hd 100000 (fun ρ hg hp => by rw [o_clone84_eq]; exact h ρ hg hp)
def o_addTo : Out := (.br (.cmp .eql (.var 14) (.lit (0)))
 (.ret 0 ⟨15, [(16, (.t (.var 6))), (15, (.t (.var 1)))], [((.var 7), (.var 7)), ((.lit (1)), (.lit (1)))], [], []⟩)
 (.need (.cmp .leq (.lit (0)) (.var 10)) (.inv 0 15 ⟨1000, [(1002, (.t (.var 6))), (1001, (.t (.var 1))), (1000, (.t (.lit (0))))], [((.var 7), (.var 7)), ((.lit (1)), (.lit (1))), ((.var 10), (.var 10)), ((.var 11), (.var 11)), ((.var 10), (.var 10)), ((.var 9), (.var 9)), ((.var 14), (.var 14)), ((.var 5), (.var 5)), ((.var 4), (.var 4)), ((.var 3), (.var 3)), ((.lit (0)), (.lit (0)))], [], []⟩ (.fresh 15 (.fresh 16 (.fresh 17 (.hyp 0 15 (.br (.cmp .lss (.var 15) (.var 10))
 (.need (.cmp .leq (.lit (0)) (.var 15)) (.need (.cmp .leq (.lit (0)) (.var 9)) (.need (.cmp .leq (.lit (0)) (.plus (.var 9) (.var 15))) (.need (.cmp .lss (.plus (.var 9) (.var 15)) (.dlen (.var 12))) (.need (.cmp .lss (.var 15) (.var 4)) (.need (.cmp .leq (.lit (0)) (.var 3)) (.need (.cmp .leq (.lit (0)) (.plus (.var 3) (.var 15))) (.need (.cmp .lss (.plus (.var 3) (.var 15)) (.dlen (.var 17))) (.both (.pre 0 ⟨0, [(1, (.t (.var 16))), (3, (.t (.icell (.var 12) (.plus (.var 9) (.var 15)) 0))), (2, (.t (.var 14))), (0, (.r 0))], [((.lit (1)), (.lit (1))), ((.lit (0)), (.lit (0)))], [], []⟩ (.both (.fresh 18 (.fresh 19 (.post 0 0 ⟨0, [(1, (.t (.var 16))), (3, (.t (.icell (.var 12) (.plus (.var 9) (.var 15)) 0))), (2, (.t (.var 14))), (0, (.r 0))], [((.lit (1)), (.lit (1))), ((.lit (0)), (.lit (0)))], [], []⟩ 18 (.both (.back 0 15 ⟨1000, [(1002, (.t (.dput (.var 17) (.plus (.var 3) (.var 15)) 0 (.rcons (.vint .u8 (.arith .xor .u8 (.icell (.var 17) (.plus (.var 3) (.var 15)) 0) (.var 18))) .rnil)))), (1001, (.t (.var 19))), (1000, (.t (.arith .add .i64 (.var 15) (.lit (1)))))], [((.var 7), (.var 7)), ((.lit (1)), (.lit (1))), ((.var 10), (.var 10)), ((.var 11), (.var 11)), ((.var 10), (.var 10)), ((.var 9), (.var 9)), ((.var 14), (.var 14)), ((.var 5), (.var 5)), ((.var 4), (.var 4)), ((.var 3), (.var 3)), ((.lit (0)), (.lit (0)))], [], []⟩) .top)))) .top)) .top)))))))))
 (.ret 0 ⟨15, [(16, (.t (.var 17))), (15, (.t (.var 16)))], [((.var 7), (.var 7)), ((.lit (1)), (.lit (1)))], [], []⟩)))))))))
theorem o_addTo_eq : treeOf ⟨Try.prog, addToC, [mulC], [addToI]⟩ 100000 Try.f76 = o_addTo := by kernel_rfl
theorem addTo_of (hd : ∀ c ∈ ([mulC] : List Ctr), c.ok Try.prog) (h : ∀ ρ : Env, ρ.good → (addToC).pre ρ → o_addTo.den ⟨Try.prog, addToC, [mulC], [addToI]⟩ ρ) : (addToC).ok Try.prog :=
  ok_of_tree Try.func76 (fun a w => Try.call76 a w) hd 100000 (fun ρ hg hp => by rw [o_addTo_eq]; exact h ρ hg hp)
def o_addToSame : Out := (.br (.cmp .eql (.var 11) (.lit (0)))
 (.ret 0 ⟨12, [(13, (.t (.var 6))), (12, (.t (.var 1)))], [((.var 7), (.var 7)), ((.lit (1)), (.lit (1)))], [], []⟩)
 (.need (.cmp .leq (.lit (0)) (.var 9)) (.inv 0 12 ⟨1000, [(1002, (.t (.var 6))), (1001, (.t (.var 1))), (1000, (.t (.lit (0))))], [((.var 7), (.var 7)), ((.lit (1)), (.lit (1))), ((.var 9), (.var 9)), ((.var 10), (.var 10)), ((.var 9), (.var 9)), ((.var 8), (.var 8)), ((.var 11), (.var 11)), ((.var 5), (.var 5)), ((.var 4), (.var 4)), ((.var 3), (.var 3)), ((.lit (0)), (.lit (0)))], [], []⟩ (.fresh 12 (.fresh 13 (.fresh 14 (.hyp 0 12 (.br (.cmp .lss (.var 12) (.var 9))
 (.need (.cmp .leq (.lit (0)) (.var 12)) (.need (.cmp .leq (.lit (0)) (.var 8)) (.need (.cmp .leq (.lit (0)) (.plus (.var 8) (.var 12))) (.need (.cmp .lss (.plus (.var 8) (.var 12)) (.dlen (.var 14))) (.need (.cmp .lss (.var 12) (.var 4)) (.need (.cmp .leq (.lit (0)) (.var 3)) (.need (.cmp .leq (.lit (0)) (.plus (.var 3) (.var 12))) (.need (.cmp .lss (.plus (.var 3) (.var 12)) (.dlen (.var 14))) (.both (.pre 0 ⟨0, [(1, (.t (.var 13))), (3, (.t (.icell (.var 14) (.plus (.var 8) (.var 12)) 0))), (2, (.t (.var 11))), (0, (.r 0))], [((.lit (1)), (.lit (1))), ((.lit (0)), (.lit (0)))], [], []⟩ (.both (.fresh 15 (.fresh 16 (.post 0 0 ⟨0, [(1, (.t (.var 13))), (3, (.t (.icell (.var 14) (.plus (.var 8) (.var 12)) 0))), (2, (.t (.var 11))), (0, (.r 0))], [((.lit (1)), (.lit (1))), ((.lit (0)), (.lit (0)))], [], []⟩ 15 (.both (.back 0 12 ⟨1000, [(1002, (.t (.dput (.var 14) (.plus (.var 3) (.var 12)) 0 (.rcons (.vint .u8 (.arith .xor .u8 (.icell (.var 14) (.plus (.var 3) (.var 12)) 0) (.var 15))) .rnil)))), (1001, (.t (.var 16))), (1000, (.t (.arith .add .i64 (.var 12) (.lit (1)))))], [((.var 7), (.var 7)), ((.lit (1)), (.lit (1))), ((.var 9), (.var 9)), ((.var 10), (.var 10)), ((.var 9), (.var 9)), ((.var 8), (.var 8)), ((.var 11), (.var 11)), ((.var 5), (.var 5)), ((.var 4), (.var 4)), ((.var 3), (.var 3)), ((.lit (0)), (.lit (0)))], [], []⟩) .top)))) .top)) .top)))))))))
 (.ret 0 ⟨12, [(13, (.t (.var 14))), (12, (.t (.var 13)))], [((.var 7), (.var 7)), ((.lit (1)), (.lit (1)))], [], []⟩)))))))))
theorem o_addToSame_eq : treeOf ⟨Try.prog, addToS, [mulC], [addToSI]⟩ 100000 Try.f76 = o_addToSame := by kernel_rfl
theorem addToSame_of (hd : ∀ c ∈ ([mulC] : List Ctr), c.ok Try.prog) (h : ∀ ρ : Env, ρ.good → (addToS).pre ρ → o_addToSame.den ⟨Try.prog, addToS, [mulC], [addToSI]⟩ ρ) : (addToS).ok Try.prog :=
  ok_of_tree Try.func76 (fun a w => Try.call76 a w) hd 100000 (fun ρ hg hp => by rw [o_addToSame_eq]; exact h ρ hg hp)
def o_scale : Out := (.need (.cmp .leq (.lit (0)) (.var 4)) (.inv 0 9 ⟨1000, [(1002, (.t (.var 6))), (1001, (.t (.var 1))), (1000, (.t (.lit (0))))], [((.var 7), (.var 7)), ((.lit (1)), (.lit (1))), ((.var 4), (.var 4)), ((.var 5), (.var 5)), ((.var 4), (.var 4)), ((.var 3), (.var 3)), ((.var 8), (.var 8)), ((.var 5), (.var 5)), ((.var 4), (.var 4)), ((.var 3), (.var 3)), ((.lit (0)), (.lit (0)))], [], []⟩ (.fresh 9 (.fresh 10 (.fresh 11 (.hyp 0 9 (.br (.cmp .lss (.var 9) (.var 4))
 (.need (.cmp .leq (.lit (0)) (.var 9)) (.need (.cmp .leq (.lit (0)) (.var 3)) (.need (.cmp .leq (.lit (0)) (.plus (.var 3) (.var 9))) (.need (.cmp .lss (.plus (.var 3) (.var 9)) (.dlen (.var 11))) (.pre 0 ⟨0, [(1, (.t (.var 10))), (3, (.t (.var 8))), (2, (.t (.icell (.var 11) (.plus (.var 3) (.var 9)) 0))), (0, (.r 0))], [((.lit (1)), (.lit (1))), ((.lit (0)), (.lit (0)))], [], []⟩ (.both (.fresh 12 (.fresh 13 (.post 0 0 ⟨0, [(1, (.t (.var 10))), (3, (.t (.var 8))), (2, (.t (.icell (.var 11) (.plus (.var 3) (.var 9)) 0))), (0, (.r 0))], [((.lit (1)), (.lit (1))), ((.lit (0)), (.lit (0)))], [], []⟩ 12 (.back 0 9 ⟨1000, [(1002, (.t (.dput (.var 11) (.plus (.var 3) (.var 9)) 0 (.rcons (.vint .u8 (.var 12)) .rnil)))), (1001, (.t (.var 13))), (1000, (.t (.arith .add .i64 (.var 9) (.lit (1)))))], [((.var 7), (.var 7)), ((.lit (1)), (.lit (1))), ((.var 4), (.var 4)), ((.var 5), (.var 5)), ((.var 4), (.var 4)), ((.var 3), (.var 3)), ((.var 8), (.var 8)), ((.var 5), (.var 5)), ((.var 4), (.var 4)), ((.var 3), (.var 3)), ((.lit (0)), (.lit (0)))], [], []⟩)))) .top))))))
 (.ret 0 ⟨9, [(10, (.t (.var 11))), (9, (.t (.var 10)))], [((.var 7), (.var 7)), ((.lit (1)), (.lit (1)))], [], []⟩))))))))
theorem o_scale_eq : treeOf ⟨Try.prog, scaleC, [mulC], [scaleI]⟩ 100000 Try.f97 = o_scale := by kernel_rfl
theorem scale_of (hd : ∀ c ∈ ([mulC] : List Ctr), c.ok Try.prog) (h : ∀ ρ : Env, ρ.good → (scaleC).pre ρ → o_scale.den ⟨Try.prog, scaleC, [mulC], [scaleI]⟩ ρ) : (scaleC).ok Try.prog :=
  ok_of_tree Try.func97 (fun a w => Try.call97 a w) hd 100000 (fun ρ hg hp => by rw [o_scale_eq]; exact h ρ hg hp)
def o_inv51 : Out := (.br (.and (.cmp .eql (.dlen (.var 1)) (.lit (0))) (.isnil 0))
 (.ret 0 ⟨3, [(5, (.t (.var 1))), (4, (.t (.lit (1)))), (3, (.t (.lit (0))))], [((.lit (1)), (.lit (1)))], [], []⟩)
 (.br (.cmp .eql (.var 2) (.lit (0)))
 (.ret 0 ⟨3, [(5, (.t (.var 1))), (4, (.t (.lit (2)))), (3, (.t (.lit (0))))], [((.lit (1)), (.lit (1)))], [], []⟩)
 (.need (.cmp .lss (.lit (0)) (.dlen (.var 1))) (.pre 0 ⟨0, [(1, (.t (.var 1))), (0, (.r 0))], [((.lit (1)), (.lit (1))), ((.lit (0)), (.lit (0))), ((.lit (0)), (.lit (0)))], [], []⟩ (.both (.fresh 3 (.post 0 0 ⟨0, [(1, (.t (.var 1))), (0, (.r 0))], [((.lit (1)), (.lit (1))), ((.lit (0)), (.lit (0))), ((.lit (0)), (.lit (0)))], [], []⟩ 3 (.need (.cmp .lss (.lit (0)) (.dlen (.var 3))) (.need (.cmp .leq (.lit (0)) (.var 2)) (.need (.cmp .lss (.var 2) (.lit (256))) (.need (.cmp .leq (.lit (0)) (.arith .sub .i64 (.lit (255)) (.c2 (.xint 513) (.var 3) (.var 2)))) (.need (.cmp .lss (.arith .sub .i64 (.lit (255)) (.c2 (.xint 513) (.var 3) (.var 2))) (.lit (510))) (.ret 0 ⟨3, [(5, (.t (.var 3))), (4, (.t (.lit (0)))), (3, (.t (.c2 (.xint 3) (.var 3) (.arith .sub .i64 (.lit (255)) (.c2 (.xint 513) (.var 3) (.var 2))))))], [((.lit (1)), (.lit (1)))], [], []⟩)))))))) .top)))))
theorem o_inv51_eq : treeOf ⟨Try.prog, inv51C, [onceC], []⟩ 100000 Try.f51 = o_inv51 := by kernel_rfl
theorem inv51_of (hd : ∀ c ∈ ([onceC] : List Ctr), c.ok Try.prog) (h : ∀ ρ : Env, ρ.good → (inv51C).pre ρ → o_inv51.den ⟨Try.prog, inv51C, [onceC], []⟩ ρ) : (inv51C).ok Try.prog :=
  ok_of_tree Try.func51 (fun a w => Try.call51 a w) hd 100000 (fun ρ hg hp => by rw [o_inv51_eq]; exact h ρ hg hp)
def o_pow37 : Out := (.br (.and (.cmp .eql (.dlen (.var 1)) (.lit (0))) (.isnil 0))
 (.ret 0 ⟨4, [(5, (.t (.var 1))), (4, (.t (.lit (0))))], [((.lit (1)), (.lit (1)))], [], []⟩)
 (.br (.cmp .leq (.var 3) (.lit (0)))
 (.ret 0 ⟨4, [(5, (.t (.var 1))), (4, (.t (.lit (1))))], [((.lit (1)), (.lit (1)))], [], []⟩)
 (.br (.cmp .eql (.var 2) (.lit (0)))
 (.ret 0 ⟨4, [(5, (.t (.var 1))), (4, (.t (.lit (0))))], [((.lit (1)), (.lit (1)))], [], []⟩)
 (.need (.cmp .lss (.lit (0)) (.dlen (.var 1))) (.pre 0 ⟨0, [(1, (.t (.var 1))), (0, (.r 0))], [((.lit (1)), (.lit (1))), ((.lit (0)), (.lit (0))), ((.lit (0)), (.lit (0)))], [], []⟩ (.both (.fresh 4 (.post 0 0 ⟨0, [(1, (.t (.var 1))), (0, (.r 0))], [((.lit (1)), (.lit (1))), ((.lit (0)), (.lit (0))), ((.lit (0)), (.lit (0)))], [], []⟩ 4 (.need (.cmp .lss (.lit (0)) (.dlen (.var 4))) (.need (.cmp .leq (.lit (0)) (.var 2)) (.need (.cmp .lss (.var 2) (.lit (256))) (.need (.cmp .leq (.lit (0)) (.arith .rem .i64 (.arith .mul .i64 (.c2 (.xint 513) (.var 4) (.var 2)) (.arith .rem .i64 (.var 3) (.lit (255)))) (.lit (255)))) (.need (.cmp .lss (.arith .rem .i64 (.arith .mul .i64 (.c2 (.xint 513) (.var 4) (.var 2)) (.arith .rem .i64 (.var 3) (.lit (255)))) (.lit (255))) (.lit (510))) (.ret 0 ⟨4, [(5, (.t (.var 4))), (4, (.t (.c2 (.xint 3) (.var 4) (.arith .rem .i64 (.arith .mul .i64 (.c2 (.xint 513) (.var 4) (.var 2)) (.arith .rem .i64 (.var 3) (.lit (255)))) (.lit (255))))))], [((.lit (1)), (.lit (1)))], [], []⟩)))))))) .top))))))
theorem o_pow37_eq : treeOf ⟨Try.prog, pow37C, [onceC], []⟩ 100000 Try.f37 = o_pow37 := by kernel_rfl
theorem pow37_of (hd : ∀ c ∈ ([onceC] : List Ctr), c.ok Try.prog) (h : ∀ ρ : Env, ρ.good → (pow37C).pre ρ → o_pow37.den ⟨Try.prog, pow37C, [onceC], []⟩ ρ) : (pow37C).ok Try.prog :=
  ok_of_tree Try.func37 (fun a w => Try.call37 a w) hd 100000 (fun ρ hg hp => by rw [o_pow37_eq]; exact h ρ hg hp)
def o_add34 : Out := (.ret 0 ⟨2, [], [((.arith .xor .u8 (.var 0) (.var 1)), (.arith .xor .u8 (.var 0) (.var 1)))], [], []⟩)
theorem o_add34_eq : treeOf ⟨Try.prog, add34C, [], []⟩ 100000 Try.f34 = o_add34 := by kernel_rfl
theorem add34_of (hd : ∀ c ∈ ([] : List Ctr), c.ok Try.prog) (h : ∀ ρ : Env, ρ.good → (add34C).pre ρ → o_add34.den ⟨Try.prog, add34C, [], []⟩ ρ) : (add34C).ok Try.prog :=
  ok_of_tree Try.func34 (fun a w => Try.call34 a w) hd 100000 (fun ρ hg hp => by rw [o_add34_eq]; exact h ρ hg hp)
end Go.Proofs
