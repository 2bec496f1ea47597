/- The field's laws, plainly. -/
import Derived.Test.YtkiheclcmgbmnaaZF
set_option linter.unusedSimpArgs false
set_option linter.unusedVariables false
namespace Go.Proofs
open Go Go.Eng

abbrev F := BitVec 8
def toF (x : Int) : F := BitVec.ofInt 8 x
def ofF (x : F) : Int := (x.toNat : Nat)
def isB (x : Int) : Prop := 0 ≤ x ∧ x < 256
theorem ofF_isB {x : F} : isB (ofF x) := ⟨Int.natCast_nonneg _, by have := x.isLt; unfold ofF; omega⟩
theorem toF_ofF {x : F} : toF (ofF x) = x := by
  unfold toF ofF
  apply BitVec.eq_of_toNat_eq
  rw [BitVec.toNat_ofInt]
  have := x.isLt
  omega
theorem toF_toNat {x : Int} (h : isB x) : (toF x).toNat = x.toNat := by
  obtain ⟨h0, h1⟩ := h
  unfold toF
  rw [BitVec.toNat_ofInt]
  omega
theorem ofF_toF {x : Int} (h : isB x) : ofF (toF x) = x := by
  unfold ofF
  rw [toF_toNat h]
  obtain ⟨h0, h1⟩ := h
  omega
theorem toF_inj {x y : Int} (hx : isB x) (hy : isB y) (h : toF x = toF y) : x = y := by rw [← ofF_toF hx, ← ofF_toF hy, h]
theorem ofF_inj {x y : F} (h : ofF x = ofF y) : x = y := by rw [← toF_ofF (x := x), ← toF_ofF (x := y), h]
theorem ofF_zero : ofF 0 = 0 := rfl
theorem toF_zero : toF 0 = 0 := rfl
theorem toF_eq_zero {x : Int} (h : isB x) : toF x = 0 ↔ x = 0 := ⟨fun e => toF_inj h ⟨by omega, by omega⟩ e, fun e => by rw [e]; rfl⟩
theorem xorB_F {x y : Int} : xorB x y = ofF (toF x ^^^ toF y) := by
  have h : (BitVec.ofInt 8 x ^^^ BitVec.ofInt 8 y).toNat < 256 := (BitVec.ofInt 8 x ^^^ BitVec.ofInt 8 y).isLt
  unfold xorB arithOf ofF toF
  show IntKind.u8.wrap _ = _
  have hb : IntKind.u8.bits = 8 := rfl
  rw [hb]
  generalize (BitVec.ofInt 8 x ^^^ BitVec.ofInt 8 y).toNat = z at h ⊢
  simp only [IntKind.wrap, IntKind.bits, IntKind.signed]
  simp
  omega
theorem toF_xorB {x y : Int} : toF (xorB x y) = toF x ^^^ toF y := by rw [xorB_F, toF_ofF]

/-! ### Powers and exponents -/
def expF (n : Nat) : F := BitVec.ofNat 8 (expL.getD (n % 255) 0).toNat
def logF (x : F) : Nat := (logL.getD x.toNat 0).toNat
def fmul (x y : F) : F := if x = 0 ∨ y = 0 then 0 else expF (logF x + logF y)
def finv (x : F) : F := if x = 0 then 0 else expF (255 - logF x)
theorem expF_mod {n : Nat} : expF (n % 255) = expF n := by unfold expF; rw [Nat.mod_mod]
theorem expF_congr {n m : Nat} (h : n % 255 = m % 255) : expF n = expF m := by rw [← expF_mod, h, expF_mod]
theorem expF_toNat {n : Nat} : (expF n).toNat = (expL.getD (n % 255) 0).toNat := by
  have h := expL_range ⟨n % 255, by omega⟩
  simp only at h
  unfold expF
  rw [BitVec.toNat_ofNat]
  omega
theorem expF_ne {n : Nat} : expF n ≠ 0 := fun h => by
  have h1 := congrArg BitVec.toNat h
  rw [expF_toNat] at h1
  have h2 := expL_range ⟨n % 255, by omega⟩
  simp only at h2
  rw [show (0 : F).toNat = 0 by rfl] at h1
  omega
theorem logF_lt {x : F} : logF x < 255 := by
  have := logL_range ⟨x.toNat, x.isLt⟩
  simp only at this
  unfold logF
  omega
theorem exp_logF {x : F} (h : x ≠ 0) : expF (logF x) = x := by
  apply BitVec.eq_of_toNat_eq
  have h0 : x.toNat ≠ 0 := fun e => h (BitVec.eq_of_toNat_eq (by rw [e]; rfl))
  have h1 := exp_log ⟨x.toNat, x.isLt⟩ h0
  simp only at h1
  rw [expF_toNat, Nat.mod_eq_of_lt logF_lt, logF, h1]
  omega
theorem log_expF {n : Nat} : logF (expF n) = n % 255 := by
  have h := log_exp ⟨n % 255, by omega⟩
  simp only at h
  unfold logF
  rw [expF_toNat, h]
  omega
theorem expF_zero : expF 0 = 1 := by decide
theorem logF_one : logF 1 = 0 := by decide
theorem logF_two : logF 2 = 1 := by decide

/-! ### Products -/
theorem fmul_comm {x y : F} : fmul x y = fmul y x := by
  unfold fmul
  by_cases hx : x = 0
  · simp [hx]
  · by_cases hy : y = 0
    · simp [hy]
    · rw [if_neg (not_or.2 ⟨hx, hy⟩), if_neg (not_or.2 ⟨hy, hx⟩), Nat.add_comm]
theorem fmul_zero {x : F} : fmul x 0 = 0 := by simp [fmul]
theorem zero_fmul {x : F} : fmul 0 x = 0 := by simp [fmul]
theorem fmul_ne {x y : F} (hx : x ≠ 0) (hy : y ≠ 0) : fmul x y = expF (logF x + logF y) := by rw [fmul, if_neg (not_or.2 ⟨hx, hy⟩)]
theorem fmul_ne_zero {x y : F} (hx : x ≠ 0) (hy : y ≠ 0) : fmul x y ≠ 0 := by rw [fmul_ne hx hy]; exact expF_ne
theorem fmul_eq_zero {x y : F} : fmul x y = 0 ↔ x = 0 ∨ y = 0 := ⟨fun h => by
  by_cases hx : x = 0
  · exact .inl hx
  · by_cases hy : y = 0
    · exact .inr hy
    · exact (fmul_ne_zero hx hy h).elim, fun h => by rcases h with rfl | rfl; exact zero_fmul; exact fmul_zero⟩
theorem fmul_exp {n m : Nat} : fmul (expF n) (expF m) = expF (n + m) := by
  rw [fmul_ne expF_ne expF_ne, log_expF, log_expF]
  exact expF_congr (by omega)
theorem fmul_one {x : F} : fmul x 1 = x := by
  by_cases h : x = 0
  · rw [h, zero_fmul]
  · rw [← expF_zero]; conv => lhs; arg 1; rw [← exp_logF h]
    rw [fmul_exp, Nat.add_zero, exp_logF h]
theorem one_fmul {x : F} : fmul 1 x = x := by rw [fmul_comm, fmul_one]
theorem exists_exp {x : F} (h : x ≠ 0) : ∃ n, n < 255 ∧ x = expF n := ⟨logF x, logF_lt, (exp_logF h).symm⟩
theorem fmul_assoc {x y z : F} : fmul (fmul x y) z = fmul x (fmul y z) := by
  by_cases hx : x = 0
  · rw [hx, zero_fmul, zero_fmul, zero_fmul]
  by_cases hy : y = 0
  · rw [hy, fmul_zero, zero_fmul, fmul_zero]
  by_cases hz : z = 0
  · rw [hz, fmul_zero, fmul_zero, fmul_zero]
  obtain ⟨a, _, rfl⟩ := exists_exp hx
  obtain ⟨b, _, rfl⟩ := exists_exp hy
  obtain ⟨c, _, rfl⟩ := exists_exp hz
  rw [fmul_exp, fmul_exp, fmul_exp, fmul_exp, Nat.add_assoc]
theorem finv_zero : finv 0 = 0 := rfl
theorem finv_ne {x : F} (h : x ≠ 0) : finv x ≠ 0 := by rw [finv, if_neg h]; exact expF_ne
theorem fmul_finv {x : F} (h : x ≠ 0) : fmul x (finv x) = 1 := by
  rw [finv, if_neg h]
  conv => lhs; arg 1; rw [← exp_logF h]
  have := logF_lt (x := x)
  rw [fmul_exp, ← expF_zero]
  exact expF_congr (by omega)
/-! ### Sums -/
def xt (x : F) : F := x <<< 1 ^^^ (if x.msb then 29#8 else 0#8)
theorem fmul_two' : ∀ i : Fin 256, fmul (BitVec.ofFin i) 2 = xt (BitVec.ofFin i) := by decide +kernel
theorem fmul_two {x : F} : fmul x 2 = xt x := fmul_two' x.toFin
theorem xt_xor {x y : F} : xt (x ^^^ y) = xt x ^^^ xt y := by
  unfold xt
  rw [BitVec.shiftLeft_xor_distrib, BitVec.msb_xor]
  have h1 : ∀ a b c : F, a ^^^ b ^^^ c = a ^^^ c ^^^ b := fun a b c => by rw [BitVec.xor_assoc, BitVec.xor_comm b c, ← BitVec.xor_assoc]
  cases x.msb <;> cases y.msb
  · simp
  · simp [BitVec.xor_assoc]
  · simp [h1 (x <<< 1) (29#8) (y <<< 1)]
  · simp only [bne_self_eq_false, Bool.false_eq_true, if_true, if_false, BitVec.xor_zero]
    rw [h1 (x <<< 1) (29#8), BitVec.xor_assoc (x <<< 1), BitVec.xor_assoc (y <<< 1), BitVec.xor_self, BitVec.xor_zero]
theorem fmul_xor_exp {x y : F} : ∀ n : Nat, fmul (x ^^^ y) (expF n) = fmul x (expF n) ^^^ fmul y (expF n)
  | 0 => by rw [expF_zero, fmul_one, fmul_one, fmul_one]
  | n + 1 => by
    have he : expF (n + 1) = fmul (expF n) 2 := by
      have : (2 : F) = expF 1 := by decide
      rw [this, fmul_exp]
    rw [he, ← fmul_assoc, ← fmul_assoc, ← fmul_assoc, fmul_xor_exp n, fmul_two, fmul_two, fmul_two, xt_xor]
theorem fmul_xor {x y z : F} : fmul (x ^^^ y) z = fmul x z ^^^ fmul y z := by
  by_cases hz : z = 0
  · rw [hz, fmul_zero, fmul_zero, fmul_zero]; rfl
  · obtain ⟨n, _, rfl⟩ := exists_exp hz
    exact fmul_xor_exp n
theorem xor_fmul {x y z : F} : fmul z (x ^^^ y) = fmul z x ^^^ fmul z y := by rw [fmul_comm, fmul_xor, fmul_comm, fmul_comm (x := y)]

/-! ### The tables' functions -/
theorem expT_F {i : Nat} (h : i < 510) : expT i = ofF (expF i) := by
  rw [expT_eq h, ofF, expF_toNat]
  by_cases hi : i < 255
  · rw [Nat.mod_eq_of_lt hi]
    have := expL_range ⟨i, h⟩
    simp only at this
    omega
  · have h1 := exp_per ⟨i - 255, by omega⟩
    have h2 := expL_range ⟨i, h⟩
    simp only at h1 h2
    rw [show i - 255 + 255 = i by omega] at h1
    rw [show i % 255 = i - 255 by omega, ← h1]
    omega
theorem logT_F {a : Int} (h : isB a) : logT a.toNat = (logF (toF a) : Nat) := by
  obtain ⟨h0, h1⟩ := h
  rw [logT_eq (by omega), logF, toF_toNat ⟨h0, h1⟩]
  have := logL_range ⟨a.toNat, by omega⟩
  simp only at this
  omega
theorem mulF_F {a b : Int} (ha : isB a) (hb : isB b) : mulF a b = ofF (fmul (toF a) (toF b)) := by
  unfold mulF fmul
  simp only [toF_eq_zero ha, toF_eq_zero hb]
  split
  · rfl
  · have h1 := logF_lt (x := toF a)
    have h2 := logF_lt (x := toF b)
    rw [logT_F ha, logT_F hb, expT_F (by omega)]
    congr 2
theorem invF_F {a : Int} (ha : isB a) : invF a = ofF (finv (toF a)) := by
  unfold invF finv
  simp only [toF_eq_zero ha]
  split
  · rfl
  · have h1 := logF_lt (x := toF a)
    rw [logT_F ha, expT_F (by omega)]
    congr 2
    omega
theorem mulF_isB {a b : Int} (ha : isB a) (hb : isB b) : isB (mulF a b) := by rw [mulF_F ha hb]; exact ofF_isB
theorem toF_mulF {a b : Int} (ha : isB a) (hb : isB b) : toF (mulF a b) = fmul (toF a) (toF b) := by rw [mulF_F ha hb, toF_ofF]
theorem invF_isB {a : Int} (ha : isB a) : isB (invF a) := by rw [invF_F ha]; exact ofF_isB
theorem toF_invF {a : Int} (ha : isB a) : toF (invF a) = finv (toF a) := by rw [invF_F ha, toF_ofF]
theorem xorB_isB {a b : Int} : isB (xorB a b) := by rw [xorB_F]; exact ofF_isB
def fpow (x : F) : Nat → F
  | 0 => 1
  | n + 1 => fmul (fpow x n) x
theorem fpow_exp {n : Nat} : ∀ m, fpow (expF n) m = expF (n * m)
  | 0 => by rw [Nat.mul_zero]; exact expF_zero.symm
  | m + 1 => by rw [fpow, fpow_exp m, fmul_exp, Nat.mul_succ]
theorem fpow_zero' {m : Nat} (h : 0 < m) : fpow 0 m = 0 := by
  cases m with
  | zero => omega
  | succ m => rw [fpow, fmul_zero]
theorem fpow_add {x : F} {n : Nat} : ∀ m, fpow x (n + m) = fmul (fpow x n) (fpow x m)
  | 0 => by rw [Nat.add_zero, show fpow x 0 = 1 from rfl, fmul_one]
  | m + 1 => by rw [← Nat.add_assoc, fpow, fpow_add m, fmul_assoc]; rfl
theorem powF_F {a e : Int} (ha : isB a) (he : e < 9223372036854775808) : powF a e = ofF (fpow (toF a) e.toNat) := by
  unfold powF
  by_cases h0 : e ≤ 0
  · rw [if_pos h0, show e.toNat = 0 by omega]; rfl
  rw [if_neg h0]
  by_cases h1 : a = 0
  · rw [if_pos h1, h1, toF_zero, fpow_zero' (by omega)]; rfl
  rw [if_neg h1]
  have hx : toF a ≠ 0 := fun h => h1 ((toF_eq_zero ha).1 h)
  have hl := logF_lt (x := toF a)
  rw [logT_F ha]
  have e1 : e.tmod 255 = ((e.toNat % 255 : Nat) : Int) := by
    rw [Int.tmod_eq_emod_of_nonneg (by omega)]; omega
  rw [e1, ← Int.natCast_mul, Int.tmod_eq_emod_of_nonneg (by omega), expT_F (by omega)]
  congr 1
  conv => rhs; rw [← exp_logF hx, fpow_exp]
  refine expF_congr ?_
  have : ((logF (toF a) * (e.toNat % 255) : Nat) : Int) % 255 = ((logF (toF a) * (e.toNat % 255) % 255 : Nat) : Int) := by omega
  rw [this, Int.toNat_natCast, Nat.mod_mod, Nat.mul_mod, Nat.mod_mod, ← Nat.mul_mod]
end Go.Proofs
