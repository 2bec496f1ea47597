/- The field's laws, plainly. -/
import Derived.Test.YtkiheclcmgbmnaaGB
import Derived.Test.YtkiheclcmgbmnaaEC
import Derived.Test.YtkiheclcmgbmnaaGA
import Derived.Test.YtkiheclcmgbmnaaGC
set_option linter.unusedSimpArgs false
set_option linter.unusedVariables false
namespace Go.Proofs
open Go Go.Eng

abbrev F := BitVec 8
def toF (x : Int) : F := BitVec.ofInt 8 x
def ofF (x : F) : Int := (x.toNat : Nat)
def isB (x : Int) : Prop := 0 ≤ x ∧ x < 256
theorem ofF_isB {x : F} : isB (ofF x) := ⟨Int.natCast_nonneg _, by have := x.isLt; unfold ofF; omega⟩
theorem toF_ofF {x : F} : toF (ofF x) = x := by
  unfold toF ofF
  apply BitVec.eq_of_toNat_eq
  rw [BitVec.toNat_ofInt]
  have := x.isLt
  omega
theorem toF_toNat {x : Int} (h : isB x) : (toF x).toNat = x.toNat := by
  obtain ⟨h0, h1⟩ := h
  unfold toF
  rw [BitVec.toNat_ofInt]
  omega
theorem ofF_toF {x : Int} (h : isB x) : ofF (toF x) = x := by
  unfold ofF
  rw [toF_toNat h]
  obtain ⟨h0, h1⟩ := h
  omega
theorem toF_inj {x y : Int} (hx : isB x) (hy : isB y) (h : toF x = toF y) : x = y := by rw [← ofF_toF hx, ← ofF_toF hy, h]
theorem ofF_inj {x y : F} (h : ofF x = ofF y) : x = y := by rw [← toF_ofF (x := x), ← toF_ofF (x := y), h]
theorem ofF_zero : ofF 0 = 0 := rfl
theorem toF_zero : toF 0 = 0 := rfl
theorem toF_eq_zero {x : Int} (h : isB x) : toF x = 0 ↔ x = 0 := ⟨fun e => toF_inj h ⟨by omega, by omega⟩ e, fun e => by rw [e]; rfl⟩
theorem xorB_F {x y : Int} : xorB x y = ofF (toF x ^^^ toF y) := by
  have h : (BitVec.ofInt 8 x ^^^ BitVec.ofInt 8 y).toNat < 256 := (BitVec.ofInt 8 x ^^^ BitVec.ofInt 8 y).isLt
  unfold xorB arithOf ofF toF
  show IntKind.u8.wrap _ = _
  have hb : IntKind.u8.bits = 8 := rfl
  rw [hb]
  generalize (BitVec.ofInt 8 x ^^^ BitVec.ofInt 8 y).toNat = z at h ⊢
  simp only [IntKind.wrap, IntKind.bits, IntKind.signed]
  simp
  omega
theorem toF_xorB {x y : Int} : toF (xorB x y) = toF x ^^^ toF y := by rw [xorB_F, toF_ofF]

/-! ### Powers and exponents -/
def expF (n : Nat) : F := BitVec.ofNat 8 (expL.getD (n % 255) 0).toNat
def logF (x : F) : Nat := (logL.getD x.toNat 0).toNat
def fmul (x y : F) : F := if x = 0 ∨ y = 0 then 0 else expF (logF x + logF y)
def finv (x : F) : F := if x = 0 then 0 else expF (255 - logF x)
theorem expF_mod {n : Nat} : expF (n % 255) = expF n := by unfold expF; rw [Nat.mod_mod]
theorem expF_congr {n m : Nat} (h : n % 255 = m % 255) : expF n = expF m := by rw [← expF_mod, h, expF_mod]
theorem expF_toNat {n : Nat} : (expF n).toNat = (expL.getD (n % 255) 0).toNat := by
  have h := expL_range ⟨n % 255, by omega⟩
  simp only at h
  unfold expF
  rw [BitVec.toNat_ofNat]
  omega
theorem expF_ne {n : Nat} : expF n ≠ 0 := fun h => by
  have h1 := congrArg BitVec.toNat h
  rw [expF_toNat] at h1
  have h2 := expL_range ⟨n % 255, by omega⟩
  simp only at h2
  rw [show (0 : F).toNat = 0 by rfl] at h1
  omega
theorem logF_lt {x : F} : logF x < 255 := by
  have := logL_range ⟨x.toNat, x.isLt⟩
  simp only at this
  unfold logF
  omega
theorem exp_logF {x : F} (h : x ≠ 0) : expF (logF x) = x := by
  apply BitVec.eq_of_toNat_eq
  have h0 : x.toNat ≠ 0 := fun e => h (BitVec.eq_of_toNat_eq (by rw [e]; rfl))
  have h1 := exp_log ⟨x.toNat, x.isLt⟩ h0
  simp only at h1
  rw [expF_toNat, Nat.mod_eq_of_lt logF_lt, logF, h1]
  omega
theorem log_expF {n : Nat} : logF (expF n) = n % 255 := by
  have h := log_exp ⟨n % 255, by omega⟩
  simp only at h
  unfold logF
  rw [expF_toNat, h]
  omega
theorem expF_zero : expF 0 = 1 := by decide
theorem logF_one : logF 1 = 0 := by decide
theorem logF_two : logF 2 = 1 := by decide

/-! ### Products -/
theorem fmul_comm {x y : F} : fmul x y = fmul y x := by
  unfold fmul
  by_cases hx : x = 0
  · simp [hx]
  · by_cases hy : y = 0
    · simp [hy]
    · rw [if_neg (not_or.2 ⟨hx, hy⟩), if_neg (not_or.2 ⟨hy, hx⟩), Nat.add_comm]
theorem fmul_zero {x : F} : fmul x 0 = 0 := by simp [fmul]
theorem zero_fmul {x : F} : fmul 0 x = 0 := by simp [fmul]
theorem fmul_ne {x y : F} (hx : x ≠ 0) (hy : y ≠ 0) : fmul x y = expF (logF x + logF y) := by rw [fmul, if_neg (not_or.2 ⟨hx, hy⟩)]
theorem fmul_ne_zero {x y : F} (hx : x ≠ 0) (hy : y ≠ 0) : fmul x y ≠ 0 := by rw [fmul_ne hx hy]; exact expF_ne
theorem fmul_eq_zero {x y : F} : fmul x y = 0 ↔ x = 0 ∨ y = 0 := ⟨fun h => by
  by_cases hx : x = 0
  · exact .inl hx
  · by_cases hy : y = 0
    · exact .inr hy
    · exact (fmul_ne_zero hx hy h).elim, fun h => by rcases h with rfl | rfl; exact zero_fmul; exact fmul_zero⟩
theorem fmul_exp {n m : Nat} : fmul (expF n) (expF m) = expF (n + m) := by
  rw [fmul_ne expF_ne expF_ne, log_expF, log_expF]
  exact expF_congr (by omega)
theorem fmul_one {x : F} : fmul x 1 = x := by
  by_cases h : x = 0
  · rw [h, zero_fmul]
  · rw [← expF_zero]; conv => lhs; arg 1; rw [← exp_logF h]
    rw [fmul_exp, Nat.add_zero, exp_logF h]
theorem one_fmul {x : F} : fmul 1 x = x := by rw [fmul_comm, fmul_one]
theorem exists_exp {x : F} (h : x ≠ 0) : ∃ n, n < 255 ∧ x = expF n := ⟨logF x, logF_lt, (exp_logF h).symm⟩
theorem fmul_assoc {x y z : F} : fmul (fmul x y) z = fmul x (fmul y z) := by
  by_cases hx : x = 0
  · rw [hx, zero_fmul, zero_fmul, zero_fmul]
  by_cases hy : y = 0
  · rw [hy, fmul_zero, zero_fmul, fmul_zero]
  by_cases hz : z = 0
  · rw [hz, fmul_zero, fmul_zero, fmul_zero]
  obtain ⟨a, _, rfl⟩ := exists_exp hx
  obtain ⟨b, _, rfl⟩ := exists_exp hy
  obtain ⟨c, _, rfl⟩ := exists_exp hz
  rw [fmul_exp, fmul_exp, fmul_exp, fmul_exp, Nat.add_assoc]
theorem finv_zero : finv 0 = 0 := rfl
theorem finv_ne {x : F} (h : x ≠ 0) : finv x ≠ 0 := by rw [finv, if_neg h]; exact expF_ne
theorem fmul_finv {x : F} (h : x ≠ 0) : fmul x (finv x) = 1 := by
  rw [finv, if_neg h]
  conv => lhs; arg 1; rw [← exp_logF h]
  have := logF_lt (x := x)
  rw [fmul_exp, ← expF_zero]
  exact expF_congr (by omega)
/-! ### Sums -/
def xt (x : F) : F := x <<< 1 ^^^ (if x.msb then 29#8 else 0#8)
theorem fmul_two' : ∀ i : Fin 256, fmul (BitVec.ofFin i) 2 = xt (BitVec.ofFin i) := by decide +kernel
theorem fmul_two {x : F} : fmul x 2 = xt x := fmul_two' x.toFin
theorem xt_xor {x y : F} : xt (x ^^^ y) = xt x ^^^ xt y := by
  unfold xt
  rw [BitVec.shiftLeft_xor_distrib, BitVec.msb_xor]
  have h1 : ∀ a b c : F, a ^^^ b ^^^ c = a ^^^ c ^^^ b := fun a b c => by rw [BitVec.xor_assoc, BitVec.xor_comm b c, ← BitVec.xor_assoc]
  cases x.msb <;> cases y.msb
  · simp
  · simp [BitVec.xor_assoc]
  · simp [h1 (x <<< 1) (29#8) (y <<< 1)]
  · simp only [bne_self_eq_false, Bool.false_eq_true, if_true, if_false, BitVec.xor_zero]
    rw [h1 (x <<< 1) (29#8), BitVec.xor_assoc (x <<< 1), BitVec.xor_assoc (y <<< 1), BitVec.xor_self, BitVec.xor_zero]
theorem fmul_xor_exp {x y : F} : ∀ n : Nat, fmul (x ^^^ y) (expF n) = fmul x (expF n) ^^^ fmul y (expF n)
  | 0 => by rw [expF_zero, fmul_one, fmul_one, fmul_one]
  | n + 1 => by
    have he : expF (n + 1) = fmul (expF n) 2 := by
      have : (2 : F) = expF 1 := by decide
      rw [this, fmul_exp]
    rw [he, ← fmul_assoc, ← fmul_assoc, ← fmul_assoc, fmul_xor_exp n, fmul_two, fmul_two, fmul_two, xt_xor]
theorem fmul_xor {x y z : F} : fmul (x ^^^ y) z = fmul x z ^^^ fmul y z := by
  by_cases hz : z = 0
  · rw [hz, fmul_zero, fmul_zero, fmul_zero]; rfl
  · obtain ⟨n, _, rfl⟩ := exists_exp hz
    exact fmul_xor_exp n
theorem xor_fmul {x y z : F} : fmul z (x ^^^ y) = fmul z x ^^^ fmul z y := by rw [fmul_comm, fmul_xor, fmul_comm, fmul_comm (x := y)]

/-! ### The tables' functions -/
theorem expT_F {i : Nat} (h : i < 510) : expT i = ofF (expF i) := by
  rw [expT_eq h, ofF, expF_toNat]
  by_cases hi : i < 255
  · rw [Nat.mod_eq_of_lt hi]
    have := expL_range ⟨i, h⟩
    simp only at this
    omega
  · have h1 := exp_per ⟨i - 255, by omega⟩
    have h2 := expL_range ⟨i, h⟩
    simp only at h1 h2
    rw [show i - 255 + 255 = i by omega] at h1
    rw [show i % 255 = i - 255 by omega, ← h1]
    omega
theorem logT_F {a : Int} (h : isB a) : logT a.toNat = (logF (toF a) : Nat) := by
  obtain ⟨h0, h1⟩ := h
  rw [logT_eq (by omega), logF, toF_toNat ⟨h0, h1⟩]
  have := logL_range ⟨a.toNat, by omega⟩
  simp only at this
  omega
theorem mulF_F {a b : Int} (ha : isB a) (hb : isB b) : mulF a b = ofF (fmul (toF a) (toF b)) := by
  unfold mulF fmul
  simp only [toF_eq_zero ha, toF_eq_zero hb]
  split
  · rfl
  · have h1 := logF_lt (x := toF a)
    have h2 := logF_lt (x := toF b)
    rw [logT_F ha, logT_F hb, expT_F (by omega)]
    congr 2
theorem invF_F {a : Int} (ha : isB a) : invF a = ofF (finv (toF a)) := by
  unfold invF finv
  simp only [toF_eq_zero ha]
  split
  · rfl
  · have h1 := logF_lt (x := toF a)
    rw [logT_F ha, expT_F (by omega)]
    congr 2
    omega
theorem mulF_isB {a b : Int} (ha : isB a) (hb : isB b) : isB (mulF a b) := by rw [mulF_F ha hb]; exact ofF_isB
theorem toF_mulF {a b : Int} (ha : isB a) (hb : isB b) : toF (mulF a b) = fmul (toF a) (toF b) := by rw [mulF_F ha hb, toF_ofF]
theorem invF_isB {a : Int} (ha : isB a) : isB (invF a) := by rw [invF_F ha]; exact ofF_isB
theorem toF_invF {a : Int} (ha : isB a) : toF (invF a) = finv (toF a) := by rw [invF_F ha, toF_ofF]
theorem xorB_isB {a b : Int} : isB (xorB a b) := by rw [xorB_F]; exact ofF_isB
def fpow (x : F) : Nat → F
  | 0 => 1
  | n + 1 => fmul (fpow x n) x
theorem fpow_exp {n : Nat} : ∀ m, fpow (expF n) m = expF (n * m)
  | 0 => by rw [Nat.mul_zero]; exact expF_zero.symm
  | m + 1 => by rw [fpow, fpow_exp m, fmul_exp, Nat.mul_succ]
theorem fpow_zero' {m : Nat} (h : 0 < m) : fpow 0 m = 0 := by
  cases m with
  | zero => omega
  | succ m => rw [fpow, fmul_zero]
theorem fpow_add {x : F} {n : Nat} : ∀ m, fpow x (n + m) = fmul (fpow x n) (fpow x m)
  | 0 => by rw [Nat.add_zero, show fpow x 0 = 1 from rfl, fmul_one]
  | m + 1 => by rw [← Nat.add_assoc, fpow, fpow_add m, fmul_assoc]; rfl
theorem powF_F {a e : Int} (ha : isB a) (he : e < 9223372036854775808) : powF a e = ofF (fpow (toF a) e.toNat) := by
  unfold powF
  by_cases h0 : e ≤ 0
  · rw [if_pos h0, show e.toNat = 0 by omega]; rfl
  rw [if_neg h0]
  by_cases h1 : a = 0
  · rw [if_pos h1, h1, toF_zero, fpow_zero' (by omega)]; rfl
  rw [if_neg h1]
  have hx : toF a ≠ 0 := fun h => h1 ((toF_eq_zero ha).1 h)
  have hl := logF_lt (x := toF a)
  rw [logT_F ha]
  have e1 : e.tmod 255 = ((e.toNat % 255 : Nat) : Int) := by
    rw [Int.tmod_eq_emod_of_nonneg (by omega)]; omega
  rw [e1, ← Int.natCast_mul, Int.tmod_eq_emod_of_nonneg (by omega), expT_F (by omega)]
  congr 1
  conv => rhs; rw [← exp_logF hx, fpow_exp]
  refine expF_congr ?_
  have : ((logF (toF a) * (e.toNat % 255) : Nat) : Int) % 255 = ((logF (toF a) * (e.toNat % 255) % 255 : Nat) : Int) := by omega
  rw [this, Int.toNat_natCast, Nat.mod_mod, Nat.mul_mod, Nat.mod_mod, ← Nat.mul_mod]
theorem powF_isB {a e : Int} (ha : isB a) (he : e < 9223372036854775808) : isB (powF a e) := by rw [powF_F ha he]; exact ofF_isB
end Go.Proofs

/- Sums in the field. -/
set_option linter.unusedSimpArgs false
set_option linter.unusedVariables false
namespace Go.Proofs
open Go Go.Eng

theorem xor_left_comm (a b c : F) : a ^^^ (b ^^^ c) = b ^^^ (a ^^^ c) := by rw [← BitVec.xor_assoc, BitVec.xor_comm a b, BitVec.xor_assoc]
theorem xor_swap (a b c d : F) : (a ^^^ b) ^^^ (c ^^^ d) = (a ^^^ c) ^^^ (b ^^^ d) := by rw [BitVec.xor_assoc, BitVec.xor_assoc, xor_left_comm b c d]
theorem xor_eq_zero {a b : F} : a ^^^ b = 0 ↔ a = b := ⟨fun h => by
  have : a ^^^ b ^^^ b = b := by rw [h]; simp
  rwa [BitVec.xor_assoc, BitVec.xor_self, BitVec.xor_zero] at this, fun h => by rw [h]; exact BitVec.xor_self⟩
theorem xor_zero' {a : F} : a ^^^ 0 = a := BitVec.xor_zero
theorem zero_xor' {a : F} : 0 ^^^ a = a := BitVec.zero_xor
theorem xor_self' {a : F} : a ^^^ a = 0 := BitVec.xor_self
theorem xor_cancel {a b : F} : a ^^^ b ^^^ b = a := by rw [BitVec.xor_assoc, BitVec.xor_self, BitVec.xor_zero]
def fsum (f : Nat → F) : Nat → F
  | 0 => 0
  | n + 1 => fsum f n ^^^ f n
theorem fsum_congr {f g : Nat → F} {n : Nat} (h : ∀ i, i < n → f i = g i) : fsum f n = fsum g n := by
  induction n with
  | zero => rfl
  | succ n ih => rw [fsum, fsum, ih fun i hi => h i (by omega), h n (by omega)]
theorem fsum_zero {f : Nat → F} {n : Nat} (h : ∀ i, i < n → f i = 0) : fsum f n = 0 := by
  induction n with
  | zero => rfl
  | succ n ih => rw [fsum, ih fun i hi => h i (by omega), h n (by omega), xor_zero']
theorem fsum_xor {f g : Nat → F} {n : Nat} : fsum (fun i => f i ^^^ g i) n = fsum f n ^^^ fsum g n := by
  induction n with
  | zero => exact xor_zero'.symm
  | succ n ih => rw [fsum, fsum, fsum, ih, xor_swap]
theorem fsum_mul {f : Nat → F} {c : F} {n : Nat} : fsum (fun i => fmul c (f i)) n = fmul c (fsum f n) := by
  induction n with
  | zero => exact fmul_zero.symm
  | succ n ih => rw [fsum, fsum, ih, xor_fmul]
theorem fsum_mul' {f : Nat → F} {c : F} {n : Nat} : fsum (fun i => fmul (f i) c) n = fmul (fsum f n) c := by
  rw [fmul_comm, ← fsum_mul]
  exact fsum_congr fun i _ => fmul_comm
/-- All but one are 0. -/
theorem fsum_one {f : Nat → F} {n k : Nat} (hk : k < n) (h : ∀ i, i < n → i ≠ k → f i = 0) : fsum f n = f k := by
  induction n with
  | zero => omega
  | succ n ih =>
    rw [fsum]
    by_cases hkn : k = n
    · rw [fsum_zero fun i hi => h i (by omega) (by omega), hkn, zero_xor']
    · rw [ih (by omega) fun i hi => h i (by omega), h n (by omega) (by omega), xor_zero']
theorem fsum_swap {f : Nat → Nat → F} {n m : Nat} : fsum (fun i => fsum (fun j => f i j) m) n = fsum (fun j => fsum (fun i => f i j) n) m := by
  induction n with
  | zero => exact (fsum_zero fun _ _ => rfl).symm
  | succ n ih =>
    rw [fsum, ih, ← fsum_xor]
    rfl
def del (i j : Nat) : F := if i = j then 1 else 0
theorem fsum_del {f : Nat → F} {n k : Nat} (hk : k < n) : fsum (fun i => fmul (del i k) (f i)) n = f k := by
  rw [fsum_one hk fun i hi hik => by rw [del, if_neg hik, zero_fmul], del, if_pos rfl, one_fmul]
theorem fsum_del' {f : Nat → F} {n k : Nat} (hk : k < n) : fsum (fun i => fmul (f i) (del i k)) n = f k := by
  rw [fsum_one hk fun i hi hik => by rw [del, if_neg hik, fmul_zero], del, if_pos rfl, fmul_one]

/-! ### Rows and what they span -/
abbrev Mat := Nat → Nat → F
/-- v is a sum of multiples of the r rows of T, in the first w columns. -/
def spans (r w : Nat) (T : Mat) (v : Nat → F) : Prop := ∃ x : Nat → F, ∀ j, j < w → v j = fsum (fun i => fmul (x i) (T i j)) r
theorem spans_row {r w : Nat} {T : Mat} {i : Nat} (hi : i < r) : spans r w T (T i) := ⟨fun a => del a i, fun j _ => (fsum_del (f := fun a => T a j) hi).symm⟩
theorem spans_congr {r w : Nat} {T : Mat} {v v' : Nat → F} (h : spans r w T v) (he : ∀ j, j < w → v' j = v j) : spans r w T v' := by
  obtain ⟨x, hx⟩ := h
  exact ⟨x, fun j hj => by rw [he j hj, hx j hj]⟩
theorem spans_xor {r w : Nat} {T : Mat} {v v' : Nat → F} (h : spans r w T v) (h' : spans r w T v') : spans r w T (fun j => v j ^^^ v' j) := by
  obtain ⟨x, hx⟩ := h
  obtain ⟨y, hy⟩ := h'
  refine ⟨fun i => x i ^^^ y i, fun j hj => ?_⟩
  show v j ^^^ v' j = _
  rw [hx j hj, hy j hj, ← fsum_xor]
  exact fsum_congr fun i _ => fmul_xor.symm
theorem spans_mul {r w : Nat} {T : Mat} {v : Nat → F} {c : F} (h : spans r w T v) : spans r w T (fun j => fmul c (v j)) := by
  obtain ⟨x, hx⟩ := h
  refine ⟨fun i => fmul c (x i), fun j hj => ?_⟩
  show fmul c (v j) = _
  rw [hx j hj, ← fsum_mul]
  exact fsum_congr fun i _ => fmul_assoc.symm
theorem spans_trans {r w : Nat} {T T' : Mat} {v : Nat → F} (h : spans r w T' v) (hr : ∀ i, i < r → spans r w T (T' i)) : spans r w T v := by
  obtain ⟨x, hx⟩ := h
  let y : Nat → Nat → F := fun i => if h : i < r then (hr i h).choose else fun _ => 0
  have hy : ∀ i, i < r → ∀ j, j < w → T' i j = fsum (fun a => fmul (y i a) (T a j)) r := fun i hi j hj => by
    simp only [y, dif_pos hi]
    exact (hr i hi).choose_spec j hj
  refine ⟨fun a => fsum (fun i => fmul (x i) (y i a)) r, fun j hj => ?_⟩
  rw [hx j hj, fsum_congr fun i hi => by rw [hy i hi j hj, ← fsum_mul], fsum_swap]
  refine fsum_congr fun a _ => ?_
  rw [← fsum_mul']
  exact fsum_congr fun i _ => fmul_assoc.symm
/-- Two matrices whose rows span the same. -/
structure Same (r w : Nat) (T T' : Mat) : Prop where
  to : ∀ i, i < r → spans r w T (T' i)
  back : ∀ i, i < r → spans r w T' (T i)
theorem Same.refl {r w : Nat} {T : Mat} : Same r w T T := ⟨fun i hi => spans_row hi, fun i hi => spans_row hi⟩
theorem Same.trans {r w : Nat} {T T' T'' : Mat} (h : Same r w T T') (h' : Same r w T' T'') : Same r w T T'' :=
  ⟨fun i hi => spans_trans (h'.to i hi) h.to, fun i hi => spans_trans (h.back i hi) h'.back⟩
theorem Same.symm {r w : Nat} {T T' : Mat} (h : Same r w T T') : Same r w T' T := ⟨h.back, h.to⟩
theorem Same.spans {r w : Nat} {T T' : Mat} (h : Same r w T T') {v : Nat → F} : spans r w T v ↔ Go.Proofs.spans r w T' v := ⟨fun hv => spans_trans hv h.back, fun hv => spans_trans hv h.to⟩
/-- A multiple of one row added to another. -/
theorem same_add {r w : Nat} {T T' : Mat} {i p : Nat} {g : F} (hi : i < r) (hp : p < r) (hip : i ≠ p) (h1 : ∀ j, j < w → T' i j = T i j ^^^ fmul g (T p j)) (h2 : ∀ a, a < r → a ≠ i → ∀ j, j < w → T' a j = T a j) : Same r w T T' := by
  refine ⟨fun a ha => ?_, fun a ha => ?_⟩
  · by_cases hai : a = i
    · subst hai
      exact spans_congr (spans_xor (spans_row ha) (spans_mul (c := g) (spans_row hp))) h1
    · exact spans_congr (spans_row ha) (h2 a ha hai)
  · by_cases hai : a = i
    · subst hai
      refine spans_congr (spans_xor (spans_row ha) (spans_mul (c := g) (spans_row hp))) fun j hj => ?_
      rw [h1 j hj, h2 p hp (Ne.symm hip) j hj, xor_cancel]
    · exact spans_congr (spans_row ha) fun j hj => (h2 a ha hai j hj).symm
/-- One row multiplied by what is not 0. -/
theorem same_mul {r w : Nat} {T T' : Mat} {i : Nat} {g : F} (hi : i < r) (hg : g ≠ 0) (h1 : ∀ j, j < w → T' i j = fmul (T i j) g) (h2 : ∀ a, a < r → a ≠ i → ∀ j, j < w → T' a j = T a j) : Same r w T T' := by
  refine ⟨fun a ha => ?_, fun a ha => ?_⟩
  · by_cases hai : a = i
    · subst hai
      exact spans_congr (spans_mul (c := g) (spans_row ha)) fun j hj => by rw [h1 j hj, fmul_comm]
    · exact spans_congr (spans_row ha) (h2 a ha hai)
  · by_cases hai : a = i
    · subst hai
      refine spans_congr (spans_mul (c := finv g) (spans_row ha)) fun j hj => ?_
      rw [h1 j hj, fmul_comm, fmul_assoc, fmul_finv hg, fmul_one]
    · exact spans_congr (spans_row ha) fun j hj => (h2 a ha hai j hj).symm
/-- Two rows change places. -/
theorem same_swap {r w : Nat} {T T' : Mat} {i p : Nat} (hi : i < r) (hp : p < r) (h1 : ∀ j, j < w → T' i j = T p j) (h2 : ∀ j, j < w → T' p j = T i j) (h3 : ∀ a, a < r → a ≠ i → a ≠ p → ∀ j, j < w → T' a j = T a j) : Same r w T T' := by
  refine ⟨fun a ha => ?_, fun a ha => ?_⟩
  · by_cases hai : a = i
    · subst hai; exact spans_congr (spans_row hp) h1
    · by_cases hap : a = p
      · subst hap; exact spans_congr (spans_row hi) h2
      · exact spans_congr (spans_row ha) (h3 a ha hai hap)
  · by_cases hai : a = i
    · subst hai; exact spans_congr (spans_row hp) fun j hj => (h2 j hj).symm
    · by_cases hap : a = p
      · subst hap; exact spans_congr (spans_row hi) fun j hj => (h1 j hj).symm
      · exact spans_congr (spans_row ha) fun j hj => (h3 a ha hai hap j hj).symm

/-! ### Steps -/
/-- Something that is spanned begins in this column. -/
def lead (r w : Nat) (T : Mat) (c : Nat) : Prop := ∃ v, spans r w T v ∧ (∀ j, j < c → v j = 0) ∧ v c ≠ 0
open Classical in
noncomputable def cnt (r w : Nat) (T : Mat) : Nat → Nat
  | 0 => 0
  | c + 1 => cnt r w T c + if lead r w T c then 1 else 0
theorem Same.lead {r w : Nat} {T T' : Mat} (h : Same r w T T') {c : Nat} : lead r w T c ↔ Go.Proofs.lead r w T' c := by
  unfold Go.Proofs.lead
  simp only [h.spans]
theorem cnt_le {r w : Nat} {T : Mat} : ∀ c, cnt r w T c ≤ c
  | 0 => Nat.le_refl _
  | c + 1 => by
    have := cnt_le (r := r) (w := w) (T := T) c
    unfold cnt; split <;> omega
theorem cnt_mono {r w : Nat} {T : Mat} {c : Nat} : ∀ d, cnt r w T c ≤ cnt r w T (c + d)
  | 0 => Nat.le_refl _
  | d + 1 => by
    have := cnt_mono (r := r) (w := w) (T := T) (c := c) d
    rw [← Nat.add_assoc]
    conv => rhs; unfold cnt
    omega
theorem cnt_lead {r w : Nat} {T : Mat} {c : Nat} (h : lead r w T c) : cnt r w T (c + 1) = cnt r w T c + 1 := by rw [cnt, if_pos h]
theorem cnt_not {r w : Nat} {T : Mat} {c : Nat} (h : ¬ lead r w T c) : cnt r w T (c + 1) = cnt r w T c := by rw [cnt, if_neg h]; rfl
theorem cnt_lt {r w : Nat} {T : Mat} {c c' : Nat} (h : lead r w T c) (hlt : c < c') : cnt r w T c < cnt r w T c' := by
  have := cnt_mono (r := r) (w := w) (T := T) (c := c + 1) (c' - (c + 1))
  rw [show c + 1 + (c' - (c + 1)) = c' by omega, cnt_lead h] at this
  omega
theorem cnt_inj {r w : Nat} {T : Mat} {c c' : Nat} (h : lead r w T c) (h' : lead r w T c') (he : cnt r w T c = cnt r w T c') : c = c' := by
  rcases Nat.lt_trichotomy c c' with h1 | h1 | h1
  · have := cnt_lt h h1; omega
  · exact h1
  · have := cnt_lt h' h1; omega
theorem cnt_onto {r w : Nat} {T : Mat} : ∀ {c i : Nat}, i < cnt r w T c → ∃ c', c' < c ∧ lead r w T c' ∧ cnt r w T c' = i
  | 0, i, h => by simp [cnt] at h
  | c + 1, i, h => by
    by_cases hl : lead r w T c
    · rw [cnt_lead hl] at h
      by_cases hi : i = cnt r w T c
      · exact ⟨c, by omega, hl, hi.symm⟩
      · obtain ⟨c', h1, h2, h3⟩ := cnt_onto (r := r) (w := w) (T := T) (c := c) (i := i) (by omega)
        exact ⟨c', by omega, h2, h3⟩
    · rw [cnt_not hl] at h
      obtain ⟨c', h1, h2, h3⟩ := cnt_onto (c := c) h
      exact ⟨c', by omega, h2, h3⟩
/-- T is T0 brought to steps in its first c columns. -/
structure Ech (r w : Nat) (T0 T : Mat) (c rank : Nat) : Prop where
  same : Same r w T0 T
  num : rank = cnt r w T0 c
  le : rank ≤ r
  col : ∀ c', c' < c → lead r w T0 c' → ∀ i, i < r → T i c' = del i (cnt r w T0 c')
  low : ∀ i, rank ≤ i → i < r → ∀ c', c' < c → T i c' = 0
theorem ech_start {r w : Nat} {T : Mat} : Ech r w T T 0 0 := ⟨Same.refl, rfl, Nat.zero_le _, fun c' h => by omega, fun i _ _ c' h => by omega⟩
/-- What is spanned and begins behind the columns so far is a sum of the lower rows. -/
theorem ech_low {r w : Nat} {T0 T : Mat} {c rank : Nat} (h : Ech r w T0 T c rank) (hc : c ≤ w) {v : Nat → F} (hv : spans r w T0 v) (h0 : ∀ j, j < c → v j = 0) :
    ∃ x : Nat → F, (∀ i, i < rank → x i = 0) ∧ ∀ j, j < w → v j = fsum (fun i => fmul (x i) (T i j)) r := by
  obtain ⟨x, hx⟩ := h.same.spans.1 hv
  refine ⟨x, fun i hi => ?_, hx⟩
  rw [h.num] at hi
  obtain ⟨c', h1, h2, h3⟩ := cnt_onto hi
  have hle := h.le
  have h4 := hx c' (by omega)
  rw [h0 c' h1, fsum_congr fun a ha => by rw [h.col c' h1 h2 a ha, h3]] at h4
  rw [fsum_del' (f := x) (by have := h.num; omega)] at h4
  exact h4.symm
theorem ech_skip {r w : Nat} {T0 T : Mat} {c rank : Nat} (h : Ech r w T0 T c rank) (hc : c < w) (hz : ∀ i, rank ≤ i → i < r → T i c = 0) : Ech r w T0 T (c + 1) rank := by
  have hn : ¬ lead r w T0 c := fun ⟨v, h1, h2, h3⟩ => by
    obtain ⟨x, hx, he⟩ := ech_low h (by omega) h1 h2
    apply h3
    rw [he c hc]
    refine fsum_zero fun i hi => ?_
    by_cases hir : i < rank
    · rw [hx i hir, zero_fmul]
    · rw [hz i (by omega) hi, fmul_zero]
  refine ⟨h.same, by rw [cnt_not hn]; exact h.num, h.le, fun c' hc' hl i hi => ?_, fun i h1 h2 c' hc' => ?_⟩
  · by_cases he : c' = c
    · rw [he] at hl; exact (hn hl).elim
    · exact h.col c' (by omega) hl i hi
  · by_cases he : c' = c
    · rw [he]; exact hz i h1 h2
    · exact h.low i h1 h2 c' (by omega)
/-- A step with a pivot: all that is asked of the new matrix. -/
theorem ech_step {r w : Nat} {T0 T T' : Mat} {c rank : Nat} (h : Ech r w T0 T c rank) (hc : c < w) (hr : rank < r) (hs : Same r w T T') (hcol : ∀ i, i < r → T' i c = del i rank)
    (hold : ∀ c', c' < c → ∀ i, i < r → T' i c' = T i c') : Ech r w T0 T' (c + 1) (rank + 1) := by
  have hl : lead r w T0 c := by
    refine ⟨T' rank, (h.same.trans hs).spans.2 (spans_row hr), fun j hj => ?_, ?_⟩
    · rw [hold j hj rank hr]; exact h.low rank (Nat.le_refl _) hr j hj
    · rw [hcol rank hr, del, if_pos rfl]; decide
  refine ⟨h.same.trans hs, by rw [cnt_lead hl, ← h.num], hr, fun c' hc' hl' i hi => ?_, fun i h1 h2 c' hc' => ?_⟩
  · by_cases he : c' = c
    · rw [he, hcol i hi, h.num]
    · rw [hold c' (by omega) i hi]; exact h.col c' (by omega) hl' i hi
  · by_cases he : c' = c
    · rw [he, hcol i h2, del, if_neg (by omega)]
    · rw [hold c' (by omega) i h2]; exact h.low i (by omega) h2 c' (by omega)
/-- Full rank: the first columns are the identity's. -/
theorem cnt_full {r w : Nat} {T : Mat} : ∀ {n : Nat}, cnt r w T n = n → ∀ c, c < n → lead r w T c ∧ cnt r w T c = c
  | 0, _, c, h => by omega
  | n + 1, he, c, h => by
    by_cases hl : lead r w T n
    · rw [cnt_lead hl] at he
      by_cases hc : c = n
      · exact ⟨by rw [hc]; exact hl, by rw [hc]; omega⟩
      · exact cnt_full (n := n) (by omega) c (by omega)
    · rw [cnt_not hl] at he
      have := cnt_le (r := r) (w := w) (T := T) n
      omega
theorem ech_full {r w : Nat} {T0 T : Mat} {n : Nat} (h : Ech r w T0 T n n) : ∀ i, i < r → ∀ c, c < n → T i c = del i c := fun i hi c hc => by
  obtain ⟨h1, h2⟩ := cnt_full h.num.symm c hc
  rw [h.col c hc h1 i hi, h2]
theorem ech_rank {r w : Nat} {T0 T T' : Mat} {c k k' : Nat} (h : Ech r w T0 T c k) (h' : Ech r w T0 T' c k') : k = k' := by rw [h.num, h'.num]
/-- Of full rank two such matrices are the same. -/
theorem ech_unique {w : Nat} {T0 T T' : Mat} {n : Nat} (h : Ech n w T0 T n n) (h' : Ech n w T0 T' n n) (hw : n ≤ w) : ∀ i, i < n → ∀ j, j < w → T i j = T' i j := fun i hi j hj => by
  obtain ⟨x, hx⟩ := h'.same.spans.1 (h.same.spans.2 (spans_row hi))
  have he : ∀ a, a < n → x a = del i a := fun a ha => by
    have h1 := hx a (by omega)
    rw [ech_full h i hi a ha, fsum_congr fun b hb => by rw [ech_full h' b hb a ha]] at h1
    rw [fsum_del' (f := x) ha] at h1
    exact h1.symm
  rw [hx j hj, fsum_congr fun a ha => by rw [he a ha]]
  rw [fsum_congr (g := fun a => fmul (del a i) (T' a j)) fun a _ => by unfold del; simp only [eq_comm]]
  exact fsum_del (f := fun a => T' a j) hi
/-- Of a smaller rank: a column vector that the matrix brings to 0. -/
theorem ech_null {r w : Nat} {T0 T : Mat} {n rank : Nat} (h : Ech r w T0 T n rank) (hn : n ≤ w) (hlt : rank < n) : ∃ y : Nat → F, (∃ c, c < n ∧ y c ≠ 0) ∧ ∀ i, i < r → fsum (fun j => fmul (T0 i j) (y j)) n = 0 := by
  have hex : ∃ c, c < n ∧ ¬ lead r w T0 c := by
    refine Classical.byContradiction fun hno => ?_
    have hall : ∀ c, c < n → lead r w T0 c := fun c hc => Classical.byContradiction fun hl => hno ⟨c, hc, hl⟩
    have : ∀ c, c ≤ n → cnt r w T0 c = c := fun c => by
      induction c with
      | zero => intro _; rfl
      | succ c ih => intro hc; rw [cnt_lead (hall c (by omega)), ih (by omega)]
    have := this n (Nat.le_refl _)
    have := h.num
    omega
  obtain ⟨c, hc, hnl⟩ := hex
  let y : Nat → F := fun j => open Classical in if j = c then 1 else if lead r w T0 j then T (cnt r w T0 j) c else 0
  have hyc : y c = 1 := by simp [y]
  have hT : ∀ i, i < r → fsum (fun j => fmul (T i j) (y j)) n = 0 := fun i hi => by
    have hsplit : fsum (fun j => fmul (T i j) (y j)) n = fsum (fun j => fmul (if j = c then T i c else 0) 1) n ^^^ fsum (fun j => open Classical in if j ≠ c ∧ lead r w T0 j then fmul (del i (cnt r w T0 j)) (T (cnt r w T0 j) c) else 0) n := by
      rw [← fsum_xor]
      refine fsum_congr fun j hj => ?_
      by_cases hjc : j = c
      · subst hjc
        simp only [hyc, fmul_one, if_true, ne_eq, not_true, false_and, if_false, xor_zero']
      · simp only [if_neg hjc, zero_fmul, zero_xor']
        by_cases hl : lead r w T0 j
        · rw [if_pos ⟨hjc, hl⟩, h.col j hj hl i hi]; simp only [y, if_neg hjc, if_pos hl]
        · rw [if_neg fun hh => hl hh.2]; simp only [y, if_neg hjc, if_neg hl, fmul_zero]
    rw [hsplit, fsum_one hc fun j _ hj => by rw [if_neg hj, zero_fmul], if_pos rfl, fmul_one]
    by_cases hir : i < rank
    · rw [h.num] at hir
      obtain ⟨c', h1, h2, h3⟩ := cnt_onto hir
      have hcc : c' ≠ c := fun e => hnl (e ▸ h2)
      rw [fsum_one (k := c') h1 fun j hj hjc => ?_, if_pos ⟨hcc, h2⟩, h3, del, if_pos rfl, one_fmul, xor_self']
      split
      · rename_i hh
        rw [del, if_neg, zero_fmul]
        intro e
        exact hjc (cnt_inj hh.2 h2 (by rw [h3, e]))
      · rfl
    · rw [h.low i (by omega) hi c hc, zero_xor']
      refine fsum_zero fun j hj => ?_
      split
      · rename_i hh
        rw [del, if_neg, zero_fmul]
        have := cnt_lt hh.2 hj
        have := h.num
        omega
      · rfl
  refine ⟨y, ⟨c, hc, by rw [hyc]; decide⟩, fun i hi => ?_⟩
  obtain ⟨x, hx⟩ := h.same.back i hi
  rw [fsum_congr fun j hj => by rw [hx j (by omega), ← fsum_mul'], fsum_swap]
  refine fsum_zero fun a ha => ?_
  rw [fsum_congr (g := fun j => fmul (x a) (fmul (T a j) (y j))) fun j _ => fmul_assoc, fsum_mul, hT a ha, fmul_zero]
end Go.Proofs

/- Polynomials over the field: roots, Lagrange's formula. -/
set_option linter.unusedSimpArgs false
set_option linter.unusedVariables false
namespace Go.Proofs
open Go Go.Eng

def hornF (x : F) : List F → F
  | [] => 0
  | c :: l => fmul (hornF x l) x ^^^ c
theorem horn_nil {x : F} : hornF x [] = 0 := rfl
theorem horn_one {x c : F} : hornF x [c] = c := by rw [hornF, horn_nil, zero_fmul, zero_xor']
def divL (r : F) : List F → List F
  | [] => []
  | [_] => []
  | _ :: c' :: l => hornF r (c' :: l) :: divL r (c' :: l)
theorem divL_len {r : F} : ∀ {l : List F}, (divL r l).length = l.length - 1
  | [] => rfl
  | [_] => rfl
  | _ :: c' :: l => by simp only [divL, List.length_cons, divL_len (l := c' :: l)]; omega
theorem horn_div {x r : F} : ∀ {l : List F}, hornF x l ^^^ hornF r l = fmul (x ^^^ r) (hornF x (divL r l))
  | [] => by rw [divL, horn_nil, horn_nil, xor_self', fmul_zero]
  | [c] => by rw [divL, horn_one, horn_one, horn_nil, xor_self', fmul_zero]
  | c :: c' :: l => by
    have ih := horn_div (x := x) (r := r) (l := c' :: l)
    rw [divL, show hornF x (c :: c' :: l) = fmul (hornF x (c' :: l)) x ^^^ c from rfl, show hornF r (c :: c' :: l) = fmul (hornF r (c' :: l)) r ^^^ c from rfl]
    conv => rhs; rw [hornF]
    have h1 : ∀ a b d : F, a ^^^ b = fmul (x ^^^ r) d → fmul a x ^^^ c ^^^ (fmul b r ^^^ c) = fmul (x ^^^ r) (fmul d x ^^^ b) := fun a b d h => by
      rw [xor_swap, xor_self', xor_zero', xor_fmul (z := x ^^^ r), ← fmul_assoc, ← h, fmul_xor, fmul_comm (x := x ^^^ r), xor_fmul, ← BitVec.xor_assoc, xor_cancel]
    exact h1 _ _ _ ih
theorem div_zero {r : F} : ∀ {l : List F} {c : F}, (∀ y ∈ divL r (c :: l), y = 0) → ∀ y ∈ l, y = 0
  | [], _, _ => by simp
  | c' :: l, c, h => by
    simp only [divL, List.mem_cons, forall_eq_or_imp] at h
    have ht := div_zero (l := l) (c := c') h.2
    have hh : hornF r l = 0 := by
      clear h
      induction l with
      | nil => rfl
      | cons a l ih => rw [hornF, ih fun y hy => ht y (List.mem_cons_of_mem _ hy), zero_fmul, ht a (List.mem_cons_self ..), xor_zero']
    have h1 := h.1
    rw [hornF, hh, zero_fmul, zero_xor'] at h1
    intro y hy
    rcases List.mem_cons.1 hy with rfl | hy
    · exact h1
    · exact ht y hy
theorem horn_zero {x : F} : ∀ {l : List F}, (∀ y ∈ l, y = 0) → hornF x l = 0
  | [], _ => rfl
  | a :: l, h => by rw [hornF, horn_zero fun y hy => h y (List.mem_cons_of_mem _ hy), zero_fmul, h a (List.mem_cons_self ..), xor_zero']
def distinct (n : Nat) (xs : Nat → F) : Prop := ∀ i j, i < n → j < n → xs i = xs j → i = j
/-- As many different roots as coefficients: 0. -/
theorem roots_zero {xs : Nat → F} : ∀ {n : Nat} {l : List F}, l.length ≤ n → distinct n xs → (∀ i, i < n → hornF (xs i) l = 0) → ∀ y ∈ l, y = 0
  | 0, l, hl, _, _ => by
    have : l = [] := List.eq_nil_of_length_eq_zero (by omega)
    rw [this]; simp
  | n + 1, [], _, _, _ => by simp
  | n + 1, c :: t, hl, hd, hr => by
    simp only [List.length_cons] at hl
    have hq := roots_zero (n := n) (l := divL (xs n) (c :: t)) (by rw [divL_len, List.length_cons]; omega) (fun i j hi hj => hd i j (by omega) (by omega)) fun i hi => by
      have h := horn_div (x := xs i) (r := xs n) (l := c :: t)
      rw [hr i (by omega), hr n (by omega), xor_self'] at h
      rcases fmul_eq_zero.1 h.symm with h1 | h1
      · have := hd i n (by omega) (by omega) (xor_eq_zero.1 h1); omega
      · exact h1
    have ht := div_zero hq
    have h1 := hr n (by omega)
    rw [hornF, horn_zero ht, zero_fmul, zero_xor'] at h1
    intro y hy
    rcases List.mem_cons.1 hy with rfl | hy
    · exact h1
    · exact ht y hy
/-- A polynomial by its first n coefficients. -/
def pval (n : Nat) (y : Nat → F) (x : F) : F := fsum (fun j => fmul (y j) (fpow x j)) n
theorem horn_snoc {x c : F} : ∀ {l : List F}, hornF x (l ++ [c]) = hornF x l ^^^ fmul c (fpow x l.length)
  | [] => by rw [List.nil_append, horn_one, horn_nil, zero_xor', List.length_nil, fpow, fmul_one]
  | a :: l => by
    rw [List.cons_append, hornF, horn_snoc (l := l), hornF, fmul_xor, List.length_cons, fpow, BitVec.xor_assoc, BitVec.xor_assoc, fmul_assoc, BitVec.xor_comm a]
theorem horn_pval {y : Nat → F} {x : F} : ∀ n, hornF x ((List.range n).map y) = pval n y x
  | 0 => rfl
  | n + 1 => by
    rw [List.range_succ, List.map_append, List.map_cons, List.map_nil, horn_snoc, horn_pval n]
    simp [pval, fsum]
theorem pval_roots {n : Nat} {y : Nat → F} {xs : Nat → F} (hd : distinct n xs) (h : ∀ i, i < n → pval n y (xs i) = 0) : ∀ j, j < n → y j = 0 := fun j hj => by
  have := roots_zero (l := (List.range n).map y) (by simp) hd (fun i hi => by rw [horn_pval]; exact h i hi) (y j)
  exact this (List.mem_map.2 ⟨j, List.mem_range.2 hj, rfl⟩)
theorem horn_getD {x : F} {l : List F} {n : Nat} (hl : l.length ≤ n) : hornF x l = pval n (fun j => l.getD j 0) x := by
  have h1 : ∀ m, pval (l.length + m) (fun j => l.getD j 0) x = pval l.length (fun j => l.getD j 0) x := fun m => by
    induction m with
    | zero => rfl
    | succ m ih =>
      rw [← Nat.add_assoc, pval, fsum]
      rw [show fsum (fun j => fmul (l.getD j 0) (fpow x j)) (l.length + m) = pval (l.length + m) (fun j => l.getD j 0) x from rfl, ih]
      rw [show l.getD (l.length + m) 0 = 0 by rw [List.getD_eq_getElem?_getD, List.getElem?_eq_none (by omega)]; rfl, zero_fmul, xor_zero']
  rw [show n = l.length + (n - l.length) by omega, h1, ← horn_pval]
  congr 1
  apply List.ext_getElem?
  intro j
  by_cases hj : j < l.length
  · simp [List.getElem?_range hj, List.getD_eq_getElem?_getD, List.getElem?_eq_getElem hj]
  · simp [hj]

/-! ### Products of factors -/
def fprod (f : Nat → F) : Nat → F
  | 0 => 1
  | n + 1 => fmul (fprod f n) (f n)
theorem fprod_congr {f g : Nat → F} {n : Nat} (h : ∀ i, i < n → f i = g i) : fprod f n = fprod g n := by
  induction n with
  | zero => rfl
  | succ n ih => rw [fprod, fprod, ih fun i hi => h i (by omega), h n (by omega)]
theorem fprod_ne {f : Nat → F} {n : Nat} (h : ∀ i, i < n → f i ≠ 0) : fprod f n ≠ 0 := by
  induction n with
  | zero => exact (by decide : (1 : F) ≠ 0)
  | succ n ih => exact fmul_ne_zero (ih fun i hi => h i (by omega)) (h n (by omega))
theorem fprod_zero {f : Nat → F} {n k : Nat} (hk : k < n) (h : f k = 0) : fprod f n = 0 := by
  induction n with
  | zero => omega
  | succ n ih =>
    rw [fprod]
    by_cases hkn : k = n
    · rw [← hkn, h, fmul_zero]
    · rw [ih (by omega), zero_fmul]
/-- One factor apart. -/
theorem fprod_out {f : Nat → F} {n k : Nat} (hk : k < n) : fprod f n = fmul (f k) (fprod (fun m => if m = k then 1 else f m) n) := by
  induction n with
  | zero => omega
  | succ n ih =>
    rw [fprod, fprod]
    by_cases hkn : k = n
    · subst hkn
      rw [if_pos rfl, fmul_one, fmul_comm, fprod_congr (g := fun m => if m = k then 1 else f m) fun i hi => by rw [if_neg (by omega)]]
    · rw [ih (by omega), if_neg (by omega), fmul_assoc]
def byGo (r : F) : F → List F → List F
  | p, [] => [p]
  | p, c :: l => (p ^^^ fmul r c) :: byGo r c l
theorem byGo_len {r : F} : ∀ {p : F} {l : List F}, (byGo r p l).length = l.length + 1
  | _, [] => rfl
  | _, c :: l => by simp [byGo, byGo_len]
theorem byGo_horn {r x : F} : ∀ {p : F} {l : List F}, hornF x (byGo r p l) = p ^^^ fmul (x ^^^ r) (hornF x l)
  | p, [] => by rw [byGo, horn_one, horn_nil, fmul_zero, xor_zero']
  | p, c :: l => by
    rw [byGo, hornF, byGo_horn, hornF, fmul_xor, xor_fmul, BitVec.xor_comm _ (p ^^^ fmul r c), BitVec.xor_assoc, fmul_xor (x := x) (y := r) (z := c), ← fmul_assoc]
    congr 1
    rw [fmul_comm (x := c) (y := x), ← BitVec.xor_assoc, BitVec.xor_comm (fmul r c), BitVec.xor_comm]
theorem prod_poly (xs : Nat → F) (i : Nat) : ∀ n, ∃ l : List F, l.length = (if i < n then n else n + 1) ∧ ∀ x, hornF x l = fprod (fun m => if m = i then 1 else x ^^^ xs m) n
  | 0 => ⟨[1], by simp, fun x => by rw [horn_one, fprod]⟩
  | n + 1 => by
    obtain ⟨l, h1, h2⟩ := prod_poly xs i n
    by_cases hn : n = i
    · subst hn
      refine ⟨l, by rw [h1]; simp, fun x => by rw [h2, fprod, if_pos rfl, fmul_one]⟩
    · refine ⟨byGo (xs n) 0 l, ?_, fun x => ?_⟩
      · rw [byGo_len, h1]; split <;> split <;> omega
      · rw [byGo_horn, h2, fprod, if_neg hn, zero_xor', fmul_comm]
/-- The value at x of the polynomial that is 1 at point i and 0 at the others. -/
def lagF (n : Nat) (xs : Nat → F) (x : F) (i : Nat) : F := fmul (fprod (fun m => if m = i then 1 else x ^^^ xs m) n) (finv (fprod (fun m => if m = i then 1 else xs i ^^^ xs m) n))
theorem lag_del {n : Nat} {xs : Nat → F} (hd : distinct n xs) {i k : Nat} (hi : i < n) (hk : k < n) : lagF n xs (xs k) i = del i k := by
  unfold lagF del
  by_cases hik : i = k
  · subst hik
    rw [if_pos rfl, fmul_finv]
    refine fprod_ne fun m hm => ?_
    split
    · decide
    · rename_i hmi
      exact fun h => hmi (hd i m hi hm (xor_eq_zero.1 h)).symm
  · rw [if_neg hik, fprod_zero (k := k) hk (by rw [if_neg (Ne.symm hik)]; exact xor_self'), zero_fmul]
theorem lagrange {n : Nat} {xs : Nat → F} (hd : distinct n xs) {y : Nat → F} {x : F} : pval n y x = fsum (fun i => fmul (lagF n xs x i) (pval n y (xs i))) n := by
  have hex : ∀ i, ∃ l : Nat → F, i < n → ∀ x, pval n l x = lagF n xs x i := fun i => by
    obtain ⟨l, h1, h2⟩ := prod_poly xs i n
    refine ⟨fun j => fmul (l.getD j 0) (finv (fprod (fun m => if m = i then 1 else xs i ^^^ xs m) n)), fun hi x => ?_⟩
    rw [lagF, ← h2 x, horn_getD (n := n) (by rw [h1, if_pos hi]; exact Nat.le_refl _), pval, pval, ← fsum_mul']
    refine fsum_congr fun j _ => ?_
    rw [fmul_assoc, fmul_comm (x := finv _), ← fmul_assoc]
  let lc : Nat → Nat → F := fun i => (hex i).choose
  have hlc : ∀ i, i < n → ∀ x, pval n (lc i) x = lagF n xs x i := fun i hi => (hex i).choose_spec hi
  let S : Nat → F := fun j => y j ^^^ fsum (fun i => fmul (pval n y (xs i)) (lc i j)) n
  have hS : ∀ x, pval n S x = pval n y x ^^^ fsum (fun i => fmul (lagF n xs x i) (pval n y (xs i))) n := fun x => by
    have h1 : pval n S x = pval n y x ^^^ fsum (fun j => fsum (fun i => fmul (pval n y (xs i)) (fmul (lc i j) (fpow x j))) n) n := by
      simp only [pval]
      rw [← fsum_xor]
      refine fsum_congr fun j _ => ?_
      simp only [S]
      rw [fmul_xor]
      congr 1
      rw [← fsum_mul']
      exact fsum_congr fun i _ => fmul_assoc
    rw [h1, fsum_swap]
    congr 1
    refine fsum_congr fun i hi => ?_
    rw [fsum_mul, ← hlc i hi x, fmul_comm]
    rfl
  have h0 := pval_roots (y := S) hd fun k hk => by
    rw [hS, fsum_congr fun i hi => by rw [lag_del hd hi hk], fsum_del (f := fun i => pval n y (xs i)) hk, xor_self']
  have := hS x
  rw [show pval n S x = 0 from fsum_zero fun j hj => by rw [h0 j hj, zero_fmul]] at this
  exact xor_eq_zero.1 this.symm
/-- Rows of powers: only 0 is brought to 0. -/
theorem vander_inj {n : Nat} {xs : Nat → F} (hd : distinct n xs) {y : Nat → F} (h : ∀ i, i < n → fsum (fun j => fmul (fpow (xs i) j) (y j)) n = 0) : ∀ j, j < n → y j = 0 :=
  pval_roots hd fun i hi => by
    rw [pval, ← h i hi]
    exact fsum_congr fun j _ => fmul_comm
end Go.Proofs

/- Lists of bytes, place by place. -/
set_option linter.unusedSimpArgs false
set_option linter.unusedVariables false
namespace Go.Eng
open Go
def rowTo (f : Nat → Int → Int) (l : List Int) (j : Nat) : List Int := l.mapIdx fun i x => if i < j then f i x else x
end Go.Eng
namespace Go.Proofs
open Go Go.Eng
theorem list_ext_getD {a b : List Int} (hl : a.length = b.length) (h : ∀ i, i < a.length → a.getD i 0 = b.getD i 0) : a = b := by
  apply List.ext_getElem hl
  intro i h1 h2
  have := h i h1
  rwa [List.getD_eq_getElem?_getD, List.getElem?_eq_getElem h1, List.getD_eq_getElem?_getD, List.getElem?_eq_getElem h2] at this
theorem rowTo_len {f : Nat → Int → Int} {l : List Int} {j : Nat} : (rowTo f l j).length = l.length := by simp [rowTo]
theorem rowTo_get {f : Nat → Int → Int} {l : List Int} {j i : Nat} (h : i < l.length) : (rowTo f l j).getD i 0 = if i < j then f i (l.getD i 0) else l.getD i 0 := by
  rw [rowTo, List.getD_eq_getElem?_getD, List.getElem?_mapIdx, List.getElem?_eq_getElem h, List.getD_eq_getElem?_getD, List.getElem?_eq_getElem h]; rfl
theorem rowTo_zero {f : Nat → Int → Int} {l : List Int} : rowTo f l 0 = l :=
  list_ext_getD rowTo_len fun i hi => by rw [rowTo_len] at hi; rw [rowTo_get hi, if_neg (by omega)]
theorem rowTo_step {f : Nat → Int → Int} {l : List Int} {j : Nat} (h : j < l.length) : (rowTo f l j).set j (f j (l.getD j 0)) = rowTo f l (j + 1) := by
  refine list_ext_getD (by rw [List.length_set, rowTo_len, rowTo_len]) fun i hi => ?_
  rw [List.length_set, rowTo_len] at hi
  rw [rowTo_get hi, List.getD_eq_getElem?_getD, List.getElem?_set]
  by_cases hij : j = i
  · subst hij
    rw [if_pos rfl, if_pos (by rw [rowTo_len]; exact h), if_pos (by omega)]; rfl
  · rw [if_neg hij, ← List.getD_eq_getElem?_getD, rowTo_get hi]
    by_cases h2 : i < j
    · rw [if_pos h2, if_pos (by omega)]
    · rw [if_neg h2, if_neg (by omega)]
theorem upto_at {ρ ρ' : Env} {nv m : Nat} (hag : ∀ n, n < nv → ρ' n = ρ n) (h : nv ≤ m) : ∀ n, n < nv → (ρ'.upto m) n = ρ n := fun n hn => by
  rw [Env.upto, if_pos (by omega)]
  exact hag n hn
end Go.Proofs

/- The elimination on lists of bytes brings to steps. -/
set_option linter.unusedSimpArgs false
set_option linter.unusedVariables false
namespace Go.Proofs
open Go Go.Eng

def bytesL (l : List Int) : Prop := ∀ x ∈ l, isB x
theorem bytesL_get {l : List Int} (h : bytesL l) (i : Nat) : isB (l.getD i 0) := by
  rw [List.getD_eq_getElem?_getD]
  by_cases hi : i < l.length
  · rw [List.getElem?_eq_getElem hi]; exact h _ (List.getElem_mem hi)
  · rw [List.getElem?_eq_none (by omega)]; exact ⟨by simp, by simp⟩
def matL (ca : Nat) (l : List Int) : Mat := fun i j => toF (l.getD (i * ca + j) 0)
def augL (ca cb : Nat) (a b : List Int) : Mat := fun i j => if j < ca then matL ca a i j else matL cb b i (j - ca)
theorem row_in {i i' ca j : Nat} (hj : j < ca) : (i * ca ≤ i' * ca + j ∧ i' * ca + j < i * ca + ca) ↔ i' = i := by
  constructor
  · intro ⟨h1, h2⟩
    rcases Nat.lt_trichotomy i' i with h | h | h
    · have := Nat.mul_le_mul_right ca (show i' + 1 ≤ i by omega)
      rw [Nat.add_mul, Nat.one_mul] at this; omega
    · exact h
    · have := Nat.mul_le_mul_right ca (show i + 1 ≤ i' by omega)
      rw [Nat.add_mul, Nat.one_mul] at this; omega
  · rintro rfl; omega
theorem cell_lt {i r ca j : Nat} (hi : i < r) (hj : j < ca) : i * ca + j < r * ca := by
  have := Nat.mul_le_mul_right ca (show i + 1 ≤ r by omega)
  rw [Nat.add_mul, Nat.one_mul] at this; omega
theorem row_le {i r ca : Nat} (hi : i < r) : i * ca + ca ≤ r * ca := by
  have := Nat.mul_le_mul_right ca (show i + 1 ≤ r by omega)
  rwa [Nat.add_mul, Nat.one_mul] at this
theorem addToL_bytes {l s : List Int} {off : Nat} {c : Int} (h : bytesL l) : bytesL (addToL l off s c) := fun x hx => by
  obtain ⟨i, hi⟩ := List.getElem?_of_mem hx
  rw [addToL_get] at hi
  obtain ⟨y, hy, rfl⟩ := Option.map_eq_some_iff.1 hi
  split
  · exact xorB_isB
  · exact h y (List.mem_of_getElem? hy)
theorem scaleL_bytes {l : List Int} {off n : Nat} {c : Int} (h : bytesL l) (hc : isB c) : bytesL (scaleL l off n c) := fun x hx => by
  obtain ⟨i, hi⟩ := List.getElem?_of_mem hx
  rw [scaleL_get] at hi
  obtain ⟨y, hy, rfl⟩ := Option.map_eq_some_iff.1 hi
  have := h y (List.mem_of_getElem? hy)
  split
  · exact mulF_isB this hc
  · exact this
theorem matL_add {ca r i p : Nat} {a : List Int} {g : Int} (ha : a.length = r * ca) (hb : bytesL a) (hg : isB g) (hi : i < r) (hp : p < r) {i' j : Nat} (hi' : i' < r) (hj : j < ca) :
    matL ca (addToL a (i * ca) (seg a (p * ca) ca) g) i' j = if i' = i then matL ca a i j ^^^ fmul (toF g) (matL ca a p j) else matL ca a i' j := by
  have hlt := cell_lt hi' hj
  have hsl : (seg a (p * ca) ca).length = ca := seg_len (by rw [ha]; exact row_le hp)
  unfold matL
  rw [List.getD_eq_getElem?_getD, addToL_get, List.getElem?_eq_getElem (by omega), Option.map_some, Option.getD_some, hsl]
  by_cases he : i' = i
  · subst he
    rw [if_pos ⟨by omega, by omega⟩, if_pos rfl, show i' * ca + j - i' * ca = j by omega]
    have hs : (seg a (p * ca) ca).getD j 0 = a.getD (p * ca + j) 0 := by
      rw [List.getD_eq_getElem?_getD, seg_get, if_pos hj, List.getD_eq_getElem?_getD]
    rw [hs, toF_xorB, toF_mulF hg (bytesL_get hb _), List.getD_eq_getElem?_getD (l := a) (i := i' * ca + j), List.getElem?_eq_getElem (by omega), Option.getD_some]
  · rw [if_neg (fun h => he ((row_in hj).1 h)), if_neg he, List.getD_eq_getElem?_getD, List.getElem?_eq_getElem (by omega), Option.getD_some]
theorem matL_scale {ca r i : Nat} {a : List Int} {g : Int} (ha : a.length = r * ca) (hb : bytesL a) (hg : isB g) (hi : i < r) {i' j : Nat} (hi' : i' < r) (hj : j < ca) :
    matL ca (scaleL a (i * ca) ca g) i' j = if i' = i then fmul (matL ca a i j) (toF g) else matL ca a i' j := by
  have hlt := cell_lt hi' hj
  unfold matL
  rw [List.getD_eq_getElem?_getD, scaleL_get, List.getElem?_eq_getElem (by omega), Option.map_some, Option.getD_some]
  by_cases he : i' = i
  · subst he
    rw [if_pos ⟨by omega, by omega⟩, if_pos rfl, List.getD_eq_getElem?_getD, List.getElem?_eq_getElem (by omega), Option.getD_some, toF_mulF (hb _ (List.getElem_mem _)) hg]
  · rw [if_neg (fun h => he ((row_in hj).1 h)), if_neg he, List.getD_eq_getElem?_getD, List.getElem?_eq_getElem (by omega), Option.getD_some]
/-- Two lists of bytes, as many rows of ca and of cb. -/
structure Two (r ca cb : Nat) (a b : List Int) : Prop where
  la : a.length = r * ca
  lb : b.length = r * cb
  ba : bytesL a
  bb : bytesL b
variable {r ca cb : Nat} {a b : List Int}
theorem Two.add (h : Two r ca cb a b) {i p : Nat} {g : Int} : Two r ca cb (addToL a (i * ca) (seg a (p * ca) ca) g) (addToL b (i * cb) (seg b (p * cb) cb) g) :=
  ⟨by rw [addToL_len, h.la], by rw [addToL_len, h.lb], addToL_bytes h.ba, addToL_bytes h.bb⟩
theorem Two.scale (h : Two r ca cb a b) {i : Nat} {g : Int} (hg : isB g) : Two r ca cb (scaleL a (i * ca) ca g) (scaleL b (i * cb) cb g) :=
  ⟨by rw [scaleL_len, h.la], by rw [scaleL_len, h.lb], scaleL_bytes h.ba hg, scaleL_bytes h.bb hg⟩
theorem aug_add (h : Two r ca cb a b) {i p : Nat} {g : Int} (hg : isB g) (hi : i < r) (hp : p < r) {i' j : Nat} (hi' : i' < r) (hj : j < ca + cb) :
    augL ca cb (addToL a (i * ca) (seg a (p * ca) ca) g) (addToL b (i * cb) (seg b (p * cb) cb) g) i' j = if i' = i then augL ca cb a b i j ^^^ fmul (toF g) (augL ca cb a b p j) else augL ca cb a b i' j := by
  unfold augL
  by_cases hjc : j < ca
  · simp only [if_pos hjc]; exact matL_add h.la h.ba hg hi hp hi' hjc
  · simp only [if_neg hjc]; exact matL_add h.lb h.bb hg hi hp hi' (by omega)
theorem aug_scale (h : Two r ca cb a b) {i : Nat} {g : Int} (hg : isB g) (hi : i < r) {i' j : Nat} (hi' : i' < r) (hj : j < ca + cb) :
    augL ca cb (scaleL a (i * ca) ca g) (scaleL b (i * cb) cb g) i' j = if i' = i then fmul (augL ca cb a b i j) (toF g) else augL ca cb a b i' j := by
  unfold augL
  by_cases hjc : j < ca
  · simp only [if_pos hjc]; exact matL_scale h.la h.ba hg hi hi' hjc
  · simp only [if_neg hjc]; exact matL_scale h.lb h.bb hg hi hi' (by omega)
theorem aug_left {c i : Nat} (hc : c < ca) : augL ca cb a b i c = toF (a.getD (i * ca + c) 0) := by rw [augL, if_pos hc, matL]
theorem piv_facts (a : List Int) (ca c : Nat) : ∀ n p, p ≤ pivF a ca c p n ∧ pivF a ca c p n ≤ p + n ∧ (pivF a ca c p n < p + n → a.getD (pivF a ca c p n * ca + c) 0 ≠ 0) ∧ ∀ i, p ≤ i → i < pivF a ca c p n → a.getD (i * ca + c) 0 = 0
  | 0, p => by simp only [pivF]; exact ⟨Nat.le_refl _, Nat.le_refl _, fun h => by omega, fun i h1 h2 => by omega⟩
  | n + 1, p => by
    obtain ⟨h1, h2, h3, h4⟩ := piv_facts a ca c n (p + 1)
    simp only [pivF]
    split
    · rename_i hz
      refine ⟨by omega, by omega, fun h => h3 (by omega), fun i hi1 hi2 => ?_⟩
      by_cases hip : i = p
      · rw [hip]; exact hz
      · exact h4 i (by omega) hi2
    · rename_i hz
      exact ⟨Nat.le_refl _, by omega, fun _ => hz, fun i h1 h2 => by omega⟩
theorem Two.rows (h : Two r ca cb a b) {rank c : Nat} : ∀ i, Two r ca cb (elimRows ca cb rank c a b i).1 (elimRows ca cb rank c a b i).2
  | 0 => h
  | i + 1 => by
    have ih := Two.rows h (rank := rank) (c := c) i
    simp only [elimRows]
    split
    · exact ih
    · exact ih.add
/-- The other rows are cleared. -/
theorem aug_rows (h : Two r ca cb a b) {rank c : Nat} (hr : rank < r) (hc : c < ca) : ∀ i, i ≤ r →
    (∀ i' j, i' < r → j < ca + cb → augL ca cb (elimRows ca cb rank c a b i).1 (elimRows ca cb rank c a b i).2 i' j = if i' < i ∧ i' ≠ rank then augL ca cb a b i' j ^^^ fmul (augL ca cb a b i' c) (augL ca cb a b rank j) else augL ca cb a b i' j) ∧
    Same r (ca + cb) (augL ca cb a b) (augL ca cb (elimRows ca cb rank c a b i).1 (elimRows ca cb rank c a b i).2)
  | 0, _ => ⟨fun i' j _ _ => by rw [if_neg (by omega)]; rfl, Same.refl⟩
  | i + 1, hi => by
    obtain ⟨ih, ihs⟩ := aug_rows h hr hc i (by omega)
    have hT := h.rows (rank := rank) (c := c) i
    simp only [elimRows]
    by_cases hir : i = rank
    · rw [if_pos hir]
      refine ⟨fun i' j hi' hj => ?_, ihs⟩
      rw [ih i' j hi' hj]
      by_cases h1 : i' < i ∧ i' ≠ rank
      · rw [if_pos h1, if_pos ⟨by omega, h1.2⟩]
      · rw [if_neg h1, if_neg (by omega)]
    · rw [if_neg hir]
      simp only
      have hg := bytesL_get hT.ba (i * ca + c)
      have hgv : toF ((elimRows ca cb rank c a b i).1.getD (i * ca + c) 0) = augL ca cb a b i c := by
        rw [← aug_left (cb := cb) (b := (elimRows ca cb rank c a b i).2) hc, ih i c (by omega) (by omega), if_neg (by omega)]
      have hstep := fun i' j (hi' : i' < r) (hj : j < ca + cb) => aug_add hT (g := (elimRows ca cb rank c a b i).1.getD (i * ca + c) 0) hg (show i < r by omega) hr hi' hj
      refine ⟨fun i' j hi' hj => ?_, ihs.trans (same_add (i := i) (p := rank) (g := toF ((elimRows ca cb rank c a b i).1.getD (i * ca + c) 0)) (by omega) hr hir (fun j hj => by rw [hstep i j (by omega) hj, if_pos rfl]) fun a' ha' hne j hj => by rw [hstep a' j ha' hj, if_neg hne])⟩
      rw [hstep i' j hi' hj]
      by_cases he : i' = i
      · subst he
        rw [if_pos rfl, hgv, ih i' j hi' hj, if_neg (by omega), ih rank j hr hj, if_neg (by omega), if_pos ⟨by omega, hir⟩]
      · rw [if_neg he, ih i' j hi' hj]
        by_cases h1 : i' < i ∧ i' ≠ rank
        · rw [if_pos h1, if_pos ⟨by omega, h1.2⟩]
        · rw [if_neg h1, if_neg (by omega)]
/-- One column. -/
theorem elim_step {T0 : Mat} {c rank : Nat} (h2 : Two r ca cb a b) (h : Ech r (ca + cb) T0 (augL ca cb a b) c rank) (hc : c < ca) :
    Two r ca cb (elimStep r ca cb c (a, b, rank)).1 (elimStep r ca cb c (a, b, rank)).2.1 ∧ Ech r (ca + cb) T0 (augL ca cb (elimStep r ca cb c (a, b, rank)).1 (elimStep r ca cb c (a, b, rank)).2.1) (c + 1) (elimStep r ca cb c (a, b, rank)).2.2 := by
  unfold elimStep
  simp only
  by_cases hr : r ≤ rank
  · rw [if_pos hr]
    exact ⟨h2, ech_skip h (by omega) fun i (h1 : rank ≤ i) h3 => by omega⟩
  rw [if_neg hr]
  obtain ⟨p1, p2, p3, p4⟩ := piv_facts a ca c (r - rank) rank
  by_cases hp : pivF a ca c rank (r - rank) = r
  · rw [if_pos hp]
    refine ⟨h2, ech_skip h (by omega) fun i (h1 : rank ≤ i) h3 => ?_⟩
    rw [aug_left hc, p4 i h1 (by omega)]; rfl
  rw [if_neg hp]
  simp only
  generalize hpv : pivF a ca c rank (r - rank) = p at p1 p2 p3 p4 hp
  have hpr : p < r := by omega
  have hnz := p3 (by omega)
  have hmid : elimMid r ca cb c (a, b, rank) = scaleR ca cb rank c (swapR ca cb rank p a b).1 (swapR ca cb rank p a b).2 := by
    unfold elimMid; simp only [hpv]
  -- the pivot's row is added
  have h1 : Two r ca cb (swapR ca cb rank p a b).1 (swapR ca cb rank p a b).2 ∧ Same r (ca + cb) (augL ca cb a b) (augL ca cb (swapR ca cb rank p a b).1 (swapR ca cb rank p a b).2) ∧
      augL ca cb (swapR ca cb rank p a b).1 (swapR ca cb rank p a b).2 rank c ≠ 0 ∧ (∀ i j, i < r → j < ca + cb → i ≠ rank → augL ca cb (swapR ca cb rank p a b).1 (swapR ca cb rank p a b).2 i j = augL ca cb a b i j) ∧
      ∀ c', c' < c → augL ca cb (swapR ca cb rank p a b).1 (swapR ca cb rank p a b).2 rank c' = 0 := by
    have hpc : augL ca cb a b p c ≠ 0 := by
      rw [aug_left hc]
      intro h0
      exact hnz ((toF_eq_zero (bytesL_get h2.ba _)).1 h0)
    unfold swapR
    by_cases hpe : p = rank
    · rw [if_pos hpe]
      exact ⟨h2, Same.refl, by rw [← hpe]; exact hpc, fun _ _ _ _ _ => rfl, fun c' hc' => h.low rank (Nat.le_refl _) (by omega) c' hc'⟩
    · rw [if_neg hpe]
      have hst := fun i' j (hi' : i' < r) (hj : j < ca + cb) => aug_add h2 (g := 1) ⟨by omega, by omega⟩ (show rank < r by omega) hpr hi' hj
      have h1 : toF 1 = 1 := rfl
      refine ⟨h2.add, same_add (i := rank) (p := p) (g := toF 1) (by omega) hpr (Ne.symm hpe) (fun j hj => by simp only; rw [hst rank j (by omega) hj, if_pos rfl]) (fun a' ha' hne j hj => by simp only; rw [hst a' j ha' hj, if_neg hne]), ?_, fun i j hi hj hne => by simp only; rw [hst i j hi hj, if_neg hne], fun c' hc' => ?_⟩
      · simp only
        rw [hst rank c (by omega) (by omega), if_pos rfl, h1, one_fmul]
        rw [aug_left hc (i := rank), p4 rank (Nat.le_refl _) (by omega), toF_zero, zero_xor']
        exact hpc
      · simp only
        rw [hst rank c' (by omega) (by omega), if_pos rfl, h1, one_fmul, h.low rank (Nat.le_refl _) (by omega) c' hc', h.low p (by omega) hpr c' hc', xor_zero']
  rw [hmid]
  generalize swapR ca cb rank p a b = s1 at h1
  obtain ⟨t1, same1, nz1, oth1, low1⟩ := h1
  -- it is scaled
  have hgB := invF_isB (bytesL_get t1.ba (rank * ca + c))
  have hgv : toF (invF (s1.1.getD (rank * ca + c) 0)) = finv (augL ca cb s1.1 s1.2 rank c) := by rw [toF_invF (bytesL_get t1.ba _), aug_left hc]
  have t2 : Two r ca cb (scaleR ca cb rank c s1.1 s1.2).1 (scaleR ca cb rank c s1.1 s1.2).2 := t1.scale hgB
  have hsc : ∀ i j, i < r → j < ca + cb → augL ca cb (scaleR ca cb rank c s1.1 s1.2).1 (scaleR ca cb rank c s1.1 s1.2).2 i j = if i = rank then fmul (augL ca cb s1.1 s1.2 rank j) (finv (augL ca cb s1.1 s1.2 rank c)) else augL ca cb s1.1 s1.2 i j := fun i j hi hj => by
    rw [← hgv]
    exact aug_scale t1 hgB (by omega) hi hj
  generalize scaleR ca cb rank c s1.1 s1.2 = s2 at t2 hsc
  have same2 : Same r (ca + cb) (augL ca cb s1.1 s1.2) (augL ca cb s2.1 s2.2) := same_mul (i := rank) (g := finv (augL ca cb s1.1 s1.2 rank c)) (by omega) (finv_ne nz1) (fun j hj => by rw [hsc rank j (by omega) hj, if_pos rfl]) fun a' ha' hne j hj => by rw [hsc a' j ha' hj, if_neg hne]
  have one2 : augL ca cb s2.1 s2.2 rank c = 1 := by rw [hsc rank c (by omega) (by omega), if_pos rfl, fmul_finv nz1]
  have low2 : ∀ c', c' < c → augL ca cb s2.1 s2.2 rank c' = 0 := fun c' hc' => by rw [hsc rank c' (by omega) (by omega), if_pos rfl, low1 c' hc', zero_fmul]
  have oth2 : ∀ i j, i < r → j < ca + cb → i ≠ rank → augL ca cb s2.1 s2.2 i j = augL ca cb a b i j := fun i j hi hj hne => by rw [hsc i j hi hj, if_neg hne, oth1 i j hi hj hne]
  -- the others are cleared
  obtain ⟨r3, same3⟩ := aug_rows t2 (rank := rank) (c := c) (by omega) hc r (Nat.le_refl _)
  refine ⟨t2.rows r, ech_step h (by omega) (by omega) ((same1.trans same2).trans same3) (fun i hi => ?_) fun c' hc' i hi => ?_⟩
  · rw [r3 i c hi (by omega), one2, fmul_one]
    by_cases hir : i = rank
    · rw [if_neg (by omega), hir, one2, del, if_pos rfl]
    · rw [if_pos ⟨hi, hir⟩, xor_self', del, if_neg hir]
  · rw [r3 i c' hi (by omega), low2 c' hc', fmul_zero, xor_zero']
    by_cases hir : i = rank
    · rw [if_neg (by omega), hir, low2 c' hc', h.low rank (Nat.le_refl _) (by omega) c' hc']
    · rw [if_pos ⟨hi, hir⟩, oth2 i c' hi (by omega) hir]
theorem elim_ech (h : Two r ca cb a b) : ∀ c, c ≤ ca → Two r ca cb (elimN r ca cb a b c).1 (elimN r ca cb a b c).2.1 ∧ Ech r (ca + cb) (augL ca cb a b) (augL ca cb (elimN r ca cb a b c).1 (elimN r ca cb a b c).2.1) c (elimN r ca cb a b c).2.2
  | 0, _ => ⟨h, ech_start⟩
  | c + 1, hc => by
    obtain ⟨h1, h2⟩ := elim_ech h c (by omega)
    rw [elimN]
    exact elim_step h1 h2 (by omega)
end Go.Proofs

/- Inverses, products, generators and pieces: what they are. -/
set_option linter.unusedSimpArgs false
set_option linter.unusedVariables false
namespace Go.Proofs
open Go Go.Eng

theorem pieceLen_ge' {k n : Nat} (hk : 0 < k) : n ≤ k * pieceLen k n := by
  unfold pieceLen
  have h1 := Nat.div_add_mod (n + k - 1) k
  have h2 := Nat.mod_lt (n + k - 1) hk
  omega
/-! ### The identity, powers -/
theorem ident_len {n : Nat} : (identTo n n).length = n * n := by simp [identTo]
theorem ident_get {n i : Nat} (hi : i < n * n) : (identTo n n).getD i 0 = if i / n = i % n then 1 else 0 := by
  have hn : 0 < n := by
    cases n with
    | zero => simp at hi
    | succ n => omega
  rw [List.getD_eq_getElem?_getD, identTo, List.getElem?_map, List.getElem?_range hi]
  simp only [Option.map_some, Option.getD_some]
  have : i / n < n := Nat.div_lt_of_lt_mul hi
  by_cases h : i / n = i % n
  · rw [if_pos ⟨h, this⟩, if_pos h]
  · rw [if_neg (fun hh => h hh.1), if_neg h]
theorem divmod_cell {i n j : Nat} (hj : j < n) : (i * n + j) / n = i ∧ (i * n + j) % n = j := by
  have hn : 0 < n := by omega
  constructor
  · rw [Nat.mul_comm, Nat.mul_add_div hn, Nat.div_eq_of_lt hj, Nat.add_zero]
  · rw [Nat.mul_comm, Nat.mul_add_mod, Nat.mod_eq_of_lt hj]
theorem ident_bytes {n : Nat} : bytesL (identTo n n) := fun x hx => by
  simp only [identTo, List.mem_map] at hx
  obtain ⟨i, _, rfl⟩ := hx
  split <;> exact ⟨by omega, by omega⟩
theorem ident_mat {n i j : Nat} (hi : i < n) (hj : j < n) : matL n (identTo n n) i j = del i j := by
  obtain ⟨h1, h2⟩ := divmod_cell (i := i) hj
  rw [matL, ident_get (cell_lt hi hj), h1, h2, del]
  split <;> rfl
theorem vander_len {r c : Nat} : (vanderL r c).length = r * c := by simp [vanderL, fillTo]
theorem vander_get {r c i j : Nat} (hi : i < r) (hj : j < c) : (vanderL r c).getD (i * c + j) 0 = powF (i : Int) (j : Int) := by
  obtain ⟨h1, h2⟩ := divmod_cell (i := i) hj
  have hlt := cell_lt hi hj
  rw [List.getD_eq_getElem?_getD, vanderL, fillTo, List.getElem?_map, List.getElem?_range hlt]
  simp only [Option.map_some, Option.getD_some]
  rw [if_pos hlt, vanderF, h1, h2]
def xsF (m : Nat) : F := toF (m : Int)
theorem vander_mat {r c i j : Nat} (hr : r ≤ 256) (hi : i < r) (hj : j < c) (hc : c < 9223372036854775808) : matL c (vanderL r c) i j = fpow (xsF i) j := by
  rw [matL, vander_get hi hj, powF_F ⟨by omega, by omega⟩ (by omega), toF_ofF, Int.toNat_natCast]; rfl
theorem vander_bytes {r c : Nat} (hr : r ≤ 256) (hc : c < 9223372036854775808) : bytesL (vanderL r c) := fun x hx => by
  simp only [vanderL, fillTo, List.mem_map, List.mem_range] at hx
  obtain ⟨i, hi, rfl⟩ := hx
  rw [if_pos hi]
  have hc0 : 0 < c := by
    cases c with
    | zero => simp at hi
    | succ c => omega
  have h1 : i / c < r := Nat.div_lt_of_lt_mul (by rwa [Nat.mul_comm] at hi)
  have h2 := Nat.mod_lt i hc0
  have h3 : ((i / c : Nat) : Int) < 256 := by omega
  exact powF_isB ⟨Int.natCast_nonneg _, h3⟩ (by omega)
theorem xs_distinct {n : Nat} (hn : n ≤ 256) : distinct n xsF := fun i j hi hj h => by
  have := toF_inj (x := (i : Int)) (y := (j : Int)) ⟨by omega, by omega⟩ ⟨by omega, by omega⟩ h
  omega
theorem take_bytes {l : List Int} {n : Nat} (h : bytesL l) : bytesL (l.take n) := fun x hx => h x (List.mem_of_mem_take hx)
theorem take_mat {l : List Int} {n c i j : Nat} (hi : i < n) (hj : j < c) : matL c (l.take (n * c)) i j = matL c l i j := by
  have hlt := cell_lt hi hj
  rw [matL, matL, List.getD_eq_getElem?_getD, List.getD_eq_getElem?_getD, List.getElem?_take, if_pos hlt]

/-! ### Inverses -/
theorem aug_right {ca cb : Nat} {a b : List Int} {i j : Nat} : augL ca cb a b i (ca + j) = matL cb b i j := by
  rw [augL, if_neg (by omega), show ca + j - ca = j by omega]
/-- What stands on the right when the left is the identity. -/
theorem inv_mul {n : Nat} {a A B : List Int} (h : Ech n (n + n) (augL n n a (identTo n n)) (augL n n A B) n n) :
    (∀ i j, i < n → j < n → fsum (fun l => fmul (matL n B i l) (matL n a l j)) n = del i j) ∧ ∀ i j, i < n → j < n → fsum (fun l => fmul (matL n a i l) (matL n B l j)) n = del i j := by
  refine ⟨fun i j hi hj => ?_, fun i j hi hj => ?_⟩
  · obtain ⟨x, hx⟩ := h.same.to i hi
    have hxB : ∀ l, l < n → x l = matL n B i l := fun l hl => by
      have h1 := hx (n + l) (by omega)
      rw [aug_right, fsum_congr fun m hm => by rw [aug_right, ident_mat hm hl], fsum_del' (f := x) hl] at h1
      exact h1.symm
    have h2 := hx j (by omega)
    rw [ech_full h i hi j hj, fsum_congr fun m hm => by rw [hxB m hm, aug_left hj]] at h2
    exact h2.symm
  · obtain ⟨x, hx⟩ := h.same.back i hi
    have hxa : ∀ l, l < n → x l = matL n a i l := fun l hl => by
      have h1 := hx l (by omega)
      rw [aug_left hl, fsum_congr fun m hm => by rw [ech_full h m hm l hl], fsum_del' (f := x) hl] at h1
      exact h1.symm
    have h2 := hx (n + j) (by omega)
    rw [aug_right, ident_mat hi hj, fsum_congr fun m hm => by rw [hxa m hm, aug_right]] at h2
    exact h2.symm
theorem two_ident {n : Nat} {m : List Int} (hl : m.length = n * n) (hb : bytesL m) : Two n n n m (identTo n n) := ⟨hl, ident_len, hb, ident_bytes⟩
theorem inv_ech {n : Nat} {m : List Int} (hl : m.length = n * n) (hb : bytesL m) : Two n n n (invE m n).1 (invE m n).2.1 ∧ Ech n (n + n) (augL n n m (identTo n n)) (augL n n (invE m n).1 (invE m n).2.1) n (invE m n).2.2 :=
  elim_ech (two_ident hl hb) n (Nat.le_refl _)
/-- A square matrix that brings only 0 to 0 is of full rank. -/
theorem inv_rank {n : Nat} {m : List Int} (hl : m.length = n * n) (hb : bytesL m) (h : ∀ y : Nat → F, (∀ i, i < n → fsum (fun j => fmul (matL n m i j) (y j)) n = 0) → ∀ j, j < n → y j = 0) : (invE m n).2.2 = n := by
  obtain ⟨_, he⟩ := inv_ech hl hb
  refine Classical.byContradiction fun hne => ?_
  have hlt : (invE m n).2.2 < n := by have := he.le; omega
  obtain ⟨y, ⟨c, hc, hyc⟩, hy⟩ := ech_null he (by omega) hlt
  exact hyc (h y (fun i hi => by rw [← hy i hi]; exact fsum_congr fun j hj => by rw [aug_left hj]; rfl) c hc)

/-! ### The powers' square -/
theorem top_len {k total : Nat} (h : k ≤ total) : ((vanderL total k).take (k * k)).length = k * k := by
  rw [List.length_take, vander_len]
  exact Nat.min_eq_left (Nat.mul_le_mul_right k h)
theorem top_mat {k total i j : Nat} (hk : k ≤ total) (ht : total ≤ 255) (hi : i < k) (hj : j < k) : matL k ((vanderL total k).take (k * k)) i j = fpow (xsF i) j := by
  rw [take_mat hi hj, vander_mat (by omega) (by omega) hj (by omega)]
theorem top_bytes {k total : Nat} (hk : k ≤ total) (ht : total ≤ 255) : bytesL ((vanderL total k).take (k * k)) := take_bytes (vander_bytes (by omega) (by omega))
theorem top_rank {k total : Nat} (hk : k ≤ total) (ht : total ≤ 255) : (topE k total).2.2 = k :=
  inv_rank (top_len hk) (top_bytes hk ht) fun y hy => vander_inj (xs_distinct (by omega)) fun i hi => by
    rw [← hy i hi]
    exact fsum_congr fun j hj => by rw [top_mat hk ht hi hj]
theorem top_ech {k total : Nat} (hk : k ≤ total) (ht : total ≤ 255) : Two k k k (topE k total).1 (topE k total).2.1 ∧ Ech k (k + k) (augL k k ((vanderL total k).take (k * k)) (identTo k k)) (augL k k (topE k total).1 (topE k total).2.1) k k := by
  have h := inv_ech (top_len hk) (top_bytes hk ht)
  have hr := top_rank hk ht
  unfold topE at hr ⊢
  rw [hr] at h
  exact h

/-! ### Products -/
theorem prodN_facts {a b : List Int} {ra ca cb : Nat} (hb : b.length = ca * cb) (ha : bytesL a) (hbb : bytesL b) (hca : 0 < ca) : ∀ t, t ≤ ra * ca → (prodN a b ra ca cb t).length = ra * cb ∧ bytesL (prodN a b ra ca cb t) ∧
    ∀ i j, i < ra → j < cb → matL cb (prodN a b ra ca cb t) i j = fsum (fun l => if i * ca + l < t then fmul (matL ca a i l) (matL cb b l j) else 0) ca
  | 0, _ => ⟨by simp [prodN], fun x hx => by rw [prodN] at hx; rw [List.eq_of_mem_replicate hx]; exact ⟨by omega, by omega⟩, fun i j hi hj => by
      rw [fsum_zero fun l _ => if_neg (by omega), matL, prodN, List.getD_eq_getElem?_getD, List.getElem?_replicate, if_pos (cell_lt hi hj)]; rfl⟩
  | t + 1, ht => by
    obtain ⟨h1, h2, h3⟩ := prodN_facts (ra := ra) hb ha hbb hca t (by omega)
    have hti : t / ca < ra := Nat.div_lt_of_lt_mul (by rw [Nat.mul_comm]; omega)
    have htl := Nat.mod_lt t hca
    have htd := Nat.div_add_mod t ca
    rw [prodN]
    refine ⟨by rw [addToL_len, h1], addToL_bytes h2, fun i j hi hj => ?_⟩
    have hlt := cell_lt hi hj
    have hsl : (seg b (t % ca * cb) cb).length = cb := seg_len (by rw [hb]; exact row_le htl)
    have hL : matL cb (addToL (prodN a b ra ca cb t) (t / ca * cb) (seg b (t % ca * cb) cb) (a.getD t 0)) i j = if i = t / ca then matL cb (prodN a b ra ca cb t) i j ^^^ fmul (toF (a.getD t 0)) (matL cb b (t % ca) j) else matL cb (prodN a b ra ca cb t) i j := by
      unfold matL
      rw [List.getD_eq_getElem?_getD, addToL_get, List.getElem?_eq_getElem (by omega), Option.map_some, Option.getD_some, hsl]
      by_cases he : i = t / ca
      · subst he
        rw [if_pos ⟨by omega, by omega⟩, if_pos rfl, show t / ca * cb + j - t / ca * cb = j by omega]
        have hs : (seg b (t % ca * cb) cb).getD j 0 = b.getD (t % ca * cb + j) 0 := by
          rw [List.getD_eq_getElem?_getD, seg_get, if_pos hj, List.getD_eq_getElem?_getD]
        rw [hs, toF_xorB, toF_mulF (bytesL_get ha _) (bytesL_get hbb _), List.getD_eq_getElem?_getD (l := prodN a b ra ca cb t), List.getElem?_eq_getElem (by omega), Option.getD_some]
      · rw [if_neg (fun h => he ((row_in hj).1 h)), if_neg he, List.getD_eq_getElem?_getD, List.getElem?_eq_getElem (by omega), Option.getD_some]
    rw [hL, h3 i j hi hj]
    by_cases he : i = t / ca
    · have hit : i * ca + t % ca = t := by rw [he, Nat.mul_comm]; exact htd
      rw [if_pos he]
      have hat : toF (a.getD t 0) = matL ca a i (t % ca) := by rw [matL, hit]
      have h4 : fmul (toF (a.getD t 0)) (matL cb b (t % ca) j) = fsum (fun l => if l = t % ca then fmul (matL ca a i l) (matL cb b l j) else 0) ca := by
        rw [fsum_one htl fun l _ hl => if_neg hl, if_pos rfl, hat]
      rw [h4, ← fsum_xor]
      refine fsum_congr fun l hl => ?_
      by_cases hlt : l = t % ca
      · subst hlt; rw [if_neg (by omega), if_pos rfl, if_pos (by omega), zero_xor']
      · rw [if_neg hlt, xor_zero']
        by_cases h5 : i * ca + l < t
        · rw [if_pos h5, if_pos (by omega)]
        · rw [if_neg h5, if_neg (by omega)]
    · rw [if_neg he]
      refine fsum_congr fun l hl => ?_
      have hne : i * ca + l ≠ t := fun h => he (by rw [← h]; exact (divmod_cell hl).1.symm)
      by_cases h5 : i * ca + l < t
      · rw [if_pos h5, if_pos (by omega)]
      · rw [if_neg h5, if_neg (by omega)]
theorem prod_facts {a b : List Int} {ra ca cb : Nat} (hb : b.length = ca * cb) (ha : bytesL a) (hbb : bytesL b) (hca : 0 < ca) : (prodL a b ra ca cb).length = ra * cb ∧ bytesL (prodL a b ra ca cb) ∧
    ∀ i j, i < ra → j < cb → matL cb (prodL a b ra ca cb) i j = fsum (fun l => fmul (matL ca a i l) (matL cb b l j)) ca := by
  obtain ⟨h1, h2, h3⟩ := prodN_facts (ra := ra) hb ha hbb hca (ra * ca) (Nat.le_refl _)
  refine ⟨h1, h2, fun i j hi hj => ?_⟩
  rw [prodL, h3 i j hi hj]
  exact fsum_congr fun l hl => if_pos (cell_lt hi hl)

/-! ### Generators -/
theorem gen_facts {k total : Nat} (h1 : 1 ≤ k) (hk : k ≤ total) (ht : total ≤ 255) : (genL k total).length = total * k ∧ bytesL (genL k total) ∧
    (∀ i j, i < total → j < k → matL k (genL k total) i j = fsum (fun l => fmul (fpow (xsF i) l) (matL k (topE k total).2.1 l j)) k) ∧
    ∀ i j, i < total → j < k → matL k (genL k total) i j = lagF k xsF (xsF i) j := by
  obtain ⟨t2, he⟩ := top_ech hk ht
  obtain ⟨p1, p2, p3⟩ := prod_facts (ra := total) t2.lb (vander_bytes (r := total) (c := k) (by omega) (by omega)) t2.bb (by omega)
  have hg : ∀ i j, i < total → j < k → matL k (genL k total) i j = fsum (fun l => fmul (fpow (xsF i) l) (matL k (topE k total).2.1 l j)) k := fun i j hi hj => by
    rw [genL, p3 i j hi hj]
    exact fsum_congr fun l hl => by rw [vander_mat (by omega) hi hl (by omega)]
  refine ⟨p1, p2, hg, fun i j hi hj => ?_⟩
  obtain ⟨_, m2⟩ := inv_mul he
  have hp : ∀ x, pval k (fun l => matL k (topE k total).2.1 l j) x = fsum (fun l => fmul (fpow x l) (matL k (topE k total).2.1 l j)) k := fun x => fsum_congr fun l _ => fmul_comm
  rw [hg i j hi hj, ← hp, lagrange (xs_distinct (n := k) (by omega))]
  rw [fsum_congr (g := fun m => fmul (lagF k xsF (xsF i) m) (del m j)) fun m hm => ?_, fsum_del' hj]
  rw [hp, ← m2 m j hm hj]
  congr 1
  exact fsum_congr fun l hl => by rw [top_mat hk ht hm hl]
theorem gen_top {k total : Nat} (h1 : 1 ≤ k) (hk : k ≤ total) (ht : total ≤ 255) {i j : Nat} (hi : i < k) (hj : j < k) : matL k (genL k total) i j = del i j := by
  rw [(gen_facts h1 hk ht).2.2.2 i j (by omega) hj, lag_del (xs_distinct (by omega)) hj hi, del, del]
  by_cases h : i = j
  · rw [if_pos h, if_pos h.symm]
  · rw [if_neg h, if_neg (Ne.symm h)]

/-! ### Pieces -/
theorem pieceN_facts {g full : List Int} {k l i : Nat} (hg : bytesL g) (hf : bytesL full) (hl : full.length = k * l) : ∀ j, j ≤ k → (pieceN g full k l i j).length = l ∧ bytesL (pieceN g full k l i j) ∧
    ∀ c, c < l → toF ((pieceN g full k l i j).getD c 0) = fsum (fun m => fmul (matL k g i m) (toF (full.getD (m * l + c) 0))) j
  | 0, _ => ⟨by simp [pieceN], fun x hx => by rw [pieceN] at hx; rw [List.eq_of_mem_replicate hx]; exact ⟨by omega, by omega⟩, fun c hc => by
      rw [pieceN, List.getD_eq_getElem?_getD, List.getElem?_replicate, if_pos hc]; rfl⟩
  | j + 1, hj => by
    obtain ⟨h1, h2, h3⟩ := pieceN_facts hg hf hl (i := i) j (by omega)
    have hsl : (seg full (j * l) l).length = l := seg_len (by rw [hl]; exact row_le (by omega))
    rw [pieceN]
    refine ⟨by rw [addToL_len, h1], addToL_bytes h2, fun c hc => ?_⟩
    rw [List.getD_eq_getElem?_getD, addToL_get, List.getElem?_eq_getElem (by omega), Option.map_some, Option.getD_some, hsl, if_pos ⟨by omega, by omega⟩, Nat.sub_zero]
    have hs : (seg full (j * l) l).getD c 0 = full.getD (j * l + c) 0 := by
      rw [List.getD_eq_getElem?_getD, seg_get, if_pos hc, List.getD_eq_getElem?_getD]
    rw [hs, toF_xorB, toF_mulF (bytesL_get hg _) (bytesL_get hf _), fsum, ← h3 c hc, List.getD_eq_getElem?_getD (l := pieceN g full k l i j), List.getElem?_eq_getElem (by omega), Option.getD_some]
    rfl
theorem full_facts {data : List Int} {n : Nat} (hb : bytesL data) (hn : data.length ≤ n) : (fullL data n).length = n ∧ bytesL (fullL data n) := by
  refine ⟨by simp [fullL]; omega, fun x hx => ?_⟩
  rcases List.mem_append.1 hx with hx | hx
  · exact hb x hx
  · rw [List.eq_of_mem_replicate hx]; exact ⟨by omega, by omega⟩
theorem full_get {data : List Int} {n i : Nat} : (fullL data n).getD i 0 = data.getD i 0 := by
  rw [List.getD_eq_getElem?_getD, List.getD_eq_getElem?_getD, fullL]
  by_cases h : i < data.length
  · rw [List.getElem?_append_left h]
  · rw [List.getElem?_append_right (by omega), List.getElem?_eq_none (l := data) (by omega), List.getElem?_replicate]
    split <;> rfl
theorem enc_facts {k total : Nat} {data : List Int} (h1 : 1 ≤ k) (hk : k ≤ total) (ht : total ≤ 255) (hb : bytesL data) (i : Nat) : (encP k total data i).length = pieceLen k data.length ∧ bytesL (encP k total data i) ∧
    ∀ c, c < pieceLen k data.length → toF ((encP k total data i).getD c 0) = fsum (fun m => fmul (matL k (genL k total) i m) (toF (data.getD (m * pieceLen k data.length + c) 0))) k := by
  obtain ⟨g1, g2, _, _⟩ := gen_facts h1 hk ht
  obtain ⟨f1, f2⟩ := full_facts hb (n := k * pieceLen k data.length) (pieceLen_ge' (by omega))
  obtain ⟨p1, p2, p3⟩ := pieceN_facts (i := i) g2 f2 f1 k (Nat.le_refl _)
  refine ⟨p1, p2, fun c hc => ?_⟩
  rw [encP, p3 c hc]
  exact fsum_congr fun m _ => by rw [full_get]
/-- The first pieces are the object's parts. -/
theorem enc_top {k total : Nat} {data : List Int} (h1 : 1 ≤ k) (hk : k ≤ total) (ht : total ≤ 255) (hb : bytesL data) {i : Nat} (hi : i < k) {c : Nat} (hc : c < pieceLen k data.length) :
    (encP k total data i).getD c 0 = data.getD (i * pieceLen k data.length + c) 0 := by
  obtain ⟨_, p2, p3⟩ := enc_facts h1 hk ht hb i
  refine toF_inj (bytesL_get p2 _) (bytesL_get hb _) ?_
  rw [p3 c hc, fsum_congr fun m hm => by rw [gen_top h1 hk ht hi hm]]
  rw [fsum_one hi fun m hm hne => by rw [del, if_neg (Ne.symm hne), zero_fmul], del, if_pos rfl, one_fmul]
end Go.Proofs

/- Bytes as strings, plainly. -/
set_option linter.unusedSimpArgs false
set_option linter.unusedVariables false
namespace Go.Proofs
open Go Go.Eng
/-! ### Plainly -/
theorem toList_loop (bs : ByteArray) : ∀ (n i : Nat) (r : List UInt8), bs.size - i = n → ByteArray.toList.loop bs i r = r.reverse ++ bs.data.toList.drop i
  | 0, i, r, h => by
    unfold ByteArray.toList.loop
    have hs : bs.size = bs.data.size := rfl
    rw [if_neg (by omega), List.drop_eq_nil_of_le (by simp; omega), List.append_nil]
  | n + 1, i, r, h => by
    unfold ByteArray.toList.loop
    have hs : bs.size = bs.data.size := rfl
    have hi : i < bs.data.toList.length := by simp; omega
    rw [if_pos (by omega), toList_loop bs n (i + 1) _ (by omega), List.drop_eq_getElem_cons hi, List.reverse_cons, List.append_assoc]
    congr 1
    simp only [List.singleton_append, List.cons.injEq, and_true]
    show bs.data[i]! = _
    have hi2 : i < bs.data.size := by simpa using hi
    rw [getElem!_pos bs.data i hi2]
    simp
theorem toList_mk (l : List UInt8) : ByteArray.toList ⟨l.toArray⟩ = l := by
  unfold ByteArray.toList
  rw [toList_loop _ _ 0 [] rfl]
  simp
theorem str_eq {a : List UInt8} : vStr (.string ⟨a.toArray⟩) = a := toList_mk a
theorem bytes_of {d : Rows'} (h : allB d) : bytesL (bI d) := allB_list h
theorem allB_of {d : Rows'} (h : bytesL (bI d)) : allB d := fun row hr => h (rowI row 0) (List.mem_map.2 ⟨row, hr, rfl⟩)
theorem bytesOf_eq {d : Rows'} : bytesOf d = (bI d).map fun x => UInt8.ofNat x.toNat := by
  simp only [bytesOf, bI, List.map_map]
  exact List.map_congr_left fun r hr => rfl
theorem u8_inj {x y : Int} (hx : isB x) (hy : isB y) (h : UInt8.ofNat x.toNat = UInt8.ofNat y.toNat) : x = y := by
  have h1 := congrArg UInt8.toNat h
  simp only [UInt8.toNat_ofNat'] at h1
  obtain ⟨a0, a1⟩ := hx
  obtain ⟨b0, b1⟩ := hy
  omega
theorem bytesOf_inj {d d' : Rows'} (h : allB d) (h' : allB d') : bytesOf d = bytesOf d' ↔ bI d = bI d' := by
  rw [bytesOf_eq, bytesOf_eq]
  refine ⟨fun he => ?_, fun he => by rw [he]⟩
  have hb := bytes_of h
  have hb' := bytes_of h'
  revert hb hb' he
  generalize bI d = l
  generalize bI d' = l'
  clear h h'
  induction l generalizing l' with
  | nil => intro he _ _; cases l' with
    | nil => rfl
    | cons y l' => cases he
  | cons x l ih => intro he hb hb'; cases l' with
    | nil => cases he
    | cons y l' =>
      simp only [List.map_cons, List.cons.injEq] at he
      rw [u8_inj (hb x (List.mem_cons_self ..)) (hb' y (List.mem_cons_self ..)) he.1, ih l' he.2 (fun z hz => hb z (List.mem_cons_of_mem _ hz)) fun z hz => hb' z (List.mem_cons_of_mem _ hz)]
end Go.Proofs
