/- Divided differences: the polynomial through points, by Newton's formula. -/
import Derived.Test.YtkiheclcmgbmnaaGD
set_option linter.unusedSimpArgs false
set_option linter.unusedVariables false
namespace Go.Proofs
open Go Go.Eng
/-- A polynomial times (x - r). -/
def byF (r : F) (y : Nat → F) : Nat → F := fun l => (if l = 0 then 0 else y (l - 1)) ^^^ fmul r (y l)
theorem pval_one {y : Nat → F} {x : F} : pval 1 y x = y 0 := by
  show (0 : F) ^^^ fmul (y 0) (fpow x 0) = y 0
  rw [zero_xor', show fpow x 0 = 1 from rfl, fmul_one]
theorem byF_val' {r x : F} {y : Nat → F} : ∀ n, pval (n + 1) (byF r y) x = fmul (x ^^^ r) (pval n y x) ^^^ fmul (fmul r (y n)) (fpow x n)
  | 0 => by rw [pval_one, byF, if_pos rfl, zero_xor', show pval 0 y x = 0 from rfl, fmul_zero, zero_xor', show fpow x 0 = 1 from rfl, fmul_one]
  | n + 1 => by
    have ih := byF_val' (r := r) (x := x) (y := y) n
    have h1 : pval (n + 2) (byF r y) x = pval (n + 1) (byF r y) x ^^^ fmul (byF r y (n + 1)) (fpow x (n + 1)) := rfl
    have h2 : pval (n + 1) y x = pval n y x ^^^ fmul (y n) (fpow x n) := rfl
    rw [h1, ih, h2, byF, if_neg (by omega), Nat.add_sub_cancel, xor_fmul, fmul_xor (x := y n)]
    have h3 : fmul (x ^^^ r) (fmul (y n) (fpow x n)) = fmul (y n) (fpow x (n + 1)) ^^^ fmul (fmul r (y n)) (fpow x n) := by
      rw [fmul_xor, fpow]
      congr 1
      · rw [← fmul_assoc, fmul_comm (x := x), fmul_assoc]
        try rw [fmul_comm (x := x)]
      · rw [fmul_assoc]
    rw [h3]
    generalize fmul (x ^^^ r) (pval n y x) = a
    generalize fmul (fmul r (y n)) (fpow x n) = b
    generalize fmul (y n) (fpow x (n + 1)) = c
    generalize fmul (fmul r (y (n + 1))) (fpow x (n + 1)) = d
    rw [BitVec.xor_assoc, BitVec.xor_assoc, BitVec.xor_assoc]
    congr 1
    rw [← BitVec.xor_assoc, ← BitVec.xor_assoc, BitVec.xor_comm b c]
theorem byF_val {r x : F} {y : Nat → F} {n : Nat} (h : y n = 0) : pval (n + 1) (byF r y) x = fmul (x ^^^ r) (pval n y x) := by
  rw [byF_val', h, fmul_zero, zero_fmul, xor_zero']
theorem pval_more {y : Nat → F} {x : F} {n : Nat} (h : ∀ l, n ≤ l → y l = 0) : ∀ m, pval (n + m) y x = pval n y x
  | 0 => rfl
  | m + 1 => by
    show pval (n + m) y x ^^^ fmul (y (n + m)) (fpow x (n + m)) = _
    rw [pval_more h m, h _ (by omega), zero_fmul, xor_zero']
theorem pval_xor {y z : Nat → F} {x : F} {n : Nat} : pval n (fun l => y l ^^^ z l) x = pval n y x ^^^ pval n z x := by
  simp only [pval]
  rw [← fsum_xor]
  exact fsum_congr fun j _ => fmul_xor
theorem pval_mul {y : Nat → F} {x c : F} {n : Nat} : pval n (fun l => fmul c (y l)) x = fmul c (pval n y x) := by
  simp only [pval]
  rw [← fsum_mul]
  exact fsum_congr fun j _ => fmul_assoc
/-- The divided difference of the points s .. s + j. -/
def ddF (xs ys : Nat → F) : Nat → Nat → F
  | s, 0 => ys s
  | s, j + 1 => fmul (ddF xs ys (s + 1) j ^^^ ddF xs ys s j) (finv (xs (s + j + 1) ^^^ xs s))
/-- The polynomial through the points s .. s + j; its highest coefficient. -/
theorem newton_top {n : Nat} {xs ys : Nat → F} (hd : distinct n xs) : ∀ j s, s + j < n → ∃ y : Nat → F, (∀ l, j < l → y l = 0) ∧ (∀ i, i ≤ j → pval (j + 1) y (xs (s + i)) = ys (s + i)) ∧ y j = ddF xs ys s j
  | 0, s, hs => ⟨fun l => if l = 0 then ys s else 0, fun l hl => if_neg (by omega), fun i hi => by
      obtain rfl : i = 0 := by omega
      rw [pval_one, if_pos rfl, Nat.add_zero], rfl⟩
  | j + 1, s, hs => by
    obtain ⟨y1, a1, b1, c1⟩ := newton_top (ys := ys) hd j (s + 1) (by omega)
    obtain ⟨y0, a0, b0, c0⟩ := newton_top (ys := ys) hd j s (by omega)
    have hne : xs (s + j + 1) ^^^ xs s ≠ 0 := fun h => by have := hd _ _ (by omega) (by omega) (xor_eq_zero.1 h); omega
    let w : F := finv (xs (s + j + 1) ^^^ xs s)
    have hv : ∀ x, pval (j + 2) (fun l => fmul w (byF (xs s) y1 l ^^^ byF (xs (s + j + 1)) y0 l)) x = fmul w (fmul (x ^^^ xs s) (pval (j + 1) y1 x) ^^^ fmul (x ^^^ xs (s + j + 1)) (pval (j + 1) y0 x)) := fun x => by
      rw [pval_mul, pval_xor, byF_val (a1 _ (by omega)), byF_val (a0 _ (by omega))]
    refine ⟨fun l => fmul w (byF (xs s) y1 l ^^^ byF (xs (s + j + 1)) y0 l), fun l hl => ?_, fun i hi => ?_, ?_⟩
    · simp only [byF]
      rw [if_neg (by omega), if_neg (by omega), a1 l (by omega), a0 l (by omega), a1 (l - 1) (by omega), a0 (l - 1) (by omega), fmul_zero, fmul_zero, xor_self', fmul_zero]
    · rw [hv]
      have hw : ∀ z, fmul w (fmul (xs (s + j + 1) ^^^ xs s) z) = z := fun z => by
        rw [← fmul_assoc, fmul_comm (x := w), fmul_finv hne, one_fmul]
      by_cases h0 : i = 0
      · subst h0
        have hb0 := b0 0 (by omega)
        simp only [Nat.add_zero] at hb0
        rw [Nat.add_zero, xor_self', zero_fmul, zero_xor', hb0, BitVec.xor_comm, hw]
      · by_cases h1 : i = j + 1
        · subst h1
          have := b1 j (Nat.le_refl _)
          rw [show s + 1 + j = s + (j + 1) by omega] at this
          rw [this, ← Nat.add_assoc, xor_self', zero_fmul, xor_zero', hw]
        · have h2 := b1 (i - 1) (by omega)
          rw [show s + 1 + (i - 1) = s + i by omega] at h2
          rw [h2, b0 i (by omega), ← fmul_xor, xor_swap, xor_self', zero_xor', BitVec.xor_comm, hw]
    · simp only [byF]
      rw [if_neg (by omega), if_neg (by omega), a1 (j + 1) (by omega), a0 (j + 1) (by omega), fmul_zero, fmul_zero, xor_zero', xor_zero', Nat.add_sub_cancel, c1, c0, fmul_comm]
      rfl
/-- The product of (x - x_u), u < m. -/
def monF (xs : Nat → F) : Nat → Nat → F
  | 0 => fun l => if l = 0 then 1 else 0
  | m + 1 => byF (xs m) (monF xs m)
theorem mon_facts {xs : Nat → F} : ∀ m, (∀ l, m < l → monF xs m l = 0) ∧ monF xs m m = 1 ∧ ∀ x, pval (m + 1) (monF xs m) x = fprod (fun u => x ^^^ xs u) m
  | 0 => ⟨fun l hl => if_neg (by omega), rfl, fun x => by rw [pval_one]; rfl⟩
  | m + 1 => by
    obtain ⟨h1, h2, h3⟩ := mon_facts (xs := xs) m
    refine ⟨fun l hl => ?_, ?_, fun x => ?_⟩
    · simp only [monF, byF]
      rw [if_neg (by omega), h1 (l - 1) (by omega), h1 l (by omega), fmul_zero, xor_zero']
    · simp only [monF, byF]
      rw [if_neg (by omega), Nat.add_sub_cancel, h2, h1 (m + 1) (by omega), fmul_zero, xor_zero']
    · rw [monF, byF_val (h1 _ (by omega)), h3, fprod, fmul_comm]
/-- Newton's formula at x. -/
def newtF (xs ys : Nat → F) (x : F) (m : Nat) : F := fsum (fun t => fmul (ddF xs ys 0 t) (fprod (fun u => x ^^^ xs u) t)) m
theorem newton_at {n : Nat} {xs ys : Nat → F} (hd : distinct n xs) : ∀ m, m < n → ∃ y : Nat → F, (∀ l, m < l → y l = 0) ∧ (∀ i, i ≤ m → pval (m + 1) y (xs i) = ys i) ∧ ∀ x, pval (m + 1) y x = newtF xs ys x (m + 1)
  | 0, hm => by
    obtain ⟨y, a, b, c⟩ := newton_top (ys := ys) hd 0 0 (by omega)
    refine ⟨y, a, fun i hi => by have := b i hi; simp only [Nat.zero_add] at this ⊢; exact this, fun x => ?_⟩
    rw [pval_one, c]
    show ys 0 = (0 : F) ^^^ fmul (ys 0) 1
    rw [zero_xor', fmul_one]
  | m + 1, hm => by
    obtain ⟨y0, a0, b0, c0⟩ := newton_at (ys := ys) hd m (by omega)
    obtain ⟨y, a, b, c⟩ := newton_top (ys := ys) hd (m + 1) 0 (by omega)
    obtain ⟨p1, p2, p3⟩ := mon_facts (xs := xs) (m + 1)
    refine ⟨y, a, fun i hi => by have := b i hi; rwa [Nat.zero_add] at this, fun x => ?_⟩
    let R : Nat → F := fun l => (y l ^^^ y0 l) ^^^ fmul (ddF xs ys 0 (m + 1)) (monF xs (m + 1) l)
    have hRv : ∀ x, pval (m + 2) R x = (pval (m + 2) y x ^^^ pval (m + 1) y0 x) ^^^ fmul (ddF xs ys 0 (m + 1)) (fprod (fun u => x ^^^ xs u) (m + 1)) := fun x => by
      rw [← p3, ← pval_mul, ← pval_more (y := y0) (n := m + 1) (fun l hl => a0 l (by omega)) 1, ← pval_xor, ← pval_xor]
    have hRt : R (m + 1) = 0 := by
      simp only [R]
      rw [c, a0 (m + 1) (by omega), p2, fmul_one, xor_zero', xor_self']
    have hRe : ∀ x, pval (m + 1) R x = pval (m + 2) R x := fun x => by
      show _ = pval (m + 1) R x ^^^ fmul (R (m + 1)) (fpow x (m + 1))
      rw [hRt, zero_fmul, xor_zero']
    have h0 := pval_roots (n := m + 1) (y := R) (xs := xs) (fun i j hi hj => hd i j (by omega) (by omega)) fun i hi => by
      rw [hRe, hRv, b0 i (by omega)]
      have := b i (by omega)
      rw [Nat.zero_add] at this
      rw [this, xor_self', zero_xor', fprod_zero (k := i) hi xor_self', fmul_zero]
    have hz : pval (m + 1) R x = 0 := fsum_zero fun l hl => by rw [h0 l hl, zero_fmul]
    rw [hRe, hRv] at hz
    have h1 : newtF xs ys x (m + 2) = newtF xs ys x (m + 1) ^^^ fmul (ddF xs ys 0 (m + 1)) (fprod (fun u => x ^^^ xs u) (m + 1)) := rfl
    rw [h1, ← c0 x]
    have h2 := xor_eq_zero.1 hz
    rw [← h2, ← BitVec.xor_assoc, BitVec.xor_comm, ← BitVec.xor_assoc, xor_self', zero_xor']
/-- Horner's way from the last point to the first. -/
def hornN (xs ds : Nat → F) (x : F) (n : Nat) : Nat → F
  | 0 => 0
  | k + 1 => fmul (hornN xs ds x n k) (x ^^^ xs (n - 1 - k)) ^^^ ds (n - 1 - k)
end Go.Proofs
