/- Newton's formula by Horner's way, and Lagrange's sum. -/
import Derived.Test.YtkiheclcmgbmnaaWA
import Derived.Test.YtkiheclcmgbmnaaGD
import Derived.Test.YtkiheclcmgbmnaaGE
set_option linter.unusedSimpArgs false
set_option linter.unusedVariables false
namespace Go.Proofs
open Go Go.Eng
theorem newt_horn {n : Nat} {xs ys : Nat → F} {x : F} : ∀ k, k ≤ n → newtF xs ys x n = newtF xs ys x (n - k) ^^^ fmul (fprod (fun u => x ^^^ xs u) (n - k)) (hornN xs (ddF xs ys 0) x n k)
  | 0, _ => by rw [Nat.sub_zero, hornN, fmul_zero, xor_zero']
  | k + 1, h => by
    rw [newt_horn k (by omega)]
    obtain ⟨m, hm⟩ : ∃ m, n - k = m + 1 := ⟨n - k - 1, by omega⟩
    have e1 : newtF xs ys x (m + 1) = newtF xs ys x m ^^^ fmul (ddF xs ys 0 m) (fprod (fun u => x ^^^ xs u) m) := rfl
    have e2 : fprod (fun u => x ^^^ xs u) (m + 1) = fmul (fprod (fun u => x ^^^ xs u) m) (x ^^^ xs m) := rfl
    have e3 : hornN xs (ddF xs ys 0) x n (k + 1) = fmul (hornN xs (ddF xs ys 0) x n k) (x ^^^ xs (n - 1 - k)) ^^^ ddF xs ys 0 (n - 1 - k) := rfl
    rw [e3, hm, show n - (k + 1) = m by omega, show n - 1 - k = m by omega, e1, e2]
    generalize newtF xs ys x m = N
    generalize fprod (fun u => x ^^^ xs u) m = P
    generalize hornN xs (ddF xs ys 0) x n k = H
    generalize x ^^^ xs m = X
    generalize ddF xs ys 0 m = D
    rw [xor_fmul, fmul_assoc, fmul_comm (x := X), fmul_comm (x := D), BitVec.xor_assoc]
    congr 1
    exact BitVec.xor_comm _ _
/-- Horner's way takes the values at the points. -/
theorem horn_at {n : Nat} {xs ys : Nat → F} (hd : distinct n xs) {i : Nat} (hi : i < n) : hornN xs (ddF xs ys 0) (xs i) n n = ys i := by
  obtain ⟨y, a, b, c⟩ := newton_at (ys := ys) hd (n - 1) (by omega)
  have h := newt_horn (n := n) (xs := xs) (ys := ys) (x := xs i) n (Nat.le_refl _)
  rw [Nat.sub_self, show newtF xs ys (xs i) 0 = 0 from rfl, zero_xor', show fprod (fun u => xs i ^^^ xs u) 0 = 1 from rfl, one_fmul] at h
  rw [← h]
  have h2 := c (xs i)
  rw [show n - 1 + 1 = n by omega] at h2
  rw [← h2]
  have h3 := b i (by omega)
  rwa [show n - 1 + 1 = n by omega] at h3
/-- Divided by (x - r), r a root, from the top. -/
theorem div_root {n : Nat} {p q : Nat → F} {r : F} (hq : ∀ l, 1 ≤ l → l ≤ n → q (l - 1) = p l ^^^ fmul r (q l)) (hz : q n = 0) (hp : pval (n + 1) p r = 0) (x : F) : pval (n + 1) p x = fmul (x ^^^ r) (pval n q x) := by
  let z : Nat → F := fun l => if l = 0 then p 0 ^^^ fmul r (q 0) else 0
  have hz0 : ∀ x, pval (n + 1) z x = p 0 ^^^ fmul r (q 0) := fun x => by
    rw [Nat.add_comm, pval_more (n := 1) fun l hl => if_neg (by omega), pval_one]
    exact if_pos rfl
  have hv : ∀ x, pval (n + 1) p x = fmul (x ^^^ r) (pval n q x) ^^^ (p 0 ^^^ fmul r (q 0)) := fun x => by
    rw [← byF_val hz, ← hz0 x, ← pval_xor]
    refine fsum_congr fun l hl => ?_
    congr 1
    simp only [byF, z]
    by_cases h0 : l = 0
    · subst h0
      rw [if_pos rfl, if_pos rfl, zero_xor', ← BitVec.xor_assoc, BitVec.xor_comm _ (p 0), BitVec.xor_assoc, xor_self', xor_zero']
    · rw [if_neg h0, if_neg h0, xor_zero', hq l (by omega) (by omega), BitVec.xor_assoc, xor_self', xor_zero']
  have h0 := hv r
  rw [hp, xor_self', zero_fmul, zero_xor'] at h0
  rw [hv x, ← h0, xor_zero']
/-- A list of bytes as a polynomial. -/
def polF (l : List Int) : Nat → F := fun j => toF (l.getD j 0)
theorem horner_F {x : Int} (hx : isB x) : ∀ {l : List Int}, bytesL l → toF (hornerL x l) = hornF (toF x) (l.map toF)
  | [], _ => rfl
  | c :: l, h => by
    have ih := horner_F hx (l := l) fun y hy => h y (List.mem_cons_of_mem _ hy)
    rw [hornerL, xorB_F, toF_ofF, mulF_F (horner_isB hx fun y hy => h y (List.mem_cons_of_mem _ hy)) hx, toF_ofF, ih]
    rfl
theorem horner_pol {x : Int} {l : List Int} {n : Nat} (hx : isB x) (hb : bytesL l) (hl : l.length ≤ n) : toF (hornerL x l) = pval n (polF l) (toF x) := by
  rw [horner_F hx hb, horn_getD (n := n) (by rw [List.length_map]; exact hl)]
  refine fsum_congr fun j hj => ?_
  congr 1
  show (List.map toF l).getD j 0 = toF (l.getD j 0)
  rw [List.getD_eq_getElem?_getD, List.getElem?_map, List.getD_eq_getElem?_getD]
  cases l[j]? <;> rfl
/-- Polynomials that agree at n points. -/
theorem pol_unique {n : Nat} {xs : Nat → F} (hd : distinct n xs) {a b : List Int} (ha : a.length = n) (hb : b.length = n) (ba : bytesL a) (bb : bytesL b) (h : ∀ i, i < n → pval n (polF a) (xs i) = pval n (polF b) (xs i)) : a = b := by
  refine list_ext_getD (by omega) fun i hi => toF_inj (bytesL_get ba i) (bytesL_get bb i) ?_
  have h0 := pval_roots (y := fun l => polF a l ^^^ polF b l) hd (fun i hi => by rw [pval_xor, h i hi, xor_self']) i (by omega)
  exact xor_eq_zero.1 h0
end Go.Proofs
