/- Texts BN, BO, BQ, DP, ZC. -/
import Derived.Test.YtelcnkclppkicaaDoorG7
import Derived.Test.YtelcnkclppkicaaDoorG6
import Derived.Test.YtelcnkclppkicaaDoorProg
import Derived.Test.YtelcnkclppkicaaDoorG5
set_option linter.unusedSimpArgs false
set_option linter.unusedVariables false
namespace Go.Proofs
open Go Go.Eng
set_option maxRecDepth 20000
/-! ### Numbers of 64 bits -/
theorem mulN {x y : Nat} (h : x * y < 18446744073709551616) : arithOf .mul .u64 (x : Int) (y : Int) = ((x * y : Nat) : Int) := by
  show IntKind.u64.wrap ((x : Int) * (y : Int)) = _
  rw [wrap64u, ← Int.natCast_mul]; omega
theorem addN {x y : Nat} (h : x + y < 18446744073709551616) : arithOf .add .u64 (x : Int) (y : Int) = ((x + y : Nat) : Int) := by
  show IntKind.u64.wrap ((x : Int) + (y : Int)) = _
  rw [wrap64u]; omega
theorem shrN {x : Nat} : arithOf .shr .u64 (x : Int) 32 = ((x / 4294967296 : Nat) : Int) := by
  rw [show (32 : Int) = ((32 : Nat) : Int) from rfl, shr_u64 (by decide), Int.fdiv_eq_ediv_of_nonneg _ (by decide)]
  omega
theorem andN {x : Nat} (h : x < 18446744073709551616) : arithOf .and .u64 (x : Int) 4294967295 = ((x % 4294967296 : Nat) : Int) := by
  show IntKind.u64.wrap ((BitVec.ofInt 64 (x : Int) &&& BitVec.ofInt 64 4294967295).toNat : Int) = _
  rw [wrap64u, BitVec.toNat_and, BitVec.ofInt_natCast, BitVec.toNat_ofNat, Nat.mod_eq_of_lt (show x < 2 ^ 64 from h), show (BitVec.ofInt 64 4294967295).toNat = 2 ^ 32 - 1 from rfl, Nat.and_two_pow_sub_one_eq_mod]
  omega
theorem half_mul {x y : Nat} (hx : x < 4294967296) (hy : y < 4294967296) : x * y ≤ 18446744065119617025 := by
  have := Nat.mul_le_mul (Nat.le_of_lt_succ (show x < 4294967295 + 1 from hx)) (Nat.le_of_lt_succ (show y < 4294967295 + 1 from hy))
  exact this
theorem mul64_ok : mul64C.ok Tryd.prog := mul64_of (by simp) fun ρ hg hp => by
  obtain ⟨⟨a0, a1⟩, b0, b1⟩ := hp
  simp (config := { maxSteps := 2000000 }) [o_mul64, mul64C]
  obtain ⟨A, hA⟩ : ∃ A : Nat, (ρ 0).i = A := ⟨(ρ 0).i.toNat, by omega⟩
  obtain ⟨B, hB⟩ : ∃ B : Nat, (ρ 1).i = B := ⟨(ρ 1).i.toNat, by omega⟩
  rw [hA] at a1 ⊢
  rw [hB] at b1 ⊢
  have hm := mulHi (x0 := A % 4294967296) (x1 := A / 4294967296) (y0 := B % 4294967296) (y1 := B / 4294967296) (by omega) (by omega) (by omega) (by omega)
  rw [show A / 4294967296 * 2 ^ 32 + A % 4294967296 = A by omega, show B / 4294967296 * 2 ^ 32 + B % 4294967296 = B by omega] at hm
  have x1 : A / 4294967296 < 4294967296 := by omega
  have x0 : A % 4294967296 < 4294967296 := by omega
  have y1 : B / 4294967296 < 4294967296 := by omega
  have y0 : B % 4294967296 < 4294967296 := by omega
  have h11 := half_mul x1 y1
  have h10 := half_mul x1 y0
  have h01 := half_mul x0 y1
  have h00 := half_mul x0 y0
  refine ⟨?_, ?_⟩
  · rw [shrN, shrN, andN (by omega), andN (by omega), mulN (by omega), mulN (by omega), mulN (by omega), mulN (by omega), shrN, addN (by omega), shrN, andN (by omega), addN (by omega), addN (by omega), shrN, addN (by omega)]
    rw [← Int.natCast_mul, show (18446744073709551616 : Int) = ((18446744073709551616 : Nat) : Int) from rfl, ← Int.natCast_ediv]
    refine congrArg Int.ofNat ?_
    have e : A * B / 2 ^ 64 = A * B / 18446744073709551616 := rfl
    rw [← e, hm]
  · show IntKind.u64.wrap _ = _
    rw [wrap64u]
theorem within_ok : withinC.ok Tryd.prog := within_of (by simp [mul64_ok]) fun ρ hg hp => by
  obtain ⟨⟨a0, a1⟩, b0, b1⟩ := hp
  simp (config := { maxSteps := 2000000 }) [o_within, withinC, mul64C, u64P]
  obtain ⟨Y, hY⟩ : ∃ Y : Nat, (ρ 0).i = Y := ⟨(ρ 0).i.toNat, by omega⟩
  obtain ⟨P, hP⟩ : ∃ P : Nat, (ρ 1).i = P := ⟨(ρ 1).i.toNat, by omega⟩
  rw [hY] at a1 ⊢
  rw [hP] at b1 ⊢
  have hQ : (Y : Int) * (Y : Int) = ((Y * Y : Nat) : Int) := (Int.natCast_mul ..).symm
  rw [hQ]
  have hQ2 : Y * Y ≤ 68719476735 * 68719476735 := Nat.mul_le_mul (by omega) (by omega)
  simp only [Int.toNat_natCast]
  generalize hq : Y * Y = Q at hQ2
  refine ⟨⟨by omega, by omega⟩, fun u _ v _ hu hv => ⟨fun hc => ?_, fun hc => ⟨⟨⟨by omega, by omega⟩, by omega, by omega⟩, fun w _ z _ hw hz => ?_⟩⟩⟩
  · have hd : withinN Y P (ρ 2).b = true ↔ Q ≤ P * 18446744073709551616 := by rw [hc, withinN, hq]; simp only [Bool.false_eq_true, if_false, decide_eq_true_eq, Nat.reducePow]
    obtain ⟨U, hU⟩ : ∃ U : Nat, u.i = U := ⟨u.i.toNat, by omega⟩
    obtain ⟨V, hV⟩ : ∃ V : Nat, v.i = V := ⟨v.i.toNat, by omega⟩
    have hU2 : U = Q / 18446744073709551616 := by omega
    have hV2 : V = Q % 18446744073709551616 := by omega
    have hQ3 : Q = U * 18446744073709551616 + V := by omega
    have hV3 : V < 18446744073709551616 := by omega
    rw [hU, hV]
    clear hu hv hU hV hQ hq hU2 hV2 hQ2
    refine ⟨fun h => hd.2 (by omega), fun h => ⟨fun h2 => ?_, fun h2 => Bool.eq_false_iff.2 fun e => ?_⟩⟩
    · show decide ((V : Int) = 0) = _
      by_cases hz : (V : Int) = 0
      · rw [decide_eq_true hz]; exact (hd.2 (by omega)).symm
      · rw [decide_eq_false hz]; exact (Bool.eq_false_iff.2 fun e => by have := hd.1 e; omega).symm
    · have := hd.1 e; omega
  · have hd : withinN Y P (ρ 2).b = true ↔ Q * Y ≤ P * 79228162514264337593543950336 := by rw [hc, withinN, hq]; simp only [if_true, decide_eq_true_eq, Nat.reducePow]
    obtain ⟨U, hU⟩ : ∃ U : Nat, u.i = U := ⟨u.i.toNat, by omega⟩
    obtain ⟨V, hV⟩ : ∃ V : Nat, v.i = V := ⟨v.i.toNat, by omega⟩
    have hU2 : U = Q / 18446744073709551616 := by omega
    have hV2 : V = Q % 18446744073709551616 := by omega
    have hQY : Q * Y = U * Y * 18446744073709551616 + V * Y := by
      conv => lhs; rw [show Q = U * 18446744073709551616 + V by omega]
      rw [Nat.add_mul, Nat.mul_right_comm]
    have hUY : U * Y ≤ 256 * 68719476735 := Nat.mul_le_mul (by omega) (by omega)
    have hVY : V * Y ≤ 18446744073709551615 * 68719476735 := Nat.mul_le_mul (by omega) (by omega)
    rw [hV, ← Int.natCast_mul] at hw hz
    rw [hQY] at hd
    have hsh : arithOf .shl .u64 (P : Int) 32 = ((P * 4294967296 : Nat) : Int) := by
      show IntKind.u64.wrap ((P : Int) * 2 ^ (min (32 : Int).toNat 64)) = _
      have : min (32 : Int).toNat 64 = 32 := by decide
      rw [this, wrap64u]
      omega
    have hW : w.i = ((V * Y / 18446744073709551616 : Nat) : Int) := by omega
    rw [hU, mulN (by omega), hW, addN (by omega), hsh]
    generalize U * Y = M at hd hUY ⊢
    generalize V * Y = L at hd hVY hw hz hW ⊢
    refine ⟨fun h => hd.2 (by omega), fun h => ⟨fun h2 => ?_, fun h2 => Bool.eq_false_iff.2 fun e => ?_⟩⟩
    · show decide (z.i = 0) = _
      by_cases hz0 : z.i = 0
      · rw [decide_eq_true hz0]; exact (hd.2 (by omega)).symm
      · rw [decide_eq_false hz0]; exact (Bool.eq_false_iff.2 fun e => by have := hd.1 e; omega).symm
    · have := hd.1 e; omega
theorem or_bit {X B : Nat} (hX : X < 68719476736) (hB : B ≤ 35) : arithOf .or .u64 (X : Int) (arithOf .shl .u64 1 (B : Int)) = ((X ||| 2 ^ B : Nat) : Int) ∧ X ||| 2 ^ B < 68719476736 := by
  have hp : 2 ^ B < 68719476736 := Nat.lt_of_le_of_lt (Nat.pow_le_pow_right (by decide) hB) (by decide)
  have hor : X ||| 2 ^ B < 2 ^ 36 := Nat.or_lt_two_pow hX hp
  have hpi : ((2 : Int) ^ B) = ((2 ^ B : Nat) : Int) := (Int.natCast_pow 2 B).symm
  have e1 : arithOf .shl .u64 1 (B : Int) = ((2 ^ B : Nat) : Int) := by
    show IntKind.u64.wrap (1 * 2 ^ (min (B : Int).toNat 64)) = _
    rw [Int.toNat_natCast, Nat.min_eq_left (by omega), wrap64u, Int.one_mul]
    rw [hpi]
    generalize 2 ^ B = K at hp ⊢
    omega
  refine ⟨?_, hor⟩
  rw [e1]
  show IntKind.u64.wrap ((BitVec.ofInt 64 (X : Int) ||| BitVec.ofInt 64 ((2 ^ B : Nat) : Int)).toNat : Int) = _
  rw [wrap64u, BitVec.toNat_or, BitVec.ofInt_natCast, BitVec.ofInt_natCast, BitVec.toNat_ofNat, BitVec.toNat_ofNat, Nat.mod_eq_of_lt (by omega), Nat.mod_eq_of_lt (by omega)]
  have : X ||| 2 ^ B < 68719476736 := hor
  generalize X ||| 2 ^ B = K at this ⊢
  omega
theorem root_ok : rootC.ok Tryd.prog := root_of (by simp [within_ok]) fun ρ hg hp => by
  obtain ⟨p0, p1⟩ : 0 ≤ (ρ 0).i ∧ (ρ 0).i < 1000 := hp
  simp (config := { maxSteps := 2000000 }) [o_root, rootC, rootI, withinC]
  intro x _ b _ b0 b1 x0 x1 hr
  refine ⟨fun hb => ?_, fun hb => ?_⟩
  · obtain ⟨B, hB⟩ : ∃ B : Nat, b.i = B := ⟨b.i.toNat, by omega⟩
    obtain ⟨X, hX⟩ : ∃ X : Nat, x.i = X := ⟨x.i.toNat, by omega⟩
    have m1 : arithOf .sub .i64 b.i 1 = b.i - 1 := by rw [Go.Proofs.sub64 (by omega) (by omega)]
    have m2 : IntKind.u64.wrap b.i = (B : Int) := by rw [wrap64u]; omega
    obtain ⟨o1, o2⟩ := or_bit (X := X) (B := B) (by omega) (by omega)
    rw [m1, m2, hX, o1]
    rw [hB, hX] at hr
    rw [show ((B : Int) + 1).toNat = B + 1 by omega, Int.toNat_natCast] at hr
    simp only [Int.toNat_natCast]
    refine ⟨by omega, ⟨⟨by omega, by omega⟩, p0, p1⟩, fun c _ hc => ⟨fun ht => ⟨⟨by omega, by omega, ⟨by omega, by omega⟩, ?_⟩, by omega⟩, fun hf => ⟨⟨by omega, by omega, ⟨by omega, by omega⟩, ?_⟩, by omega⟩⟩⟩
    · rw [hr, rootN, ← hc, if_pos ht, show (b.i - 1 + 1).toNat = B by omega]
    · rw [hr, rootN, ← hc, if_neg (by rw [hf]; decide), show (b.i - 1 + 1).toNat = B by omega]
  · rw [show (b.i + 1).toNat = 0 by omega] at hr
    rw [hr, rootN, wrap32]
    show ofW (toW x.i) = _
    rw [← wrap32]
    simp [IntKind.wrap, IntKind.bits, IntKind.signed]
    omega
/-! ### Primes -/
theorem primes_low : ∀ q ∈ primesN 312, 2 ≤ q ∧ q < 1000 := by decide +kernel
theorem primes_two {p q : Nat} (h2 : 2 ≤ p) (hp : p ≤ 312) (h : q ∈ primesN p) : 2 ≤ q := by
  have := primesN_pre h2 (312 - p)
  rw [show p + (312 - p) = 312 by omega] at this
  exact (primes_low q (this.subset h)).1
theorem natsI_get {l : List Nat} {i : Nat} (h : i < l.length) : (natsI l)[i]? = some ((l[i] : Nat) : Int) := by
  simp [natsI, h]
theorem natsI_len {l : List Nat} : (natsI l).length = l.length := by simp [natsI]
theorem remN {x y : Nat} (h : x < 18446744073709551616) : arithOf .rem .u64 (x : Int) (y : Int) = ((x % y : Nat) : Int) := by
  show (x : Int).tmod (y : Int) = _
  rw [Int.tmod_eq_emod_of_nonneg (by omega), ← Int.natCast_emod]
theorem divs_snoc {p : Nat} {l : List Nat} {j : Nat} (h : j < l.length) : divs p (l.take (j + 1)) = (divs p (l.take j) || p % l[j] == 0) := by
  rw [List.take_add_one, List.getElem?_eq_getElem h, divs, List.any_append, Option.toList_some, List.any_cons, List.any_nil, Bool.or_false]
  rfl
theorem primes_ok : primesC.ok Tryd.prog := primes_of (by simp) fun ρ hg hp => by
  have hp : (ρ 0).i = 64 := hp
  simp (config := { maxSteps := 2000000 }) [o_primes, primesC, primesI, primesJ, primesIn]
  refine ⟨⟨hp, rfl⟩, fun n _ d _ p _ _ p0 p1 hn hn2 hd => ⟨by omega, fun hlt => ⟨⟨⟨hp, p0, p1, hn, hn2, hd⟩, by omega, by omega, rfl⟩, fun n2 _ d2 _ q _ f _ j _ _ q0 q1 hn3 hn4 hd2 hlt2 j0 j1 hf hq => ⟨by omega, fun hj => ?_, fun hj => ⟨fun hff => ?_, fun hff => ?_⟩⟩⟩, fun hge => ⟨hn, ?_⟩⟩⟩
  · obtain ⟨J, hJ⟩ : ∃ J : Nat, j.i = J := ⟨j.i.toNat, by omega⟩
    obtain ⟨Q, hQ⟩ : ∃ Q : Nat, q.i = Q := ⟨q.i.toNat, by omega⟩
    have m1 : arithOf .add .i64 j.i 1 = ((J + 1 : Nat) : Int) := by rw [Go.Proofs.add64 (by omega) (by omega)]; omega
    have hlen : (primesN q.i.toNat).length = d2.d.length := by
      have := congrArg List.length hd2
      rw [natsI_len, bI_len] at this; exact this.symm
    have hg1 := bI_get (d := d2.d) (i := j.i) (by omega) (by omega)
    rw [hd2, natsI_get (by rw [hlen]; omega)] at hg1
    have hc := (Option.some.inj hg1).symm
    have h2 := primes_two (p := q.i.toNat) (by omega) (by omega) (List.getElem_mem (show j.i.toNat < (primesN q.i.toNat).length by rw [hlen]; omega))
    have hstep := divs_snoc (p := q.i.toNat) (l := primesN q.i.toNat) (j := j.i.toNat) (by rw [hlen]; omega)
    generalize (primesN q.i.toNat)[j.i.toNat]'(by rw [hlen]; omega) = V at hc h2 hstep
    rw [hc, m1, hQ, remN (by omega)]
    rw [hQ] at hf hstep hd2
    rw [hJ] at hf hstep
    simp only [Int.toNat_natCast, hJ] at hf hstep hd2 ⊢
    refine ⟨by omega, by omega, by omega, fun h0 => ⟨⟨⟨hp, by omega, by omega, hn3, hn4, hd2⟩, hlt2, by omega, by omega, ?_, by omega⟩, by omega⟩, fun h0 => ⟨⟨⟨hp, by omega, by omega, hn3, hn4, hd2⟩, hlt2, by omega, by omega, ?_, by omega⟩, by omega⟩⟩
    · rw [hstep, beq_iff_eq.2 (by omega)]; simp
    · rw [hstep, hf, beq_eq_false_iff_ne.2 (by omega)]; simp
  · obtain ⟨Q, hQ⟩ : ∃ Q : Nat, q.i = Q := ⟨q.i.toNat, by omega⟩
    have hlen : (primesN Q).length = d2.d.length := by
      have := congrArg List.length hd2
      rw [natsI_len, bI_len, hQ, Int.toNat_natCast] at this; exact this.symm
    have hmore := primes_more (p := Q) (by omega) (by omega)
    have m1 : arithOf .add .u64 q.i 1 = ((Q + 1 : Nat) : Int) := by rw [hQ]; exact addN (y := 1) (by omega)
    rw [hQ, Int.toNat_natCast, List.take_of_length_le (by omega), hff] at hf
    rw [hQ, Int.toNat_natCast] at hd2
    have hst := primesN_step (p := Q) (by omega)
    have hst' : primesN (Q + 1) = if divs Q (primesN Q) = true then primesN Q else primesN Q ++ [Q] := hst
    rw [← hf] at hst'
    rw [m1, Int.toNat_natCast, hst']
    exact ⟨hn3, by omega, ⟨hp, by omega, by omega, hn3, by omega, by rw [bI_app, hd2, hQ]; simp [natsI, bI, rowI, vInt]⟩, by omega⟩
  · obtain ⟨Q, hQ⟩ : ∃ Q : Nat, q.i = Q := ⟨q.i.toNat, by omega⟩
    have hlen : (primesN Q).length = d2.d.length := by
      have := congrArg List.length hd2
      rw [natsI_len, bI_len, hQ, Int.toNat_natCast] at this; exact this.symm
    have hmore := primes_more (p := Q) (by omega) (by omega)
    have m1 : arithOf .add .u64 q.i 1 = ((Q + 1 : Nat) : Int) := by rw [hQ]; exact addN (y := 1) (by omega)
    rw [hQ, Int.toNat_natCast, List.take_of_length_le (by omega), hff] at hf
    rw [hQ, Int.toNat_natCast] at hd2
    have hst := primesN_step (p := Q) (by omega)
    have hst' : primesN (Q + 1) = if divs Q (primesN Q) = true then primesN Q else primesN Q ++ [Q] := hst
    rw [← hf] at hst'
    rw [m1, Int.toNat_natCast, hst']
    exact ⟨⟨hp, by omega, by omega, hn3, hn4, by rw [hd2]; simp⟩, by omega⟩
  · have hlen : (primesN p.i.toNat).length = d.d.length := by
      have := congrArg List.length hd
      rw [natsI_len, bI_len] at this; exact this.symm
    rw [hd, primes_end (p := p.i.toNat) (by omega) (by omega) (by omega)]
/-! ### Constants -/
def wCells (f : Nat → Int) (n : Nat) : List Value := (List.range n).map fun j => .int .u32 (f j)
theorem wCells_get {f : Nat → Int} {n j : Nat} (h : j < n) : cellX [wCells f n] j = f j := by
  rw [cellX_row]; simp [wCells, h, vInt]
theorem rootsK_get {j : Nat} (h : j < 64) : rootsK[j]?.getD 0 = ((rootN ((primesN 312)[j]'(by rw [primes_len]; exact h)) true 36 0 % 4294967296 : Nat) : Int) := by
  unfold rootsK
  rw [List.getElem?_map, List.getElem?_eq_getElem (by rw [primes_len]; exact h)]; rfl
theorem rootsH_get {j : Nat} (h : j < 8) : rootsH[j]?.getD 0 = ((rootN ((primesN 312)[j]'(by rw [primes_len]; omega)) false 36 0 % 4294967296 : Nat) : Int) := by
  unfold rootsH
  rw [List.getElem?_map, List.getElem?_take, if_pos h, List.getElem?_eq_getElem (by rw [primes_len]; omega)]; rfl
theorem consts_ok : constC.ok Tryd.prog := consts_of (by simp [primes_ok, root_ok]) fun ρ hg hp => by
  simp (config := { maxSteps := 2000000 }) [o_consts, constC, constI, primesC, rootC]
  refine fun n _ d _ hn hd => ⟨⟨hn, hd, ⟨_, rfl, rfl⟩, ⟨_, rfl, rfl⟩, fun j hj => absurd hj (by omega), fun j hj => absurd hj (by omega)⟩, fun n2 _ d2 _ k _ h _ i _ i0 i1 hn2 hd2 hk hh hkj hhj => ⟨fun hlt => ?_, fun hge => ⟨by rw [oneRow_len hk]; decide, by rw [oneRow_len hh]; decide, ?_, ?_⟩⟩⟩
  · obtain ⟨I, hI⟩ : ∃ I : Nat, i.i = I := ⟨i.i.toNat, by omega⟩
    have hlen : d2.d.length = 64 := by
      have := congrArg List.length hd2
      rw [natsI_len, bI_len, primes_len] at this; exact this
    have m1 : arithOf .add .i64 i.i 1 = ((I + 1 : Nat) : Int) := by rw [Go.Proofs.add64 (by omega) (by omega)]; omega
    have hg1 := bI_get (d := d2.d) (i := i.i) (by omega) (by omega)
    rw [hI, Int.toNat_natCast, hd2, natsI_get (by rw [primes_len]; omega)] at hg1
    have hc := (Option.some.inj hg1).symm
    have hb := primes_low _ (List.getElem_mem (show I < (primesN 312).length by rw [primes_len]; omega))
    rw [m1, hI, hc]
    rw [hI] at hkj hhj
    simp only [Int.toNat_natCast]
    refine ⟨by omega, by omega, by omega, ⟨by omega, by omega⟩, fun x _ hx => ⟨by rw [oneRow_len hk]; decide, fun h8 => ⟨⟨by omega, by omega⟩, fun y _ hy => ⟨by rw [oneRow_len hh]; decide, ⟨by omega, by omega, hn2, hd2, oneRow_putX hk, oneRow_putX hh, fun j hj => ?_, fun j hj hj8 => ?_⟩, by omega⟩⟩, fun h8 => ⟨⟨by omega, by omega, hn2, hd2, oneRow_putX hk, hh, fun j hj => ?_, fun j hj hj8 => ?_⟩, by omega⟩⟩⟩
    · by_cases e : j = I
      · rw [e, cellX_putX hk (by omega), hx, rootsK_get (by omega), Int.natCast_emod]; rfl
      · rw [cellX_putX_ne e]; exact hkj j (by omega)
    · by_cases e : j = I
      · rw [e, cellX_putX hh (by omega), hy, rootsH_get (by omega), Int.natCast_emod]; rfl
      · rw [cellX_putX_ne e]; exact hhj j (by omega) hj8
    · by_cases e : j = I
      · rw [e, cellX_putX hk (by omega), hx, rootsK_get (by omega), Int.natCast_emod]; rfl
      · rw [cellX_putX_ne e]; exact hkj j (by omega)
    · exact hhj j (by omega) hj8
  · have e : rowL [wCells (cellI k.d 0) 64] 64 = roundK := by
      refine rowL_eq roundK_len fun j hj => ?_
      rw [wCells_get hj, cellI_0, ← rootsK_eq]
      exact hkj j (by omega)
    exact e
  · have e : rowL [wCells (cellI h.d 0) 8] 8 = initH := by
      refine rowL_eq rfl fun j hj => ?_
      rw [wCells_get hj, cellI_0, ← rootsH_eq]
      exact hhj j (by omega) hj
    exact e
/-! ### CRC-32C bit by bit -/
theorem and1 {a : W32} : arithOf .and .u32 (ofW a) 1 = if a.getLsbD 0 then 1 else 0 := by
  rw [and32, toW_ofW]
  have h1 : (a &&& toW 1).toNat = a.toNat % 2 := by
    rw [BitVec.toNat_and, show (toW 1).toNat = 2 ^ 1 - 1 from rfl, Nat.and_two_pow_sub_one_eq_mod]
  unfold ofW
  rw [h1, BitVec.getLsbD, Nat.testBit_zero]
  by_cases e : a.toNat % 2 = 1
  · simp [e]
  · have : a.toNat % 2 = 0 := by omega
    simp [this]
theorem crcR_ok : crcRC.ok Tryd.prog := crcR_of (by simp) fun ρ hg hp => by
  obtain ⟨hl, hle, hB⟩ := hp
  simp (config := { maxSteps := 2000000 }) [o_crcR, crcRC, crcRI, crcRJ]
  refine ⟨⟨by omega, rfl⟩, fun c _ i _ i0 i1 hc => ⟨by omega, fun hlt => ⟨i0, by omega, ⟨i0, hlt, ?_⟩, fun c2 _ i2 _ t _ _ hlt2 t0 t1 hc2 hi => ⟨fun ht => ⟨fun ha => ⟨⟨by omega, hlt2, ?_⟩, ?_⟩, fun ha => ⟨⟨by omega, hlt2, ?_⟩, ?_⟩⟩, fun ht => ?_⟩⟩, fun hge => ?_⟩⟩
  · have hg1 := bI_get (d := (ρ 3).d) (i := i.i) i0 (by omega)
    rw [hc, hg1, xor32, toW_ofW, wrap32, toW_ofW]; rfl
  · rw [hc2, and1] at ha
    obtain ⟨T, hT⟩ : ∃ T : Nat, t.i = T := ⟨t.i.toNat, by omega⟩
    have m1 : arithOf .add .i64 t.i 1 = ((T + 1 : Nat) : Int) := by rw [Go.Proofs.add64 (by omega) (by omega)]; omega
    rw [hc2, m1, shr1 isW_ofW, xor32, toW_ofW, toW_ofW]
    refine ⟨by omega, by omega, ?_, hi⟩
    rw [hT] at ha ⊢
    simp only [Int.toNat_natCast] at ha ⊢
    rw [crcN, crc1]
    split at ha
    · rename_i hb
      rw [if_pos hb]; rfl
    · cases ha
  · rw [Go.Proofs.add64 (by omega) (by omega)]; omega
  · rw [hc2, and1] at ha
    obtain ⟨T, hT⟩ : ∃ T : Nat, t.i = T := ⟨t.i.toNat, by omega⟩
    have m1 : arithOf .add .i64 t.i 1 = ((T + 1 : Nat) : Int) := by rw [Go.Proofs.add64 (by omega) (by omega)]; omega
    rw [hc2, m1, shr1 isW_ofW, toW_ofW]
    refine ⟨by omega, by omega, ?_, hi⟩
    rw [hT] at ha ⊢
    simp only [Int.toNat_natCast] at ha ⊢
    rw [crcN, crc1]
    split at ha
    · exact absurd rfl ha
    · rename_i hb
      rw [if_neg hb]
  · rw [Go.Proofs.add64 (by omega) (by omega)]; omega
  · obtain ⟨I, hI⟩ : ∃ I : Nat, i2.i = I := ⟨i2.i.toNat, by omega⟩
    have m1 : arithOf .add .i64 i2.i 1 = ((I + 1 : Nat) : Int) := by rw [Go.Proofs.add64 (by omega) (by omega)]; omega
    have ht8 : t.i.toNat = 8 := by omega
    have hg1 := bI_get (d := (ρ 3).d) (i := i2.i) (by omega) (by omega)
    rw [ht8, hI, Int.toNat_natCast] at hc2
    rw [hI, Int.toNat_natCast] at hg1
    rw [m1, Int.toNat_natCast]
    refine ⟨⟨by omega, by omega, ?_⟩, by omega⟩
    rw [hc2, List.take_add_one, crcL_app, hg1]
    rfl
  · have : i.i.toNat = (bI (ρ 3).d).length := by rw [bI_len]; omega
    rw [this, List.take_length] at hc
    rw [hc, xor32, toW_ofW, crcF]
    refine congrArg ofW ?_
    apply BitVec.eq_of_getLsbD_eq
    intro j hj
    have h1 : ∀ i : Nat, i < 32 → (toW 4294967295).getLsbD i = true := by decide
    rw [BitVec.getLsbD_xor, BitVec.getLsbD_not, h1 j hj]
    simp [hj]
end Go.Proofs

set_option linter.unusedSimpArgs false
set_option linter.unusedVariables false
namespace Go.Proofs
open Go Go.Eng
set_option maxRecDepth 20000
theorem segB_get64 {d : Rows'} {o : Int} {j : Nat} (h0 : 0 ≤ o) (hl : o + 64 ≤ d.length) (hj : j < 64) : (segB d o 64).getD j 0 = cellI d (o + j) 0 := by
  have hg := bI_get (d := d) (i := o + j) (by omega) (by omega)
  unfold segB
  rw [List.getD_eq_getElem?_getD, List.getElem?_take, if_pos (show j < (64 : Int).toNat from hj), List.getElem?_drop, show o.toNat + j = (o + j).toNat by omega, hg]
  rfl
theorem wordsAt_len {m : List Int} {o : Nat} : (wordsAt m o).length = 16 := by simp [wordsAt]
theorem wordsAt_get {m : List Int} {o t : Nat} (h : t < 16) : (wordsAt m o).getD t 0 = wordAt m (o + 4 * t) := by
  simp [wordsAt, List.getD_eq_getElem?_getD, h]
theorem kW_get {d : Rows'} {t : Nat} (h : t < 64) : (kW d).getD t 0 = toW (cellX d t) := by
  simp [kW, wordsK, rowL, List.getD_eq_getElem?_getD, h]
theorem not32 {x : Int} : arithOf .xor .u32 4294967295 x = ofW (~~~ toW x) := by
  rw [xor32]
  refine congrArg ofW ?_
  apply BitVec.eq_of_getLsbD_eq
  intro j hj
  have h1 : ∀ i : Nat, i < 32 → (toW 4294967295).getLsbD i = true := by decide
  rw [BitVec.getLsbD_xor, BitVec.getLsbD_not, h1 j hj]
  simp [hj]
theorem st_ext {d : Rows'} : stOf (rowL d 8) = ⟨toW (cellX d 0), toW (cellX d 1), toW (cellX d 2), toW (cellX d 3), toW (cellX d 4), toW (cellX d 5), toW (cellX d 6), toW (cellX d 7)⟩ := rfl
theorem put_all {d : Rows'} {n : Nat} {vs : List Value} (h : oneRow d n) (hv : vs.length = n) : putD d 0 0 vs = [vs] := by
  obtain ⟨row, rfl, hl⟩ := h
  simp [putD, splice]
  omega
theorem rowL_eq8 {d e : List (List Value)} (h : rowL d 8 = rowL e 8) : ∀ j, j < 8 → cellX d j = cellX e j := fun j hj => by
  have := rowL_get (d := d) hj
  rw [h, rowL_get hj] at this
  exact this.symm
theorem rowL_eq64 {d e : List (List Value)} (h : rowL d 64 = rowL e 64) : ∀ j, j < 64 → cellX d j = cellX e j := fun j hj => by
  have := rowL_get (d := d) hj
  rw [h, rowL_get hj] at this
  exact this.symm
theorem wCells_one {f : Nat → Int} {n : Nat} : oneRow [wCells f n] n := ⟨_, rfl, by simp [wCells]⟩
theorem wCells_row {d : Rows'} {n : Nat} : rowL [wCells (cellX d) n] n = rowL d n := rowL_congr fun j hj => wCells_get hj
theorem wCells_rowI {d : Rows'} {n : Nat} : rowL [wCells (cellI d 0) n] n = rowL d n := rowL_congr fun j hj => (wCells_get hj).trans cellI_0
theorem round_ok : roundC.ok Tryd.prog := round_of (by simp [turn_ok]) fun ρ hg hp => by
  obtain ⟨hw8, hw64, ho, h64, hol, hB⟩ := hp
  simp (config := { maxSteps := 2000000 }) [o_round, roundC, roundA, roundB, roundD, roundIn, blkS, turnC]
  have c64 : oneRow [wCells (cellX (ρ 1).d) 64] 64 ∧ rowL [wCells (cellX (ρ 1).d) 64] 64 = rowL (ρ 1).d 64 := ⟨wCells_one, wCells_row⟩
  have c8 : oneRow [wCells (cellX (ρ 0).d) 8] 8 ∧ rowL [wCells (cellX (ρ 0).d) 8] 8 = rowL (ρ 0).d 8 := ⟨wCells_one, wCells_row⟩
  refine ⟨⟨c64, c8.1, c8.2, ⟨_, rfl, rfl⟩, fun j hj => absurd hj (by omega)⟩, fun h _ k _ w _ t _ hk hk2 hh hh2 t0 t1 hA => ⟨fun hlt => ⟨fun h16 => ?_, fun h16 => ?_⟩, fun hge => ⟨by rw [oneRow_len hh]; decide, ⟨⟨hk, hk2⟩, hh, hh2, ?_, ⟨_, rfl, rfl⟩, ?_, ?_⟩, fun h2 _ k2 _ w2 _ t2 _ v _ hk3 hk4 hh3 hh4 u0 u1 hW hv hvw hR => ⟨fun hlt => ?_, fun hge2 => ⟨⟨hh3, hv, hvw, ?_, fun j hj => ?_⟩, fun h5 _ t5 _ v5 _ hh5 s0 s1 hv5 hvw5 hR5 hc5 => ⟨fun hlt => ?_, fun hge5 => ⟨by rw [oneRow_len hh5]; decide, ?_, ?_⟩⟩⟩⟩⟩⟩⟩
  · obtain ⟨T, hT⟩ : ∃ T : Nat, t.i = T := ⟨t.i.toNat, by omega⟩
    have m0 : arithOf .mul .i64 4 t.i = ((4 * T : Nat) : Int) := by rw [mul64 (by omega) (by omega)]; omega
    have m1 : arithOf .add .i64 (arithOf .mul .i64 4 t.i) 1 = ((4 * T + 1 : Nat) : Int) := by rw [m0, add64 (by omega) (by omega)]; omega
    have m2 : arithOf .add .i64 (arithOf .mul .i64 4 t.i) 2 = ((4 * T + 2 : Nat) : Int) := by rw [m0, add64 (by omega) (by omega)]; omega
    have m3 : arithOf .add .i64 (arithOf .mul .i64 4 t.i) 3 = ((4 * T + 3 : Nat) : Int) := by rw [m0, add64 (by omega) (by omega)]; omega
    have m5 : arithOf .add .i64 t.i 1 = ((T + 1 : Nat) : Int) := by rw [add64 (by omega) (by omega)]; omega
    rw [m1, m2, m3, m0, m5]
    rw [hT, Int.toNat_natCast] at hA
    rw [hT]
    simp only [Int.toNat_natCast]
    have e2 := oneRow_len hA.1
    refine ⟨by omega, by omega, ho, by omega, by omega, by omega, by omega, by omega, by omega, by omega, by omega, by omega, by omega, by omega, by omega, by omega, by omega, by omega, by omega, ⟨⟨hk, hk2⟩, hh, hh2, by omega, by omega, wordIs_put hA (by omega) ?_⟩, by omega⟩
    rw [be32_int, schedL_low (by rw [wordsAt_len]; omega), wordsAt_get (by omega), wordAt, Nat.zero_add, segB_get64 ho hol (by omega), segB_get64 ho hol (by omega), segB_get64 ho hol (by omega), segB_get64 ho hol (by omega)]
  · obtain ⟨T, hT⟩ : ∃ T : Nat, t.i = ((16 + T : Nat) : Int) := ⟨t.i.toNat - 16, by omega⟩
    have m15 : arithOf .sub .i64 t.i 15 = ((1 + T : Nat) : Int) := by rw [sub64 (by omega) (by omega)]; omega
    have m2 : arithOf .sub .i64 t.i 2 = ((14 + T : Nat) : Int) := by rw [sub64 (by omega) (by omega)]; omega
    have m16 : arithOf .sub .i64 t.i 16 = (T : Int) := by rw [sub64 (by omega) (by omega)]; omega
    have m7 : arithOf .sub .i64 t.i 7 = ((9 + T : Nat) : Int) := by rw [sub64 (by omega) (by omega)]; omega
    have m5 : arithOf .add .i64 t.i 1 = ((16 + T + 1 : Nat) : Int) := by rw [add64 (by omega) (by omega)]; omega
    rw [m15, m2, m16, m7, m5]
    rw [hT, Int.toNat_natCast] at hA
    rw [hT]
    simp only [Int.toNat_natCast]
    have e2 := oneRow_len hA.1
    refine ⟨by omega, by omega, by omega, wordIs_isW hA (by omega), fun r1 _ g1 => ⟨wordIs_isW hA (by omega), fun r2 _ g2 => ⟨by omega, by omega, wordIs_isW hA (by omega), fun r3 _ g3 => ⟨wordIs_isW hA (by omega), fun r4 _ g4 => ⟨by omega, by omega, by omega, by omega, by omega, ⟨⟨hk, hk2⟩, hh, hh2, by omega, by omega, wordIs_put hA (by omega) ?_⟩, by omega⟩⟩⟩⟩⟩
    rw [g1, g2, g3, g4]
    rw [shr3 (wordIs_isW hA (by omega)), shr10 (wordIs_isW hA (by omega))]
    simp only [add32, xor32, toW_ofW]
    rw [toW_word hA (by omega : 1 + T < 16 + T), toW_word hA (by omega : 14 + T < 16 + T), toW_word hA (by omega : T < 16 + T), toW_word hA (by omega : 9 + T < 16 + T), schedL_step wordsAt_len (by omega)]
    generalize (schedL (wordsAt (segB (ρ 6).d (ρ 3).i 64) 0) 48).getD (1 + T) 0 = p1
    generalize (schedL (wordsAt (segB (ρ 6).d (ρ 3).i 64) 0) 48).getD (14 + T) 0 = p14
    generalize (schedL (wordsAt (segB (ρ 6).d (ρ 3).i 64) 0) 48).getD (9 + T) 0 = p9
    generalize (schedL (wordsAt (segB (ρ 6).d (ρ 3).i 64) 0) 48).getD T 0 = p0
    refine congrArg ofW ?_
    simp only [sg0, sg1]
  · have : t.i = 64 := by omega
    rw [this] at hA; exact hA
  · have e : words8 [wCells (cellI h.d 0) 8] := fun j hj => by
      rw [wCells_get hj, cellI_0, rowL_eq8 hh2 j hj]; exact hw8 j hj
    exact e
  · have e : stOf (rowL [wCells (cellI h.d 0) 8] 8) = stOf (rowL (ρ 0).d 8) := by rw [wCells_rowI, hh2]
    exact e
  · obtain ⟨T, hT⟩ : ∃ T : Nat, t2.i = T := ⟨t2.i.toNat, by omega⟩
    have m5 : arithOf .add .i64 t2.i 1 = ((T + 1 : Nat) : Int) := by rw [add64 (by omega) (by omega)]; omega
    rw [m5]
    rw [hT, Int.toNat_natCast] at hR
    rw [hT]
    simp only [Int.toNat_natCast, cellI_0]
    refine ⟨by rw [oneRow_len hv]; decide, by omega, by rw [oneRow_len hk3]; decide, by rw [oneRow_len hW.1]; decide, hvw 4 (by omega), fun r1 _ g1 => ⟨hvw 4 (by omega), fun r2 _ g2 => ⟨hvw 4 (by omega), fun r3 _ g3 => ⟨hvw 0 (by omega), fun r4 _ g4 => ⟨hvw 0 (by omega), fun r5 _ g5 => ⟨hvw 0 (by omega), fun r6 _ g6 => ?_⟩⟩⟩⟩⟩⟩
    rw [put_all hv rfl, g1, g2, g3, g4, g5, g6]
    refine ⟨⟨⟨hk3, hk4⟩, hh3, hh4, by omega, by omega, hW, ⟨_, rfl, rfl⟩, fun j hj => ?_, ?_⟩, by omega⟩
    · match j, hj with
      | 0, _ => show isW (arithOf .add .u32 _ _); rw [add32]; exact isW_ofW
      | 1, _ => exact hvw 0 (by omega)
      | 2, _ => exact hvw 1 (by omega)
      | 3, _ => exact hvw 2 (by omega)
      | 4, _ => show isW (arithOf .add .u32 _ _); rw [add32]; exact isW_ofW
      | 5, _ => exact hvw 4 (by omega)
      | 6, _ => exact hvw 5 (by omega)
      | 7, _ => exact hvw 6 (by omega)
    · rw [rnds, ← hR, kW_get (by omega), ← rowL_eq64 hk4 T (by omega), ← toW_word hW (by omega : T < 64)]
      simp only [add32, xor32, and32, not32, toW_ofW]
      rw [st_ext, st_ext]
      simp only [cellX_row, List.getElem?_cons_zero, List.getElem?_cons_succ, Option.getD_some, vInt, toW_ofW]
      rfl
  · have : t2.i = 64 := by omega
    rw [this] at hR; exact hR
  · rw [if_neg (by omega)]; exact rowL_eq8 hh4 j hj
  · obtain ⟨T, hT⟩ : ∃ T : Nat, t5.i = T := ⟨t5.i.toNat, by omega⟩
    have m5 : arithOf .add .i64 t5.i 1 = ((T + 1 : Nat) : Int) := by rw [add64 (by omega) (by omega)]; omega
    rw [m5]
    rw [hT] at hc5
    rw [hT]
    simp only [Int.toNat_natCast]
    refine ⟨by omega, by rw [oneRow_len hh5]; decide, by rw [oneRow_len hv5]; decide, ⟨oneRow_putX hh5, by omega, by omega, hv5, hvw5, hR5, fun j hj => ?_⟩, by omega⟩
    by_cases e : j = T
    · rw [e, cellX_putX hh5 (by omega), hc5 T (by omega), if_neg (by omega), if_pos (by omega), add32]
    · rw [cellX_putX_ne e, hc5 j hj]
      by_cases e2 : j < T
      · rw [if_pos (by omega), if_pos (by omega)]
      · rw [if_neg (by omega), if_neg (by omega)]
  · have e : words8 [wCells (cellI h5.d 0) 8] := fun j hj => by
      rw [wCells_get hj, cellI_0, hc5 j hj, if_pos (by omega)]; exact isW_ofW
    exact e
  · have e : stOf (rowL [wCells (cellI h5.d 0) 8] 8) = blockS (kW (ρ 1).d) (stOf (rowL (ρ 0).d 8)) (wordsAt (segB (ρ 6).d (ρ 3).i 64) 0) := by
      rw [wCells_rowI, blockS, ← hR5, st_ext, st_ext, st_ext]
      have hc : ∀ j, j < 8 → cellX h5.d j = ofW (toW (cellX (ρ 0).d j) + toW (cellX v5.d j)) := fun j hj => by rw [hc5 j hj, if_pos (by omega)]
      rw [hc 0 (by omega), hc 1 (by omega), hc 2 (by omega), hc 3 (by omega), hc 4 (by omega), hc 5 (by omega), hc 6 (by omega), hc 7 (by omega)]
      simp only [toW_ofW, addS]
    exact e
end Go.Proofs

set_option linter.unusedSimpArgs false
set_option linter.unusedVariables false
namespace Go.Proofs
open Go Go.Eng
set_option maxRecDepth 20000
theorem wordsAt_seg {l : List Int} {o : Nat} : wordsAt ((l.drop o).take 64) 0 = wordsAt l o := by
  unfold wordsAt
  refine List.map_congr_left fun t ht => ?_
  have ht := List.mem_range.1 ht
  have e : ∀ j, j < 64 → ((l.drop o).take 64).getD j 0 = l.getD (o + j) 0 := fun j hj => by
    rw [List.getD_eq_getElem?_getD, List.getD_eq_getElem?_getD, List.getElem?_take, if_pos hj, List.getElem?_drop]
  unfold wordAt
  rw [e _ (by omega), e _ (by omega), e _ (by omega), e _ (by omega), show o + (0 + 4 * t) = o + 4 * t by omega, show o + (0 + 4 * t + 1) = o + 4 * t + 1 by omega, show o + (0 + 4 * t + 2) = o + 4 * t + 2 by omega, show o + (0 + 4 * t + 3) = o + 4 * t + 3 by omega]
theorem stL_get8 {d : Rows'} (h : words8 d) {k : Nat} (hk : k < 8) : (stL (stOf (rowL d 8))).getD k 0 = cellX d k := by
  have h8 : stL (stOf (rowL d 8)) = [ofW (toW (cellX d 0)), ofW (toW (cellX d 1)), ofW (toW (cellX d 2)), ofW (toW (cellX d 3)), ofW (toW (cellX d 4)), ofW (toW (cellX d 5)), ofW (toW (cellX d 6)), ofW (toW (cellX d 7))] := rfl
  rw [h8, ofW_toW (h 0 (by omega)), ofW_toW (h 1 (by omega)), ofW_toW (h 2 (by omega)), ofW_toW (h 3 (by omega)), ofW_toW (h 4 (by omega)), ofW_toW (h 5 (by omega)), ofW_toW (h 6 (by omega)), ofW_toW (h 7 (by omega))]
  match k, hk with
  | 0, _ => rfl
  | 1, _ => rfl
  | 2, _ => rfl
  | 3, _ => rfl
  | 4, _ => rfl
  | 5, _ => rfl
  | 6, _ => rfl
  | 7, _ => rfl
theorem bytesS_get8 {d : Rows'} (h : words8 d) {t : Nat} (ht : t < 32) : (bytesS (stOf (rowL d 8)))[t]?.getD 0 = ((cellX d (t / 4)).fdiv (2 ^ (24 - 8 * (t % 4)))) % 256 := by
  rw [← stL_get8 h (by omega)]
  simp [bytesS, ht]
theorem sub24 {x : Nat} (h : x ≤ 24) : arithOf .sub .u64 24 (x : Int) = ((24 - x : Nat) : Int) := by
  show IntKind.u64.wrap (24 - (x : Int)) = _
  rw [wrap64u]; omega
theorem wrapN {x : Nat} (h : x < 18446744073709551616) : IntKind.u64.wrap (x : Int) = (x : Int) := by rw [wrap64u]; omega
theorem mul8 {x : Nat} (h : x < 1000000000000000) : arithOf .mul .u64 8 (x : Int) = ((8 * x : Nat) : Int) := mulN (x := 8) (by omega)
theorem fold_ok : foldC.ok Tryd.prog := fold_of (by simp [round_ok]) fun ρ hg hp => by
  obtain ⟨hl, hle, hB, hw64, hw8⟩ := hp
  simp (config := { maxSteps := 2000000 }) [o_fold, foldC, foldA, foldB, foldD, foldE, foldIn, roundC]
  have hbl : (bI (ρ 3).d).length = (ρ 3).d.length := bI_len
  refine ⟨by omega, by omega, by omega, by omega, by omega, ⟨⟨fun j hj => wCells_get (f := cellX (ρ 5).d) (n := 64) hj, ⟨_, rfl, rfl⟩, ⟨_, rfl, rfl⟩, by omega, ?_⟩, fun j hj => wCells_get (f := cellX (ρ 6).d) (n := 8) hj, 0, by omega, ?_⟩, fun k _ h _ n _ m _ hk hk1 hh hn hmB hh2 z hz hm => ⟨by omega, fun hne => ?_, fun heq => ?_⟩⟩
  · refine allB_app (allB_tk hB) fun r hr => ?_
    obtain rfl := List.mem_singleton.1 hr
    decide
  · rw [bI_app, List.take_of_length_le (by omega)]; rfl
  · have hml : m.d.length = (ρ 3).d.length + 1 + z := by
      have := congrArg List.length hm
      rw [bI_len, List.length_append, hbl, List.length_cons, List.length_replicate] at this; omega
    rw [hn, rem64] at hne
    have hzlt : z < padZ (ρ 3).d.length := by unfold padZ at hz ⊢; omega
    refine ⟨hn, by unfold padZ at hz; omega, ⟨⟨hk, hk1, hh, hn, allB_app hmB fun r hr => ?_⟩, hh2, z + 1, hzlt, ?_⟩, by omega⟩
    · obtain rfl := List.mem_singleton.1 hr
      decide
    · rw [bI_app, hm, List.replicate_succ', ← List.cons_append, ← List.append_assoc]; rfl
  · have hml : m.d.length = (ρ 3).d.length + 1 + z := by
      have := congrArg List.length hm
      rw [bI_len, List.length_append, hbl, List.length_cons, List.length_replicate] at this; omega
    rw [hn, rem64] at heq
    have hzz : z = padZ (ρ 3).d.length := by unfold padZ at hz ⊢; omega
    rw [hzz] at hm
    refine ⟨⟨⟨hk, hk1, hh, hn, hmB⟩, hh2, ?_, hm⟩, fun k2 _ h2 _ n2 _ m2 _ i _ q _ hk2 hk3 hh3 hn2 hmB2 hh4 i0 i1 hq hm2 => ⟨fun hi => ?_, fun hi => ⟨⟨⟨hk2, hk3, hh3, hn2, hmB2⟩, ?_, ?_, 0, rfl, by omega, ?_⟩, fun k4 _ h4 _ n4 _ c4 _ m4 _ t _ hk4 hk5 hh5 hn4 hmB4 hw4 hm4 x hx hxl hst => ?_⟩⟩⟩
    · rw [hl, wrapN (by omega)]
      exact (mulN (x := (ρ 3).d.length) (y := 8) (by omega)).trans (by omega)
    · obtain ⟨I, hI⟩ : ∃ I : Nat, i.i = I := ⟨i.i.toNat, by omega⟩
      have m1 : arithOf .sub .i64 i.i 1 = i.i - 1 := by rw [Go.Proofs.sub64 (by omega) (by omega)]
      have hml2 : m2.d.length ≤ (ρ 3).d.length + 1 + padZ (ρ 3).d.length + 8 := by
        have := congrArg List.length hm2
        rw [bI_len, List.length_append, hbl, List.length_cons, List.length_append, List.length_replicate, List.length_take, beL_len] at this; omega
      have hp64 : padZ (ρ 3).d.length ≤ 63 := by unfold padZ; omega
      rw [m1, hI, wrapN (by omega), mul8 (by omega), shr_u64 (by omega), wrap8, hq]
      rw [hI] at hm2
      refine ⟨by omega, hn2, by omega, ⟨⟨hk2, hk3, hh3, hn2, allB_app hmB2 fun r hr => ?_⟩, hh4, by omega, by omega, rfl, ?_⟩, by omega⟩
      · obtain rfl := List.mem_singleton.1 hr
        show 0 ≤ _ % 256 ∧ _ % 256 < 256
        omega
      · have hg := beL_get (v := (ρ 1).i * 8) (n := 8) (j := 7 - I) (by omega)
        rw [show 8 - 1 - (7 - I) = I by omega] at hg
        rw [show (7 - ((I : Int) - 1)).toNat = (7 - I) + 1 by omega, List.take_add_one, List.getElem?_eq_getElem (by rw [beL_len]; omega)]
        rw [List.getElem?_eq_getElem (by rw [beL_len]; omega)] at hg
        rw [bI_app, hm2, show (7 - (I : Int)).toNat = 7 - I by omega, ← hg]
        simp [bI, rowI, vInt]
    · exact fun j hj => by rw [hh4 j hj]; exact hw8 j hj
    · have h8 : (7 - i.i).toNat = 8 := by omega
      rw [hm2, h8, List.take_of_length_le (by rw [beL_len]; omega), padL, hbl, hl]
      rfl
    · exact congrArg stOf (rowL_congr hh4)
    · have hpl := padL_len (m := bI (ρ 3).d)
      have hml4 : m4.d.length = (padL (bI (ρ 3).d)).length := by rw [← hm4, bI_len]
      refine ⟨by omega, fun hlt => ⟨by rw [oneRow_len hh5]; decide, by rw [oneRow_len hk5]; decide, fun hcap => ?_⟩, fun hge => ⟨⟨hh5, hw4, ?_, ⟨_, rfl, rfl⟩, fun j hj => absurd hj (by omega)⟩, fun h6 _ d6 _ t6 _ hh6 hw6 hst6 hd6 s0 s1 hc6 => ⟨fun hlt => ?_, fun hge2 => ⟨by rw [oneRow_len hd6]; decide, ?_⟩⟩⟩⟩
      · have m1 : arithOf .add .i64 t.i 64 = t.i + 64 := by rw [Go.Proofs.add64 (by omega) (by omega)]
        have h9 : 64 * x + 64 ≤ m4.d.length := by omega
        rw [if_neg (by omega), m1]
        refine ⟨by omega, by omega, by omega, by omega, ⟨fun j hj => ?_, fun j hj => ?_, by omega, by omega, by omega, hmB4⟩, fun g _ hgw hgs => ?_⟩
        · have : cellX [wCells (cellI h4.d 0) 8] j = cellX h4.d j := (wCells_get hj).trans cellI_0
          exact (congrArg isW this).mpr (hw4 j hj)
        · have : cellX [wCells (cellI k4.d 0) 64] j = cellX (ρ 5).d j := ((wCells_get hj).trans cellI_0).trans (hk4 j hj)
          exact (congrArg isW this).mpr (hw64 j hj)
        · rw [put_all hh5 rfl]
          have hgs' : stOf (rowL g.d 8) = blockS (kW [wCells (cellI k4.d 0) 64]) (stOf (rowL [wCells (cellI h4.d 0) 8] 8)) (wordsAt (segB m4.d t.i 64) 0) := hgs
          have e1 : kW [wCells (cellI k4.d 0) 64] = kW (ρ 5).d := by
            unfold kW; rw [wCells_rowI]; exact congrArg wordsK (rowL_congr hk4)
          have e2 : wordsAt (segB m4.d t.i 64) 0 = wordsAt (padL (bI (ρ 3).d)) (64 * x) := by
            rw [segB, hm4, hx, show ((64 : Int) * (x : Int)).toNat = 64 * x by omega]
            exact wordsAt_seg
          rw [e1, e2, wCells_rowI, hst] at hgs'
          refine ⟨⟨⟨hk4, hk5, ⟨_, rfl, rfl⟩, hn4, hmB4⟩, fun j hj => ?_, hm4, x + 1, by omega, by omega, ?_⟩, by omega⟩
          · have : cellX [wCells (cellX g.d) 8] j = cellX g.d j := wCells_get hj
            exact (congrArg isW this).mpr (hgw j hj)
          · have e3 : stOf (rowL [wCells (cellX g.d) 8] 8) = stAt (kW (ρ 5).d) (stOf (rowL (ρ 6).d 8)) (padL (bI (ρ 3).d)) (x + 1) := by
              rw [wCells_row, hgs', stAt]
            exact e3
      · rw [hst]
        refine congrArg _ ?_
        omega
      · obtain ⟨T, hT⟩ : ∃ T : Nat, t6.i = T := ⟨t6.i.toNat, by omega⟩
        have m3 : arithOf .add .i64 t6.i 1 = ((T + 1 : Nat) : Int) := by rw [Go.Proofs.add64 (by omega) (by omega)]; omega
        have m1 : arithOf .sub .u64 24 (arithOf .mul .u64 8 (IntKind.u64.wrap (arithOf .rem .i64 t6.i 4))) = ((24 - 8 * (T % 4) : Nat) : Int) := by
          rw [hT, rem4, wrapN (by omega), mul8 (by omega), sub24 (by omega)]
        rw [m1, m3, hT, quo4 (by omega), shr_u32 (by omega), wrap8]
        rw [hT] at hc6
        simp only [Int.toNat_natCast]
        refine ⟨by omega, by omega, by rw [oneRow_len hh6]; decide, by omega, by omega, by rw [oneRow_len hd6]; decide, ⟨hh6, hw6, hst6, oneRow_putX hd6, by omega, by omega, fun j hj => ?_⟩, by omega⟩
        by_cases ej : j = T
        · rw [ej, cellX_putX hd6 (by omega), bytesS_get8 hw6 (by omega)]
        · rw [cellX_putX_ne ej, hc6 j (by omega)]
      · have e : rowL [dgCells (cellI d6.d 0)] 32 = bytesS (stOf (rowL h6.d 8)) := rowL_eq bytesS_len fun j hj => by
          rw [dgCells_get hj, cellI_0]; exact hc6 j (by omega)
        rw [hst6] at e
        exact e
theorem roundK_isW : ∀ x ∈ roundK, isW x := by unfold isW; decide
theorem initH_isW : ∀ x ∈ initH, isW x := by unfold isW; decide
theorem kW_round {d : Rows'} (h : rowL d 64 = roundK) : kW d = wordsK roundK := by rw [kW, h]
theorem words64_of {d : Rows'} (h : rowL d 64 = roundK) : words64 d := fun j hj => by
  rw [← rowL_get hj, h]
  refine roundK_isW _ ?_
  rw [List.getD_eq_getElem?_getD, List.getElem?_eq_getElem (by rw [roundK_len]; exact hj)]
  exact List.getElem_mem _
theorem words8_of {d : Rows'} (h : rowL d 8 = initH) : words8 d := fun j hj => by
  rw [← rowL_get hj, h]
  refine initH_isW _ ?_
  rw [List.getD_eq_getElem?_getD, List.getElem?_eq_getElem (by show j < 8; exact hj)]
  exact List.getElem_mem _
theorem slow_ok : slowC.ok Tryd.prog := slow_of (by simp [consts_ok, fold_ok]) fun ρ hg hp => by
  obtain ⟨hl, hle, hB⟩ := hp
  simp (config := { maxSteps := 2000000 }) [o_slow, slowC, constC, foldC]
  intro k _ h _ hk hh
  have ek : rowL [wCells (cellX k.d) 64] 64 = roundK := wCells_row.trans hk
  have eh : rowL [wCells (cellX h.d) 8] 8 = initH := wCells_row.trans hh
  refine ⟨⟨hl, hle, hB, words64_of ek, words8_of eh⟩, fun d _ hd => ?_⟩
  have hd' : rowL d.d 32 = shaK (kW [wCells (cellX k.d) 64]) (stOf (rowL [wCells (cellX h.d) 8] 8)) (bI (ρ 3).d) := hd
  rw [kW_round ek, eh] at hd'
  exact hd'
theorem glob_row {d : Rows'} (h : d = [roundK.map (Value.int .u32)]) : rowL d 64 = roundK := rowL_eq roundK_len fun j hj => by
  rw [h, glob_cell hj, List.getD_eq_getElem?_getD]
theorem sumR_ok : sumRC.ok Tryd.prog := sumR_of (by simp [fold_ok]) fun ρ hg hp => by
  obtain ⟨hl, hle, hB, hGr, hGd⟩ := hp
  simp (config := { maxSteps := 2000000 }) [o_sumR, sumRC, foldC, gOk]
  have ek : rowL [wCells (cellI (ρ 6).d 0) 64] 64 = roundK := wCells_rowI.trans (glob_row hGd)
  refine ⟨hGr, by rw [hGd]; decide, ⟨hl, hle, hB, words64_of ek, words8_of rfl⟩, fun d _ hd => ?_⟩
  have hd' : rowL d.d 32 = shaK (kW [wCells (cellI (ρ 6).d 0) 64]) (stOf initH) (bI (ρ 3).d) := hd
  rw [kW_round ek] at hd'
  exact hd'
theorem lawSums_ok (hk : knownC.ok Tryd.prog) : lawSumsC.ok Tryd.prog := lawSums_of (by simp [hk, crc_ok, sha256_ok, slow_ok, sumR_ok, crcR_ok]) fun ρ hg hp => by
  obtain ⟨⟨a1, a2, a3⟩, ⟨hSr, hSd⟩, hGr, hGd⟩ := hp
  simp only [Nat.zero_add] at a1 a2 a3
  simp (config := { maxSteps := 2000000 }) [o_lawSums, lawSumsC, knownC, crcC, sha256C, slowC, sumRC, crcRC, lawTrue, gOk, bytesIn]
  have ht : List.take (ρ 1).i.toNat (ρ 3).d = (ρ 3).d := List.take_of_length_le (by omega)
  refine ⟨by omega, fun _ => ⟨hGr, hGd⟩, fun hle => ⟨by omega, by omega, fun c _ hc => ⟨⟨⟨by omega, by omega, by omega, by omega, allB_tk a3⟩, hGr, hGd⟩, fun s _ hs => ⟨⟨a1, by omega, a3, hSr, hSd⟩, fun s2 _ hs2 => ?_⟩⟩⟩⟩
  rw [segB_take a1] at hs
  refine ⟨?_, row_eq32 (rowL_eq32 (hs.trans hs2.symm))⟩
  intros
  refine ⟨⟨a1, by omega, a3⟩, fun s3 _ hs3 => ⟨⟨a1, by omega, a3, hSr, hSd⟩, fun s4 _ hs4 => ⟨?_, row_eq32 (rowL_eq32 (hs3.trans hs4.symm))⟩⟩⟩
  intros
  refine ⟨⟨by omega, by omega, by omega, allB_tk a3⟩, fun x _ hx => ⟨⟨a1, by omega, a3⟩, fun y _ hy => ⟨fun _ => ⟨by omega, fun _ => ⟨hGr, hGd⟩, ?_⟩, ?_⟩⟩⟩
  · rw [ht, ht]
  · rw [segB_take a1] at hx
    rw [hx, hy]
end Go.Proofs

set_option linter.unusedSimpArgs false
set_option linter.unusedVariables false
set_option maxRecDepth 100000
namespace Go.Proofs
open Go Go.Eng

def o_sizes3 : Out := (.br (.cmp .leq (.lit (1)) (.var 0))
 (.br (.cmp .leq (.var 0) (.var 1))
 (.br (.cmp .leq (.var 1) (.var 2))
 (.ret 0 ⟨3, [(3, (.t (.cmp .leq (.var 2) (.lit (255)))))], [], [], []⟩)
 (.ret 0 ⟨3, [(3, (.t (.bl false)))], [], [], []⟩))
 (.ret 0 ⟨3, [(3, (.t (.bl false)))], [], [], []⟩))
 (.ret 0 ⟨3, [(3, (.t (.bl false)))], [], [], []⟩))
theorem o_sizes3_eq : treeOf ⟨Tryd.prog, sizes3C, [], []⟩ 100000 Tryd.f71 = o_sizes3 := by kernel_rfl
theorem sizes3_of (hd : ∀ c ∈ ([] : List Ctr), c.ok Tryd.prog) (h : ∀ ρ : Env, ρ.good → (sizes3C).pre ρ → o_sizes3.den ⟨Tryd.prog, sizes3C, [], []⟩ ρ) : (sizes3C).ok Tryd.prog :=
  ok_of_tree Tryd.func71 (fun a w => Tryd.call71 a w) hd 100000 (fun ρ hg hp => by rw [o_sizes3_eq]; exact h ρ hg hp)
def o_checkM : Out := (.fresh 10 (.pre 0 ⟨0, [(2, (.t (.var 2))), (1, (.t (.var 1))), (0, (.t (.var 0)))], [], [], []⟩ (.both (.fresh 11 (.post 0 0 ⟨0, [(2, (.t (.var 2))), (1, (.t (.var 1))), (0, (.t (.var 0)))], [], [], []⟩ 11 (.br (.not (.var 11))
 (.ret 0 ⟨10, [(10, (.t (.lit (2))))], [], [], []⟩)
 (.br (.cmp .lss (.var 3) (.lit (0)))
 (.ret 0 ⟨10, [(10, (.t (.lit (2))))], [], [], []⟩)
 (.br (.cmp .gtr (.var 3) (.lit (8192)))
 (.ret 0 ⟨10, [(10, (.t (.lit (2))))], [], [], []⟩)
 (.need (.cmp .leq (.lit (0)) (.var 6)) (.br (.cmp .neq (.var 6) (.var 2))
 (.ret 0 ⟨10, [(10, (.t (.lit (2))))], [], [], []⟩)
 (.ret 0 ⟨10, [(10, (.t (.lit (0))))], [], [], []⟩)))))))) .top)))
theorem o_checkM_eq : treeOf ⟨Tryd.prog, checkMC, [sizes3C], []⟩ 100000 Tryd.f37 = o_checkM := by kernel_rfl
theorem checkM_of (hd : ∀ c ∈ ([sizes3C] : List Ctr), c.ok Tryd.prog) (h : ∀ ρ : Env, ρ.good → (checkMC).pre ρ → o_checkM.den ⟨Tryd.prog, checkMC, [sizes3C], []⟩ ρ) : (checkMC).ok Tryd.prog :=
  ok_of_tree Tryd.func37 (fun a w => Tryd.call37 a w) hd 100000 (fun ρ hg hp => by rw [o_checkM_eq]; exact h ρ hg hp)
def o_pieceDg : Out := (.fresh 9 (.pre 0 ⟨0, [], [], [], []⟩ (.both (.fresh 10 (.fresh 11 (.post 0 0 ⟨0, [], [], [], []⟩ 10 (.fresh 12 (.pre 1 ⟨0, [(9, (.t (.var 8))), (7, (.t (.lit (2)))), (6, (.t (.dapp (.rcons (.vint .u8 (.conv .u8 (.arith .shr .i64 (.var 0) (.lit (8))))) .rnil) (.rcons (.vint .u8 (.conv .u8 (.var 0))) .rnil)))), (1, (.t (.var 11))), (5, (.t (.lit (2)))), (4, (.t (.lit (2)))), (3, (.t (.lit (0)))), (2, (.r 12)), (0, (.r 10)), (8, (.r 7))], [((.lit (1)), (.lit (1))), ((.lit (1)), (.lit (1))), ((.lit (0)), (.lit (0)))], [], []⟩ (.both (.fresh 13 (.post 1 0 ⟨0, [(9, (.t (.var 8))), (7, (.t (.lit (2)))), (6, (.t (.dapp (.rcons (.vint .u8 (.conv .u8 (.arith .shr .i64 (.var 0) (.lit (8))))) .rnil) (.rcons (.vint .u8 (.conv .u8 (.var 0))) .rnil)))), (1, (.t (.var 11))), (5, (.t (.lit (2)))), (4, (.t (.lit (2)))), (3, (.t (.lit (0)))), (2, (.r 12)), (0, (.r 10)), (8, (.r 7))], [((.lit (1)), (.lit (1))), ((.lit (1)), (.lit (1))), ((.lit (0)), (.lit (0)))], [], []⟩ 13 (.pre 1 ⟨0, [(9, (.t (.var 8))), (7, (.t (.var 6))), (6, (.t (.var 5))), (1, (.t (.var 13))), (5, (.t (.var 4))), (4, (.t (.var 3))), (3, (.t (.var 2))), (2, (.r 1)), (0, (.r 10)), (8, (.r 7))], [((.lit (1)), (.lit (1))), ((.lit (1)), (.lit (1))), ((.lit (0)), (.lit (0)))], [], []⟩ (.both (.fresh 14 (.post 1 0 ⟨0, [(9, (.t (.var 8))), (7, (.t (.var 6))), (6, (.t (.var 5))), (1, (.t (.var 13))), (5, (.t (.var 4))), (4, (.t (.var 3))), (3, (.t (.var 2))), (2, (.r 1)), (0, (.r 10)), (8, (.r 7))], [((.lit (1)), (.lit (1))), ((.lit (1)), (.lit (1))), ((.lit (0)), (.lit (0)))], [], []⟩ 14 (.pre 2 ⟨0, [(3, (.t (.var 8))), (1, (.t (.var 14))), (0, (.r 10)), (2, (.r 7))], [((.lit (1)), (.lit (1))), ((.lit (1)), (.lit (1))), ((.lit (0)), (.lit (0)))], [], []⟩ (.both (.fresh 15 (.post 2 0 ⟨0, [(3, (.t (.var 8))), (1, (.t (.var 14))), (0, (.r 10)), (2, (.r 7))], [((.lit (1)), (.lit (1))), ((.lit (1)), (.lit (1))), ((.lit (0)), (.lit (0)))], [], []⟩ 15 (.ret 0 ⟨9, [(9, (.t (.rcons (.vint .u8 (.c2 (.xint 0) (.var 15) (.lit (0)))) (.rcons (.vint .u8 (.c2 (.xint 1) (.var 15) (.lit (0)))) (.rcons (.vint .u8 (.c2 (.xint 2) (.var 15) (.lit (0)))) (.rcons (.vint .u8 (.c2 (.xint 3) (.var 15) (.lit (0)))) (.rcons (.vint .u8 (.c2 (.xint 4) (.var 15) (.lit (0)))) (.rcons (.vint .u8 (.c2 (.xint 5) (.var 15) (.lit (0)))) (.rcons (.vint .u8 (.c2 (.xint 6) (.var 15) (.lit (0)))) (.rcons (.vint .u8 (.c2 (.xint 7) (.var 15) (.lit (0)))) (.rcons (.vint .u8 (.c2 (.xint 8) (.var 15) (.lit (0)))) (.rcons (.vint .u8 (.c2 (.xint 9) (.var 15) (.lit (0)))) (.rcons (.vint .u8 (.c2 (.xint 10) (.var 15) (.lit (0)))) (.rcons (.vint .u8 (.c2 (.xint 11) (.var 15) (.lit (0)))) (.rcons (.vint .u8 (.c2 (.xint 12) (.var 15) (.lit (0)))) (.rcons (.vint .u8 (.c2 (.xint 13) (.var 15) (.lit (0)))) (.rcons (.vint .u8 (.c2 (.xint 14) (.var 15) (.lit (0)))) (.rcons (.vint .u8 (.c2 (.xint 15) (.var 15) (.lit (0)))) (.rcons (.vint .u8 (.c2 (.xint 16) (.var 15) (.lit (0)))) (.rcons (.vint .u8 (.c2 (.xint 17) (.var 15) (.lit (0)))) (.rcons (.vint .u8 (.c2 (.xint 18) (.var 15) (.lit (0)))) (.rcons (.vint .u8 (.c2 (.xint 19) (.var 15) (.lit (0)))) (.rcons (.vint .u8 (.c2 (.xint 20) (.var 15) (.lit (0)))) (.rcons (.vint .u8 (.c2 (.xint 21) (.var 15) (.lit (0)))) (.rcons (.vint .u8 (.c2 (.xint 22) (.var 15) (.lit (0)))) (.rcons (.vint .u8 (.c2 (.xint 23) (.var 15) (.lit (0)))) (.rcons (.vint .u8 (.c2 (.xint 24) (.var 15) (.lit (0)))) (.rcons (.vint .u8 (.c2 (.xint 25) (.var 15) (.lit (0)))) (.rcons (.vint .u8 (.c2 (.xint 26) (.var 15) (.lit (0)))) (.rcons (.vint .u8 (.c2 (.xint 27) (.var 15) (.lit (0)))) (.rcons (.vint .u8 (.c2 (.xint 28) (.var 15) (.lit (0)))) (.rcons (.vint .u8 (.c2 (.xint 29) (.var 15) (.lit (0)))) (.rcons (.vint .u8 (.c2 (.xint 30) (.var 15) (.lit (0)))) (.rcons (.vint .u8 (.c2 (.xint 31) (.var 15) (.lit (0)))) .rnil))))))))))))))))))))))))))))))))))], [], [], []⟩))) .top)))) .top)))) .top)))))) .top)))
theorem o_pieceDg_eq : treeOf ⟨Tryd.prog, pieceDgC, [newHashC, writeC, sumC], []⟩ 100000 Tryd.f41 = o_pieceDg := by kernel_rfl
theorem pieceDg_of (hd : ∀ c ∈ ([newHashC, writeC, sumC] : List Ctr), c.ok Tryd.prog) (h : ∀ ρ : Env, ρ.good → (pieceDgC).pre ρ → o_pieceDg.den ⟨Tryd.prog, pieceDgC, [newHashC, writeC, sumC], []⟩ ρ) : (pieceDgC).ok Tryd.prog :=
  ok_of_tree Tryd.func41 (fun a w => Tryd.call41 a w) hd 100000 (fun ρ hg hp => by rw [o_pieceDg_eq]; exact h ρ hg hp)
def o_encMan : Out := (.fresh 10 (.pre 0 ⟨0, [(9, (.t (.var 9))), (8, (.t (.var 8))), (7, (.t (.var 7))), (6, (.t (.var 6))), (5, (.r 5)), (3, (.t (.var 3))), (2, (.t (.var 2))), (1, (.t (.var 1))), (0, (.t (.var 0))), (4, (.t (.rcons (.vint .u8 (.c2 (.xint 0) (.var 4) (.lit (0)))) (.rcons (.vint .u8 (.c2 (.xint 1) (.var 4) (.lit (0)))) (.rcons (.vint .u8 (.c2 (.xint 2) (.var 4) (.lit (0)))) (.rcons (.vint .u8 (.c2 (.xint 3) (.var 4) (.lit (0)))) (.rcons (.vint .u8 (.c2 (.xint 4) (.var 4) (.lit (0)))) (.rcons (.vint .u8 (.c2 (.xint 5) (.var 4) (.lit (0)))) (.rcons (.vint .u8 (.c2 (.xint 6) (.var 4) (.lit (0)))) (.rcons (.vint .u8 (.c2 (.xint 7) (.var 4) (.lit (0)))) (.rcons (.vint .u8 (.c2 (.xint 8) (.var 4) (.lit (0)))) (.rcons (.vint .u8 (.c2 (.xint 9) (.var 4) (.lit (0)))) (.rcons (.vint .u8 (.c2 (.xint 10) (.var 4) (.lit (0)))) (.rcons (.vint .u8 (.c2 (.xint 11) (.var 4) (.lit (0)))) (.rcons (.vint .u8 (.c2 (.xint 12) (.var 4) (.lit (0)))) (.rcons (.vint .u8 (.c2 (.xint 13) (.var 4) (.lit (0)))) (.rcons (.vint .u8 (.c2 (.xint 14) (.var 4) (.lit (0)))) (.rcons (.vint .u8 (.c2 (.xint 15) (.var 4) (.lit (0)))) (.rcons (.vint .u8 (.c2 (.xint 16) (.var 4) (.lit (0)))) (.rcons (.vint .u8 (.c2 (.xint 17) (.var 4) (.lit (0)))) (.rcons (.vint .u8 (.c2 (.xint 18) (.var 4) (.lit (0)))) (.rcons (.vint .u8 (.c2 (.xint 19) (.var 4) (.lit (0)))) (.rcons (.vint .u8 (.c2 (.xint 20) (.var 4) (.lit (0)))) (.rcons (.vint .u8 (.c2 (.xint 21) (.var 4) (.lit (0)))) (.rcons (.vint .u8 (.c2 (.xint 22) (.var 4) (.lit (0)))) (.rcons (.vint .u8 (.c2 (.xint 23) (.var 4) (.lit (0)))) (.rcons (.vint .u8 (.c2 (.xint 24) (.var 4) (.lit (0)))) (.rcons (.vint .u8 (.c2 (.xint 25) (.var 4) (.lit (0)))) (.rcons (.vint .u8 (.c2 (.xint 26) (.var 4) (.lit (0)))) (.rcons (.vint .u8 (.c2 (.xint 27) (.var 4) (.lit (0)))) (.rcons (.vint .u8 (.c2 (.xint 28) (.var 4) (.lit (0)))) (.rcons (.vint .u8 (.c2 (.xint 29) (.var 4) (.lit (0)))) (.rcons (.vint .u8 (.c2 (.xint 30) (.var 4) (.lit (0)))) (.rcons (.vint .u8 (.c2 (.xint 31) (.var 4) (.lit (0)))) .rnil))))))))))))))))))))))))))))))))))], [((.lit (0)), (.lit (0)))], [], []⟩ (.both (.fresh 11 (.post 0 0 ⟨0, [(9, (.t (.var 9))), (8, (.t (.var 8))), (7, (.t (.var 7))), (6, (.t (.var 6))), (5, (.r 5)), (3, (.t (.var 3))), (2, (.t (.var 2))), (1, (.t (.var 1))), (0, (.t (.var 0))), (4, (.t (.rcons (.vint .u8 (.c2 (.xint 0) (.var 4) (.lit (0)))) (.rcons (.vint .u8 (.c2 (.xint 1) (.var 4) (.lit (0)))) (.rcons (.vint .u8 (.c2 (.xint 2) (.var 4) (.lit (0)))) (.rcons (.vint .u8 (.c2 (.xint 3) (.var 4) (.lit (0)))) (.rcons (.vint .u8 (.c2 (.xint 4) (.var 4) (.lit (0)))) (.rcons (.vint .u8 (.c2 (.xint 5) (.var 4) (.lit (0)))) (.rcons (.vint .u8 (.c2 (.xint 6) (.var 4) (.lit (0)))) (.rcons (.vint .u8 (.c2 (.xint 7) (.var 4) (.lit (0)))) (.rcons (.vint .u8 (.c2 (.xint 8) (.var 4) (.lit (0)))) (.rcons (.vint .u8 (.c2 (.xint 9) (.var 4) (.lit (0)))) (.rcons (.vint .u8 (.c2 (.xint 10) (.var 4) (.lit (0)))) (.rcons (.vint .u8 (.c2 (.xint 11) (.var 4) (.lit (0)))) (.rcons (.vint .u8 (.c2 (.xint 12) (.var 4) (.lit (0)))) (.rcons (.vint .u8 (.c2 (.xint 13) (.var 4) (.lit (0)))) (.rcons (.vint .u8 (.c2 (.xint 14) (.var 4) (.lit (0)))) (.rcons (.vint .u8 (.c2 (.xint 15) (.var 4) (.lit (0)))) (.rcons (.vint .u8 (.c2 (.xint 16) (.var 4) (.lit (0)))) (.rcons (.vint .u8 (.c2 (.xint 17) (.var 4) (.lit (0)))) (.rcons (.vint .u8 (.c2 (.xint 18) (.var 4) (.lit (0)))) (.rcons (.vint .u8 (.c2 (.xint 19) (.var 4) (.lit (0)))) (.rcons (.vint .u8 (.c2 (.xint 20) (.var 4) (.lit (0)))) (.rcons (.vint .u8 (.c2 (.xint 21) (.var 4) (.lit (0)))) (.rcons (.vint .u8 (.c2 (.xint 22) (.var 4) (.lit (0)))) (.rcons (.vint .u8 (.c2 (.xint 23) (.var 4) (.lit (0)))) (.rcons (.vint .u8 (.c2 (.xint 24) (.var 4) (.lit (0)))) (.rcons (.vint .u8 (.c2 (.xint 25) (.var 4) (.lit (0)))) (.rcons (.vint .u8 (.c2 (.xint 26) (.var 4) (.lit (0)))) (.rcons (.vint .u8 (.c2 (.xint 27) (.var 4) (.lit (0)))) (.rcons (.vint .u8 (.c2 (.xint 28) (.var 4) (.lit (0)))) (.rcons (.vint .u8 (.c2 (.xint 29) (.var 4) (.lit (0)))) (.rcons (.vint .u8 (.c2 (.xint 30) (.var 4) (.lit (0)))) (.rcons (.vint .u8 (.c2 (.xint 31) (.var 4) (.lit (0)))) .rnil))))))))))))))))))))))))))))))))))], [((.lit (0)), (.lit (0)))], [], []⟩ 11 (.br (.cmp .neq (.var 11) (.lit (0)))
 (.need (.cmp .eql (.lit (2)) (.var 11)) (.ret 0 ⟨10, [], [((.lit (2)), (.var 11))], [], []⟩))
 (.pre 1 ⟨0, [(0, (.t (.arith .add .i64 (.lit (39)) (.arith .mul .i64 (.lit (32)) (.var 2)))))], [], [], []⟩ (.both (.fresh 12 (.fresh 13 (.fresh 14 (.fresh 15 (.post 1 0 ⟨0, [(0, (.t (.arith .add .i64 (.lit (39)) (.arith .mul .i64 (.lit (32)) (.var 2)))))], [], [], []⟩ 12 (.pre 3 ⟨0, [(6, (.t .dnil)), (5, (.t (.lit (0)))), (4, (.t (.lit (0)))), (3, .nil), (2, (.t (.bl false))), (1, (.t (.var 13))), (7, (.t (.lit (19713)))), (0, (.r 12))], [((.var 5), (.lit (0))), ((.lit (0)), (.lit (0))), ((.lit (0)), (.lit (0)))], [], []⟩ (.both (.fresh 16 (.fresh 17 (.fresh 18 (.fresh 19 (.fresh 20 (.post 3 0 ⟨0, [(6, (.t .dnil)), (5, (.t (.lit (0)))), (4, (.t (.lit (0)))), (3, .nil), (2, (.t (.bl false))), (1, (.t (.var 13))), (7, (.t (.lit (19713)))), (0, (.r 12))], [((.var 5), (.lit (0))), ((.lit (0)), (.lit (0))), ((.lit (0)), (.lit (0)))], [], []⟩ 16 (.pre 2 ⟨0, [(6, (.t (.var 20))), (5, (.t (.var 19))), (4, (.t (.var 18))), (3, (.r 17)), (2, (.t (.var 16))), (1, (.t (.var 13))), (7, (.t (.conv .u8 (.var 0)))), (0, (.r 12))], [((.var 5), (.var 19)), ((.lit (0)), (.lit (0))), ((.lit (0)), (.lit (0)))], [], []⟩ (.both (.fresh 21 (.fresh 22 (.fresh 23 (.fresh 24 (.fresh 25 (.post 2 0 ⟨0, [(6, (.t (.var 20))), (5, (.t (.var 19))), (4, (.t (.var 18))), (3, (.r 17)), (2, (.t (.var 16))), (1, (.t (.var 13))), (7, (.t (.conv .u8 (.var 0)))), (0, (.r 12))], [((.var 5), (.var 19)), ((.lit (0)), (.lit (0))), ((.lit (0)), (.lit (0)))], [], []⟩ 21 (.pre 2 ⟨0, [(6, (.t (.var 25))), (5, (.t (.var 24))), (4, (.t (.var 23))), (3, (.r 22)), (2, (.t (.var 21))), (1, (.t (.var 13))), (7, (.t (.conv .u8 (.var 1)))), (0, (.r 12))], [((.var 5), (.var 24)), ((.lit (0)), (.lit (0))), ((.lit (0)), (.lit (0)))], [], []⟩ (.both (.fresh 26 (.fresh 27 (.fresh 28 (.fresh 29 (.fresh 30 (.post 2 0 ⟨0, [(6, (.t (.var 25))), (5, (.t (.var 24))), (4, (.t (.var 23))), (3, (.r 22)), (2, (.t (.var 21))), (1, (.t (.var 13))), (7, (.t (.conv .u8 (.var 1)))), (0, (.r 12))], [((.var 5), (.var 24)), ((.lit (0)), (.lit (0))), ((.lit (0)), (.lit (0)))], [], []⟩ 26 (.pre 2 ⟨0, [(6, (.t (.var 30))), (5, (.t (.var 29))), (4, (.t (.var 28))), (3, (.r 27)), (2, (.t (.var 26))), (1, (.t (.var 13))), (7, (.t (.conv .u8 (.var 2)))), (0, (.r 12))], [((.var 5), (.var 29)), ((.lit (0)), (.lit (0))), ((.lit (0)), (.lit (0)))], [], []⟩ (.both (.fresh 31 (.fresh 32 (.fresh 33 (.fresh 34 (.fresh 35 (.post 2 0 ⟨0, [(6, (.t (.var 30))), (5, (.t (.var 29))), (4, (.t (.var 28))), (3, (.r 27)), (2, (.t (.var 26))), (1, (.t (.var 13))), (7, (.t (.conv .u8 (.var 2)))), (0, (.r 12))], [((.var 5), (.var 29)), ((.lit (0)), (.lit (0))), ((.lit (0)), (.lit (0)))], [], []⟩ 31 (.pre 3 ⟨0, [(6, (.t (.var 35))), (5, (.t (.var 34))), (4, (.t (.var 33))), (3, (.r 32)), (2, (.t (.var 31))), (1, (.t (.var 13))), (7, (.t (.conv .u16 (.var 3)))), (0, (.r 12))], [((.var 5), (.var 34)), ((.lit (0)), (.lit (0))), ((.lit (0)), (.lit (0)))], [], []⟩ (.both (.fresh 36 (.fresh 37 (.fresh 38 (.fresh 39 (.fresh 40 (.post 3 0 ⟨0, [(6, (.t (.var 35))), (5, (.t (.var 34))), (4, (.t (.var 33))), (3, (.r 32)), (2, (.t (.var 31))), (1, (.t (.var 13))), (7, (.t (.conv .u16 (.var 3)))), (0, (.r 12))], [((.var 5), (.var 34)), ((.lit (0)), (.lit (0))), ((.lit (0)), (.lit (0)))], [], []⟩ 36 (.pre 4 ⟨0, [(8, (.t (.rcons (.vint .i64 (.var 0)) (.rcons (.vint .i64 (.var 1)) (.rcons (.vint .i64 (.var 2)) (.rcons (.vint .i64 (.var 3)) (.rcons (.vint .u8 (.c2 (.xint 0) (.var 4) (.lit (0)))) (.rcons (.vint .u8 (.c2 (.xint 1) (.var 4) (.lit (0)))) (.rcons (.vint .u8 (.c2 (.xint 2) (.var 4) (.lit (0)))) (.rcons (.vint .u8 (.c2 (.xint 3) (.var 4) (.lit (0)))) (.rcons (.vint .u8 (.c2 (.xint 4) (.var 4) (.lit (0)))) (.rcons (.vint .u8 (.c2 (.xint 5) (.var 4) (.lit (0)))) (.rcons (.vint .u8 (.c2 (.xint 6) (.var 4) (.lit (0)))) (.rcons (.vint .u8 (.c2 (.xint 7) (.var 4) (.lit (0)))) (.rcons (.vint .u8 (.c2 (.xint 8) (.var 4) (.lit (0)))) (.rcons (.vint .u8 (.c2 (.xint 9) (.var 4) (.lit (0)))) (.rcons (.vint .u8 (.c2 (.xint 10) (.var 4) (.lit (0)))) (.rcons (.vint .u8 (.c2 (.xint 11) (.var 4) (.lit (0)))) (.rcons (.vint .u8 (.c2 (.xint 12) (.var 4) (.lit (0)))) (.rcons (.vint .u8 (.c2 (.xint 13) (.var 4) (.lit (0)))) (.rcons (.vint .u8 (.c2 (.xint 14) (.var 4) (.lit (0)))) (.rcons (.vint .u8 (.c2 (.xint 15) (.var 4) (.lit (0)))) (.rcons (.vint .u8 (.c2 (.xint 16) (.var 4) (.lit (0)))) (.rcons (.vint .u8 (.c2 (.xint 17) (.var 4) (.lit (0)))) (.rcons (.vint .u8 (.c2 (.xint 18) (.var 4) (.lit (0)))) (.rcons (.vint .u8 (.c2 (.xint 19) (.var 4) (.lit (0)))) (.rcons (.vint .u8 (.c2 (.xint 20) (.var 4) (.lit (0)))) (.rcons (.vint .u8 (.c2 (.xint 21) (.var 4) (.lit (0)))) (.rcons (.vint .u8 (.c2 (.xint 22) (.var 4) (.lit (0)))) (.rcons (.vint .u8 (.c2 (.xint 23) (.var 4) (.lit (0)))) (.rcons (.vint .u8 (.c2 (.xint 24) (.var 4) (.lit (0)))) (.rcons (.vint .u8 (.c2 (.xint 25) (.var 4) (.lit (0)))) (.rcons (.vint .u8 (.c2 (.xint 26) (.var 4) (.lit (0)))) (.rcons (.vint .u8 (.c2 (.xint 27) (.var 4) (.lit (0)))) (.rcons (.vint .u8 (.c2 (.xint 28) (.var 4) (.lit (0)))) (.rcons (.vint .u8 (.c2 (.xint 29) (.var 4) (.lit (0)))) (.rcons (.vint .u8 (.c2 (.xint 30) (.var 4) (.lit (0)))) (.rcons (.vint .u8 (.c2 (.xint 31) (.var 4) (.lit (0)))) (.rcons (.vslice 5 (.lit (0)) (.var 6) (.var 7) 32) .rnil))))))))))))))))))))))))))))))))))))))), (6, (.t (.var 40))), (5, (.t (.var 39))), (4, (.t (.var 38))), (3, (.r 37)), (2, (.t (.var 36))), (1, (.t (.var 13))), (7, (.r 10)), (0, (.r 12))], [((.lit (1)), (.lit (1))), ((.var 5), (.var 39)), ((.lit (0)), (.lit (0))), ((.lit (32)), (.lit (32))), ((.lit (32)), (.lit (32))), ((.lit (4)), (.lit (4))), ((.lit (0)), (.lit (0)))], [], []⟩ (.both (.fresh 41 (.fresh 42 (.fresh 43 (.fresh 44 (.fresh 45 (.post 4 0 ⟨0, [(8, (.t (.rcons (.vint .i64 (.var 0)) (.rcons (.vint .i64 (.var 1)) (.rcons (.vint .i64 (.var 2)) (.rcons (.vint .i64 (.var 3)) (.rcons (.vint .u8 (.c2 (.xint 0) (.var 4) (.lit (0)))) (.rcons (.vint .u8 (.c2 (.xint 1) (.var 4) (.lit (0)))) (.rcons (.vint .u8 (.c2 (.xint 2) (.var 4) (.lit (0)))) (.rcons (.vint .u8 (.c2 (.xint 3) (.var 4) (.lit (0)))) (.rcons (.vint .u8 (.c2 (.xint 4) (.var 4) (.lit (0)))) (.rcons (.vint .u8 (.c2 (.xint 5) (.var 4) (.lit (0)))) (.rcons (.vint .u8 (.c2 (.xint 6) (.var 4) (.lit (0)))) (.rcons (.vint .u8 (.c2 (.xint 7) (.var 4) (.lit (0)))) (.rcons (.vint .u8 (.c2 (.xint 8) (.var 4) (.lit (0)))) (.rcons (.vint .u8 (.c2 (.xint 9) (.var 4) (.lit (0)))) (.rcons (.vint .u8 (.c2 (.xint 10) (.var 4) (.lit (0)))) (.rcons (.vint .u8 (.c2 (.xint 11) (.var 4) (.lit (0)))) (.rcons (.vint .u8 (.c2 (.xint 12) (.var 4) (.lit (0)))) (.rcons (.vint .u8 (.c2 (.xint 13) (.var 4) (.lit (0)))) (.rcons (.vint .u8 (.c2 (.xint 14) (.var 4) (.lit (0)))) (.rcons (.vint .u8 (.c2 (.xint 15) (.var 4) (.lit (0)))) (.rcons (.vint .u8 (.c2 (.xint 16) (.var 4) (.lit (0)))) (.rcons (.vint .u8 (.c2 (.xint 17) (.var 4) (.lit (0)))) (.rcons (.vint .u8 (.c2 (.xint 18) (.var 4) (.lit (0)))) (.rcons (.vint .u8 (.c2 (.xint 19) (.var 4) (.lit (0)))) (.rcons (.vint .u8 (.c2 (.xint 20) (.var 4) (.lit (0)))) (.rcons (.vint .u8 (.c2 (.xint 21) (.var 4) (.lit (0)))) (.rcons (.vint .u8 (.c2 (.xint 22) (.var 4) (.lit (0)))) (.rcons (.vint .u8 (.c2 (.xint 23) (.var 4) (.lit (0)))) (.rcons (.vint .u8 (.c2 (.xint 24) (.var 4) (.lit (0)))) (.rcons (.vint .u8 (.c2 (.xint 25) (.var 4) (.lit (0)))) (.rcons (.vint .u8 (.c2 (.xint 26) (.var 4) (.lit (0)))) (.rcons (.vint .u8 (.c2 (.xint 27) (.var 4) (.lit (0)))) (.rcons (.vint .u8 (.c2 (.xint 28) (.var 4) (.lit (0)))) (.rcons (.vint .u8 (.c2 (.xint 29) (.var 4) (.lit (0)))) (.rcons (.vint .u8 (.c2 (.xint 30) (.var 4) (.lit (0)))) (.rcons (.vint .u8 (.c2 (.xint 31) (.var 4) (.lit (0)))) (.rcons (.vslice 5 (.lit (0)) (.var 6) (.var 7) 32) .rnil))))))))))))))))))))))))))))))))))))))), (6, (.t (.var 40))), (5, (.t (.var 39))), (4, (.t (.var 38))), (3, (.r 37)), (2, (.t (.var 36))), (1, (.t (.var 13))), (7, (.r 10)), (0, (.r 12))], [((.lit (1)), (.lit (1))), ((.var 5), (.var 39)), ((.lit (0)), (.lit (0))), ((.lit (32)), (.lit (32))), ((.lit (32)), (.lit (32))), ((.lit (4)), (.lit (4))), ((.lit (0)), (.lit (0)))], [], []⟩ 41 (.need (.cmp .leq (.lit (0)) (.var 6)) (.inv 0 46 ⟨1000, [(1006, (.t (.var 45))), (1005, (.t (.var 44))), (1004, (.t (.var 43))), (1003, (.r 42)), (1002, (.t (.var 41))), (1001, (.t (.var 13))), (1007, (.t (.lit (0)))), (1000, (.r 12))], [((.var 1005), (.var 44)), ((.lit (0)), (.lit (0))), ((.var 6), (.var 6)), ((.var 7), (.var 7)), ((.var 6), (.var 6)), ((.lit (0)), (.lit (0))), ((.lit (0)), (.lit (0)))], [], []⟩ (.fresh 46 (.fresh 47 (.fresh 48 (.fresh 49 (.fresh 50 (.fresh 51 (.fresh 52 (.fresh 53 (.hyp 0 46 (.br (.cmp .lss (.var 53) (.var 6))
 (.need (.cmp .leq (.lit (0)) (.var 53)) (.need (.cmp .lss (.var 53) (.dlen (.var 8))) (.fresh 54 (.pre 5 ⟨0, [(8, (.t (.rcons (.vint .u8 (.icell (.var 8) (.var 53) 0)) (.rcons (.vint .u8 (.icell (.var 8) (.var 53) 1)) (.rcons (.vint .u8 (.icell (.var 8) (.var 53) 2)) (.rcons (.vint .u8 (.icell (.var 8) (.var 53) 3)) (.rcons (.vint .u8 (.icell (.var 8) (.var 53) 4)) (.rcons (.vint .u8 (.icell (.var 8) (.var 53) 5)) (.rcons (.vint .u8 (.icell (.var 8) (.var 53) 6)) (.rcons (.vint .u8 (.icell (.var 8) (.var 53) 7)) (.rcons (.vint .u8 (.icell (.var 8) (.var 53) 8)) (.rcons (.vint .u8 (.icell (.var 8) (.var 53) 9)) (.rcons (.vint .u8 (.icell (.var 8) (.var 53) 10)) (.rcons (.vint .u8 (.icell (.var 8) (.var 53) 11)) (.rcons (.vint .u8 (.icell (.var 8) (.var 53) 12)) (.rcons (.vint .u8 (.icell (.var 8) (.var 53) 13)) (.rcons (.vint .u8 (.icell (.var 8) (.var 53) 14)) (.rcons (.vint .u8 (.icell (.var 8) (.var 53) 15)) (.rcons (.vint .u8 (.icell (.var 8) (.var 53) 16)) (.rcons (.vint .u8 (.icell (.var 8) (.var 53) 17)) (.rcons (.vint .u8 (.icell (.var 8) (.var 53) 18)) (.rcons (.vint .u8 (.icell (.var 8) (.var 53) 19)) (.rcons (.vint .u8 (.icell (.var 8) (.var 53) 20)) (.rcons (.vint .u8 (.icell (.var 8) (.var 53) 21)) (.rcons (.vint .u8 (.icell (.var 8) (.var 53) 22)) (.rcons (.vint .u8 (.icell (.var 8) (.var 53) 23)) (.rcons (.vint .u8 (.icell (.var 8) (.var 53) 24)) (.rcons (.vint .u8 (.icell (.var 8) (.var 53) 25)) (.rcons (.vint .u8 (.icell (.var 8) (.var 53) 26)) (.rcons (.vint .u8 (.icell (.var 8) (.var 53) 27)) (.rcons (.vint .u8 (.icell (.var 8) (.var 53) 28)) (.rcons (.vint .u8 (.icell (.var 8) (.var 53) 29)) (.rcons (.vint .u8 (.icell (.var 8) (.var 53) 30)) (.rcons (.vint .u8 (.icell (.var 8) (.var 53) 31)) .rnil)))))))))))))))))))))))))))))))))), (6, (.t (.var 52))), (5, (.t (.var 51))), (4, (.t (.var 50))), (3, (.r 49)), (2, (.t (.var 48))), (1, (.t (.var 47))), (7, (.r 54)), (0, (.r 46))], [((.lit (1)), (.lit (1))), ((.var 5), (.var 51)), ((.lit (0)), (.lit (0))), ((.lit (32)), (.lit (32))), ((.lit (32)), (.lit (32))), ((.lit (0)), (.lit (0))), ((.lit (0)), (.lit (0)))], [], []⟩ (.both (.fresh 55 (.fresh 56 (.fresh 57 (.fresh 58 (.fresh 59 (.post 5 0 ⟨0, [(8, (.t (.rcons (.vint .u8 (.icell (.var 8) (.var 53) 0)) (.rcons (.vint .u8 (.icell (.var 8) (.var 53) 1)) (.rcons (.vint .u8 (.icell (.var 8) (.var 53) 2)) (.rcons (.vint .u8 (.icell (.var 8) (.var 53) 3)) (.rcons (.vint .u8 (.icell (.var 8) (.var 53) 4)) (.rcons (.vint .u8 (.icell (.var 8) (.var 53) 5)) (.rcons (.vint .u8 (.icell (.var 8) (.var 53) 6)) (.rcons (.vint .u8 (.icell (.var 8) (.var 53) 7)) (.rcons (.vint .u8 (.icell (.var 8) (.var 53) 8)) (.rcons (.vint .u8 (.icell (.var 8) (.var 53) 9)) (.rcons (.vint .u8 (.icell (.var 8) (.var 53) 10)) (.rcons (.vint .u8 (.icell (.var 8) (.var 53) 11)) (.rcons (.vint .u8 (.icell (.var 8) (.var 53) 12)) (.rcons (.vint .u8 (.icell (.var 8) (.var 53) 13)) (.rcons (.vint .u8 (.icell (.var 8) (.var 53) 14)) (.rcons (.vint .u8 (.icell (.var 8) (.var 53) 15)) (.rcons (.vint .u8 (.icell (.var 8) (.var 53) 16)) (.rcons (.vint .u8 (.icell (.var 8) (.var 53) 17)) (.rcons (.vint .u8 (.icell (.var 8) (.var 53) 18)) (.rcons (.vint .u8 (.icell (.var 8) (.var 53) 19)) (.rcons (.vint .u8 (.icell (.var 8) (.var 53) 20)) (.rcons (.vint .u8 (.icell (.var 8) (.var 53) 21)) (.rcons (.vint .u8 (.icell (.var 8) (.var 53) 22)) (.rcons (.vint .u8 (.icell (.var 8) (.var 53) 23)) (.rcons (.vint .u8 (.icell (.var 8) (.var 53) 24)) (.rcons (.vint .u8 (.icell (.var 8) (.var 53) 25)) (.rcons (.vint .u8 (.icell (.var 8) (.var 53) 26)) (.rcons (.vint .u8 (.icell (.var 8) (.var 53) 27)) (.rcons (.vint .u8 (.icell (.var 8) (.var 53) 28)) (.rcons (.vint .u8 (.icell (.var 8) (.var 53) 29)) (.rcons (.vint .u8 (.icell (.var 8) (.var 53) 30)) (.rcons (.vint .u8 (.icell (.var 8) (.var 53) 31)) .rnil)))))))))))))))))))))))))))))))))), (6, (.t (.var 52))), (5, (.t (.var 51))), (4, (.t (.var 50))), (3, (.r 49)), (2, (.t (.var 48))), (1, (.t (.var 47))), (7, (.r 54)), (0, (.r 46))], [((.lit (1)), (.lit (1))), ((.var 5), (.var 51)), ((.lit (0)), (.lit (0))), ((.lit (32)), (.lit (32))), ((.lit (32)), (.lit (32))), ((.lit (0)), (.lit (0))), ((.lit (0)), (.lit (0)))], [], []⟩ 55 (.back 0 46 ⟨1000, [(1006, (.t (.var 59))), (1005, (.t (.var 58))), (1004, (.t (.var 57))), (1003, (.r 56)), (1002, (.t (.var 55))), (1001, (.t (.var 47))), (1007, (.t (.arith .add .i64 (.var 53) (.lit (1))))), (1000, (.r 46))], [((.var 1005), (.var 58)), ((.lit (0)), (.lit (0))), ((.var 6), (.var 6)), ((.var 7), (.var 7)), ((.var 6), (.var 6)), ((.lit (0)), (.lit (0))), ((.lit (0)), (.lit (0)))], [], []⟩))))))) .top)))))
 (.pre 6 ⟨0, [(6, (.t (.var 52))), (5, (.t (.var 51))), (4, (.t (.var 50))), (3, (.r 49)), (2, (.t (.var 48))), (1, (.t (.var 47))), (0, (.r 46))], [((.var 5), (.var 51)), ((.lit (0)), (.lit (0))), ((.lit (0)), (.lit (0)))], [], []⟩ (.both (.post 6 0 ⟨0, [(6, (.t (.var 52))), (5, (.t (.var 51))), (4, (.t (.var 50))), (3, (.r 49)), (2, (.t (.var 48))), (1, (.t (.var 47))), (0, (.r 46))], [((.var 5), (.var 51)), ((.lit (0)), (.lit (0))), ((.lit (0)), (.lit (0)))], [], []⟩ 54 (.stuck 7 0 0)) (.both (.fresh 54 (.fresh 55 (.fresh 56 (.fresh 57 (.post 6 1 ⟨0, [(6, (.t (.var 52))), (5, (.t (.var 51))), (4, (.t (.var 50))), (3, (.r 49)), (2, (.t (.var 48))), (1, (.t (.var 47))), (0, (.r 46))], [((.var 5), (.var 51)), ((.lit (0)), (.lit (0))), ((.lit (0)), (.lit (0)))], [], []⟩ 54 (.ret 1 ⟨10, [(13, (.t (.var 56))), (12, (.t (.var 55))), (11, (.t (.var 50))), (10, (.r 54))], [((.var 12), (.var 55)), ((.lit (0)), (.lit (0))), ((.lit (0)), (.lit (0)))], [], []⟩)))))) .top))))))))))))))))))))) .top)))))))) .top)))))))) .top)))))))) .top)))))))) .top)))))))) .top))))))) .top))))) .top)))
theorem o_encMan_eq : treeOf ⟨Tryd.prog, encManC, [checkMC, newWriterC, u8C, u16C, rawMC, raw32C, bytesC], [encManI]⟩ 100000 Tryd.f28 = o_encMan := by kernel_rfl
theorem encMan_of (hd : ∀ c ∈ ([checkMC, newWriterC, u8C, u16C, rawMC, raw32C, bytesC] : List Ctr), c.ok Tryd.prog) (h : ∀ ρ : Env, ρ.good → (encManC).pre ρ → o_encMan.den ⟨Tryd.prog, encManC, [checkMC, newWriterC, u8C, u16C, rawMC, raw32C, bytesC], [encManI]⟩ ρ) : (encManC).ok Tryd.prog :=
  ok_of_tree Tryd.func28 (fun a w => Tryd.call28 a w) hd 100000 (fun ρ hg hp => by rw [o_encMan_eq]; exact h ρ hg hp)
def o_make : Out := (.fresh 12 (.br (.and (.cmp .eql (.dlen (.var 1)) (.lit (0))) (.isnil 0))
 (.ret 0 ⟨12, [(13, (.t (.var 1))), (12, (.t (.lit (1))))], [((.lit (1)), (.lit (1))), ((.lit (0)), (.lit (0))), ((.lit (0)), (.lit (0))), ((.lit (0)), (.lit (0))), ((.lit (0)), (.lit (0))), ((.lit (0)), (.lit (0))), ((.lit (0)), (.lit (0))), ((.lit (0)), (.lit (0))), ((.lit (0)), (.lit (0))), ((.lit (0)), (.lit (0))), ((.lit (0)), (.lit (0))), ((.lit (0)), (.lit (0))), ((.lit (0)), (.lit (0))), ((.lit (0)), (.lit (0))), ((.lit (0)), (.lit (0))), ((.lit (0)), (.lit (0))), ((.lit (0)), (.lit (0))), ((.lit (0)), (.lit (0))), ((.lit (0)), (.lit (0))), ((.lit (0)), (.lit (0))), ((.lit (0)), (.lit (0))), ((.lit (0)), (.lit (0))), ((.lit (0)), (.lit (0))), ((.lit (0)), (.lit (0))), ((.lit (0)), (.lit (0))), ((.lit (0)), (.lit (0))), ((.lit (0)), (.lit (0))), ((.lit (0)), (.lit (0))), ((.lit (0)), (.lit (0))), ((.lit (0)), (.lit (0))), ((.lit (0)), (.lit (0))), ((.lit (0)), (.lit (0))), ((.lit (0)), (.lit (0))), ((.lit (0)), (.lit (0))), ((.lit (0)), (.lit (0))), ((.lit (0)), (.lit (0))), ((.lit (0)), (.lit (0)))], [], []⟩)
 (.pre 0 ⟨0, [(2, (.t (.var 4))), (1, (.t (.var 3))), (0, (.t (.var 2)))], [], [], []⟩ (.both (.fresh 13 (.post 0 0 ⟨0, [(2, (.t (.var 4))), (1, (.t (.var 3))), (0, (.t (.var 2)))], [], [], []⟩ 13 (.br (.not (.var 13))
 (.ret 0 ⟨12, [(13, (.t (.var 1))), (12, (.t (.lit (2))))], [((.lit (1)), (.lit (1))), ((.lit (0)), (.lit (0))), ((.lit (0)), (.lit (0))), ((.lit (0)), (.lit (0))), ((.lit (0)), (.lit (0))), ((.lit (0)), (.lit (0))), ((.lit (0)), (.lit (0))), ((.lit (0)), (.lit (0))), ((.lit (0)), (.lit (0))), ((.lit (0)), (.lit (0))), ((.lit (0)), (.lit (0))), ((.lit (0)), (.lit (0))), ((.lit (0)), (.lit (0))), ((.lit (0)), (.lit (0))), ((.lit (0)), (.lit (0))), ((.lit (0)), (.lit (0))), ((.lit (0)), (.lit (0))), ((.lit (0)), (.lit (0))), ((.lit (0)), (.lit (0))), ((.lit (0)), (.lit (0))), ((.lit (0)), (.lit (0))), ((.lit (0)), (.lit (0))), ((.lit (0)), (.lit (0))), ((.lit (0)), (.lit (0))), ((.lit (0)), (.lit (0))), ((.lit (0)), (.lit (0))), ((.lit (0)), (.lit (0))), ((.lit (0)), (.lit (0))), ((.lit (0)), (.lit (0))), ((.lit (0)), (.lit (0))), ((.lit (0)), (.lit (0))), ((.lit (0)), (.lit (0))), ((.lit (0)), (.lit (0))), ((.lit (0)), (.lit (0))), ((.lit (0)), (.lit (0))), ((.lit (0)), (.lit (0))), ((.lit (0)), (.lit (0)))], [], []⟩)
 (.pre 1 ⟨0, [(8, (.t (.var 9))), (7, (.t (.var 8))), (1, (.t (.var 1))), (6, (.t (.var 7))), (5, (.t (.var 6))), (4, (.r 5)), (3, (.t (.var 4))), (2, (.t (.var 2))), (0, (.r 0))], [((.lit (1)), (.lit (1))), ((.lit (0)), (.lit (0))), ((.lit (0)), (.lit (0)))], [], []⟩ (.both (.fresh 14 (.fresh 15 (.post 1 0 ⟨0, [(8, (.t (.var 9))), (7, (.t (.var 8))), (1, (.t (.var 1))), (6, (.t (.var 7))), (5, (.t (.var 6))), (4, (.r 5)), (3, (.t (.var 4))), (2, (.t (.var 2))), (0, (.r 0))], [((.lit (1)), (.lit (1))), ((.lit (0)), (.lit (0))), ((.lit (0)), (.lit (0)))], [], []⟩ 14 (.br (.cmp .neq (.var 14) (.lit (0)))
 (.ret 0 ⟨12, [(13, (.t (.var 15))), (12, (.t (.var 14)))], [((.lit (1)), (.lit (1))), ((.lit (0)), (.lit (0))), ((.lit (0)), (.lit (0))), ((.lit (0)), (.lit (0))), ((.lit (0)), (.lit (0))), ((.lit (0)), (.lit (0))), ((.lit (0)), (.lit (0))), ((.lit (0)), (.lit (0))), ((.lit (0)), (.lit (0))), ((.lit (0)), (.lit (0))), ((.lit (0)), (.lit (0))), ((.lit (0)), (.lit (0))), ((.lit (0)), (.lit (0))), ((.lit (0)), (.lit (0))), ((.lit (0)), (.lit (0))), ((.lit (0)), (.lit (0))), ((.lit (0)), (.lit (0))), ((.lit (0)), (.lit (0))), ((.lit (0)), (.lit (0))), ((.lit (0)), (.lit (0))), ((.lit (0)), (.lit (0))), ((.lit (0)), (.lit (0))), ((.lit (0)), (.lit (0))), ((.lit (0)), (.lit (0))), ((.lit (0)), (.lit (0))), ((.lit (0)), (.lit (0))), ((.lit (0)), (.lit (0))), ((.lit (0)), (.lit (0))), ((.lit (0)), (.lit (0))), ((.lit (0)), (.lit (0))), ((.lit (0)), (.lit (0))), ((.lit (0)), (.lit (0))), ((.lit (0)), (.lit (0))), ((.lit (0)), (.lit (0))), ((.lit (0)), (.lit (0))), ((.lit (0)), (.lit (0))), ((.lit (0)), (.lit (0)))], [], []⟩)
 (.need (.cmp .leq (.lit (0)) (.var 6)) (.pre 2 ⟨0, [(7, (.t (.var 11))), (5, (.t (.var 9))), (4, (.t (.var 8))), (3, (.t (.var 7))), (2, (.t (.var 6))), (1, (.t (.lit (0)))), (0, (.r 5)), (6, (.r 10))], [((.lit (1)), (.lit (1)))], [], []⟩ (.both (.fresh 16 (.post 2 0 ⟨0, [(7, (.t (.var 11))), (5, (.t (.var 9))), (4, (.t (.var 8))), (3, (.t (.var 7))), (2, (.t (.var 6))), (1, (.t (.lit (0)))), (0, (.r 5)), (6, (.r 10))], [((.lit (1)), (.lit (1)))], [], []⟩ 16 (.fresh 17 (.pack [] 18 (.need (.cmp .eql (.var 4) (.lit (0))) (.inv 0 19 ⟨1000, [(1011, (.r 18)), (1008, (.t .dnil)), (1007, (.t .dnil)), (1006, (.t (.lit (0)))), (1004, .nil), (1003, (.t (.rcons (.vint .u8 (.c2 (.xint 0) (.var 16) (.lit (0)))) (.rcons (.vint .u8 (.c2 (.xint 1) (.var 16) (.lit (0)))) (.rcons (.vint .u8 (.c2 (.xint 2) (.var 16) (.lit (0)))) (.rcons (.vint .u8 (.c2 (.xint 3) (.var 16) (.lit (0)))) (.rcons (.vint .u8 (.c2 (.xint 4) (.var 16) (.lit (0)))) (.rcons (.vint .u8 (.c2 (.xint 5) (.var 16) (.lit (0)))) (.rcons (.vint .u8 (.c2 (.xint 6) (.var 16) (.lit (0)))) (.rcons (.vint .u8 (.c2 (.xint 7) (.var 16) (.lit (0)))) (.rcons (.vint .u8 (.c2 (.xint 8) (.var 16) (.lit (0)))) (.rcons (.vint .u8 (.c2 (.xint 9) (.var 16) (.lit (0)))) (.rcons (.vint .u8 (.c2 (.xint 10) (.var 16) (.lit (0)))) (.rcons (.vint .u8 (.c2 (.xint 11) (.var 16) (.lit (0)))) (.rcons (.vint .u8 (.c2 (.xint 12) (.var 16) (.lit (0)))) (.rcons (.vint .u8 (.c2 (.xint 13) (.var 16) (.lit (0)))) (.rcons (.vint .u8 (.c2 (.xint 14) (.var 16) (.lit (0)))) (.rcons (.vint .u8 (.c2 (.xint 15) (.var 16) (.lit (0)))) (.rcons (.vint .u8 (.c2 (.xint 16) (.var 16) (.lit (0)))) (.rcons (.vint .u8 (.c2 (.xint 17) (.var 16) (.lit (0)))) (.rcons (.vint .u8 (.c2 (.xint 18) (.var 16) (.lit (0)))) (.rcons (.vint .u8 (.c2 (.xint 19) (.var 16) (.lit (0)))) (.rcons (.vint .u8 (.c2 (.xint 20) (.var 16) (.lit (0)))) (.rcons (.vint .u8 (.c2 (.xint 21) (.var 16) (.lit (0)))) (.rcons (.vint .u8 (.c2 (.xint 22) (.var 16) (.lit (0)))) (.rcons (.vint .u8 (.c2 (.xint 23) (.var 16) (.lit (0)))) (.rcons (.vint .u8 (.c2 (.xint 24) (.var 16) (.lit (0)))) (.rcons (.vint .u8 (.c2 (.xint 25) (.var 16) (.lit (0)))) (.rcons (.vint .u8 (.c2 (.xint 26) (.var 16) (.lit (0)))) (.rcons (.vint .u8 (.c2 (.xint 27) (.var 16) (.lit (0)))) (.rcons (.vint .u8 (.c2 (.xint 28) (.var 16) (.lit (0)))) (.rcons (.vint .u8 (.c2 (.xint 29) (.var 16) (.lit (0)))) (.rcons (.vint .u8 (.c2 (.xint 30) (.var 16) (.lit (0)))) (.rcons (.vint .u8 (.c2 (.xint 31) (.var 16) (.lit (0)))) .rnil)))))))))))))))))))))))))))))))))), (1010, (.t (.var 15))), (1005, (.t (.lit (0)))), (1002, (.r 17)), (1009, (.t (.lit (0)))), (1001, .nil), (1000, (.r 12))], [((.var 1009), (.lit (0))), ((.var 1006), (.lit (0))), ((.var 1005), (.lit (0))), ((.lit (0)), (.lit (0))), ((.var 6), (.var 6)), ((.var 4), (.var 4)), ((.var 3), (.var 3)), ((.var 2), (.var 2)), ((.lit (0)), (.lit (0))), ((.lit (0)), (.lit (0))), ((.lit (0)), (.lit (0))), ((.lit (0)), (.lit (0))), ((.lit (0)), (.lit (0))), ((.lit (0)), (.lit (0))), ((.lit (0)), (.lit (0))), ((.lit (0)), (.lit (0))), ((.lit (0)), (.lit (0))), ((.lit (0)), (.lit (0))), ((.lit (0)), (.lit (0))), ((.lit (0)), (.lit (0))), ((.lit (0)), (.lit (0))), ((.lit (0)), (.lit (0))), ((.lit (0)), (.lit (0))), ((.lit (0)), (.lit (0))), ((.lit (0)), (.lit (0))), ((.lit (0)), (.lit (0))), ((.lit (0)), (.lit (0))), ((.lit (0)), (.lit (0))), ((.lit (0)), (.lit (0))), ((.lit (0)), (.lit (0))), ((.lit (0)), (.lit (0))), ((.lit (0)), (.lit (0))), ((.lit (0)), (.lit (0))), ((.lit (0)), (.lit (0))), ((.lit (0)), (.lit (0))), ((.lit (0)), (.lit (0))), ((.lit (0)), (.lit (0))), ((.lit (0)), (.lit (0))), ((.lit (0)), (.lit (0))), ((.lit (0)), (.lit (0))), ((.lit (0)), (.lit (0))), ((.lit (0)), (.lit (0))), ((.lit (0)), (.lit (0))), ((.lit (0)), (.lit (0))), ((.lit (1)), (.lit (1))), ((.var 4), (.lit (0))), ((.var 1009), (.lit (0))), ((.var 4), (.lit (0))), ((.lit (0)), (.lit (0))), ((.var 4), (.lit (0))), ((.lit (0)), (.lit (0))), ((.lit (0)), (.lit (0)))], [], []⟩ (.fresh 19 (.fresh 20 (.fresh 21 (.fresh 22 (.fresh 23 (.fresh 24 (.fresh 25 (.fresh 26 (.fresh 27 (.fresh 28 (.fresh 29 (.fresh 30 (.hyp 0 19 (.br (.cmp .lss (.var 24) (.var 4))
 (.need (.cmp .leq (.lit (0)) (.var 24)) (.need (.cmp .lss (.var 24) (.dlen (.var 27))) (.fresh 31 (.both (.viewL (.vcell (.var 27) (.var 24) 1) [CK.int .u8] [30] 32 (.pre 3 ⟨0, [(8, (.t (.var 11))), (6, (.t (.var 33))), (5, (.t (.var 34))), (4, (.t (.var 33))), (3, (.t (.dlen (.var 34)))), (2, (.t (.lit (0)))), (1, (.r 32)), (0, (.t (.icell (.var 27) (.var 24) 0))), (7, (.r 10))], [((.lit (1)), (.lit (1)))], [], []⟩ (.both (.fresh 35 (.post 3 0 ⟨0, [(8, (.t (.var 11))), (6, (.t (.var 33))), (5, (.t (.var 34))), (4, (.t (.var 33))), (3, (.t (.dlen (.var 34)))), (2, (.t (.lit (0)))), (1, (.r 32)), (0, (.t (.icell (.var 27) (.var 24) 0))), (7, (.r 10))], [((.lit (1)), (.lit (1)))], [], []⟩ 35 (.both (.fresh 36 (.both (.need (.cmp .eql (.var 24) (.dlen (.var 26))) (.need (.cmp .leq (.tims (.lit (32)) (.plus (.var 24) (.lit (1)))) (.lit (140737488355328))) (.fresh 37 (.fresh 38 (.both (.both (.pack [.cells 36 24 [(.vint .u8 (.c2 (.xint 0) (.var 35) (.lit (0)))), (.vint .u8 (.c2 (.xint 1) (.var 35) (.lit (0)))), (.vint .u8 (.c2 (.xint 2) (.var 35) (.lit (0)))), (.vint .u8 (.c2 (.xint 3) (.var 35) (.lit (0)))), (.vint .u8 (.c2 (.xint 4) (.var 35) (.lit (0)))), (.vint .u8 (.c2 (.xint 5) (.var 35) (.lit (0)))), (.vint .u8 (.c2 (.xint 6) (.var 35) (.lit (0)))), (.vint .u8 (.c2 (.xint 7) (.var 35) (.lit (0)))), (.vint .u8 (.c2 (.xint 8) (.var 35) (.lit (0)))), (.vint .u8 (.c2 (.xint 9) (.var 35) (.lit (0)))), (.vint .u8 (.c2 (.xint 10) (.var 35) (.lit (0)))), (.vint .u8 (.c2 (.xint 11) (.var 35) (.lit (0)))), (.vint .u8 (.c2 (.xint 12) (.var 35) (.lit (0)))), (.vint .u8 (.c2 (.xint 13) (.var 35) (.lit (0)))), (.vint .u8 (.c2 (.xint 14) (.var 35) (.lit (0)))), (.vint .u8 (.c2 (.xint 15) (.var 35) (.lit (0)))), (.vint .u8 (.c2 (.xint 16) (.var 35) (.lit (0)))), (.vint .u8 (.c2 (.xint 17) (.var 35) (.lit (0)))), (.vint .u8 (.c2 (.xint 18) (.var 35) (.lit (0)))), (.vint .u8 (.c2 (.xint 19) (.var 35) (.lit (0)))), (.vint .u8 (.c2 (.xint 20) (.var 35) (.lit (0)))), (.vint .u8 (.c2 (.xint 21) (.var 35) (.lit (0)))), (.vint .u8 (.c2 (.xint 22) (.var 35) (.lit (0)))), (.vint .u8 (.c2 (.xint 23) (.var 35) (.lit (0)))), (.vint .u8 (.c2 (.xint 24) (.var 35) (.lit (0)))), (.vint .u8 (.c2 (.xint 25) (.var 35) (.lit (0)))), (.vint .u8 (.c2 (.xint 26) (.var 35) (.lit (0)))), (.vint .u8 (.c2 (.xint 27) (.var 35) (.lit (0)))), (.vint .u8 (.c2 (.xint 28) (.var 35) (.lit (0)))), (.vint .u8 (.c2 (.xint 29) (.var 35) (.lit (0)))), (.vint .u8 (.c2 (.xint 30) (.var 35) (.lit (0)))), (.vint .u8 (.c2 (.xint 31) (.var 35) (.lit (0))))], .cells 31 45 [(.vint .i64 (.icell (.var 27) (.var 24) 0)), (.vcell (.var 27) (.var 24) 1)], .abs 30 2] 39 (.need (.cmp .eql (.arith .add .i64 (.var 24) (.lit (1))) (.plus (.var 24) (.lit (1)))) (.back 0 19 ⟨1000, [(1011, (.r 39)), (1008, (.t (.var 27))), (1007, (.t (.dapp (.var 26) (.rcons (.vint .u8 (.c2 (.xint 0) (.var 35) (.lit (0)))) (.rcons (.vint .u8 (.c2 (.xint 1) (.var 35) (.lit (0)))) (.rcons (.vint .u8 (.c2 (.xint 2) (.var 35) (.lit (0)))) (.rcons (.vint .u8 (.c2 (.xint 3) (.var 35) (.lit (0)))) (.rcons (.vint .u8 (.c2 (.xint 4) (.var 35) (.lit (0)))) (.rcons (.vint .u8 (.c2 (.xint 5) (.var 35) (.lit (0)))) (.rcons (.vint .u8 (.c2 (.xint 6) (.var 35) (.lit (0)))) (.rcons (.vint .u8 (.c2 (.xint 7) (.var 35) (.lit (0)))) (.rcons (.vint .u8 (.c2 (.xint 8) (.var 35) (.lit (0)))) (.rcons (.vint .u8 (.c2 (.xint 9) (.var 35) (.lit (0)))) (.rcons (.vint .u8 (.c2 (.xint 10) (.var 35) (.lit (0)))) (.rcons (.vint .u8 (.c2 (.xint 11) (.var 35) (.lit (0)))) (.rcons (.vint .u8 (.c2 (.xint 12) (.var 35) (.lit (0)))) (.rcons (.vint .u8 (.c2 (.xint 13) (.var 35) (.lit (0)))) (.rcons (.vint .u8 (.c2 (.xint 14) (.var 35) (.lit (0)))) (.rcons (.vint .u8 (.c2 (.xint 15) (.var 35) (.lit (0)))) (.rcons (.vint .u8 (.c2 (.xint 16) (.var 35) (.lit (0)))) (.rcons (.vint .u8 (.c2 (.xint 17) (.var 35) (.lit (0)))) (.rcons (.vint .u8 (.c2 (.xint 18) (.var 35) (.lit (0)))) (.rcons (.vint .u8 (.c2 (.xint 19) (.var 35) (.lit (0)))) (.rcons (.vint .u8 (.c2 (.xint 20) (.var 35) (.lit (0)))) (.rcons (.vint .u8 (.c2 (.xint 21) (.var 35) (.lit (0)))) (.rcons (.vint .u8 (.c2 (.xint 22) (.var 35) (.lit (0)))) (.rcons (.vint .u8 (.c2 (.xint 23) (.var 35) (.lit (0)))) (.rcons (.vint .u8 (.c2 (.xint 24) (.var 35) (.lit (0)))) (.rcons (.vint .u8 (.c2 (.xint 25) (.var 35) (.lit (0)))) (.rcons (.vint .u8 (.c2 (.xint 26) (.var 35) (.lit (0)))) (.rcons (.vint .u8 (.c2 (.xint 27) (.var 35) (.lit (0)))) (.rcons (.vint .u8 (.c2 (.xint 28) (.var 35) (.lit (0)))) (.rcons (.vint .u8 (.c2 (.xint 29) (.var 35) (.lit (0)))) (.rcons (.vint .u8 (.c2 (.xint 30) (.var 35) (.lit (0)))) (.rcons (.vint .u8 (.c2 (.xint 31) (.var 35) (.lit (0)))) .rnil))))))))))))))))))))))))))))))))))), (1006, (.t (.var 38))), (1004, (.r 37)), (1003, (.t (.rcons (.vint .u8 (.c2 (.xint 0) (.var 22) (.lit (0)))) (.rcons (.vint .u8 (.c2 (.xint 1) (.var 22) (.lit (0)))) (.rcons (.vint .u8 (.c2 (.xint 2) (.var 22) (.lit (0)))) (.rcons (.vint .u8 (.c2 (.xint 3) (.var 22) (.lit (0)))) (.rcons (.vint .u8 (.c2 (.xint 4) (.var 22) (.lit (0)))) (.rcons (.vint .u8 (.c2 (.xint 5) (.var 22) (.lit (0)))) (.rcons (.vint .u8 (.c2 (.xint 6) (.var 22) (.lit (0)))) (.rcons (.vint .u8 (.c2 (.xint 7) (.var 22) (.lit (0)))) (.rcons (.vint .u8 (.c2 (.xint 8) (.var 22) (.lit (0)))) (.rcons (.vint .u8 (.c2 (.xint 9) (.var 22) (.lit (0)))) (.rcons (.vint .u8 (.c2 (.xint 10) (.var 22) (.lit (0)))) (.rcons (.vint .u8 (.c2 (.xint 11) (.var 22) (.lit (0)))) (.rcons (.vint .u8 (.c2 (.xint 12) (.var 22) (.lit (0)))) (.rcons (.vint .u8 (.c2 (.xint 13) (.var 22) (.lit (0)))) (.rcons (.vint .u8 (.c2 (.xint 14) (.var 22) (.lit (0)))) (.rcons (.vint .u8 (.c2 (.xint 15) (.var 22) (.lit (0)))) (.rcons (.vint .u8 (.c2 (.xint 16) (.var 22) (.lit (0)))) (.rcons (.vint .u8 (.c2 (.xint 17) (.var 22) (.lit (0)))) (.rcons (.vint .u8 (.c2 (.xint 18) (.var 22) (.lit (0)))) (.rcons (.vint .u8 (.c2 (.xint 19) (.var 22) (.lit (0)))) (.rcons (.vint .u8 (.c2 (.xint 20) (.var 22) (.lit (0)))) (.rcons (.vint .u8 (.c2 (.xint 21) (.var 22) (.lit (0)))) (.rcons (.vint .u8 (.c2 (.xint 22) (.var 22) (.lit (0)))) (.rcons (.vint .u8 (.c2 (.xint 23) (.var 22) (.lit (0)))) (.rcons (.vint .u8 (.c2 (.xint 24) (.var 22) (.lit (0)))) (.rcons (.vint .u8 (.c2 (.xint 25) (.var 22) (.lit (0)))) (.rcons (.vint .u8 (.c2 (.xint 26) (.var 22) (.lit (0)))) (.rcons (.vint .u8 (.c2 (.xint 27) (.var 22) (.lit (0)))) (.rcons (.vint .u8 (.c2 (.xint 28) (.var 22) (.lit (0)))) (.rcons (.vint .u8 (.c2 (.xint 29) (.var 22) (.lit (0)))) (.rcons (.vint .u8 (.c2 (.xint 30) (.var 22) (.lit (0)))) (.rcons (.vint .u8 (.c2 (.xint 31) (.var 22) (.lit (0)))) .rnil)))))))))))))))))))))))))))))))))), (1010, (.t (.var 29))), (1005, (.t (.arith .add .i64 (.var 24) (.lit (1))))), (1002, (.r 21)), (1009, (.t (.var 28))), (1001, (.r 20)), (1000, (.r 19))], [((.var 1009), (.var 28)), ((.var 1006), (.var 38)), ((.var 1005), (.plus (.var 24) (.lit (1)))), ((.lit (0)), (.lit (0))), ((.var 6), (.var 6)), ((.var 4), (.var 4)), ((.var 3), (.var 3)), ((.var 2), (.var 2)), ((.lit (0)), (.lit (0))), ((.lit (0)), (.lit (0))), ((.lit (0)), (.lit (0))), ((.lit (0)), (.lit (0))), ((.lit (0)), (.lit (0))), ((.lit (0)), (.lit (0))), ((.lit (0)), (.lit (0))), ((.lit (0)), (.lit (0))), ((.lit (0)), (.lit (0))), ((.lit (0)), (.lit (0))), ((.lit (0)), (.lit (0))), ((.lit (0)), (.lit (0))), ((.lit (0)), (.lit (0))), ((.lit (0)), (.lit (0))), ((.lit (0)), (.lit (0))), ((.lit (0)), (.lit (0))), ((.lit (0)), (.lit (0))), ((.lit (0)), (.lit (0))), ((.lit (0)), (.lit (0))), ((.lit (0)), (.lit (0))), ((.lit (0)), (.lit (0))), ((.lit (0)), (.lit (0))), ((.lit (0)), (.lit (0))), ((.lit (0)), (.lit (0))), ((.lit (0)), (.lit (0))), ((.lit (0)), (.lit (0))), ((.lit (0)), (.lit (0))), ((.lit (0)), (.lit (0))), ((.lit (0)), (.lit (0))), ((.lit (0)), (.lit (0))), ((.lit (0)), (.lit (0))), ((.lit (0)), (.lit (0))), ((.lit (0)), (.lit (0))), ((.lit (0)), (.lit (0))), ((.lit (0)), (.lit (0))), ((.lit (0)), (.lit (0))), ((.lit (1)), (.lit (1))), ((.var 4), (.var 4)), ((.var 1009), (.var 28)), ((.var 4), (.var 4)), ((.lit (0)), (.lit (0))), ((.lit (0)), (.lit (0))), ((.var 4), (.var 4)), ((.lit (0)), (.lit (0))), ((.lit (0)), (.lit (0))), ((.lit (0)), (.lit (0)))], [], []⟩))) .top) .top))))) .top)) .top))) .top))) .top))))
 (.pack [.cells 19 27 [(.vint .i64 (.var 2)), (.vint .i64 (.var 3)), (.vint .i64 (.var 4)), (.vint .i64 (.var 6)), (.vint .u8 (.c2 (.xint 0) (.var 22) (.lit (0)))), (.vint .u8 (.c2 (.xint 1) (.var 22) (.lit (0)))), (.vint .u8 (.c2 (.xint 2) (.var 22) (.lit (0)))), (.vint .u8 (.c2 (.xint 3) (.var 22) (.lit (0)))), (.vint .u8 (.c2 (.xint 4) (.var 22) (.lit (0)))), (.vint .u8 (.c2 (.xint 5) (.var 22) (.lit (0)))), (.vint .u8 (.c2 (.xint 6) (.var 22) (.lit (0)))), (.vint .u8 (.c2 (.xint 7) (.var 22) (.lit (0)))), (.vint .u8 (.c2 (.xint 8) (.var 22) (.lit (0)))), (.vint .u8 (.c2 (.xint 9) (.var 22) (.lit (0)))), (.vint .u8 (.c2 (.xint 10) (.var 22) (.lit (0)))), (.vint .u8 (.c2 (.xint 11) (.var 22) (.lit (0)))), (.vint .u8 (.c2 (.xint 12) (.var 22) (.lit (0)))), (.vint .u8 (.c2 (.xint 13) (.var 22) (.lit (0)))), (.vint .u8 (.c2 (.xint 14) (.var 22) (.lit (0)))), (.vint .u8 (.c2 (.xint 15) (.var 22) (.lit (0)))), (.vint .u8 (.c2 (.xint 16) (.var 22) (.lit (0)))), (.vint .u8 (.c2 (.xint 17) (.var 22) (.lit (0)))), (.vint .u8 (.c2 (.xint 18) (.var 22) (.lit (0)))), (.vint .u8 (.c2 (.xint 19) (.var 22) (.lit (0)))), (.vint .u8 (.c2 (.xint 20) (.var 22) (.lit (0)))), (.vint .u8 (.c2 (.xint 21) (.var 22) (.lit (0)))), (.vint .u8 (.c2 (.xint 22) (.var 22) (.lit (0)))), (.vint .u8 (.c2 (.xint 23) (.var 22) (.lit (0)))), (.vint .u8 (.c2 (.xint 24) (.var 22) (.lit (0)))), (.vint .u8 (.c2 (.xint 25) (.var 22) (.lit (0)))), (.vint .u8 (.c2 (.xint 26) (.var 22) (.lit (0)))), (.vint .u8 (.c2 (.xint 27) (.var 22) (.lit (0)))), (.vint .u8 (.c2 (.xint 28) (.var 22) (.lit (0)))), (.vint .u8 (.c2 (.xint 29) (.var 22) (.lit (0)))), (.vint .u8 (.c2 (.xint 30) (.var 22) (.lit (0)))), (.vint .u8 (.c2 (.xint 31) (.var 22) (.lit (0)))), (.vslice 23 (.lit (0)) (.var 24) (.var 25) 32)], .cells 21 27 [(.vint .i64 (.var 2)), (.vint .i64 (.var 3)), (.vint .i64 (.var 4)), (.vint .i64 (.var 6)), (.vint .u8 (.c2 (.xint 0) (.var 22) (.lit (0)))), (.vint .u8 (.c2 (.xint 1) (.var 22) (.lit (0)))), (.vint .u8 (.c2 (.xint 2) (.var 22) (.lit (0)))), (.vint .u8 (.c2 (.xint 3) (.var 22) (.lit (0)))), (.vint .u8 (.c2 (.xint 4) (.var 22) (.lit (0)))), (.vint .u8 (.c2 (.xint 5) (.var 22) (.lit (0)))), (.vint .u8 (.c2 (.xint 6) (.var 22) (.lit (0)))), (.vint .u8 (.c2 (.xint 7) (.var 22) (.lit (0)))), (.vint .u8 (.c2 (.xint 8) (.var 22) (.lit (0)))), (.vint .u8 (.c2 (.xint 9) (.var 22) (.lit (0)))), (.vint .u8 (.c2 (.xint 10) (.var 22) (.lit (0)))), (.vint .u8 (.c2 (.xint 11) (.var 22) (.lit (0)))), (.vint .u8 (.c2 (.xint 12) (.var 22) (.lit (0)))), (.vint .u8 (.c2 (.xint 13) (.var 22) (.lit (0)))), (.vint .u8 (.c2 (.xint 14) (.var 22) (.lit (0)))), (.vint .u8 (.c2 (.xint 15) (.var 22) (.lit (0)))), (.vint .u8 (.c2 (.xint 16) (.var 22) (.lit (0)))), (.vint .u8 (.c2 (.xint 17) (.var 22) (.lit (0)))), (.vint .u8 (.c2 (.xint 18) (.var 22) (.lit (0)))), (.vint .u8 (.c2 (.xint 19) (.var 22) (.lit (0)))), (.vint .u8 (.c2 (.xint 20) (.var 22) (.lit (0)))), (.vint .u8 (.c2 (.xint 21) (.var 22) (.lit (0)))), (.vint .u8 (.c2 (.xint 22) (.var 22) (.lit (0)))), (.vint .u8 (.c2 (.xint 23) (.var 22) (.lit (0)))), (.vint .u8 (.c2 (.xint 24) (.var 22) (.lit (0)))), (.vint .u8 (.c2 (.xint 25) (.var 22) (.lit (0)))), (.vint .u8 (.c2 (.xint 26) (.var 22) (.lit (0)))), (.vint .u8 (.c2 (.xint 27) (.var 22) (.lit (0)))), (.vint .u8 (.c2 (.xint 28) (.var 22) (.lit (0)))), (.vint .u8 (.c2 (.xint 29) (.var 22) (.lit (0)))), (.vint .u8 (.c2 (.xint 30) (.var 22) (.lit (0)))), (.vint .u8 (.c2 (.xint 31) (.var 22) (.lit (0)))), (.vslice 23 (.lit (0)) (.var 24) (.var 25) 32)], .abs 30 2] 31 (.need (.cmp .eql (.var 4) (.var 24)) (.ret 1 ⟨12, [(20, (.r 31)), (19, (.t (.var 27))), (18, (.t (.var 26))), (17, (.t (.var 29))), (16, (.t (.var 28))), (15, (.r 20)), (14, (.t (.var 25))), (13, (.r 23)), (12, (.t (.rcons (.vint .u8 (.c2 (.xint 0) (.var 22) (.lit (0)))) (.rcons (.vint .u8 (.c2 (.xint 1) (.var 22) (.lit (0)))) (.rcons (.vint .u8 (.c2 (.xint 2) (.var 22) (.lit (0)))) (.rcons (.vint .u8 (.c2 (.xint 3) (.var 22) (.lit (0)))) (.rcons (.vint .u8 (.c2 (.xint 4) (.var 22) (.lit (0)))) (.rcons (.vint .u8 (.c2 (.xint 5) (.var 22) (.lit (0)))) (.rcons (.vint .u8 (.c2 (.xint 6) (.var 22) (.lit (0)))) (.rcons (.vint .u8 (.c2 (.xint 7) (.var 22) (.lit (0)))) (.rcons (.vint .u8 (.c2 (.xint 8) (.var 22) (.lit (0)))) (.rcons (.vint .u8 (.c2 (.xint 9) (.var 22) (.lit (0)))) (.rcons (.vint .u8 (.c2 (.xint 10) (.var 22) (.lit (0)))) (.rcons (.vint .u8 (.c2 (.xint 11) (.var 22) (.lit (0)))) (.rcons (.vint .u8 (.c2 (.xint 12) (.var 22) (.lit (0)))) (.rcons (.vint .u8 (.c2 (.xint 13) (.var 22) (.lit (0)))) (.rcons (.vint .u8 (.c2 (.xint 14) (.var 22) (.lit (0)))) (.rcons (.vint .u8 (.c2 (.xint 15) (.var 22) (.lit (0)))) (.rcons (.vint .u8 (.c2 (.xint 16) (.var 22) (.lit (0)))) (.rcons (.vint .u8 (.c2 (.xint 17) (.var 22) (.lit (0)))) (.rcons (.vint .u8 (.c2 (.xint 18) (.var 22) (.lit (0)))) (.rcons (.vint .u8 (.c2 (.xint 19) (.var 22) (.lit (0)))) (.rcons (.vint .u8 (.c2 (.xint 20) (.var 22) (.lit (0)))) (.rcons (.vint .u8 (.c2 (.xint 21) (.var 22) (.lit (0)))) (.rcons (.vint .u8 (.c2 (.xint 22) (.var 22) (.lit (0)))) (.rcons (.vint .u8 (.c2 (.xint 23) (.var 22) (.lit (0)))) (.rcons (.vint .u8 (.c2 (.xint 24) (.var 22) (.lit (0)))) (.rcons (.vint .u8 (.c2 (.xint 25) (.var 22) (.lit (0)))) (.rcons (.vint .u8 (.c2 (.xint 26) (.var 22) (.lit (0)))) (.rcons (.vint .u8 (.c2 (.xint 27) (.var 22) (.lit (0)))) (.rcons (.vint .u8 (.c2 (.xint 28) (.var 22) (.lit (0)))) (.rcons (.vint .u8 (.c2 (.xint 29) (.var 22) (.lit (0)))) (.rcons (.vint .u8 (.c2 (.xint 30) (.var 22) (.lit (0)))) (.rcons (.vint .u8 (.c2 (.xint 31) (.var 22) (.lit (0)))) .rnil))))))))))))))))))))))))))))))))))], [((.var 16), (.var 28)), ((.var 14), (.var 25)), ((.lit (1)), (.lit (1))), ((.lit (0)), (.lit (0))), ((.var 4), (.var 4)), ((.lit (0)), (.lit (0))), ((.var 4), (.var 24)), ((.lit (0)), (.lit (0))), ((.var 6), (.var 6)), ((.var 4), (.var 4)), ((.var 3), (.var 3)), ((.var 2), (.var 2))], [], []⟩))))))))))))))))))))))) .top))))))) (.both (.fresh 14 (.fresh 15 (.fresh 16 (.fresh 17 (.fresh 18 (.post 1 1 ⟨0, [(8, (.t (.var 9))), (7, (.t (.var 8))), (1, (.t (.var 1))), (6, (.t (.var 7))), (5, (.t (.var 6))), (4, (.r 5)), (3, (.t (.var 4))), (2, (.t (.var 2))), (0, (.r 0))], [((.lit (1)), (.lit (1))), ((.lit (0)), (.lit (0))), ((.lit (0)), (.lit (0)))], [], []⟩ 14 (.need (.cmp .leq (.lit (0)) (.var 6)) (.pre 2 ⟨0, [(7, (.t (.var 11))), (5, (.t (.var 9))), (4, (.t (.var 8))), (3, (.t (.var 7))), (2, (.t (.var 6))), (1, (.t (.lit (0)))), (0, (.r 5)), (6, (.r 10))], [((.lit (1)), (.lit (1)))], [], []⟩ (.both (.fresh 19 (.post 2 0 ⟨0, [(7, (.t (.var 11))), (5, (.t (.var 9))), (4, (.t (.var 8))), (3, (.t (.var 7))), (2, (.t (.var 6))), (1, (.t (.lit (0)))), (0, (.r 5)), (6, (.r 10))], [((.lit (1)), (.lit (1)))], [], []⟩ 19 (.fresh 20 (.need (.cmp .leq (.lit (0)) (.var 4)) (.inv 0 21 ⟨1000, [(1011, (.r 18)), (1008, (.t (.var 17))), (1007, (.t .dnil)), (1006, (.t (.lit (0)))), (1004, .nil), (1003, (.t (.rcons (.vint .u8 (.c2 (.xint 0) (.var 19) (.lit (0)))) (.rcons (.vint .u8 (.c2 (.xint 1) (.var 19) (.lit (0)))) (.rcons (.vint .u8 (.c2 (.xint 2) (.var 19) (.lit (0)))) (.rcons (.vint .u8 (.c2 (.xint 3) (.var 19) (.lit (0)))) (.rcons (.vint .u8 (.c2 (.xint 4) (.var 19) (.lit (0)))) (.rcons (.vint .u8 (.c2 (.xint 5) (.var 19) (.lit (0)))) (.rcons (.vint .u8 (.c2 (.xint 6) (.var 19) (.lit (0)))) (.rcons (.vint .u8 (.c2 (.xint 7) (.var 19) (.lit (0)))) (.rcons (.vint .u8 (.c2 (.xint 8) (.var 19) (.lit (0)))) (.rcons (.vint .u8 (.c2 (.xint 9) (.var 19) (.lit (0)))) (.rcons (.vint .u8 (.c2 (.xint 10) (.var 19) (.lit (0)))) (.rcons (.vint .u8 (.c2 (.xint 11) (.var 19) (.lit (0)))) (.rcons (.vint .u8 (.c2 (.xint 12) (.var 19) (.lit (0)))) (.rcons (.vint .u8 (.c2 (.xint 13) (.var 19) (.lit (0)))) (.rcons (.vint .u8 (.c2 (.xint 14) (.var 19) (.lit (0)))) (.rcons (.vint .u8 (.c2 (.xint 15) (.var 19) (.lit (0)))) (.rcons (.vint .u8 (.c2 (.xint 16) (.var 19) (.lit (0)))) (.rcons (.vint .u8 (.c2 (.xint 17) (.var 19) (.lit (0)))) (.rcons (.vint .u8 (.c2 (.xint 18) (.var 19) (.lit (0)))) (.rcons (.vint .u8 (.c2 (.xint 19) (.var 19) (.lit (0)))) (.rcons (.vint .u8 (.c2 (.xint 20) (.var 19) (.lit (0)))) (.rcons (.vint .u8 (.c2 (.xint 21) (.var 19) (.lit (0)))) (.rcons (.vint .u8 (.c2 (.xint 22) (.var 19) (.lit (0)))) (.rcons (.vint .u8 (.c2 (.xint 23) (.var 19) (.lit (0)))) (.rcons (.vint .u8 (.c2 (.xint 24) (.var 19) (.lit (0)))) (.rcons (.vint .u8 (.c2 (.xint 25) (.var 19) (.lit (0)))) (.rcons (.vint .u8 (.c2 (.xint 26) (.var 19) (.lit (0)))) (.rcons (.vint .u8 (.c2 (.xint 27) (.var 19) (.lit (0)))) (.rcons (.vint .u8 (.c2 (.xint 28) (.var 19) (.lit (0)))) (.rcons (.vint .u8 (.c2 (.xint 29) (.var 19) (.lit (0)))) (.rcons (.vint .u8 (.c2 (.xint 30) (.var 19) (.lit (0)))) (.rcons (.vint .u8 (.c2 (.xint 31) (.var 19) (.lit (0)))) .rnil)))))))))))))))))))))))))))))))))), (1010, (.t (.var 16))), (1005, (.t (.lit (0)))), (1002, (.r 20)), (1009, (.t (.var 15))), (1001, (.r 14)), (1000, (.r 12))], [((.var 1009), (.var 15)), ((.var 1006), (.lit (0))), ((.var 1005), (.lit (0))), ((.lit (0)), (.lit (0))), ((.var 6), (.var 6)), ((.var 4), (.var 4)), ((.var 3), (.var 3)), ((.var 2), (.var 2)), ((.lit (0)), (.lit (0))), ((.lit (0)), (.lit (0))), ((.lit (0)), (.lit (0))), ((.lit (0)), (.lit (0))), ((.lit (0)), (.lit (0))), ((.lit (0)), (.lit (0))), ((.lit (0)), (.lit (0))), ((.lit (0)), (.lit (0))), ((.lit (0)), (.lit (0))), ((.lit (0)), (.lit (0))), ((.lit (0)), (.lit (0))), ((.lit (0)), (.lit (0))), ((.lit (0)), (.lit (0))), ((.lit (0)), (.lit (0))), ((.lit (0)), (.lit (0))), ((.lit (0)), (.lit (0))), ((.lit (0)), (.lit (0))), ((.lit (0)), (.lit (0))), ((.lit (0)), (.lit (0))), ((.lit (0)), (.lit (0))), ((.lit (0)), (.lit (0))), ((.lit (0)), (.lit (0))), ((.lit (0)), (.lit (0))), ((.lit (0)), (.lit (0))), ((.lit (0)), (.lit (0))), ((.lit (0)), (.lit (0))), ((.lit (0)), (.lit (0))), ((.lit (0)), (.lit (0))), ((.lit (0)), (.lit (0))), ((.lit (0)), (.lit (0))), ((.lit (0)), (.lit (0))), ((.lit (0)), (.lit (0))), ((.lit (0)), (.lit (0))), ((.lit (0)), (.lit (0))), ((.lit (0)), (.lit (0))), ((.lit (0)), (.lit (0))), ((.lit (1)), (.lit (1))), ((.var 4), (.var 4)), ((.var 1009), (.var 15)), ((.var 4), (.var 4)), ((.lit (0)), (.lit (0))), ((.var 4), (.var 4)), ((.lit (0)), (.lit (0))), ((.lit (0)), (.lit (0)))], [], []⟩ (.fresh 21 (.fresh 22 (.fresh 23 (.fresh 24 (.fresh 25 (.fresh 26 (.fresh 27 (.fresh 28 (.fresh 29 (.fresh 30 (.fresh 31 (.fresh 32 (.hyp 0 21 (.br (.cmp .lss (.var 26) (.var 4))
 (.need (.cmp .leq (.lit (0)) (.var 26)) (.need (.cmp .lss (.var 26) (.dlen (.var 29))) (.fresh 33 (.both (.viewL (.vcell (.var 29) (.var 26) 1) [CK.int .u8] [32] 34 (.pre 3 ⟨0, [(8, (.t (.var 11))), (6, (.t (.var 35))), (5, (.t (.var 36))), (4, (.t (.var 35))), (3, (.t (.dlen (.var 36)))), (2, (.t (.lit (0)))), (1, (.r 34)), (0, (.t (.icell (.var 29) (.var 26) 0))), (7, (.r 10))], [((.lit (1)), (.lit (1)))], [], []⟩ (.both (.fresh 37 (.post 3 0 ⟨0, [(8, (.t (.var 11))), (6, (.t (.var 35))), (5, (.t (.var 36))), (4, (.t (.var 35))), (3, (.t (.dlen (.var 36)))), (2, (.t (.lit (0)))), (1, (.r 34)), (0, (.t (.icell (.var 29) (.var 26) 0))), (7, (.r 10))], [((.lit (1)), (.lit (1)))], [], []⟩ 37 (.both (.fresh 38 (.both (.need (.cmp .eql (.var 26) (.dlen (.var 28))) (.need (.cmp .leq (.tims (.lit (32)) (.plus (.var 26) (.lit (1)))) (.lit (140737488355328))) (.fresh 39 (.fresh 40 (.both (.both (.pack [.cells 38 24 [(.vint .u8 (.c2 (.xint 0) (.var 37) (.lit (0)))), (.vint .u8 (.c2 (.xint 1) (.var 37) (.lit (0)))), (.vint .u8 (.c2 (.xint 2) (.var 37) (.lit (0)))), (.vint .u8 (.c2 (.xint 3) (.var 37) (.lit (0)))), (.vint .u8 (.c2 (.xint 4) (.var 37) (.lit (0)))), (.vint .u8 (.c2 (.xint 5) (.var 37) (.lit (0)))), (.vint .u8 (.c2 (.xint 6) (.var 37) (.lit (0)))), (.vint .u8 (.c2 (.xint 7) (.var 37) (.lit (0)))), (.vint .u8 (.c2 (.xint 8) (.var 37) (.lit (0)))), (.vint .u8 (.c2 (.xint 9) (.var 37) (.lit (0)))), (.vint .u8 (.c2 (.xint 10) (.var 37) (.lit (0)))), (.vint .u8 (.c2 (.xint 11) (.var 37) (.lit (0)))), (.vint .u8 (.c2 (.xint 12) (.var 37) (.lit (0)))), (.vint .u8 (.c2 (.xint 13) (.var 37) (.lit (0)))), (.vint .u8 (.c2 (.xint 14) (.var 37) (.lit (0)))), (.vint .u8 (.c2 (.xint 15) (.var 37) (.lit (0)))), (.vint .u8 (.c2 (.xint 16) (.var 37) (.lit (0)))), (.vint .u8 (.c2 (.xint 17) (.var 37) (.lit (0)))), (.vint .u8 (.c2 (.xint 18) (.var 37) (.lit (0)))), (.vint .u8 (.c2 (.xint 19) (.var 37) (.lit (0)))), (.vint .u8 (.c2 (.xint 20) (.var 37) (.lit (0)))), (.vint .u8 (.c2 (.xint 21) (.var 37) (.lit (0)))), (.vint .u8 (.c2 (.xint 22) (.var 37) (.lit (0)))), (.vint .u8 (.c2 (.xint 23) (.var 37) (.lit (0)))), (.vint .u8 (.c2 (.xint 24) (.var 37) (.lit (0)))), (.vint .u8 (.c2 (.xint 25) (.var 37) (.lit (0)))), (.vint .u8 (.c2 (.xint 26) (.var 37) (.lit (0)))), (.vint .u8 (.c2 (.xint 27) (.var 37) (.lit (0)))), (.vint .u8 (.c2 (.xint 28) (.var 37) (.lit (0)))), (.vint .u8 (.c2 (.xint 29) (.var 37) (.lit (0)))), (.vint .u8 (.c2 (.xint 30) (.var 37) (.lit (0)))), (.vint .u8 (.c2 (.xint 31) (.var 37) (.lit (0))))], .cells 33 45 [(.vint .i64 (.icell (.var 29) (.var 26) 0)), (.vcell (.var 29) (.var 26) 1)], .abs 32 2] 41 (.need (.cmp .eql (.arith .add .i64 (.var 26) (.lit (1))) (.plus (.var 26) (.lit (1)))) (.back 0 21 ⟨1000, [(1011, (.r 41)), (1008, (.t (.var 29))), (1007, (.t (.dapp (.var 28) (.rcons (.vint .u8 (.c2 (.xint 0) (.var 37) (.lit (0)))) (.rcons (.vint .u8 (.c2 (.xint 1) (.var 37) (.lit (0)))) (.rcons (.vint .u8 (.c2 (.xint 2) (.var 37) (.lit (0)))) (.rcons (.vint .u8 (.c2 (.xint 3) (.var 37) (.lit (0)))) (.rcons (.vint .u8 (.c2 (.xint 4) (.var 37) (.lit (0)))) (.rcons (.vint .u8 (.c2 (.xint 5) (.var 37) (.lit (0)))) (.rcons (.vint .u8 (.c2 (.xint 6) (.var 37) (.lit (0)))) (.rcons (.vint .u8 (.c2 (.xint 7) (.var 37) (.lit (0)))) (.rcons (.vint .u8 (.c2 (.xint 8) (.var 37) (.lit (0)))) (.rcons (.vint .u8 (.c2 (.xint 9) (.var 37) (.lit (0)))) (.rcons (.vint .u8 (.c2 (.xint 10) (.var 37) (.lit (0)))) (.rcons (.vint .u8 (.c2 (.xint 11) (.var 37) (.lit (0)))) (.rcons (.vint .u8 (.c2 (.xint 12) (.var 37) (.lit (0)))) (.rcons (.vint .u8 (.c2 (.xint 13) (.var 37) (.lit (0)))) (.rcons (.vint .u8 (.c2 (.xint 14) (.var 37) (.lit (0)))) (.rcons (.vint .u8 (.c2 (.xint 15) (.var 37) (.lit (0)))) (.rcons (.vint .u8 (.c2 (.xint 16) (.var 37) (.lit (0)))) (.rcons (.vint .u8 (.c2 (.xint 17) (.var 37) (.lit (0)))) (.rcons (.vint .u8 (.c2 (.xint 18) (.var 37) (.lit (0)))) (.rcons (.vint .u8 (.c2 (.xint 19) (.var 37) (.lit (0)))) (.rcons (.vint .u8 (.c2 (.xint 20) (.var 37) (.lit (0)))) (.rcons (.vint .u8 (.c2 (.xint 21) (.var 37) (.lit (0)))) (.rcons (.vint .u8 (.c2 (.xint 22) (.var 37) (.lit (0)))) (.rcons (.vint .u8 (.c2 (.xint 23) (.var 37) (.lit (0)))) (.rcons (.vint .u8 (.c2 (.xint 24) (.var 37) (.lit (0)))) (.rcons (.vint .u8 (.c2 (.xint 25) (.var 37) (.lit (0)))) (.rcons (.vint .u8 (.c2 (.xint 26) (.var 37) (.lit (0)))) (.rcons (.vint .u8 (.c2 (.xint 27) (.var 37) (.lit (0)))) (.rcons (.vint .u8 (.c2 (.xint 28) (.var 37) (.lit (0)))) (.rcons (.vint .u8 (.c2 (.xint 29) (.var 37) (.lit (0)))) (.rcons (.vint .u8 (.c2 (.xint 30) (.var 37) (.lit (0)))) (.rcons (.vint .u8 (.c2 (.xint 31) (.var 37) (.lit (0)))) .rnil))))))))))))))))))))))))))))))))))), (1006, (.t (.var 40))), (1004, (.r 39)), (1003, (.t (.rcons (.vint .u8 (.c2 (.xint 0) (.var 24) (.lit (0)))) (.rcons (.vint .u8 (.c2 (.xint 1) (.var 24) (.lit (0)))) (.rcons (.vint .u8 (.c2 (.xint 2) (.var 24) (.lit (0)))) (.rcons (.vint .u8 (.c2 (.xint 3) (.var 24) (.lit (0)))) (.rcons (.vint .u8 (.c2 (.xint 4) (.var 24) (.lit (0)))) (.rcons (.vint .u8 (.c2 (.xint 5) (.var 24) (.lit (0)))) (.rcons (.vint .u8 (.c2 (.xint 6) (.var 24) (.lit (0)))) (.rcons (.vint .u8 (.c2 (.xint 7) (.var 24) (.lit (0)))) (.rcons (.vint .u8 (.c2 (.xint 8) (.var 24) (.lit (0)))) (.rcons (.vint .u8 (.c2 (.xint 9) (.var 24) (.lit (0)))) (.rcons (.vint .u8 (.c2 (.xint 10) (.var 24) (.lit (0)))) (.rcons (.vint .u8 (.c2 (.xint 11) (.var 24) (.lit (0)))) (.rcons (.vint .u8 (.c2 (.xint 12) (.var 24) (.lit (0)))) (.rcons (.vint .u8 (.c2 (.xint 13) (.var 24) (.lit (0)))) (.rcons (.vint .u8 (.c2 (.xint 14) (.var 24) (.lit (0)))) (.rcons (.vint .u8 (.c2 (.xint 15) (.var 24) (.lit (0)))) (.rcons (.vint .u8 (.c2 (.xint 16) (.var 24) (.lit (0)))) (.rcons (.vint .u8 (.c2 (.xint 17) (.var 24) (.lit (0)))) (.rcons (.vint .u8 (.c2 (.xint 18) (.var 24) (.lit (0)))) (.rcons (.vint .u8 (.c2 (.xint 19) (.var 24) (.lit (0)))) (.rcons (.vint .u8 (.c2 (.xint 20) (.var 24) (.lit (0)))) (.rcons (.vint .u8 (.c2 (.xint 21) (.var 24) (.lit (0)))) (.rcons (.vint .u8 (.c2 (.xint 22) (.var 24) (.lit (0)))) (.rcons (.vint .u8 (.c2 (.xint 23) (.var 24) (.lit (0)))) (.rcons (.vint .u8 (.c2 (.xint 24) (.var 24) (.lit (0)))) (.rcons (.vint .u8 (.c2 (.xint 25) (.var 24) (.lit (0)))) (.rcons (.vint .u8 (.c2 (.xint 26) (.var 24) (.lit (0)))) (.rcons (.vint .u8 (.c2 (.xint 27) (.var 24) (.lit (0)))) (.rcons (.vint .u8 (.c2 (.xint 28) (.var 24) (.lit (0)))) (.rcons (.vint .u8 (.c2 (.xint 29) (.var 24) (.lit (0)))) (.rcons (.vint .u8 (.c2 (.xint 30) (.var 24) (.lit (0)))) (.rcons (.vint .u8 (.c2 (.xint 31) (.var 24) (.lit (0)))) .rnil)))))))))))))))))))))))))))))))))), (1010, (.t (.var 31))), (1005, (.t (.arith .add .i64 (.var 26) (.lit (1))))), (1002, (.r 23)), (1009, (.t (.var 30))), (1001, (.r 22)), (1000, (.r 21))], [((.var 1009), (.var 30)), ((.var 1006), (.var 40)), ((.var 1005), (.plus (.var 26) (.lit (1)))), ((.lit (0)), (.lit (0))), ((.var 6), (.var 6)), ((.var 4), (.var 4)), ((.var 3), (.var 3)), ((.var 2), (.var 2)), ((.lit (0)), (.lit (0))), ((.lit (0)), (.lit (0))), ((.lit (0)), (.lit (0))), ((.lit (0)), (.lit (0))), ((.lit (0)), (.lit (0))), ((.lit (0)), (.lit (0))), ((.lit (0)), (.lit (0))), ((.lit (0)), (.lit (0))), ((.lit (0)), (.lit (0))), ((.lit (0)), (.lit (0))), ((.lit (0)), (.lit (0))), ((.lit (0)), (.lit (0))), ((.lit (0)), (.lit (0))), ((.lit (0)), (.lit (0))), ((.lit (0)), (.lit (0))), ((.lit (0)), (.lit (0))), ((.lit (0)), (.lit (0))), ((.lit (0)), (.lit (0))), ((.lit (0)), (.lit (0))), ((.lit (0)), (.lit (0))), ((.lit (0)), (.lit (0))), ((.lit (0)), (.lit (0))), ((.lit (0)), (.lit (0))), ((.lit (0)), (.lit (0))), ((.lit (0)), (.lit (0))), ((.lit (0)), (.lit (0))), ((.lit (0)), (.lit (0))), ((.lit (0)), (.lit (0))), ((.lit (0)), (.lit (0))), ((.lit (0)), (.lit (0))), ((.lit (0)), (.lit (0))), ((.lit (0)), (.lit (0))), ((.lit (0)), (.lit (0))), ((.lit (0)), (.lit (0))), ((.lit (0)), (.lit (0))), ((.lit (0)), (.lit (0))), ((.lit (1)), (.lit (1))), ((.var 4), (.var 4)), ((.var 1009), (.var 30)), ((.var 4), (.var 4)), ((.lit (0)), (.lit (0))), ((.lit (0)), (.lit (0))), ((.var 4), (.var 4)), ((.lit (0)), (.lit (0))), ((.lit (0)), (.lit (0))), ((.lit (0)), (.lit (0)))], [], []⟩))) .top) .top))))) .top)) .top))) .top))) .top))))
 (.pack [.cells 21 27 [(.vint .i64 (.var 2)), (.vint .i64 (.var 3)), (.vint .i64 (.var 4)), (.vint .i64 (.var 6)), (.vint .u8 (.c2 (.xint 0) (.var 24) (.lit (0)))), (.vint .u8 (.c2 (.xint 1) (.var 24) (.lit (0)))), (.vint .u8 (.c2 (.xint 2) (.var 24) (.lit (0)))), (.vint .u8 (.c2 (.xint 3) (.var 24) (.lit (0)))), (.vint .u8 (.c2 (.xint 4) (.var 24) (.lit (0)))), (.vint .u8 (.c2 (.xint 5) (.var 24) (.lit (0)))), (.vint .u8 (.c2 (.xint 6) (.var 24) (.lit (0)))), (.vint .u8 (.c2 (.xint 7) (.var 24) (.lit (0)))), (.vint .u8 (.c2 (.xint 8) (.var 24) (.lit (0)))), (.vint .u8 (.c2 (.xint 9) (.var 24) (.lit (0)))), (.vint .u8 (.c2 (.xint 10) (.var 24) (.lit (0)))), (.vint .u8 (.c2 (.xint 11) (.var 24) (.lit (0)))), (.vint .u8 (.c2 (.xint 12) (.var 24) (.lit (0)))), (.vint .u8 (.c2 (.xint 13) (.var 24) (.lit (0)))), (.vint .u8 (.c2 (.xint 14) (.var 24) (.lit (0)))), (.vint .u8 (.c2 (.xint 15) (.var 24) (.lit (0)))), (.vint .u8 (.c2 (.xint 16) (.var 24) (.lit (0)))), (.vint .u8 (.c2 (.xint 17) (.var 24) (.lit (0)))), (.vint .u8 (.c2 (.xint 18) (.var 24) (.lit (0)))), (.vint .u8 (.c2 (.xint 19) (.var 24) (.lit (0)))), (.vint .u8 (.c2 (.xint 20) (.var 24) (.lit (0)))), (.vint .u8 (.c2 (.xint 21) (.var 24) (.lit (0)))), (.vint .u8 (.c2 (.xint 22) (.var 24) (.lit (0)))), (.vint .u8 (.c2 (.xint 23) (.var 24) (.lit (0)))), (.vint .u8 (.c2 (.xint 24) (.var 24) (.lit (0)))), (.vint .u8 (.c2 (.xint 25) (.var 24) (.lit (0)))), (.vint .u8 (.c2 (.xint 26) (.var 24) (.lit (0)))), (.vint .u8 (.c2 (.xint 27) (.var 24) (.lit (0)))), (.vint .u8 (.c2 (.xint 28) (.var 24) (.lit (0)))), (.vint .u8 (.c2 (.xint 29) (.var 24) (.lit (0)))), (.vint .u8 (.c2 (.xint 30) (.var 24) (.lit (0)))), (.vint .u8 (.c2 (.xint 31) (.var 24) (.lit (0)))), (.vslice 25 (.lit (0)) (.var 26) (.var 27) 32)], .cells 23 27 [(.vint .i64 (.var 2)), (.vint .i64 (.var 3)), (.vint .i64 (.var 4)), (.vint .i64 (.var 6)), (.vint .u8 (.c2 (.xint 0) (.var 24) (.lit (0)))), (.vint .u8 (.c2 (.xint 1) (.var 24) (.lit (0)))), (.vint .u8 (.c2 (.xint 2) (.var 24) (.lit (0)))), (.vint .u8 (.c2 (.xint 3) (.var 24) (.lit (0)))), (.vint .u8 (.c2 (.xint 4) (.var 24) (.lit (0)))), (.vint .u8 (.c2 (.xint 5) (.var 24) (.lit (0)))), (.vint .u8 (.c2 (.xint 6) (.var 24) (.lit (0)))), (.vint .u8 (.c2 (.xint 7) (.var 24) (.lit (0)))), (.vint .u8 (.c2 (.xint 8) (.var 24) (.lit (0)))), (.vint .u8 (.c2 (.xint 9) (.var 24) (.lit (0)))), (.vint .u8 (.c2 (.xint 10) (.var 24) (.lit (0)))), (.vint .u8 (.c2 (.xint 11) (.var 24) (.lit (0)))), (.vint .u8 (.c2 (.xint 12) (.var 24) (.lit (0)))), (.vint .u8 (.c2 (.xint 13) (.var 24) (.lit (0)))), (.vint .u8 (.c2 (.xint 14) (.var 24) (.lit (0)))), (.vint .u8 (.c2 (.xint 15) (.var 24) (.lit (0)))), (.vint .u8 (.c2 (.xint 16) (.var 24) (.lit (0)))), (.vint .u8 (.c2 (.xint 17) (.var 24) (.lit (0)))), (.vint .u8 (.c2 (.xint 18) (.var 24) (.lit (0)))), (.vint .u8 (.c2 (.xint 19) (.var 24) (.lit (0)))), (.vint .u8 (.c2 (.xint 20) (.var 24) (.lit (0)))), (.vint .u8 (.c2 (.xint 21) (.var 24) (.lit (0)))), (.vint .u8 (.c2 (.xint 22) (.var 24) (.lit (0)))), (.vint .u8 (.c2 (.xint 23) (.var 24) (.lit (0)))), (.vint .u8 (.c2 (.xint 24) (.var 24) (.lit (0)))), (.vint .u8 (.c2 (.xint 25) (.var 24) (.lit (0)))), (.vint .u8 (.c2 (.xint 26) (.var 24) (.lit (0)))), (.vint .u8 (.c2 (.xint 27) (.var 24) (.lit (0)))), (.vint .u8 (.c2 (.xint 28) (.var 24) (.lit (0)))), (.vint .u8 (.c2 (.xint 29) (.var 24) (.lit (0)))), (.vint .u8 (.c2 (.xint 30) (.var 24) (.lit (0)))), (.vint .u8 (.c2 (.xint 31) (.var 24) (.lit (0)))), (.vslice 25 (.lit (0)) (.var 26) (.var 27) 32)], .abs 32 2] 33 (.need (.cmp .eql (.var 4) (.var 26)) (.ret 1 ⟨12, [(20, (.r 33)), (19, (.t (.var 29))), (18, (.t (.var 28))), (17, (.t (.var 31))), (16, (.t (.var 30))), (15, (.r 22)), (14, (.t (.var 27))), (13, (.r 25)), (12, (.t (.rcons (.vint .u8 (.c2 (.xint 0) (.var 24) (.lit (0)))) (.rcons (.vint .u8 (.c2 (.xint 1) (.var 24) (.lit (0)))) (.rcons (.vint .u8 (.c2 (.xint 2) (.var 24) (.lit (0)))) (.rcons (.vint .u8 (.c2 (.xint 3) (.var 24) (.lit (0)))) (.rcons (.vint .u8 (.c2 (.xint 4) (.var 24) (.lit (0)))) (.rcons (.vint .u8 (.c2 (.xint 5) (.var 24) (.lit (0)))) (.rcons (.vint .u8 (.c2 (.xint 6) (.var 24) (.lit (0)))) (.rcons (.vint .u8 (.c2 (.xint 7) (.var 24) (.lit (0)))) (.rcons (.vint .u8 (.c2 (.xint 8) (.var 24) (.lit (0)))) (.rcons (.vint .u8 (.c2 (.xint 9) (.var 24) (.lit (0)))) (.rcons (.vint .u8 (.c2 (.xint 10) (.var 24) (.lit (0)))) (.rcons (.vint .u8 (.c2 (.xint 11) (.var 24) (.lit (0)))) (.rcons (.vint .u8 (.c2 (.xint 12) (.var 24) (.lit (0)))) (.rcons (.vint .u8 (.c2 (.xint 13) (.var 24) (.lit (0)))) (.rcons (.vint .u8 (.c2 (.xint 14) (.var 24) (.lit (0)))) (.rcons (.vint .u8 (.c2 (.xint 15) (.var 24) (.lit (0)))) (.rcons (.vint .u8 (.c2 (.xint 16) (.var 24) (.lit (0)))) (.rcons (.vint .u8 (.c2 (.xint 17) (.var 24) (.lit (0)))) (.rcons (.vint .u8 (.c2 (.xint 18) (.var 24) (.lit (0)))) (.rcons (.vint .u8 (.c2 (.xint 19) (.var 24) (.lit (0)))) (.rcons (.vint .u8 (.c2 (.xint 20) (.var 24) (.lit (0)))) (.rcons (.vint .u8 (.c2 (.xint 21) (.var 24) (.lit (0)))) (.rcons (.vint .u8 (.c2 (.xint 22) (.var 24) (.lit (0)))) (.rcons (.vint .u8 (.c2 (.xint 23) (.var 24) (.lit (0)))) (.rcons (.vint .u8 (.c2 (.xint 24) (.var 24) (.lit (0)))) (.rcons (.vint .u8 (.c2 (.xint 25) (.var 24) (.lit (0)))) (.rcons (.vint .u8 (.c2 (.xint 26) (.var 24) (.lit (0)))) (.rcons (.vint .u8 (.c2 (.xint 27) (.var 24) (.lit (0)))) (.rcons (.vint .u8 (.c2 (.xint 28) (.var 24) (.lit (0)))) (.rcons (.vint .u8 (.c2 (.xint 29) (.var 24) (.lit (0)))) (.rcons (.vint .u8 (.c2 (.xint 30) (.var 24) (.lit (0)))) (.rcons (.vint .u8 (.c2 (.xint 31) (.var 24) (.lit (0)))) .rnil))))))))))))))))))))))))))))))))))], [((.var 16), (.var 30)), ((.var 14), (.var 27)), ((.lit (1)), (.lit (1))), ((.lit (0)), (.lit (0))), ((.var 4), (.var 4)), ((.lit (0)), (.lit (0))), ((.var 4), (.var 26)), ((.lit (0)), (.lit (0))), ((.var 6), (.var 6)), ((.var 4), (.var 4)), ((.var 3), (.var 3)), ((.var 2), (.var 2))], [], []⟩)))))))))))))))))))))) .top))))))))) .top)))))) .top))))
theorem o_make_eq : treeOf ⟨Tryd.prog, makeC, [sizes3C, encode31C, sha256C, pieceDgC], [makeI]⟩ 100000 Tryd.f23 = o_make := by kernel_rfl
theorem make_of (hd : ∀ c ∈ ([sizes3C, encode31C, sha256C, pieceDgC] : List Ctr), c.ok Tryd.prog) (h : ∀ ρ : Env, ρ.good → (makeC).pre ρ → o_make.den ⟨Tryd.prog, makeC, [sizes3C, encode31C, sha256C, pieceDgC], [makeI]⟩ ρ) : (makeC).ok Tryd.prog :=
  ok_of_tree Tryd.func23 (fun a w => Tryd.call23 a w) hd 100000 (fun ρ hg hp => by rw [o_make_eq]; exact h ρ hg hp)
def o_known : Out := (.fresh 2 (.fresh 3 (.pre 0 ⟨0, [(7, (.t (.var 1))), (5, (.t (.lit (3)))), (4, (.t (.dapp (.rcons (.vint .u8 (.lit (97))) .rnil) (.dapp (.rcons (.vint .u8 (.lit (98))) .rnil) (.rcons (.vint .u8 (.lit (99))) .rnil))))), (3, (.t (.lit (3)))), (2, (.t (.lit (3)))), (1, (.t (.lit (0)))), (0, (.r 2)), (6, (.r 0))], [((.lit (1)), (.lit (1)))], [], []⟩ (.both (.fresh 4 (.post 0 0 ⟨0, [(7, (.t (.var 1))), (5, (.t (.lit (3)))), (4, (.t (.dapp (.rcons (.vint .u8 (.lit (97))) .rnil) (.dapp (.rcons (.vint .u8 (.lit (98))) .rnil) (.rcons (.vint .u8 (.lit (99))) .rnil))))), (3, (.t (.lit (3)))), (2, (.t (.lit (3)))), (1, (.t (.lit (0)))), (0, (.r 2)), (6, (.r 0))], [((.lit (1)), (.lit (1)))], [], []⟩ 4 (.pre 1 ⟨0, [(0, (.t (.rcons (.vint .u8 (.c2 (.xint 0) (.var 4) (.lit (0)))) (.rcons (.vint .u8 (.c2 (.xint 1) (.var 4) (.lit (0)))) (.rcons (.vint .u8 (.c2 (.xint 2) (.var 4) (.lit (0)))) (.rcons (.vint .u8 (.c2 (.xint 3) (.var 4) (.lit (0)))) (.rcons (.vint .u8 (.c2 (.xint 4) (.var 4) (.lit (0)))) (.rcons (.vint .u8 (.c2 (.xint 5) (.var 4) (.lit (0)))) (.rcons (.vint .u8 (.c2 (.xint 6) (.var 4) (.lit (0)))) (.rcons (.vint .u8 (.c2 (.xint 7) (.var 4) (.lit (0)))) (.rcons (.vint .u8 (.c2 (.xint 8) (.var 4) (.lit (0)))) (.rcons (.vint .u8 (.c2 (.xint 9) (.var 4) (.lit (0)))) (.rcons (.vint .u8 (.c2 (.xint 10) (.var 4) (.lit (0)))) (.rcons (.vint .u8 (.c2 (.xint 11) (.var 4) (.lit (0)))) (.rcons (.vint .u8 (.c2 (.xint 12) (.var 4) (.lit (0)))) (.rcons (.vint .u8 (.c2 (.xint 13) (.var 4) (.lit (0)))) (.rcons (.vint .u8 (.c2 (.xint 14) (.var 4) (.lit (0)))) (.rcons (.vint .u8 (.c2 (.xint 15) (.var 4) (.lit (0)))) (.rcons (.vint .u8 (.c2 (.xint 16) (.var 4) (.lit (0)))) (.rcons (.vint .u8 (.c2 (.xint 17) (.var 4) (.lit (0)))) (.rcons (.vint .u8 (.c2 (.xint 18) (.var 4) (.lit (0)))) (.rcons (.vint .u8 (.c2 (.xint 19) (.var 4) (.lit (0)))) (.rcons (.vint .u8 (.c2 (.xint 20) (.var 4) (.lit (0)))) (.rcons (.vint .u8 (.c2 (.xint 21) (.var 4) (.lit (0)))) (.rcons (.vint .u8 (.c2 (.xint 22) (.var 4) (.lit (0)))) (.rcons (.vint .u8 (.c2 (.xint 23) (.var 4) (.lit (0)))) (.rcons (.vint .u8 (.c2 (.xint 24) (.var 4) (.lit (0)))) (.rcons (.vint .u8 (.c2 (.xint 25) (.var 4) (.lit (0)))) (.rcons (.vint .u8 (.c2 (.xint 26) (.var 4) (.lit (0)))) (.rcons (.vint .u8 (.c2 (.xint 27) (.var 4) (.lit (0)))) (.rcons (.vint .u8 (.c2 (.xint 28) (.var 4) (.lit (0)))) (.rcons (.vint .u8 (.c2 (.xint 29) (.var 4) (.lit (0)))) (.rcons (.vint .u8 (.c2 (.xint 30) (.var 4) (.lit (0)))) (.rcons (.vint .u8 (.c2 (.xint 31) (.var 4) (.lit (0)))) .rnil))))))))))))))))))))))))))))))))))], [], [], []⟩ (.both (.fresh 5 (.post 1 0 ⟨0, [(0, (.t (.rcons (.vint .u8 (.c2 (.xint 0) (.var 4) (.lit (0)))) (.rcons (.vint .u8 (.c2 (.xint 1) (.var 4) (.lit (0)))) (.rcons (.vint .u8 (.c2 (.xint 2) (.var 4) (.lit (0)))) (.rcons (.vint .u8 (.c2 (.xint 3) (.var 4) (.lit (0)))) (.rcons (.vint .u8 (.c2 (.xint 4) (.var 4) (.lit (0)))) (.rcons (.vint .u8 (.c2 (.xint 5) (.var 4) (.lit (0)))) (.rcons (.vint .u8 (.c2 (.xint 6) (.var 4) (.lit (0)))) (.rcons (.vint .u8 (.c2 (.xint 7) (.var 4) (.lit (0)))) (.rcons (.vint .u8 (.c2 (.xint 8) (.var 4) (.lit (0)))) (.rcons (.vint .u8 (.c2 (.xint 9) (.var 4) (.lit (0)))) (.rcons (.vint .u8 (.c2 (.xint 10) (.var 4) (.lit (0)))) (.rcons (.vint .u8 (.c2 (.xint 11) (.var 4) (.lit (0)))) (.rcons (.vint .u8 (.c2 (.xint 12) (.var 4) (.lit (0)))) (.rcons (.vint .u8 (.c2 (.xint 13) (.var 4) (.lit (0)))) (.rcons (.vint .u8 (.c2 (.xint 14) (.var 4) (.lit (0)))) (.rcons (.vint .u8 (.c2 (.xint 15) (.var 4) (.lit (0)))) (.rcons (.vint .u8 (.c2 (.xint 16) (.var 4) (.lit (0)))) (.rcons (.vint .u8 (.c2 (.xint 17) (.var 4) (.lit (0)))) (.rcons (.vint .u8 (.c2 (.xint 18) (.var 4) (.lit (0)))) (.rcons (.vint .u8 (.c2 (.xint 19) (.var 4) (.lit (0)))) (.rcons (.vint .u8 (.c2 (.xint 20) (.var 4) (.lit (0)))) (.rcons (.vint .u8 (.c2 (.xint 21) (.var 4) (.lit (0)))) (.rcons (.vint .u8 (.c2 (.xint 22) (.var 4) (.lit (0)))) (.rcons (.vint .u8 (.c2 (.xint 23) (.var 4) (.lit (0)))) (.rcons (.vint .u8 (.c2 (.xint 24) (.var 4) (.lit (0)))) (.rcons (.vint .u8 (.c2 (.xint 25) (.var 4) (.lit (0)))) (.rcons (.vint .u8 (.c2 (.xint 26) (.var 4) (.lit (0)))) (.rcons (.vint .u8 (.c2 (.xint 27) (.var 4) (.lit (0)))) (.rcons (.vint .u8 (.c2 (.xint 28) (.var 4) (.lit (0)))) (.rcons (.vint .u8 (.c2 (.xint 29) (.var 4) (.lit (0)))) (.rcons (.vint .u8 (.c2 (.xint 30) (.var 4) (.lit (0)))) (.rcons (.vint .u8 (.c2 (.xint 31) (.var 4) (.lit (0)))) .rnil))))))))))))))))))))))))))))))))))], [], [], []⟩ 5 (.br (.not (.c2 .veq (.c1 .sval (.var 5)) (.vstr [98, 97, 55, 56, 49, 54, 98, 102, 56, 102, 48, 49, 99, 102, 101, 97, 52, 49, 52, 49, 52, 48, 100, 101, 53, 100, 97, 101, 50, 50, 50, 51, 98, 48, 48, 51, 54, 49, 97, 51, 57, 54, 49, 55, 55, 97, 57, 99, 98, 52, 49, 48, 102, 102, 54, 49, 102, 50, 48, 48, 49, 53, 97, 100])))
 (.stuck 7 0 0)
 (.fresh 6 (.fresh 7 (.pre 2 ⟨0, [(5, (.t (.lit (9)))), (4, (.t (.dapp (.rcons (.vint .u8 (.lit (49))) .rnil) (.dapp (.rcons (.vint .u8 (.lit (50))) .rnil) (.dapp (.rcons (.vint .u8 (.lit (51))) .rnil) (.dapp (.rcons (.vint .u8 (.lit (52))) .rnil) (.dapp (.rcons (.vint .u8 (.lit (53))) .rnil) (.dapp (.rcons (.vint .u8 (.lit (54))) .rnil) (.dapp (.rcons (.vint .u8 (.lit (55))) .rnil) (.dapp (.rcons (.vint .u8 (.lit (56))) .rnil) (.rcons (.vint .u8 (.lit (57))) .rnil))))))))))), (3, (.t (.lit (9)))), (2, (.t (.lit (9)))), (1, (.t (.lit (0)))), (0, (.r 6))], [], [], []⟩ (.both (.fresh 8 (.post 2 0 ⟨0, [(5, (.t (.lit (9)))), (4, (.t (.dapp (.rcons (.vint .u8 (.lit (49))) .rnil) (.dapp (.rcons (.vint .u8 (.lit (50))) .rnil) (.dapp (.rcons (.vint .u8 (.lit (51))) .rnil) (.dapp (.rcons (.vint .u8 (.lit (52))) .rnil) (.dapp (.rcons (.vint .u8 (.lit (53))) .rnil) (.dapp (.rcons (.vint .u8 (.lit (54))) .rnil) (.dapp (.rcons (.vint .u8 (.lit (55))) .rnil) (.dapp (.rcons (.vint .u8 (.lit (56))) .rnil) (.rcons (.vint .u8 (.lit (57))) .rnil))))))))))), (3, (.t (.lit (9)))), (2, (.t (.lit (9)))), (1, (.t (.lit (0)))), (0, (.r 6))], [], [], []⟩ 8 (.br (.cmp .neq (.var 8) (.lit (3808858755)))
 (.stuck 7 0 0)
 (.pre 3 ⟨0, [], [], [], []⟩ (.both (.fresh 9 (.fresh 10 (.post 3 0 ⟨0, [], [], [], []⟩ 9 (.fresh 11 (.fresh 12 (.pre 4 ⟨0, [(11, (.t (.var 1))), (9, (.t (.lit (2)))), (8, (.t (.dapp (.rcons (.vint .u8 (.lit (97))) .rnil) (.rcons (.vint .u8 (.lit (98))) .rnil)))), (1, (.t (.var 10))), (7, (.t (.lit (2)))), (6, (.t (.lit (2)))), (5, (.r 11)), (4, (.t (.lit (3)))), (3, (.t (.lit (3)))), (2, (.t (.lit (2)))), (0, (.r 9)), (10, (.r 0))], [((.lit (1)), (.lit (1))), ((.lit (1)), (.lit (1))), ((.lit (0)), (.lit (0))), ((.lit (0)), (.lit (0)))], [], []⟩ (.both (.fresh 13 (.fresh 14 (.post 4 0 ⟨0, [(11, (.t (.var 1))), (9, (.t (.lit (2)))), (8, (.t (.dapp (.rcons (.vint .u8 (.lit (97))) .rnil) (.rcons (.vint .u8 (.lit (98))) .rnil)))), (1, (.t (.var 10))), (7, (.t (.lit (2)))), (6, (.t (.lit (2)))), (5, (.r 11)), (4, (.t (.lit (3)))), (3, (.t (.lit (3)))), (2, (.t (.lit (2)))), (0, (.r 9)), (10, (.r 0))], [((.lit (1)), (.lit (1))), ((.lit (1)), (.lit (1))), ((.lit (0)), (.lit (0))), ((.lit (0)), (.lit (0)))], [], []⟩ 13 (.fresh 15 (.pre 5 ⟨0, [(9, (.t (.lit (0)))), (8, (.t .dnil)), (7, (.t (.lit (0)))), (6, (.t (.lit (0)))), (5, .nil), (3, (.t (.lit (0)))), (2, (.t (.lit (0)))), (1, (.t (.lit (0)))), (0, (.t (.lit (0)))), (4, (.t (.rcons (.vint .u8 (.lit (0))) (.rcons (.vint .u8 (.lit (0))) (.rcons (.vint .u8 (.lit (0))) (.rcons (.vint .u8 (.lit (0))) (.rcons (.vint .u8 (.lit (0))) (.rcons (.vint .u8 (.lit (0))) (.rcons (.vint .u8 (.lit (0))) (.rcons (.vint .u8 (.lit (0))) (.rcons (.vint .u8 (.lit (0))) (.rcons (.vint .u8 (.lit (0))) (.rcons (.vint .u8 (.lit (0))) (.rcons (.vint .u8 (.lit (0))) (.rcons (.vint .u8 (.lit (0))) (.rcons (.vint .u8 (.lit (0))) (.rcons (.vint .u8 (.lit (0))) (.rcons (.vint .u8 (.lit (0))) (.rcons (.vint .u8 (.lit (0))) (.rcons (.vint .u8 (.lit (0))) (.rcons (.vint .u8 (.lit (0))) (.rcons (.vint .u8 (.lit (0))) (.rcons (.vint .u8 (.lit (0))) (.rcons (.vint .u8 (.lit (0))) (.rcons (.vint .u8 (.lit (0))) (.rcons (.vint .u8 (.lit (0))) (.rcons (.vint .u8 (.lit (0))) (.rcons (.vint .u8 (.lit (0))) (.rcons (.vint .u8 (.lit (0))) (.rcons (.vint .u8 (.lit (0))) (.rcons (.vint .u8 (.lit (0))) (.rcons (.vint .u8 (.lit (0))) (.rcons (.vint .u8 (.lit (0))) (.rcons (.vint .u8 (.lit (0))) .rnil))))))))))))))))))))))))))))))))))], [((.lit (0)), (.lit (0)))], [], []⟩ (.both (.post 5 0 ⟨0, [(9, (.t (.lit (0)))), (8, (.t .dnil)), (7, (.t (.lit (0)))), (6, (.t (.lit (0)))), (5, .nil), (3, (.t (.lit (0)))), (2, (.t (.lit (0)))), (1, (.t (.lit (0)))), (0, (.t (.lit (0)))), (4, (.t (.rcons (.vint .u8 (.lit (0))) (.rcons (.vint .u8 (.lit (0))) (.rcons (.vint .u8 (.lit (0))) (.rcons (.vint .u8 (.lit (0))) (.rcons (.vint .u8 (.lit (0))) (.rcons (.vint .u8 (.lit (0))) (.rcons (.vint .u8 (.lit (0))) (.rcons (.vint .u8 (.lit (0))) (.rcons (.vint .u8 (.lit (0))) (.rcons (.vint .u8 (.lit (0))) (.rcons (.vint .u8 (.lit (0))) (.rcons (.vint .u8 (.lit (0))) (.rcons (.vint .u8 (.lit (0))) (.rcons (.vint .u8 (.lit (0))) (.rcons (.vint .u8 (.lit (0))) (.rcons (.vint .u8 (.lit (0))) (.rcons (.vint .u8 (.lit (0))) (.rcons (.vint .u8 (.lit (0))) (.rcons (.vint .u8 (.lit (0))) (.rcons (.vint .u8 (.lit (0))) (.rcons (.vint .u8 (.lit (0))) (.rcons (.vint .u8 (.lit (0))) (.rcons (.vint .u8 (.lit (0))) (.rcons (.vint .u8 (.lit (0))) (.rcons (.vint .u8 (.lit (0))) (.rcons (.vint .u8 (.lit (0))) (.rcons (.vint .u8 (.lit (0))) (.rcons (.vint .u8 (.lit (0))) (.rcons (.vint .u8 (.lit (0))) (.rcons (.vint .u8 (.lit (0))) (.rcons (.vint .u8 (.lit (0))) (.rcons (.vint .u8 (.lit (0))) .rnil))))))))))))))))))))))))))))))))))], [((.lit (0)), (.lit (0)))], [], []⟩ 16 (.br (.cmp .eql (.var 13) (.lit (0)))
 (.stuck 7 0 0)
 (.stuck 7 0 0))) (.both (.fresh 16 (.fresh 17 (.fresh 18 (.fresh 19 (.post 5 1 ⟨0, [(9, (.t (.lit (0)))), (8, (.t .dnil)), (7, (.t (.lit (0)))), (6, (.t (.lit (0)))), (5, .nil), (3, (.t (.lit (0)))), (2, (.t (.lit (0)))), (1, (.t (.lit (0)))), (0, (.t (.lit (0)))), (4, (.t (.rcons (.vint .u8 (.lit (0))) (.rcons (.vint .u8 (.lit (0))) (.rcons (.vint .u8 (.lit (0))) (.rcons (.vint .u8 (.lit (0))) (.rcons (.vint .u8 (.lit (0))) (.rcons (.vint .u8 (.lit (0))) (.rcons (.vint .u8 (.lit (0))) (.rcons (.vint .u8 (.lit (0))) (.rcons (.vint .u8 (.lit (0))) (.rcons (.vint .u8 (.lit (0))) (.rcons (.vint .u8 (.lit (0))) (.rcons (.vint .u8 (.lit (0))) (.rcons (.vint .u8 (.lit (0))) (.rcons (.vint .u8 (.lit (0))) (.rcons (.vint .u8 (.lit (0))) (.rcons (.vint .u8 (.lit (0))) (.rcons (.vint .u8 (.lit (0))) (.rcons (.vint .u8 (.lit (0))) (.rcons (.vint .u8 (.lit (0))) (.rcons (.vint .u8 (.lit (0))) (.rcons (.vint .u8 (.lit (0))) (.rcons (.vint .u8 (.lit (0))) (.rcons (.vint .u8 (.lit (0))) (.rcons (.vint .u8 (.lit (0))) (.rcons (.vint .u8 (.lit (0))) (.rcons (.vint .u8 (.lit (0))) (.rcons (.vint .u8 (.lit (0))) (.rcons (.vint .u8 (.lit (0))) (.rcons (.vint .u8 (.lit (0))) (.rcons (.vint .u8 (.lit (0))) (.rcons (.vint .u8 (.lit (0))) (.rcons (.vint .u8 (.lit (0))) .rnil))))))))))))))))))))))))))))))))))], [((.lit (0)), (.lit (0)))], [], []⟩ 16 (.br (.cmp .eql (.var 13) (.lit (0)))
 (.stuck 7 0 0)
 (.stuck 7 0 0))))))) .top))))))) (.both (.fresh 13 (.fresh 14 (.fresh 15 (.fresh 16 (.fresh 17 (.fresh 18 (.fresh 19 (.fresh 20 (.fresh 21 (.post 4 1 ⟨0, [(11, (.t (.var 1))), (9, (.t (.lit (2)))), (8, (.t (.dapp (.rcons (.vint .u8 (.lit (97))) .rnil) (.rcons (.vint .u8 (.lit (98))) .rnil)))), (1, (.t (.var 10))), (7, (.t (.lit (2)))), (6, (.t (.lit (2)))), (5, (.r 11)), (4, (.t (.lit (3)))), (3, (.t (.lit (3)))), (2, (.t (.lit (2)))), (0, (.r 9)), (10, (.r 0))], [((.lit (1)), (.lit (1))), ((.lit (1)), (.lit (1))), ((.lit (0)), (.lit (0))), ((.lit (0)), (.lit (0)))], [], []⟩ 13 (.fresh 22 (.pre 5 ⟨0, [(9, (.t (.var 15))), (8, (.t (.var 19))), (7, (.t (.var 15))), (6, (.t (.lit (3)))), (5, (.r 14)), (3, (.t (.lit (2)))), (2, (.t (.lit (3)))), (1, (.t (.lit (3)))), (0, (.t (.lit (2)))), (4, (.t (.rcons (.vint .u8 (.c2 (.xint 0) (.var 13) (.lit (0)))) (.rcons (.vint .u8 (.c2 (.xint 1) (.var 13) (.lit (0)))) (.rcons (.vint .u8 (.c2 (.xint 2) (.var 13) (.lit (0)))) (.rcons (.vint .u8 (.c2 (.xint 3) (.var 13) (.lit (0)))) (.rcons (.vint .u8 (.c2 (.xint 4) (.var 13) (.lit (0)))) (.rcons (.vint .u8 (.c2 (.xint 5) (.var 13) (.lit (0)))) (.rcons (.vint .u8 (.c2 (.xint 6) (.var 13) (.lit (0)))) (.rcons (.vint .u8 (.c2 (.xint 7) (.var 13) (.lit (0)))) (.rcons (.vint .u8 (.c2 (.xint 8) (.var 13) (.lit (0)))) (.rcons (.vint .u8 (.c2 (.xint 9) (.var 13) (.lit (0)))) (.rcons (.vint .u8 (.c2 (.xint 10) (.var 13) (.lit (0)))) (.rcons (.vint .u8 (.c2 (.xint 11) (.var 13) (.lit (0)))) (.rcons (.vint .u8 (.c2 (.xint 12) (.var 13) (.lit (0)))) (.rcons (.vint .u8 (.c2 (.xint 13) (.var 13) (.lit (0)))) (.rcons (.vint .u8 (.c2 (.xint 14) (.var 13) (.lit (0)))) (.rcons (.vint .u8 (.c2 (.xint 15) (.var 13) (.lit (0)))) (.rcons (.vint .u8 (.c2 (.xint 16) (.var 13) (.lit (0)))) (.rcons (.vint .u8 (.c2 (.xint 17) (.var 13) (.lit (0)))) (.rcons (.vint .u8 (.c2 (.xint 18) (.var 13) (.lit (0)))) (.rcons (.vint .u8 (.c2 (.xint 19) (.var 13) (.lit (0)))) (.rcons (.vint .u8 (.c2 (.xint 20) (.var 13) (.lit (0)))) (.rcons (.vint .u8 (.c2 (.xint 21) (.var 13) (.lit (0)))) (.rcons (.vint .u8 (.c2 (.xint 22) (.var 13) (.lit (0)))) (.rcons (.vint .u8 (.c2 (.xint 23) (.var 13) (.lit (0)))) (.rcons (.vint .u8 (.c2 (.xint 24) (.var 13) (.lit (0)))) (.rcons (.vint .u8 (.c2 (.xint 25) (.var 13) (.lit (0)))) (.rcons (.vint .u8 (.c2 (.xint 26) (.var 13) (.lit (0)))) (.rcons (.vint .u8 (.c2 (.xint 27) (.var 13) (.lit (0)))) (.rcons (.vint .u8 (.c2 (.xint 28) (.var 13) (.lit (0)))) (.rcons (.vint .u8 (.c2 (.xint 29) (.var 13) (.lit (0)))) (.rcons (.vint .u8 (.c2 (.xint 30) (.var 13) (.lit (0)))) (.rcons (.vint .u8 (.c2 (.xint 31) (.var 13) (.lit (0)))) .rnil))))))))))))))))))))))))))))))))))], [((.lit (0)), (.lit (0)))], [], []⟩ (.both (.post 5 0 ⟨0, [(9, (.t (.var 15))), (8, (.t (.var 19))), (7, (.t (.var 15))), (6, (.t (.lit (3)))), (5, (.r 14)), (3, (.t (.lit (2)))), (2, (.t (.lit (3)))), (1, (.t (.lit (3)))), (0, (.t (.lit (2)))), (4, (.t (.rcons (.vint .u8 (.c2 (.xint 0) (.var 13) (.lit (0)))) (.rcons (.vint .u8 (.c2 (.xint 1) (.var 13) (.lit (0)))) (.rcons (.vint .u8 (.c2 (.xint 2) (.var 13) (.lit (0)))) (.rcons (.vint .u8 (.c2 (.xint 3) (.var 13) (.lit (0)))) (.rcons (.vint .u8 (.c2 (.xint 4) (.var 13) (.lit (0)))) (.rcons (.vint .u8 (.c2 (.xint 5) (.var 13) (.lit (0)))) (.rcons (.vint .u8 (.c2 (.xint 6) (.var 13) (.lit (0)))) (.rcons (.vint .u8 (.c2 (.xint 7) (.var 13) (.lit (0)))) (.rcons (.vint .u8 (.c2 (.xint 8) (.var 13) (.lit (0)))) (.rcons (.vint .u8 (.c2 (.xint 9) (.var 13) (.lit (0)))) (.rcons (.vint .u8 (.c2 (.xint 10) (.var 13) (.lit (0)))) (.rcons (.vint .u8 (.c2 (.xint 11) (.var 13) (.lit (0)))) (.rcons (.vint .u8 (.c2 (.xint 12) (.var 13) (.lit (0)))) (.rcons (.vint .u8 (.c2 (.xint 13) (.var 13) (.lit (0)))) (.rcons (.vint .u8 (.c2 (.xint 14) (.var 13) (.lit (0)))) (.rcons (.vint .u8 (.c2 (.xint 15) (.var 13) (.lit (0)))) (.rcons (.vint .u8 (.c2 (.xint 16) (.var 13) (.lit (0)))) (.rcons (.vint .u8 (.c2 (.xint 17) (.var 13) (.lit (0)))) (.rcons (.vint .u8 (.c2 (.xint 18) (.var 13) (.lit (0)))) (.rcons (.vint .u8 (.c2 (.xint 19) (.var 13) (.lit (0)))) (.rcons (.vint .u8 (.c2 (.xint 20) (.var 13) (.lit (0)))) (.rcons (.vint .u8 (.c2 (.xint 21) (.var 13) (.lit (0)))) (.rcons (.vint .u8 (.c2 (.xint 22) (.var 13) (.lit (0)))) (.rcons (.vint .u8 (.c2 (.xint 23) (.var 13) (.lit (0)))) (.rcons (.vint .u8 (.c2 (.xint 24) (.var 13) (.lit (0)))) (.rcons (.vint .u8 (.c2 (.xint 25) (.var 13) (.lit (0)))) (.rcons (.vint .u8 (.c2 (.xint 26) (.var 13) (.lit (0)))) (.rcons (.vint .u8 (.c2 (.xint 27) (.var 13) (.lit (0)))) (.rcons (.vint .u8 (.c2 (.xint 28) (.var 13) (.lit (0)))) (.rcons (.vint .u8 (.c2 (.xint 29) (.var 13) (.lit (0)))) (.rcons (.vint .u8 (.c2 (.xint 30) (.var 13) (.lit (0)))) (.rcons (.vint .u8 (.c2 (.xint 31) (.var 13) (.lit (0)))) .rnil))))))))))))))))))))))))))))))))))], [((.lit (0)), (.lit (0)))], [], []⟩ 23 (.stuck 7 0 0)) (.both (.fresh 23 (.fresh 24 (.fresh 25 (.fresh 26 (.post 5 1 ⟨0, [(9, (.t (.var 15))), (8, (.t (.var 19))), (7, (.t (.var 15))), (6, (.t (.lit (3)))), (5, (.r 14)), (3, (.t (.lit (2)))), (2, (.t (.lit (3)))), (1, (.t (.lit (3)))), (0, (.t (.lit (2)))), (4, (.t (.rcons (.vint .u8 (.c2 (.xint 0) (.var 13) (.lit (0)))) (.rcons (.vint .u8 (.c2 (.xint 1) (.var 13) (.lit (0)))) (.rcons (.vint .u8 (.c2 (.xint 2) (.var 13) (.lit (0)))) (.rcons (.vint .u8 (.c2 (.xint 3) (.var 13) (.lit (0)))) (.rcons (.vint .u8 (.c2 (.xint 4) (.var 13) (.lit (0)))) (.rcons (.vint .u8 (.c2 (.xint 5) (.var 13) (.lit (0)))) (.rcons (.vint .u8 (.c2 (.xint 6) (.var 13) (.lit (0)))) (.rcons (.vint .u8 (.c2 (.xint 7) (.var 13) (.lit (0)))) (.rcons (.vint .u8 (.c2 (.xint 8) (.var 13) (.lit (0)))) (.rcons (.vint .u8 (.c2 (.xint 9) (.var 13) (.lit (0)))) (.rcons (.vint .u8 (.c2 (.xint 10) (.var 13) (.lit (0)))) (.rcons (.vint .u8 (.c2 (.xint 11) (.var 13) (.lit (0)))) (.rcons (.vint .u8 (.c2 (.xint 12) (.var 13) (.lit (0)))) (.rcons (.vint .u8 (.c2 (.xint 13) (.var 13) (.lit (0)))) (.rcons (.vint .u8 (.c2 (.xint 14) (.var 13) (.lit (0)))) (.rcons (.vint .u8 (.c2 (.xint 15) (.var 13) (.lit (0)))) (.rcons (.vint .u8 (.c2 (.xint 16) (.var 13) (.lit (0)))) (.rcons (.vint .u8 (.c2 (.xint 17) (.var 13) (.lit (0)))) (.rcons (.vint .u8 (.c2 (.xint 18) (.var 13) (.lit (0)))) (.rcons (.vint .u8 (.c2 (.xint 19) (.var 13) (.lit (0)))) (.rcons (.vint .u8 (.c2 (.xint 20) (.var 13) (.lit (0)))) (.rcons (.vint .u8 (.c2 (.xint 21) (.var 13) (.lit (0)))) (.rcons (.vint .u8 (.c2 (.xint 22) (.var 13) (.lit (0)))) (.rcons (.vint .u8 (.c2 (.xint 23) (.var 13) (.lit (0)))) (.rcons (.vint .u8 (.c2 (.xint 24) (.var 13) (.lit (0)))) (.rcons (.vint .u8 (.c2 (.xint 25) (.var 13) (.lit (0)))) (.rcons (.vint .u8 (.c2 (.xint 26) (.var 13) (.lit (0)))) (.rcons (.vint .u8 (.c2 (.xint 27) (.var 13) (.lit (0)))) (.rcons (.vint .u8 (.c2 (.xint 28) (.var 13) (.lit (0)))) (.rcons (.vint .u8 (.c2 (.xint 29) (.var 13) (.lit (0)))) (.rcons (.vint .u8 (.c2 (.xint 30) (.var 13) (.lit (0)))) (.rcons (.vint .u8 (.c2 (.xint 31) (.var 13) (.lit (0)))) .rnil))))))))))))))))))))))))))))))))))], [((.lit (0)), (.lit (0)))], [], []⟩ 23 (.need (.cmp .leq (.lit (0)) (.var 24)) (.br (.cmp .eql (.var 24) (.lit (135)))
 (.know (.cmp .leq (.dlen (.var 26)) (.var 25)) (.need (.cmp .leq (.lit (0)) (.var 25)) (.need (.cmp .leq (.lit (7)) (.var 25)) (.need (.cmp .leq (.lit (7)) (.dlen (.var 26))) (.need (.beq (.bl true) (.c2 .veq (.c1 .vbytes (.dtake (.var 26) (.lit (7)))) (.vstr [77, 1, 2, 3, 3, 0, 2]))) (.ret 0 ⟨2, [], [], [((.bl true), (.c2 .veq (.c1 .vbytes (.dtake (.var 26) (.lit (7)))) (.vstr [77, 1, 2, 3, 3, 0, 2])))], []⟩))))))
 (.stuck 7 0 0)))))))) .top)))))))))))))) .top)))))))) .top))))) .top))))))) .top)))) .top))))
theorem o_known_eq : treeOf ⟨Tryd.prog, knownC, [sha256C, hexC, crcC, newFieldC, makeC, encManC], []⟩ 100000 Tryd.f22 = o_known := by kernel_rfl
theorem known_of (hd : ∀ c ∈ ([sha256C, hexC, crcC, newFieldC, makeC, encManC] : List Ctr), c.ok Tryd.prog) (h : ∀ ρ : Env, ρ.good → (knownC).pre ρ → o_known.den ⟨Tryd.prog, knownC, [sha256C, hexC, crcC, newFieldC, makeC, encManC], []⟩ ρ) : (knownC).ok Tryd.prog :=
  ok_of_tree Tryd.func22 (fun a w => Tryd.call22 a w) hd 100000 (fun ρ hg hp => by rw [o_known_eq]; exact h ρ hg hp)
end Go.Proofs

set_option linter.unusedSimpArgs false
set_option linter.unusedVariables false
set_option maxRecDepth 100000
namespace Go.Proofs
open Go Go.Eng

def o_sizes74 : Out := (.br (.cmp .leq (.lit (1)) (.var 0))
 (.br (.cmp .leq (.var 0) (.var 1))
 (.ret 0 ⟨2, [(2, (.t (.cmp .leq (.var 1) (.lit (255)))))], [], [], []⟩)
 (.ret 0 ⟨2, [(2, (.t (.bl false)))], [], [], []⟩))
 (.ret 0 ⟨2, [(2, (.t (.bl false)))], [], [], []⟩))
theorem o_sizes74_eq : treeOf ⟨Tryd.prog, sizes74C, [], []⟩ 100000 Tryd.f104 = o_sizes74 := by kernel_rfl
theorem sizes74_of (hd : ∀ c ∈ ([] : List Ctr), c.ok Tryd.prog) (h : ∀ ρ : Env, ρ.good → (sizes74C).pre ρ → o_sizes74.den ⟨Tryd.prog, sizes74C, [], []⟩ ρ) : (sizes74C).ok Tryd.prog :=
  ok_of_tree Tryd.func104 (fun a w => Tryd.call104 a w) hd 100000 (fun ρ hg hp => by rw [o_sizes74_eq]; exact h ρ hg hp)
def o_piece26 : Out := (.br (.cmp .lss (.var 0) (.lit (1)))
 (.ret 0 ⟨2, [(3, (.t (.lit (2)))), (2, (.t (.lit (0))))], [], [], []⟩)
 (.br (.cmp .gtr (.var 0) (.lit (255)))
 (.ret 0 ⟨2, [(3, (.t (.lit (2)))), (2, (.t (.lit (0))))], [], [], []⟩)
 (.br (.cmp .lss (.var 1) (.lit (0)))
 (.ret 0 ⟨2, [(3, (.t (.lit (2)))), (2, (.t (.lit (0))))], [], [], []⟩)
 (.br (.cmp .gtr (.var 1) (.lit (8192)))
 (.ret 0 ⟨2, [(3, (.t (.lit (2)))), (2, (.t (.lit (0))))], [], [], []⟩)
 (.need (.cmp .neq (.var 0) (.lit (0))) (.ret 0 ⟨2, [(3, (.t (.lit (0)))), (2, (.t (.arith .quo .i64 (.arith .sub .i64 (.arith .add .i64 (.var 1) (.var 0)) (.lit (1))) (.var 0))))], [], [], []⟩))))))
theorem o_piece26_eq : treeOf ⟨Tryd.prog, piece26C, [], []⟩ 100000 Tryd.f79 = o_piece26 := by kernel_rfl
theorem piece26_of (hd : ∀ c ∈ ([] : List Ctr), c.ok Tryd.prog) (h : ∀ ρ : Env, ρ.good → (piece26C).pre ρ → o_piece26.den ⟨Tryd.prog, piece26C, [], []⟩ ρ) : (piece26C).ok Tryd.prog :=
  ok_of_tree Tryd.func79 (fun a w => Tryd.call79 a w) hd 100000 (fun ρ hg hp => by rw [o_piece26_eq]; exact h ρ hg hp)
def o_zero82 : Out := (.fresh 2 (.need (.cmp .leq (.lit (0)) (.arith .mul .i64 (.var 0) (.var 1))) (.need (.cmp .leq (.tims (.lit (1)) (.arith .mul .i64 (.var 0) (.var 1))) (.lit (281474976710656))) (.fresh 3 (.ret 0 ⟨2, [(5, (.t (.drep (.arith .mul .i64 (.var 0) (.var 1)) (.rcons (.vint .u8 (.lit (0))) .rnil)))), (4, (.t (.arith .mul .i64 (.var 0) (.var 1)))), (3, (.t (.arith .mul .i64 (.var 0) (.var 1)))), (2, (.r 3))], [((.var 4), (.arith .mul .i64 (.var 0) (.var 1))), ((.lit (0)), (.lit (0))), ((.var 1), (.var 1)), ((.var 0), (.var 0))], [], []⟩)))))
theorem o_zero82_eq : treeOf ⟨Tryd.prog, zero82C, [], []⟩ 100000 Tryd.f136 = o_zero82 := by kernel_rfl
theorem zero82_of (hd : ∀ c ∈ ([] : List Ctr), c.ok Tryd.prog) (h : ∀ ρ : Env, ρ.good → (zero82C).pre ρ → o_zero82.den ⟨Tryd.prog, zero82C, [], []⟩ ρ) : (zero82C).ok Tryd.prog :=
  ok_of_tree Tryd.func136 (fun a w => Tryd.call136 a w) hd 100000 (fun ρ hg hp => by rw [o_zero82_eq]; exact h ρ hg hp)
def o_row75 : Out := (.fresh 8 (.need (.cmp .leq (.lit (0)) (.var 3)) (.need (.cmp .leq (.lit (0)) (.var 4)) (.need (.cmp .leq (.lit (0)) (.arith .mul .i64 (.var 7) (.var 1))) (.need (.cmp .leq (.arith .mul .i64 (.var 7) (.var 1)) (.arith .mul .i64 (.arith .add .i64 (.var 7) (.lit (1))) (.var 1))) (.need (.cmp .leq (.arith .mul .i64 (.arith .add .i64 (.var 7) (.lit (1))) (.var 1)) (.var 4)) (.ret 0 ⟨8, [(10, (.t (.minus (.arith .mul .i64 (.arith .add .i64 (.var 7) (.lit (1))) (.var 1)) (.arith .mul .i64 (.var 7) (.var 1))))), (9, (.t (.minus (.arith .mul .i64 (.arith .add .i64 (.var 7) (.lit (1))) (.var 1)) (.arith .mul .i64 (.var 7) (.var 1))))), (8, (.t (.ife (.arith .mul .i64 (.arith .add .i64 (.var 7) (.lit (1))) (.var 1)) (.arith .mul .i64 (.var 7) (.var 1)) (.lit (0)) (.arith .mul .i64 (.var 7) (.var 1)))))], [], [], []⟩)))))))
theorem o_row75_eq : treeOf ⟨Tryd.prog, row75C, [], []⟩ 100000 Tryd.f106 = o_row75 := by kernel_rfl
theorem row75_of (hd : ∀ c ∈ ([] : List Ctr), c.ok Tryd.prog) (h : ∀ ρ : Env, ρ.good → (row75C).pre ρ → o_row75.den ⟨Tryd.prog, row75C, [], []⟩ ρ) : (row75C).ok Tryd.prog :=
  ok_of_tree Tryd.func106 (fun a w => Tryd.call106 a w) hd 100000 (fun ρ hg hp => by rw [o_row75_eq]; exact h ρ hg hp)
def o_valid36 : Out := (.fresh 7 (.br (.cmp .geq (.var 0) (.lit (1)))
 (.br (.cmp .leq (.var 0) (.lit (255)))
 (.br (.cmp .geq (.var 1) (.lit (1)))
 (.br (.cmp .leq (.var 1) (.lit (255)))
 (.need (.cmp .leq (.lit (0)) (.var 3)) (.ret 0 ⟨7, [(7, (.t (.cmp .eql (.var 3) (.arith .mul .i64 (.var 0) (.var 1)))))], [], [], []⟩))
 (.ret 0 ⟨7, [(7, (.t (.bl false)))], [], [], []⟩))
 (.ret 0 ⟨7, [(7, (.t (.bl false)))], [], [], []⟩))
 (.ret 0 ⟨7, [(7, (.t (.bl false)))], [], [], []⟩))
 (.ret 0 ⟨7, [(7, (.t (.bl false)))], [], [], []⟩)))
theorem o_valid36_eq : treeOf ⟨Tryd.prog, valid36C, [], []⟩ 100000 Tryd.f138 = o_valid36 := by kernel_rfl
theorem valid36_of (hd : ∀ c ∈ ([] : List Ctr), c.ok Tryd.prog) (h : ∀ ρ : Env, ρ.good → (valid36C).pre ρ → o_valid36.den ⟨Tryd.prog, valid36C, [], []⟩ ρ) : (valid36C).ok Tryd.prog :=
  ok_of_tree Tryd.func138 (fun a w => Tryd.call138 a w) hd 100000 (fun ρ hg hp => by rw [o_valid36_eq]; exact h ρ hg hp)
def o_clone84 : Out := (.fresh 7 (.fresh 8 (.both (.fresh 9 (.both (.need (.cmp .leq (.lit (0)) (.var 3)) (.need (.cmp .leq (.var 3) (.dlen (.var 5))) (.need (.cmp .leq (.tims (.lit (1)) (.var 3)) (.lit (140737488355328))) (.fresh 10 (.fresh 11 (.both (.both (.ret 0 ⟨7, [(9, (.t (.dtake (.var 5) (.var 3)))), (8, (.t (.var 11))), (7, (.r 10))], [((.var 8), (.var 11)), ((.var 3), (.var 3)), ((.lit (0)), (.lit (0))), ((.var 1), (.var 1)), ((.var 0), (.var 0))], [], []⟩) .top) .top)))))) .top)) .top)))
theorem o_clone84_eq : treeOf ⟨Tryd.prog, clone84C, [], []⟩ 100000 Tryd.f141 = o_clone84 := by kernel_rfl
theorem clone84_of (hd : ∀ c ∈ ([] : List Ctr), c.ok Tryd.prog) (h : ∀ ρ : Env, ρ.good → (clone84C).pre ρ → o_clone84.den ⟨Tryd.prog, clone84C, [], []⟩ ρ) : (clone84C).ok Tryd.prog :=
  ok_of_tree Tryd.func141 (fun a w => Tryd.call141 a w) hd 100000 (fun ρ hg hp => by rw [o_clone84_eq]; exact h ρ hg hp)
def o_addTo : Out := (.br (.cmp .eql (.var 14) (.lit (0)))
 (.ret 0 ⟨15, [(16, (.t (.var 6))), (15, (.t (.var 1)))], [((.var 7), (.var 7)), ((.lit (1)), (.lit (1)))], [], []⟩)
 (.need (.cmp .leq (.lit (0)) (.var 10)) (.inv 0 15 ⟨1000, [(1002, (.t (.var 6))), (1001, (.t (.var 1))), (1000, (.t (.lit (0))))], [((.var 7), (.var 7)), ((.lit (1)), (.lit (1))), ((.var 10), (.var 10)), ((.var 11), (.var 11)), ((.var 10), (.var 10)), ((.var 9), (.var 9)), ((.var 14), (.var 14)), ((.var 5), (.var 5)), ((.var 4), (.var 4)), ((.var 3), (.var 3)), ((.lit (0)), (.lit (0)))], [], []⟩ (.fresh 15 (.fresh 16 (.fresh 17 (.hyp 0 15 (.br (.cmp .lss (.var 15) (.var 10))
 (.need (.cmp .leq (.lit (0)) (.var 15)) (.need (.cmp .leq (.lit (0)) (.var 9)) (.need (.cmp .leq (.lit (0)) (.plus (.var 9) (.var 15))) (.need (.cmp .lss (.plus (.var 9) (.var 15)) (.dlen (.var 12))) (.need (.cmp .lss (.var 15) (.var 4)) (.need (.cmp .leq (.lit (0)) (.var 3)) (.need (.cmp .leq (.lit (0)) (.plus (.var 3) (.var 15))) (.need (.cmp .lss (.plus (.var 3) (.var 15)) (.dlen (.var 17))) (.both (.pre 0 ⟨0, [(1, (.t (.var 16))), (3, (.t (.icell (.var 12) (.plus (.var 9) (.var 15)) 0))), (2, (.t (.var 14))), (0, (.r 0))], [((.lit (1)), (.lit (1))), ((.lit (0)), (.lit (0)))], [], []⟩ (.both (.fresh 18 (.fresh 19 (.post 0 0 ⟨0, [(1, (.t (.var 16))), (3, (.t (.icell (.var 12) (.plus (.var 9) (.var 15)) 0))), (2, (.t (.var 14))), (0, (.r 0))], [((.lit (1)), (.lit (1))), ((.lit (0)), (.lit (0)))], [], []⟩ 18 (.both (.back 0 15 ⟨1000, [(1002, (.t (.dput (.var 17) (.plus (.var 3) (.var 15)) 0 (.rcons (.vint .u8 (.arith .xor .u8 (.icell (.var 17) (.plus (.var 3) (.var 15)) 0) (.var 18))) .rnil)))), (1001, (.t (.var 19))), (1000, (.t (.arith .add .i64 (.var 15) (.lit (1)))))], [((.var 7), (.var 7)), ((.lit (1)), (.lit (1))), ((.var 10), (.var 10)), ((.var 11), (.var 11)), ((.var 10), (.var 10)), ((.var 9), (.var 9)), ((.var 14), (.var 14)), ((.var 5), (.var 5)), ((.var 4), (.var 4)), ((.var 3), (.var 3)), ((.lit (0)), (.lit (0)))], [], []⟩) .top)))) .top)) .top)))))))))
 (.ret 0 ⟨15, [(16, (.t (.var 17))), (15, (.t (.var 16)))], [((.var 7), (.var 7)), ((.lit (1)), (.lit (1)))], [], []⟩)))))))))
theorem o_addTo_eq : treeOf ⟨Tryd.prog, addToC, [mulC], [addToI]⟩ 100000 Tryd.f107 = o_addTo := by kernel_rfl
theorem addTo_of (hd : ∀ c ∈ ([mulC] : List Ctr), c.ok Tryd.prog) (h : ∀ ρ : Env, ρ.good → (addToC).pre ρ → o_addTo.den ⟨Tryd.prog, addToC, [mulC], [addToI]⟩ ρ) : (addToC).ok Tryd.prog :=
  ok_of_tree Tryd.func107 (fun a w => Tryd.call107 a w) hd 100000 (fun ρ hg hp => by rw [o_addTo_eq]; exact h ρ hg hp)
def o_addToSame : Out := (.br (.cmp .eql (.var 11) (.lit (0)))
 (.ret 0 ⟨12, [(13, (.t (.var 6))), (12, (.t (.var 1)))], [((.var 7), (.var 7)), ((.lit (1)), (.lit (1)))], [], []⟩)
 (.need (.cmp .leq (.lit (0)) (.var 9)) (.inv 0 12 ⟨1000, [(1002, (.t (.var 6))), (1001, (.t (.var 1))), (1000, (.t (.lit (0))))], [((.var 7), (.var 7)), ((.lit (1)), (.lit (1))), ((.var 9), (.var 9)), ((.var 10), (.var 10)), ((.var 9), (.var 9)), ((.var 8), (.var 8)), ((.var 11), (.var 11)), ((.var 5), (.var 5)), ((.var 4), (.var 4)), ((.var 3), (.var 3)), ((.lit (0)), (.lit (0)))], [], []⟩ (.fresh 12 (.fresh 13 (.fresh 14 (.hyp 0 12 (.br (.cmp .lss (.var 12) (.var 9))
 (.need (.cmp .leq (.lit (0)) (.var 12)) (.need (.cmp .leq (.lit (0)) (.var 8)) (.need (.cmp .leq (.lit (0)) (.plus (.var 8) (.var 12))) (.need (.cmp .lss (.plus (.var 8) (.var 12)) (.dlen (.var 14))) (.need (.cmp .lss (.var 12) (.var 4)) (.need (.cmp .leq (.lit (0)) (.var 3)) (.need (.cmp .leq (.lit (0)) (.plus (.var 3) (.var 12))) (.need (.cmp .lss (.plus (.var 3) (.var 12)) (.dlen (.var 14))) (.both (.pre 0 ⟨0, [(1, (.t (.var 13))), (3, (.t (.icell (.var 14) (.plus (.var 8) (.var 12)) 0))), (2, (.t (.var 11))), (0, (.r 0))], [((.lit (1)), (.lit (1))), ((.lit (0)), (.lit (0)))], [], []⟩ (.both (.fresh 15 (.fresh 16 (.post 0 0 ⟨0, [(1, (.t (.var 13))), (3, (.t (.icell (.var 14) (.plus (.var 8) (.var 12)) 0))), (2, (.t (.var 11))), (0, (.r 0))], [((.lit (1)), (.lit (1))), ((.lit (0)), (.lit (0)))], [], []⟩ 15 (.both (.back 0 12 ⟨1000, [(1002, (.t (.dput (.var 14) (.plus (.var 3) (.var 12)) 0 (.rcons (.vint .u8 (.arith .xor .u8 (.icell (.var 14) (.plus (.var 3) (.var 12)) 0) (.var 15))) .rnil)))), (1001, (.t (.var 16))), (1000, (.t (.arith .add .i64 (.var 12) (.lit (1)))))], [((.var 7), (.var 7)), ((.lit (1)), (.lit (1))), ((.var 9), (.var 9)), ((.var 10), (.var 10)), ((.var 9), (.var 9)), ((.var 8), (.var 8)), ((.var 11), (.var 11)), ((.var 5), (.var 5)), ((.var 4), (.var 4)), ((.var 3), (.var 3)), ((.lit (0)), (.lit (0)))], [], []⟩) .top)))) .top)) .top)))))))))
 (.ret 0 ⟨12, [(13, (.t (.var 14))), (12, (.t (.var 13)))], [((.var 7), (.var 7)), ((.lit (1)), (.lit (1)))], [], []⟩)))))))))
theorem o_addToSame_eq : treeOf ⟨Tryd.prog, addToS, [mulC], [addToSI]⟩ 100000 Tryd.f107 = o_addToSame := by kernel_rfl
theorem addToSame_of (hd : ∀ c ∈ ([mulC] : List Ctr), c.ok Tryd.prog) (h : ∀ ρ : Env, ρ.good → (addToS).pre ρ → o_addToSame.den ⟨Tryd.prog, addToS, [mulC], [addToSI]⟩ ρ) : (addToS).ok Tryd.prog :=
  ok_of_tree Tryd.func107 (fun a w => Tryd.call107 a w) hd 100000 (fun ρ hg hp => by rw [o_addToSame_eq]; exact h ρ hg hp)
def o_scale : Out := (.need (.cmp .leq (.lit (0)) (.var 4)) (.inv 0 9 ⟨1000, [(1002, (.t (.var 6))), (1001, (.t (.var 1))), (1000, (.t (.lit (0))))], [((.var 7), (.var 7)), ((.lit (1)), (.lit (1))), ((.var 4), (.var 4)), ((.var 5), (.var 5)), ((.var 4), (.var 4)), ((.var 3), (.var 3)), ((.var 8), (.var 8)), ((.var 5), (.var 5)), ((.var 4), (.var 4)), ((.var 3), (.var 3)), ((.lit (0)), (.lit (0)))], [], []⟩ (.fresh 9 (.fresh 10 (.fresh 11 (.hyp 0 9 (.br (.cmp .lss (.var 9) (.var 4))
 (.need (.cmp .leq (.lit (0)) (.var 9)) (.need (.cmp .leq (.lit (0)) (.var 3)) (.need (.cmp .leq (.lit (0)) (.plus (.var 3) (.var 9))) (.need (.cmp .lss (.plus (.var 3) (.var 9)) (.dlen (.var 11))) (.pre 0 ⟨0, [(1, (.t (.var 10))), (3, (.t (.var 8))), (2, (.t (.icell (.var 11) (.plus (.var 3) (.var 9)) 0))), (0, (.r 0))], [((.lit (1)), (.lit (1))), ((.lit (0)), (.lit (0)))], [], []⟩ (.both (.fresh 12 (.fresh 13 (.post 0 0 ⟨0, [(1, (.t (.var 10))), (3, (.t (.var 8))), (2, (.t (.icell (.var 11) (.plus (.var 3) (.var 9)) 0))), (0, (.r 0))], [((.lit (1)), (.lit (1))), ((.lit (0)), (.lit (0)))], [], []⟩ 12 (.back 0 9 ⟨1000, [(1002, (.t (.dput (.var 11) (.plus (.var 3) (.var 9)) 0 (.rcons (.vint .u8 (.var 12)) .rnil)))), (1001, (.t (.var 13))), (1000, (.t (.arith .add .i64 (.var 9) (.lit (1)))))], [((.var 7), (.var 7)), ((.lit (1)), (.lit (1))), ((.var 4), (.var 4)), ((.var 5), (.var 5)), ((.var 4), (.var 4)), ((.var 3), (.var 3)), ((.var 8), (.var 8)), ((.var 5), (.var 5)), ((.var 4), (.var 4)), ((.var 3), (.var 3)), ((.lit (0)), (.lit (0)))], [], []⟩)))) .top))))))
 (.ret 0 ⟨9, [(10, (.t (.var 11))), (9, (.t (.var 10)))], [((.var 7), (.var 7)), ((.lit (1)), (.lit (1)))], [], []⟩))))))))
theorem o_scale_eq : treeOf ⟨Tryd.prog, scaleC, [mulC], [scaleI]⟩ 100000 Tryd.f146 = o_scale := by kernel_rfl
theorem scale_of (hd : ∀ c ∈ ([mulC] : List Ctr), c.ok Tryd.prog) (h : ∀ ρ : Env, ρ.good → (scaleC).pre ρ → o_scale.den ⟨Tryd.prog, scaleC, [mulC], [scaleI]⟩ ρ) : (scaleC).ok Tryd.prog :=
  ok_of_tree Tryd.func146 (fun a w => Tryd.call146 a w) hd 100000 (fun ρ hg hp => by rw [o_scale_eq]; exact h ρ hg hp)
def o_inv51 : Out := (.br (.and (.cmp .eql (.dlen (.var 1)) (.lit (0))) (.isnil 0))
 (.ret 0 ⟨3, [(5, (.t (.var 1))), (4, (.t (.lit (1)))), (3, (.t (.lit (0))))], [((.lit (1)), (.lit (1)))], [], []⟩)
 (.br (.cmp .eql (.var 2) (.lit (0)))
 (.ret 0 ⟨3, [(5, (.t (.var 1))), (4, (.t (.lit (2)))), (3, (.t (.lit (0))))], [((.lit (1)), (.lit (1)))], [], []⟩)
 (.need (.cmp .lss (.lit (0)) (.dlen (.var 1))) (.pre 0 ⟨0, [(1, (.t (.var 1))), (0, (.r 0))], [((.lit (1)), (.lit (1))), ((.lit (0)), (.lit (0))), ((.lit (0)), (.lit (0)))], [], []⟩ (.both (.fresh 3 (.post 0 0 ⟨0, [(1, (.t (.var 1))), (0, (.r 0))], [((.lit (1)), (.lit (1))), ((.lit (0)), (.lit (0))), ((.lit (0)), (.lit (0)))], [], []⟩ 3 (.need (.cmp .lss (.lit (0)) (.dlen (.var 3))) (.need (.cmp .leq (.lit (0)) (.var 2)) (.need (.cmp .lss (.var 2) (.lit (256))) (.need (.cmp .leq (.lit (0)) (.arith .sub .i64 (.lit (255)) (.c2 (.xint 513) (.var 3) (.var 2)))) (.need (.cmp .lss (.arith .sub .i64 (.lit (255)) (.c2 (.xint 513) (.var 3) (.var 2))) (.lit (510))) (.ret 0 ⟨3, [(5, (.t (.var 3))), (4, (.t (.lit (0)))), (3, (.t (.c2 (.xint 3) (.var 3) (.arith .sub .i64 (.lit (255)) (.c2 (.xint 513) (.var 3) (.var 2))))))], [((.lit (1)), (.lit (1)))], [], []⟩)))))))) .top)))))
theorem o_inv51_eq : treeOf ⟨Tryd.prog, inv51C, [onceC], []⟩ 100000 Tryd.f145 = o_inv51 := by kernel_rfl
theorem inv51_of (hd : ∀ c ∈ ([onceC] : List Ctr), c.ok Tryd.prog) (h : ∀ ρ : Env, ρ.good → (inv51C).pre ρ → o_inv51.den ⟨Tryd.prog, inv51C, [onceC], []⟩ ρ) : (inv51C).ok Tryd.prog :=
  ok_of_tree Tryd.func145 (fun a w => Tryd.call145 a w) hd 100000 (fun ρ hg hp => by rw [o_inv51_eq]; exact h ρ hg hp)
def o_pow37 : Out := (.br (.and (.cmp .eql (.dlen (.var 1)) (.lit (0))) (.isnil 0))
 (.ret 0 ⟨4, [(5, (.t (.var 1))), (4, (.t (.lit (0))))], [((.lit (1)), (.lit (1)))], [], []⟩)
 (.br (.cmp .leq (.var 3) (.lit (0)))
 (.ret 0 ⟨4, [(5, (.t (.var 1))), (4, (.t (.lit (1))))], [((.lit (1)), (.lit (1)))], [], []⟩)
 (.br (.cmp .eql (.var 2) (.lit (0)))
 (.ret 0 ⟨4, [(5, (.t (.var 1))), (4, (.t (.lit (0))))], [((.lit (1)), (.lit (1)))], [], []⟩)
 (.need (.cmp .lss (.lit (0)) (.dlen (.var 1))) (.pre 0 ⟨0, [(1, (.t (.var 1))), (0, (.r 0))], [((.lit (1)), (.lit (1))), ((.lit (0)), (.lit (0))), ((.lit (0)), (.lit (0)))], [], []⟩ (.both (.fresh 4 (.post 0 0 ⟨0, [(1, (.t (.var 1))), (0, (.r 0))], [((.lit (1)), (.lit (1))), ((.lit (0)), (.lit (0))), ((.lit (0)), (.lit (0)))], [], []⟩ 4 (.need (.cmp .lss (.lit (0)) (.dlen (.var 4))) (.need (.cmp .leq (.lit (0)) (.var 2)) (.need (.cmp .lss (.var 2) (.lit (256))) (.need (.cmp .leq (.lit (0)) (.arith .rem .i64 (.arith .mul .i64 (.c2 (.xint 513) (.var 4) (.var 2)) (.arith .rem .i64 (.var 3) (.lit (255)))) (.lit (255)))) (.need (.cmp .lss (.arith .rem .i64 (.arith .mul .i64 (.c2 (.xint 513) (.var 4) (.var 2)) (.arith .rem .i64 (.var 3) (.lit (255)))) (.lit (255))) (.lit (510))) (.ret 0 ⟨4, [(5, (.t (.var 4))), (4, (.t (.c2 (.xint 3) (.var 4) (.arith .rem .i64 (.arith .mul .i64 (.c2 (.xint 513) (.var 4) (.var 2)) (.arith .rem .i64 (.var 3) (.lit (255)))) (.lit (255))))))], [((.lit (1)), (.lit (1)))], [], []⟩)))))))) .top))))))
theorem o_pow37_eq : treeOf ⟨Tryd.prog, pow37C, [onceC], []⟩ 100000 Tryd.f137 = o_pow37 := by kernel_rfl
theorem pow37_of (hd : ∀ c ∈ ([onceC] : List Ctr), c.ok Tryd.prog) (h : ∀ ρ : Env, ρ.good → (pow37C).pre ρ → o_pow37.den ⟨Tryd.prog, pow37C, [onceC], []⟩ ρ) : (pow37C).ok Tryd.prog :=
  ok_of_tree Tryd.func137 (fun a w => Tryd.call137 a w) hd 100000 (fun ρ hg hp => by rw [o_pow37_eq]; exact h ρ hg hp)
end Go.Proofs
