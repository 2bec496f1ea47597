/- Polynomials through points: plain laws of the steps. -/
import Derived.Test.YtkiheclcmgbmnaaV9
import Derived.Test.YtkiheclcmgbmnaaGE
set_option linter.unusedSimpArgs false
set_option linter.unusedVariables false
namespace Go.Proofs
open Go Go.Eng
theorem ltI {l : Nat} {i : Int} : ((l : Int) < i) = (l < i.toNat) := propext ⟨fun h => by omega, fun h => by omega⟩
theorem leI {l : Nat} {i : Int} (h : 0 ≤ i) : ((l : Int) ≤ i) = (l ≤ i.toNat) := propext ⟨fun h => by omega, fun h => by omega⟩
theorem toF_xor {x y : Int} : toF (arithOf .xor .u8 x y) = toF x ^^^ toF y := toF_xorB
theorem xor_byte {x y : Int} : byteP (arithOf .xor .u8 x y) := xorB_isB
theorem pol_len {d : Rows'} {l : Nat} (h : d.length ≤ l) : polF (bI d) l = 0 := by
  unfold polF
  rw [List.getD_eq_getElem?_getD, List.getElem?_eq_none (by rw [bI_len]; exact h)]; rfl
theorem pol_cell {d : Rows'} {i : Int} (h0 : 0 ≤ i) (h1 : i < d.length) : polF (bI d) i.toNat = toF (cellI d i 0) := by
  unfold polF
  rw [cell_getD h0 h1]
theorem pol_put {d : Rows'} {i x : Int} {l : Nat} (h0 : 0 ≤ i) (h1 : i < d.length) : polF (bI (putD d i 0 [.int .u8 x])) l = if l = i.toNat then toF x else polF (bI d) l := by
  unfold polF
  rw [bI_put, List.getD_eq_getElem?_getD, List.getElem?_set]
  by_cases h : l = i.toNat
  · rw [if_pos h.symm, if_pos h, if_pos (by rw [bI_len]; omega)]; rfl
  · rw [if_neg (fun e => h e.symm), if_neg h, List.getD_eq_getElem?_getD]
theorem pol_rep {n l : Nat} : polF (bI (List.replicate n [.int .u8 0])) l = 0 := by
  unfold polF
  rw [bI_rep, List.getD_eq_getElem?_getD, List.getElem?_replicate]
  split <;> rfl
theorem pol_nil {l : Nat} {a : List Int} (h : a.length ≤ l) : polF a l = 0 := by
  unfold polF
  rw [List.getD_eq_getElem?_getD, List.getElem?_eq_none h]; rfl
/-- A step of the product with (x - r). -/
theorem by_step {q q' p : Nat → F} {r : F} {i : Nat} (hq : ∀ l, q l = if l < i then byF r p l else if l = i ∧ 0 < l then p (l - 1) else 0) (h1 : q' i = q i ^^^ fmul (p i) r) (h2 : q' (i + 1) = q (i + 1) ^^^ p i) (h3 : ∀ l, l ≠ i → l ≠ i + 1 → q' l = q l) :
    ∀ l, q' l = if l < i + 1 then byF r p l else if l = i + 1 ∧ 0 < l then p (l - 1) else 0 := fun l => by
  by_cases hi : l = i
  · subst hi
    rw [h1, hq, if_neg (Nat.lt_irrefl l), if_pos (Nat.lt_succ_self l), byF, fmul_comm (x := r)]
    by_cases h0 : l = 0
    · rw [if_pos h0, if_neg (fun h => by omega)]
    · rw [if_neg h0, if_pos ⟨rfl, by omega⟩]
  · by_cases hi1 : l = i + 1
    · subst hi1
      rw [h2, hq, if_neg (by omega), if_neg (by omega), if_neg (by omega), if_pos (by omega), zero_xor', Nat.add_sub_cancel]
    · rw [h3 l hi hi1, hq]
      by_cases hlt : l < i
      · rw [if_pos hlt, if_pos (by omega)]
      · rw [if_neg hlt, if_neg (by omega), if_neg (by omega), if_neg (by omega)]
theorem by_end {q p : Nat → F} {r : F} {n : Nat} (hp : ∀ l, n ≤ l → p l = 0) (hq : ∀ l, q l = if l < n then byF r p l else if l = n ∧ 0 < l then p (l - 1) else 0) : ∀ l, q l = byF r p l := fun l => by
  rw [hq]
  by_cases h1 : l < n
  · rw [if_pos h1]
  · rw [if_neg h1, byF, hp l (by omega), fmul_zero, xor_zero']
    by_cases h2 : l = n
    · by_cases h0 : l = 0
      · rw [if_neg (by omega), if_pos h0]
      · rw [if_pos (by omega), if_neg h0]
    · rw [if_neg (by omega), if_neg (by omega), hp (l - 1) (by omega)]
theorem distinct_step {n : Nat} {xs : Nat → F} (h : distinct n xs) (hn : ∀ j, j < n → xs n ≠ xs j) : distinct (n + 1) xs := fun i j hi hj he => by
  by_cases h1 : i = n
  · by_cases h2 : j = n
    · omega
    · exact (hn j (by omega) (by rw [← h1, he])).elim
  · by_cases h2 : j = n
    · exact (hn i (by omega) (by rw [← h2, he])).elim
    · exact h i j (by omega) (by omega) he
theorem ptX_cell {d : Rows'} {i : Int} (h0 : 0 ≤ i) : ptX d i.toNat = toF (cellI d i 0) := by
  unfold ptX
  rw [Int.toNat_of_nonneg h0]
theorem ptY_cell {d : Rows'} {i : Int} (h0 : 0 ≤ i) : ptY d i.toNat = toF (cellI d i 1) := by
  unfold ptY
  rw [Int.toNat_of_nonneg h0]
theorem pol_one {l : Nat} {xs : Nat → F} : polF (bI [[.int .u8 1]]) l = monF xs 0 l := by
  cases l <;> rfl
theorem lag_zero {d : Rows'} {n : Int} (hn : n = d.length) : lagP d 0 (bI (List.replicate n.toNat [.int .u8 0])) :=
  ⟨by rw [bI_len, List.length_replicate]; omega, allB_list allB_rep, fun m hm => by
    rw [if_neg (by omega)]
    exact fsum_zero fun j _ => by rw [pol_rep, zero_fmul]⟩
/-- The part without one point. -/
theorem part_ok {d : Rows'} {i : Nat} {p q : List Int} (hi : i < d.length) (hl : q.length = d.length) (hb : bytesL q) (hp : ∀ l, polF p l = monF (ptX d) d.length l)
    (hq : ∀ l, 1 ≤ l → l ≤ d.length → polF q (l - 1) = polF p l ^^^ fmul (ptX d i) (polF q l)) : partOk d i q := by
  obtain ⟨m1, m2, m3⟩ := mon_facts (xs := ptX d) d.length
  have hv : ∀ x, pval (d.length + 1) (polF p) x = fprod (fun u => x ^^^ ptX d u) d.length := fun x => by
    rw [← m3 x]; exact fsum_congr fun l _ => by rw [hp l]
  have hz : polF q d.length = 0 := pol_nil (by omega)
  refine ⟨hl, hb, ?_, fun x => ?_⟩
  · rw [hq d.length (by omega) (Nat.le_refl _), hp, m2, hz, fmul_zero, xor_zero']
  · rw [← hv x]
    exact div_root (fun l h1 h2 => hq l h1 h2) hz (by rw [hv]; exact fprod_zero hi xor_self') x
theorem part_other {d : Rows'} {i m : Nat} {q : List Int} (h : partOk d i q) (hd : distinct d.length (ptX d)) (hi : i < d.length) (hm : m < d.length) (hne : m ≠ i) : pval d.length (polF q) (ptX d m) = 0 := by
  obtain ⟨_, _, _, hx⟩ := h
  have h1 := hx (ptX d m)
  rw [fprod_zero (k := m) hm xor_self'] at h1
  by_cases h0 : pval d.length (polF q) (ptX d m) = 0
  · exact h0
  · exfalso
    have hn : ptX d m ^^^ ptX d i ≠ 0 := fun e => hne (hd m i hm hi (xor_eq_zero.1 e))
    have h2 := congrArg (fun z => fmul (finv (ptX d m ^^^ ptX d i)) z) h1
    simp only [fmul_zero] at h2
    rw [← fmul_assoc, fmul_comm (x := finv _), fmul_finv hn, one_fmul] at h2
    exact h0 h2.symm
theorem part_self {d : Rows'} {i : Nat} {q : List Int} (h : partOk d i q) (hd : distinct d.length (ptX d)) (hi : i < d.length) : pval d.length (polF q) (ptX d i) ≠ 0 := fun h0 => by
  have hz := pval_roots hd (fun m hm => by
    by_cases hmi : m = i
    · rw [hmi]; exact h0
    · exact part_other h hd hi hm hmi) (d.length - 1) (by omega)
  rw [h.2.2.1] at hz
  cases hz
/-- One more point. -/
theorem lag_step {d : Rows'} {i : Nat} {l p s : List Int} {c : Int} (hd : distinct d.length (ptX d)) (hi : i < d.length) (hl : lagP d i l) (hp : partOk d i p) (hc : byteP c) (hcv : toF c = fmul (ptY d i) (finv (pval d.length (polF p) (ptX d i))))
    (hs : s = rowTo (fun j x => xorB x (mulF c (p.getD j 0))) l d.length) : lagP d (i + 1) s := by
  obtain ⟨l1, l2, l3⟩ := hl
  have hpn := part_self hp hd hi
  have hpo : ∀ m, m < d.length → m ≠ i → pval d.length (polF p) (ptX d m) = 0 := fun m hm hne => part_other hp hd hi hm hne
  obtain ⟨p1, p2, p3, _⟩ := hp
  have hv : ∀ x, pval d.length (polF s) x = pval d.length (polF l) x ^^^ fmul (toF c) (pval d.length (polF p) x) := fun x => by
    rw [← pval_mul, ← pval_xor]
    refine fsum_congr fun j hj => ?_
    congr 1
    unfold polF
    rw [hs, rowTo_get (by omega), if_pos hj, toF_xorB, toF_mulF hc (bytesL_get p2 j)]
  refine ⟨by rw [hs, rowTo_len]; exact l1, fun x hx => ?_, fun m hm => ?_⟩
  · rw [hs, rowTo, List.mem_mapIdx] at hx
    obtain ⟨j, hj, rfl⟩ := hx
    split
    · exact xorB_isB
    · exact l2 _ (List.getElem_mem hj)
  · rw [hv, l3 m hm]
    by_cases h1 : m = i
    · subst h1
      rw [if_neg (by omega), if_pos (by omega), zero_xor', hcv, fmul_assoc, fmul_comm (x := finv _), fmul_finv hpn, fmul_one]
    · rw [hpo m hm h1, fmul_zero, xor_zero']
      by_cases h2 : m < i
      · rw [if_pos h2, if_pos (by omega)]
      · rw [if_neg h2, if_neg (by omega)]
theorem lag_end {d : Rows'} {l : List Int} {i : Nat} (hi : i = d.length) (h : lagP d i l) : thruP d l := ⟨h.1, fun m hm => by rw [h.2.2 m hm, if_pos (by omega)]⟩
end Go.Proofs
