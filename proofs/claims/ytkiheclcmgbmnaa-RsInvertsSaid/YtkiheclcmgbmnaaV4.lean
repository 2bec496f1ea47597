/- The reference's elimination: plain laws of its steps. -/
import Derived.Test.YtkiheclcmgbmnaaV3
import Derived.Test.YtkiheclcmgbmnaaW8
set_option linter.unusedSimpArgs false
set_option linter.unusedVariables false
namespace Go.Proofs
open Go Go.Eng
theorem matT_put {M : Nat → List Int} {i i' j : Nat} {l : List Int} : matT (put1 M i l) i' j = if i' = i then toF (l.getD j 0) else matT M i' j := by
  unfold matT put1
  by_cases h : i' = i
  · rw [if_pos h, if_pos h]
  · rw [if_neg h, if_neg h]
variable {rows wide c rank : Nat} {T0 : Mat} {M : Nat → List Int}
theorem put_len {i : Nat} {l : List Int} (h : ∀ i, i < rows → (M i).length = wide) (hl : l.length = wide) : ∀ j, j < rows → (put1 M i l j).length = wide := fun j hj => by
  unfold put1
  split
  · exact hl
  · exact h j hj
def swp (a b i : Nat) : Nat := if i = a then b else if i = b then a else i
theorem swp_inj {a b i j : Nat} (h : swp a b i = swp a b j) : i = j := by
  unfold swp at h
  split at h <;> split at h <;> (try split at h) <;> (try split at h) <;> omega
theorem swp_lt {a b n i : Nat} (ha : a < n) (hb : b < n) (hi : i < n) : swp a b i < n := by
  unfold swp
  split
  · exact hb
  · split
    · exact ha
    · exact hi
/-- The pivot's row is brought up. -/
theorem redS_swap (h : redT rows wide T0 c rank M) (hr : rank < rows) {p : Nat} (hp : p < rows) (hrp : rank ≤ p) : redS rows wide T0 c rank fun i => M (swp rank p i) := by
  obtain ⟨he, hl⟩ := h
  refine ⟨M, ⟨he, hl⟩, same_swap hr hp (fun j hj => ?_) (fun j hj => ?_) (fun a ha h1 h2 j hj => ?_), fun c' hc' i hi => ?_, fun i hi => hl _ (swp_lt hr hp hi)⟩
  · simp [matT, swp]
  · show toF ((M (swp rank p p)).getD j 0) = matT M rank j
    unfold swp
    by_cases h0 : p = rank
    · rw [if_pos h0, h0]; rfl
    · rw [if_neg h0, if_pos rfl]; rfl
  · show toF ((M (swp rank p a)).getD j 0) = matT M a j
    unfold swp; rw [if_neg h1, if_neg h2]; rfl
  · have z1 := he.low rank (Nat.le_refl _) hr c' hc'
    have z2 := he.low p hrp hp c' hc'
    show toF ((M (swp rank p i)).getD c' 0) = matT M i c'
    unfold swp
    by_cases h1 : i = rank
    · rw [if_pos h1, h1]; exact z2.trans z1.symm
    · rw [if_neg h1]
      by_cases h2 : i = p
      · rw [if_pos h2, h2]; exact z1.trans z2.symm
      · rw [if_neg h2]; rfl
theorem redS_zero (h : redS rows wide T0 c rank M) (hr : rank < rows) {c' : Nat} (hc : c' < c) : matT M rank c' = 0 := by
  obtain ⟨M0, ⟨he, _⟩, _, h3, _⟩ := h
  rw [h3 c' hc rank hr]
  exact he.low rank (Nat.le_refl _) hr c' hc
theorem redS_len (h : redS rows wide T0 c rank M) : ∀ i, i < rows → (M i).length = wide := by
  obtain ⟨_, _, _, _, hl⟩ := h
  exact hl
/-- The pivot's row is scaled. -/
theorem redS_scale (h : redS rows wide T0 c rank M) (hr : rank < rows) (hc : c < wide) (hcw : c ≤ wide) (hb : bytesL (M rank)) (hne : matT M rank c ≠ 0) {o : Int} (ho : o = invF ((M rank).getD c 0)) :
    redS rows wide T0 c rank (put1 M rank (rowTo (fun _ x => mulF x o) (M rank) wide)) ∧ matT (put1 M rank (rowTo (fun _ x => mulF x o) (M rank) wide)) rank c = 1 := by
  have hl := redS_len h rank hr
  have hrow : ∀ j, j < wide → toF ((rowTo (fun _ x => mulF x o) (M rank) wide).getD j 0) = fmul (matT M rank j) (toF o) := fun j hj => by
    rw [rowTo_get (by rw [hl]; exact hj), if_pos hj, mulF_F (bytesL_get hb _) (by rw [ho]; exact invF_isB (bytesL_get hb _)), toF_ofF]; rfl
  have hoF : toF o = finv (matT M rank c) := by rw [ho, invF_F (bytesL_get hb _), toF_ofF]; rfl
  have hz : ∀ c', c' < c → matT M rank c' = 0 := fun c' hc' => redS_zero h hr hc'
  obtain ⟨M0, h1, h2, h3, h4⟩ := h
  refine ⟨⟨M0, h1, h2.trans (same_mul (i := rank) (g := toF o) hr ?_ (fun j hj => ?_) fun a ha hne j hj => ?_), fun c' hc' i hi => ?_, put_len h4 (by rw [rowTo_len]; exact hl)⟩, ?_⟩
  · rw [hoF]; exact finv_ne hne
  · rw [matT_put, if_pos rfl, hrow j hj]
  · rw [matT_put, if_neg hne]
  · rw [matT_put]
    split
    · rename_i hi'
      rw [hrow c' (by omega), hz c' hc', zero_fmul, hi', ← h3 c' hc' rank hr, hz c' hc']
    · exact h3 c' hc' i hi
  · rw [matT_put, if_pos rfl, hrow c hc, hoF]
    exact fmul_finv hne
/-- A multiple of the pivot's row is added to another row. -/
theorem redS_add (h : redS rows wide T0 c rank M) (hr : rank < rows) (hc : c < wide) {i : Nat} (hi : i < rows) (hir : i ≠ rank) (hb : bytesL (M rank)) (hbi : bytesL (M i)) (h1 : matT M rank c = 1) {g : Int} (hg : g = (M i).getD c 0) :
    redS rows wide T0 c rank (put1 M i (rowTo (fun j x => xorB x (mulF g ((M rank).getD j 0))) (M i) wide)) ∧ matT (put1 M i (rowTo (fun j x => xorB x (mulF g ((M rank).getD j 0))) (M i) wide)) i c = 0 := by
  have hl := redS_len h i hi
  have hrow : ∀ j, j < wide → toF ((rowTo (fun j x => xorB x (mulF g ((M rank).getD j 0))) (M i) wide).getD j 0) = matT M i j ^^^ fmul (toF g) (matT M rank j) := fun j hj => by
    rw [rowTo_get (by rw [hl]; exact hj), if_pos hj, xorB_F, toF_ofF, mulF_F (by rw [hg]; exact bytesL_get hbi _) (bytesL_get hb _), toF_ofF]; rfl
  have hz : ∀ c', c' < c → matT M rank c' = 0 := fun c' hc' => redS_zero h hr hc'
  obtain ⟨M0, e1, e2, e3, e4⟩ := h
  refine ⟨⟨M0, e1, e2.trans (same_add (i := i) (p := rank) (g := toF g) hi hr hir (fun j hj => ?_) fun a ha hne j hj => ?_), fun c' hc' i' hi' => ?_, put_len e4 (by rw [rowTo_len]; exact hl)⟩, ?_⟩
  · rw [matT_put, if_pos rfl, hrow j hj]
  · rw [matT_put, if_neg hne]
  · rw [matT_put]
    split
    · rename_i hii
      rw [hrow c' (by omega), hz c' hc', fmul_zero, xor_zero', hii]
      exact e3 c' hc' i hi
    · exact e3 c' hc' i' hi'
  · rw [matT_put, if_pos rfl, hrow c hc, h1, fmul_one, hg]
    exact xor_self'
/-- All rows but the pivot's have nothing but 0 in the column. -/
theorem redS_done (h : redS rows wide T0 c rank M) (hr : rank < rows) (hc : c < wide) (h1 : matT M rank c = 1) (hz : ∀ i, i < rows → i ≠ rank → matT M i c = 0) : redT rows wide T0 (c + 1) (rank + 1) M := by
  obtain ⟨M0, ⟨he, _⟩, h2, h3, h4⟩ := h
  refine ⟨ech_step he hc hr h2 (fun i hi => ?_) h3, h4⟩
  by_cases hir : i = rank
  · rw [hir, h1, del, if_pos rfl]
  · rw [hz i hi hir, del, if_neg hir]
theorem redT_skip (h : redT rows wide T0 c rank M) (hc : c < wide) (hz : ∀ i, rank ≤ i → i < rows → matT M i c = 0) : redT rows wide T0 (c + 1) rank M := ⟨ech_skip h.1 hc hz, h.2⟩
theorem tab_bytes {h : Hp} {vs : Nat → Value} {n j : Nat} {M : Nat → List Int} (ht : tabV h vs n M) (hj : j < n) : bytesL (M j) := by
  obtain ⟨d, _, e, hb⟩ := ht.1 j hj
  rw [← e]; exact allB_list hb
end Go.Proofs
