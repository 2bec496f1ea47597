/- The code's polynomial through points: plain laws of the steps. -/
import Derived.Test.YtkiheclcmgbmnaaVC
set_option linter.unusedSimpArgs false
set_option linter.unusedVariables false
namespace Go.Proofs
open Go Go.Eng
theorem field_ne {d : Rows'} (h : fieldD d) : d ≠ [] := by
  rcases h with h | h
  · rw [h]; simp
  · intro h0
    have : doneD.length = 0 := by rw [← h, h0]; rfl
    rw [doneD, putX_len, builtD, buildN_len] at this
    cases this
theorem seen_zero {d : Rows'} : seenOk d [List.replicate 256 (.bool false)] 0 := by
  refine ⟨fun i j hi => by omega, ⟨_, rfl, List.length_replicate ..⟩, fun x hx => ⟨fun h => ?_, fun ⟨j, hj, _⟩ => by omega⟩⟩
  exfalso
  have h2 : cellXB [List.replicate 256 (Value.bool false)] x.toNat = false := by
    unfold cellXB
    rw [List.headD_cons, List.getElem?_replicate, if_pos (by have := hx.2; omega)]; rfl
  rw [h2] at h; cases h
theorem seen_step {d s : Rows'} {i : Int} (h : seenOk d s i.toNat) (i0 : 0 ≤ i) (i1 : i < d.length) (hd : allP d) (hx : cellXB s (cellI d i 0).toNat = false) : seenOk d (putX s (cellI d i 0).toNat (.bool true)) (i.toNat + 1) := by
  obtain ⟨h1, ⟨row, rfl, hr⟩, h2⟩ := h
  have hb := (hd i i0 i1).1
  have hne : ∀ j : Nat, j < i.toNat → cellI d (j : Int) 0 ≠ cellI d i 0 := fun j hj he => by
    rw [(h2 _ hb).2 ⟨j, hj, he⟩] at hx; cases hx
  refine ⟨distinct_step h1 fun j hj he => ?_, ⟨_, rfl, by rw [List.length_set]; exact hr⟩, fun x hxb => ?_⟩
  · rw [ptX_cell i0] at he
    exact hne j hj (toF_inj (hd _ (by omega) (by omega)).1 hb he.symm)
  · have hc : cellXB (putX [row] (cellI d i 0).toNat (.bool true)) x.toNat = if x = cellI d i 0 then true else cellXB [row] x.toNat := by
      unfold cellXB putX
      rw [List.headD_cons, List.headD_cons, List.getElem?_set]
      by_cases hxe : x = cellI d i 0
      · rw [if_pos (by rw [hxe]), if_pos (by have := hb.2; omega), if_pos hxe]; rfl
      · rw [if_neg (fun e => hxe (by have := hb.1; have := hxb.1; omega)), if_neg hxe]
    rw [hc]
    by_cases hxe : x = cellI d i 0
    · rw [if_pos hxe]
      exact ⟨fun _ => ⟨i.toNat, by omega, by rw [hxe, Int.toNat_of_nonneg i0]⟩, fun _ => rfl⟩
    · rw [if_neg hxe, h2 x hxb]
      constructor
      · rintro ⟨j, hj, he⟩; exact ⟨j, by omega, he⟩
      · rintro ⟨j, hj, he⟩
        refine ⟨j, ?_, he⟩
        by_cases hji : j = i.toNat
        · exact (hxe (by rw [← he, hji, Int.toNat_of_nonneg i0])).elim
        · omega
theorem seen_twice {d s : Rows'} {i : Int} (h : seenOk d s i.toNat) (i0 : 0 ≤ i) (i1 : i < d.length) (hd : allP d) (hx : cellXB s (cellI d i 0).toNat = true) : ¬ distinct d.length (ptX d) := fun h' => by
  obtain ⟨j, hj, he⟩ := (h.2.2 _ (hd i i0 i1).1).1 hx
  have := h' j i.toNat (by omega) (by omega) (by rw [ptX_cell i0, ← he]; rfl)
  omega
/-! ### Divided differences -/
theorem dd_zero {d : Rows'} {i : Nat} : ddAt d 0 i = ptY d i := by
  unfold ddAt
  rw [Nat.min_zero, Nat.sub_zero]; rfl
theorem dd_low {d : Rows'} {t i : Nat} (h : i ≤ t) : ddAt d t i = ddF (ptX d) (ptY d) 0 i := by
  unfold ddAt
  rw [Nat.min_eq_left h, Nat.sub_self]
theorem dd_step {d : Rows'} {j i : Nat} (h : j + 1 ≤ i) : ddAt d (j + 1) i = fmul (ddAt d j i ^^^ ddAt d j (i - 1)) (finv (ptX d i ^^^ ptX d (i - (j + 1)))) := by
  unfold ddAt
  rw [Nat.min_eq_right h, Nat.min_eq_right (show j ≤ i by omega), Nat.min_eq_right (show j ≤ i - 1 by omega), ddF, show i - (j + 1) + 1 = i - j by omega, show i - 1 - j = i - (j + 1) by omega, show i - (j + 1) + j + 1 = i by omega]
/-! ### Horner's way -/
theorem byDown_len {r : Int} {l : List Int} {c : Nat} : (byDown r l c).length = l.length := by simp [byDown]
theorem byDown_get {r : Int} {l : List Int} {c i : Nat} (h : i < l.length) : (byDown r l c).getD i 0 = if c < i then xorB (l.getD (i - 1) 0) (mulF (l.getD i 0) r) else l.getD i 0 := by
  rw [byDown, List.getD_eq_getElem?_getD, List.getElem?_mapIdx, List.getElem?_eq_getElem h, List.getD_eq_getElem?_getD (i := i), List.getElem?_eq_getElem h]; rfl
theorem byDown_top {r : Int} {l : List Int} {c : Nat} (h : l.length ≤ c + 1) : byDown r l c = l :=
  list_ext_getD byDown_len fun i hi => by
    rw [byDown_len] at hi
    rw [byDown_get hi, if_neg (by omega)]
theorem byDown_step {r : Int} {l : List Int} {c : Nat} (h : c + 1 < l.length) : (byDown r l (c + 1)).set (c + 1) (xorB (l.getD c 0) (mulF (l.getD (c + 1) 0) r)) = byDown r l c := by
  refine list_ext_getD (by rw [List.length_set, byDown_len, byDown_len]) fun i hi => ?_
  rw [List.length_set, byDown_len] at hi
  rw [byDown_get hi, List.getD_eq_getElem?_getD, List.getElem?_set]
  by_cases hij : c + 1 = i
  · subst hij
    rw [if_pos rfl, if_pos (by rw [byDown_len]; exact h), if_pos (by omega)]; rfl
  · rw [if_neg hij, ← List.getD_eq_getElem?_getD, byDown_get hi]
    by_cases h2 : c < i
    · rw [if_pos h2, if_pos (by omega)]
    · rw [if_neg h2, if_neg (by omega)]
theorem hornP_zero {d : Rows'} {n : Int} (hn : n = d.length) : hornP d 0 (bI (List.replicate n.toNat [.int .u8 0])) :=
  ⟨by rw [bI_len, List.length_replicate]; omega, allB_list allB_rep, fun x => fsum_zero fun j _ => by rw [pol_rep, zero_fmul], fun j _ => pol_rep⟩
theorem horn_step {d : Rows'} {k i : Nat} {l l' : List Int} (h : hornP d k l) (hi : i < d.length) (hk : k = d.length - 1 - i) (hl : l'.length = d.length) (hb : bytesL l') (h0 : polF l' 0 = fmul (polF l 0) (ptX d i) ^^^ ddF (ptX d) (ptY d) 0 i)
    (h1 : ∀ j, 1 ≤ j → j < d.length → polF l' j = polF l (j - 1) ^^^ fmul (polF l j) (ptX d i)) : hornP d (k + 1) l' := by
  obtain ⟨l1, l2, l3, l4⟩ := h
  refine ⟨hl, hb, fun x => ?_, fun j hj => ?_⟩
  · obtain ⟨n, hn⟩ : ∃ n, d.length = n + 1 := ⟨d.length - 1, by omega⟩
    have hz : polF l n = 0 := l4 n (by omega)
    have e1 : ∀ j, j < n + 1 → polF l' j = byF (ptX d i) (polF l) j ^^^ (fun j => if j = 0 then ddF (ptX d) (ptY d) 0 i else 0) j := fun j hj => by
      simp only [byF]
      by_cases hj0 : j = 0
      · subst hj0
        rw [h0, if_pos rfl, if_pos rfl, zero_xor', fmul_comm]
      · rw [h1 j (by omega) (by omega), if_neg hj0, if_neg hj0, xor_zero', fmul_comm (x := ptX d i)]
    have e2 : pval (n + 1) (polF l') x = pval (n + 1) (byF (ptX d i) (polF l)) x ^^^ pval (n + 1) (fun j => if j = 0 then ddF (ptX d) (ptY d) 0 i else 0) x := by
      rw [← pval_xor]
      exact fsum_congr fun j hj => by rw [e1 j hj]
    have e3 : pval (n + 1) (fun j => if j = 0 then ddF (ptX d) (ptY d) 0 i else 0) x = ddF (ptX d) (ptY d) 0 i := by
      rw [Nat.add_comm, pval_more (n := 1) fun l hl => if_neg (by omega), pval_one]
      exact if_pos rfl
    have e4 : pval (n + 1) (polF l) x = pval n (polF l) x := by
      show pval n (polF l) x ^^^ fmul (polF l n) (fpow x n) = _
      rw [hz, zero_fmul, xor_zero']
    have e5 : hornN (ptX d) (ddF (ptX d) (ptY d) 0) x d.length (k + 1) = fmul (hornN (ptX d) (ddF (ptX d) (ptY d) 0) x d.length k) (x ^^^ ptX d (d.length - 1 - k)) ^^^ ddF (ptX d) (ptY d) 0 (d.length - 1 - k) := rfl
    rw [e5, ← l3 x, show d.length - 1 - k = i by omega, hn, e2, e3, byF_val hz, e4, fmul_comm]
  · by_cases hjn : j < d.length
    · rw [h1 j (by omega) hjn, l4 (j - 1) (by omega), l4 j (by omega), zero_fmul, xor_self']
    · exact pol_nil (by omega)
theorem horn_end {d : Rows'} {k : Nat} {l : List Int} (hd : distinct d.length (ptX d)) (hk : k = d.length) (h : hornP d k l) : thruP d l := by
  subst hk
  exact ⟨h.1, fun i hi => by rw [h.2.2.1, horn_at hd hi]⟩
end Go.Proofs
