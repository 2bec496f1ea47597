/- Encodings of different objects differ; those of sums are sums: plain laws. -/
import Derived.Test.YtkiheclcmgbmnaaW7
set_option linter.unusedSimpArgs false
set_option linter.unusedVariables false
namespace Go.Proofs
open Go Go.Eng
/-- Objects of one size with k pieces alike are alike. -/
theorem enc_inj {k total : Nat} {a b : List Int} (h1 : 1 ≤ k) (hk : k ≤ total) (ht : total ≤ 255) (ha : bytesL a) (hb : bytesL b) (hl : a.length = b.length) {rs : List Int} (hc : chooseOk k total rs)
    (hs : ∀ i, i < k → encP k total a (rs.getD i 0).toNat = encP k total b (rs.getD i 0).toNat) : a = b := by
  have key : ∀ m c, m < k → c < pieceLen k a.length → a.getD (m * pieceLen k a.length + c) 0 = b.getD (m * pieceLen k a.length + c) 0 := fun m c hm hcl => by
    have hz := gen_inj hc h1 hk ht (y := fun m => toF (a.getD (m * pieceLen k a.length + c) 0) ^^^ toF (b.getD (m * pieceLen k a.length + c) 0)) (fun i hi => by
      obtain ⟨_, _, e⟩ := enc_facts h1 hk ht ha (rs.getD i 0).toNat
      obtain ⟨_, _, f⟩ := enc_facts h1 hk ht hb (rs.getD i 0).toNat
      rw [← hl] at f
      have h3 := e c hcl
      rw [hs i hi, f c hcl] at h3
      rw [fsum_congr (g := fun j => fmul (matL k (genL k total) (rs.getD i 0).toNat j) (toF (a.getD (j * pieceLen k a.length + c) 0)) ^^^ fmul (matL k (genL k total) (rs.getD i 0).toNat j) (toF (b.getD (j * pieceLen k a.length + c) 0))) fun j hj => xor_fmul, fsum_xor, ← h3, xor_self']) m hm
    exact toF_inj (bytesL_get ha _) (bytesL_get hb _) (xor_eq_zero.1 hz)
  refine list_ext_getD hl fun p hp => ?_
  have hge := pieceLen_ge' (k := k) (n := a.length) (by omega)
  have hlp : 0 < pieceLen k a.length := by
    rcases Nat.eq_zero_or_pos (pieceLen k a.length) with h | h
    · rw [h] at hge; omega
    · exact h
  have hm : p / pieceLen k a.length < k := Nat.div_lt_of_lt_mul (by rw [Nat.mul_comm]; omega)
  have := key _ _ hm (Nat.mod_lt p hlp)
  rwa [show p / pieceLen k a.length * pieceLen k a.length + p % pieceLen k a.length = p by rw [Nat.mul_comm]; exact Nat.div_add_mod p _] at this
theorem filter_two {α : Type} {p : α → Bool} : ∀ l : List α, l.length = (l.filter p).length + (l.filter fun x => !p x).length
  | [] => rfl
  | x :: l => by
    have ih := filter_two (p := p) l
    by_cases h : p x = true <;> simp [h] <;> omega
theorem cntD_succ {f g : Nat → List Int} {n : Nat} : cntD f g (n + 1) = cntD f g n + if f n = g n then 0 else 1 := by
  unfold cntD
  rw [List.range_succ, List.filter_append, List.length_append]
  by_cases h : f n = g n
  · simp [h]
  · simp [h]
theorem getD_map {l : List Nat} {i : Nat} (h : i < l.length) : ((l.map fun (m : Nat) => (m : Int)).getD i 0) = (l[i] : Nat) := by
  rw [List.getD_eq_getElem?_getD, List.getElem?_map, List.getElem?_eq_getElem h]; rfl
theorem enc_far {k total : Nat} {a b : List Int} (h1 : 1 ≤ k) (hk : k ≤ total) (ht : total ≤ 255) (ha : bytesL a) (hb : bytesL b) (hl : a.length = b.length) (hne : a ≠ b) : total + 1 ≤ cntD (encP k total a) (encP k total b) total + k := by
  refine Classical.byContradiction fun hlt => hne ?_
  let S := (List.range total).filter fun j => !decide (encP k total a j ≠ encP k total b j)
  have hsum := filter_two (p := fun j => decide (encP k total a j ≠ encP k total b j)) (List.range total)
  rw [List.length_range] at hsum
  have hSl : total = cntD (encP k total a) (encP k total b) total + S.length := hsum
  have hkS : k ≤ S.length := by omega
  have hlen : (S.take k).length = k := by rw [List.length_take]; omega
  have hmem : ∀ x ∈ S.take k, x < total ∧ encP k total a x = encP k total b x := fun x hx => by
    have := List.mem_filter.1 (List.mem_of_mem_take hx)
    exact ⟨List.mem_range.1 this.1, by simpa using this.2⟩
  have hch : chooseOk k total ((S.take k).map fun (m : Nat) => (m : Int)) := by
    refine ⟨by rw [List.length_map, hlen], ?_, fun x hx => ?_⟩
    · refine List.pairwise_map.2 ((((List.nodup_range (n := total)).filter _).take (i := k)).imp fun h e => h (by omega))
    · obtain ⟨m, hm, rfl⟩ := List.mem_map.1 hx
      have := (hmem m hm).1
      omega
  refine enc_inj h1 hk ht ha hb hl hch fun i hi => ?_
  rw [getD_map (by rw [hlen]; exact hi), Int.toNat_natCast]
  exact (hmem _ (List.getElem_mem _)).2
theorem other_ne {d : List Int} {a m : Int} (hd : bytesL d) (h0 : 0 ≤ a) (h1 : a < d.length) (hm : 0 ≤ m ∧ m < 256) (hz : m ≠ 0) : d ≠ otherL d a m := fun he => by
  have h2 := congrArg (fun l => l[a.toNat]?) he
  simp only [otherL] at h2
  rw [List.getElem?_set_self (by omega), List.getElem?_eq_getElem (by omega), Option.some.injEq] at h2
  have hb := hd _ (List.getElem_mem (l := d) (n := a.toNat) (by omega))
  rw [List.getD_eq_getElem?_getD, List.getElem?_eq_getElem (by omega), Option.getD_some] at h2
  have h3 := congrArg toF h2
  rw [xorB_F, toF_ofF] at h3
  have h4 : toF m = 0 := by
    have := congrArg (fun x => toF d[a.toNat] ^^^ x) h3
    simp only at this
    rw [xor_self', ← BitVec.xor_assoc, xor_self', zero_xor'] at this
    exact this.symm
  exact hz (toF_inj hm ⟨by omega, by omega⟩ (by rw [h4]; rfl))
theorem other_bytes {d : List Int} {a m : Int} (hd : bytesL d) : bytesL (otherL d a m) := fun x hx => by
  rcases List.mem_or_eq_of_mem_set hx with h | rfl
  · exact hd x h
  · exact xorB_isB
/-! ### Sums -/
theorem xorTo_len {a b : List Int} {n : Nat} : (xorTo a b n).length = a.length := by simp [xorTo]
theorem xorTo_get {a b : List Int} {n i : Nat} (h : i < a.length) : (xorTo a b n).getD i 0 = if i < n then xorB (a.getD i 0) (b.getD i 0) else a.getD i 0 := by
  rw [xorTo, List.getD_eq_getElem?_getD, List.getElem?_map, List.getElem?_range h]; rfl
theorem xorTo_bytes {a b : List Int} {n : Nat} (ha : bytesL a) : bytesL (xorTo a b n) := fun x hx => by
  obtain ⟨i, hi, rfl⟩ := List.mem_map.1 hx
  split
  · exact xorB_isB
  · exact bytesL_get ha _
theorem xorTo_zero {a b : List Int} : xorTo a b 0 = a := by
  refine list_ext_getD xorTo_len fun i hi => ?_
  rw [xorTo_len] at hi
  rw [xorTo_get hi, if_neg (by omega)]
theorem xorTo_step {a b : List Int} {n : Nat} (h : n < a.length) : xorTo a b (n + 1) = (xorTo a b n).set n (xorB (a.getD n 0) (b.getD n 0)) := by
  refine list_ext_getD (by rw [List.length_set, xorTo_len, xorTo_len]) fun i hi => ?_
  rw [xorTo_len] at hi
  rw [xorTo_get hi, List.getD_eq_getElem?_getD (l := List.set _ _ _), List.getElem?_set]
  by_cases hin : n = i
  · subst hin
    rw [if_pos (by omega), if_pos rfl, if_pos (by rw [xorTo_len]; exact h)]; rfl
  · rw [if_neg hin, ← List.getD_eq_getElem?_getD, xorTo_get hi]
    by_cases h2 : i < n
    · rw [if_pos (by omega), if_pos h2]
    · rw [if_neg (by omega), if_neg h2]
/-- The encoding of a sum. -/
theorem enc_sum {k total : Nat} {a b : List Int} (h1 : 1 ≤ k) (hk : k ≤ total) (ht : total ≤ 255) (ha : bytesL a) (hb : bytesL b) (hl : a.length = b.length) {i c : Nat} (hc : c < pieceLen k a.length) :
    (encP k total (xorTo a b a.length) i).getD c 0 = xorB ((encP k total a i).getD c 0) ((encP k total b i).getD c 0) := by
  obtain ⟨_, p1, e⟩ := enc_facts h1 hk ht ha i
  obtain ⟨_, p2, f⟩ := enc_facts h1 hk ht hb i
  obtain ⟨_, p3, g⟩ := enc_facts h1 hk ht (xorTo_bytes (b := b) (n := a.length) ha) i
  rw [← hl] at f
  rw [xorTo_len] at g
  refine toF_inj (bytesL_get p3 _) xorB_isB ?_
  rw [xorB_F, toF_ofF, e c hc, f c hc, g c hc, ← fsum_xor]
  refine fsum_congr fun m hm => ?_
  rw [← xor_fmul]
  congr 1
  by_cases hp : m * pieceLen k a.length + c < a.length
  · rw [xorTo_get hp, if_pos hp, xorB_F, toF_ofF]
  · have z : ∀ {l : List Int}, l.length = a.length → l.getD (m * pieceLen k a.length + c) 0 = 0 := fun h => by
      rw [List.getD_eq_getElem?_getD, List.getElem?_eq_none (by omega)]; rfl
    rw [z xorTo_len, z rfl, z hl.symm]; exact xor_self'.symm
end Go.Proofs
