/- Encodings: parts of the object, sums of parts; what adding and changing objects does to them. -/
import Derived.Test.YtkiheclcmgbmnaaYS
import Derived.Test.YtkiheclcmgbmnaaGJ
set_option linter.unusedSimpArgs false
set_option linter.unusedVariables false
namespace Go.Proofs
open Go Go.Eng

theorem pc_atI {h : Hp} {D : Rows'} {n : Int} {j : Int} (hp : pcOk h D n.toNat) (h0 : 0 ≤ j) (h1 : j < n) : j < (D.length : Int) ∧ cellI D j 0 = pcI D j.toNat ∧ ∃ d, Rd h kB (cellV D j 1) d ∧ allB d ∧ pcD h D j.toNat = bI d := by
  obtain ⟨v, d, e, hv, hr, hb, hd⟩ := pc_at hp (j := j.toNat) (by omega)
  rw [Int.toNat_of_nonneg h0] at hv
  have hl := (List.getElem?_eq_some_iff.1 e).1
  exact ⟨by omega, by rw [pcI, Int.toNat_of_nonneg h0], d, by rw [hv]; exact hr, hb, hd⟩
theorem encAt_snoc {h h' : Hp} {D : Rows'} {n : Nat} {f : Nat → List Int} {v : Value} {d : Rows'} {i : Int} (he : encAt h D n f) (hl : Hp.le h h') (hn : D.length = n) (hi : i = n) (hr : Rd h' kB v d) (hd : bI d = f n) (hB : allB d) :
    encAt h' (D ++ [[.int .i64 i, v]]) (n + 1) f := fun j hj => by
  by_cases hj' : j = n
  · subst hj'
    exact ⟨v, d, by rw [List.getElem?_append_right (by omega), hn, Nat.sub_self, hi]; rfl, hr, hd, hB⟩
  · obtain ⟨v', d', e1, e2, e3⟩ := he j (by omega)
    exact ⟨v', d', by rw [List.getElem?_append_left (by omega)]; exact e1, Rd_mono e2 hl, e3⟩
theorem fill_get {f : Nat → Int} {n t c : Nat} (h : c < n) : (fillTo f n t).getD c 0 = if c < t then f c else 0 := by
  rw [fillTo, List.getD_eq_getElem?_getD, List.getElem?_map, List.getElem?_range h]; rfl
theorem seg_all {s : List Int} : seg s 0 s.length = s := by simp [seg]
/-- A part of the object is its piece. -/
theorem enc_part {k total : Nat} {data : List Int} (h1 : 1 ≤ k) (hk : k ≤ total) (ht : total ≤ 255) (hb : bytesL data) {i t : Nat} (hi : i < k) (hfull : t = pieceLen k data.length ∨ data.length ≤ i * pieceLen k data.length + t) (htl : t ≤ pieceLen k data.length) :
    fillTo (fun c => data.getD (i * pieceLen k data.length + c) 0) (pieceLen k data.length) t = encP k total data i := by
  obtain ⟨e1, _, _⟩ := enc_facts h1 hk ht hb i
  refine list_ext_getD (by rw [fillTo_len, e1]) fun c hc => ?_
  rw [fillTo_len] at hc
  rw [fill_get hc, enc_top h1 hk ht hb hi hc]
  split
  · rfl
  · rename_i hct
    rcases hfull with h | h
    · omega
    · rw [List.getD_eq_getElem?_getD, List.getElem?_eq_none (by omega)]; rfl
theorem enc_seg {k total : Nat} {data : List Int} (h1 : 1 ≤ k) (hk : k ≤ total) (ht : total ≤ 255) (hb : bytesL data) {i : Nat} (hi : i < k) :
    encP k total data i = seg (fullL data (k * pieceLen k data.length)) (i * pieceLen k data.length) (pieceLen k data.length) := by
  obtain ⟨e1, _, _⟩ := enc_facts h1 hk ht hb i
  obtain ⟨f1, f2⟩ := full_facts hb (n := k * pieceLen k data.length) (pieceLen_ge' (by omega))
  have hle : i * pieceLen k data.length + pieceLen k data.length ≤ k * pieceLen k data.length := by
    have := Nat.mul_le_mul_right (pieceLen k data.length) (show i + 1 ≤ k by omega)
    rw [Nat.add_mul, Nat.one_mul] at this; exact this
  have hsl : (seg (fullL data (k * pieceLen k data.length)) (i * pieceLen k data.length) (pieceLen k data.length)).length = pieceLen k data.length := seg_len (by rw [f1]; exact hle)
  refine list_ext_getD (by rw [e1, hsl]) fun c hc => ?_
  rw [e1] at hc
  rw [enc_top h1 hk ht hb hi hc, ← full_get (n := k * pieceLen k data.length), List.getD_eq_getElem?_getD, List.getD_eq_getElem?_getD, seg_get, if_pos hc]
/-- A sum of the first pieces with a row of the generator is a piece. -/
theorem enc_mix {k total : Nat} {data : List Int} (h1 : 1 ≤ k) (hk : k ≤ total) (ht : total ≤ 255) (hb : bytesL data) {i : Nat} (hi : i < total) {f : Nat → List Int} (hf : ∀ j, j < k → f j = encP k total data j) :
    mixN f (wgtL (firstL k) (i : Int)) (pieceLen k data.length) k = encP k total data i := by
  have hw : ∀ j, j < k → (wgtL (firstL k) (i : Int)).getD j 0 = (genL k total).getD (i * k + j) 0 := fun j hj => by
    have hr := gen_row h1 hk ht hi
    obtain ⟨g1, _⟩ := gen_facts h1 hk ht
    have hle := row_le (ca := k) hi
    have h2 : ((genL k total).take ((i + 1) * k))[i * k + j]? = ((genL k total).take (i * k) ++ wgtL (firstL k) (i : Int))[i * k + j]? := by rw [hr]
    rw [List.getElem?_take, if_pos (by rw [Nat.add_mul]; omega), List.getElem?_append_right (by simp; omega), List.length_take, g1, Nat.min_eq_left (by omega), Nat.add_sub_cancel_left] at h2
    rw [List.getD_eq_getElem?_getD, List.getD_eq_getElem?_getD, h2]
  have key : ∀ j, j ≤ k → mixN f (wgtL (firstL k) (i : Int)) (pieceLen k data.length) j = pieceN (genL k total) (fullL data (k * pieceLen k data.length)) k (pieceLen k data.length) i j := by
    intro j
    induction j with
    | zero => intro _; rfl
    | succ j ih =>
      intro hj
      rw [mixN, pieceN, ih (by omega), hw j (by omega), hf j (by omega)]
      obtain ⟨e1, _, _⟩ := enc_facts h1 hk ht hb j
      have hs : seg (encP k total data j) 0 (pieceLen k data.length) = encP k total data j := by
        have := seg_all (s := encP k total data j)
        rw [e1] at this
        exact this
      rw [hs, enc_seg h1 hk ht hb (i := j) (by omega)]
  exact key k (Nat.le_refl _)
theorem mixN_len {f : Nat → List Int} {w : List Int} {l : Nat} : ∀ j, (mixN f w l j).length = l
  | 0 => by simp [mixN]
  | j + 1 => by rw [mixN, addToL_len, mixN_len j]
end Go.Proofs
