/- Texts W4, YD, YE, YG, YK, WC, W5, W6, YM, YR, YS, W7, W9, V3, W8, V4, VM, VT. -/
import Derived.Test.YtkiheclcmgbmnaaG6
import Derived.Test.YtkiheclcmgbmnaaG8
import Derived.Test.YtkiheclcmgbmnaaProg
import Derived.Test.YtkiheclcmgbmnaaG5
set_option linter.unusedSimpArgs false
set_option linter.unusedVariables false
namespace Go.Proofs
open Go Go.Eng

theorem pieceLen_ge' {k n : Nat} (hk : 0 < k) : n ≤ k * pieceLen k n := by
  unfold pieceLen
  have h1 := Nat.div_add_mod (n + k - 1) k
  have h2 := Nat.mod_lt (n + k - 1) hk
  omega
/-! ### The identity, powers -/
theorem ident_len {n : Nat} : (identTo n n).length = n * n := by simp [identTo]
theorem ident_get {n i : Nat} (hi : i < n * n) : (identTo n n).getD i 0 = if i / n = i % n then 1 else 0 := by
  have hn : 0 < n := by
    cases n with
    | zero => simp at hi
    | succ n => omega
  rw [List.getD_eq_getElem?_getD, identTo, List.getElem?_map, List.getElem?_range hi]
  simp only [Option.map_some, Option.getD_some]
  have : i / n < n := Nat.div_lt_of_lt_mul hi
  by_cases h : i / n = i % n
  · rw [if_pos ⟨h, this⟩, if_pos h]
  · rw [if_neg (fun hh => h hh.1), if_neg h]
theorem divmod_cell {i n j : Nat} (hj : j < n) : (i * n + j) / n = i ∧ (i * n + j) % n = j := by
  have hn : 0 < n := by omega
  constructor
  · rw [Nat.mul_comm, Nat.mul_add_div hn, Nat.div_eq_of_lt hj, Nat.add_zero]
  · rw [Nat.mul_comm, Nat.mul_add_mod, Nat.mod_eq_of_lt hj]
theorem ident_bytes {n : Nat} : bytesL (identTo n n) := fun x hx => by
  simp only [identTo, List.mem_map] at hx
  obtain ⟨i, _, rfl⟩ := hx
  split <;> exact ⟨by omega, by omega⟩
theorem ident_mat {n i j : Nat} (hi : i < n) (hj : j < n) : matL n (identTo n n) i j = del i j := by
  obtain ⟨h1, h2⟩ := divmod_cell (i := i) hj
  rw [matL, ident_get (cell_lt hi hj), h1, h2, del]
  split <;> rfl
theorem vander_len {r c : Nat} : (vanderL r c).length = r * c := by simp [vanderL, fillTo]
theorem vander_get {r c i j : Nat} (hi : i < r) (hj : j < c) : (vanderL r c).getD (i * c + j) 0 = powF (i : Int) (j : Int) := by
  obtain ⟨h1, h2⟩ := divmod_cell (i := i) hj
  have hlt := cell_lt hi hj
  rw [List.getD_eq_getElem?_getD, vanderL, fillTo, List.getElem?_map, List.getElem?_range hlt]
  simp only [Option.map_some, Option.getD_some]
  rw [if_pos hlt, vanderF, h1, h2]
def xsF (m : Nat) : F := toF (m : Int)
theorem vander_mat {r c i j : Nat} (hr : r ≤ 256) (hi : i < r) (hj : j < c) (hc : c < 9223372036854775808) : matL c (vanderL r c) i j = fpow (xsF i) j := by
  rw [matL, vander_get hi hj, powF_F ⟨by omega, by omega⟩ (by omega), toF_ofF, Int.toNat_natCast]; rfl
theorem vander_bytes {r c : Nat} (hr : r ≤ 256) (hc : c < 9223372036854775808) : bytesL (vanderL r c) := fun x hx => by
  simp only [vanderL, fillTo, List.mem_map, List.mem_range] at hx
  obtain ⟨i, hi, rfl⟩ := hx
  rw [if_pos hi]
  have hc0 : 0 < c := by
    cases c with
    | zero => simp at hi
    | succ c => omega
  have h1 : i / c < r := Nat.div_lt_of_lt_mul (by rwa [Nat.mul_comm] at hi)
  have h2 := Nat.mod_lt i hc0
  have h3 : ((i / c : Nat) : Int) < 256 := by omega
  exact powF_isB ⟨Int.natCast_nonneg _, h3⟩ (by omega)
theorem xs_distinct {n : Nat} (hn : n ≤ 256) : distinct n xsF := fun i j hi hj h => by
  have := toF_inj (x := (i : Int)) (y := (j : Int)) ⟨by omega, by omega⟩ ⟨by omega, by omega⟩ h
  omega
theorem take_bytes {l : List Int} {n : Nat} (h : bytesL l) : bytesL (l.take n) := fun x hx => h x (List.mem_of_mem_take hx)
theorem take_mat {l : List Int} {n c i j : Nat} (hi : i < n) (hj : j < c) : matL c (l.take (n * c)) i j = matL c l i j := by
  have hlt := cell_lt hi hj
  rw [matL, matL, List.getD_eq_getElem?_getD, List.getD_eq_getElem?_getD, List.getElem?_take, if_pos hlt]

/-! ### Inverses -/
theorem aug_right {ca cb : Nat} {a b : List Int} {i j : Nat} : augL ca cb a b i (ca + j) = matL cb b i j := by
  rw [augL, if_neg (by omega), show ca + j - ca = j by omega]
/-- What stands on the right when the left is the identity. -/
theorem inv_mul {n : Nat} {a A B : List Int} (h : Ech n (n + n) (augL n n a (identTo n n)) (augL n n A B) n n) :
    (∀ i j, i < n → j < n → fsum (fun l => fmul (matL n B i l) (matL n a l j)) n = del i j) ∧ ∀ i j, i < n → j < n → fsum (fun l => fmul (matL n a i l) (matL n B l j)) n = del i j := by
  refine ⟨fun i j hi hj => ?_, fun i j hi hj => ?_⟩
  · obtain ⟨x, hx⟩ := h.same.to i hi
    have hxB : ∀ l, l < n → x l = matL n B i l := fun l hl => by
      have h1 := hx (n + l) (by omega)
      rw [aug_right, fsum_congr fun m hm => by rw [aug_right, ident_mat hm hl], fsum_del' (f := x) hl] at h1
      exact h1.symm
    have h2 := hx j (by omega)
    rw [ech_full h i hi j hj, fsum_congr fun m hm => by rw [hxB m hm, aug_left hj]] at h2
    exact h2.symm
  · obtain ⟨x, hx⟩ := h.same.back i hi
    have hxa : ∀ l, l < n → x l = matL n a i l := fun l hl => by
      have h1 := hx l (by omega)
      rw [aug_left hl, fsum_congr fun m hm => by rw [ech_full h m hm l hl], fsum_del' (f := x) hl] at h1
      exact h1.symm
    have h2 := hx (n + j) (by omega)
    rw [aug_right, ident_mat hi hj, fsum_congr fun m hm => by rw [hxa m hm, aug_right]] at h2
    exact h2.symm
theorem two_ident {n : Nat} {m : List Int} (hl : m.length = n * n) (hb : bytesL m) : Two n n n m (identTo n n) := ⟨hl, ident_len, hb, ident_bytes⟩
theorem inv_ech {n : Nat} {m : List Int} (hl : m.length = n * n) (hb : bytesL m) : Two n n n (invE m n).1 (invE m n).2.1 ∧ Ech n (n + n) (augL n n m (identTo n n)) (augL n n (invE m n).1 (invE m n).2.1) n (invE m n).2.2 :=
  elim_ech (two_ident hl hb) n (Nat.le_refl _)
/-- A square matrix that brings only 0 to 0 is of full rank. -/
theorem inv_rank {n : Nat} {m : List Int} (hl : m.length = n * n) (hb : bytesL m) (h : ∀ y : Nat → F, (∀ i, i < n → fsum (fun j => fmul (matL n m i j) (y j)) n = 0) → ∀ j, j < n → y j = 0) : (invE m n).2.2 = n := by
  obtain ⟨_, he⟩ := inv_ech hl hb
  refine Classical.byContradiction fun hne => ?_
  have hlt : (invE m n).2.2 < n := by have := he.le; omega
  obtain ⟨y, ⟨c, hc, hyc⟩, hy⟩ := ech_null he (by omega) hlt
  exact hyc (h y (fun i hi => by rw [← hy i hi]; exact fsum_congr fun j hj => by rw [aug_left hj]; rfl) c hc)

/-! ### The powers' square -/
theorem top_len {k total : Nat} (h : k ≤ total) : ((vanderL total k).take (k * k)).length = k * k := by
  rw [List.length_take, vander_len]
  exact Nat.min_eq_left (Nat.mul_le_mul_right k h)
theorem top_mat {k total i j : Nat} (hk : k ≤ total) (ht : total ≤ 255) (hi : i < k) (hj : j < k) : matL k ((vanderL total k).take (k * k)) i j = fpow (xsF i) j := by
  rw [take_mat hi hj, vander_mat (by omega) (by omega) hj (by omega)]
theorem top_bytes {k total : Nat} (hk : k ≤ total) (ht : total ≤ 255) : bytesL ((vanderL total k).take (k * k)) := take_bytes (vander_bytes (by omega) (by omega))
theorem top_rank {k total : Nat} (hk : k ≤ total) (ht : total ≤ 255) : (topE k total).2.2 = k :=
  inv_rank (top_len hk) (top_bytes hk ht) fun y hy => vander_inj (xs_distinct (by omega)) fun i hi => by
    rw [← hy i hi]
    exact fsum_congr fun j hj => by rw [top_mat hk ht hi hj]
theorem top_ech {k total : Nat} (hk : k ≤ total) (ht : total ≤ 255) : Two k k k (topE k total).1 (topE k total).2.1 ∧ Ech k (k + k) (augL k k ((vanderL total k).take (k * k)) (identTo k k)) (augL k k (topE k total).1 (topE k total).2.1) k k := by
  have h := inv_ech (top_len hk) (top_bytes hk ht)
  have hr := top_rank hk ht
  unfold topE at hr ⊢
  rw [hr] at h
  exact h

/-! ### Products -/
theorem prodN_facts {a b : List Int} {ra ca cb : Nat} (hb : b.length = ca * cb) (ha : bytesL a) (hbb : bytesL b) (hca : 0 < ca) : ∀ t, t ≤ ra * ca → (prodN a b ra ca cb t).length = ra * cb ∧ bytesL (prodN a b ra ca cb t) ∧
    ∀ i j, i < ra → j < cb → matL cb (prodN a b ra ca cb t) i j = fsum (fun l => if i * ca + l < t then fmul (matL ca a i l) (matL cb b l j) else 0) ca
  | 0, _ => ⟨by simp [prodN], fun x hx => by rw [prodN] at hx; rw [List.eq_of_mem_replicate hx]; exact ⟨by omega, by omega⟩, fun i j hi hj => by
      rw [fsum_zero fun l _ => if_neg (by omega), matL, prodN, List.getD_eq_getElem?_getD, List.getElem?_replicate, if_pos (cell_lt hi hj)]; rfl⟩
  | t + 1, ht => by
    obtain ⟨h1, h2, h3⟩ := prodN_facts (ra := ra) hb ha hbb hca t (by omega)
    have hti : t / ca < ra := Nat.div_lt_of_lt_mul (by rw [Nat.mul_comm]; omega)
    have htl := Nat.mod_lt t hca
    have htd := Nat.div_add_mod t ca
    rw [prodN]
    refine ⟨by rw [addToL_len, h1], addToL_bytes h2, fun i j hi hj => ?_⟩
    have hlt := cell_lt hi hj
    have hsl : (seg b (t % ca * cb) cb).length = cb := seg_len (by rw [hb]; exact row_le htl)
    have hL : matL cb (addToL (prodN a b ra ca cb t) (t / ca * cb) (seg b (t % ca * cb) cb) (a.getD t 0)) i j = if i = t / ca then matL cb (prodN a b ra ca cb t) i j ^^^ fmul (toF (a.getD t 0)) (matL cb b (t % ca) j) else matL cb (prodN a b ra ca cb t) i j := by
      unfold matL
      rw [List.getD_eq_getElem?_getD, addToL_get, List.getElem?_eq_getElem (by omega), Option.map_some, Option.getD_some, hsl]
      by_cases he : i = t / ca
      · subst he
        rw [if_pos ⟨by omega, by omega⟩, if_pos rfl, show t / ca * cb + j - t / ca * cb = j by omega]
        have hs : (seg b (t % ca * cb) cb).getD j 0 = b.getD (t % ca * cb + j) 0 := by
          rw [List.getD_eq_getElem?_getD, seg_get, if_pos hj, List.getD_eq_getElem?_getD]
        rw [hs, toF_xorB, toF_mulF (bytesL_get ha _) (bytesL_get hbb _), List.getD_eq_getElem?_getD (l := prodN a b ra ca cb t), List.getElem?_eq_getElem (by omega), Option.getD_some]
      · rw [if_neg (fun h => he ((row_in hj).1 h)), if_neg he, List.getD_eq_getElem?_getD, List.getElem?_eq_getElem (by omega), Option.getD_some]
    rw [hL, h3 i j hi hj]
    by_cases he : i = t / ca
    · have hit : i * ca + t % ca = t := by rw [he, Nat.mul_comm]; exact htd
      rw [if_pos he]
      have hat : toF (a.getD t 0) = matL ca a i (t % ca) := by rw [matL, hit]
      have h4 : fmul (toF (a.getD t 0)) (matL cb b (t % ca) j) = fsum (fun l => if l = t % ca then fmul (matL ca a i l) (matL cb b l j) else 0) ca := by
        rw [fsum_one htl fun l _ hl => if_neg hl, if_pos rfl, hat]
      rw [h4, ← fsum_xor]
      refine fsum_congr fun l hl => ?_
      by_cases hlt : l = t % ca
      · subst hlt; rw [if_neg (by omega), if_pos rfl, if_pos (by omega), zero_xor']
      · rw [if_neg hlt, xor_zero']
        by_cases h5 : i * ca + l < t
        · rw [if_pos h5, if_pos (by omega)]
        · rw [if_neg h5, if_neg (by omega)]
    · rw [if_neg he]
      refine fsum_congr fun l hl => ?_
      have hne : i * ca + l ≠ t := fun h => he (by rw [← h]; exact (divmod_cell hl).1.symm)
      by_cases h5 : i * ca + l < t
      · rw [if_pos h5, if_pos (by omega)]
      · rw [if_neg h5, if_neg (by omega)]
theorem prod_facts {a b : List Int} {ra ca cb : Nat} (hb : b.length = ca * cb) (ha : bytesL a) (hbb : bytesL b) (hca : 0 < ca) : (prodL a b ra ca cb).length = ra * cb ∧ bytesL (prodL a b ra ca cb) ∧
    ∀ i j, i < ra → j < cb → matL cb (prodL a b ra ca cb) i j = fsum (fun l => fmul (matL ca a i l) (matL cb b l j)) ca := by
  obtain ⟨h1, h2, h3⟩ := prodN_facts (ra := ra) hb ha hbb hca (ra * ca) (Nat.le_refl _)
  refine ⟨h1, h2, fun i j hi hj => ?_⟩
  rw [prodL, h3 i j hi hj]
  exact fsum_congr fun l hl => if_pos (cell_lt hi hl)

/-! ### Generators -/
theorem gen_facts {k total : Nat} (h1 : 1 ≤ k) (hk : k ≤ total) (ht : total ≤ 255) : (genL k total).length = total * k ∧ bytesL (genL k total) ∧
    (∀ i j, i < total → j < k → matL k (genL k total) i j = fsum (fun l => fmul (fpow (xsF i) l) (matL k (topE k total).2.1 l j)) k) ∧
    ∀ i j, i < total → j < k → matL k (genL k total) i j = lagF k xsF (xsF i) j := by
  obtain ⟨t2, he⟩ := top_ech hk ht
  obtain ⟨p1, p2, p3⟩ := prod_facts (ra := total) t2.lb (vander_bytes (r := total) (c := k) (by omega) (by omega)) t2.bb (by omega)
  have hg : ∀ i j, i < total → j < k → matL k (genL k total) i j = fsum (fun l => fmul (fpow (xsF i) l) (matL k (topE k total).2.1 l j)) k := fun i j hi hj => by
    rw [genL, p3 i j hi hj]
    exact fsum_congr fun l hl => by rw [vander_mat (by omega) hi hl (by omega)]
  refine ⟨p1, p2, hg, fun i j hi hj => ?_⟩
  obtain ⟨_, m2⟩ := inv_mul he
  have hp : ∀ x, pval k (fun l => matL k (topE k total).2.1 l j) x = fsum (fun l => fmul (fpow x l) (matL k (topE k total).2.1 l j)) k := fun x => fsum_congr fun l _ => fmul_comm
  rw [hg i j hi hj, ← hp, lagrange (xs_distinct (n := k) (by omega))]
  rw [fsum_congr (g := fun m => fmul (lagF k xsF (xsF i) m) (del m j)) fun m hm => ?_, fsum_del' hj]
  rw [hp, ← m2 m j hm hj]
  congr 1
  exact fsum_congr fun l hl => by rw [top_mat hk ht hm hl]
theorem gen_top {k total : Nat} (h1 : 1 ≤ k) (hk : k ≤ total) (ht : total ≤ 255) {i j : Nat} (hi : i < k) (hj : j < k) : matL k (genL k total) i j = del i j := by
  rw [(gen_facts h1 hk ht).2.2.2 i j (by omega) hj, lag_del (xs_distinct (by omega)) hj hi, del, del]
  by_cases h : i = j
  · rw [if_pos h, if_pos h.symm]
  · rw [if_neg h, if_neg (Ne.symm h)]

/-! ### Pieces -/
theorem pieceN_facts {g full : List Int} {k l i : Nat} (hg : bytesL g) (hf : bytesL full) (hl : full.length = k * l) : ∀ j, j ≤ k → (pieceN g full k l i j).length = l ∧ bytesL (pieceN g full k l i j) ∧
    ∀ c, c < l → toF ((pieceN g full k l i j).getD c 0) = fsum (fun m => fmul (matL k g i m) (toF (full.getD (m * l + c) 0))) j
  | 0, _ => ⟨by simp [pieceN], fun x hx => by rw [pieceN] at hx; rw [List.eq_of_mem_replicate hx]; exact ⟨by omega, by omega⟩, fun c hc => by
      rw [pieceN, List.getD_eq_getElem?_getD, List.getElem?_replicate, if_pos hc]; rfl⟩
  | j + 1, hj => by
    obtain ⟨h1, h2, h3⟩ := pieceN_facts hg hf hl (i := i) j (by omega)
    have hsl : (seg full (j * l) l).length = l := seg_len (by rw [hl]; exact row_le (by omega))
    rw [pieceN]
    refine ⟨by rw [addToL_len, h1], addToL_bytes h2, fun c hc => ?_⟩
    rw [List.getD_eq_getElem?_getD, addToL_get, List.getElem?_eq_getElem (by omega), Option.map_some, Option.getD_some, hsl, if_pos ⟨by omega, by omega⟩, Nat.sub_zero]
    have hs : (seg full (j * l) l).getD c 0 = full.getD (j * l + c) 0 := by
      rw [List.getD_eq_getElem?_getD, seg_get, if_pos hc, List.getD_eq_getElem?_getD]
    rw [hs, toF_xorB, toF_mulF (bytesL_get hg _) (bytesL_get hf _), fsum, ← h3 c hc, List.getD_eq_getElem?_getD (l := pieceN g full k l i j), List.getElem?_eq_getElem (by omega), Option.getD_some]
    rfl
theorem full_facts {data : List Int} {n : Nat} (hb : bytesL data) (hn : data.length ≤ n) : (fullL data n).length = n ∧ bytesL (fullL data n) := by
  refine ⟨by simp [fullL]; omega, fun x hx => ?_⟩
  rcases List.mem_append.1 hx with hx | hx
  · exact hb x hx
  · rw [List.eq_of_mem_replicate hx]; exact ⟨by omega, by omega⟩
theorem full_get {data : List Int} {n i : Nat} : (fullL data n).getD i 0 = data.getD i 0 := by
  rw [List.getD_eq_getElem?_getD, List.getD_eq_getElem?_getD, fullL]
  by_cases h : i < data.length
  · rw [List.getElem?_append_left h]
  · rw [List.getElem?_append_right (by omega), List.getElem?_eq_none (l := data) (by omega), List.getElem?_replicate]
    split <;> rfl
theorem enc_facts {k total : Nat} {data : List Int} (h1 : 1 ≤ k) (hk : k ≤ total) (ht : total ≤ 255) (hb : bytesL data) (i : Nat) : (encP k total data i).length = pieceLen k data.length ∧ bytesL (encP k total data i) ∧
    ∀ c, c < pieceLen k data.length → toF ((encP k total data i).getD c 0) = fsum (fun m => fmul (matL k (genL k total) i m) (toF (data.getD (m * pieceLen k data.length + c) 0))) k := by
  obtain ⟨g1, g2, _, _⟩ := gen_facts h1 hk ht
  obtain ⟨f1, f2⟩ := full_facts hb (n := k * pieceLen k data.length) (pieceLen_ge' (by omega))
  obtain ⟨p1, p2, p3⟩ := pieceN_facts (i := i) g2 f2 f1 k (Nat.le_refl _)
  refine ⟨p1, p2, fun c hc => ?_⟩
  rw [encP, p3 c hc]
  exact fsum_congr fun m _ => by rw [full_get]
/-- The first pieces are the object's parts. -/
theorem enc_top {k total : Nat} {data : List Int} (h1 : 1 ≤ k) (hk : k ≤ total) (ht : total ≤ 255) (hb : bytesL data) {i : Nat} (hi : i < k) {c : Nat} (hc : c < pieceLen k data.length) :
    (encP k total data i).getD c 0 = data.getD (i * pieceLen k data.length + c) 0 := by
  obtain ⟨_, p2, p3⟩ := enc_facts h1 hk ht hb i
  refine toF_inj (bytesL_get p2 _) (bytesL_get hb _) ?_
  rw [p3 c hc, fsum_congr fun m hm => by rw [gen_top h1 hk ht hi hm]]
  rw [fsum_one hi fun m hm hne => by rw [del, if_neg (Ne.symm hne), zero_fmul], del, if_pos rfl, one_fmul]
end Go.Proofs

set_option linter.unusedSimpArgs false
set_option linter.unusedVariables false
namespace Go.Eng
open Go Go.Proofs

/-! ### Powers -/
/-! ### Products -/
def mArgA : SV := mArg 0 1 2 3 4
def matIn (l cap : Int) (d : Rows') : Prop := 0 ≤ l ∧ l ≤ 140737488351232 ∧ l = d.length ∧ allB d ∧ l ≤ cap
/-! ### Rows that are selected -/
def kI : List CK := [.int .i64]
def iHp (r d c : Nat) : SH := .arr r 3 kI (.var d) (.var c)
def iI (d : Rows') : List Int := d.map fun r => rowI r 0
/-- The rows of the numbers rs, one behind the other. -/
def selL (m : List Int) (cols : Nat) (rs : List Int) : List Int := rs.flatMap fun r => seg m (r.toNat * cols) cols
def selBad (r c l : Int) (n rows : Int) (rs : List Int) : Prop := ¬ validM r c l ∨ n = 0 ∨ 255 < n ∨ ∃ x ∈ rs, x < 0 ∨ rows ≤ x
/-- Matrix 0 .. 6; numbers 7 (region), 8, 9, rows 10, their capacity 11. -/
def sel62C : Ctr := { fn := 62, nv := 12, args := [mArgA, .one (.vslice 7 (.lit 0) (.var 8) (.var 9) 1)], heap := [], ro := [bHp 2 5 6, iHp 7 10 11], pre := fun ρ => 0 ≤ (ρ 3).i ∧ (ρ 3).i ≤ (ρ 4).i ∧ (ρ 3).i ≤ (ρ 5).d.length ∧ allB (ρ 5).d ∧ 0 ≤ (ρ 8).i ∧ (ρ 8).i = (ρ 10).d.length, alts := [
  { k := 0, ret := .tup [nilM, eRet (.lit 2)], heap := [], post := fun ρ => selBad (ρ 0).i (ρ 1).i (ρ 3).i (ρ 8).i (ρ 0).i (iI (ρ 10).d) },
  { k := 4, ret := .tup [mRet (.var 8) (.var 1) 12 13 14, eRet (.lit 0)], heap := [bHp 12 15 14], post := fun ρ => ¬ selBad (ρ 0).i (ρ 1).i (ρ 3).i (ρ 8).i (ρ 0).i (iI (ρ 10).d) ∧ matOk (ρ 8).i (ρ 1).i (ρ 13).i (ρ 14).i (ρ 15).d ∧ (ρ 13).i = (ρ 15).d.length ∧ bI (ρ 15).d = selL (bI (ρ 5).d) (ρ 1).i.toNat (iI (ρ 10).d) }] }
def selOk (r c l n : Int) : Prop := validM r c l ∧ 1 ≤ n ∧ n ≤ 255
/-- Numbers so far are rows. -/
def sel62I : Inv := { key := 4, nv := 3, env := [(1, .one (.vslice 7 (.lit 0) (.var 8) (.var 9) 1)), (2, .one (.vptr 1001 (.lit 0) 3 0)), (4, .one (.vptr 1002 (.lit 0) 3 0)), (25, .one (.vslice 7 (.lit 0) (.var 8) (.var 9) 1)), (26, iv .i64 (.var 8)), (27, iv .i64 (.var 1000))], heap := [zBox 1002, boxM 1001 0 1 2 3 4], inv := (fun ρ => selOk (ρ 0).i (ρ 1).i (ρ 3).i (ρ 8).i ∧ 0 ≤ (ρ 1000).i ∧ (ρ 1000).i ≤ (ρ 8).i ∧ ∀ x ∈ (iI (ρ 10).d).take (ρ 1000).i.toNat, 0 ≤ x ∧ x < (ρ 0).i), mu := (fun ρ => ((ρ 8).i - (ρ 1000).i).toNat) }
/-- The first rows are copied: 1003 .. 1006 the new matrix, 1007 its box. -/
def sel62J : Inv := { key := 11, nv := 8, env := [(2, .one (.vptr 1001 (.lit 0) 3 0)), (4, .one (.vptr 1002 (.lit 0) 3 0)), (8, .one (.vptr 1007 (.lit 0) 3 0)), (46, .one (.vslice 7 (.lit 0) (.var 8) (.var 9) 1)), (47, iv .i64 (.var 8)), (48, iv .i64 (.var 1000))], heap := [zBox 1002, boxM 1001 0 1 2 3 4, boxM 1007 8 1 1003 1004 1005, bHp 1003 1006 1005], inv := (fun ρ => selOk (ρ 0).i (ρ 1).i (ρ 3).i (ρ 8).i ∧ 0 ≤ (ρ 1000).i ∧ (ρ 1000).i ≤ (ρ 8).i ∧ (∀ x ∈ iI (ρ 10).d, 0 ≤ x ∧ x < (ρ 0).i) ∧ matOk (ρ 8).i (ρ 1).i (ρ 1004).i (ρ 1005).i (ρ 1006).d ∧ (ρ 1004).i = (ρ 1006).d.length ∧ (bI (ρ 1006).d).take ((ρ 1000).i * (ρ 1).i).toNat = selL (bI (ρ 5).d) (ρ 1).i.toNat ((iI (ρ 10).d).take (ρ 1000).i.toNat)), mu := (fun ρ => ((ρ 8).i - (ρ 1000).i).toNat) }
/-! ### The basis -/
def firstL (n : Nat) : List Int := (List.range n).map fun (m : Nat) => (m : Int)
def wgtL (xs : List Int) (x : Int) : List Int := (List.range xs.length).map fun i => ofF (lagF xs.length (fun m => toF (xs.getD m 0)) (toF x) i)
def distL (xs : List Int) : Prop := Go.Proofs.distinct xs.length fun m => toF (xs.getD m 0)
/-- The points: region 0, length 1, capacity 2, rows 3, their capacity 4; the place 5. -/
def wgt78C : Ctr := { fn := 78, nv := 6, args := [.one (.vslice 0 (.lit 0) (.var 1) (.var 2) 1), iv .u8 (.var 5)], heap := [], ro := [bHp 0 3 4], pre := fun ρ => 0 ≤ (ρ 1).i ∧ (ρ 1).i ≤ 256 ∧ (ρ 1).i = (ρ 3).d.length ∧ allB (ρ 3).d ∧ byteP (ρ 5).i ∧ distL (bI (ρ 3).d), alts := [{ k := 3, ret := .one (.vslice 6 (.lit 0) (.var 1) (.var 7) 1), heap := [bHp 6 8 7], post := fun ρ => (ρ 1).i ≤ (ρ 7).i ∧ bI (ρ 8).d = wgtL (bI (ρ 3).d) (ρ 5).i }] }
def wgtEnv : List (Nat × SV) := [(0, .one (.vslice 0 (.lit 0) (.var 1) (.var 2) 1)), (1, iv .u8 (.var 5)), (5, .one (.vslice 1000 (.lit 0) (.var 1) (.var 1001) 1))]
def wgtX (d : Rows') (m : Nat) : F := toF ((bI d).getD m 0)
/-- No point so far is the place. -/
def wgt78I : Inv := { key := 3, nv := 4, env := wgtEnv ++ [(6, iv .i64 (.var 1003))], heap := [bHp 1000 1002 1001], inv := (fun ρ => (ρ 1).i ≤ (ρ 1001).i ∧ (ρ 1002).d = List.replicate (ρ 1).i.toNat [.int .u8 0] ∧ 0 ≤ (ρ 1003).i ∧ (ρ 1003).i ≤ (ρ 1).i ∧ ∀ m : Nat, (m : Int) < (ρ 1003).i → toF (ρ 5).i ≠ wgtX (ρ 3).d m), mu := (fun ρ => ((ρ 1).i - (ρ 1003).i).toNat) }
def notIn (n : Int) (x : Int) (d : Rows') : Prop := ∀ m : Nat, (m : Int) < n → toF x ≠ wgtX d m
/-- 1003 the product, 1004 the round. -/
def wgt78J : Inv := { key := 10, nv := 5, env := wgtEnv ++ [(7, iv .u8 (.var 1003)), (8, iv .i64 (.var 1004))], heap := [bHp 1000 1002 1001], inv := (fun ρ => (ρ 1).i ≤ (ρ 1001).i ∧ (ρ 1002).d = List.replicate (ρ 1).i.toNat [.int .u8 0] ∧ notIn (ρ 1).i (ρ 5).i (ρ 3).d ∧ 0 ≤ (ρ 1004).i ∧ (ρ 1004).i ≤ (ρ 1).i ∧ byteP (ρ 1003).i ∧ toF (ρ 1003).i = fprod (fun m => toF (ρ 5).i ^^^ wgtX (ρ 3).d m) (ρ 1004).i.toNat), mu := (fun ρ => ((ρ 1).i - (ρ 1004).i).toNat) }
def wgtP (n x abv i : Int) (dw d : Rows') : Prop := notIn n x d ∧ byteP abv ∧ toF abv = fprod (fun m => toF x ^^^ wgtX d m) n.toNat ∧ dw.length = n.toNat ∧ 0 ≤ i ∧ i ≤ n ∧ bI dw = fillTo (fun j => ofF (lagF n.toNat (wgtX d) (toF x) j)) n.toNat i.toNat
def wgt78K : Inv := { key := 14, nv := 5, env := wgtEnv ++ [(7, iv .u8 (.var 1003)), (9, iv .i64 (.var 1004))], heap := [bHp 1000 1002 1001], inv := (fun ρ => (ρ 1).i ≤ (ρ 1001).i ∧ wgtP (ρ 1).i (ρ 5).i (ρ 1003).i (ρ 1004).i (ρ 1002).d (ρ 3).d), mu := (fun ρ => ((ρ 1).i - (ρ 1004).i).toNat) }
/-- 1005 the product below, 1006 the round. -/
def wgt78L : Inv := { key := 18, nv := 7, env := wgtEnv ++ [(7, iv .u8 (.var 1003)), (9, iv .i64 (.var 1004)), (10, iv .u8 (.var 1005)), (11, iv .i64 (.var 1006))], heap := [bHp 1000 1002 1001], inv := (fun ρ => (ρ 1).i ≤ (ρ 1001).i ∧ wgtP (ρ 1).i (ρ 5).i (ρ 1003).i (ρ 1004).i (ρ 1002).d (ρ 3).d ∧ (ρ 1004).i < (ρ 1).i ∧ (ρ 1004).i = (ρ 20).i ∧ 0 ≤ (ρ 1006).i ∧ (ρ 1006).i ≤ (ρ 1).i ∧ byteP (ρ 1005).i ∧ toF (ρ 1005).i = fmul (toF (ρ 5).i ^^^ wgtX (ρ 3).d (ρ 1004).i.toNat) (fprod (fun m => if m = (ρ 1004).i.toNat then 1 else wgtX (ρ 3).d (ρ 1004).i.toNat ^^^ wgtX (ρ 3).d m) (ρ 1006).i.toNat)), mu := (fun ρ => ((ρ 1).i - (ρ 1006).i).toNat) }
def sizes29C : Ctr := { sizes74C with fn := 29 }
end Go.Eng

set_option linter.unusedSimpArgs false
set_option linter.unusedVariables false
set_option maxRecDepth 100000
namespace Go.Proofs
open Go Go.Eng

def o_sel62 : Out := (.fresh 12 (.fresh 13 (.pre 0 ⟨0, [(6, (.t (.var 6))), (5, (.t (.var 5))), (4, (.t (.var 4))), (3, (.t (.var 3))), (2, (.r 2)), (1, (.t (.var 1))), (0, (.t (.var 0)))], [((.lit (0)), (.lit (0)))], [], []⟩ (.both (.fresh 14 (.post 0 0 ⟨0, [(6, (.t (.var 6))), (5, (.t (.var 5))), (4, (.t (.var 4))), (3, (.t (.var 3))), (2, (.r 2)), (1, (.t (.var 1))), (0, (.t (.var 0)))], [((.lit (0)), (.lit (0)))], [], []⟩ 14 (.br (.not (.var 14))
 (.ret 0 ⟨12, [], [((.lit (2)), (.lit (2))), ((.lit (0)), (.lit (0))), ((.lit (0)), (.lit (0)))], [], []⟩)
 (.need (.cmp .leq (.lit (0)) (.var 8)) (.br (.cmp .eql (.var 8) (.lit (0)))
 (.ret 0 ⟨12, [], [((.lit (2)), (.lit (2))), ((.lit (0)), (.lit (0))), ((.lit (0)), (.lit (0)))], [], []⟩)
 (.br (.cmp .gtr (.var 8) (.lit (255)))
 (.ret 0 ⟨12, [], [((.lit (2)), (.lit (2))), ((.lit (0)), (.lit (0))), ((.lit (0)), (.lit (0)))], [], []⟩)
 (.inv 0 15 ⟨1000, [(1000, (.t (.lit (0)))), (1002, (.r 13)), (1001, (.r 12))], [((.var 4), (.var 4)), ((.var 3), (.var 3)), ((.lit (0)), (.lit (0))), ((.var 1), (.var 1)), ((.var 0), (.var 0)), ((.lit (0)), (.lit (0))), ((.lit (0)), (.lit (0))), ((.var 8), (.var 8)), ((.var 9), (.var 9)), ((.var 8), (.var 8)), ((.lit (0)), (.lit (0))), ((.var 9), (.var 9)), ((.var 8), (.var 8)), ((.lit (0)), (.lit (0)))], [], []⟩ (.fresh 15 (.fresh 16 (.fresh 17 (.hyp 0 15 (.br (.cmp .lss (.var 15) (.var 8))
 (.need (.cmp .leq (.lit (0)) (.var 15)) (.need (.cmp .lss (.var 15) (.dlen (.var 10))) (.br (.cmp .lss (.icell (.var 10) (.var 15) 0) (.lit (0)))
 (.ret 0 ⟨12, [], [((.lit (2)), (.lit (2))), ((.lit (0)), (.lit (0))), ((.lit (0)), (.lit (0)))], [], []⟩)
 (.br (.cmp .geq (.icell (.var 10) (.var 15) 0) (.var 0))
 (.ret 0 ⟨12, [], [((.lit (2)), (.lit (2))), ((.lit (0)), (.lit (0))), ((.lit (0)), (.lit (0)))], [], []⟩)
 (.back 0 15 ⟨1000, [(1000, (.t (.arith .add .i64 (.var 15) (.lit (1))))), (1002, (.r 17)), (1001, (.r 16))], [((.var 4), (.var 4)), ((.var 3), (.var 3)), ((.lit (0)), (.lit (0))), ((.var 1), (.var 1)), ((.var 0), (.var 0)), ((.lit (0)), (.lit (0))), ((.lit (0)), (.lit (0))), ((.var 8), (.var 8)), ((.var 9), (.var 9)), ((.var 8), (.var 8)), ((.lit (0)), (.lit (0))), ((.lit (0)), (.lit (0))), ((.lit (0)), (.lit (0))), ((.var 9), (.var 9)), ((.var 8), (.var 8)), ((.lit (0)), (.lit (0)))], [], []⟩)))))
 (.pre 1 ⟨0, [(1, (.t (.var 1))), (0, (.t (.var 8)))], [], [], []⟩ (.both (.fresh 18 (.fresh 19 (.fresh 20 (.fresh 21 (.post 1 0 ⟨0, [(1, (.t (.var 1))), (0, (.t (.var 8)))], [], [], []⟩ 18 (.fresh 22 (.inv 1 23 ⟨1000, [(1006, (.t (.var 21))), (1005, (.t (.var 20))), (1004, (.t (.var 19))), (1003, (.r 18)), (1000, (.t (.lit (0)))), (1007, (.r 22)), (1002, (.r 17)), (1001, (.r 16))], [((.var 1005), (.var 20)), ((.lit (0)), (.lit (0))), ((.var 1), (.var 1)), ((.var 8), (.var 8)), ((.var 4), (.var 4)), ((.var 3), (.var 3)), ((.lit (0)), (.lit (0))), ((.var 1), (.var 1)), ((.var 0), (.var 0)), ((.lit (0)), (.lit (0))), ((.lit (0)), (.lit (0))), ((.var 8), (.var 8)), ((.var 9), (.var 9)), ((.var 8), (.var 8)), ((.lit (0)), (.lit (0))), ((.lit (0)), (.lit (0))), ((.lit (0)), (.lit (0)))], [], []⟩ (.fresh 23 (.fresh 24 (.fresh 25 (.fresh 26 (.fresh 27 (.fresh 28 (.fresh 29 (.fresh 30 (.hyp 1 23 (.br (.cmp .lss (.var 23) (.var 8))
 (.need (.cmp .leq (.lit (0)) (.var 23)) (.need (.cmp .lss (.var 23) (.dlen (.var 10))) (.both (.pre 2 ⟨0, [(6, (.t (.var 28))), (5, (.t (.var 29))), (7, (.t (.var 23))), (4, (.t (.var 28))), (3, (.t (.var 27))), (2, (.r 26)), (1, (.t (.var 1))), (0, (.t (.var 8)))], [((.lit (0)), (.lit (0)))], [], []⟩ (.both (.fresh 31 (.fresh 32 (.fresh 33 (.post 2 0 ⟨0, [(6, (.t (.var 28))), (5, (.t (.var 29))), (7, (.t (.var 23))), (4, (.t (.var 28))), (3, (.t (.var 27))), (2, (.r 26)), (1, (.t (.var 1))), (0, (.t (.var 8)))], [((.lit (0)), (.lit (0)))], [], []⟩ 31 (.both (.pre 2 ⟨0, [(6, (.t (.var 6))), (5, (.t (.var 5))), (7, (.t (.icell (.var 10) (.var 23) 0))), (4, (.t (.var 4))), (3, (.t (.var 3))), (2, (.r 2)), (1, (.t (.var 1))), (0, (.t (.var 0)))], [((.lit (0)), (.lit (0)))], [], []⟩ (.both (.fresh 34 (.fresh 35 (.fresh 36 (.post 2 0 ⟨0, [(6, (.t (.var 6))), (5, (.t (.var 5))), (7, (.t (.icell (.var 10) (.var 23) 0))), (4, (.t (.var 4))), (3, (.t (.var 3))), (2, (.r 2)), (1, (.t (.var 1))), (0, (.t (.var 0)))], [((.lit (0)), (.lit (0)))], [], []⟩ 34 (.both (.need (.cmp .leq (.lit (0)) (.var 31)) (.need (.cmp .leq (.lit (0)) (.var 32)) (.need (.cmp .leq (.plus (.var 31) (.var 32)) (.dlen (.var 29))) (.need (.cmp .leq (.lit (0)) (.var 34)) (.need (.cmp .leq (.lit (0)) (.var 35)) (.need (.cmp .leq (.plus (.var 34) (.var 35)) (.dlen (.var 5))) (.fresh 37 (.back 1 23 ⟨1000, [(1006, (.t (.c3 .dsplice (.var 29) (.var 31) (.dtake (.dtake (.ddrop (.var 5) (.var 34)) (.var 35)) (.imin (.var 32) (.var 35)))))), (1005, (.t (.var 28))), (1004, (.t (.var 27))), (1003, (.r 26)), (1000, (.t (.arith .add .i64 (.var 23) (.lit (1))))), (1007, (.r 30)), (1002, (.r 25)), (1001, (.r 24))], [((.var 1005), (.var 28)), ((.lit (0)), (.lit (0))), ((.var 1), (.var 1)), ((.var 8), (.var 8)), ((.var 4), (.var 4)), ((.var 3), (.var 3)), ((.lit (0)), (.lit (0))), ((.var 1), (.var 1)), ((.var 0), (.var 0)), ((.lit (0)), (.lit (0))), ((.lit (0)), (.lit (0))), ((.var 8), (.var 8)), ((.var 9), (.var 9)), ((.var 8), (.var 8)), ((.lit (0)), (.lit (0))), ((.lit (0)), (.lit (0))), ((.lit (0)), (.lit (0))), ((.lit (0)), (.lit (0)))], [], []⟩)))))))) .top))))) .top)) .top))))) .top)) .top)))
 (.ret 1 ⟨12, [(15, (.t (.var 29))), (14, (.t (.var 28))), (13, (.t (.var 27))), (12, (.r 26))], [((.var 14), (.var 28)), ((.lit (0)), (.lit (0))), ((.lit (0)), (.lit (0))), ((.var 1), (.var 1)), ((.var 8), (.var 8))], [], []⟩)))))))))))))))))) .top)))))))))))))) .top))))
theorem o_sel62_eq : treeOf ⟨Try.prog, sel62C, [valid36C, zero82C, row75C], [sel62I, sel62J]⟩ 100000 Try.f62 = o_sel62 := by kernel_rfl
theorem sel62_of (hd : ∀ c ∈ ([valid36C, zero82C, row75C] : List Ctr), c.ok Try.prog) (h : ∀ ρ : Env, ρ.good → (sel62C).pre ρ → o_sel62.den ⟨Try.prog, sel62C, [valid36C, zero82C, row75C], [sel62I, sel62J]⟩ ρ) : (sel62C).ok Try.prog :=
  ok_of_tree Try.func62 (fun a w => Try.call62 a w) hd 100000 (fun ρ hg hp => by rw [o_sel62_eq]; exact h ρ hg hp)
def o_wgt78 : Out := (.need (.cmp .leq (.lit (0)) (.var 1)) (.need (.cmp .leq (.tims (.lit (1)) (.var 1)) (.lit (281474976710656))) (.fresh 6 (.inv 0 7 ⟨1000, [(1002, (.t (.drep (.var 1) (.rcons (.vint .u8 (.lit (0))) .rnil)))), (1003, (.t (.lit (0)))), (1001, (.t (.var 1))), (1000, (.r 6))], [((.var 1001), (.var 1)), ((.var 1), (.var 1)), ((.lit (0)), (.lit (0))), ((.var 5), (.var 5)), ((.var 2), (.var 2)), ((.var 1), (.var 1)), ((.lit (0)), (.lit (0)))], [], []⟩ (.fresh 7 (.fresh 8 (.fresh 9 (.fresh 10 (.hyp 0 7 (.br (.cmp .lss (.var 10) (.var 1))
 (.need (.cmp .leq (.lit (0)) (.var 10)) (.need (.cmp .lss (.var 10) (.dlen (.var 3))) (.br (.cmp .eql (.icell (.var 3) (.var 10) 0) (.var 5))
 (.need (.cmp .lss (.var 10) (.dlen (.var 9))) (.ret 0 ⟨6, [(8, (.t (.dput (.var 9) (.var 10) 0 (.rcons (.vint .u8 (.lit (1))) .rnil)))), (7, (.t (.var 8))), (6, (.r 7))], [((.var 7), (.var 8)), ((.var 1), (.var 1)), ((.lit (0)), (.lit (0)))], [], []⟩))
 (.back 0 7 ⟨1000, [(1002, (.t (.var 9))), (1003, (.t (.arith .add .i64 (.var 10) (.lit (1))))), (1001, (.t (.var 8))), (1000, (.r 7))], [((.var 1001), (.var 8)), ((.var 1), (.var 1)), ((.lit (0)), (.lit (0))), ((.var 5), (.var 5)), ((.var 2), (.var 2)), ((.var 1), (.var 1)), ((.lit (0)), (.lit (0)))], [], []⟩))))
 (.inv 1 11 ⟨1000, [(1002, (.t (.var 9))), (1004, (.t (.lit (0)))), (1003, (.t (.lit (1)))), (1001, (.t (.var 8))), (1000, (.r 7))], [((.var 1001), (.var 8)), ((.var 1), (.var 1)), ((.lit (0)), (.lit (0))), ((.var 5), (.var 5)), ((.var 2), (.var 2)), ((.var 1), (.var 1)), ((.lit (0)), (.lit (0)))], [], []⟩ (.fresh 11 (.fresh 12 (.fresh 13 (.fresh 14 (.fresh 15 (.hyp 1 11 (.br (.cmp .lss (.var 15) (.var 1))
 (.need (.cmp .leq (.lit (0)) (.var 15)) (.need (.cmp .lss (.var 15) (.dlen (.var 3))) (.pre 0 ⟨0, [(1, (.t (.arith .xor .u8 (.var 5) (.icell (.var 3) (.var 15) 0)))), (0, (.t (.var 14)))], [], [], []⟩ (.both (.fresh 16 (.post 0 0 ⟨0, [(1, (.t (.arith .xor .u8 (.var 5) (.icell (.var 3) (.var 15) 0)))), (0, (.t (.var 14)))], [], [], []⟩ 16 (.back 1 11 ⟨1000, [(1002, (.t (.var 13))), (1004, (.t (.arith .add .i64 (.var 15) (.lit (1))))), (1003, (.t (.var 16))), (1001, (.t (.var 12))), (1000, (.r 11))], [((.var 1001), (.var 12)), ((.var 1), (.var 1)), ((.lit (0)), (.lit (0))), ((.var 5), (.var 5)), ((.var 2), (.var 2)), ((.var 1), (.var 1)), ((.lit (0)), (.lit (0)))], [], []⟩))) .top))))
 (.inv 2 16 ⟨1000, [(1002, (.t (.var 13))), (1004, (.t (.lit (0)))), (1003, (.t (.var 14))), (1001, (.t (.var 12))), (1000, (.r 11))], [((.var 1001), (.var 12)), ((.var 1), (.var 1)), ((.lit (0)), (.lit (0))), ((.var 5), (.var 5)), ((.var 2), (.var 2)), ((.var 1), (.var 1)), ((.lit (0)), (.lit (0)))], [], []⟩ (.fresh 16 (.fresh 17 (.fresh 18 (.fresh 19 (.fresh 20 (.hyp 2 16 (.br (.cmp .lss (.var 20) (.var 1))
 (.need (.cmp .leq (.lit (0)) (.var 20)) (.need (.cmp .lss (.var 20) (.dlen (.var 3))) (.inv 3 21 ⟨1000, [(1002, (.t (.var 18))), (1006, (.t (.lit (0)))), (1005, (.t (.arith .xor .u8 (.var 5) (.icell (.var 3) (.var 20) 0)))), (1004, (.t (.var 20))), (1003, (.t (.var 19))), (1001, (.t (.var 17))), (1000, (.r 16))], [((.var 1001), (.var 17)), ((.var 1), (.var 1)), ((.lit (0)), (.lit (0))), ((.var 5), (.var 5)), ((.var 2), (.var 2)), ((.var 1), (.var 1)), ((.lit (0)), (.lit (0)))], [], []⟩ (.fresh 21 (.fresh 22 (.fresh 23 (.fresh 24 (.fresh 25 (.fresh 26 (.fresh 27 (.hyp 3 21 (.br (.cmp .lss (.var 27) (.var 1))
 (.br (.cmp .neq (.var 27) (.var 25))
 (.need (.cmp .leq (.lit (0)) (.var 25)) (.need (.cmp .lss (.var 25) (.var 1)) (.need (.cmp .lss (.var 25) (.dlen (.var 3))) (.need (.cmp .leq (.lit (0)) (.var 27)) (.need (.cmp .lss (.var 27) (.dlen (.var 3))) (.both (.pre 0 ⟨0, [(1, (.t (.arith .xor .u8 (.icell (.var 3) (.var 25) 0) (.icell (.var 3) (.var 27) 0)))), (0, (.t (.var 26)))], [], [], []⟩ (.both (.fresh 28 (.post 0 0 ⟨0, [(1, (.t (.arith .xor .u8 (.icell (.var 3) (.var 25) 0) (.icell (.var 3) (.var 27) 0)))), (0, (.t (.var 26)))], [], [], []⟩ 28 (.back 3 21 ⟨1000, [(1002, (.t (.var 23))), (1006, (.t (.arith .add .i64 (.var 27) (.lit (1))))), (1005, (.t (.var 28))), (1004, (.t (.var 25))), (1003, (.t (.var 24))), (1001, (.t (.var 22))), (1000, (.r 21))], [((.var 1001), (.var 22)), ((.var 1), (.var 1)), ((.lit (0)), (.lit (0))), ((.var 5), (.var 5)), ((.var 2), (.var 2)), ((.var 1), (.var 1)), ((.lit (0)), (.lit (0)))], [], []⟩))) .top)) .top))))))
 (.back 3 21 ⟨1000, [(1002, (.t (.var 23))), (1006, (.t (.arith .add .i64 (.var 27) (.lit (1))))), (1005, (.t (.var 26))), (1004, (.t (.var 25))), (1003, (.t (.var 24))), (1001, (.t (.var 22))), (1000, (.r 21))], [((.var 1001), (.var 22)), ((.var 1), (.var 1)), ((.lit (0)), (.lit (0))), ((.var 5), (.var 5)), ((.var 2), (.var 2)), ((.var 1), (.var 1)), ((.lit (0)), (.lit (0)))], [], []⟩))
 (.pre 1 ⟨0, [(0, (.t (.var 26)))], [], [], []⟩ (.both (.fresh 28 (.post 1 0 ⟨0, [(0, (.t (.var 26)))], [], [], []⟩ 28 (.pre 0 ⟨0, [(1, (.t (.var 28))), (0, (.t (.var 24)))], [], [], []⟩ (.both (.fresh 29 (.post 0 0 ⟨0, [(1, (.t (.var 28))), (0, (.t (.var 24)))], [], [], []⟩ 29 (.need (.cmp .leq (.lit (0)) (.var 25)) (.need (.cmp .lss (.var 25) (.var 1)) (.need (.cmp .lss (.var 25) (.dlen (.var 23))) (.back 2 16 ⟨1000, [(1002, (.t (.dput (.var 23) (.var 25) 0 (.rcons (.vint .u8 (.var 29)) .rnil)))), (1004, (.t (.arith .add .i64 (.var 25) (.lit (1))))), (1003, (.t (.var 24))), (1001, (.t (.var 22))), (1000, (.r 21))], [((.var 1001), (.var 22)), ((.var 1), (.var 1)), ((.lit (0)), (.lit (0))), ((.var 5), (.var 5)), ((.var 2), (.var 2)), ((.var 1), (.var 1)), ((.lit (0)), (.lit (0)))], [], []⟩)))))) .top)))) .top))))))))))))))
 (.ret 0 ⟨6, [(8, (.t (.var 18))), (7, (.t (.var 17))), (6, (.r 16))], [((.var 7), (.var 17)), ((.var 1), (.var 1)), ((.lit (0)), (.lit (0)))], [], []⟩)))))))))))))))))))))))))))
theorem o_wgt78_eq : treeOf ⟨Try.prog, wgt78C, [times53C, over54C], [wgt78I, wgt78J, wgt78K, wgt78L]⟩ 100000 Try.f78 = o_wgt78 := by kernel_rfl
theorem wgt78_of (hd : ∀ c ∈ ([times53C, over54C] : List Ctr), c.ok Try.prog) (h : ∀ ρ : Env, ρ.good → (wgt78C).pre ρ → o_wgt78.den ⟨Try.prog, wgt78C, [times53C, over54C], [wgt78I, wgt78J, wgt78K, wgt78L]⟩ ρ) : (wgt78C).ok Try.prog :=
  ok_of_tree Try.func78 (fun a w => Try.call78 a w) hd 100000 (fun ρ hg hp => by rw [o_wgt78_eq]; exact h ρ hg hp)
def o_sizes29 : Out := (.br (.cmp .leq (.lit (1)) (.var 0))
 (.br (.cmp .leq (.var 0) (.var 1))
 (.ret 0 ⟨2, [(2, (.t (.cmp .leq (.var 1) (.lit (255)))))], [], [], []⟩)
 (.ret 0 ⟨2, [(2, (.t (.bl false)))], [], [], []⟩))
 (.ret 0 ⟨2, [(2, (.t (.bl false)))], [], [], []⟩))
theorem o_sizes29_eq : treeOf ⟨Try.prog, sizes29C, [], []⟩ 100000 Try.f29 = o_sizes29 := by kernel_rfl
theorem sizes29_of (hd : ∀ c ∈ ([] : List Ctr), c.ok Try.prog) (h : ∀ ρ : Env, ρ.good → (sizes29C).pre ρ → o_sizes29.den ⟨Try.prog, sizes29C, [], []⟩ ρ) : (sizes29C).ok Try.prog :=
  ok_of_tree Try.func29 (fun a w => Try.call29 a w) hd 100000 (fun ρ hg hp => by rw [o_sizes29_eq]; exact h ρ hg hp)
end Go.Proofs

set_option linter.unusedSimpArgs false
set_option linter.unusedVariables false
namespace Go.Proofs
open Go Go.Eng

theorem take_snoc' {l : List Int} {n : Nat} (h : n < l.length) : l.take (n + 1) = l.take n ++ [l.getD n 0] := by
  rw [List.take_add_one, List.getD_eq_getElem?_getD, List.getElem?_eq_getElem h]; rfl
/-! ### Products -/
end Go.Proofs

set_option linter.unusedSimpArgs false
set_option linter.unusedVariables false
namespace Go.Proofs
open Go Go.Eng
theorem sizes29_ok : sizes29C.ok Try.prog := sizes29_of (by simp) fun ρ hg hp => by
  simp [o_sizes29, sizes29C, sizes74C]
  refine ⟨fun h1 => ⟨fun h2 => ?_, fun h2 => ?_⟩, fun h1 => ?_⟩
  · simp [sizesB, h1, h2, cmpOf]
  · simp [sizesB]; omega
  · simp [sizesB]; omega
/-! ### Rows that are selected -/
theorem iI_len {d : Rows'} : (iI d).length = d.length := by simp [iI]
theorem iI_get {d : Rows'} {i : Int} (h0 : 0 ≤ i) (h1 : i < d.length) : (iI d).getD i.toNat 0 = cellI d i 0 := by
  have hl : i.toNat < d.length := by omega
  simp [iI, cellI, cellV, rowI, List.getD_eq_getElem?_getD, List.getElem?_eq_getElem hl]
theorem selL_snoc {m : List Int} {c : Nat} {rs : List Int} {n : Nat} (h : n < rs.length) : selL m c (rs.take (n + 1)) = selL m c (rs.take n) ++ seg m ((rs.getD n 0).toNat * c) c := by
  rw [take_snoc' h, selL, List.flatMap_append]; simp [selL]
theorem selL_len {m : List Int} {c r : Nat} (hm : r * c ≤ m.length) : ∀ {rs : List Int}, (∀ x ∈ rs, 0 ≤ x ∧ x < (r : Int)) → (selL m c rs).length = rs.length * c
  | [], _ => by simp [selL]
  | x :: rs, h => by
    have ih := selL_len hm (rs := rs) fun y hy => h y (List.mem_cons_of_mem _ hy)
    have hx := h x (List.mem_cons_self ..)
    have := row_le (ca := c) (show x.toNat < r by omega)
    rw [selL, List.flatMap_cons, List.length_append, seg_len (by omega), show (rs.flatMap fun r => seg m (r.toNat * c) c) = selL m c rs from rfl, ih, List.length_cons, Nat.add_mul]; omega
theorem selBad_not {r c l n rows : Int} {rs : List Int} (h : selOk r c l n) (hr : ∀ x ∈ rs, 0 ≤ x ∧ x < rows) : ¬ selBad r c l n rows rs := by
  obtain ⟨h1, h2, h3⟩ := h
  intro hb
  rcases hb with hb | hb | hb | ⟨x, hx, hb⟩
  · exact hb h1
  · omega
  · omega
  · have := hr x hx; omega
theorem mem_take_succ {l : List Int} {n : Nat} {P : Int → Prop} (hn : n < l.length) (h : ∀ x ∈ l.take n, P x) (hx : P (l.getD n 0)) : ∀ x ∈ l.take (n + 1), P x := fun x hm => by
  rw [take_snoc' hn] at hm
  rcases List.mem_append.1 hm with hm | hm
  · exact h x hm
  · rw [List.mem_singleton] at hm; rw [hm]; exact hx
theorem getD_mem {l : List Int} {n : Nat} (h : n < l.length) : l.getD n 0 ∈ l := by
  rw [List.getD_eq_getElem?_getD, List.getElem?_eq_getElem h]; exact List.getElem_mem h
theorem splice_take {d x : Rows'} {k : Nat} (h : k + x.length ≤ d.length) : (bI (spliceD d k x)).take (k + x.length) = (bI d).take k ++ bI x := by
  rw [spliceD, bI, List.map_append, List.map_append, List.append_assoc, ← List.append_assoc, List.take_append_of_le_length (by simp; omega), List.take_of_length_le (by simp; omega)]
  simp [bI, List.map_take]
theorem allB_spliceK {d x : Rows'} {k : Nat} (hd : allB d) (hx : allB x) : allB (spliceD d k x) := fun r hr => by
  unfold spliceD at hr
  rcases List.mem_append.1 hr with hr | hr
  · rcases List.mem_append.1 hr with hr | hr
    · exact hd r (List.mem_of_mem_take hr)
    · exact hx r hr
  · exact hd r (List.mem_of_mem_drop hr)
theorem bI_drop {d : Rows'} {n : Nat} : bI (d.drop n) = (bI d).drop n := by simp [bI, List.map_drop]
theorem sel62_ok : sel62C.ok Try.prog := sel62_of (by simp [valid36_ok, zero82_ok, row75_ok]) fun ρ hg hp => by
  obtain ⟨a0, a1, a2, a3, n0, n1⟩ : 0 ≤ (ρ 3).i ∧ (ρ 3).i ≤ (ρ 4).i ∧ (ρ 3).i ≤ (ρ 5).d.length ∧ allB (ρ 5).d ∧ 0 ≤ (ρ 8).i ∧ (ρ 8).i = (ρ 10).d.length := hp
  simp (config := { maxSteps := 4000000 }) [o_sel62, sel62C, sel62I, sel62J, valid36C, zero82C, row75C]
  refine ⟨a0, fun v _ hv => ⟨fun hb => .inl fun h => ?_, fun hb => ⟨n0, fun h => .inr (.inl h), fun hn => ⟨fun h => .inr (.inr (.inl h)), fun hn2 => ?_⟩⟩⟩⟩
  · have := hv.2 h; rw [hb] at this; cases this
  have vA : validM (ρ 0).i (ρ 1).i (ρ 3).i := hv.1 hb
  have hok : selOk (ρ 0).i (ρ 1).i (ρ 3).i (ρ 8).i := ⟨vA, by omega, hn2⟩
  have vA' := vA
  obtain ⟨r1, r2, c1, c2, hl⟩ := vA'
  have hil : (iI (ρ 10).d).length = (ρ 8).i.toNat := by rw [iI_len]; omega
  refine ⟨⟨hok, n0⟩, fun i _ _ i0 i1 hin => ⟨fun hi => ⟨i0, by omega, fun h => ?_, fun h0 => ⟨fun h => ?_, fun h1 => ?_⟩⟩, fun hi => ?_⟩⟩
  · refine .inr (.inr (.inr ⟨cellI (ρ 10).d i.i 0, ?_, .inl h⟩))
    rw [← iI_get i0 (by omega)]; exact getD_mem (by omega)
  · refine .inr (.inr (.inr ⟨cellI (ρ 10).d i.i 0, ?_, .inr h⟩))
    rw [← iI_get i0 (by omega)]; exact getD_mem (by omega)
  · rw [add64 (by omega) (by omega)]
    refine ⟨⟨hok, by omega, by omega, ?_⟩, by omega⟩
    rw [show (i.i + 1).toNat = i.i.toNat + 1 by omega]
    exact mem_take_succ (by omega) hin (by rw [iI_get i0 (by omega)]; exact ⟨h0, h1⟩)
  have hall : ∀ x ∈ iI (ρ 10).d, 0 ≤ x ∧ x < (ρ 0).i := by
    rw [List.take_of_length_le (by omega)] at hin; exact hin
  have hbb := mul_bound (x := (ρ 8).i) (y := (ρ 1).i) n0 hn2 (by omega) c2
  refine ⟨⟨n0, hn2, by omega, c2⟩, fun l _ cp _ d _ hl1 hc1 hd => ⟨⟨hok, n0, hall, ?_, by rw [hd, List.length_replicate]; omega, rfl⟩, fun j _ l2 _ cp2 _ d2 _ _ j0 j1 _ hM hL hS => ⟨fun hj => ?_, fun hj => ?_⟩⟩⟩
  · exact ⟨n0, hn2, by omega, c2, hl1, by omega, by rw [hd, List.length_replicate]; omega, by rw [hd]; exact allB_rep⟩
  · have hx := hall _ (getD_mem (l := iI (ρ 10).d) (n := j.i.toNat) (by omega))
    rw [iI_get j0 (by omega)] at hx
    have hM' := hM
    obtain ⟨m1, m2, m3, m4, m5, m6, m7, m8⟩ := hM'
    refine ⟨j0, by omega, ⟨j0, hj, hM⟩, fun o _ n _ k _ ho hn' hk => ⟨⟨hx.1, hx.2, by omega, r2, by omega, c2, hl, a1, a2, a3⟩, fun o' _ n' _ k' _ ho' hn'' hk' => ?_⟩⟩
    have hbj := mul_bound (x := j.i) (y := (ρ 1).i) j0 (show j.i ≤ 255 by omega) (by omega) c2
    have hbx := mul_bound (x := cellI (ρ 10).d j.i 0) (y := (ρ 1).i) hx.1 (show _ ≤ 255 by omega) (by omega) c2
    have hle1 : j.i * (ρ 1).i + (ρ 1).i ≤ (ρ 8).i * (ρ 1).i := by
      have := Int.mul_le_mul_of_nonneg_right (show j.i + 1 ≤ (ρ 8).i by omega) (show 0 ≤ (ρ 1).i by omega)
      rw [Int.add_mul, Int.one_mul] at this; omega
    have hle2 : cellI (ρ 10).d j.i 0 * (ρ 1).i + (ρ 1).i ≤ (ρ 0).i * (ρ 1).i := by
      have := Int.mul_le_mul_of_nonneg_right (show cellI (ρ 10).d j.i 0 + 1 ≤ (ρ 0).i by omega) (show 0 ≤ (ρ 1).i by omega)
      rw [Int.add_mul, Int.one_mul] at this; omega
    rw [if_neg (by omega), add64 (by omega) (by omega)]
    have hseg : ((((ρ 5).d.drop o'.i.toNat).take n'.i.toNat).take n.i.toNat) = ((ρ 5).d.drop o'.i.toNat).take (ρ 1).i.toNat := by rw [List.take_take, hn', hn'', Nat.min_self]
    rw [hseg]
    have hsl : (((ρ 5).d.drop o'.i.toNat).take (ρ 1).i.toNat).length = (ρ 1).i.toNat := by rw [List.length_take, List.length_drop]; omega
    refine ⟨by omega, by omega, by omega, by omega, by omega, by omega, ⟨hok, by omega, by omega, hall, ?_, ?_, ?_⟩, by omega⟩
    · exact ⟨m1, m2, m3, m4, m5, m6, by rw [spliceD_len (by rw [hsl]; omega)]; exact m7, allB_spliceK m8 fun r hr => a3 r (List.mem_of_mem_drop (List.mem_of_mem_take hr))⟩
    · rw [spliceD_len (by rw [hsl]; omega)]; exact hL
    · have hk1 : ((j.i + 1) * (ρ 1).i).toNat = o.i.toNat + (((ρ 5).d.drop o'.i.toNat).take (ρ 1).i.toNat).length := by rw [hsl, Int.add_mul, Int.one_mul]; omega
      rw [hk1, splice_take (by rw [hsl]; omega), ho, hS, show (j.i + 1).toNat = j.i.toNat + 1 by omega, selL_snoc (by omega), iI_get j0 (by omega), bI_take, bI_drop, ho', seg]
      congr 3
      rw [Int.toNat_mul hx.1 (by omega)]
  · have : j.i = (ρ 8).i := by omega
    have hl8 := hM.2.2.2.2.1
    rw [this, List.take_of_length_le (by rw [bI_len]; omega), List.take_of_length_le (by omega)] at hS
    exact ⟨selBad_not hok hall, hM, hL, hS⟩
/-! ### Weights -/
theorem wgtX_cell {d : Rows'} {i : Int} (h0 : 0 ≤ i) (h1 : i < d.length) : toF (cellI d i 0) = wgtX d i.toNat := by
  rw [wgtX, List.getD_eq_getElem?_getD, bI_get h0 h1]; rfl
theorem fillTo_at {f : Nat → Int} {n : Nat} : fillTo f n n = (List.range n).map f := fillTo_full
theorem finv_fmul {a b : F} (ha : a ≠ 0) (hb : b ≠ 0) : finv (fmul a b) = fmul (finv a) (finv b) := by
  symm
  refine fmul_eq_one ?_
  rw [fmul_assoc, ← fmul_assoc (x := b), fmul_comm (x := b), fmul_assoc (x := finv a), fmul_finv hb, fmul_one, fmul_finv ha]
theorem lag_weight {n : Nat} {xs : Nat → F} {x : F} {i : Nat} (hd : distinct n xs) (hi : i < n) (hx : ∀ m, m < n → x ≠ xs m) :
    fmul (fprod (fun m => x ^^^ xs m) n) (finv (fmul (x ^^^ xs i) (fprod (fun m => if m = i then 1 else xs i ^^^ xs m) n))) = lagF n xs x i := by
  have h1 : x ^^^ xs i ≠ 0 := fun h => hx i hi (xor_eq_zero.1 h)
  have h2 : fprod (fun m => if m = i then 1 else xs i ^^^ xs m) n ≠ 0 := fprod_ne fun m hm => by
    split
    · decide
    · rename_i hmi
      exact fun h => hmi (hd i m hi hm (xor_eq_zero.1 h)).symm
  rw [finv_fmul h1 h2, fprod_out hi, lagF, fmul_comm (x := x ^^^ xs i), fmul_assoc, ← fmul_assoc (x := x ^^^ xs i), fmul_finv h1, one_fmul]
theorem wgtL_in {d : Rows'} {x : Int} {i : Nat} (hd : distL (bI d)) (hi : i < d.length) (hx : toF x = wgtX d i) : wgtL (bI d) x = (List.replicate d.length 0).set i 1 := by
  apply List.ext_getElem?
  intro j
  rw [wgtL, bI_len, List.getElem?_map, List.getElem?_set]
  by_cases hj : j < d.length
  · rw [List.getElem?_range hj, Option.map_some, hx]
    have hdd : distinct d.length (wgtX d) := by
      have := hd
      unfold distL at this
      rw [bI_len] at this
      exact this
    have hl : lagF d.length (fun m => toF ((bI d).getD m 0)) (wgtX d i) j = del j i := lag_del hdd hj hi
    rw [hl, del]
    by_cases hij : i = j
    · subst hij; rw [if_pos rfl, if_pos rfl, if_pos (by simpa using hj)]; rfl
    · rw [if_neg (Ne.symm hij), if_neg hij, List.getElem?_replicate, if_pos hj]; rfl
  · rw [List.getElem?_eq_none (by simp; omega), Option.map_none, if_neg (by omega), List.getElem?_eq_none (by simp; omega)]
theorem wgt78_ok : wgt78C.ok Try.prog := wgt78_of (by simp [times53_ok, over54_ok]) fun ρ hg hp => by
  obtain ⟨l0, l1, l2, hB, hx, hd⟩ := hp
  have hdd : distinct (ρ 1).i.toNat (wgtX (ρ 3).d) := by
    have := hd
    unfold distL at this
    rw [bI_len, show (ρ 3).d.length = (ρ 1).i.toNat by omega] at this
    exact this
  have hw1 : ∀ i : Int, 0 ≤ i → i < (ρ 1).i → isB (cellI (ρ 3).d i 0) := fun i h0 h1 => allB_get hB h0 (by omega)
  simp (config := { maxSteps := 4000000 }) [o_wgt78, wgt78C, wgt78I, wgt78J, wgt78K, wgt78L, times53C, over54C]
  refine ⟨l0, by omega, ⟨l0, fun m h => by omega⟩, fun cp _ w _ i _ hcp hw i0 i1 hni => ⟨fun hi => ⟨i0, by omega, fun he => ?_, fun hne => ?_⟩, fun hi => ?_⟩⟩
  · rw [hw]
    refine ⟨by rw [List.length_replicate]; omega, hcp, ?_⟩
    rw [bI_put, bI_rep, wgtL_in hd (i := i.i.toNat) (by omega) (by rw [← he]; exact wgtX_cell i0 (by omega)), show (ρ 1).i.toNat = (ρ 3).d.length by omega]
  · rw [add64 (by omega) (by omega)]
    refine ⟨⟨hcp, hw, by omega, by omega, fun m hm => ?_⟩, by omega⟩
    by_cases hmi : (m : Int) = i.i
    · intro h
      have hc := wgtX_cell (d := (ρ 3).d) i0 (by omega)
      rw [← hmi, Int.toNat_natCast, hmi] at hc
      exact hne (toF_inj (hw1 _ i0 hi) hx (hc.trans h.symm))
    · exact hni m (by omega)
  have hnot : notIn (ρ 1).i (ρ 5).i (ρ 3).d := fun m hm => hni m (by omega)
  have hneq : ∀ m, m < (ρ 1).i.toNat → toF (ρ 5).i ≠ wgtX (ρ 3).d m := fun m hm => hnot m (by omega)
  refine ⟨⟨hcp, hw, hnot, l0, ⟨by omega, by omega⟩, rfl⟩, fun cp2 _ w2 _ p _ j _ hcp2 hw2 _ j0 j1 hpB hp => ⟨fun hj => ?_, fun hj => ?_⟩⟩
  · rw [add64 (by omega) (by omega)]
    refine ⟨j0, by omega, ⟨hpB, xorB_isB⟩, fun q _ hq => ⟨⟨hcp2, hw2, hnot, by omega, by omega, by rw [hq]; exact mulF_isB hpB xorB_isB, ?_⟩, by omega⟩⟩
    have hxx : toF (xorB (ρ 5).i (cellI (ρ 3).d j.i 0)) = toF (ρ 5).i ^^^ wgtX (ρ 3).d j.i.toNat := by rw [toF_xorB, wgtX_cell j0 (by omega)]
    have hm : toF (mulF p.i (xorB (ρ 5).i (cellI (ρ 3).d j.i 0))) = fmul (toF p.i) (toF (ρ 5).i ^^^ wgtX (ρ 3).d j.i.toNat) := by rw [toF_mulF hpB xorB_isB, hxx]
    rw [hq, show (j.i + 1).toNat = j.i.toNat + 1 by omega, fprod, ← hp]
    exact hm
  have hpn : toF p.i = fprod (fun m => toF (ρ 5).i ^^^ wgtX (ρ 3).d m) (ρ 1).i.toNat := by rw [hp]; congr 1; omega
  refine ⟨⟨hcp2, hnot, hpB, hpn, by rw [hw2, List.length_replicate], Int.le_refl _, l0, by rw [hw2, bI_rep]; exact fillTo_zero.symm⟩, fun cp3 _ w3 _ p3 _ i3 _ hcp3 hP => ⟨fun hi3 => ?_, fun hi3 => ?_⟩⟩
  · have hP' := hP
    obtain ⟨_, hpB3, hp3, hwl, i30, i31, hf⟩ := hP'
    have hst : toF (xorB (ρ 5).i (cellI (ρ 3).d i3.i 0)) = toF (ρ 5).i ^^^ wgtX (ρ 3).d i3.i.toNat := by rw [toF_xorB, wgtX_cell i30 (by omega)]
    refine ⟨i30, by omega, ⟨hcp3, hP, hi3, l0, xorB_isB, ?_⟩, fun cp4 _ w4 _ p4 _ i4 _ q4 _ j4 _ hcp4 hP4 hi4 hii j40 j41 hqB hq4 => ⟨fun hj4 => ⟨fun hne => ?_, fun he => ?_⟩, fun hj4 => ?_⟩⟩
    · show toF (xorB _ _) = _
      rw [hst, fprod]; exact fmul_one.symm
    · obtain ⟨_, hpB4, hp4, hwl4, i40, i41, hf4⟩ := hP4
      rw [add64 (by omega) (by omega)]
      refine ⟨i40, hi4, by omega, j40, by omega, ⟨hqB, xorB_isB⟩, fun z _ hz => ⟨⟨hcp4, ⟨hnot, hpB4, hp4, hwl4, i40, i41, hf4⟩, hi4, hii, by omega, by omega, by rw [hz]; exact mulF_isB hqB xorB_isB, ?_⟩, by omega⟩⟩
      have hm : toF (mulF q4.i (xorB (cellI (ρ 3).d i4.i 0) (cellI (ρ 3).d j4.i 0))) = fmul (toF q4.i) (wgtX (ρ 3).d i4.i.toNat ^^^ wgtX (ρ 3).d j4.i.toNat) := by rw [toF_mulF hqB xorB_isB, toF_xorB, wgtX_cell i40 (by omega), wgtX_cell j40 (by omega)]
      rw [hz, show (j4.i + 1).toNat = j4.i.toNat + 1 by omega, fprod, if_neg (by omega), ← fmul_assoc, ← hq4]
      exact hm
    · rw [add64 (by omega) (by omega)]
      refine ⟨⟨hcp4, hP4, hi4, hii, by omega, by omega, hqB, ?_⟩, by omega⟩
      rw [hq4, show (j4.i + 1).toNat = j4.i.toNat + 1 by omega, fprod, if_pos (by omega), show (1#8 : F) = 1 from rfl, fmul_one]
    · obtain ⟨_, hpB4, hp4, hwl4, i40, i41, hf4⟩ := hP4
      rw [add64 (by omega) (by omega)]
      refine ⟨hqB, fun iv _ hiv => ⟨⟨hpB4, by rw [hiv]; exact invF_isB hqB⟩, fun z _ hz => ⟨i40, hi4, by omega, ⟨hcp4, hnot, hpB4, hp4, by rw [putD_len]; exact hwl4, by omega, by omega, ?_⟩, by omega⟩⟩⟩
      rw [bI_put, hf4, show (i4.i + 1).toNat = i4.i.toNat + 1 by omega, fillTo_step (by omega)]
      congr 1
      refine toF_inj ?_ ofF_isB ?_
      · rw [hz]; exact mulF_isB hpB4 (by rw [hiv]; exact invF_isB hqB)
      · rw [hz, hiv, toF_mulF hpB4 (invF_isB hqB), toF_invF hqB, hp4, hq4, toF_ofF, show j4.i.toNat = (ρ 1).i.toNat by omega]
        exact lag_weight hdd (by omega) hneq
  · obtain ⟨_, hpB3, hp3, hwl, i30, i31, hf⟩ := hP
    refine ⟨hcp3, ?_⟩
    rw [hf, show i3.i.toNat = (ρ 1).i.toNat by omega, fillTo_at, wgtL, bI_len, show (ρ 3).d.length = (ρ 1).i.toNat by omega]
    rfl
theorem lagF_congr {n : Nat} {xs ys : Nat → F} {x : F} {i : Nat} (hi : i < n) (h : ∀ m, m < n → xs m = ys m) : lagF n xs x i = lagF n ys x i := by
  rw [lagF, lagF, fprod_congr (g := fun m => if m = i then 1 else x ^^^ ys m) fun m hm => by simp only [h m hm], fprod_congr (f := fun m => if m = i then 1 else xs i ^^^ xs m) (g := fun m => if m = i then 1 else ys i ^^^ ys m) fun m hm => by simp only [h m hm, h i hi]]
theorem first_get {n m : Nat} (h : m < n) : (firstL n).getD m 0 = (m : Int) := by
  rw [List.getD_eq_getElem?_getD, firstL, List.getElem?_map, List.getElem?_range h]; rfl
theorem first_len {n : Nat} : (firstL n).length = n := by simp [firstL]
/-- A row of the generator. -/
theorem gen_row {k total i : Nat} (h1 : 1 ≤ k) (hk : k ≤ total) (ht : total ≤ 255) (hi : i < total) : (genL k total).take ((i + 1) * k) = (genL k total).take (i * k) ++ wgtL (firstL k) (i : Int) := by
  obtain ⟨g1, g2, _, g4⟩ := gen_facts h1 hk ht
  rw [Nat.add_mul, Nat.one_mul, List.take_add]
  congr 1
  have hle := row_le (ca := k) hi
  apply List.ext_getElem?
  intro j
  rw [List.getElem?_take, List.getElem?_drop, wgtL, first_len, List.getElem?_map]
  by_cases hj : j < k
  · rw [if_pos hj, List.getElem?_range hj, Option.map_some, List.getElem?_eq_getElem (by omega)]
    have h2 := g4 i j hi hj
    rw [matL, List.getD_eq_getElem?_getD, List.getElem?_eq_getElem (by omega), Option.getD_some] at h2
    rw [Option.some.injEq, ← ofF_toF (g2 _ (List.getElem_mem (l := genL k total) (n := i * k + j) (by omega))), h2]
    congr 1
    refine lagF_congr hj fun m hm => ?_
    rw [first_get hm]; rfl
  · rw [if_neg hj, List.getElem?_eq_none (l := List.range k) (by simp; omega)]; rfl
theorem wgtL_len {xs : List Int} {x : Int} : (wgtL xs x).length = xs.length := by simp [wgtL]
end Go.Proofs

set_option linter.unusedSimpArgs false
set_option linter.unusedVariables false
namespace Go.Eng
open Go
end Go.Eng
namespace Go.Proofs
open Go Go.Eng
theorem list_ext_getD {a b : List Int} (hl : a.length = b.length) (h : ∀ i, i < a.length → a.getD i 0 = b.getD i 0) : a = b := by
  apply List.ext_getElem hl
  intro i h1 h2
  have := h i h1
  rwa [List.getD_eq_getElem?_getD, List.getElem?_eq_getElem h1, List.getD_eq_getElem?_getD, List.getElem?_eq_getElem h2] at this
theorem upto_at {ρ ρ' : Env} {nv m : Nat} (hag : ∀ n, n < nv → ρ' n = ρ n) (h : nv ≤ m) : ∀ n, n < nv → (ρ'.upto m) n = ρ n := fun n hn => by
  rw [Env.upto, if_pos (by omega)]
  exact hag n hn
end Go.Proofs

set_option linter.unusedSimpArgs false
set_option linter.unusedVariables false
namespace Go.Eng
open Go Go.Proofs
/-- k different numbers below total. -/
def chooseOk (k total : Nat) (rs : List Int) : Prop := rs.length = k ∧ rs.Nodup ∧ ∀ x ∈ rs, 0 ≤ x ∧ x < (total : Int)
end Go.Eng
namespace Go.Proofs
open Go Go.Eng

/-! ### The left side alone -/
theorem del_symm {i j : Nat} : del i j = del j i := by
  unfold del
  by_cases hij : i = j
  · rw [if_pos hij, if_pos hij.symm]
  · rw [if_neg hij, if_neg (Ne.symm hij)]
/-! ### Rows that are chosen -/
theorem sel_get {m : List Int} {k R : Nat} (hm : m.length = R * k) : ∀ {rs : List Int}, (∀ x ∈ rs, 0 ≤ x ∧ x < (R : Int)) → ∀ {i j : Nat}, i < rs.length → j < k → (selL m k rs).getD (i * k + j) 0 = m.getD ((rs.getD i 0).toNat * k + j) 0
  | [], _, i, j, hi, _ => by simp at hi
  | x :: rs, h, i, j, hi, hj => by
    have hx := h x (List.mem_cons_self ..)
    have hxk : x.toNat * k + k ≤ R * k := by
      have h1 : x.toNat + 1 ≤ R := by omega
      have := Nat.mul_le_mul_right k h1
      rw [Nat.add_mul] at this; omega
    have hsl : (seg m (x.toNat * k) k).length = k := by rw [seg, List.length_take, List.length_drop]; omega
    rw [selL, List.flatMap_cons]
    cases i with
    | zero =>
      rw [Nat.zero_mul, Nat.zero_add, List.getD_eq_getElem?_getD, List.getElem?_append_left (by rw [hsl]; exact hj), seg, List.getElem?_take, if_pos hj, List.getElem?_drop, ← List.getD_eq_getElem?_getD]
      rfl
    | succ i =>
      have ih := sel_get hm (rs := rs) (fun y hy => h y (List.mem_cons_of_mem _ hy)) (i := i) (j := j) (by simpa using hi) hj
      rw [List.getD_eq_getElem?_getD, List.getElem?_append_right (by rw [hsl, Nat.add_mul]; omega), hsl, show (i + 1) * k + j - k = i * k + j by rw [Nat.add_mul]; omega, ← List.getD_eq_getElem?_getD]
      exact ih
theorem sel_bytes {m : List Int} {k : Nat} {rs : List Int} (h : bytesL m) : bytesL (selL m k rs) := fun x hx => by
  rw [selL, List.mem_flatMap] at hx
  obtain ⟨r, _, hx⟩ := hx
  exact h x (List.mem_of_mem_drop (List.mem_of_mem_take hx))
theorem chosen_distinct {k total : Nat} {rs : List Int} (h : chooseOk k total rs) (ht : total ≤ 255) : distinct k fun i => xsF (rs.getD i 0).toNat := by
  obtain ⟨h1, h2, h3⟩ := h
  intro i j hi hj he
  have gi : rs.getD i 0 = rs[i]'(by omega) := by rw [List.getD_eq_getElem?_getD, List.getElem?_eq_getElem (by omega)]; rfl
  have gj : rs.getD j 0 = rs[j]'(by omega) := by rw [List.getD_eq_getElem?_getD, List.getElem?_eq_getElem (by omega)]; rfl
  have mi := h3 _ (List.getElem_mem (l := rs) (n := i) (by omega))
  have mj := h3 _ (List.getElem_mem (l := rs) (n := j) (by omega))
  simp only [gi, gj] at he
  have := xs_distinct (n := 256) (Nat.le_refl _) _ _ (by omega) (by omega) he
  exact (List.getElem_inj (h₀ := by omega) (h₁ := by omega) h2).1 (by omega)
theorem sel_len' {m : List Int} {k total : Nat} {rs : List Int} (h : chooseOk k total rs) (hm : m.length = total * k) : (selL m k rs).length = k * k := by
  rw [selL_len (r := total) (by omega) h.2.2, h.1]
/-- Rows of a generator that are chosen bring only 0 to 0. -/
theorem gen_inj {k total : Nat} {rs : List Int} (h : chooseOk k total rs) (h1 : 1 ≤ k) (hk : k ≤ total) (ht : total ≤ 255) {y : Nat → F}
    (hy : ∀ i, i < k → fsum (fun j => fmul (matL k (genL k total) (rs.getD i 0).toNat j) (y j)) k = 0) : ∀ j, j < k → y j = 0 := by
  obtain ⟨g1, g2, g3, _⟩ := gen_facts h1 hk ht
  obtain ⟨t2, he⟩ := top_ech hk ht
  obtain ⟨_, m2⟩ := inv_mul he
  have hz : ∀ l, l < k → fsum (fun j => fmul (matL k (topE k total).2.1 l j) (y j)) k = 0 := vander_inj (chosen_distinct h ht) fun i hi => by
    rw [← hy i hi]
    have hx := h.2.2 (rs.getD i 0) (by rw [List.getD_eq_getElem?_getD, List.getElem?_eq_getElem (by rw [h.1]; exact hi)]; exact List.getElem_mem _)
    have e2 : fsum (fun j => fmul (matL k (genL k total) (rs.getD i 0).toNat j) (y j)) k = fsum (fun j => fsum (fun l => fmul (fmul (fpow (xsF (rs.getD i 0).toNat) l) (matL k (topE k total).2.1 l j)) (y j)) k) k := fsum_congr fun j hj => by rw [g3 _ j (by omega) hj, fsum_mul']
    rw [e2, fsum_swap]
    refine fsum_congr fun l hl => ?_
    rw [← fsum_mul]
    exact fsum_congr fun j hj => by rw [fmul_assoc]
  intro j hj
  have e1 : y j = fsum (fun i => fmul (y i) (del i j)) k := (fsum_del' (f := y) hj).symm
  rw [e1, fsum_congr (g := fun i => fsum (fun l => fmul (matL k ((vanderL total k).take (k * k)) j l) (fmul (matL k (topE k total).2.1 l i) (y i))) k) fun i hi => ?_, fsum_swap]
  · refine fsum_zero fun l hl => ?_
    rw [fsum_mul, hz l hl, fmul_zero]
  · have := m2 j i hj hi
    rw [show del i j = del j i from del_symm, ← this, fmul_comm, ← fsum_mul']
    exact fsum_congr fun l hl => by rw [fmul_assoc]
/-- The same of a generator. -/
theorem rows_gen {k total : Nat} {rs : List Int} (h : chooseOk k total rs) (h1 : 1 ≤ k) (hk : k ≤ total) (ht : total ≤ 255) : (invE (selL (genL k total) k rs) k).2.2 = k := by
  obtain ⟨g1, g2, _, _⟩ := gen_facts h1 hk ht
  refine inv_rank (sel_len' h g1) (sel_bytes g2) fun y hy => gen_inj h h1 hk ht fun i hi => ?_
  rw [← hy i hi]
  refine fsum_congr fun j hj => ?_
  rw [matL, matL, sel_get g1 h.2.2 (by rw [h.1]; exact hi) hj]

/-! ### Inverses undo -/
end Go.Proofs

set_option linter.unusedSimpArgs false
set_option linter.unusedVariables false
namespace Go.Eng
open Go Go.Proofs
theorem Rd_unique {h : Hp} {pat : List CK} {v : Value} {d d' : Rows'} (h1 : Rd h pat v d) (h2 : Rd h pat v d') : d = d' := by
  rcases h1 with ⟨a, e1, rfl⟩ | ⟨b, o, cap, c, ty, fr, e1, l1, hb1, r1⟩ <;> rcases h2 with ⟨a', e2, rfl⟩ | ⟨b', o', cap', c', ty', fr', e2, l2, hb2, r2⟩
  · rfl
  · rw [e1] at e2
    simp only [Value.slice.injEq] at e2
    exact (List.length_eq_zero_iff.1 e2.2.1.symm).symm
  · rw [e1] at e2
    simp only [Value.slice.injEq] at e2
    exact List.length_eq_zero_iff.1 e2.2.1
  · rw [e1] at e2
    simp only [Value.slice.injEq, Option.some.injEq, Addr.mk.injEq] at e2
    obtain ⟨⟨rfl, rfl, _⟩, hl, rfl⟩ := e2
    rw [hb1] at hb2
    simp only [Option.some.injEq, Obj.cells.injEq] at hb2
    obtain ⟨rfl, rfl, rfl⟩ := hb2
    apply List.ext_getElem hl
    intro i i1 i2
    obtain ⟨f1, g1⟩ := r1 i _ (List.getElem?_eq_getElem i1)
    obtain ⟨f2, g2⟩ := r2 i _ (List.getElem?_eq_getElem i2)
    apply List.ext_getElem (by rw [f1.1, f2.1])
    intro k k1 k2
    have a1 := g1 k _ (List.getElem?_eq_getElem k1)
    have a2 := g2 k _ (List.getElem?_eq_getElem k2)
    rw [a1] at a2
    exact Option.some.inj a2
/-- What a slice of bytes reads as. -/
noncomputable def rdL (h : Hp) (v : Value) : List Int := open Classical in if hx : ∃ d, Rd h kB v d then bI hx.choose else []
theorem rdL_eq {h : Hp} {v : Value} {d : Rows'} (hr : Rd h kB v d) : rdL h v = bI d := by
  have hx : ∃ d, Rd h kB v d := ⟨d, hr⟩
  unfold rdL
  rw [dif_pos hx, Rd_unique hx.choose_spec hr]
/-- The first n rows are pieces. -/
def pcOk (h : Hp) (D : Rows') (n : Nat) : Prop := ∀ j, j < n → ∃ i v d, D[j]? = some [.int .i64 i, v] ∧ Rd h kB v d ∧ allB d
noncomputable def pcI (D : Rows') (j : Nat) : Int := cellI D j 0
noncomputable def pcD (h : Hp) (D : Rows') (j : Nat) : List Int := rdL h (cellV D j 1)
end Go.Eng
namespace Go.Proofs
open Go Go.Eng
theorem pc_at {h : Hp} {D : Rows'} {n j : Nat} (hp : pcOk h D n) (hj : j < n) : ∃ v d, D[j]? = some [.int .i64 (pcI D j), v] ∧ cellV D j 1 = v ∧ Rd h kB v d ∧ allB d ∧ pcD h D j = bI d := by
  obtain ⟨i, v, d, e, hr, hb⟩ := hp j hj
  have h1 : cellV D (j : Int) 1 = v := by simp [cellV, e]
  have h2 : pcI D j = i := by simp [pcI, cellI, cellV, e, vInt]
  exact ⟨v, d, by rw [h2]; exact e, h1, hr, hb, by rw [pcD, h1, rdL_eq hr]⟩
theorem enc_pc {h : Hp} {D : Rows'} {n : Nat} {f : Nat → List Int} (he : encAt h D n f) : pcOk h D n ∧ ∀ j, j < n → pcI D j = j ∧ pcD h D j = f j := by
  refine ⟨fun j hj => ?_, fun j hj => ?_⟩
  · obtain ⟨v, d, e, hr, _, hb⟩ := he j hj
    exact ⟨_, v, d, e, hr, hb⟩
  · obtain ⟨v, d, e, hr, hf, hb⟩ := he j hj
    refine ⟨by simp [pcI, cellI, cellV, e, vInt], ?_⟩
    rw [pcD, show cellV D (j : Int) 1 = v by simp [cellV, e], rdL_eq hr, hf]
end Go.Proofs

set_option linter.unusedSimpArgs false
set_option linter.unusedVariables false
namespace Go.Eng
open Go Go.Proofs

/-! ### The same where no error comes -/
def genKC : Ctr := { gen35C with pre := fun ρ => fieldD (ρ 1).d ∧ sizesB (ρ 2).i (ρ 3).i = true, alts := gen35C.alts.drop 1 }
def selGC : Ctr := { sel62C with pre := fun ρ => sel62C.pre ρ ∧ ¬ selBad (ρ 0).i (ρ 1).i (ρ 3).i (ρ 8).i (ρ 0).i (iI (ρ 10).d), alts := sel62C.alts.drop 1 }
def invGC : Ctr := { inverse55C with pre := fun ρ => inverse55C.pre ρ ∧ validM (ρ 2).i (ρ 3).i (ρ 5).i ∧ (ρ 2).i = (ρ 3).i ∧ (invE ((bI (ρ 7).d).take (ρ 5).i.toNat) (ρ 2).i.toNat).2.2 = (ρ 2).i.toNat, alts := inverse55C.alts.drop 1 }
/-! ### Rows that are chosen -/
def rangeI (n : Nat) : List Int := (List.range n).map fun (m : Nat) => (m : Int)
def byS : SV := .one (.vslice 2 (.lit 0) (.var 3) (.var 4) 1)
def choose64C : Ctr := { fn := 64, nv := 7, ip := [(55, 2), (60, 2)], args := [iv .i64 (.var 0), iv .i64 (.var 1), byS], heap := [], ro := [iHp 2 5 6], pre := fun ρ => 0 ≤ (ρ 0).i ∧ (ρ 0).i ≤ (ρ 1).i ∧ (ρ 1).i ≤ 255 ∧ 0 ≤ (ρ 3).i ∧ (ρ 3).i ≤ 255 ∧ (ρ 3).i = (ρ 5).d.length, alts := [
  { k := 3, ret := .one (.vslice 7 (.lit 0) (.var 0) (.var 8) 1), heap := [iHp 7 9 8], post := fun ρ => (ρ 9).d.length = (ρ 0).i.toNat ∧ chooseOk (ρ 0).i.toNat (ρ 1).i.toNat (iI (ρ 9).d) }] }
def choose64I : Inv := { key := 3, nv := 5, env := [(0, iv .i64 (.var 0)), (1, iv .i64 (.var 1)), (2, byS), (7, .one (.vslice 1000 (.lit 0) (.var 1001) (.var 1002) 1)), (8, iv .i64 (.var 1003))], heap := [iHp 1000 1004 1002], inv := (fun ρ => 0 ≤ (ρ 1003).i ∧ (ρ 1003).i ≤ (ρ 1).i ∧ (ρ 1001).i = (ρ 1004).d.length ∧ iI (ρ 1004).d = rangeI (ρ 1003).i.toNat), mu := (fun ρ => ((ρ 1).i - (ρ 1003).i).toNat) }
/-- 1000 .. 1003 the chosen ones, 1004 .. 1007 what is left, 1008 the round. -/
def choose64J : Inv := { key := 8, nv := 9, env := [(0, iv .i64 (.var 0)), (2, byS), (9, .one (.vslice 1000 (.lit 0) (.var 1001) (.var 1002) 1)), (7, .one (.vslice 1004 (.lit 0) (.var 1005) (.var 1006) 1)), (10, iv .i64 (.var 1008))], heap := [iHp 1000 1003 1002, iHp 1004 1007 1006], inv := (fun ρ => 0 ≤ (ρ 1008).i ∧ (ρ 1008).i ≤ (ρ 0).i ∧ (ρ 1001).i = (ρ 1003).d.length ∧ (ρ 1005).i = (ρ 1007).d.length ∧ (ρ 1001).i = (ρ 1008).i ∧ (iI (ρ 1003).d ++ iI (ρ 1007).d).Perm (rangeI (ρ 1).i.toNat)), mu := (fun ρ => ((ρ 0).i - (ρ 1008).i).toNat) }
end Go.Eng

set_option linter.unusedSimpArgs false
set_option linter.unusedVariables false
namespace Go.Eng
open Go Go.Proofs

def pcHp (r d c : Nat) : SH := .arr r 36 kPiece (.var d) (.var c)
def pcS (r l c : Nat) : SV := .one (.vslice r (.lit 0) (.var l) (.var c) 2)
/-- Encode: that the first rows are of full rank is known. -/
def encC : Ctr := { encode31C with pre := fun ρ => fieldD (ρ 1).d ∧ (ρ 5).i = (ρ 7).d.length ∧ allB (ρ 7).d }
/-! ### Pieces that are the same -/
def samePc (h h' : Hp) (D D' : Rows') (n n' : Nat) : Prop := n = n' ∧ ∀ j, j < n → pcI D j = pcI D' j ∧ pcD h D j = pcD h' D' j
def same33Of (hp ro : List SH) (a b : Nat) : Ctr := { fn := 33, nv := 12, args := [pcS 0 1 2, pcS 5 6 7], heap := hp, ro := [pcHp 0 3 4, pcHp 5 8 9] ++ ro, pre := fun ρ => 0 ≤ (ρ 1).i ∧ (ρ 1).i ≤ 17592186043904 ∧ 0 ≤ (ρ 6).i ∧ pcOk (ρ a).h (ρ 3).d (ρ 1).i.toNat ∧ pcOk (ρ b).h (ρ 8).d (ρ 6).i.toNat, alts := [{ k := 1, ret := .one (.vbool (.var 12)), heap := hp, post := fun ρ => (ρ 12).b = true ↔ samePc (ρ a).h (ρ b).h (ρ 3).d (ρ 8).d (ρ 1).i.toNat (ρ 6).i.toNat }] }
def same33IOf (hp : List SH) (a b : Nat) : Inv := { key := 4, nv := 1, env := [(0, pcS 0 1 2), (1, pcS 5 6 7), (5, iv .i64 (.var 1000))], heap := hp, inv := (fun ρ => 0 ≤ (ρ 1000).i ∧ (ρ 1000).i ≤ (ρ 1).i ∧ (ρ 1).i = (ρ 6).i ∧ ∀ j, j < (ρ 1000).i.toNat → pcI (ρ 3).d j = pcI (ρ 8).d j ∧ pcD (ρ a).h (ρ 3).d j = pcD (ρ b).h (ρ 8).d j), mu := (fun ρ => ((ρ 1).i - (ρ 1000).i).toNat) }
/-! ### Sums of pieces -/
def mixN (f : Nat → List Int) (w : List Int) (l : Nat) : Nat → List Int
  | 0 => List.replicate l 0
  | j + 1 => addToL (mixN f w l j) 0 (seg (f j) 0 l) (w.getD j 0)
def wS : SV := .one (.vslice 5 (.lit 0) (.var 6) (.var 7) 1)
/-- Pieces 0 .. 4, weights 5 .. 9, the length 10, where the bytes are 11. -/
def mix77Of (t : Nat) : Ctr := { fn := 77, nv := 12, args := [pcS 0 1 2, wS, iv .i64 (.var 10)], heap := [], ro := [pcHp 0 3 4, bHp 5 8 9, .abs 11 t], pre := fun ρ => 0 ≤ (ρ 1).i ∧ (ρ 1).i ≤ 255 ∧ 0 ≤ (ρ 10).i ∧ (ρ 10).i ≤ 9000 ∧ (ρ 6).i = (ρ 1).i ∧ (ρ 6).i ≤ (ρ 8).d.length ∧ allB (ρ 8).d ∧ pcOk (ρ 11).h (ρ 3).d (ρ 1).i.toNat ∧ ∀ j, j < (ρ 1).i.toNat → (ρ 10).i ≤ (pcD (ρ 11).h (ρ 3).d j).length, alts := [
  { k := 3, ret := .one (.vslice 12 (.lit 0) (.var 10) (.var 13) 1), heap := [bHp 12 14 13], post := fun ρ => (ρ 14).d.length = (ρ 10).i.toNat ∧ allB (ρ 14).d ∧ bI (ρ 14).d = mixN (pcD (ρ 11).h (ρ 3).d) (bI (ρ 8).d) (ρ 10).i.toNat (ρ 1).i.toNat }] }
def mix77C : Ctr := mix77Of 2
def mix77R : Ctr := mix77Of 6
def mix77Env : List (Nat × SV) := [(0, pcS 0 1 2), (1, wS), (2, iv .i64 (.var 10)), (7, .one (.vslice 1000 (.lit 0) (.var 10) (.var 1001) 1)), (8, iv .i64 (.var 1003))]
def mix77I : Inv := { key := 3, nv := 4, env := mix77Env, heap := [bHp 1000 1002 1001], inv := (fun ρ => 0 ≤ (ρ 1003).i ∧ (ρ 1003).i ≤ (ρ 1).i ∧ (ρ 1002).d.length = (ρ 10).i.toNat ∧ allB (ρ 1002).d ∧ bI (ρ 1002).d = mixN (pcD (ρ 11).h (ρ 3).d) (bI (ρ 8).d) (ρ 10).i.toNat (ρ 1003).i.toNat), mu := (fun ρ => ((ρ 1).i - (ρ 1003).i).toNat) }
/-- 1004 the byte. -/
def mix77J : Inv := { key := 7, nv := 5, env := mix77Env ++ [(9, iv .i64 (.var 1004))], heap := [bHp 1000 1002 1001], inv := (fun ρ => 0 ≤ (ρ 1003).i ∧ (ρ 1003).i < (ρ 1).i ∧ (ρ 1003).i = (ρ 16).i ∧ (ρ 1002).d.length = (ρ 10).i.toNat ∧ allB (ρ 1002).d ∧ 0 ≤ (ρ 1004).i ∧ (ρ 1004).i ≤ (ρ 10).i ∧ bI (ρ 1002).d = addToL (mixN (pcD (ρ 11).h (ρ 3).d) (bI (ρ 8).d) (ρ 10).i.toNat (ρ 1003).i.toNat) 0 (seg (pcD (ρ 11).h (ρ 3).d (ρ 1003).i.toNat) 0 (ρ 1004).i.toNat) ((bI (ρ 8).d).getD (ρ 1003).i.toNat 0)), mu := (fun ρ => ((ρ 10).i - (ρ 1004).i).toNat) }
/-! ### The reference's pieces -/
def dataS : SV := .one (.vslice 2 (.lit 0) (.var 3) (.var 4) 1)
end Go.Eng

set_option linter.unusedSimpArgs false
set_option linter.unusedVariables false
namespace Go.Eng
open Go Go.Proofs

def encGC : Ctr := { encode31C with pre := fun ρ => encC.pre ρ ∧ sizesB (ρ 2).i (ρ 3).i = true ∧ (ρ 5).i ≤ 8192, alts := encode31C.alts.drop 1 }
/-! ### The input of a law: 0 .. 3 K, Total, Size, Index; 4 .. 6, 19 Data; 7 .. 9, 21 Other; 10 .. 12, 23 By; 13 Which, 14 At, 15 Mask; 16 .. 18, 25 Pieces; 27 what they lie in -/
def caseArg : SV := .agg [.vint .i64 (.var 0), .vint .i64 (.var 1), .vint .i64 (.var 2), .vint .i64 (.var 3), .vslice 4 (.lit 0) (.var 5) (.var 6) 1, .vslice 7 (.lit 0) (.var 8) (.var 9) 1, .vslice 10 (.lit 0) (.var 11) (.var 12) 1, .vint .i64 (.var 13), .vint .i64 (.var 14), .vint .u8 (.var 15), .vslice 16 (.lit 0) (.var 17) (.var 18) 2]
def caseRo : List SH := [bHp 4 19 20, bHp 7 21 22, iHp 10 23 24, pcHp 16 25 26, .abs 27 6]
def intIn (l : Int) (d : Rows') : Prop := 0 ≤ l ∧ l ≤ 17592186043904 ∧ l = d.length
def caseP (k total size index ld lo lb w a m lp : Int) (dd od bd pd : Rows') (h : Hp) : Prop :=
  (-9223372036854775808 ≤ k ∧ k < 9223372036854775808) ∧ (-9223372036854775808 ≤ total ∧ total < 9223372036854775808) ∧ (-9223372036854775808 ≤ size ∧ size < 9223372036854775808) ∧ (-9223372036854775808 ≤ index ∧ index < 9223372036854775808) ∧
    (0 ≤ ld ∧ ld ≤ 140737488351232 ∧ ld = dd.length ∧ allB dd) ∧ (0 ≤ lo ∧ lo ≤ 140737488351232 ∧ lo = od.length ∧ allB od) ∧ intIn lb bd ∧ byteP m ∧ intIn lp pd ∧ pcOk h pd lp.toNat
def caseIn (ρ : Env) : Prop := caseP (ρ 0).i (ρ 1).i (ρ 2).i (ρ 3).i (ρ 5).i (ρ 8).i (ρ 11).i (ρ 13).i (ρ 14).i (ρ 15).i (ρ 17).i (ρ 19).d (ρ 21).d (ρ 23).d (ρ 25).d (ρ 27).h
def cData : SV := .one (.vslice 4 (.lit 0) (.var 5) (.var 6) 1)
def lawCase (fn : Nat) : Ctr := lawIs fn 28 [caseArg] caseRo caseIn
def fHpR (r n : Nat) : SH := .arr r 98 kField (.var n) (.lit 1)
def fArgR (r : Nat) : SV := .one (.vptr r (.lit 0) 769 0)
/-! ### Different objects -/
/-- The object with one byte changed. -/
def otherL (d : List Int) (a m : Int) : List Int := d.set a.toNat (xorB (d.getD a.toNat 0) m)
end Go.Eng

set_option linter.unusedSimpArgs false
set_option linter.unusedVariables false
namespace Go.Proofs
open Go Go.Eng

theorem pc_atI {h : Hp} {D : Rows'} {n : Int} {j : Int} (hp : pcOk h D n.toNat) (h0 : 0 ≤ j) (h1 : j < n) : j < (D.length : Int) ∧ cellI D j 0 = pcI D j.toNat ∧ ∃ d, Rd h kB (cellV D j 1) d ∧ allB d ∧ pcD h D j.toNat = bI d := by
  obtain ⟨v, d, e, hv, hr, hb, hd⟩ := pc_at hp (j := j.toNat) (by omega)
  rw [Int.toNat_of_nonneg h0] at hv
  have hl := (List.getElem?_eq_some_iff.1 e).1
  exact ⟨by omega, by rw [pcI, Int.toNat_of_nonneg h0], d, by rw [hv]; exact hr, hb, hd⟩
theorem seg_all {s : List Int} : seg s 0 s.length = s := by simp [seg]
theorem enc_seg {k total : Nat} {data : List Int} (h1 : 1 ≤ k) (hk : k ≤ total) (ht : total ≤ 255) (hb : bytesL data) {i : Nat} (hi : i < k) :
    encP k total data i = seg (fullL data (k * pieceLen k data.length)) (i * pieceLen k data.length) (pieceLen k data.length) := by
  obtain ⟨e1, _, _⟩ := enc_facts h1 hk ht hb i
  obtain ⟨f1, f2⟩ := full_facts hb (n := k * pieceLen k data.length) (pieceLen_ge' (by omega))
  have hle : i * pieceLen k data.length + pieceLen k data.length ≤ k * pieceLen k data.length := by
    have := Nat.mul_le_mul_right (pieceLen k data.length) (show i + 1 ≤ k by omega)
    rw [Nat.add_mul, Nat.one_mul] at this; exact this
  have hsl : (seg (fullL data (k * pieceLen k data.length)) (i * pieceLen k data.length) (pieceLen k data.length)).length = pieceLen k data.length := seg_len (by rw [f1]; exact hle)
  refine list_ext_getD (by rw [e1, hsl]) fun c hc => ?_
  rw [e1] at hc
  rw [enc_top h1 hk ht hb hi hc, ← full_get (n := k * pieceLen k data.length), List.getD_eq_getElem?_getD, List.getD_eq_getElem?_getD, seg_get, if_pos hc]
/-- A sum of the first pieces with a row of the generator is a piece. -/
theorem enc_mix {k total : Nat} {data : List Int} (h1 : 1 ≤ k) (hk : k ≤ total) (ht : total ≤ 255) (hb : bytesL data) {i : Nat} (hi : i < total) {f : Nat → List Int} (hf : ∀ j, j < k → f j = encP k total data j) :
    mixN f (wgtL (firstL k) (i : Int)) (pieceLen k data.length) k = encP k total data i := by
  have hw : ∀ j, j < k → (wgtL (firstL k) (i : Int)).getD j 0 = (genL k total).getD (i * k + j) 0 := fun j hj => by
    have hr := gen_row h1 hk ht hi
    obtain ⟨g1, _⟩ := gen_facts h1 hk ht
    have hle := row_le (ca := k) hi
    have h2 : ((genL k total).take ((i + 1) * k))[i * k + j]? = ((genL k total).take (i * k) ++ wgtL (firstL k) (i : Int))[i * k + j]? := by rw [hr]
    rw [List.getElem?_take, if_pos (by rw [Nat.add_mul]; omega), List.getElem?_append_right (by simp; omega), List.length_take, g1, Nat.min_eq_left (by omega), Nat.add_sub_cancel_left] at h2
    rw [List.getD_eq_getElem?_getD, List.getD_eq_getElem?_getD, h2]
  have key : ∀ j, j ≤ k → mixN f (wgtL (firstL k) (i : Int)) (pieceLen k data.length) j = pieceN (genL k total) (fullL data (k * pieceLen k data.length)) k (pieceLen k data.length) i j := by
    intro j
    induction j with
    | zero => intro _; rfl
    | succ j ih =>
      intro hj
      rw [mixN, pieceN, ih (by omega), hw j (by omega), hf j (by omega)]
      obtain ⟨e1, _, _⟩ := enc_facts h1 hk ht hb j
      have hs : seg (encP k total data j) 0 (pieceLen k data.length) = encP k total data j := by
        have := seg_all (s := encP k total data j)
        rw [e1] at this
        exact this
      rw [hs, enc_seg h1 hk ht hb (i := j) (by omega)]
  exact key k (Nat.le_refl _)
theorem mixN_len {f : Nat → List Int} {w : List Int} {l : Nat} : ∀ j, (mixN f w l j).length = l
  | 0 => by simp [mixN]
  | j + 1 => by rw [mixN, addToL_len, mixN_len j]
end Go.Proofs

set_option linter.unusedSimpArgs false
set_option linter.unusedVariables false
namespace Go.Eng
open Go Go.Proofs
/-- A slice's block. -/
def blk : Value → Option Nat
  | .slice (some a) _ _ => some a.block
  | _ => none
/-- The first n of these slices read as M, and no two of them share memory. -/
def tabV (h : Hp) (vs : Nat → Value) (n : Nat) (M : Nat → List Int) : Prop :=
  (∀ j, j < n → ∃ d, Rd h kB (vs j) d ∧ bI d = M j ∧ allB d) ∧ ∀ i j, i < n → j < n → i ≠ j → M i ≠ [] → M j ≠ [] → blk (vs i) ≠ blk (vs j)
end Go.Eng
namespace Go.Proofs
open Go Go.Eng
theorem bI_nil {d : Rows'} : bI d = [] ↔ d = [] := by
  constructor
  · intro h
    have := congrArg List.length h
    rw [bI_len] at this
    exact List.length_eq_zero_iff.1 (by simpa using this)
  · rintro rfl; rfl
/-- A slice that is not empty lies at a block. -/
theorem Rd_blk {h : Hp} {pat : List CK} {v : Value} {d : Rows'} (hr : Rd h pat v d) (hd : d ≠ []) : ∃ b o cap c ty fr, v = .slice (some ⟨b, o, none⟩) d.length cap ∧ d.length ≤ cap ∧ blk v = some b ∧ h b = some (.cells c ty fr) ∧ rowsAt c o pat d := by
  rcases hr with ⟨a, _, h0⟩ | ⟨b, o, cap, c, ty, fr, h1, h2, h3, h4⟩
  · exact (hd h0).elim
  · exact ⟨b, o, cap, c, ty, fr, h1, h2, by rw [h1]; rfl, h3, h4⟩
theorem tab_at {h : Hp} {vs : Nat → Value} {n j : Nat} {M : Nat → List Int} (ht : tabV h vs n M) (hj : j < n) : ∃ d, Rd h kB (vs j) d ∧ bI d = M j ∧ allB d := ht.1 j hj
theorem tab_mono {h h' : Hp} {vs : Nat → Value} {n : Nat} {M : Nat → List Int} (ht : tabV h vs n M) (hl : Hp.le h h') : tabV h' vs n M :=
  ⟨fun j hj => by obtain ⟨d, h1, h2⟩ := ht.1 j hj; exact ⟨d, Rd_mono h1 hl, h2⟩, ht.2⟩
theorem tab_congr {h : Hp} {vs vs' : Nat → Value} {n : Nat} {M M' : Nat → List Int} (ht : tabV h vs n M) (hv : ∀ j, j < n → vs' j = vs j) (hM : ∀ j, j < n → M' j = M j) : tabV h vs' n M' :=
  ⟨fun j hj => by rw [hv j hj, hM j hj]; exact ht.1 j hj, fun i j hi hj hne h1 h2 => by rw [hv i hi, hv j hj]; rw [hM i hi] at h1; rw [hM j hj] at h2; exact ht.2 i j hi hj hne h1 h2⟩
/-- One more slice, in memory of its own. -/
theorem tab_new {h hx H : Hp} {vs vs' : Nat → Value} {n : Nat} {M M' : Nat → List Int} {v : Value} {d : Rows'} (ht : tabV h vs n M) (hl : Hp.le h H) (hr : Rd hx kB v d) (hlx : Hp.le hx H) (hdis : Hp.disj hx h) (hB : allB d)
    (hv : ∀ j, j < n → vs' j = vs j) (hvn : vs' n = v) (hM : ∀ j, j < n → M' j = M j) (hMn : M' n = bI d) : tabV H vs' (n + 1) M' := by
  have key : ∀ j, j < n → M j ≠ [] → d ≠ [] → blk (vs j) ≠ blk v := fun j hj hne hd he => by
    obtain ⟨dj, h1, h2, _⟩ := ht.1 j hj
    obtain ⟨b, _, _, c, ty, fr, _, _, e1, hb, _⟩ := Rd_blk h1 (fun h0 => hne (by rw [← h2, h0]; rfl))
    obtain ⟨b', _, _, c', ty', fr', _, _, e2, hb', _⟩ := Rd_blk hr hd
    rw [e1, e2, Option.some.injEq] at he
    subst he
    rcases hdis b with h0 | h0
    · rw [hb'] at h0; cases h0
    · rw [hb] at h0; cases h0
  refine ⟨fun j hj => ?_, fun i j hi hj hne h1 h2 => ?_⟩
  · by_cases hjn : j = n
    · subst hjn
      exact ⟨d, by rw [hvn]; exact Rd_mono hr hlx, hMn.symm, hB⟩
    · obtain ⟨dj, e1, e2, e3⟩ := ht.1 j (by omega)
      exact ⟨dj, by rw [hv j (by omega)]; exact Rd_mono e1 hl, by rw [hM j (by omega)]; exact e2, e3⟩
  · by_cases hin : i = n
    · subst hin
      rw [hvn, hv j (by omega)]
      rw [hM j (by omega)] at h2
      rw [hMn] at h1
      exact fun he => key j (by omega) h2 (fun h0 => h1 (bI_nil.2 h0)) he.symm
    · by_cases hjn : j = n
      · subst hjn
        rw [hvn, hv i (by omega)]
        rw [hM i (by omega)] at h1
        rw [hMn] at h2
        exact key i (by omega) h1 fun h0 => h2 (bI_nil.2 h0)
      · rw [hv i (by omega), hv j (by omega)]
        rw [hM i (by omega)] at h1; rw [hM j (by omega)] at h2
        exact ht.2 i j (by omega) (by omega) hne h1 h2
theorem wrote_rows {c0 c1 : Array Value} {o k : Nat} {d : Rows'} {x : Int} (hd : rowsAt c0 o kB d) (hw : Wrote c0 c1 (o + k) [.int .u8 x]) (hk : k < d.length) : rowsAt c1 o kB (putD d k 0 [.int .u8 x]) := by
  obtain ⟨_, hw⟩ := hw
  intro i row hi
  unfold putD at hi
  rw [List.getElem?_set] at hi
  split at hi
  · rename_i hik
    split at hi
    · simp only [Option.some.injEq] at hi
      subst hi
      obtain ⟨⟨hl, hf⟩, hc⟩ := hd _ _ (List.getElem?_eq_getElem (l := d) (i := ((k : Int).toNat)) (by simpa using hk))
      have hrow : splice ((d[(k : Int).toNat]?).getD []) 0 [.int .u8 x] = [.int .u8 x] := by
        rw [List.getElem?_eq_getElem (by simpa using hk), Option.getD_some]
        unfold splice
        rw [List.take_zero, List.nil_append, List.drop_eq_nil_of_le (by rw [hl]; simp [kB]), List.append_nil]
      rw [hrow]
      refine ⟨⟨rfl, fun c kk v hkk hv => ?_⟩, fun c v hv => ?_⟩
      · cases c with
        | zero =>
          simp only [kB, List.getElem?_cons_zero, Option.some.injEq] at hkk hv
          subst hkk hv; rfl
        | succ c => simp [kB] at hkk
      · cases c with
        | zero =>
          simp only [List.getElem?_cons_zero, Option.some.injEq] at hv
          subst hv
          rw [hw, if_pos (by simp [kB] at hik ⊢; omega)]
          have : o + i * kB.length + 0 - (o + k) = 0 := by simp [kB] at hik ⊢; omega
          rw [this]; rfl
        | succ c => simp at hv
    · cases hi
  · rename_i hik
    obtain ⟨hf, hc⟩ := hd i row hi
    refine ⟨hf, fun c v hv => ?_⟩
    have hcl : c < 1 := by
      have := (List.getElem?_eq_some_iff.1 hv).1
      rw [hf.1] at this
      simpa [kB] using this
    rw [hw, if_neg (by simp [kB] at hik ⊢; omega)]
    exact hc c v hv
/-- A byte is written into one of the slices. -/
theorem tab_put {h h' : Hp} {vs : Nat → Value} {n i : Nat} {M : Nat → List Int} {r : Option Addr} {d : Rows'} {k : Nat} {x : Int} {cap : Nat} (ht : tabV h vs n M) (hi : i < n) (hP : Put h h' r kB d k [.int .u8 x]) (hv : vs i = .slice (addrOf r 0) d.length cap)
    (hr : Rd h kB (vs i) d) (hk : k < d.length) (hx : 0 ≤ x ∧ x < 256) : tabV h' vs n (fun j => if j = i then (M i).set k x else M j) := by
  obtain ⟨b, o, c0, c1, ty, rfl, hb, hrows, hw, rfl⟩ := hP
  rw [addrOf_zero] at hv
  have hdn : d ≠ [] := fun h0 => by rw [h0] at hk; cases hk
  obtain ⟨di, r1, m1, b1⟩ := ht.1 i hi
  obtain rfl := Rd_unique r1 hr
  have hcap : di.length ≤ cap := by
    obtain ⟨_, _, cap', _, _, _, e1, e2, _⟩ := Rd_blk hr hdn
    rw [hv] at e1
    simp only [Value.slice.injEq] at e1
    omega
  have hbi : blk (vs i) = some b := by rw [hv]; rfl
  have hMi : M i ≠ [] := fun h0 => hdn (bI_nil.1 (by rw [m1, h0]))
  have hlen : ∀ j, ((if j = i then (M i).set k x else M j) = []) ↔ M j = [] := fun j => by
    by_cases hj : j = i
    · subst hj
      rw [if_pos rfl]
      constructor
      · intro h0
        have := congrArg List.length h0
        rw [List.length_set] at this
        exact List.length_eq_zero_iff.1 (by simpa using this)
      · intro h0; rw [h0]; rfl
    · rw [if_neg hj]
  refine ⟨fun j hj => ?_, fun i' j hi' hj hne h1 h2 => ht.2 i' j hi' hj hne (fun h0 => h1 ((hlen i').2 h0)) (fun h0 => h2 ((hlen j).2 h0))⟩
  by_cases hji : j = i
  · subst hji
    refine ⟨putD di k 0 [.int .u8 x], .inr ⟨b, o, cap, c1, ty, (0, 0), by rw [hv, putD_len], by rw [putD_len]; exact hcap, by simp [Hp.upd], wrote_rows hrows hw hk⟩, ?_, allB_put b1 hx.1 hx.2⟩
    simp only [if_true]
    rw [bI_put, m1]; rfl
  · simp only [if_neg hji]
    obtain ⟨dj, r2, m2, b2⟩ := ht.1 j hj
    refine ⟨dj, ?_, m2, b2⟩
    by_cases hdj : dj = []
    · subst hdj
      rcases r2 with h0 | ⟨b', o', cap', c', ty', fr', e1, e2, e3, e4⟩
      · exact .inl h0
      · by_cases hbb : b' = b
        · exact .inr ⟨b', o', cap', c1, ty, (0, 0), e1, e2, by simp [Hp.upd, hbb], fun q row hq => by simp at hq⟩
        · exact .inr ⟨b', o', cap', c', ty', fr', e1, e2, by simp only [Hp.upd, if_neg hbb]; exact e3, e4⟩
    · obtain ⟨b', o', cap', c', ty', fr', e1, e2, e3, e4, e5⟩ := Rd_blk r2 hdj
      have hbb : b' ≠ b := fun h0 => by
        refine ht.2 j i hj hi hji (fun h0 => hdj (bI_nil.1 (by rw [m2, h0]))) hMi ?_
        rw [e3, hbi, h0]
      exact .inr ⟨b', o', cap', c', ty', fr', e1, e2, by simp only [Hp.upd, if_neg hbb]; exact e4, e5⟩
/-- Two pieces of a star lie apart. -/
theorem star_two {ρ : Env} {x y : SH} : ∀ {l1 l2 : List SH} {H : Hp}, star ρ (l1 ++ x :: l2) H → y ∈ l2 → ∃ hx hy, Hp.disj hx hy ∧ Hp.le hx H ∧ Hp.le hy H ∧ x.den ρ hx ∧ y.den ρ hy
  | [], l2, H, ⟨h1, h2, hd, hu, hx, hs⟩, hy => by
    subst hu
    obtain ⟨g, g1, g2⟩ := star_mem hs hy
    refine ⟨h1, g, fun b => ?_, Hp.le_left _ _, Hp.le_trans g1 (Hp.le_right hd), hx, g2⟩
    rcases hd b with h0 | h0
    · exact .inl h0
    · right
      cases hg : g b with
      | none => rfl
      | some v => rw [g1 _ _ hg] at h0; cases h0
  | z :: l1, l2, H, ⟨h1, h2, hd, hu, hz, hs⟩, hy => by
    subst hu
    obtain ⟨hx, hy', e1, e2, e3, e4⟩ := star_two (l1 := l1) hs hy
    exact ⟨hx, hy', e1, Hp.le_trans e2 (Hp.le_right hd), Hp.le_trans e3 (Hp.le_right hd), e4⟩
theorem disj_le {h h1 h2 : Hp} (hd : Hp.disj h h1) (hl : Hp.le h2 h1) : Hp.disj h h2 := fun b => by
  rcases hd b with h0 | h0
  · exact .inl h0
  · right
    cases hg : h2 b with
    | none => rfl
    | some v => rw [hl _ _ hg] at h0; cases h0
end Go.Proofs

set_option linter.unusedSimpArgs false
set_option linter.unusedVariables false
namespace Go.Eng
open Go Go.Proofs
def tvs (D : Rows') : Nat → Value := fun j => cellV D j 0
/-! ### Inverses and ranks -/
end Go.Eng

set_option linter.unusedSimpArgs false
set_option linter.unusedVariables false
namespace Go.Proofs
open Go Go.Eng
theorem other_ne {d : List Int} {a m : Int} (hd : bytesL d) (h0 : 0 ≤ a) (h1 : a < d.length) (hm : 0 ≤ m ∧ m < 256) (hz : m ≠ 0) : d ≠ otherL d a m := fun he => by
  have h2 := congrArg (fun l => l[a.toNat]?) he
  simp only [otherL] at h2
  rw [List.getElem?_set_self (by omega), List.getElem?_eq_getElem (by omega), Option.some.injEq] at h2
  have hb := hd _ (List.getElem_mem (l := d) (n := a.toNat) (by omega))
  rw [List.getD_eq_getElem?_getD, List.getElem?_eq_getElem (by omega), Option.getD_some] at h2
  have h3 := congrArg toF h2
  rw [xorB_F, toF_ofF] at h3
  have h4 : toF m = 0 := by
    have := congrArg (fun x => toF d[a.toNat] ^^^ x) h3
    simp only at this
    rw [xor_self', ← BitVec.xor_assoc, xor_self', zero_xor'] at this
    exact this.symm
  exact hz (toF_inj hm ⟨by omega, by omega⟩ (by rw [h4]; rfl))
theorem other_bytes {d : List Int} {a m : Int} (hd : bytesL d) : bytesL (otherL d a m) := fun x hx => by
  rcases List.mem_or_eq_of_mem_set hx with h | rfl
  · exact hd x h
  · exact xorB_isB
/-! ### Sums -/
end Go.Proofs

set_option linter.unusedSimpArgs false
set_option linter.unusedVariables false
namespace Go.Proofs
open Go Go.Eng
variable {rows wide c rank : Nat} {T0 : Mat} {M : Nat → List Int}
theorem tab_bytes {h : Hp} {vs : Nat → Value} {n j : Nat} {M : Nat → List Int} (ht : tabV h vs n M) (hj : j < n) : bytesL (M j) := by
  obtain ⟨d, _, e, hb⟩ := ht.1 j hj
  rw [← e]; exact allB_list hb
end Go.Proofs

set_option linter.unusedSimpArgs false
set_option linter.unusedVariables false
namespace Go.Proofs
open Go Go.Eng
theorem tvs_at {D : Rows'} {i : Int} (h : 0 ≤ i) : tvs D i.toNat = cellV D i 0 := by
  unfold tvs
  rw [Int.toNat_of_nonneg h]
/-- A row that is put. -/
theorem tvs_put {D : Rows'} {i : Int} {v : Value} (hr : ∀ row ∈ D, row.length = 1) (i0 : 0 ≤ i) (i1 : i < D.length) (j : Nat) : tvs (putD D i 0 [v]) j = if j = i.toNat then v else tvs D j := by
  unfold tvs cellV putD
  rw [Int.toNat_natCast, List.getElem?_set]
  by_cases h : j = i.toNat
  · rw [if_pos h.symm, if_pos h, if_pos (by omega)]
    rfl
  · rw [if_neg (fun e => h e.symm), if_neg h]
theorem rows_put {D : Rows'} {i : Int} {v : Value} (hr : ∀ row ∈ D, row.length = 1) (i0 : 0 ≤ i) (i1 : i < D.length) : ∀ row ∈ putD D i 0 [v], row.length = 1 := fun row h => by
  unfold putD at h
  rcases List.mem_or_eq_of_mem_set h with h | rfl
  · exact hr row h
  · rw [List.getElem?_eq_getElem (by omega), Option.getD_some]
    have := hr _ (List.getElem_mem (l := D) (n := i.toNat) (by omega))
    unfold splice
    simp [this]
theorem seg_getD {l : List Int} {o n i : Nat} (hi : i < n) : (seg l o n).getD i 0 = l.getD (o + i) 0 := by
  rw [seg, List.getD_eq_getElem?_getD, List.getElem?_take, if_pos hi, List.getElem?_drop, List.getD_eq_getElem?_getD]
end Go.Proofs

set_option linter.unusedSimpArgs false
set_option linter.unusedVariables false
namespace Go.Eng
open Go Go.Proofs
/-! ### The error of pieces -/
def wantL (len : Int) (L : Nat → Nat) : Int := if len < 0 then (L 0 : Int) else len
def okTo (total len : Int) (I : Nat → Int) (L : Nat → Nat) (i : Nat) : Prop := ∀ j, j < i → (0 ≤ I j ∧ I j < total) ∧ (∀ j', j' < j → I j' ≠ I j) ∧ (len < 0 → L j ≤ 8192) ∧ (L j : Int) = wantL len L
def badAt (total len : Int) (I : Nat → Int) (L : Nat → Nat) (i : Nat) (e : Int) : Prop :=
  (¬ (0 ≤ I i ∧ I i < total) ∧ e = 2) ∨ ((0 ≤ I i ∧ I i < total) ∧ (∃ j, j < i ∧ I j = I i) ∧ e = 7) ∨
  ((0 ≤ I i ∧ I i < total) ∧ (∀ j, j < i → I j ≠ I i) ∧ (len < 0 ∧ 8192 < L i) ∧ e = 3) ∨ ((0 ≤ I i ∧ I i < total) ∧ (∀ j, j < i → I j ≠ I i) ∧ ¬ (len < 0 ∧ 8192 < L i) ∧ (L i : Int) ≠ wantL len L ∧ e = 10)
def chkP (k total len : Int) (n : Nat) (I : Nat → Int) (L : Nat → Nat) (e : Int) : Prop :=
  (∃ i, i < n ∧ okTo total len I L i ∧ badAt total len I L i e) ∨ (okTo total len I L n ∧ (((n : Int) < k ∧ e = 12) ∨ (k ≤ (n : Int) ∧ e = 0)))
noncomputable def pcN (h : Hp) (D : Rows') (j : Nat) : Nat := (pcD h D j).length
/-- k, total, length; the pieces 3 .. 5, their rows 6, 7, their bytes 8. -/
def chkOf (fn t : Nat) : Ctr := { fn := fn, nv := 9, args := [iv .i64 (.var 0), iv .i64 (.var 1), iv .i64 (.var 2), pcS 3 4 5], heap := [], ro := [pcHp 3 6 7, .abs 8 t], pre := fun ρ => (ρ 1).i ≤ 255 ∧ 0 ≤ (ρ 4).i ∧ (ρ 4).i ≤ 17592186043904 ∧ pcOk (ρ 8).h (ρ 6).d (ρ 4).i.toNat, alts := [{ k := 1, ret := iv .i64 (.var 9), heap := [], post := fun ρ => chkP (ρ 0).i (ρ 1).i (ρ 2).i (ρ 4).i.toNat (pcI (ρ 6).d) (pcN (ρ 8).h (ρ 6).d) (ρ 9).i }] }
def check88C : Ctr := { chkOf 88 4 with ip := [(1000, 9), (1001, 9)] }
def check93C : Ctr := { chkOf 93 6 with ip := [(1000, 9), (1001, 9)] }
def kSeen255 : List CK := List.replicate 255 .bool
def seenI (s : Rows') (I : Nat → Int) (i : Nat) : Prop := (∃ row, s = [row] ∧ row.length = 255) ∧ ∀ x : Int, 0 ≤ x → x < 255 → (cellXB s x.toNat = true ↔ ∃ j, j < i ∧ I j = x)
def chkEnv : List (Nat × SV) := [(0, iv .i64 (.var 0)), (1, iv .i64 (.var 1)), (2, iv .i64 (.var 2)), (3, pcS 3 4 5)]
def okR (ρ : Env) (i : Nat) : Prop := okTo (ρ 1).i (ρ 2).i (pcI (ρ 6).d) (pcN (ρ 8).h (ρ 6).d) i
/-- 1000 the round, 1001 the seen ones' region, 1002 its row. -/
def check88I : Inv := { key := 3, nv := 3, env := chkEnv ++ [(9, .one (.vptr 1001 (.lit 0) 255 0)), (13, pcS 3 4 5), (14, iv .i64 (.var 4)), (15, iv .i64 (.var 1000))], heap := [.arr 1001 121 kSeen255 (.var 1002) (.lit 1)], inv := (fun ρ => 0 ≤ (ρ 1000).i ∧ (ρ 1000).i ≤ (ρ 4).i ∧ okR ρ (ρ 1000).i.toNat ∧ seenI (ρ 1002).d (pcI (ρ 6).d) (ρ 1000).i.toNat), mu := (fun ρ => ((ρ 4).i - (ρ 1000).i).toNat) }
def check93I : Inv := { key := 2, nv := 1, env := chkEnv ++ [(9, iv .i64 (.var 1000))], heap := [], inv := (fun ρ => 0 ≤ (ρ 1000).i ∧ (ρ 1000).i ≤ (ρ 4).i ∧ okR ρ (ρ 1000).i.toNat), mu := (fun ρ => ((ρ 4).i - (ρ 1000).i).toNat) }
/-- 1001 the piece's box, 1002, 1003 what it holds, 1004 the other one. -/
def check93J (w : Nat) : Inv := { key := 8, nv := 5, env := chkEnv ++ [(9, iv .i64 (.var 1000)), (10, .one (.vptr 1001 (.lit 0) 2 0)), (11, iv .i64 (.var 1004))], heap := [.cells 1001 36 [.vint .i64 (.var 1002), .var 1003]], inv := (fun ρ => 0 ≤ (ρ 1000).i ∧ (ρ 1000).i < (ρ 4).i ∧ (ρ 1000).i = (ρ w).i ∧ okR ρ (ρ 1000).i.toNat ∧ (0 ≤ (ρ 1002).i ∧ (ρ 1002).i < (ρ 1).i) ∧ (ρ 1002).i = cellI (ρ 6).d (ρ 1000).i 0 ∧ (ρ 1003).v = cellV (ρ 6).d (ρ 1000).i 1 ∧ 0 ≤ (ρ 1004).i ∧ (ρ 1004).i ≤ (ρ 1000).i ∧ ∀ j, j < (ρ 1004).i.toNat → pcI (ρ 6).d j ≠ (ρ 1002).i), mu := (fun ρ => ((ρ 1000).i - (ρ 1004).i).toNat) }
/-! ### Sums of rows -/
def rdB (h : Hp) (v : Value) : Prop := ∃ d, Rd h kB v d ∧ allB d
def pSl' (r l c : Nat) : SV := .one (.vslice r (.lit 0) (.var l) (.var c) 1)
/-- In tables: the row that is the value v becomes l. -/
def tabTo (h h' : Hp) (v : Value) (g : List Int → List Int) : Prop := ∀ (vs : Nat → Value) (n : Nat) (M : Nat → List Int) (i : Nat), tabV h vs n M → i < n → vs i = v → tabV h' vs n fun j => if j = i then g (M i) else M j
def tabHas (h : Hp) (v : Value) (l : Nat) : Prop := ∃ (vs : Nat → Value) (n : Nat) (M : Nat → List Int) (i : Nat), tabV h vs n M ∧ i < n ∧ vs i = v ∧ l ≤ (M i).length
/-- A row among others: the row 2, what is added 3, the factor 4; where they lie 5, 6. -/
def addToT : Ctr := { fn := 76, nv := 7, ow := [1003, 3012, 19], args := [fArg, .one (.var 2), .one (.var 3), iv .u8 (.var 4)], heap := [fHp 1, .abs 5 2], ro := [.abs 6 4], pre := fun ρ => fieldD (ρ 1).d ∧ rdB (ρ 6).h (ρ 3).v ∧ (rdL (ρ 6).h (ρ 3).v).length ≤ 10000 ∧ tabHas (ρ 5).h (ρ 2).v (rdL (ρ 6).h (ρ 3).v).length ∧ byteP (ρ 4).i, alts := [
  { k := 2, ret := .tup [], heap := [fHp 7, .abs 8 2], post := fun ρ => fieldD (ρ 7).d ∧ tabTo (ρ 5).h (ρ 8).h (ρ 2).v fun l => addToL l 0 (rdL (ρ 6).h (ρ 3).v) (ρ 4).i }] }
/-- 1000 the round, 1001 the field, 1002 the length, 1003 the rows, 1004 what is added. -/
def addToTI : Inv := { key := 2, nv := 5, env := [(0, fArg), (1, .one (.var 2)), (3, iv .u8 (.var 4)), (12, .one (.var 1004)), (13, iv .i64 (.var 1002)), (14, iv .i64 (.var 1000))], heap := [fHp 1001, .abs 1003 2], inv := (fun ρ => fieldD (ρ 1001).d ∧ 0 ≤ (ρ 1000).i ∧ (ρ 1000).i ≤ (ρ 1002).i ∧ (ρ 1002).i = ((rdL (ρ 6).h (ρ 3).v).length : Int) ∧ (ρ 1004).v = (ρ 3).v ∧ tabTo (ρ 5).h (ρ 1003).h (ρ 2).v fun l => addToL l 0 (seg (rdL (ρ 6).h (ρ 3).v) 0 (ρ 1000).i.toNat) (ρ 4).i), mu := (fun ρ => ((ρ 1002).i - (ρ 1000).i).toNat) }
/-! ### Comparisons, values -/
def equal90C : Ctr := { fn := 90, nv := 7, args := [pSl' 0 1 2, .one (.var 5)], heap := [], ro := [bHp 0 3 4, .abs 6 4], pre := fun ρ => (ρ 1).i = (ρ 3).d.length ∧ (ρ 1).i ≤ 10000 ∧ allB (ρ 3).d ∧ rdB (ρ 6).h (ρ 5).v, alts := [{ k := 1, ret := .one (.vbool (.var 7)), heap := [], post := fun ρ => (ρ 7).b = true ↔ bI (ρ 3).d = rdL (ρ 6).h (ρ 5).v }] }
def equal90I : Inv := { key := 4, nv := 1, env := [(0, pSl' 0 1 2), (1, .one (.var 5)), (12, iv .i64 (.var 1)), (13, iv .i64 (.var 1000))], heap := [], inv := (fun ρ => 0 ≤ (ρ 1000).i ∧ (ρ 1000).i ≤ (ρ 1).i ∧ (ρ 1).i = ((rdL (ρ 6).h (ρ 5).v).length : Int) ∧ ∀ j, j < (ρ 1000).i.toNat → (bI (ρ 3).d).getD j 0 = (rdL (ρ 6).h (ρ 5).v).getD j 0), mu := (fun ρ => ((ρ 1).i - (ρ 1000).i).toNat) }
/-- The numbers of the first k pieces. -/
noncomputable def idxL (D : Rows') (k : Nat) : List Int := (List.range k).map (pcI D)
/-- k, the pieces 1 .. 3, their rows 4, 5, the element 6, their bytes 7. -/
def value94C : Ctr := { fn := 94, nv := 8, ip := [(1000, 9), (1001, 9)], args := [iv .i64 (.var 0), pcS 1 2 3, iv .u8 (.var 6)], heap := [], ro := [pcHp 1 4 5, .abs 7 6], pre := fun ρ => 1 ≤ (ρ 0).i ∧ (ρ 0).i ≤ 255 ∧ (ρ 0).i ≤ (ρ 2).i ∧ (ρ 2).i ≤ (ρ 3).i ∧ (ρ 2).i ≤ 17592186043904 ∧ pcOk (ρ 7).h (ρ 4).d (ρ 0).i.toNat ∧ (∀ j, j < (ρ 0).i.toNat → 0 ≤ pcI (ρ 4).d j ∧ pcI (ρ 4).d j < 256) ∧ (idxL (ρ 4).d (ρ 0).i.toNat).Nodup ∧ pcN (ρ 7).h (ρ 4).d 0 ≤ 9000 ∧ (∀ j, j < (ρ 0).i.toNat → pcN (ρ 7).h (ρ 4).d j = pcN (ρ 7).h (ρ 4).d 0) ∧ byteP (ρ 6).i, alts := [
  { k := 4, ret := .one (.vslice 8 (.lit 0) (.var 9) (.var 10) 1), heap := [bHp 8 11 10], post := fun ρ => (ρ 9).i = (ρ 11).d.length ∧ (ρ 11).d.length = pcN (ρ 7).h (ρ 4).d 0 ∧ allB (ρ 11).d ∧ bI (ρ 11).d = mixN (pcD (ρ 7).h (ρ 4).d) (wgtL (idxL (ρ 4).d (ρ 0).i.toNat) (ρ 6).i) (pcN (ρ 7).h (ρ 4).d 0) (ρ 0).i.toNat }] }
/-- 1000 .. 1003 the elements, 1004 the round. -/
def value94I : Inv := { key := 3, nv := 5, env := [(0, iv .i64 (.var 0)), (1, pcS 1 2 3), (2, iv .u8 (.var 6)), (7, pSl' 1000 1001 1002), (8, iv .i64 (.var 1004))], heap := [bHp 1000 1003 1002], inv := (fun ρ => 0 ≤ (ρ 1004).i ∧ (ρ 1004).i ≤ (ρ 0).i ∧ (ρ 1001).i = (ρ 1003).d.length ∧ allB (ρ 1003).d ∧ bI (ρ 1003).d = idxL (ρ 4).d (ρ 1004).i.toNat), mu := (fun ρ => ((ρ 0).i - (ρ 1004).i).toNat) }
/-! ### The code's sums of columns -/
noncomputable def colF (h : Hp) (D : Rows') : Nat → List Int := fun j => rdL h (tvs D j)
/-- The columns 2 .. 6, the weights 7 .. 12, where the columns' bytes lie 13. -/
def combine91C : Ctr := { fn := 91, nv := 14, args := [fArg, .one (.vslice 2 (.lit 0) (.var 3) (.var 4) 1), bSl 7 8 9 10], heap := [fHp 1], ro := [.arr 2 27 [.any] (.var 5) (.var 6), bHp 7 11 12, .abs 13 2], pre := fun ρ => fieldD (ρ 1).d ∧ 1 ≤ (ρ 3).i ∧ (ρ 3).i ≤ 255 ∧ (ρ 3).i ≤ (ρ 5).d.length ∧ (∀ row ∈ (ρ 5).d, row.length = 1) ∧ (ρ 9).i = (ρ 3).i ∧ 0 ≤ (ρ 8).i ∧ (ρ 8).i + (ρ 9).i ≤ (ρ 11).d.length ∧ allB (ρ 11).d ∧ (∀ j, j < (ρ 3).i.toNat → rdB (ρ 13).h (tvs (ρ 5).d j) ∧ (colF (ρ 13).h (ρ 5).d j).length = (colF (ρ 13).h (ρ 5).d 0).length) ∧ (colF (ρ 13).h (ρ 5).d 0).length ≤ 9000, alts := [
  { k := 5, ret := .one (.vslice 14 (.lit 0) (.var 15) (.var 16) 1), heap := [fHp 17, bHp 14 18 16], post := fun ρ => fieldD (ρ 17).d ∧ (ρ 15).i = (ρ 18).d.length ∧ (ρ 18).d.length = (colF (ρ 13).h (ρ 5).d 0).length ∧ allB (ρ 18).d ∧ bI (ρ 18).d = mixN (colF (ρ 13).h (ρ 5).d) (seg (bI (ρ 11).d) (ρ 8).i.toNat (ρ 3).i.toNat) (colF (ρ 13).h (ρ 5).d 0).length (ρ 3).i.toNat }] }
/-- 1000 .. 1003 the sum, 1004 the round, 1005 the field. -/
def combine91I : Inv := { key := 3, nv := 6, env := [(0, fArg), (1, .one (.vslice 2 (.lit 0) (.var 3) (.var 4) 1)), (7, pSl' 1000 1001 1002), (15, bSl 7 8 9 10), (16, iv .i64 (.var 9)), (17, iv .i64 (.var 1004))], heap := [fHp 1005, bHp 1000 1003 1002], inv := (fun ρ => fieldD (ρ 1005).d ∧ 0 ≤ (ρ 1004).i ∧ (ρ 1004).i ≤ (ρ 9).i ∧ (ρ 1001).i = (ρ 1003).d.length ∧ (ρ 1003).d.length = (colF (ρ 13).h (ρ 5).d 0).length ∧ allB (ρ 1003).d ∧ bI (ρ 1003).d = mixN (colF (ρ 13).h (ρ 5).d) (seg (bI (ρ 11).d) (ρ 8).i.toNat (ρ 3).i.toNat) (colF (ρ 13).h (ρ 5).d 0).length (ρ 1004).i.toNat), mu := (fun ρ => ((ρ 9).i - (ρ 1004).i).toNat) }
/-! ### A copy of pieces -/
def mine68C : Ctr := { fn := 68, nv := 6, args := [pcS 0 1 2], heap := [], ro := [pcHp 0 3 4, .abs 5 6], pre := fun ρ => 0 ≤ (ρ 1).i ∧ (ρ 1).i ≤ 17592186043904 ∧ pcOk (ρ 5).h (ρ 3).d (ρ 1).i.toNat, alts := [
  { k := 0, ret := .tup [(false, [.vnils]), (false, [.vbool (.bl false)])], heap := [], post := fun ρ => 60 < (ρ 1).i ∨ ∃ j, j < (ρ 1).i.toNat ∧ 9000 < pcN (ρ 5).h (ρ 3).d j },
  { k := 4, ret := .tup [(false, [.vslice 6 (.lit 0) (.var 1) (.var 7) 2]), (false, [.vbool (.bl true)])], heap := [pcHp 6 8 7, .abs 9 4], post := fun ρ => (ρ 1).i ≤ 60 ∧ (∀ j, j < (ρ 1).i.toNat → pcN (ρ 5).h (ρ 3).d j ≤ 9000) ∧ (ρ 8).d.length = (ρ 1).i.toNat ∧ pcOk (ρ 9).h (ρ 8).d (ρ 1).i.toNat ∧ samePc (ρ 9).h (ρ 5).h (ρ 8).d (ρ 3).d (ρ 1).i.toNat (ρ 1).i.toNat }] }
/-- 1000 .. 1003 the copy, 1004 its bytes, 1005 the round. -/
def mine68I : Inv := { key := 5, nv := 6, env := [(0, pcS 0 1 2), (4, pcS 1000 1001 1002), (5, iv .i64 (.var 1005))], heap := [pcHp 1000 1003 1002, .abs 1004 4], inv := (fun ρ => 0 ≤ (ρ 1005).i ∧ (ρ 1005).i ≤ (ρ 1).i ∧ (ρ 1).i ≤ 60 ∧ (ρ 1001).i = (ρ 1005).i ∧ (ρ 1001).i = (ρ 1003).d.length ∧ (∀ j, j < (ρ 1005).i.toNat → pcN (ρ 5).h (ρ 3).d j ≤ 9000) ∧ pcOk (ρ 1004).h (ρ 1003).d (ρ 1005).i.toNat ∧ samePc (ρ 1004).h (ρ 5).h (ρ 1003).d (ρ 3).d (ρ 1005).i.toNat (ρ 1005).i.toNat), mu := (fun ρ => ((ρ 1).i - (ρ 1005).i).toNat) }
/-! ### The columns -/
/-- The values at x of the polynomials through the first k pieces. -/
noncomputable def valL (h : Hp) (D : Rows') (k : Nat) (x : Int) : List Int := mixN (pcD h D) (wgtL (idxL D k) x) (pcN h D 0) k
def invL (total k : Nat) (rs : List Int) : List Int := (invE (selL (genL k total) k rs) k).2.1
noncomputable def solM (h : Hp) (D : Rows') (total k : Nat) (i : Nat) : List Int := mixN (pcD h D) (seg (invL total k (idxL D k)) (i * k) k) (pcN h D 0) k
def solPre (h : Hp) (D : Rows') (k total n : Int) : Prop := sizesB k total = true ∧ k ≤ n ∧ n ≤ 17592186043904 ∧ pcOk h D n.toNat ∧ chooseOk k.toNat total.toNat (idxL D k.toNat) ∧ pcN h D 0 ≤ 8192 ∧ ∀ j, j < k.toNat → pcN h D j = pcN h D 0
def genW (ρ : Env) (l c d : Nat) : Prop := fullM (ρ 3).i (ρ 2).i (ρ l).i (ρ c).i (ρ d).d ∧ bI (ρ d).d = genL (ρ 2).i.toNat (ρ 3).i.toNat
/-- k 2, total 3, the pieces 4 .. 6, their rows 7, 8, their bytes 9. -/
def solve89C : Ctr := { fn := 89, nv := 10, ip := [(1000, 9), (1001, 9)], args := [fArg, iv .i64 (.var 2), iv .i64 (.var 3), pcS 4 5 6], heap := [fHp 1], ro := [pcHp 4 7 8, .abs 9 4], pre := fun ρ => fieldD (ρ 1).d ∧ solPre (ρ 9).h (ρ 7).d (ρ 2).i (ρ 3).i (ρ 5).i, alts := [
  { k := 8, ret := .tup [(false, [.vslice 10 (.lit 0) (.var 2) (.var 2) 1]), mRet (.var 3) (.var 2) 11 12 13], heap := [fHp 14, .arr 10 27 [.any] (.var 15) (.var 2), .abs 16 2, bHp 11 17 13], post := fun ρ => fieldD (ρ 14).d ∧ (ρ 15).d.length = (ρ 2).i.toNat ∧ (∀ row ∈ (ρ 15).d, row.length = 1) ∧ tabV (ρ 16).h (tvs (ρ 15).d) (ρ 2).i.toNat (solM (ρ 9).h (ρ 7).d (ρ 3).i.toNat (ρ 2).i.toNat) ∧ genW ρ 12 13 17 }] }
def solEnv : List (Nat × SV) := [(0, fArg), (1, iv .i64 (.var 2)), (3, pcS 4 5 6), (9, .one (.vptr 1010 (.lit 0) 3 0)), (10, .one (.vptr 1004 (.lit 0) 3 0))]
def solHp : List SH := [fHp 1003, zBox 1010, boxM 1004 3 2 1005 1006 1007, bHp 1005 1008 1007]
/-- 1000, 1001 the numbers, 1002 the round, 1003 the field, 1004 .. 1008 the generator, 1010 the result's box. -/
def solve89A : Inv := { key := 4, nv := 11, env := solEnv ++ [(12, .one (.vslice 1000 (.lit 0) (.var 2) (.var 2) 1)), (31, .one (.vslice 1000 (.lit 0) (.var 2) (.var 2) 1)), (32, iv .i64 (.var 2)), (33, iv .i64 (.var 1002))], heap := solHp ++ [iHp 1000 1001 2], inv := (fun ρ => fieldD (ρ 1003).d ∧ genW ρ 1006 1007 1008 ∧ 0 ≤ (ρ 1002).i ∧ (ρ 1002).i ≤ (ρ 2).i ∧ (ρ 1001).d.length = (ρ 2).i.toNat ∧ ∀ j : Int, 0 ≤ j → j < (ρ 1002).i → cellI (ρ 1001).d j 0 = cellI (ρ 7).d j 0), mu := (fun ρ => ((ρ 2).i - (ρ 1002).i).toNat) }
def solCols : List (Nat × SV) := solEnv ++ [(16, .one (.vptr 1011 (.lit 0) 3 0)), (18, .one (.vslice 1016 (.lit 0) (.var 2) (.var 2) 1)), (59, .one (.vslice 1016 (.lit 0) (.var 2) (.var 2) 1)), (60, iv .i64 (.var 2)), (61, iv .i64 (.var 1002))]
def solCHp : List SH := solHp ++ [boxM 1011 2 2 1012 1013 1014, bHp 1012 1015 1014, .arr 1016 27 [.any] (.var 1017) (.var 2), .abs 1018 2]
noncomputable def solR (ρ : Env) : Nat → List Int := solM (ρ 9).h (ρ 7).d (ρ 3).i.toNat (ρ 2).i.toNat
/-- 1011 .. 1015 the inverse, 1016, 1017 the columns, 1018 their bytes. -/
def solW (ρ : Env) : Prop := fieldD (ρ 1003).d ∧ genW ρ 1006 1007 1008 ∧ fullM (ρ 2).i (ρ 2).i (ρ 1013).i (ρ 1014).i (ρ 1015).d ∧ bI (ρ 1015).d = invL (ρ 3).i.toNat (ρ 2).i.toNat (idxL (ρ 7).d (ρ 2).i.toNat) ∧ (ρ 1017).d.length = (ρ 2).i.toNat ∧ (∀ row ∈ (ρ 1017).d, row.length = 1) ∧ 0 ≤ (ρ 1002).i ∧ (ρ 1002).i ≤ (ρ 2).i
def solve89B : Inv := { key := 12, nv := 19, env := solCols, heap := solCHp, inv := (fun ρ => solW ρ ∧ tabV (ρ 1018).h (tvs (ρ 1017).d) (ρ 1002).i.toNat (solR ρ)), mu := (fun ρ => ((ρ 2).i - (ρ 1002).i).toNat) }
/-- 1019 the piece, 1020 .. 1022 the inverse's row. -/
def solve89D (w : Nat) : Inv := { key := 16, nv := 23, env := solCols ++ [(19, iv .i64 (.var 1002)), (75, bSl 1012 1020 1021 1022), (76, iv .i64 (.var 1021)), (77, iv .i64 (.var 1019))], heap := solCHp, inv := (fun ρ => solW ρ ∧ (ρ 1002).i < (ρ 2).i ∧ (ρ 1002).i = (ρ w).i ∧ (ρ 1020).i = (ρ 1002).i * (ρ 2).i ∧ (ρ 1021).i = (ρ 2).i ∧ 0 ≤ (ρ 1019).i ∧ (ρ 1019).i ≤ (ρ 2).i ∧
  tabV (ρ 1018).h (tvs (ρ 1017).d) ((ρ 1002).i.toNat + 1) (fun r => if r = (ρ 1002).i.toNat then mixN (pcD (ρ 9).h (ρ 7).d) (seg (invL (ρ 3).i.toNat (ρ 2).i.toNat (idxL (ρ 7).d (ρ 2).i.toNat)) ((ρ 1002).i.toNat * (ρ 2).i.toNat) (ρ 2).i.toNat) (pcN (ρ 9).h (ρ 7).d 0) (ρ 1019).i.toNat else solR ρ r)), mu := (fun ρ => ((ρ 2).i - (ρ 1019).i).toNat) }
end Go.Eng
