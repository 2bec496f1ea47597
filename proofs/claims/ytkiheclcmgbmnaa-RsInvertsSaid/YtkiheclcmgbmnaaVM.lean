/- The reference's elimination: its rows in memory. -/
import Derived.Test.YtkiheclcmgbmnaaV4
set_option linter.unusedSimpArgs false
set_option linter.unusedVariables false
namespace Go.Proofs
open Go Go.Eng
theorem tvs_at {D : Rows'} {i : Int} (h : 0 ≤ i) : tvs D i.toNat = cellV D i 0 := by
  unfold tvs
  rw [Int.toNat_of_nonneg h]
theorem row_at {h : Hp} {D : Rows'} {n : Nat} {M : Nat → List Int} {i : Int} (ht : tabV h (tvs D) n M) (i0 : 0 ≤ i) (i1 : i.toNat < n) : ∃ d, Rd h kB (cellV D i 0) d ∧ bI d = M i.toNat ∧ allB d := by
  rw [← tvs_at i0]; exact tab_at ht i1
theorem row_cell {d : Rows'} {l : List Int} {k : Int} (h : bI d = l) (k0 : 0 ≤ k) (k1 : k < d.length) : l.getD k.toNat 0 = cellI d k 0 := by rw [← h, cell_getD k0 k1]
theorem row_mat {d : Rows'} {M : Nat → List Int} {i : Nat} {k : Int} (h : bI d = M i) (k0 : 0 ≤ k) (k1 : k < d.length) : matT M i k.toNat = toF (cellI d k 0) := by
  unfold matT
  rw [row_cell h k0 k1]
/-- A row that is put. -/
theorem tvs_put {D : Rows'} {i : Int} {v : Value} (hr : ∀ row ∈ D, row.length = 1) (i0 : 0 ≤ i) (i1 : i < D.length) (j : Nat) : tvs (putD D i 0 [v]) j = if j = i.toNat then v else tvs D j := by
  unfold tvs cellV putD
  rw [Int.toNat_natCast, List.getElem?_set]
  by_cases h : j = i.toNat
  · rw [if_pos h.symm, if_pos h, if_pos (by omega)]
    rfl
  · rw [if_neg (fun e => h e.symm), if_neg h]
theorem rows_put {D : Rows'} {i : Int} {v : Value} (hr : ∀ row ∈ D, row.length = 1) (i0 : 0 ≤ i) (i1 : i < D.length) : ∀ row ∈ putD D i 0 [v], row.length = 1 := fun row h => by
  unfold putD at h
  rcases List.mem_or_eq_of_mem_set h with h | rfl
  · exact hr row h
  · rw [List.getElem?_eq_getElem (by omega), Option.getD_some]
    have := hr _ (List.getElem_mem (l := D) (n := i.toNat) (by omega))
    unfold splice
    simp [this]
theorem tvs_swap {D : Rows'} {p r : Int} (hr : ∀ row ∈ D, row.length = 1) (p0 : 0 ≤ p) (p1 : p < D.length) (r0 : 0 ≤ r) (r1 : r < D.length) (j : Nat) : tvs (putD (putD D p 0 [cellV D r 0]) r 0 [cellV D p 0]) j = tvs D (swp r.toNat p.toNat j) := by
  rw [tvs_put (rows_put hr p0 p1) r0 (by rw [putD_len]; exact r1), tvs_put hr p0 p1, ← tvs_at p0, ← tvs_at r0, swp]
  by_cases h1 : j = r.toNat
  · rw [if_pos h1, if_pos h1]
  · rw [if_neg h1, if_neg h1]
    by_cases h2 : j = p.toNat
    · rw [if_pos h2, if_pos h2]
    · rw [if_neg h2, if_neg h2]
theorem tab_swap {h : Hp} {D : Rows'} {n : Nat} {M : Nat → List Int} {p r : Int} (ht : tabV h (tvs D) n M) (hn : D.length = n) (hr : ∀ row ∈ D, row.length = 1) (p0 : 0 ≤ p) (p1 : p < n) (r0 : 0 ≤ r) (r1 : r < n) :
    tabV h (tvs (putD (putD D p 0 [cellV D r 0]) r 0 [cellV D p 0])) n fun i => M (swp r.toNat p.toNat i) :=
  tab_congr (tab_perm ht (s := swp r.toNat p.toNat) (fun j hj => swp_lt (by omega) (by omega) hj) fun i j _ _ he => swp_inj he) (fun j hj => tvs_swap hr p0 (by omega) r0 (by omega) j) fun _ _ => rfl
/-- A byte of a row is written. -/
theorem tab_write {h h' : Hp} {D : Rows'} {n : Nat} {M : Nat → List Int} {i k : Int} {f : Nat → Int → Int} {r : Option Addr} {d : Rows'} {x : Int} {v : Value} {cap : Nat} (ht : tabV h (tvs D) n (put1 M i.toNat (rowTo f (M i.toNat) k.toNat))) (hi : i.toNat < n)
    (hP : Put h h' r kB d k.toNat [.int .u8 x]) (hv : v = .slice (addrOf r 0) d.length cap) (hvi : v = tvs D i.toNat) (hr : Rd h kB v d) (k0 : 0 ≤ k) (hd : bI d = rowTo f (M i.toNat) k.toNat) (hk : k < d.length) (hx : x = f k.toNat ((M i.toNat).getD k.toNat 0)) (hxb : byteP x) :
    tabV h' (tvs D) n (put1 M i.toNat (rowTo f (M i.toNat) (k + 1).toNat)) := by
  subst hvi
  have hl : (M i.toNat).length = d.length := by rw [← rowTo_len (f := f) (j := k.toNat), ← hd, bI_len]
  refine tab_congr (tab_put ht hi hP hv hr (by omega) hxb) (fun _ _ => rfl) fun j _ => ?_
  unfold put1
  by_cases hj : j = i.toNat
  · rw [if_pos hj, if_pos hj, if_pos rfl, hx, rowTo_step (by omega), show (k + 1).toNat = k.toNat + 1 by omega]
  · rw [if_neg hj, if_neg hj, if_neg hj]
theorem put_rank {M : Nat → List Int} {i : Nat} {f : Nat → Int → Int} : put1 M i (rowTo f (M i) 0) = M := by
  funext j
  unfold put1
  by_cases h : j = i
  · rw [if_pos h, rowTo_zero, h]
  · rw [if_neg h]
/-- With no row left all further columns are passed. -/
theorem redT_full {rows wide : Nat} {T0 : Mat} {M : Nat → List Int} {rank c : Nat} (h : redT rows wide T0 c rank M) (hr : rows ≤ rank) : ∀ m, c + m ≤ wide → redT rows wide T0 (c + m) rank M
  | 0, _ => h
  | m + 1, hm => redT_skip (c := c + m) (redT_full h hr m (by omega)) (by omega) fun i h1 h2 => by omega
/-- A slice's part that is cut out of a matrix. -/
theorem cut_seg {d : Rows'} {cap p c : Int} (p0 : 0 ≤ p) (c0 : 0 ≤ c) (hcap : p + c ≤ cap) (hd : p + c ≤ d.length) :
    bI ((d.drop (if cap = p then 0 else p).toNat).take c.toNat) = seg (bI d) p.toNat c.toNat ∧ ((d.drop (if cap = p then 0 else p).toNat).take c.toNat).length = c.toNat := by
  by_cases h : cap = p
  · have : c = 0 := by omega
    subst this
    rw [if_pos h]
    simp [seg, bI]
  · rw [if_neg h]
    refine ⟨by simp only [seg, bI, List.map_take, List.map_drop], ?_⟩
    rw [List.length_take, List.length_drop]
    omega
theorem seg_bytes {l : List Int} {o n : Nat} (h : bytesL l) : bytesL (seg l o n) := fun x hx => h x (List.mem_of_mem_drop (List.mem_of_mem_take hx))
theorem seg_getD {l : List Int} {o n i : Nat} (hi : i < n) : (seg l o n).getD i 0 = l.getD (o + i) 0 := by
  rw [seg, List.getD_eq_getElem?_getD, List.getElem?_take, if_pos hi, List.getElem?_drop, List.getD_eq_getElem?_getD]
theorem aug_len {a b : List Int} {ca cb i r : Nat} (ha : r * ca ≤ a.length) (hb : r * cb ≤ b.length) (hi : i < r) : (augRow a b ca cb i).length = ca + cb := by
  have h1 := row_le (ca := ca) hi
  have h2 := row_le (ca := cb) hi
  unfold augRow seg
  rw [List.length_append, List.length_take, List.length_drop, List.length_take, List.length_drop]
  omega
theorem aug_start {a b : List Int} {ca cb r : Nat} (ha : r * ca ≤ a.length) (hb : r * cb ≤ b.length) : redT r (ca + cb) (augL ca cb a b) 0 0 (augRow a b ca cb) := by
  have key : ∀ i, i < r → ∀ j, j < ca + cb → matT (augRow a b ca cb) i j = augL ca cb a b i j := fun i hi j hj => by
    have h1 := row_le (ca := ca) hi
    have hl : (seg a (i * ca) ca).length = ca := by unfold seg; rw [List.length_take, List.length_drop]; omega
    unfold matT augRow augL matL
    rw [List.getD_eq_getElem?_getD]
    by_cases h : j < ca
    · rw [if_pos h, List.getElem?_append_left (by omega), ← List.getD_eq_getElem?_getD, seg_getD h]
    · rw [if_neg h, List.getElem?_append_right (by omega), hl, ← List.getD_eq_getElem?_getD, seg_getD (by omega)]
  refine ⟨⟨⟨fun i hi => ?_, fun i hi => ?_⟩, rfl, Nat.zero_le _, fun c' h => by omega, fun i _ _ c' h => by omega⟩, fun i hi => aug_len ha hb hi⟩
  · exact spans_congr (spans_row hi) fun j hj => key i hi j hj
  · exact spans_congr (spans_row hi) fun j hj => (key i hi j hj).symm
/-- What stands on the right, row by row. -/
theorem out_step {M : Nat → List Int} {D d : Rows'} {k : Int} {ca cb : Nat} (k0 : 0 ≤ k) (hD : D.length = k.toNat * cb) (h : ∀ i j, i < k.toNat → j < cb → matL cb (bI D) i j = matT M i (ca + j)) (hrow : bI d = M k.toNat) (hl : d.length = ca + cb) {o : Nat} (ho : cb = 0 ∨ o = ca) :
    ∀ i j, i < k.toNat + 1 → j < cb → matL cb (bI (D ++ (d.drop o).take cb)) i j = matT M i (ca + j) := fun i j hi hj => by
  obtain rfl : o = ca := by omega
  have hb : bI (D ++ (d.drop o).take cb) = bI D ++ ((bI d).drop o).take cb := by simp [bI, List.map_append, List.map_take, List.map_drop]
  unfold matL
  rw [hb, List.getD_eq_getElem?_getD]
  by_cases hik : i < k.toNat
  · have := cell_lt hik hj
    rw [List.getElem?_append_left (by rw [bI_len]; omega), ← List.getD_eq_getElem?_getD]
    exact h i j hik hj
  · obtain rfl : i = k.toNat := by omega
    rw [List.getElem?_append_right (by rw [bI_len]; omega), bI_len, hD, Nat.add_sub_cancel_left, List.getElem?_take, if_pos hj, List.getElem?_drop, hrow]
    rfl
end Go.Proofs
