/- Results share no memory: plain laws. -/
import Derived.Test.YtkiheclcmgbmnaaVO
set_option linter.unusedSimpArgs false
set_option linter.unusedVariables false
namespace Go.Proofs
open Go Go.Eng
/-- Two tables in memories that lie apart. -/
theorem tab_join {h1 h2 H : Hp} {n : Nat} {v1 v2 : Nat → Value} {M1 M2 : Nat → List Int} (t1 : tabV h1 v1 n M1) (t2 : tabV h2 v2 n M2) (hd : Hp.disj h1 h2) (l1 : Hp.le h1 H) (l2 : Hp.le h2 H) :
    tabV H (fun j => if j < n then v1 j else v2 (j - n)) (n + n) fun j => if j < n then M1 j else M2 (j - n) := by
  have cross : ∀ i j, i < n → j < n → M1 i ≠ [] → M2 j ≠ [] → blk (v1 i) ≠ blk (v2 j) := fun i j hi hj m1 m2 he => by
    obtain ⟨d1, r1, e1, _⟩ := t1.1 i hi
    obtain ⟨d2, r2, e2, _⟩ := t2.1 j hj
    obtain ⟨b, _, _, _, _, _, _, _, k1, hb, _⟩ := Rd_blk r1 (fun h0 => m1 (by rw [← e1, h0]; rfl))
    obtain ⟨b', _, _, _, _, _, _, _, k2, hb', _⟩ := Rd_blk r2 (fun h0 => m2 (by rw [← e2, h0]; rfl))
    rw [k1, k2, Option.some.injEq] at he
    subst he
    rcases hd b with h0 | h0
    · rw [hb] at h0; cases h0
    · rw [hb'] at h0; cases h0
  refine ⟨fun j hj => ?_, fun i j hi hj hne h1 h2 => ?_⟩
  · by_cases h : j < n
    · simp only [if_pos h]
      obtain ⟨d, a, b⟩ := t1.1 j h
      exact ⟨d, Rd_mono a l1, b⟩
    · simp only [if_neg h]
      obtain ⟨d, a, b⟩ := t2.1 (j - n) (by omega)
      exact ⟨d, Rd_mono a l2, b⟩
  · by_cases a : i < n <;> by_cases b : j < n
    · simp only [if_pos a, if_pos b] at h1 h2 ⊢
      exact t1.2 i j a b hne h1 h2
    · simp only [if_pos a, if_neg b] at h1 h2 ⊢
      exact cross i (j - n) a (by omega) h1 h2
    · simp only [if_neg a, if_pos b] at h1 h2 ⊢
      exact fun he => cross j (i - n) b (by omega) h2 h1 he.symm
    · simp only [if_neg a, if_neg b] at h1 h2 ⊢
      exact t2.2 (i - n) (j - n) (by omega) (by omega) (by omega) h1 h2
theorem rowTo_full {f : Nat → Int → Int} {l : List Int} {k : Nat} (h : l.length ≤ k) : rowTo f l k = rowTo f l l.length :=
  list_ext_getD (by rw [rowTo_len, rowTo_len]) fun i hi => by
    rw [rowTo_len] at hi
    rw [rowTo_get hi, rowTo_get hi, if_pos hi, if_pos (by omega)]
variable {E : Nat → List Int} {n : Nat} {H : Hp} {p q : Rows'}
theorem mem_zero {j : Nat} : memM E n 0 0 j = if j < n then E j else E (j - n) := by
  unfold memM
  by_cases h : j < n
  · rw [if_pos h, if_pos h, if_neg (by omega)]
    by_cases h0 : j = 0
    · rw [if_pos h0, rowTo_zero]
    · rw [if_neg h0]
  · rw [if_neg h, if_neg h]
theorem mem_init {h1 h2 : Hp} (t1 : tabV h1 (pvs p) n E) (t2 : tabV h2 (pvs q) n E) (hd : Hp.disj h1 h2) (l1 : Hp.le h1 H) (l2 : Hp.le h2 H) : tabV H (vs2 p q n) (n + n) (memM E n 0 0) :=
  tab_congr (tab_join t1 t2 hd l1 l2) (fun _ _ => rfl) fun j _ => mem_zero
theorem mem_row {i k : Nat} (hi : i < n) : memM E n i k i = rowTo (fun _ _ => (i : Int) + 1) (E i) k := by
  unfold memM
  rw [if_pos hi, if_neg (Nat.lt_irrefl i), if_pos rfl]
theorem mem_done {j : Nat} (hj : j < n) : memM E n n 0 j = rowTo (fun _ _ => (j : Int) + 1) (E j) (E j).length := by
  unfold memM
  rw [if_pos hj, if_pos hj]
theorem vs2_at {i : Int} (i0 : 0 ≤ i) (i1 : i < n) : vs2 p q n i.toNat = cellV p i 1 := by
  unfold vs2 pvs
  rw [if_pos (by omega), Int.toNat_of_nonneg i0]
/-- The row i of the first pieces. -/
theorem mem_at {i k : Int} {m : Nat} (ht : tabV H (vs2 p q n) (n + n) (memM E n m k.toNat)) (i0 : 0 ≤ i) (i1 : i < n) : ∃ d, Rd H kB (cellV p i 1) d ∧ bI d = memM E n m k.toNat i.toNat ∧ allB d := by
  rw [← vs2_at (q := q) i0 i1]
  exact tab_at ht (by omega)
theorem mem_write {H' : Hp} {i k : Int} {r : Option Addr} {d : Rows'} {cap : Nat} (ht : tabV H (vs2 p q n) (n + n) (memM E n i.toNat k.toNat)) (i0 : 0 ≤ i) (i1 : i < n) (hn : n ≤ 30) (k0 : 0 ≤ k) (hP : Put H H' r kB d k.toNat [.int .u8 (i + 1)]) (hv : cellV p i 1 = .slice (addrOf r 0) d.length cap)
    (hr : Rd H kB (cellV p i 1) d) (hd : bI d = memM E n i.toNat k.toNat i.toNat) (hk : k < d.length) : tabV H' (vs2 p q n) (n + n) (memM E n i.toNat (k + 1).toNat) := by
  rw [← vs2_at (q := q) i0 i1] at hv hr
  have hk' : k.toNat < (E i.toNat).length := by
    have : (bI d).length = (E i.toNat).length := by rw [hd, mem_row (by omega), rowTo_len]
    rw [bI_len] at this; omega
  refine tab_congr (tab_put ht (by omega) hP hv hr (by omega) (by omega)) (fun _ _ => rfl) fun j _ => ?_
  by_cases hj : j = i.toNat
  · subst hj
    rw [if_pos rfl, mem_row (by omega), mem_row (by omega), show (k + 1).toNat = k.toNat + 1 by omega, ← rowTo_step hk', Int.toNat_of_nonneg i0]
  · rw [if_neg hj]
    unfold memM
    by_cases h : j < n
    · rw [if_pos h, if_pos h, if_neg hj, if_neg hj]
    · rw [if_neg h, if_neg h]
theorem mem_next {i k : Int} (ht : tabV H (vs2 p q n) (n + n) (memM E n i.toNat k.toNat)) (i0 : 0 ≤ i) (hk : (E i.toNat).length ≤ k.toNat) : tabV H (vs2 p q n) (n + n) (memM E n (i + 1).toNat 0) :=
  tab_congr ht (fun _ _ => rfl) fun j _ => by
    unfold memM
    by_cases h : j < n
    · rw [if_pos h, if_pos h]
      by_cases h1 : j < i.toNat
      · rw [if_pos h1, if_pos (by omega)]
      · rw [if_neg h1]
        by_cases h2 : j = i.toNat
        · rw [if_pos h2, if_pos (by omega), h2, rowTo_full hk]
        · rw [if_neg h2, if_neg (by omega)]
          by_cases h3 : j = (i + 1).toNat
          · rw [if_pos h3, rowTo_zero]
          · rw [if_neg h3]
    · rw [if_neg h, if_neg h]
theorem enc_idx {h : Hp} {D : Rows'} {f : Nat → List Int} (he : encAt h D n f) : idxOk D n := fun j hj => by
  obtain ⟨v, d, e, _⟩ := he j hj
  exact ⟨v, e⟩
/-- The second pieces are as they were. -/
theorem mem_second {i k : Nat} (ht : tabV H (vs2 p q n) (n + n) (memM E n i k)) (hq : idxOk q n) : encAt H q n E := fun j hj => by
  obtain ⟨v, e⟩ := hq j hj
  obtain ⟨d, r, m, b⟩ := tab_at ht (j := n + j) (by omega)
  have h1 : vs2 p q n (n + j) = v := by
    unfold vs2 pvs
    rw [if_neg (by omega), Nat.add_sub_cancel_left]
    simp [cellV, e]
  have h2 : memM E n i k (n + j) = E j := by
    unfold memM
    rw [if_neg (by omega), Nat.add_sub_cancel_left]
  rw [h1] at r
  exact ⟨v, d, e, r, by rw [m, h2], b⟩
theorem enc_samePc {h : Hp} {D D' : Rows'} {f : Nat → List Int} (he : encAt h D n f) (he' : encAt h D' n f) : samePc h h D D' n n := by
  obtain ⟨_, h1⟩ := enc_pc he
  obtain ⟨_, h2⟩ := enc_pc he'
  exact ⟨rfl, fun j hj => ⟨by rw [(h1 j hj).1, (h2 j hj).1], by rw [(h1 j hj).2, (h2 j hj).2]⟩⟩
theorem gen_first {k total : Int} {l cap : Int} {d : Rows'} (hs : sizesB k total = true) (hM : fullM total k l cap d) (hG : bI d = genL k.toNat total.toNat) : 0 < l ∧ 0 < d.length ∧ cellI d 0 0 = 1 := by
  obtain ⟨k1, k2, k3⟩ := sizesB_iff.1 hs
  obtain ⟨⟨i1, i2, i3, i4, i5, i6, i7, i8⟩, i9⟩ := hM
  obtain ⟨g1, g2, _⟩ := gen_facts (k := k.toNat) (total := total.toNat) (by omega) (by omega) (by omega)
  have hlen : d.length = total.toNat * k.toNat := by rw [← bI_len, hG, g1]
  have hpos : 0 < total.toNat * k.toNat := Nat.mul_pos (by omega) (by omega)
  have h0 := gen_top (k := k.toNat) (total := total.toNat) (by omega) (by omega) (by omega) (i := 0) (j := 0) (by omega) (by omega)
  unfold matL at h0
  rw [← hG, Nat.zero_mul, Nat.add_zero, del, if_pos rfl] at h0
  have hc := cell_getD (d := d) (e := 0) (by omega) (by omega)
  rw [show (0 : Int).toNat = 0 from rfl] at hc
  rw [hc] at h0
  have hb := allB_get i8 (i := 0) (by omega) (by omega)
  exact ⟨by omega, by omega, toF_inj hb ⟨by omega, by omega⟩ h0⟩
end Go.Proofs
