/- Rows over the field, plainly. -/
import Derived.Test.YtkiheclcmgbmnaaZB
import Derived.Test.YtkiheclcmgbmnaaZL
set_option linter.unusedSimpArgs false
set_option linter.unusedVariables false
namespace Go.Proofs
open Go Go.Eng

theorem wrap64 {x : Int} (h1 : -9223372036854775808 ≤ x) (h2 : x < 9223372036854775808) : IntKind.i64.wrap x = x := by
  simp [IntKind.wrap, IntKind.bits, IntKind.signed]; omega
theorem add64 {x y : Int} (h1 : -9223372036854775808 ≤ x + y) (h2 : x + y < 9223372036854775808) : arithOf .add .i64 x y = x + y := wrap64 h1 h2
theorem sub64 {x y : Int} (h1 : -9223372036854775808 ≤ x - y) (h2 : x - y < 9223372036854775808) : arithOf .sub .i64 x y = x - y := wrap64 h1 h2
theorem mul64 {x y : Int} (h1 : -9223372036854775808 ≤ x * y) (h2 : x * y < 9223372036854775808) : arithOf .mul .i64 x y = x * y := wrap64 h1 h2
theorem mul_bound {x y a b : Int} (h0 : 0 ≤ x) (h1 : x ≤ a) (h2 : 0 ≤ y) (h3 : y ≤ b) : 0 ≤ x * y ∧ x * y ≤ a * b :=
  ⟨Int.mul_nonneg h0 h2, Int.mul_le_mul h1 h3 h2 (by omega)⟩
theorem wrapB {x : Int} : 0 ≤ IntKind.u8.wrap x ∧ IntKind.u8.wrap x < 256 := by simp [IntKind.wrap, IntKind.bits, IntKind.signed]; omega
theorem xorB_range {x y : Int} : 0 ≤ xorB x y ∧ xorB x y < 256 := wrapB
theorem xorB_zero' : ∀ x : Fin 256, xorB (x.val : Int) 0 = x.val := by decide +kernel
theorem xorB_zero {x : Int} (h0 : 0 ≤ x) (h1 : x < 256) : xorB x 0 = x := by
  have := xorB_zero' ⟨x.toNat, by omega⟩
  simp only [Int.toNat_of_nonneg h0] at this
  exact this
theorem mulF_zero {x : Int} : mulF 0 x = 0 := by simp [mulF]
theorem mulF_range {a b : Int} (a0 : 0 ≤ a) (a1 : a < 256) (b0 : 0 ≤ b) (b1 : b < 256) : 0 ≤ mulF a b ∧ mulF a b < 256 := by
  unfold mulF
  split
  · omega
  · obtain ⟨l0, l1⟩ := logT_range a0 a1
    obtain ⟨m0, m1⟩ := logT_range b0 b1
    have := expT_range (i := (logT a.toNat + logT b.toNat).toNat) (by omega)
    omega
theorem invF_range {a : Int} (a0 : 0 ≤ a) (a1 : a < 256) : 0 ≤ invF a ∧ invF a < 256 := by
  unfold invF
  split
  · omega
  · obtain ⟨l0, l1⟩ := logT_range a0 a1
    have := expT_range (i := (255 - logT a.toNat).toNat) (by omega)
    omega
/-! ### Bytes in rows -/
theorem bI_len {d : Rows'} : (bI d).length = d.length := by simp [bI]
theorem bI_get {d : Rows'} {i : Int} (h0 : 0 ≤ i) (h1 : i < d.length) : (bI d)[i.toNat]? = some (cellI d i 0) := by
  have hl : i.toNat < d.length := by omega
  simp [bI, cellI, cellV, rowI, List.getElem?_eq_getElem hl]
theorem allB_get {d : Rows'} (h : allB d) {i : Int} (h0 : 0 ≤ i) (h1 : i < d.length) : 0 ≤ cellI d i 0 ∧ cellI d i 0 < 256 := by
  have hl : i.toNat < d.length := by omega
  have := h _ (List.getElem_mem hl)
  simpa [cellI, cellV, rowI, List.getElem?_eq_getElem hl] using this
theorem allB_list {d : Rows'} (h : allB d) : ∀ x ∈ bI d, 0 ≤ x ∧ x < 256 := fun x hx => by
  obtain ⟨r, hr, rfl⟩ := List.mem_map.1 hx
  exact h r hr
theorem putD_len {d : Rows'} {e : Int} {c : Nat} {vs : List Value} : (putD d e c vs).length = d.length := by simp [putD]
theorem rowI_put {row : List Value} {k : IntKind} {z : Int} : rowI (splice row 0 [.int k z]) 0 = z := by simp [rowI, splice, vInt]
theorem bI_put {d : Rows'} {e : Int} {k : IntKind} {z : Int} : bI (putD d e 0 [.int k z]) = (bI d).set e.toNat z := by
  simp only [bI, putD, List.map_set, rowI_put]
theorem allB_put {d : Rows'} {e : Int} {k : IntKind} {z : Int} (h : allB d) (h0 : 0 ≤ z) (h1 : z < 256) : allB (putD d e 0 [.int k z]) := fun row hr => by
  unfold putD at hr
  rcases List.mem_or_eq_of_mem_set hr with hr | rfl
  · exact h row hr
  · rw [rowI_put]; exact ⟨h0, h1⟩
theorem allB_rep {n : Nat} : allB (List.replicate n [.int .u8 0]) := fun row hr => by
  rw [List.eq_of_mem_replicate hr]; simp [rowI, vInt]
theorem bI_rep {n : Nat} : bI (List.replicate n [.int .u8 0]) = List.replicate n 0 := by simp [bI, rowI, vInt]
/-! ### Rows added and scaled -/
theorem seg_get {l : List Int} {o n j : Nat} : (seg l o n)[j]? = if j < n then l[o + j]? else none := by
  simp only [seg, List.getElem?_take, List.getElem?_drop]
theorem seg_len {l : List Int} {o n : Nat} (h : o + n ≤ l.length) : (seg l o n).length = n := by simp [seg]; omega
theorem addToL_len {l s : List Int} {off : Nat} {c : Int} : (addToL l off s c).length = l.length := by simp [addToL]
theorem addToL_get {l s : List Int} {off : Nat} {c : Int} {j : Nat} : (addToL l off s c)[j]? = (l[j]?).map fun x => if off ≤ j ∧ j < off + s.length then xorB x (mulF c (s.getD (j - off) 0)) else x := by
  simp [addToL]
theorem addToL_nil {l : List Int} {off : Nat} {c : Int} : addToL l off [] c = l := by
  apply List.ext_getElem?
  intro j
  rw [addToL_get]
  cases l[j]? with
  | none => rfl
  | some x => simp only [Option.map_some, List.length_nil]; rw [if_neg (by omega)]
theorem addToL_zero {l s : List Int} {off : Nat} (h : ∀ x ∈ l, 0 ≤ x ∧ x < 256) : addToL l off s 0 = l := by
  apply List.ext_getElem?
  intro j
  rw [addToL_get]
  cases hj : l[j]? with
  | none => rfl
  | some x =>
    have := h x (List.mem_of_getElem? hj)
    simp only [Option.map_some, mulF_zero, xorB_zero this.1 this.2, ite_self]
theorem addToL_step {l s : List Int} {off o i : Nat} {c x y : Int} (hx : l[off + i]? = some x) (hy : s[o + i]? = some y) :
    addToL l off (seg s o (i + 1)) c = (addToL l off (seg s o i) c).set (off + i) (xorB x (mulF c y)) := by
  have hs : o + i < s.length := (List.getElem?_eq_some_iff.1 hy).1
  have hl : off + i < l.length := (List.getElem?_eq_some_iff.1 hx).1
  apply List.ext_getElem?
  intro j
  rw [List.getElem?_set, addToL_get, addToL_get, seg_len (by omega), seg_len (by omega), addToL_len]
  by_cases hj : off + i = j
  · subst hj
    rw [if_pos rfl, if_pos hl, hx, Option.map_some, if_pos (by omega)]
    rw [show off + i - off = i by omega, List.getD_eq_getElem?_getD, seg_get, if_pos (by omega), hy]; rfl
  · rw [if_neg hj]
    cases hlj : l[j]? with
    | none => rfl
    | some z =>
      simp only [Option.map_some, Option.some.injEq]
      by_cases hin : off ≤ j ∧ j < off + i
      · rw [if_pos (by omega), if_pos hin, List.getD_eq_getElem?_getD, List.getD_eq_getElem?_getD, seg_get, seg_get, if_pos (by omega), if_pos (by omega)]
      · rw [if_neg (by omega), if_neg hin]
theorem addToL_out {l s : List Int} {off : Nat} {c : Int} {j : Nat} (h : j < off ∨ off + s.length ≤ j) : (addToL l off s c)[j]? = l[j]? := by
  rw [addToL_get]
  cases l[j]? with
  | none => rfl
  | some x => rw [Option.map_some, if_neg (by omega)]
theorem scaleL_len {l : List Int} {off n : Nat} {c : Int} : (scaleL l off n c).length = l.length := by simp [scaleL]
theorem scaleL_get {l : List Int} {off n : Nat} {c : Int} {j : Nat} : (scaleL l off n c)[j]? = (l[j]?).map fun x => if off ≤ j ∧ j < off + n then mulF x c else x := by
  simp [scaleL]
theorem scaleL_zero {l : List Int} {off : Nat} {c : Int} : scaleL l off 0 c = l := by
  apply List.ext_getElem?
  intro j
  rw [scaleL_get]
  cases l[j]? with
  | none => rfl
  | some x => rw [Option.map_some, if_neg (by omega)]
theorem scaleL_step {l : List Int} {off i : Nat} {c x : Int} (hx : l[off + i]? = some x) : scaleL l off (i + 1) c = (scaleL l off i c).set (off + i) (mulF x c) := by
  have hl : off + i < l.length := (List.getElem?_eq_some_iff.1 hx).1
  apply List.ext_getElem?
  intro j
  rw [List.getElem?_set, scaleL_get, scaleL_get, scaleL_len]
  by_cases hj : off + i = j
  · subst hj
    rw [if_pos rfl, if_pos hl, hx, Option.map_some, if_pos (by omega)]
  · rw [if_neg hj]
    cases hlj : l[j]? with
    | none => rfl
    | some z =>
      simp only [Option.map_some, Option.some.injEq]
      by_cases hin : off ≤ j ∧ j < off + i
      · rw [if_pos (by omega), if_pos hin]
      · rw [if_neg (by omega), if_neg hin]
theorem scaleL_out {l : List Int} {off n : Nat} {c : Int} {j : Nat} (h : j < off ∨ off + n ≤ j) : (scaleL l off n c)[j]? = l[j]? := by
  rw [scaleL_get]
  cases l[j]? with
  | none => rfl
  | some x => rw [Option.map_some, if_neg (by omega)]
theorem fieldD_ne {d : Rows'} (h : fieldD d) : ¬ d = [] ∧ 0 < d.length := by
  have : d.length = 1 := by
    rcases h with h | h
    · rw [h]; rfl
    · rw [h, doneD_eq]; rfl
  exact ⟨fun h => (by rw [h] at this; cases this), by omega⟩
end Go.Proofs
