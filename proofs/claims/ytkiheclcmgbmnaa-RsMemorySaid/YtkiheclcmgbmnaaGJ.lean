/- Rows that are selected, the basis: proofs. -/
import Derived.Test.YtkiheclcmgbmnaaGF
import Derived.Test.YtkiheclcmgbmnaaGD
set_option linter.unusedSimpArgs false
set_option linter.unusedVariables false
namespace Go.Proofs
open Go Go.Eng
theorem sizes29_ok : sizes29C.ok Try.prog := sizes29_of (by simp) fun ρ hg hp => by
  simp [o_sizes29, sizes29C, sizes74C]
  refine ⟨fun h1 => ⟨fun h2 => ?_, fun h2 => ?_⟩, fun h1 => ?_⟩
  · simp [sizesB, h1, h2, cmpOf]
  · simp [sizesB]; omega
  · simp [sizesB]; omega
/-! ### Rows that are selected -/
theorem iI_len {d : Rows'} : (iI d).length = d.length := by simp [iI]
theorem iI_get {d : Rows'} {i : Int} (h0 : 0 ≤ i) (h1 : i < d.length) : (iI d).getD i.toNat 0 = cellI d i 0 := by
  have hl : i.toNat < d.length := by omega
  simp [iI, cellI, cellV, rowI, List.getD_eq_getElem?_getD, List.getElem?_eq_getElem hl]
theorem selL_snoc {m : List Int} {c : Nat} {rs : List Int} {n : Nat} (h : n < rs.length) : selL m c (rs.take (n + 1)) = selL m c (rs.take n) ++ seg m ((rs.getD n 0).toNat * c) c := by
  rw [take_snoc' h, selL, List.flatMap_append]; simp [selL]
theorem selL_len {m : List Int} {c r : Nat} (hm : r * c ≤ m.length) : ∀ {rs : List Int}, (∀ x ∈ rs, 0 ≤ x ∧ x < (r : Int)) → (selL m c rs).length = rs.length * c
  | [], _ => by simp [selL]
  | x :: rs, h => by
    have ih := selL_len hm (rs := rs) fun y hy => h y (List.mem_cons_of_mem _ hy)
    have hx := h x (List.mem_cons_self ..)
    have := row_le (ca := c) (show x.toNat < r by omega)
    rw [selL, List.flatMap_cons, List.length_append, seg_len (by omega), show (rs.flatMap fun r => seg m (r.toNat * c) c) = selL m c rs from rfl, ih, List.length_cons, Nat.add_mul]; omega
theorem selBad_not {r c l n rows : Int} {rs : List Int} (h : selOk r c l n) (hr : ∀ x ∈ rs, 0 ≤ x ∧ x < rows) : ¬ selBad r c l n rows rs := by
  obtain ⟨h1, h2, h3⟩ := h
  intro hb
  rcases hb with hb | hb | hb | ⟨x, hx, hb⟩
  · exact hb h1
  · omega
  · omega
  · have := hr x hx; omega
theorem mem_take_succ {l : List Int} {n : Nat} {P : Int → Prop} (hn : n < l.length) (h : ∀ x ∈ l.take n, P x) (hx : P (l.getD n 0)) : ∀ x ∈ l.take (n + 1), P x := fun x hm => by
  rw [take_snoc' hn] at hm
  rcases List.mem_append.1 hm with hm | hm
  · exact h x hm
  · rw [List.mem_singleton] at hm; rw [hm]; exact hx
theorem getD_mem {l : List Int} {n : Nat} (h : n < l.length) : l.getD n 0 ∈ l := by
  rw [List.getD_eq_getElem?_getD, List.getElem?_eq_getElem h]; exact List.getElem_mem h
theorem splice_take {d x : Rows'} {k : Nat} (h : k + x.length ≤ d.length) : (bI (spliceD d k x)).take (k + x.length) = (bI d).take k ++ bI x := by
  rw [spliceD, bI, List.map_append, List.map_append, List.append_assoc, ← List.append_assoc, List.take_append_of_le_length (by simp; omega), List.take_of_length_le (by simp; omega)]
  simp [bI, List.map_take]
theorem allB_spliceK {d x : Rows'} {k : Nat} (hd : allB d) (hx : allB x) : allB (spliceD d k x) := fun r hr => by
  unfold spliceD at hr
  rcases List.mem_append.1 hr with hr | hr
  · rcases List.mem_append.1 hr with hr | hr
    · exact hd r (List.mem_of_mem_take hr)
    · exact hx r hr
  · exact hd r (List.mem_of_mem_drop hr)
theorem bI_drop {d : Rows'} {n : Nat} : bI (d.drop n) = (bI d).drop n := by simp [bI, List.map_drop]
theorem sel62_ok : sel62C.ok Try.prog := sel62_of (by simp [valid36_ok, zero82_ok, row75_ok]) fun ρ hg hp => by
  obtain ⟨a0, a1, a2, a3, n0, n1⟩ : 0 ≤ (ρ 3).i ∧ (ρ 3).i ≤ (ρ 4).i ∧ (ρ 3).i ≤ (ρ 5).d.length ∧ allB (ρ 5).d ∧ 0 ≤ (ρ 8).i ∧ (ρ 8).i = (ρ 10).d.length := hp
  simp (config := { maxSteps := 4000000 }) [o_sel62, sel62C, sel62I, sel62J, valid36C, zero82C, row75C]
  refine ⟨a0, fun v _ hv => ⟨fun hb => .inl fun h => ?_, fun hb => ⟨n0, fun h => .inr (.inl h), fun hn => ⟨fun h => .inr (.inr (.inl h)), fun hn2 => ?_⟩⟩⟩⟩
  · have := hv.2 h; rw [hb] at this; cases this
  have vA : validM (ρ 0).i (ρ 1).i (ρ 3).i := hv.1 hb
  have hok : selOk (ρ 0).i (ρ 1).i (ρ 3).i (ρ 8).i := ⟨vA, by omega, hn2⟩
  have vA' := vA
  obtain ⟨r1, r2, c1, c2, hl⟩ := vA'
  have hil : (iI (ρ 10).d).length = (ρ 8).i.toNat := by rw [iI_len]; omega
  refine ⟨⟨hok, n0⟩, fun i _ _ i0 i1 hin => ⟨fun hi => ⟨i0, by omega, fun h => ?_, fun h0 => ⟨fun h => ?_, fun h1 => ?_⟩⟩, fun hi => ?_⟩⟩
  · refine .inr (.inr (.inr ⟨cellI (ρ 10).d i.i 0, ?_, .inl h⟩))
    rw [← iI_get i0 (by omega)]; exact getD_mem (by omega)
  · refine .inr (.inr (.inr ⟨cellI (ρ 10).d i.i 0, ?_, .inr h⟩))
    rw [← iI_get i0 (by omega)]; exact getD_mem (by omega)
  · rw [add64 (by omega) (by omega)]
    refine ⟨⟨hok, by omega, by omega, ?_⟩, by omega⟩
    rw [show (i.i + 1).toNat = i.i.toNat + 1 by omega]
    exact mem_take_succ (by omega) hin (by rw [iI_get i0 (by omega)]; exact ⟨h0, h1⟩)
  have hall : ∀ x ∈ iI (ρ 10).d, 0 ≤ x ∧ x < (ρ 0).i := by
    rw [List.take_of_length_le (by omega)] at hin; exact hin
  have hbb := mul_bound (x := (ρ 8).i) (y := (ρ 1).i) n0 hn2 (by omega) c2
  refine ⟨⟨n0, hn2, by omega, c2⟩, fun l _ cp _ d _ hl1 hc1 hd => ⟨⟨hok, n0, hall, ?_, by rw [hd, List.length_replicate]; omega, rfl⟩, fun j _ l2 _ cp2 _ d2 _ _ j0 j1 _ hM hL hS => ⟨fun hj => ?_, fun hj => ?_⟩⟩⟩
  · exact ⟨n0, hn2, by omega, c2, hl1, by omega, by rw [hd, List.length_replicate]; omega, by rw [hd]; exact allB_rep⟩
  · have hx := hall _ (getD_mem (l := iI (ρ 10).d) (n := j.i.toNat) (by omega))
    rw [iI_get j0 (by omega)] at hx
    have hM' := hM
    obtain ⟨m1, m2, m3, m4, m5, m6, m7, m8⟩ := hM'
    refine ⟨j0, by omega, ⟨j0, hj, hM⟩, fun o _ n _ k _ ho hn' hk => ⟨⟨hx.1, hx.2, by omega, r2, by omega, c2, hl, a1, a2, a3⟩, fun o' _ n' _ k' _ ho' hn'' hk' => ?_⟩⟩
    have hbj := mul_bound (x := j.i) (y := (ρ 1).i) j0 (show j.i ≤ 255 by omega) (by omega) c2
    have hbx := mul_bound (x := cellI (ρ 10).d j.i 0) (y := (ρ 1).i) hx.1 (show _ ≤ 255 by omega) (by omega) c2
    have hle1 : j.i * (ρ 1).i + (ρ 1).i ≤ (ρ 8).i * (ρ 1).i := by
      have := Int.mul_le_mul_of_nonneg_right (show j.i + 1 ≤ (ρ 8).i by omega) (show 0 ≤ (ρ 1).i by omega)
      rw [Int.add_mul, Int.one_mul] at this; omega
    have hle2 : cellI (ρ 10).d j.i 0 * (ρ 1).i + (ρ 1).i ≤ (ρ 0).i * (ρ 1).i := by
      have := Int.mul_le_mul_of_nonneg_right (show cellI (ρ 10).d j.i 0 + 1 ≤ (ρ 0).i by omega) (show 0 ≤ (ρ 1).i by omega)
      rw [Int.add_mul, Int.one_mul] at this; omega
    rw [if_neg (by omega), add64 (by omega) (by omega)]
    have hseg : ((((ρ 5).d.drop o'.i.toNat).take n'.i.toNat).take n.i.toNat) = ((ρ 5).d.drop o'.i.toNat).take (ρ 1).i.toNat := by rw [List.take_take, hn', hn'', Nat.min_self]
    rw [hseg]
    have hsl : (((ρ 5).d.drop o'.i.toNat).take (ρ 1).i.toNat).length = (ρ 1).i.toNat := by rw [List.length_take, List.length_drop]; omega
    refine ⟨by omega, by omega, by omega, by omega, by omega, by omega, ⟨hok, by omega, by omega, hall, ?_, ?_, ?_⟩, by omega⟩
    · exact ⟨m1, m2, m3, m4, m5, m6, by rw [spliceD_len (by rw [hsl]; omega)]; exact m7, allB_spliceK m8 fun r hr => a3 r (List.mem_of_mem_drop (List.mem_of_mem_take hr))⟩
    · rw [spliceD_len (by rw [hsl]; omega)]; exact hL
    · have hk1 : ((j.i + 1) * (ρ 1).i).toNat = o.i.toNat + (((ρ 5).d.drop o'.i.toNat).take (ρ 1).i.toNat).length := by rw [hsl, Int.add_mul, Int.one_mul]; omega
      rw [hk1, splice_take (by rw [hsl]; omega), ho, hS, show (j.i + 1).toNat = j.i.toNat + 1 by omega, selL_snoc (by omega), iI_get j0 (by omega), bI_take, bI_drop, ho', seg]
      congr 3
      rw [Int.toNat_mul hx.1 (by omega)]
  · have : j.i = (ρ 8).i := by omega
    have hl8 := hM.2.2.2.2.1
    rw [this, List.take_of_length_le (by rw [bI_len]; omega), List.take_of_length_le (by omega)] at hS
    exact ⟨selBad_not hok hall, hM, hL, hS⟩
theorem iI_get' {d : Rows'} {i : Int} (h0 : 0 ≤ i) (h1 : i < d.length) : ((iI d)[i.toNat]?).getD 0 = cellI d i 0 := by
  rw [← List.getD_eq_getElem?_getD]; exact iI_get h0 h1
theorem seg_snoc {l : List Int} {o n : Nat} (h : o + n < l.length) : seg l o (n + 1) = seg l o n ++ [l.getD (o + n) 0] := by
  apply List.ext_getElem?
  intro j
  rw [seg_get, List.getElem?_append, seg_len (by omega), seg_get]
  by_cases h1 : j < n
  · rw [if_pos (by omega), if_pos h1, if_pos h1]
  · rw [if_neg h1]
    by_cases h2 : j = n
    · subst h2
      rw [if_pos (by omega), Nat.sub_self, List.getD_eq_getElem?_getD, List.getElem?_eq_getElem h]; rfl
    · rw [if_neg (by omega), List.getElem?_eq_none (by simp; omega)]
theorem pick63_ok : pick63C.ok Try.prog := pick63_of (by simp [good43_ok]) fun ρ hg hp => by
  obtain ⟨a0, a2, a3, n0, n1⟩ : 0 ≤ (ρ 3).i ∧ (ρ 3).i ≤ (ρ 5).d.length ∧ allB (ρ 5).d ∧ 0 ≤ (ρ 8).i ∧ (ρ 8).i = (ρ 10).d.length := hp
  simp (config := { maxSteps := 4000000 }) [o_pick63, pick63C, sel62C, pick63I, pick63J, good43C, valid36C]
  refine ⟨a0, fun v _ hv => ⟨fun hb => .inl fun h => ?_, fun hb => ⟨n0, fun h => .inr (.inl h), fun hn => ⟨fun h => .inr (.inr (.inl h)), fun hn2 => ?_⟩⟩⟩⟩
  · have := hv.2 h; rw [hb] at this; cases this
  have vA : validM (ρ 0).i (ρ 1).i (ρ 3).i := hv.1 hb
  have hok : selOk (ρ 0).i (ρ 1).i (ρ 3).i (ρ 8).i := ⟨vA, by omega, hn2⟩
  have vA' := vA
  obtain ⟨r1, r2, c1, c2, hl⟩ := vA'
  have hil : (iI (ρ 10).d).length = (ρ 8).i.toNat := by rw [iI_len]; omega
  refine ⟨⟨hok, n0, rfl⟩, fun i _ l _ d _ _ i0 i1 hin hld hl2 hd => ⟨fun hi => ⟨i0, by omega, fun h => ?_, fun h0 => ⟨fun h => ?_, fun h1 => ?_⟩⟩, fun hi => ?_⟩⟩
  · refine .inr (.inr (.inr ⟨cellI (ρ 10).d i.i 0, ?_, .inl h⟩))
    rw [← iI_get i0 (by omega)]; exact getD_mem (by omega)
  · refine .inr (.inr (.inr ⟨cellI (ρ 10).d i.i 0, ?_, .inr h⟩))
    rw [← iI_get i0 (by omega)]; exact getD_mem (by omega)
  · have hin' : ∀ x ∈ (iI (ρ 10).d).take (i.i.toNat + 1), 0 ≤ x ∧ x < (ρ 0).i := mem_take_succ (by omega) hin (by rw [iI_get i0 (by omega)]; exact ⟨h0, h1⟩)
    refine ⟨⟨hok, i0, hi, hin', by omega, hld, hl2, by rw [hd, show seg (bI (ρ 5).d) _ 0 = [] by simp [seg], List.append_nil]⟩, fun i3 _ l3 _ d3 _ j _ _ i30 i31 hin3 j0 j1 hii hl3 hl4 hd3 => ⟨fun hj => ?_, fun hj => ?_⟩⟩
    · have hc3 := iI_get' (d := (ρ 10).d) i30 (by omega)
      have hx := hin3 (cellI (ρ 10).d i3.i 0) (by
        rw [← iI_get i30 (by omega), take_snoc' (by omega)]
        exact List.mem_append_right _ (List.mem_singleton.2 rfl))
      obtain ⟨y0, y1, y2, y3⟩ := cell_bd hx.1 hx.2 r2 j0 hj c2
      obtain ⟨x0, x1, x2, x3⟩ := cell_bd i30 i31 hn2 j0 hj c2
      rw [mul64 (by omega) (by omega), add64 (x := cellI (ρ 10).d i3.i 0 * (ρ 1).i) (by omega) (by omega), add64 (by omega) (by omega)]
      refine ⟨i30, i31, by omega, by omega, by omega, by omega, hl3, by omega, ⟨hok, i30, i31, hin3, by omega, by omega, hii, hl3, by omega, ?_⟩, by omega⟩
      rw [hc3] at hd3 ⊢
      have hb : bI (d3.d ++ [[.int .u8 (cellI (ρ 5).d (cellI (ρ 10).d i3.i 0 * (ρ 1).i + j.i) 0)]]) = bI d3.d ++ [cellI (ρ 5).d (cellI (ρ 10).d i3.i 0 * (ρ 1).i + j.i) 0] := by simp [bI, rowI, vInt]
      have hg5 : (bI (ρ 5).d).getD (cellI (ρ 10).d i3.i 0 * (ρ 1).i + j.i).toNat 0 = cellI (ρ 5).d (cellI (ρ 10).d i3.i 0 * (ρ 1).i + j.i) 0 := by
        rw [List.getD_eq_getElem?_getD, bI_get (by omega) (by omega)]; rfl
      rw [y3] at hg5
      rw [hb, hd3, show (j.i + 1).toNat = j.i.toNat + 1 by omega, seg_snoc (by rw [bI_len, ← y3]; omega), hg5, List.append_assoc]
    · have hc3 := iI_get' (d := (ρ 10).d) i30 (by omega)
      rw [add64 (by omega) (by omega), show (i3.i + 1).toNat = i3.i.toNat + 1 by omega]
      refine ⟨⟨hok, by omega, by omega, hin3, hl3, by rw [Int.add_mul, Int.one_mul]; omega, ?_⟩, by omega⟩
      rw [hd3, selL_snoc (by omega), List.getD_eq_getElem?_getD, show j.i.toNat = (ρ 1).i.toNat by omega]
  · have : i.i = (ρ 8).i := by omega
    rw [this, List.take_of_length_le (by omega)] at hd hin
    exact ⟨selBad_not hok hin, hld, hd⟩
theorem first79_ok : first79C.ok Try.prog := first79_of (by simp) fun ρ hg hp => by
  obtain ⟨h0, h1⟩ := hp
  simp [o_first79, first79C, first79I]
  refine ⟨⟨h0, rfl⟩, fun i _ d _ i0 i1 hd => ⟨fun hi => ?_, fun hi => ?_⟩⟩
  · have hl : d.d.length = i.i.toNat := by rw [← bI_len, hd, firstL]; simp
    have hw : IntKind.u8.wrap i.i = i.i := by simp [IntKind.wrap, IntKind.bits, IntKind.signed]; omega
    rw [add64 (by omega) (by omega), hw]
    refine ⟨by omega, by omega, rfl, ⟨by omega, by omega, ?_⟩, by omega⟩
    rw [show (i.i + 1).toNat = i.i.toNat + 1 by omega, firstL, List.range_succ, List.map_append, ← firstL, ← hd]
    simp [bI, rowI, vInt]; omega
  · have : i.i = (ρ 0).i := by omega
    exact ⟨by omega, by rw [← this]; exact hd⟩
/-! ### Weights -/
theorem wgtX_cell {d : Rows'} {i : Int} (h0 : 0 ≤ i) (h1 : i < d.length) : toF (cellI d i 0) = wgtX d i.toNat := by
  rw [wgtX, List.getD_eq_getElem?_getD, bI_get h0 h1]; rfl
theorem fillTo_at {f : Nat → Int} {n : Nat} : fillTo f n n = (List.range n).map f := fillTo_full
theorem finv_fmul {a b : F} (ha : a ≠ 0) (hb : b ≠ 0) : finv (fmul a b) = fmul (finv a) (finv b) := by
  symm
  refine fmul_eq_one ?_
  rw [fmul_assoc, ← fmul_assoc (x := b), fmul_comm (x := b), fmul_assoc (x := finv a), fmul_finv hb, fmul_one, fmul_finv ha]
theorem lag_weight {n : Nat} {xs : Nat → F} {x : F} {i : Nat} (hd : distinct n xs) (hi : i < n) (hx : ∀ m, m < n → x ≠ xs m) :
    fmul (fprod (fun m => x ^^^ xs m) n) (finv (fmul (x ^^^ xs i) (fprod (fun m => if m = i then 1 else xs i ^^^ xs m) n))) = lagF n xs x i := by
  have h1 : x ^^^ xs i ≠ 0 := fun h => hx i hi (xor_eq_zero.1 h)
  have h2 : fprod (fun m => if m = i then 1 else xs i ^^^ xs m) n ≠ 0 := fprod_ne fun m hm => by
    split
    · decide
    · rename_i hmi
      exact fun h => hmi (hd i m hi hm (xor_eq_zero.1 h)).symm
  rw [finv_fmul h1 h2, fprod_out hi, lagF, fmul_comm (x := x ^^^ xs i), fmul_assoc, ← fmul_assoc (x := x ^^^ xs i), fmul_finv h1, one_fmul]
theorem wgtL_in {d : Rows'} {x : Int} {i : Nat} (hd : distL (bI d)) (hi : i < d.length) (hx : toF x = wgtX d i) : wgtL (bI d) x = (List.replicate d.length 0).set i 1 := by
  apply List.ext_getElem?
  intro j
  rw [wgtL, bI_len, List.getElem?_map, List.getElem?_set]
  by_cases hj : j < d.length
  · rw [List.getElem?_range hj, Option.map_some, hx]
    have hdd : distinct d.length (wgtX d) := by
      have := hd
      unfold distL at this
      rw [bI_len] at this
      exact this
    have hl : lagF d.length (fun m => toF ((bI d).getD m 0)) (wgtX d i) j = del j i := lag_del hdd hj hi
    rw [hl, del]
    by_cases hij : i = j
    · subst hij; rw [if_pos rfl, if_pos rfl, if_pos (by simpa using hj)]; rfl
    · rw [if_neg (Ne.symm hij), if_neg hij, List.getElem?_replicate, if_pos hj]; rfl
  · rw [List.getElem?_eq_none (by simp; omega), Option.map_none, if_neg (by omega), List.getElem?_eq_none (by simp; omega)]
theorem wgt78_ok : wgt78C.ok Try.prog := wgt78_of (by simp [times53_ok, over54_ok]) fun ρ hg hp => by
  obtain ⟨l0, l1, l2, hB, hx, hd⟩ := hp
  have hdd : distinct (ρ 1).i.toNat (wgtX (ρ 3).d) := by
    have := hd
    unfold distL at this
    rw [bI_len, show (ρ 3).d.length = (ρ 1).i.toNat by omega] at this
    exact this
  have hw1 : ∀ i : Int, 0 ≤ i → i < (ρ 1).i → isB (cellI (ρ 3).d i 0) := fun i h0 h1 => allB_get hB h0 (by omega)
  simp (config := { maxSteps := 4000000 }) [o_wgt78, wgt78C, wgt78I, wgt78J, wgt78K, wgt78L, times53C, over54C]
  refine ⟨l0, by omega, ⟨l0, fun m h => by omega⟩, fun cp _ w _ i _ hcp hw i0 i1 hni => ⟨fun hi => ⟨i0, by omega, fun he => ?_, fun hne => ?_⟩, fun hi => ?_⟩⟩
  · rw [hw]
    refine ⟨by rw [List.length_replicate]; omega, hcp, ?_⟩
    rw [bI_put, bI_rep, wgtL_in hd (i := i.i.toNat) (by omega) (by rw [← he]; exact wgtX_cell i0 (by omega)), show (ρ 1).i.toNat = (ρ 3).d.length by omega]
  · rw [add64 (by omega) (by omega)]
    refine ⟨⟨hcp, hw, by omega, by omega, fun m hm => ?_⟩, by omega⟩
    by_cases hmi : (m : Int) = i.i
    · intro h
      have hc := wgtX_cell (d := (ρ 3).d) i0 (by omega)
      rw [← hmi, Int.toNat_natCast, hmi] at hc
      exact hne (toF_inj (hw1 _ i0 hi) hx (hc.trans h.symm))
    · exact hni m (by omega)
  have hnot : notIn (ρ 1).i (ρ 5).i (ρ 3).d := fun m hm => hni m (by omega)
  have hneq : ∀ m, m < (ρ 1).i.toNat → toF (ρ 5).i ≠ wgtX (ρ 3).d m := fun m hm => hnot m (by omega)
  refine ⟨⟨hcp, hw, hnot, l0, ⟨by omega, by omega⟩, rfl⟩, fun cp2 _ w2 _ p _ j _ hcp2 hw2 _ j0 j1 hpB hp => ⟨fun hj => ?_, fun hj => ?_⟩⟩
  · rw [add64 (by omega) (by omega)]
    refine ⟨j0, by omega, ⟨hpB, xorB_isB⟩, fun q _ hq => ⟨⟨hcp2, hw2, hnot, by omega, by omega, by rw [hq]; exact mulF_isB hpB xorB_isB, ?_⟩, by omega⟩⟩
    have hxx : toF (xorB (ρ 5).i (cellI (ρ 3).d j.i 0)) = toF (ρ 5).i ^^^ wgtX (ρ 3).d j.i.toNat := by rw [toF_xorB, wgtX_cell j0 (by omega)]
    have hm : toF (mulF p.i (xorB (ρ 5).i (cellI (ρ 3).d j.i 0))) = fmul (toF p.i) (toF (ρ 5).i ^^^ wgtX (ρ 3).d j.i.toNat) := by rw [toF_mulF hpB xorB_isB, hxx]
    rw [hq, show (j.i + 1).toNat = j.i.toNat + 1 by omega, fprod, ← hp]
    exact hm
  have hpn : toF p.i = fprod (fun m => toF (ρ 5).i ^^^ wgtX (ρ 3).d m) (ρ 1).i.toNat := by rw [hp]; congr 1; omega
  refine ⟨⟨hcp2, hnot, hpB, hpn, by rw [hw2, List.length_replicate], Int.le_refl _, l0, by rw [hw2, bI_rep]; exact fillTo_zero.symm⟩, fun cp3 _ w3 _ p3 _ i3 _ hcp3 hP => ⟨fun hi3 => ?_, fun hi3 => ?_⟩⟩
  · have hP' := hP
    obtain ⟨_, hpB3, hp3, hwl, i30, i31, hf⟩ := hP'
    have hst : toF (xorB (ρ 5).i (cellI (ρ 3).d i3.i 0)) = toF (ρ 5).i ^^^ wgtX (ρ 3).d i3.i.toNat := by rw [toF_xorB, wgtX_cell i30 (by omega)]
    refine ⟨i30, by omega, ⟨hcp3, hP, hi3, l0, xorB_isB, ?_⟩, fun cp4 _ w4 _ p4 _ i4 _ q4 _ j4 _ hcp4 hP4 hi4 hii j40 j41 hqB hq4 => ⟨fun hj4 => ⟨fun hne => ?_, fun he => ?_⟩, fun hj4 => ?_⟩⟩
    · show toF (xorB _ _) = _
      rw [hst, fprod]; exact fmul_one.symm
    · obtain ⟨_, hpB4, hp4, hwl4, i40, i41, hf4⟩ := hP4
      rw [add64 (by omega) (by omega)]
      refine ⟨i40, hi4, by omega, j40, by omega, ⟨hqB, xorB_isB⟩, fun z _ hz => ⟨⟨hcp4, ⟨hnot, hpB4, hp4, hwl4, i40, i41, hf4⟩, hi4, hii, by omega, by omega, by rw [hz]; exact mulF_isB hqB xorB_isB, ?_⟩, by omega⟩⟩
      have hm : toF (mulF q4.i (xorB (cellI (ρ 3).d i4.i 0) (cellI (ρ 3).d j4.i 0))) = fmul (toF q4.i) (wgtX (ρ 3).d i4.i.toNat ^^^ wgtX (ρ 3).d j4.i.toNat) := by rw [toF_mulF hqB xorB_isB, toF_xorB, wgtX_cell i40 (by omega), wgtX_cell j40 (by omega)]
      rw [hz, show (j4.i + 1).toNat = j4.i.toNat + 1 by omega, fprod, if_neg (by omega), ← fmul_assoc, ← hq4]
      exact hm
    · rw [add64 (by omega) (by omega)]
      refine ⟨⟨hcp4, hP4, hi4, hii, by omega, by omega, hqB, ?_⟩, by omega⟩
      rw [hq4, show (j4.i + 1).toNat = j4.i.toNat + 1 by omega, fprod, if_pos (by omega), show (1#8 : F) = 1 from rfl, fmul_one]
    · obtain ⟨_, hpB4, hp4, hwl4, i40, i41, hf4⟩ := hP4
      rw [add64 (by omega) (by omega)]
      refine ⟨hqB, fun iv _ hiv => ⟨⟨hpB4, by rw [hiv]; exact invF_isB hqB⟩, fun z _ hz => ⟨i40, hi4, by omega, ⟨hcp4, hnot, hpB4, hp4, by rw [putD_len]; exact hwl4, by omega, by omega, ?_⟩, by omega⟩⟩⟩
      rw [bI_put, hf4, show (i4.i + 1).toNat = i4.i.toNat + 1 by omega, fillTo_step (by omega)]
      congr 1
      refine toF_inj ?_ ofF_isB ?_
      · rw [hz]; exact mulF_isB hpB4 (by rw [hiv]; exact invF_isB hqB)
      · rw [hz, hiv, toF_mulF hpB4 (invF_isB hqB), toF_invF hqB, hp4, hq4, toF_ofF, show j4.i.toNat = (ρ 1).i.toNat by omega]
        exact lag_weight hdd (by omega) hneq
  · obtain ⟨_, hpB3, hp3, hwl, i30, i31, hf⟩ := hP
    refine ⟨hcp3, ?_⟩
    rw [hf, show i3.i.toNat = (ρ 1).i.toNat by omega, fillTo_at, wgtL, bI_len, show (ρ 3).d.length = (ρ 1).i.toNat by omega]
    rfl
theorem lawSelects_ok : lawSelectsC.ok Try.prog := lawSelects_of (by simp [large48_ok, own42_ok, sel62_ok, pick63_ok, same44_ok, known_ok]) fun ρ hg hp => by
  obtain ⟨⟨a0, a1, a2, a3, a4⟩, n0, n1, n2⟩ := hp
  simp (config := { maxSteps := 4000000 }) [o_lawSelects, lawSelectsC, lawIs, lawRet, large48C, own42C, cloneKC, clone84C, sel62C, pick63C, same44C, knownC]
  refine ⟨a0, fun s1 _ hs1 hb1 => ⟨n0, fun hn => ?_⟩⟩
  have m1 : ¬ (60 < (ρ 0).i ∨ 60 < (ρ 1).i ∨ 3600 < (ρ 3).i) := fun h => by have := hs1.2 h; rw [hb1] at this; cases this
  refine ⟨⟨a0, by omega, by unfold Go.Eng.big; omega⟩, fun c1 _ d1 _ hd1 hc1 => ?_⟩
  have e1 : d1.d = (ρ 5).d := by rw [hd1, List.take_of_length_le (by omega)]
  have e2 : (ρ 10).d.take (ρ 8).i.toNat = (ρ 10).d := by rw [List.take_of_length_le (by omega)]
  rw [e1, e2]
  rw [e1] at hc1
  have hpre : 0 ≤ (ρ 3).i ∧ (ρ 3).i ≤ (ρ 5).d.length ∧ allB (ρ 5).d ∧ 0 ≤ (ρ 8).i ∧ (ρ 8).i = (ρ 10).d.length := ⟨a0, by omega, a3, n0, by omega⟩
  have hnil : allB [] ∧ ∀ (u : U), u.good → (u.b = true ↔ sameMP 0 0 0 0 0 0 [] []) → u.b = true := ⟨fun r hr => (by cases hr), fun u _ hu => hu.2 ⟨rfl, rfl, rfl⟩⟩
  refine ⟨by omega, by omega, ⟨a0, by omega, by omega, a3, n0, by omega⟩, fun hbad => ⟨hpre, fun _ => hnil, fun _ _ _ _ hn _ _ => hn hbad⟩, fun l _ cp _ d _ hnb hM hL hd => ⟨hpre, hnb, fun l' _ d' _ _ hL' hd' => ⟨⟨by omega, by omega, hM.2.2.2.2.2.2.2, by omega, by omega, allB_of (by rw [hd', ← hd]; exact bytes_of hM.2.2.2.2.2.2.2)⟩, fun w _ hw => hw.2 ⟨rfl, rfl, ?_⟩⟩⟩⟩
  have hll : l.i = l'.i := by
    have h1 := congrArg List.length hd
    have h2 := congrArg List.length hd'
    rw [bI_len] at h1 h2
    omega
  rw [hd, hd', hll]
theorem lagF_congr {n : Nat} {xs ys : Nat → F} {x : F} {i : Nat} (hi : i < n) (h : ∀ m, m < n → xs m = ys m) : lagF n xs x i = lagF n ys x i := by
  rw [lagF, lagF, fprod_congr (g := fun m => if m = i then 1 else x ^^^ ys m) fun m hm => by simp only [h m hm], fprod_congr (f := fun m => if m = i then 1 else xs i ^^^ xs m) (g := fun m => if m = i then 1 else ys i ^^^ ys m) fun m hm => by simp only [h m hm, h i hi]]
theorem first_get {n m : Nat} (h : m < n) : (firstL n).getD m 0 = (m : Int) := by
  rw [List.getD_eq_getElem?_getD, firstL, List.getElem?_map, List.getElem?_range h]; rfl
theorem first_len {n : Nat} : (firstL n).length = n := by simp [firstL]
theorem first_dist {n : Nat} (h : n ≤ 256) : distL (firstL n) := by
  unfold distL
  rw [first_len]
  intro i j hi hj he
  simp only at he
  rw [first_get hi, first_get hj] at he
  exact xs_distinct h i j hi hj he
/-- A row of the generator. -/
theorem gen_row {k total i : Nat} (h1 : 1 ≤ k) (hk : k ≤ total) (ht : total ≤ 255) (hi : i < total) : (genL k total).take ((i + 1) * k) = (genL k total).take (i * k) ++ wgtL (firstL k) (i : Int) := by
  obtain ⟨g1, g2, _, g4⟩ := gen_facts h1 hk ht
  rw [Nat.add_mul, Nat.one_mul, List.take_add]
  congr 1
  have hle := row_le (ca := k) hi
  apply List.ext_getElem?
  intro j
  rw [List.getElem?_take, List.getElem?_drop, wgtL, first_len, List.getElem?_map]
  by_cases hj : j < k
  · rw [if_pos hj, List.getElem?_range hj, Option.map_some, List.getElem?_eq_getElem (by omega)]
    have h2 := g4 i j hi hj
    rw [matL, List.getD_eq_getElem?_getD, List.getElem?_eq_getElem (by omega), Option.getD_some] at h2
    rw [Option.some.injEq, ← ofF_toF (g2 _ (List.getElem_mem (l := genL k total) (n := i * k + j) (by omega))), h2]
    congr 1
    refine lagF_congr hj fun m hm => ?_
    rw [first_get hm]; rfl
  · rw [if_neg hj, List.getElem?_eq_none (l := List.range k) (by simp; omega)]; rfl
theorem wgtL_len {xs : List Int} {x : Int} : (wgtL xs x).length = xs.length := by simp [wgtL]
theorem first_bytes {n : Nat} (h : n ≤ 256) : bytesL (firstL n) := fun x hx => by
  obtain ⟨m, hm, rfl⟩ := List.mem_map.1 hx
  have := List.mem_range.1 hm
  exact ⟨by omega, by omega⟩
theorem basis47_ok : basis47C.ok Try.prog := basis47_of (by simp [sizes29_ok, first79_ok, wgt78_ok]) fun ρ hg hp => by
  simp (config := { maxSteps := 4000000 }) [o_basis47, basis47C, basis47I, sizes29C, sizes74C, first79C, wgt78C]
  intro u0 _ v _ hv
  refine ⟨fun hb => by rw [← hv]; exact hb, fun hb u2 _ h3 _ _ => ?_⟩
  have hsz : sizesB (ρ 0).i (ρ 1).i = true := by rw [← hv]; exact hb
  obtain ⟨k1, k2, k3⟩ := sizesB_iff.1 hsz
  obtain ⟨g1, g2, _, _⟩ := gen_facts (k := (ρ 0).i.toNat) (total := (ρ 1).i.toNat) (by omega) (by omega) (by omega)
  have hbb := mul_bound (x := (ρ 1).i) (y := (ρ 0).i) (by omega) k3 (by omega) (show (ρ 0).i ≤ 255 by omega)
  have hgl : (genL (ρ 0).i.toNat (ρ 1).i.toNat).length ≤ 65025 := by rw [g1, ← Int.toNat_mul (by omega) (by omega)]; omega
  refine ⟨⟨hsz, by omega, rfl⟩, fun i _ u5 _ l _ cp _ d _ b _ ab _ _ i0 i1 hl hd => ⟨fun hi => ?_, fun hi => ?_⟩⟩
  · have hdl : d.d.length ≤ 65025 := by
      have := congrArg List.length hd
      rw [bI_len, List.length_take] at this
      omega
    refine ⟨⟨by omega, by omega⟩, fun r1 _ c1 _ d1 _ hd1 => ?_⟩
    have hl1 : d1.d.length = (ρ 0).i.toNat := by rw [← bI_len, hd1, first_len]
    have hw : IntKind.u8.wrap i.i = i.i := by simp [IntKind.wrap, IntKind.bits, IntKind.signed]; omega
    rw [hw, hd1]
    refine ⟨⟨by omega, by omega, by omega, allB_of (by rw [hd1]; exact first_bytes (by omega)), ⟨i0, by omega⟩, first_dist (by omega)⟩, fun r2 _ c2 _ d2 _ hc2 hd2 => ?_⟩
    have hl2 : d2.d.length = (ρ 0).i.toNat := by rw [← bI_len, hd2, wgtL_len, first_len]
    refine ⟨hl, by omega, by omega, by omega, fun r3 _ c3 _ h4 _ _ => ?_⟩
    rw [add64 (by omega) (by omega)]
    refine ⟨⟨hsz, by omega, by omega, by omega, ?_⟩, by omega⟩
    rw [show (i.i + 1).toNat = i.i.toNat + 1 by omega, gen_row (by omega) (by omega) (by omega) (by omega), List.take_of_length_le (by omega), Int.toNat_of_nonneg i0, ← hd2, ← hd]
    simp [bI]
  · intro _ _ _
    have : i.i = (ρ 1).i := by omega
    refine ⟨hsz, hl, ?_⟩
    rw [hd, this, List.take_of_length_le (by rw [g1]; exact Nat.le_refl _)]
end Go.Proofs

/- Ranks without a right side, rows that are chosen, inverses that undo: plain laws. -/
set_option linter.unusedSimpArgs false
set_option linter.unusedVariables false
namespace Go.Eng
open Go Go.Proofs
/-- The rank of a matrix of r rows and c columns. -/
def rankE (m : List Int) (r c : Nat) : Nat := (elimN r c 0 m [] c).2.2
/-- k different numbers below total. -/
def chooseOk (k total : Nat) (rs : List Int) : Prop := rs.length = k ∧ rs.Nodup ∧ ∀ x ∈ rs, 0 ≤ x ∧ x < (total : Int)
end Go.Eng
namespace Go.Proofs
open Go Go.Eng

/-! ### The left side alone -/
theorem elimRows_left {ca cb cb' rank c : Nat} {a b b' : List Int} : ∀ i, (elimRows ca cb rank c a b i).1 = (elimRows ca cb' rank c a b' i).1
  | 0 => rfl
  | i + 1 => by
    have ih := elimRows_left (ca := ca) (cb := cb) (cb' := cb') (rank := rank) (c := c) (a := a) (b := b) (b' := b') i
    unfold elimRows
    dsimp only
    by_cases h : i = rank
    · rw [if_pos h, if_pos h, ih]
    · rw [if_neg h, if_neg h]; dsimp only; rw [ih]
theorem elimN_left {r ca cb cb' : Nat} {a b b' : List Int} : ∀ c, (elimN r ca cb a b c).1 = (elimN r ca cb' a b' c).1 ∧ (elimN r ca cb a b c).2.2 = (elimN r ca cb' a b' c).2.2
  | 0 => ⟨rfl, rfl⟩
  | c + 1 => by
    obtain ⟨h1, h2⟩ := elimN_left (r := r) (ca := ca) (cb := cb) (cb' := cb') (a := a) (b := b) (b' := b') c
    unfold elimN
    generalize elimN r ca cb a b c = s at h1 h2 ⊢
    generalize elimN r ca cb' a b' c = s' at h1 h2 ⊢
    obtain ⟨x, y, z⟩ := s
    obtain ⟨x', y', z'⟩ := s'
    dsimp only at h1 h2
    subst h1 h2
    unfold elimStep
    dsimp only
    by_cases h : r ≤ z
    · rw [if_pos h, if_pos h]; exact ⟨rfl, rfl⟩
    · rw [if_neg h, if_neg h]
      by_cases h' : pivF x ca c z (r - z) = r
      · rw [if_pos h', if_pos h']; exact ⟨rfl, rfl⟩
      · rw [if_neg h', if_neg h']
        refine ⟨?_, rfl⟩
        dsimp only
        have hm : (elimMid r ca cb c (x, y, z)).1 = (elimMid r ca cb' c (x, y', z)).1 := by
          unfold elimMid scaleR swapR
          dsimp only
          by_cases hp : pivF x ca c z (r - z) = z
          · rw [if_pos hp, if_pos hp]
          · rw [if_neg hp, if_neg hp]
        rw [hm]
        exact elimRows_left r
theorem del_symm {i j : Nat} : del i j = del j i := by
  unfold del
  by_cases hij : i = j
  · rw [if_pos hij, if_pos hij.symm]
  · rw [if_neg hij, if_neg (Ne.symm hij)]
theorem rank_inv {m : List Int} {n : Nat} : rankE m n n = (invE m n).2.2 := (elimN_left n).2
theorem rank_le {m : List Int} {n : Nat} (hl : m.length = n * n) (hb : bytesL m) : rankE m n n ≤ n := by
  rw [rank_inv]
  exact (inv_ech hl hb).2.le

/-! ### Rows that are chosen -/
theorem sel_get {m : List Int} {k R : Nat} (hm : m.length = R * k) : ∀ {rs : List Int}, (∀ x ∈ rs, 0 ≤ x ∧ x < (R : Int)) → ∀ {i j : Nat}, i < rs.length → j < k → (selL m k rs).getD (i * k + j) 0 = m.getD ((rs.getD i 0).toNat * k + j) 0
  | [], _, i, j, hi, _ => by simp at hi
  | x :: rs, h, i, j, hi, hj => by
    have hx := h x (List.mem_cons_self ..)
    have hxk : x.toNat * k + k ≤ R * k := by
      have h1 : x.toNat + 1 ≤ R := by omega
      have := Nat.mul_le_mul_right k h1
      rw [Nat.add_mul] at this; omega
    have hsl : (seg m (x.toNat * k) k).length = k := by rw [seg, List.length_take, List.length_drop]; omega
    rw [selL, List.flatMap_cons]
    cases i with
    | zero =>
      rw [Nat.zero_mul, Nat.zero_add, List.getD_eq_getElem?_getD, List.getElem?_append_left (by rw [hsl]; exact hj), seg, List.getElem?_take, if_pos hj, List.getElem?_drop, ← List.getD_eq_getElem?_getD]
      rfl
    | succ i =>
      have ih := sel_get hm (rs := rs) (fun y hy => h y (List.mem_cons_of_mem _ hy)) (i := i) (j := j) (by simpa using hi) hj
      rw [List.getD_eq_getElem?_getD, List.getElem?_append_right (by rw [hsl, Nat.add_mul]; omega), hsl, show (i + 1) * k + j - k = i * k + j by rw [Nat.add_mul]; omega, ← List.getD_eq_getElem?_getD]
      exact ih
theorem sel_bytes {m : List Int} {k : Nat} {rs : List Int} (h : bytesL m) : bytesL (selL m k rs) := fun x hx => by
  rw [selL, List.mem_flatMap] at hx
  obtain ⟨r, _, hx⟩ := hx
  exact h x (List.mem_of_mem_drop (List.mem_of_mem_take hx))
theorem chosen_distinct {k total : Nat} {rs : List Int} (h : chooseOk k total rs) (ht : total ≤ 255) : distinct k fun i => xsF (rs.getD i 0).toNat := by
  obtain ⟨h1, h2, h3⟩ := h
  intro i j hi hj he
  have gi : rs.getD i 0 = rs[i]'(by omega) := by rw [List.getD_eq_getElem?_getD, List.getElem?_eq_getElem (by omega)]; rfl
  have gj : rs.getD j 0 = rs[j]'(by omega) := by rw [List.getD_eq_getElem?_getD, List.getElem?_eq_getElem (by omega)]; rfl
  have mi := h3 _ (List.getElem_mem (l := rs) (n := i) (by omega))
  have mj := h3 _ (List.getElem_mem (l := rs) (n := j) (by omega))
  simp only [gi, gj] at he
  have := xs_distinct (n := 256) (Nat.le_refl _) _ _ (by omega) (by omega) he
  exact (List.getElem_inj (h₀ := by omega) (h₁ := by omega) h2).1 (by omega)
theorem sel_len' {m : List Int} {k total : Nat} {rs : List Int} (h : chooseOk k total rs) (hm : m.length = total * k) : (selL m k rs).length = k * k := by
  rw [selL_len (r := total) (by omega) h.2.2, h.1]
/-- Rows of powers that are chosen have full rank. -/
theorem rows_vander {k total : Nat} {rs : List Int} (h : chooseOk k total rs) (hk : k ≤ total) (ht : total ≤ 255) : (invE (selL (vanderL total k) k rs) k).2.2 = k :=
  inv_rank (sel_len' h vander_len) (sel_bytes (vander_bytes (by omega) (by omega))) fun y hy => vander_inj (chosen_distinct h ht) fun i hi => by
    rw [← hy i hi]
    refine fsum_congr fun j hj => ?_
    have hx := h.2.2 (rs.getD i 0) (by rw [List.getD_eq_getElem?_getD, List.getElem?_eq_getElem (by rw [h.1]; exact hi)]; exact List.getElem_mem _)
    rw [matL, sel_get vander_len h.2.2 (by rw [h.1]; exact hi) hj]
    exact congrArg (fmul · _) (vander_mat (r := total) (by omega) (by omega) hj (by omega)).symm
/-- Rows of a generator that are chosen bring only 0 to 0. -/
theorem gen_inj {k total : Nat} {rs : List Int} (h : chooseOk k total rs) (h1 : 1 ≤ k) (hk : k ≤ total) (ht : total ≤ 255) {y : Nat → F}
    (hy : ∀ i, i < k → fsum (fun j => fmul (matL k (genL k total) (rs.getD i 0).toNat j) (y j)) k = 0) : ∀ j, j < k → y j = 0 := by
  obtain ⟨g1, g2, g3, _⟩ := gen_facts h1 hk ht
  obtain ⟨t2, he⟩ := top_ech hk ht
  obtain ⟨_, m2⟩ := inv_mul he
  have hz : ∀ l, l < k → fsum (fun j => fmul (matL k (topE k total).2.1 l j) (y j)) k = 0 := vander_inj (chosen_distinct h ht) fun i hi => by
    rw [← hy i hi]
    have hx := h.2.2 (rs.getD i 0) (by rw [List.getD_eq_getElem?_getD, List.getElem?_eq_getElem (by rw [h.1]; exact hi)]; exact List.getElem_mem _)
    have e2 : fsum (fun j => fmul (matL k (genL k total) (rs.getD i 0).toNat j) (y j)) k = fsum (fun j => fsum (fun l => fmul (fmul (fpow (xsF (rs.getD i 0).toNat) l) (matL k (topE k total).2.1 l j)) (y j)) k) k := fsum_congr fun j hj => by rw [g3 _ j (by omega) hj, fsum_mul']
    rw [e2, fsum_swap]
    refine fsum_congr fun l hl => ?_
    rw [← fsum_mul]
    exact fsum_congr fun j hj => by rw [fmul_assoc]
  intro j hj
  have e1 : y j = fsum (fun i => fmul (y i) (del i j)) k := (fsum_del' (f := y) hj).symm
  rw [e1, fsum_congr (g := fun i => fsum (fun l => fmul (matL k ((vanderL total k).take (k * k)) j l) (fmul (matL k (topE k total).2.1 l i) (y i))) k) fun i hi => ?_, fsum_swap]
  · refine fsum_zero fun l hl => ?_
    rw [fsum_mul, hz l hl, fmul_zero]
  · have := m2 j i hj hi
    rw [show del i j = del j i from del_symm, ← this, fmul_comm, ← fsum_mul']
    exact fsum_congr fun l hl => by rw [fmul_assoc]
/-- The same of a generator. -/
theorem rows_gen {k total : Nat} {rs : List Int} (h : chooseOk k total rs) (h1 : 1 ≤ k) (hk : k ≤ total) (ht : total ≤ 255) : (invE (selL (genL k total) k rs) k).2.2 = k := by
  obtain ⟨g1, g2, _, _⟩ := gen_facts h1 hk ht
  refine inv_rank (sel_len' h g1) (sel_bytes g2) fun y hy => gen_inj h h1 hk ht fun i hi => ?_
  rw [← hy i hi]
  refine fsum_congr fun j hj => ?_
  rw [matL, matL, sel_get g1 h.2.2 (by rw [h.1]; exact hi) hj]

/-! ### Inverses undo -/
theorem mat_ext {n : Nat} {a b : List Int} (ha : a.length = n * n) (hb : b.length = n * n) (ba : bytesL a) (bb : bytesL b) (h : ∀ i j, i < n → j < n → matL n a i j = matL n b i j) : a = b := by
  refine list_ext_getD (by rw [ha, hb]) fun i hi => ?_
  have hn : 0 < n := by
    rcases Nat.eq_zero_or_pos n with h0 | h0
    · rw [h0] at ha; omega
    · exact h0
  have h1 : i / n < n := Nat.div_lt_of_lt_mul (by omega)
  have h2 : i % n < n := Nat.mod_lt _ hn
  have := h (i / n) (i % n) h1 h2
  have hd : i / n * n + i % n = i := by rw [Nat.mul_comm]; exact Nat.div_add_mod i n
  unfold matL at this
  rw [hd] at this
  refine toF_inj (ba _ ?_) (bb _ ?_) this
  · rw [List.getD_eq_getElem?_getD, List.getElem?_eq_getElem hi]; exact List.getElem_mem _
  · rw [List.getD_eq_getElem?_getD, List.getElem?_eq_getElem (by omega)]; exact List.getElem_mem _
theorem undoes {n : Nat} {m : List Int} (hn : 0 < n) (hl : m.length = n * n) (hb : bytesL m) (hr : (invE m n).2.2 = n) :
    prodL m (invE m n).2.1 n n n = identTo n n ∧ prodL (invE m n).2.1 m n n n = identTo n n := by
  obtain ⟨t2, he⟩ := inv_ech hl hb
  rw [hr] at he
  obtain ⟨m1, m2⟩ := inv_mul he
  obtain ⟨p1, p2, p3⟩ := prod_facts (ra := n) t2.lb hb t2.bb hn
  obtain ⟨q1, q2, q3⟩ := prod_facts (ra := n) hl t2.bb hb hn
  refine ⟨mat_ext p1 ident_len p2 ident_bytes fun i j hi hj => ?_, mat_ext q1 ident_len q2 ident_bytes fun i j hi hj => ?_⟩
  · rw [p3 i j hi hj, m2 i j hi hj, ident_mat hi hj]
  · rw [q3 i j hi hj, m1 i j hi hj, ident_mat hi hj]
end Go.Proofs

/- Pieces in memory: what their slices read as. -/
set_option linter.unusedSimpArgs false
set_option linter.unusedVariables false
namespace Go.Eng
open Go Go.Proofs
theorem Rd_unique {h : Hp} {pat : List CK} {v : Value} {d d' : Rows'} (h1 : Rd h pat v d) (h2 : Rd h pat v d') : d = d' := by
  rcases h1 with ⟨a, e1, rfl⟩ | ⟨b, o, cap, c, ty, fr, e1, l1, hb1, r1⟩ <;> rcases h2 with ⟨a', e2, rfl⟩ | ⟨b', o', cap', c', ty', fr', e2, l2, hb2, r2⟩
  · rfl
  · rw [e1] at e2
    simp only [Value.slice.injEq] at e2
    exact (List.length_eq_zero_iff.1 e2.2.1.symm).symm
  · rw [e1] at e2
    simp only [Value.slice.injEq] at e2
    exact List.length_eq_zero_iff.1 e2.2.1
  · rw [e1] at e2
    simp only [Value.slice.injEq, Option.some.injEq, Addr.mk.injEq] at e2
    obtain ⟨⟨rfl, rfl, _⟩, hl, rfl⟩ := e2
    rw [hb1] at hb2
    simp only [Option.some.injEq, Obj.cells.injEq] at hb2
    obtain ⟨rfl, rfl, rfl⟩ := hb2
    apply List.ext_getElem hl
    intro i i1 i2
    obtain ⟨f1, g1⟩ := r1 i _ (List.getElem?_eq_getElem i1)
    obtain ⟨f2, g2⟩ := r2 i _ (List.getElem?_eq_getElem i2)
    apply List.ext_getElem (by rw [f1.1, f2.1])
    intro k k1 k2
    have a1 := g1 k _ (List.getElem?_eq_getElem k1)
    have a2 := g2 k _ (List.getElem?_eq_getElem k2)
    rw [a1] at a2
    exact Option.some.inj a2
/-- What a slice of bytes reads as. -/
noncomputable def rdL (h : Hp) (v : Value) : List Int := open Classical in if hx : ∃ d, Rd h kB v d then bI hx.choose else []
theorem rdL_eq {h : Hp} {v : Value} {d : Rows'} (hr : Rd h kB v d) : rdL h v = bI d := by
  have hx : ∃ d, Rd h kB v d := ⟨d, hr⟩
  unfold rdL
  rw [dif_pos hx, Rd_unique hx.choose_spec hr]
/-- The first n rows are pieces. -/
def pcOk (h : Hp) (D : Rows') (n : Nat) : Prop := ∀ j, j < n → ∃ i v d, D[j]? = some [.int .i64 i, v] ∧ Rd h kB v d ∧ allB d
noncomputable def pcI (D : Rows') (j : Nat) : Int := cellI D j 0
noncomputable def pcD (h : Hp) (D : Rows') (j : Nat) : List Int := rdL h (cellV D j 1)
end Go.Eng
namespace Go.Proofs
open Go Go.Eng
theorem pc_at {h : Hp} {D : Rows'} {n j : Nat} (hp : pcOk h D n) (hj : j < n) : ∃ v d, D[j]? = some [.int .i64 (pcI D j), v] ∧ cellV D j 1 = v ∧ Rd h kB v d ∧ allB d ∧ pcD h D j = bI d := by
  obtain ⟨i, v, d, e, hr, hb⟩ := hp j hj
  have h1 : cellV D (j : Int) 1 = v := by simp [cellV, e]
  have h2 : pcI D j = i := by simp [pcI, cellI, cellV, e, vInt]
  exact ⟨v, d, by rw [h2]; exact e, h1, hr, hb, by rw [pcD, h1, rdL_eq hr]⟩
theorem enc_pc {h : Hp} {D : Rows'} {n : Nat} {f : Nat → List Int} (he : encAt h D n f) : pcOk h D n ∧ ∀ j, j < n → pcI D j = j ∧ pcD h D j = f j := by
  refine ⟨fun j hj => ?_, fun j hj => ?_⟩
  · obtain ⟨v, d, e, hr, _, hb⟩ := he j hj
    exact ⟨_, v, d, e, hr, hb⟩
  · obtain ⟨v, d, e, hr, hf, hb⟩ := he j hj
    refine ⟨by simp [pcI, cellI, cellV, e, vInt], ?_⟩
    rw [pcD, show cellV D (j : Int) 1 = v by simp [cellV, e], rdL_eq hr, hf]
end Go.Proofs
