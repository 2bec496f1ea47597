/- The functions on tables: what they compute. -/
import Derived.Test.YtlmkkphojjodhaaTT
import Derived.Test.YtlmkkphojjodhaaMU
set_option linter.unusedSimpArgs false
set_option linter.unusedVariables false
namespace Go.Proofs
open Go Go.Eng

theorem wrapAdd {i n : Int} (h0 : 0 ≤ i) (h : i < n) (hn : n ≤ big) : IntKind.i64.wrap (i + 1) = i + 1 := by
  unfold big at hn; exact wrap64_id (by omega) (by omega)
theorem tab_len (d : List (List Value)) : (tabOf d).length = d.length := by simp [tabOf]
theorem ints_len (d : List (List Value)) : (intsOf d).length = d.length := by simp [intsOf]
theorem cellI_tab {d : List (List Value)} {i : Int} (h0 : 0 ≤ i) (h : i < (d.length : Int)) : (tabOf d)[i.toNat]? = some (cellI d i 0, cellI d i 1) := by
  have hl : i.toNat < d.length := by omega
  simp [tabOf, List.getElem?_map, List.getElem?_eq_getElem hl, cellI, cellV, rowI]
theorem cellI_ints {d : List (List Value)} {i : Int} (h0 : 0 ≤ i) (h : i < (d.length : Int)) : (intsOf d)[i.toNat]? = some (cellI d i 0) := by
  have hl : i.toNat < d.length := by omega
  simp [intsOf, List.getElem?_map, List.getElem?_eq_getElem hl, cellI, cellV, rowI]
theorem toNat_succ {i : Int} (h : 0 ≤ i) : (i + 1).toNat = i.toNat + 1 := by omega
theorem take_snoc {α : Type} {l : List α} {n : Nat} {x : α} (h : l[n]? = some x) : l.take (n + 1) = l.take n ++ [x] := by
  rw [List.take_add_one, h]; rfl
theorem okN_zero (l : List Ent) : okN l 0 = true := by simp [okN]
theorem okN_succ {l : List Ent} {n : Nat} {x : Ent} (h : l[n]? = some x) (h' : okN l n = true) (hx : validE x = true) : okN l (n + 1) = true := by
  unfold okN at *; rw [take_snoc h, List.all_append, h']; simp [hx]
theorem okN_all {l : List Ent} {n : Nat} (h : l.length ≤ n) (h' : okN l n = true) : okAll l = true := by
  unfold okN at h'; rwa [List.take_of_length_le h] at h'
theorem okAll_bad {l : List Ent} {n : Nat} {x : Ent} (h : l[n]? = some x) (hx : validE x = false) : okAll l = false := by
  have hm := List.mem_of_getElem? h
  cases hh : okAll l with
  | false => rfl
  | true => have := List.all_eq_true.1 hh x hm; rw [hx] at this; cases this
theorem sameN_zero (a b : List Ent) : sameN a b 0 := by simp [sameN]
theorem sameN_succ {a b : List Ent} {n : Nat} {x : Ent} (h : sameN a b n) (ha : a[n]? = some x) (hb : b[n]? = some x) : sameN a b (n + 1) := by
  unfold sameN at *; rw [take_snoc ha, take_snoc hb, h]
theorem sameN_all {a b : List Ent} {n : Nat} (h : sameN a b n) (ha : a.length ≤ n) (hb : b.length ≤ n) : a = b := by
  unfold sameN at h; rwa [List.take_of_length_le ha, List.take_of_length_le hb] at h
theorem sameIN_zero (a b : List Int) : sameIN a b 0 := by simp [sameIN]
theorem sameIN_succ {a b : List Int} {n : Nat} {x : Int} (h : sameIN a b n) (ha : a[n]? = some x) (hb : b[n]? = some x) : sameIN a b (n + 1) := by
  unfold sameIN at *; rw [take_snoc ha, take_snoc hb, h]
theorem sameIN_all {a b : List Int} {n : Nat} (h : sameIN a b n) (ha : a.length ≤ n) (hb : b.length ≤ n) : a = b := by
  unfold sameIN at h; rwa [List.take_of_length_le ha, List.take_of_length_le hb] at h

theorem validT_pos {l : List Ent} (h : validT l = true) : 1 ≤ l.length := by
  simp [validT] at h; exact h.1.1
theorem validT_le {l : List Ent} (h : validT l = true) : l.length ≤ 16 := by
  simp [validT] at h; exact h.1.2
theorem valid61_ok : valid61C.ok Try.prog := valid61_of (by simp) fun ρ hg hp => by
  simp [o_valid61, valid61C, validE]
  refine ⟨fun h => ?_, fun h => ?_⟩
  · simp [h, cmpOf]
  · intro h'; omega
theorem good71_ok : good71C.ok Try.prog := good71_of (by simp) fun ρ hg hp => by
  simp [o_good71, good71C, valid61C, validE]
  refine ⟨fun h => ?_, fun h => ?_⟩
  · simp [h, cmpOf]
  · intro h'; omega
theorem valid60_ok : valid60C.ok Try.prog := valid60_of (by simp [valid61_ok]) fun ρ hg hp => by
  simp [o_valid60, valid60C, valid61C]
theorem live72_ok : live72C.ok Try.prog := live72_of (by simp) fun ρ hg hp => by
  simp [o_live72, live72C, valid61C, liveS]
  refine ⟨fun h => .inl h, fun h => ?_⟩
  rw [show ((ρ 1).i == 1) = false by simpa using h]; simp [cmpOf]
theorem index84_ok : index84C.ok Try.prog := index84_of (by simp [valid60_ok]) fun ρ hg hp => by
  obtain ⟨hl, hb⟩ := hp
  simp [o_index84, index84C, index84I, valid60C, valid61C, arithOf, okN_zero]
  refine ⟨by omega, fun u _ h0 h1 h2 => ⟨fun h3 => ⟨h0, by omega, fun u1 _ h4 => ?_⟩, fun h3 => okN_all (by rw [tab_len]; omega) h2⟩⟩
  have hc := cellI_tab (d := (ρ 3).d) h0 (by omega)
  rw [wrapAdd h0 h3 hb]
  refine ⟨fun h5 => ⟨fun _ => ?_, fun _ => h0⟩, fun h5 => ⟨⟨by omega, by omega, ?_⟩, by omega⟩⟩
  · refine okAll_bad hc ?_
    rw [h5] at h4; simpa using h4.symm
  · rw [toNat_succ h0]
    refine okN_succ hc h2 ?_
    rw [h5] at h4; simpa using h4.symm
theorem contains59_ok : contains59C.ok Try.prog := contains59_of (by simp [index84_ok]) fun ρ hg hp => by
  simp only [contains59C, index84C] at hp
  simp [o_contains59, contains59C, index84C, hp]
  refine ⟨by omega, fun u _ h => ?_⟩
  cases hx : okAll (tabOf (ρ 3).d) <;> cases hy : cmpOf BinOp.geq u.i 0 <;> simp_all <;> omega
theorem valid20_ok : valid20C.ok Try.prog := valid20_of (by simp [contains59_ok]) fun ρ hg hp => by
  obtain ⟨hl, hb⟩ := hp
  simp [o_valid20, valid20C, contains59C, index84C, validT, tab_len]
  refine ⟨by omega, fun h => ⟨fun h2 => ⟨⟨hl, hb⟩, fun u _ h3 => ?_⟩, fun h2 => ?_⟩, fun h => ?_⟩
  · rw [show decide (1 ≤ (ρ 3).d.length) = true by simp; omega, show decide ((ρ 3).d.length ≤ 16) = true by simp; omega, h3]; simp
  · intro h3; omega
  · intro h3; omega
theorem refValid35_ok : refValid35C.ok Try.prog := refValid35_of (by simp [good71_ok]) fun ρ hg hp => by
  obtain ⟨hl, hb⟩ := hp
  simp [o_refValid35, refValid35C, valid20C, contains59C, index84C, refValid35I, index84I, good71C, valid61C, arithOf, okN_zero, validT, tab_len]
  refine ⟨by omega, fun h => ?_, fun h => ⟨fun h2 => ?_, fun h2 => ⟨by omega, fun u _ h0 h1 h3 => ⟨fun h4 => ⟨h0, by omega, fun u1 _ h5 => ?_⟩, fun h4 => ?_⟩⟩⟩⟩
  · intro h3; omega
  · intro h3; omega
  · have hc := cellI_tab (d := (ρ 3).d) h0 (by omega)
    rw [wrapAdd h0 h4 hb]
    refine ⟨fun h6 _ _ => ?_, fun h6 => ⟨⟨by omega, by omega, ?_⟩, by omega⟩⟩
    · exact okAll_bad hc (by rw [← h5, h6])
    · rw [toNat_succ h0]; exact okN_succ hc h3 (by rw [← h5, h6])
  · exact ⟨⟨by omega, by omega⟩, okN_all (by rw [tab_len]; omega) h3⟩
theorem own21_ok : own21C.ok Try.prog := own21_of (by simp) fun ρ hg hp => by
  obtain ⟨hl, hb⟩ := hp
  unfold big at hb
  simp [o_own21, own21C]
  exact ⟨by omega, by omega, by omega, by rw [hl]; simp⟩
theorem clone63_ok : clone63C.ok Try.prog := clone63_of (by simp) fun ρ hg hp => by
  obtain ⟨hl, h0, hb⟩ := hp
  unfold big at hb
  simp [o_clone63, clone63C]
  refine ⟨fun h => ?_, fun _ => ⟨by omega, by omega, by omega, by rw [hl]; simp⟩⟩
  rw [h] at hl; simp at hl; omega
theorem joinTab_get {a b : List Ent} {j : Nat} {x y : Ent} (ha : a[j]? = some x) (hb : b[j]? = some y) : (joinTab a b)[j]? = some (joinE x y) := by
  simp [joinTab, List.getElem?_zipWith, ha, hb]
theorem tab_put {d : List (List Value)} {i : Int} {x y : Int} (h0 : 0 ≤ i) (h : i < (d.length : Int)) (j : Nat) :
    (tabOf (putD d i 0 [.int .u64 x, .int .u8 y]))[j]? = if j = i.toNat then some (x, y) else (tabOf d)[j]? := by
  simp only [tabOf, putD, List.getElem?_map, List.getElem?_set]
  by_cases hj : i.toNat = j
  · subst hj
    have : i.toNat < d.length := by omega
    simp [this, splice, rowI, vInt]
  · rw [if_neg hj, if_neg (fun h => hj h.symm)]
theorem putD_len (d : List (List Value)) (i : Int) (c : Nat) (vs : List Value) : (putD d i c vs).length = d.length := by simp [putD]
theorem joined_zero (a b : List Ent) : joinedTo a a b 0 := fun j => by simp
theorem joined_all {t a b : List Ent} {n : Nat} (h : joinedTo t a b n) (hn : a.length ≤ n) : t = joinTab a b := by
  apply List.ext_getElem?
  intro j
  rw [h j]
  split
  · rfl
  · rename_i hj
    rw [List.getElem?_eq_none (by omega), List.getElem?_eq_none (by simp [joinTab]; omega)]
theorem joined_succ {d : List (List Value)} {a b : List Ent} {i : Int} {x y : Ent} {z : Ent} (h0 : 0 ≤ i) (hi : i < (d.length : Int)) (h : joinedTo (tabOf d) a b i.toNat) (ha : a[i.toNat]? = some x) (hb : b[i.toNat]? = some y) (hz : z = joinE x y) :
    joinedTo (tabOf (putD d i 0 [.int .u64 z.1, .int .u8 z.2])) a b (i.toNat + 1) := fun j => by
  rw [tab_put h0 hi]
  by_cases hj : j = i.toNat
  · subst hj; simp [joinTab_get ha hb, hz]
  · rw [if_neg hj, h j]
    by_cases h1 : j < i.toNat
    · rw [if_pos h1, if_pos (by omega)]
    · rw [if_neg h1, if_neg (by omega)]
theorem merge32_ok : merge32C.ok Try.prog := merge32_of (by simp [valid20_ok, clone63_ok, join_ok]) fun ρ hg hp => by
  obtain ⟨hl, hm, hb, hc⟩ := hp
  have hz : ∀ x : List Ent, joinedTo x x (tabOf (ρ 8).d) 0 := fun x => joined_zero x _
  simp [o_merge32, merge32C, merge32I, valid20C, contains59C, index84C, clone63C, joinD, joinC, arithOf]
  refine ⟨⟨hl, hb⟩, fun u _ hu => ⟨fun h1 => ?_, fun h1 => ⟨⟨hm, hc⟩, fun u2 _ hu2 => ⟨fun h2 => ?_, fun h2 => ⟨by omega, by omega, fun h3 => ?_, fun h3 => ?_⟩⟩⟩⟩⟩
  · rw [← hu, h1]; simp
  · rw [← hu, ← hu2, h1, h2]; simp
  · rw [← hu, ← hu2, h1, h2]; exact ⟨⟨rfl, rfl⟩, h3⟩
  · have hv1 : validT (tabOf (ρ 3).d) = true := hu.symm.trans h1
    have hv2 : validT (tabOf (ρ 8).d) = true := hu2.symm.trans h2
    have hpos := validT_pos hv1
    rw [tab_len] at hpos
    refine ⟨⟨hl, by omega, hb⟩, fun ud _ hud => ⟨⟨by omega, by rw [hud], by rw [hud]; exact hz _⟩, fun ui _ ux _ h0 h4 h5 h6 => ⟨fun h7 => ?_, fun h7 => ?_⟩⟩⟩
    · have hcA := cellI_tab (d := ux.d) h0 (by omega)
      have hcB := cellI_tab (d := (ρ 8).d) h0 (by omega)
      have hcC : (tabOf (ρ 3).d)[ui.i.toNat]? = some (cellI ux.d ui.i 0, cellI ux.d ui.i 1) := by
        rw [← hcA]; have := h6 ui.i.toNat; rw [if_neg (by omega)] at this; exact this.symm
      rw [wrapAdd h0 h7 hc, toNat_succ h0]
      refine ⟨h0, by omega, by omega, by omega, fun h8 => ⟨⟨by omega, by omega, by rw [putD_len]; exact h5, ?_⟩, by omega⟩, fun h8 => ⟨⟨by omega, by omega, by rw [putD_len]; exact h5, ?_⟩, by omega⟩⟩
      · exact joined_succ (z := (cellI (ρ 8).d ui.i 0, cellI (ρ 8).d ui.i 1)) h0 (by omega) h6 hcC hcB (by simp [joinE, newerE, h8])
      · exact joined_succ (z := (cellI ux.d ui.i 0, cellI ux.d ui.i 1)) h0 (by omega) h6 hcC hcB (by simp [joinE, newerE, h8])
    · exact ⟨⟨hv1, hv2⟩, h3, joined_all h6 (by rw [tab_len]; omega), h5⟩
theorem mergeV32_ok : mergeV32C.ok Try.prog := mergeV32_of (by simp [valid20_ok, clone63_ok, join_ok]) fun ρ hg hp => by
  obtain ⟨hl, hm, heq, hv1, hv2⟩ := hp
  have hz : ∀ x : List Ent, joinedTo x x (tabOf (ρ 8).d) 0 := fun x => joined_zero x _
  have hpos := validT_pos hv1
  have hle := validT_le hv1
  rw [tab_len] at hpos hle
  have h16 : (16 : Int) ≤ big := by decide
  have hc : (ρ 6).i ≤ big := by omega
  simp [o_mergeV32, mergeV32C, merge32C, merge32I, valid20C, contains59C, index84C, clone63C, joinD, joinC, arithOf]
  refine ⟨⟨hl, by omega⟩, fun u _ hu => ⟨by rw [hu, hv1], fun _ => ⟨⟨hm, by omega⟩, fun u2 _ hu2 => ⟨by rw [hu2, hv2], fun _ => ⟨by omega, by omega, heq, fun h3 => ?_⟩⟩⟩⟩⟩
  refine ⟨⟨hl, by omega, by omega⟩, fun ud _ hud => ⟨⟨by omega, by rw [hud], by rw [hud]; exact hz _⟩, fun ui _ ux _ h0 h4 h5 h6 => ⟨fun h7 => ?_, fun h7 => ?_⟩⟩⟩
  · have hcA := cellI_tab (d := ux.d) h0 (by omega)
    have hcB := cellI_tab (d := (ρ 8).d) h0 (by omega)
    have hcC : (tabOf (ρ 3).d)[ui.i.toNat]? = some (cellI ux.d ui.i 0, cellI ux.d ui.i 1) := by
      rw [← hcA]; have := h6 ui.i.toNat; rw [if_neg (by omega)] at this; exact this.symm
    rw [wrapAdd h0 h7 hc, toNat_succ h0]
    refine ⟨h0, by omega, by omega, by omega, fun h8 => ⟨⟨by omega, by omega, by rw [putD_len]; exact h5, ?_⟩, by omega⟩, fun h8 => ⟨⟨by omega, by omega, by rw [putD_len]; exact h5, ?_⟩, by omega⟩⟩
    · exact joined_succ (z := (cellI (ρ 8).d ui.i 0, cellI (ρ 8).d ui.i 1)) h0 (by omega) h6 hcC hcB (by simp [joinE, newerE, h8])
    · exact joined_succ (z := (cellI ux.d ui.i 0, cellI ux.d ui.i 1)) h0 (by omega) h6 hcC hcB (by simp [joinE, newerE, h8])
  · exact ⟨joined_all h6 (by rw [tab_len]; omega), h5⟩
theorem refNewer79_ok : refNewer79C.ok Try.prog := refNewer79_of (by simp) fun ρ hg hp => by
  simp [o_refNewer79, refNewer79C, newerD, newerC]
  refine ⟨fun h => ?_, fun h => ?_⟩
  · cases hx : cmpOf BinOp.gtr (ρ 1).i (ρ 3).i <;> cases hy : cmpOf BinOp.gtr (ρ 0).i (ρ 2).i <;> simp_all
  · cases hx : cmpOf BinOp.gtr (ρ 1).i (ρ 3).i <;> cases hy : cmpOf BinOp.gtr (ρ 0).i (ρ 2).i <;> simp_all
theorem refJoin70_ok : refJoin70C.ok Try.prog := refJoin70_of (by simp [refNewer79_ok]) fun ρ hg hp => by
  simp [o_refJoin70, refJoin70C, joinD, joinC, refNewer79C, newerD, newerC, newerB]
theorem joinTab_snoc {d : List (List Value)} {a b : List Ent} {n : Nat} {x y z : Ent} (h : tabOf d = joinTab (a.take n) (b.take n)) (ha : a[n]? = some x) (hb : b[n]? = some y) (hz : z = joinE x y) :
    tabOf (d ++ [[.int .u64 z.1, .int .u8 z.2]]) = joinTab (a.take (n + 1)) (b.take (n + 1)) := by
  rw [take_snoc ha, take_snoc hb]
  have hla : n < a.length := (List.getElem?_eq_some_iff.1 ha).1
  have hlb : n < b.length := (List.getElem?_eq_some_iff.1 hb).1
  simp only [joinTab] at h ⊢
  rw [List.zipWith_append (by simp; omega), ← h]
  simp [tabOf, rowI, vInt, hz]
theorem refMerge33_ok : refMerge33C.ok Try.prog := refMerge33_of (by simp [refValid35_ok, refJoin70_ok]) fun ρ hg hp => by
  obtain ⟨hl, hm, hb, hc⟩ := hp
  simp [o_refMerge33, refMerge33C, merge32C, refMerge33I, refValid35C, valid20C, contains59C, index84C, refJoin70C, joinD, joinC, arithOf]
  refine ⟨⟨hl, hb⟩, fun u _ hu => ⟨fun h1 => ?_, fun h1 => ⟨⟨hm, hc⟩, fun u2 _ hu2 => ⟨fun h2 => ?_, fun h2 => ⟨by omega, by omega, fun h3 => ?_, fun h3 => ?_⟩⟩⟩⟩⟩
  · rw [← hu, h1]; simp
  · rw [← hu, ← hu2, h1, h2]; simp
  · rw [← hu, ← hu2, h1, h2]; exact ⟨⟨rfl, rfl⟩, h3⟩
  · have hv1 : validT (tabOf (ρ 3).d) = true := hu.symm.trans h1
    have hv2 : validT (tabOf (ρ 8).d) = true := hu2.symm.trans h2
    refine ⟨⟨by omega, by simp [tabOf, joinTab]⟩, fun ui _ ux _ uy _ h0 h4 h5 h6 h7 => ⟨fun h8 => ?_, fun h8 => ?_⟩⟩
    · have hcA := cellI_tab (d := (ρ 3).d) h0 (by omega)
      have hcB := cellI_tab (d := (ρ 8).d) h0 (by omega)
      have hbig : 16 * (uy.i + 1) ≤ 140737488355328 := by unfold big at hb; omega
      rw [wrapAdd h0 h8 hb, toNat_succ h0]
      refine ⟨h0, by omega, by omega, by omega, fun h9 => ⟨by omega, hbig, ⟨by omega, by omega, by omega, by omega, ?_⟩, by omega⟩, fun h9 => ⟨by omega, hbig, ⟨by omega, by omega, by omega, by omega, ?_⟩, by omega⟩⟩
      · exact joinTab_snoc (z := (cellI (ρ 8).d ui.i 0, cellI (ρ 8).d ui.i 1)) h7 hcA hcB (by simp [joinE, newerE, h9])
      · exact joinTab_snoc (z := (cellI (ρ 3).d ui.i 0, cellI (ρ 3).d ui.i 1)) h7 hcA hcB (by simp [joinE, newerE, h9])
    · refine ⟨by omega, ⟨hv1, hv2⟩, h3, ?_, by omega⟩
      rw [h7, List.take_of_length_le (by rw [tab_len]; omega), List.take_of_length_le (by rw [tab_len]; omega)]
theorem same34_ok : same34C.ok Try.prog := same34_of (by simp) fun ρ hg hp => by
  obtain ⟨hl, hm, hb, hc⟩ := hp
  simp [o_same34, same34C, merge32C, same34I, arithOf, sameN_zero]
  refine ⟨by omega, by omega, fun h h' => ?_, fun h => ⟨⟨by omega, h⟩, fun u _ h0 h1 _ h2 => ⟨fun h3 => ⟨h0, by omega, by omega, by omega, fun h4 h5 => ?_, fun h4 h5 => ?_⟩, fun h3 => ?_⟩⟩⟩
  · have := congrArg List.length h'; rw [tab_len, tab_len] at this; omega
  · have hcA := cellI_tab (d := (ρ 3).d) h0 (by omega)
    have hcB := cellI_tab (d := (ρ 8).d) h0 (by omega)
    rw [h5, hcB] at hcA
    simp only [Option.some.injEq, Prod.mk.injEq] at hcA
    rcases h4 with h4 | h4
    · exact h4 hcA.1.symm
    · exact h4 hcA.2.symm
  · have hcA := cellI_tab (d := (ρ 3).d) h0 (by omega)
    have hcB := cellI_tab (d := (ρ 8).d) h0 (by omega)
    rw [h4, h5] at hcA
    rw [wrapAdd h0 h3 hb, toNat_succ h0]
    exact ⟨⟨by omega, by omega, h, sameN_succ h2 hcA hcB⟩, by omega⟩
  · exact sameN_all h2 (by rw [tab_len]; omega) (by rw [tab_len]; omega)
theorem sameInts36_ok : sameInts36C.ok Try.prog := sameInts36_of (by simp) fun ρ hg hp => by
  obtain ⟨hl, hm, hb, hc⟩ := hp
  simp [o_sameInts36, sameInts36C, merge32C, sameInts36I, arithOf, sameIN_zero]
  refine ⟨by omega, by omega, fun h h' => ?_, fun h => ⟨⟨by omega, h⟩, fun u _ h0 h1 _ h2 => ⟨fun h3 => ⟨h0, by omega, by omega, by omega, fun h4 h5 => ?_, fun h4 => ?_⟩, fun h3 => ?_⟩⟩⟩
  · have := congrArg List.length h'; rw [ints_len, ints_len] at this; omega
  · have hcA := cellI_ints (d := (ρ 3).d) h0 (by omega)
    have hcB := cellI_ints (d := (ρ 8).d) h0 (by omega)
    rw [h5, hcB] at hcA
    simp only [Option.some.injEq] at hcA
    exact h4 hcA.symm
  · have hcA := cellI_ints (d := (ρ 3).d) h0 (by omega)
    have hcB := cellI_ints (d := (ρ 8).d) h0 (by omega)
    rw [h4] at hcA
    rw [wrapAdd h0 h3 hb, toNat_succ h0]
    exact ⟨⟨by omega, by omega, h, sameIN_succ h2 hcA hcB⟩, by omega⟩
  · exact sameIN_all h2 (by rw [ints_len]; omega) (by rw [ints_len]; omega)
theorem liveN_zero (l : List Ent) : liveN l 0 = [] := by simp [liveN]
theorem liveN_yes {l : List Ent} {n : Nat} {x : Ent} (h : l[n]? = some x) (hx : liveS x.2 = true) : liveN l (n + 1) = liveN l n ++ [(n : Int)] := by
  simp [liveN, List.range_succ, List.filter_append, List.filter_cons, List.getD, h, hx]
theorem liveN_no {l : List Ent} {n : Nat} {x : Ent} (h : l[n]? = some x) (hx : liveS x.2 = false) : liveN l (n + 1) = liveN l n := by
  simp [liveN, List.range_succ, List.filter_append, List.filter_cons, List.getD, h, hx]
theorem ints_snoc (d : List (List Value)) (z : Int) : intsOf (d ++ [[.int .i64 z]]) = intsOf d ++ [z] := by simp [intsOf, rowI, vInt]
theorem live37_ok : live37C.ok Try.prog := live37_of (by simp [live72_ok]) fun ρ hg hp => by
  obtain ⟨hl, hb⟩ := hp
  simp [o_live37, live37C, live37I, live72C, valid61C, arithOf, liveN_zero]
  refine ⟨by omega, ⟨by omega, by simp [intsOf]⟩, fun ui _ ux _ uy _ h0 h1 h2 h3 h4 => ⟨fun h5 => ⟨h0, by omega, fun ub _ h6 => ⟨fun h7 => ?_, fun h7 => ?_⟩⟩, fun h5 => ⟨?_, h2, by omega⟩⟩⟩
  · have hc := cellI_tab (d := (ρ 3).d) h0 (by omega)
    have hbig : 8 * (uy.i + 1) ≤ 140737488355328 := by unfold big at hb; omega
    rw [wrapAdd h0 h5 hb, toNat_succ h0]
    refine ⟨h2, hbig, ⟨by omega, by omega, h2, by omega, ?_⟩, by omega⟩
    rw [liveN_yes hc (by rw [← h6, h7]), ints_snoc, h4, Int.toNat_of_nonneg h0]
  · have hc := cellI_tab (d := (ρ 3).d) h0 (by omega)
    rw [wrapAdd h0 h5 hb, toNat_succ h0]
    refine ⟨⟨by omega, by omega, h2, by omega, ?_⟩, by omega⟩
    rw [liveN_no hc (by rw [← h6, h7]), h4]
  · rw [h4, liveT, tab_len, show ui.i.toNat = (ρ 3).d.length by omega]
theorem refLive38_ok : refLive38C.ok Try.prog := refLive38_of (by simp) fun ρ hg hp => by
  obtain ⟨hl, hb⟩ := hp
  simp [o_refLive38, refLive38C, refLive38I, live37C, live37I, arithOf, liveN_zero]
  refine ⟨⟨by omega, by simp [intsOf]⟩, fun ui _ ux _ uy _ h0 h1 h2 h3 h4 => ⟨by omega, fun h5 => ⟨h0, by omega, fun h6 => ?_, fun h6 => ⟨fun h7 => ?_, fun h7 => ?_⟩⟩, fun h5 => ⟨?_, h2, by omega⟩⟩⟩
  · have hc := cellI_tab (d := (ρ 3).d) h0 (by omega)
    have hbig : 8 * (uy.i + 1) ≤ 140737488355328 := by unfold big at hb; omega
    rw [wrapAdd h0 h5 hb, toNat_succ h0]
    refine ⟨h2, hbig, ⟨by omega, by omega, h2, by omega, ?_⟩, by omega⟩
    rw [liveN_yes hc (by simp [h6, liveS]), ints_snoc, h4, Int.toNat_of_nonneg h0]
  · have hc := cellI_tab (d := (ρ 3).d) h0 (by omega)
    have hbig : 8 * (uy.i + 1) ≤ 140737488355328 := by unfold big at hb; omega
    rw [wrapAdd h0 h5 hb, toNat_succ h0]
    refine ⟨h2, hbig, ⟨by omega, by omega, h2, by omega, ?_⟩, by omega⟩
    rw [liveN_yes hc (by simp [h7, liveS]), ints_snoc, h4, Int.toNat_of_nonneg h0]
  · have hc := cellI_tab (d := (ρ 3).d) h0 (by omega)
    rw [wrapAdd h0 h5 hb, toNat_succ h0]
    refine ⟨⟨by omega, by omega, h2, by omega, ?_⟩, by omega⟩
    rw [liveN_no hc (by simp [h6, h7, liveS]), h4]
  · rw [h4, liveT, tab_len, show ui.i.toNat = (ρ 3).d.length by omega]
theorem lawTables_ok : lawTablesC.ok Try.prog := lawTables_of (by simp [known_ok, own21_ok, merge32_ok, refMerge33_ok, same34_ok, valid20_ok, refValid35_ok, live37_ok, refLive38_ok, sameInts36_ok]) fun ρ hg hp => by
  obtain ⟨hl, hm, hb, hc⟩ := hp
  have hbig : (40 : Int) ≤ big := by decide
  have h0 : (0 : Int) ≤ big := by decide
  simp [o_lawTables, lawTablesC, lawWaitsC, knownC, own21C, refMerge33C, merge32C, same34C, refValid35C, valid20C, contains59C, index84C, refLive38C, live37C, sameInts36C, arithOf]
  repeat' (first | refine ⟨?_, ?_⟩ | intro _)
  all_goals (first | omega | assumption | (simp_all; done) | (simp_all; omega))
end Go.Proofs
