/- Interpolation passes through its points: proof. -/
import Derived.Test.YtkiheclcmgbmnaaVJ
import Derived.Test.YtkiheclcmgbmnaaVG
set_option linter.unusedSimpArgs false
set_option linter.unusedVariables false
namespace Go.Proofs
open Go Go.Eng
set_option maxRecDepth 100000
theorem interpG_ok : interpGC.ok Try.prog := Ctr.ok_less interp65_ok rfl rfl rfl rfl rfl (fun _ h => h.1) fun ρ ρ' ai al hp hag hal hpost => by
  match ai, hal with
  | 0, hal =>
    exfalso
    obtain rfl := Option.some.inj hal
    obtain ⟨_, h2⟩ : _ ∧ badP ((ρ'.upto 9) 5).d ((ρ'.upto 9) 7).i := hpost
    have e := upto_at (m := 9) (nv := 7) hag (by omega)
    rw [e 5 (by omega)] at h2
    exact bad_good h2 hp.2
  | 1, hal => exact ⟨0, hal⟩
  | n + 2, hal => cases hal
theorem addB {s i : Int} (h0 : 0 ≤ s) (h1 : s < 256) (i0 : 0 ≤ i) (i1 : i ≤ 255) : arithOf .add .u8 s (IntKind.u8.wrap i) = (s + i) % 256 := by
  simp [arithOf, IntKind.wrap, IntKind.bits, IntKind.signed]
theorem cellI_app {d r : Rows'} {j : Int} {c : Nat} (h0 : 0 ≤ j) (h1 : j < d.length) : cellI (d ++ r) j c = cellI d j c := by
  unfold cellI cellV
  rw [List.getElem?_append_left (by omega)]
theorem cellI_end {d : Rows'} {row : List Value} {j : Int} {c : Nat} (hj : j = d.length) : cellI (d ++ [row]) j c = vInt (row[c]?.getD .nilFunc) := by
  subst hj
  unfold cellI cellV
  rw [Int.toNat_natCast, List.getElem?_append_right (Nat.le_refl _), Nat.sub_self]; rfl
theorem pts_next {s x y : Int} {l : List Int} {d : Rows'} (h : ptsOk s l d) (hx : x = (s + d.length) % 256) (hy : y = hornerL x l) : ptsOk s l (d ++ [[.int .u8 x, .int .u8 y]]) := by
  refine ⟨fun row hr => ?_, fun j j0 j1 => ?_⟩
  · rcases List.mem_append.1 hr with hr | hr
    · exact h.1 row hr
    · rw [List.mem_singleton.1 hr]; rfl
  · by_cases hj : j < d.length
    · rw [cellI_app j0 hj, cellI_app j0 hj]; exact h.2 j j0 hj
    · have hje : j = d.length := by rw [List.length_append] at j1; simp at j1; omega
      rw [cellI_end hje, cellI_end hje]
      exact ⟨by rw [hje]; exact hx, hy⟩
theorem put_y {d : Rows'} {y : Int} (hr : ∀ row ∈ d, row.length = 2) {j : Int} (j0 : 0 ≤ j) (j1 : j < d.length) : cellI (putD d 0 1 [.int .u8 y]) j 0 = cellI d j 0 ∧ cellI (putD d 0 1 [.int .u8 y]) j 1 = if j = 0 then y else cellI d j 1 := by
  unfold cellI cellV putD
  rw [List.getElem?_set]
  by_cases hj : j = 0
  · subst hj
    have h0 : 0 < d.length := by omega
    rw [if_pos rfl, if_pos (by simpa using h0), if_pos rfl, show (0 : Int).toNat = 0 from rfl, List.getElem?_eq_getElem h0, Option.getD_some, Option.getD_some]
    have hl := hr d[0] (List.getElem_mem h0)
    match hd : d[0], hl with
    | [a, b], _ => exact ⟨rfl, rfl⟩
  · rw [if_neg (by omega), if_neg hj]
    exact ⟨rfl, rfl⟩
theorem pts_all {s : Int} {l : List Int} {d : Rows'} (h : ptsOk s l d) (hl : bytesL l) : allP d := fun j j0 j1 => by
  obtain ⟨h1, h2⟩ := h.2 j j0 j1
  have hb : byteP (cellI d j 0) := by rw [h1]; unfold byteP; omega
  exact ⟨hb, by rw [h2]; exact horner_isB hb hl⟩
theorem pts_good {s : Int} {l : List Int} {d : Rows'} (h : ptsOk s l d) (hs : byteP s) (hl : bytesL l) (h0 : 0 < d.length) (h1 : d.length ≤ 255) : goodP d := by
  refine ⟨h0, by omega, fun i j hi hj he => ?_⟩
  have hA := pts_all h hl
  have he' : cellI d (i : Int) 0 = cellI d (j : Int) 0 := toF_inj (hA _ (by omega) (by omega)).1 (hA _ (by omega) (by omega)).1 he
  rw [(h.2 _ (by omega) (by omega)).1, (h.2 _ (by omega) (by omega)).1] at he'
  obtain ⟨s0, s1⟩ := hs
  omega
theorem pts_thru {s : Int} {l : List Int} {d : Rows'} (h : ptsOk s l d) (hl : bytesL l) (hn : l.length = d.length) : thruP d l := ⟨hn, fun i hi => by
  obtain ⟨h1, h2⟩ := h.2 (i : Int) (by omega) (by omega)
  have hA := pts_all h hl (i : Int) (by omega) (by omega)
  unfold ptX ptY
  rw [h2, horner_pol (n := d.length) hA.1 hl (by omega)]⟩
theorem put_good {d : Rows'} {y : Int} (hr : ∀ row ∈ d, row.length = 2) (h : goodP d) : goodP (putD d 0 1 [.int .u8 y]) := by
  refine ⟨by rw [putD_len]; exact h.1, by rw [putD_len]; exact h.2.1, ?_⟩
  rw [putD_len]
  intro i j hi hj he
  unfold ptX at he
  rw [(put_y hr (by omega) (by omega)).1, (put_y hr (by omega) (by omega)).1] at he
  exact h.2.2 i j hi hj he
theorem put_all {d : Rows'} {y : Int} (hr : ∀ row ∈ d, row.length = 2) (h : allP d) (hy : byteP y) : allP (putD d 0 1 [.int .u8 y]) := fun j j0 j1 => by
  rw [putD_len] at j1
  obtain ⟨e1, e2⟩ := put_y (y := y) hr j0 j1
  rw [e1, e2]
  refine ⟨(h j j0 j1).1, ?_⟩
  split
  · exact hy
  · exact (h j j0 j1).2
theorem lawPasses_ok : lawPassesC.ok Try.prog := lawPasses_of (by simp [newField_ok, eval60_ok, interpG_ok, known_ok]) fun ρ hg hp => by
  obtain ⟨a0, a1, a2, a3, a4⟩ := hp
  simp (config := { maxSteps := 4000000 }) [o_lawPasses, lawPassesC, lawPassesI, lawPassesJ, lawIs, lawRet, newFieldC, interpGC, interp65C, eval60C, knownC]
  have hl : bytesL (bI (ρ 3).d) := allB_list a3
  refine ⟨a0, fun hn0 hn u _ hu => ⟨⟨.inl hu, by omega, hn, a0, fun row hr => by simp at hr, fun j j0 j1 => by simp at j1; omega⟩, fun n _ d _ i _ f _ f0 _ _ i0 i1 n0 n1 hP => ⟨fun hi => ?_, fun hi => ?_⟩⟩⟩
  · rw [addB a4.1 a4.2 i0 (by omega)]
    have hxb : byteP (((ρ 5).i + i.i) % 256) := by unfold byteP; omega
    refine ⟨⟨f0, a0, by unfold Go.Eng.big; omega, a2, a3, hxb⟩, fun y _ f' _ hf' hy => ⟨n1, by omega, ⟨hf', by omega, hn, ?_⟩, ?_⟩⟩
    · rw [add64 (by omega) (by omega)]
      exact ⟨by omega, by omega, by omega, n1, pts_next hP (by rw [show ((d.d.length : Nat) : Int) = i.i by omega]) hy⟩
    · rw [add64 (by omega) (by omega)]; omega
  · have hA := pts_all hP hl
    have hG := pts_good hP a4 hl (by omega) (by omega)
    have hT := pts_thru hP hl (by rw [bI_len]; omega)
    refine ⟨⟨⟨f0, n1, hA, by unfold Go.Eng.big; omega⟩, hG⟩, fun f1 _ c _ hf1 _ hB hC => ?_⟩
    have hcl : c.d.length = d.d.length := by have := hC.1; rwa [bI_len] at this
    refine ⟨by omega, by omega, by omega, ?_, fun _ => ?_⟩
    · rw [List.take_of_length_le (by omega), List.take_of_length_le (by omega), str_eq, str_eq, bytesOf_inj hB a3]
      exact thru_unique hG hC hT (allB_list hB) hl
    · have hA' := put_all (y := arithOf .xor .u8 (cellI d.d 0 1) 1) hP.1 hA xor_byte
      have hG' := put_good (y := arithOf .xor .u8 (cellI d.d 0 1) 1) hP.1 hG
      refine ⟨by omega, by omega, ⟨⟨hf1, by rw [putD_len]; exact n1, hA', by unfold Go.Eng.big; omega⟩, hG'⟩, fun f2 _ c2 _ hf2 _ hB2 hC2 => ?_⟩
      have hcl2 : c2.d.length = d.d.length := by have := hC2.1; rwa [bI_len, putD_len] at this
      refine ⟨⟨hf2, by omega, by rw [putD_len]; exact n1, by omega, by omega, hB2, hA', hC2⟩, fun m _ p _ k _ f3 _ l _ q _ hf3 k0 k1 m0 m1 l0 hBq hAp hTq => ⟨by omega, fun hk => ⟨k0, by omega, ⟨hf3, by omega, ?_, l0, hBq, (hAp _ k0 (by omega)).1⟩, fun v _ f4 _ hf4 hv => ?_⟩⟩⟩
      · have := hTq.1
        rw [bI_len] at this
        unfold Go.Eng.big; omega
      · have hb := hAp _ k0 (by omega : k.i < p.d.length)
        refine ⟨?_, fun _ => ⟨⟨hf4, ?_⟩, ?_⟩⟩
        · rw [hv]
          refine toF_inj (horner_isB hb.1 (allB_list hBq)) hb.2 ?_
          have h5 := hTq.1
          rw [horner_pol (n := p.d.length) hb.1 (allB_list hBq) (by omega), ← ptX_cell k0, ← ptY_cell k0]
          exact hTq.2 k.i.toNat (by omega)
        · rw [add64 (by omega) (by omega)]
          exact ⟨by omega, by omega, m0, m1, l0, hBq, hAp, hTq⟩
        · rw [add64 (by omega) (by omega)]; omega
end Go.Proofs
