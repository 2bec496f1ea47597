/- Encode: no two pieces share memory. -/
import Derived.Test.YtkiheclcmgbmnaaVO
import Derived.Test.YtkiheclcmgbmnaaGC
import Derived.Test.YtkiheclcmgbmnaaGH
set_option linter.unusedSimpArgs false
set_option linter.unusedVariables false
namespace Go.Proofs
open Go Go.Eng
set_option maxRecDepth 100000
theorem o_encode31T_eq : treeOf ⟨Try.prog, encode31T, [sizes74C, piece26C, genGC, row75C, addToC], [encode31TI, encode31TJ]⟩ 100000 Try.f31 = o_encode31 := by kernel_rfl
theorem encode31T_of (hd : ∀ c ∈ ([sizes74C, piece26C, genGC, row75C, addToC] : List Ctr), c.ok Try.prog) (h : ∀ ρ : Env, ρ.good → (encode31T).pre ρ → o_encode31.den ⟨Try.prog, encode31T, [sizes74C, piece26C, genGC, row75C, addToC], [encode31TI, encode31TJ]⟩ ρ) : (encode31T).ok Try.prog :=
  ok_of_tree Try.func31 (fun a w => Try.call31 a w) hd 100000 (fun ρ hg hp => by rw [o_encode31T_eq]; exact h ρ hg hp)
theorem tab_none {h : Hp} {vs : Nat → Value} {M : Nat → List Int} : tabV h vs 0 M := ⟨fun j hj => by omega, fun i j hi => by omega⟩
theorem pvs_put {D : Rows'} {i : Int} {a v : Value} (hr : ∀ row ∈ D, row.length = 2) (i0 : 0 ≤ i) (i1 : i < D.length) (j : Nat) : pvs (putD D i 0 [a, v]) j = if j = i.toNat then v else pvs D j := by
  unfold pvs cellV putD
  rw [Int.toNat_natCast, List.getElem?_set]
  by_cases h : j = i.toNat
  · rw [if_pos h.symm, if_pos h, if_pos (by omega)]
    rfl
  · rw [if_neg (fun e => h e.symm), if_neg h]
theorem encode31T_ok : encode31T.ok Try.prog := encode31T_of (by simp [sizes74_ok, piece26_ok, genG_ok, row75_ok, addTo_ok]) fun ρ hg hp => by
  obtain ⟨hf, hl, hB, hrk⟩ := hp
  have hne := (fieldD_ne hf).1
  simp (config := { maxSteps := 4000000 }) [o_encode31, encode31T, encode31TI, encode31TJ, encode31C, encode31I, encode31J, sizes74C, piece26C, genGC, gen35C, row75C, addToC]
  refine ⟨fun h => (hne h).elim, fun _ v _ hv => ⟨fun hb => ⟨hf, by rw [← hv]; exact hb⟩, fun hb => ?_⟩⟩
  have hsz : sizesB (ρ 2).i (ρ 3).i = true := by rw [← hv]; exact hb
  obtain ⟨k1, k2, k3⟩ := sizesB_iff.1 hsz
  refine ⟨by omega, fun h => ⟨hf, hsz, h⟩, fun hle l _ e _ _ hpl => ?_⟩
  have hnb : ¬ pieceBad (ρ 2).i (ρ 5).i := by unfold pieceBad; omega
  obtain ⟨hpl1, _⟩ := hpl hnb
  rw [hl, pieceLen_tdiv k1] at hpl1
  have hge := pieceLen_ge (k := (ρ 2).i.toNat) (n := (ρ 7).d.length) (by omega)
  have hlt := pieceLen_lt (k := (ρ 2).i.toNat) (n := (ρ 7).d.length) (by omega)
  have hkl : (ρ 2).i * l.i = (((ρ 2).i.toNat * pieceLen (ρ 2).i.toNat (ρ 7).d.length : Nat) : Int) := by rw [hpl1, Int.natCast_mul, Int.toNat_of_nonneg (by omega)]
  rw [mul64 (by omega) (by omega)]
  have hmax : max ((ρ 2).i * l.i) 0 = (ρ 2).i * l.i := by omega
  refine ⟨by omega, by omega, fun u3 _ => ⟨by omega, by omega, fun u4 _ => ⟨⟨hf, hsz, hrk hsz⟩, fun u5 _ lg _ cg _ f1 _ dg _ ab _ hf1 _ hM _ hG u11 _ => ⟨by omega, by omega, fun u12 _ => ⟨⟨⟨?_, fun j hj => by omega⟩, tab_none⟩, ?_⟩⟩⟩⟩⟩
  · have htake : (((ρ 7).d.take (ρ 5).i.toNat).take (if (ρ 5).i < (ρ 2).i * l.i then (ρ 5).i else (ρ 2).i * l.i).toNat) = (ρ 7).d := by
      rw [List.take_of_length_le (l := (ρ 7).d) (by omega), List.take_of_length_le (by split <;> omega)]
    rw [htake, hpl1]
    exact encW_init hf1 hsz hle hl hB hM hG rfl
  intro l2 _ u14 _ lf _ cf _ u17 _ u18 _ u19 _ i _ f2 _ u22 _ lg2 _ cg2 _ dg2 _ df2 _ D2 _ ab2 _ hW hE hT
  refine ⟨fun hi => ?_, fun hi u29 _ hst => ?_⟩
  · have hW' := hW
    obtain ⟨a1, a2, a3, a4, a5, a6, a7, a8, a9, a10, a11, a12, a13, a14, a17, a15, a16⟩ := hW'
    refine ⟨by omega, by omega, fun u29 _ => ⟨⟨a15, hi, a12.1⟩, fun o _ n _ c _ ho hn hc => ⟨by omega, ⟨⟨hW, hE, hi, ho, hn, by omega, allB_rep, ?_⟩, hT⟩, ?_⟩⟩⟩
    · rw [bI_rep]; rfl
    intro l3 _ u34 _ lf3 _ cf3 _ u37 _ u38 _ u39 _ i3 _ f3 _ u42 _ lg3 _ cg3 _ dg3 _ df3 _ D3 _ ab3 _ rp _ cp _ pd _ o3 _ n3 _ c3 _ j _ hW3 hE3 hii hi3 ho3 hn3 j0 j1 hpl hpB hp3 hT3
    have hW3' := hW3
    obtain ⟨b1, b2, b3, b4, b5, b6, b7, b8, b9, b10, b11, b12, b13, b14, b17, b15, b16⟩ := hW3'
    obtain ⟨⟨m1, m2, m3, m4, m5, m6, m7, m8⟩, m9⟩ := b12
    have hl0 : 0 ≤ l3.i := by omega
    refine ⟨fun hj => ?_, fun hj => ?_⟩
    · have hjk : j.i < (ρ 2).i := by omega
      have hbo := mul_bound (x := i3.i) (y := (ρ 2).i) b15 (show i3.i ≤ 255 by omega) (by omega) (show (ρ 2).i ≤ 255 by omega)
      have hbj := mul_bound (x := j.i) (y := l3.i) j0 (show j.i ≤ 255 by omega) hl0 b7
      have hltG : i3.i * (ρ 2).i + j.i < (ρ 3).i * (ρ 2).i := by
        have := Int.mul_le_mul_of_nonneg_right (show i3.i + 1 ≤ (ρ 3).i by omega) (show 0 ≤ (ρ 2).i by omega)
        rw [Int.add_mul, Int.one_mul] at this; omega
      have he : (j.i + 1) * l3.i = j.i * l3.i + l3.i := by rw [Int.add_mul, Int.one_mul]
      have hltF : j.i * l3.i + l3.i ≤ (ρ 2).i * l3.i := by
        have := Int.mul_le_mul_of_nonneg_right (show j.i + 1 ≤ (ρ 2).i by omega) hl0
        omega
      have hcell := allB_get m8 (i := o3.i + j.i) (by omega) (by omega)
      rw [add64 (by omega) (by omega), mul64 (by omega) (by omega), mul64 (by omega) (by omega), he]
      refine ⟨j0, by omega, by omega, by omega, fun hcap => ⟨by omega, by omega, hbj.1, by omega, by omega, ⟨b1, ⟨by omega, hl0, by omega, by unfold Go.Eng.big; omega⟩, ⟨by split <;> omega, by omega, by split <;> omega, by unfold Go.Eng.big; omega⟩, by omega, hpB, b10, hcell⟩, fun f4 _ d4 _ hf4 hl4 hB4 he4 => ?_⟩⟩
      refine ⟨⟨⟨encW_f hW3 hf4, hE3, hii, hi3, ho3, hn3, by omega, by omega, by omega, hB4, ?_⟩, hT3⟩, by omega⟩
      have hsg : seg (bI df3.d) (if cf3.i = j.i * l3.i then 0 else j.i * l3.i).toNat (j.i * l3.i + l3.i - j.i * l3.i).toNat = seg (bI df3.d) (j.i.toNat * l3.i.toNat) l3.i.toNat := by
        rw [show j.i * l3.i + l3.i - j.i * l3.i = l3.i by omega]
        split
        · have : l3.i.toNat = 0 := by omega
          rw [this]; simp [seg]
        · rw [Int.toNat_mul j0 hl0]
      have hgd : (bI dg3.d).getD (i3.i.toNat * (ρ 2).i.toNat + j.i.toNat) 0 = cellI dg3.d (o3.i + j.i) 0 := by
        have := bI_get (d := dg3.d) (i := o3.i + j.i) (by omega) (by omega)
        rw [show (o3.i + j.i).toNat = i3.i.toNat * (ρ 2).i.toNat + j.i.toNat by rw [ho3, Int.toNat_add hbo.1 j0, Int.toNat_mul b15 (by omega)]] at this
        rw [List.getD_eq_getElem?_getD, this]; rfl
      rw [he4, hp3, hsg, show (j.i + 1).toNat = j.i.toNat + 1 by omega, pieceN, hgd]
    · have hjk : j.i = (ρ 2).i := by omega
      refine ⟨b15, hi3, by omega, fun u56 _ hst => ?_⟩
      rw [add64 (by omega) (by omega)]
      refine ⟨⟨⟨encW_next hW3 hi3, ?_⟩, ?_⟩, by omega⟩
      all_goals
        obtain ⟨ha, hb, hdis, la, lb, da, db⟩ := star_two (l1 := []) hst (y := SH.abs 57 2) (by simp)
        have hr0 := arr_Rd (n := l3.i.toNat) (k := cp.i.toNat) da (Hp.le_refl _) (by simp; omega) (by simp)
        have hr0 : Rd ha kB (.slice (addrOf rp.r 0) l3.i.toNat cp.i.toNat) pd.d := by simpa [kB] using hr0
        have hr := Rd_mono hr0 la
        have hab : Hp.le ab3.h hb ∧ Hp.free ab3.h := by simpa [SH.den] using db
        have hdl : i3.i.toNat < D3.d.length := by omega
        have hpe : bI pd.d = encP (ρ 2).i.toNat (ρ 3).i.toNat (bI (ρ 7).d) i3.i.toNat := by
          rw [hp3, encP, hjk, b13, b11, bI_len]
          rw [show l3.i.toNat = pieceLen (ρ 2).i.toNat (ρ 7).d.length by omega]
        rw [show (i3.i + 1).toNat = i3.i.toNat + 1 by omega]
      · exact encAt_next hE3 (Hp.le_trans hab.1 lb) b15 hdl (by rw [List.getElem?_eq_getElem hdl]; exact b17 _ (List.getElem_mem hdl)) hr hpe hpB
      · exact tab_new hT3 (Hp.le_trans hab.1 lb) hr0 la (disj_le hdis hab.1) hpB (fun j hj => by rw [pvs_put b17 b15 (by omega), if_neg (by omega)]) (by rw [pvs_put b17 b15 (by omega), if_pos rfl]) (fun _ _ => rfl) hpe.symm
  · obtain ⟨a1, a2, a3, a4, a5, a6, a7, a8, a9, a10, a11, a12, a13, a14, a17, a15, a16⟩ := hW
    obtain ⟨hb, lb, db⟩ := star_mem_abs hst (n := 37) (t := 2) (by simp)
    rw [show i.i.toNat = (ρ 3).i.toNat by omega] at hE hT
    have hle2 := Hp.le_trans (by simpa using db) lb
    exact ⟨a1, hsz, hle, a14, encAt_mono hE hle2, tab_mono hT hle2⟩
theorem encTG_ok : encTG.ok Try.prog := Ctr.ok_less encode31T_ok rfl rfl rfl rfl rfl (fun ρ h => ⟨h.1.1, h.1.2.1, h.1.2.2, fun hs => by
    obtain ⟨k1, k2, k3⟩ := sizesB_iff.1 hs
    exact top_rank (by omega) (by omega)⟩) fun ρ ρ' ai al hp hag hal hpost => by
  match ai, hal with
  | 0, hal =>
    exfalso
    obtain rfl := Option.some.inj hal
    obtain ⟨_, h2⟩ : _ ∧ ((sizesB ((ρ'.upto 11) 2).i ((ρ'.upto 11) 3).i = false ∧ ((ρ'.upto 11) 9).i = 2) ∨ (sizesB ((ρ'.upto 11) 2).i ((ρ'.upto 11) 3).i = true ∧ 8192 < ((ρ'.upto 11) 5).i ∧ ((ρ'.upto 11) 9).i = 3)) := hpost
    have e := upto_at (m := 11) (nv := 9) hag (by omega)
    rw [e 2 (by omega), e 3 (by omega), e 5 (by omega)] at h2
    obtain ⟨_, hs, hle⟩ := hp
    rcases h2 with ⟨h, _⟩ | ⟨_, h, _⟩
    · rw [hs] at h; cases h
    · omega
  | 1, hal => exact ⟨0, hal⟩
  | n + 2, hal => cases hal
end Go.Proofs
