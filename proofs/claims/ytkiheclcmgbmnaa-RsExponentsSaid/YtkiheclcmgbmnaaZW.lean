/- Encode: proofs. -/
import Derived.Test.YtkiheclcmgbmnaaZV
import Derived.Test.YtkiheclcmgbmnaaZS
import Derived.Test.YtkiheclcmgbmnaaE16
set_option linter.unusedSimpArgs false
set_option linter.unusedVariables false
namespace Go.Proofs
open Go Go.Eng

theorem add34_ok : add34C.ok Try.prog := add34_of (by simp) fun ρ hg hp => by
  simp [o_add34, add34C]
theorem mulF_zero' {a : Int} : mulF a 0 = 0 := by simp [mulF]
theorem div52_ok : div52C.ok Try.prog := div52_of (by simp [inv51_ok, mul_ok]) fun ρ hg hp => by
  obtain ⟨hf, a0, a1, b0, b1⟩ := hp
  have hne := (fieldD_ne hf).1
  have hir := invF_range b0 b1
  simp [o_div52, div52C, inv51C, mulC]
  refine ⟨⟨hf, b0, b1⟩, fun u _ v _ w _ hf2 hu hv => ⟨fun h => ⟨hf2, ?_, hv⟩, fun h => ⟨⟨hf2, a0, a1, by omega, by omega⟩, fun x _ y _ hf3 hx => ⟨hf3, by rw [hx, hu], fun h0 => ?_⟩⟩⟩⟩
  · by_cases h0 : (ρ 3).i = 0
    · rw [h0, show invF 0 = 0 by rfl, mulF_zero']
    · rw [if_neg h0] at hv; exact (h hv).elim
  · rw [if_pos h0] at hv; omega
theorem genG_ok : genGC.ok Try.prog := Ctr.ok_less gen35_ok rfl rfl rfl rfl rfl (fun _ h => h.1) fun ρ ρ' ai al hp hag hal hpost => by
  match ai, hal with
  | 0, hal =>
    exfalso
    obtain rfl := Option.some.inj hal
    obtain ⟨_, h2⟩ : _ ∧ (sizesB ((ρ'.upto 5) 2).i ((ρ'.upto 5) 3).i = true → (topE ((ρ'.upto 5) 2).i.toNat ((ρ'.upto 5) 3).i.toNat).2.2 < ((ρ'.upto 5) 2).i.toNat) := hpost
    have e2 : (ρ'.upto 5) 2 = ρ 2 := by rw [Env.upto, if_pos (by omega)]; exact hag 2 (by decide)
    have e3 : (ρ'.upto 5) 3 = ρ 3 := by rw [Env.upto, if_pos (by omega)]; exact hag 3 (by decide)
    rw [e2, e3] at h2
    obtain ⟨_, p2, p3⟩ := hp
    have := h2 p2
    omega
  | 1, hal => exact ⟨0, hal⟩
  | n + 2, hal => cases hal
/-! ### Pieces' lengths -/
theorem pieceLen_ge {k n : Nat} (hk : 0 < k) : n ≤ k * pieceLen k n := by
  unfold pieceLen
  have h1 := Nat.div_add_mod (n + k - 1) k
  have h2 := Nat.mod_lt (n + k - 1) hk
  omega
theorem pieceLen_lt {k n : Nat} (hk : 0 < k) : k * pieceLen k n < n + k := by
  unfold pieceLen
  have h1 := Nat.div_add_mod (n + k - 1) k
  omega
theorem pieceLen_le {k n : Nat} (hk : 0 < k) : pieceLen k n ≤ n := by
  have h := pieceLen_lt (n := n) hk
  by_cases h2 : pieceLen k n ≤ n
  · exact h2
  · have h3 : k * (n + 1) ≤ k * pieceLen k n := Nat.mul_le_mul_left k (by omega)
    rw [Nat.mul_add, Nat.mul_one] at h3
    have h4 : n * 1 ≤ k * n := by rw [Nat.mul_comm k n]; exact Nat.mul_le_mul_left n hk
    omega
theorem pieceLen_tdiv {k : Int} {n : Nat} (hk : 1 ≤ k) : ((n : Int) + k - 1).tdiv k = (pieceLen k.toNat n : Nat) := by
  rw [Int.tdiv_eq_ediv_of_nonneg (by omega), pieceLen, Int.natCast_ediv]
  congr 1 <;> omega
/-! ### Rows spliced -/
theorem bI_splice {d x : Rows'} (h : x.length ≤ d.length) : bI (spliceD d 0 x) = bI x ++ (bI d).drop x.length := by
  simp [spliceD, bI, List.map_drop]
theorem allB_splice {d x : Rows'} (hd : allB d) (hx : allB x) : allB (spliceD d 0 x) := fun r hr => by
  unfold spliceD at hr
  rcases List.mem_append.1 hr with hr | hr
  · rcases List.mem_append.1 hr with hr | hr
    · simp at hr
    · exact hx r hr
  · exact hd r (List.mem_of_mem_drop hr)
theorem encW_init {k total len lg cg : Int} {f dg data D : Rows'} (hf : fieldD f) (hs : sizesB k total = true) (h1 : len ≤ 8192) (h2 : len = data.length) (hB : allB data) (hM : fullM total k lg cg dg) (hG : bI dg = genL k.toNat total.toNat) (hD : D = List.replicate total.toNat [.int .i64 0, .slice none 0 0]) :
    encW k total len (pieceLen k.toNat data.length : Nat) (k * (pieceLen k.toNat data.length : Nat)) (k * (pieceLen k.toNat data.length : Nat)) lg cg 0 f dg (spliceD (List.replicate (k * (pieceLen k.toNat data.length : Nat)).toNat [.int .u8 0]) 0 data) D data := by
  obtain ⟨k1, k2, k3⟩ := sizesB_iff.1 hs
  have hge := pieceLen_ge (k := k.toNat) (n := data.length) (by omega)
  have hle := pieceLen_le (k := k.toNat) (n := data.length) (by omega)
  have hc : (k * (pieceLen k.toNat data.length : Nat)).toNat = k.toNat * pieceLen k.toNat data.length := by rw [Int.toNat_mul (by omega) (by omega)]; simp
  have hc0 : 0 ≤ k * (pieceLen k.toNat data.length : Nat) := Int.mul_nonneg (by omega) (by omega)
  refine ⟨hf, hs, h1, h2, hB, rfl, by omega, rfl, ?_, allB_splice allB_rep hB, ?_, hM, hG, by rw [hD, List.length_replicate], fun row hr => by rw [hD] at hr; rw [List.eq_of_mem_replicate hr]; rfl, by omega, by omega⟩
  · rw [spliceD_len (by rw [List.length_replicate]; omega), List.length_replicate]; omega
  · rw [bI_splice (by rw [List.length_replicate]; omega), bI_rep, hc, fullL, bI_len, List.drop_replicate]; simp
theorem encW_next {k total len l lf cf lg cg i : Int} {f dg df D data : Rows'} {v w : Value} (h : encW k total len l lf cf lg cg i f dg df D data) (hi : i < total) : encW k total len l lf cf lg cg (i + 1) f dg df (putD D i 0 [v, w]) data := by
  obtain ⟨a1, a2, a3, a4, a5, a6, a7, a8, a9, a10, a11, a12, a13, a14, a17, a15, a16⟩ := h
  refine ⟨a1, a2, a3, a4, a5, a6, a7, a8, a9, a10, a11, a12, a13, by rw [putD_len]; exact a14, fun row hr => ?_, by omega, by omega⟩
  unfold putD at hr
  rcases List.mem_or_eq_of_mem_set hr with hr | rfl
  · exact a17 row hr
  · have hl : i.toNat < D.length := by omega
    have := a17 _ (List.getElem_mem hl)
    rw [List.getElem?_eq_getElem hl, Option.getD_some, splice_length (by rw [this]; simp), this]
theorem encW_f {k total len l lf cf lg cg i : Int} {f f' dg df D data : Rows'} (h : encW k total len l lf cf lg cg i f dg df D data) (hf : fieldD f') : encW k total len l lf cf lg cg i f' dg df D data := ⟨hf, h.2⟩
theorem encAt_mono {h h' : Hp} {D : Rows'} {n : Nat} {f : Nat → List Int} (he : encAt h D n f) (hl : Hp.le h h') : encAt h' D n f := fun j hj => by
  obtain ⟨v, d, e1, e2, e3⟩ := he j hj
  exact ⟨v, d, e1, Rd_mono e2 hl, e3⟩
theorem encAt_next {h h' : Hp} {D : Rows'} {i : Int} {f : Nat → List Int} {v : Value} {d : Rows'} (he : encAt h D i.toNat f) (hl : Hp.le h h') (h0 : 0 ≤ i) (hi : i.toNat < D.length) (hc : (D[i.toNat]?.getD []).length = 2) (hr : Rd h' kB v d) (hd : bI d = f i.toNat) (hB : allB d) :
    encAt h' (putD D i 0 [.int .i64 i, v]) (i.toNat + 1) f := fun j hj => by
  by_cases hji : j = i.toNat
  · subst hji
    refine ⟨v, d, ?_, hr, hd, hB⟩
    have hs : splice (D[i.toNat]?.getD []) 0 [.int .i64 i, v] = [.int .i64 i, v] := by
      simp only [splice, List.take_zero, List.nil_append]
      rw [List.drop_eq_nil_of_le (by rw [hc]; exact Nat.le_refl _), List.append_nil]
    rw [putD, List.getElem?_set_self hi, hs, Int.toNat_of_nonneg h0]
  · obtain ⟨v', d', e1, e2, e3⟩ := he j (by omega)
    exact ⟨v', d', by rw [putD, List.getElem?_set_ne (by omega)]; exact e1, Rd_mono e2 hl, e3⟩
set_option maxRecDepth 20000 in
set_option pp.deepTerms true in
set_option pp.maxSteps 1000000 in
theorem encode31_ok : encode31C.ok Try.prog := encode31_of (by simp [sizes74_ok, piece26_ok, genG_ok, row75_ok, addTo_ok]) fun ρ hg hp => by
  obtain ⟨hf, hl, hB, hrk⟩ := hp
  have hne := (fieldD_ne hf).1
  simp (config := { maxSteps := 4000000 }) [o_encode31, encode31C, encode31I, encode31J, sizes74C, piece26C, genGC, gen35C, row75C, addToC]
  refine ⟨fun h => (hne h).elim, fun _ v _ hv => ⟨fun hb => ⟨hf, by rw [← hv]; exact hb⟩, fun hb => ?_⟩⟩
  have hsz : sizesB (ρ 2).i (ρ 3).i = true := by rw [← hv]; exact hb
  obtain ⟨k1, k2, k3⟩ := sizesB_iff.1 hsz
  refine ⟨by omega, fun h => ⟨hf, hsz, h⟩, fun hle l _ e _ _ hpl => ?_⟩
  have hnb : ¬ pieceBad (ρ 2).i (ρ 5).i := by unfold pieceBad; omega
  obtain ⟨hpl1, _⟩ := hpl hnb
  rw [hl, pieceLen_tdiv k1] at hpl1
  have hge := pieceLen_ge (k := (ρ 2).i.toNat) (n := (ρ 7).d.length) (by omega)
  have hlt := pieceLen_lt (k := (ρ 2).i.toNat) (n := (ρ 7).d.length) (by omega)
  have hkl : (ρ 2).i * l.i = (((ρ 2).i.toNat * pieceLen (ρ 2).i.toNat (ρ 7).d.length : Nat) : Int) := by rw [hpl1, Int.natCast_mul, Int.toNat_of_nonneg (by omega)]
  rw [mul64 (by omega) (by omega)]
  have hmax : max ((ρ 2).i * l.i) 0 = (ρ 2).i * l.i := by omega
  refine ⟨by omega, by omega, fun u3 _ => ⟨by omega, by omega, fun u4 _ => ⟨⟨hf, hsz, hrk hsz⟩, fun u5 _ lg _ cg _ f1 _ dg _ ab _ hf1 _ hM _ hG u11 _ => ⟨by omega, by omega, fun u12 _ => ⟨⟨?_, fun j hj => by omega⟩, ?_⟩⟩⟩⟩⟩
  · have htake : (((ρ 7).d.take (ρ 5).i.toNat).take (if (ρ 5).i < (ρ 2).i * l.i then (ρ 5).i else (ρ 2).i * l.i).toNat) = (ρ 7).d := by
      rw [List.take_of_length_le (l := (ρ 7).d) (by omega), List.take_of_length_le (by split <;> omega)]
    rw [htake, hpl1]
    exact encW_init hf1 hsz hle hl hB hM hG rfl
  intro l2 _ u14 _ lf _ cf _ u17 _ u18 _ u19 _ i _ f2 _ u22 _ lg2 _ cg2 _ dg2 _ df2 _ D2 _ ab2 _ hW hE
  refine ⟨fun hi => ?_, fun hi u29 _ hst => ?_⟩
  · have hW' := hW
    obtain ⟨a1, a2, a3, a4, a5, a6, a7, a8, a9, a10, a11, a12, a13, a14, a17, a15, a16⟩ := hW'
    refine ⟨by omega, by omega, fun u29 _ => ⟨⟨a15, hi, a12.1⟩, fun o _ n _ c _ ho hn hc => ⟨by omega, ⟨hW, hE, hi, ho, hn, by omega, allB_rep, ?_⟩, ?_⟩⟩⟩
    · rw [bI_rep]; rfl
    intro l3 _ u34 _ lf3 _ cf3 _ u37 _ u38 _ u39 _ i3 _ f3 _ u42 _ lg3 _ cg3 _ dg3 _ df3 _ D3 _ ab3 _ rp _ cp _ pd _ o3 _ n3 _ c3 _ j _ hW3 hE3 hii hi3 ho3 hn3 j0 j1 hpl hpB hp3
    have hW3' := hW3
    obtain ⟨b1, b2, b3, b4, b5, b6, b7, b8, b9, b10, b11, b12, b13, b14, b17, b15, b16⟩ := hW3'
    obtain ⟨⟨m1, m2, m3, m4, m5, m6, m7, m8⟩, m9⟩ := b12
    have hl0 : 0 ≤ l3.i := by omega
    refine ⟨fun hj => ?_, fun hj => ?_⟩
    · have hjk : j.i < (ρ 2).i := by omega
      have hbo := mul_bound (x := i3.i) (y := (ρ 2).i) b15 (show i3.i ≤ 255 by omega) (by omega) (show (ρ 2).i ≤ 255 by omega)
      have hbj := mul_bound (x := j.i) (y := l3.i) j0 (show j.i ≤ 255 by omega) hl0 b7
      have hltG : i3.i * (ρ 2).i + j.i < (ρ 3).i * (ρ 2).i := by
        have := Int.mul_le_mul_of_nonneg_right (show i3.i + 1 ≤ (ρ 3).i by omega) (show 0 ≤ (ρ 2).i by omega)
        rw [Int.add_mul, Int.one_mul] at this; omega
      have he : (j.i + 1) * l3.i = j.i * l3.i + l3.i := by rw [Int.add_mul, Int.one_mul]
      have hltF : j.i * l3.i + l3.i ≤ (ρ 2).i * l3.i := by
        have := Int.mul_le_mul_of_nonneg_right (show j.i + 1 ≤ (ρ 2).i by omega) hl0
        omega
      have hcell := allB_get m8 (i := o3.i + j.i) (by omega) (by omega)
      rw [add64 (by omega) (by omega), mul64 (by omega) (by omega), mul64 (by omega) (by omega), he]
      refine ⟨j0, by omega, by omega, by omega, fun hcap => ⟨by omega, by omega, hbj.1, by omega, by omega, ⟨b1, ⟨by omega, hl0, by omega, by unfold Go.Eng.big; omega⟩, ⟨by split <;> omega, by omega, by split <;> omega, by unfold Go.Eng.big; omega⟩, by omega, hpB, b10, hcell⟩, fun f4 _ d4 _ hf4 hl4 hB4 he4 => ?_⟩⟩
      refine ⟨⟨encW_f hW3 hf4, hE3, hii, hi3, ho3, hn3, by omega, by omega, by omega, hB4, ?_⟩, by omega⟩
      have hsg : seg (bI df3.d) (if cf3.i = j.i * l3.i then 0 else j.i * l3.i).toNat (j.i * l3.i + l3.i - j.i * l3.i).toNat = seg (bI df3.d) (j.i.toNat * l3.i.toNat) l3.i.toNat := by
        rw [show j.i * l3.i + l3.i - j.i * l3.i = l3.i by omega]
        split
        · have : l3.i.toNat = 0 := by omega
          rw [this]; simp [seg]
        · rw [Int.toNat_mul j0 hl0]
      have hgd : (bI dg3.d).getD (i3.i.toNat * (ρ 2).i.toNat + j.i.toNat) 0 = cellI dg3.d (o3.i + j.i) 0 := by
        have := bI_get (d := dg3.d) (i := o3.i + j.i) (by omega) (by omega)
        rw [show (o3.i + j.i).toNat = i3.i.toNat * (ρ 2).i.toNat + j.i.toNat by rw [ho3, Int.toNat_add hbo.1 j0, Int.toNat_mul b15 (by omega)]] at this
        rw [List.getD_eq_getElem?_getD, this]; rfl
      rw [he4, hp3, hsg, show (j.i + 1).toNat = j.i.toNat + 1 by omega, pieceN, hgd]
    · have hjk : j.i = (ρ 2).i := by omega
      refine ⟨b15, hi3, by omega, fun u56 _ hst => ?_⟩
      rw [add64 (by omega) (by omega)]
      refine ⟨⟨encW_next hW3 hi3, ?_⟩, by omega⟩
      obtain ⟨ha, la, da⟩ := star_mem hst (List.mem_cons_self ..)
      obtain ⟨hb, lb, db⟩ := star_mem_abs hst (n := 57) (t := 2) (by simp)
      have hr := arr_Rd (n := l3.i.toNat) (k := cp.i.toNat) da la (by simp; omega) (by simp)
      have hr : Rd u56.h kB (.slice (addrOf rp.r 0) l3.i.toNat cp.i.toNat) pd.d := by simpa [kB] using hr
      have hdl : i3.i.toNat < D3.d.length := by omega
      rw [show (i3.i + 1).toNat = i3.i.toNat + 1 by omega]
      refine encAt_next hE3 (Hp.le_trans (by simpa using db) lb) b15 hdl (by rw [List.getElem?_eq_getElem hdl]; exact b17 _ (List.getElem_mem hdl)) hr ?_ hpB
      rw [hp3, encP, hjk, b13, b11, bI_len]
      rw [show l3.i.toNat = pieceLen (ρ 2).i.toNat (ρ 7).d.length by omega]
  · obtain ⟨a1, a2, a3, a4, a5, a6, a7, a8, a9, a10, a11, a12, a13, a14, a17, a15, a16⟩ := hW
    obtain ⟨hb, lb, db⟩ := star_mem_abs hst (n := 37) (t := 2) (by simp)
    refine ⟨a1, hsz, hle, a14, ?_⟩
    rw [show i.i.toNat = (ρ 3).i.toNat by omega] at hE
    exact encAt_mono hE (Hp.le_trans (by simpa using db) lb)
end Go.Proofs
