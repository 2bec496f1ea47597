/- The reference's elimination: proof. -/
import Derived.Test.YtkiheclcmgbmnaaV7
import Derived.Test.YtkiheclcmgbmnaaVM
import Derived.Test.YtkiheclcmgbmnaaGE
set_option linter.unusedSimpArgs false
set_option linter.unusedVariables false
namespace Go.Proofs
open Go Go.Eng
set_option maxRecDepth 100000
set_option maxHeartbeats 8000000 in
theorem reduce85_ok : reduce85C.ok Try.prog := reduce85_of (by simp [times53_ok, over54_ok]) fun ρ hg hp => by
  obtain ⟨hvm, hc3, hc10, a3, aB, e7, b0, b1, e10, b3, bB⟩ := hp
  obtain ⟨v1, v2, v3, v4, v5⟩ := hvm
  have hA : (ρ 0).i.toNat * (ρ 1).i.toNat ≤ (bI (ρ 5).d).length := by rw [bI_len, ← Int.toNat_mul (by omega) (by omega)]; omega
  have hBl : (ρ 0).i.toNat * (ρ 8).i.toNat ≤ (bI (ρ 12).d).length := by rw [bI_len, ← Int.toNat_mul (by omega) (by omega)]; omega
  have s1 : ∀ {x : Int}, -1 ≤ x → x ≤ 1000 → arithOf .add .i64 x 1 = x + 1 := fun h1 h2 => add64 (by omega) (by omega)
  simp (config := { maxSteps := 40000000 }) [o_reduce85, reduce85C, reduce85A, reduce85B, reduce85Q, reduce85D, reduce85E, reduce85F, reduce85G, redW, redRC, redIn, redE, wideN, redT0, times53C, over54C]
  intro n14 _ n15 _ n16 _
  refine ⟨by omega, by omega, fun n17 _ n18 _ _ => ⟨⟨by omega, add64 (by omega) (by omega), fun j hj => by omega, fun i j hi => by omega⟩, fun w _ _ _ _ _ _ _ _ _ _ _ D _ H _ i _ i0 i1 hw hD hr ht => ⟨fun hi => ?_, fun hi => ⟨⟨⟨by omega, by omega⟩, _, ⟨hw, hD, hr, by rw [show i.i.toNat = (ρ 0).i.toNat by omega] at ht; exact ht⟩, aug_start hA hBl⟩, ?_⟩⟩⟩⟩
  · -- the rows are laid out
    have hb1 := mul_bound (x := i.i) (y := (ρ 1).i) i0 (by omega) (by omega) v4
    have hb2 := mul_bound (x := i.i) (y := (ρ 8).i) i0 (by omega) b0 b1
    have g1 := Int.mul_le_mul_of_nonneg_right (show i.i + 1 ≤ (ρ 0).i by omega) (show 0 ≤ (ρ 1).i by omega)
    have g2 := Int.mul_le_mul_of_nonneg_right (show i.i + 1 ≤ (ρ 0).i by omega) b0
    rw [Int.add_mul, Int.one_mul] at g1 g2
    have p1 : (i.i * (ρ 1).i).toNat = i.i.toNat * (ρ 1).i.toNat := Int.toNat_mul i0 (by omega)
    have p2 : (i.i * (ρ 8).i).toNat = i.i.toNat * (ρ 8).i.toNat := Int.toNat_mul i0 b0
    have m1 : arithOf .mul .i64 i.i (ρ 1).i = i.i * (ρ 1).i := mul64 (by omega) (by omega)
    have m3 : arithOf .mul .i64 i.i (ρ 8).i = i.i * (ρ 8).i := mul64 (by omega) (by omega)
    have e1 : arithOf .add .i64 i.i 1 = i.i + 1 := s1 (by omega) (by omega)
    have m2 : arithOf .mul .i64 (i.i + 1) (ρ 1).i = i.i * (ρ 1).i + (ρ 1).i := by rw [mul64 (by rw [Int.add_mul]; omega) (by rw [Int.add_mul]; omega), Int.add_mul, Int.one_mul]
    have m4 : arithOf .mul .i64 (i.i + 1) (ρ 8).i = i.i * (ρ 8).i + (ρ 8).i := by rw [mul64 (by rw [Int.add_mul]; omega) (by rw [Int.add_mul]; omega), Int.add_mul, Int.one_mul]
    have q1 : i.i * (ρ 1).i + (ρ 1).i - i.i * (ρ 1).i = (ρ 1).i := by omega
    have q2 : i.i * (ρ 8).i + (ρ 8).i - i.i * (ρ 8).i = (ρ 8).i := by omega
    obtain ⟨c1, c1l⟩ := cut_seg (d := (ρ 5).d) (cap := (ρ 4).i) (p := i.i * (ρ 1).i) (c := (ρ 1).i) hb1.1 (by omega) (by omega) (by omega)
    obtain ⟨c2, c2l⟩ := cut_seg (d := (ρ 12).d) (cap := (ρ 11).i) (p := i.i * (ρ 8).i) (c := (ρ 8).i) hb2.1 b0 (by omega) (by omega)
    have f1 : 0 ≤ (if (ρ 4).i = i.i * (ρ 1).i then 0 else i.i * (ρ 1).i) ∧ (if (ρ 4).i = i.i * (ρ 1).i then 0 else i.i * (ρ 1).i) + (ρ 1).i ≤ ((ρ 5).d.length : Int) := by split <;> omega
    have f2 : 0 ≤ (if (ρ 11).i = i.i * (ρ 8).i then 0 else i.i * (ρ 8).i) ∧ (if (ρ 11).i = i.i * (ρ 8).i then 0 else i.i * (ρ 8).i) + (ρ 8).i ≤ ((ρ 12).d.length : Int) := by split <;> omega
    rw [e1, m1, m2, m3, m4, q1, q2]
    refine ⟨by omega, by omega, by omega, by omega, by omega, by omega, by omega, by omega, by omega, by omega, fun u14 _ => ⟨f1.1, by omega, f1.2, by omega, fun u15 _ u16 _ => ⟨by omega, f2.1, by omega, f2.2, by omega, fun sl _ cp _ => ⟨i0, by omega, fun H' _ hst => ⟨⟨by omega, by omega, hw, by rw [putD_len]; exact hD, rows_put hr i0 (by omega), ?_⟩, by omega⟩⟩⟩⟩⟩
    obtain ⟨hx, hy, hdis, lx, ly, dx, dy⟩ := star_two (l1 := []) hst (y := SH.abs 26 2) (by simp)
    have hrd : Rd hx kB (.slice (addrOf sl.r 0) ((ρ 1).i + (ρ 8).i).toNat cp.i.toNat) (((ρ 5).d.drop (if (ρ 4).i = i.i * (ρ 1).i then 0 else i.i * (ρ 1).i).toNat).take (ρ 1).i.toNat ++ ((ρ 12).d.drop (if (ρ 11).i = i.i * (ρ 8).i then 0 else i.i * (ρ 8).i).toNat).take (ρ 8).i.toNat) := by
      have h0 := arr_Rd (n := ((ρ 1).i + (ρ 8).i).toNat) (k := cp.i.toNat) dx (Hp.le_refl _) (by simp [e1, m1, m2, m3, m4, q1, q2]; split <;> split <;> omega) (by simp)
      simpa [kB, e1, m1, m2, m3, m4, q1, q2] using h0
    have hab : Hp.le H.h hy ∧ Hp.free H.h := by simpa [SH.den] using dy
    have hBd : allB (((ρ 5).d.drop (if (ρ 4).i = i.i * (ρ 1).i then 0 else i.i * (ρ 1).i).toNat).take (ρ 1).i.toNat ++ ((ρ 12).d.drop (if (ρ 11).i = i.i * (ρ 8).i then 0 else i.i * (ρ 8).i).toNat).take (ρ 8).i.toNat) := fun row hrow => by
      rcases List.mem_append.1 hrow with h | h
      · exact aB _ (List.mem_of_mem_drop (List.mem_of_mem_take h))
      · exact bB _ (List.mem_of_mem_drop (List.mem_of_mem_take h))
    rw [show (i.i + 1).toNat = i.i.toNat + 1 by omega]
    refine tab_new ht (Hp.le_trans hab.1 ly) hrd lx (disj_le hdis hab.1) hBd (fun j hj => by rw [tvs_put hr i0 (by omega), if_neg (by omega)]) (by rw [tvs_put hr i0 (by omega), if_pos rfl]) (fun _ _ => rfl) ?_
    rw [show ∀ x y : Rows', bI (x ++ y) = bI x ++ bI y from fun x y => by simp [bI], c1, c2, p1, p2]
    rfl
  intro w _ _ _ _ _ _ _ _ _ _ _ D _ H _ k _ c _ k0 k1 c0 c1 M hw hD hr ht hR
  refine ⟨fun hc => ⟨fun hk => ?_, fun hk => ?_⟩, fun hc => ?_⟩
  · -- a column
    refine ⟨⟨⟨⟨k0, k1, c0, c1⟩, hk, hc⟩, k1, M, ⟨hw, hD, hr, ht⟩, hR, fun i h1 h2 => by omega⟩, ?_⟩
    clear hw hD hr ht hR
    intro w _ _ _ _ _ _ _ _ _ _ _ D _ H _ k' _ c' _ p _ k0 k1 c0 c1 hk hc hcc hkp hp M hw hD hr ht hR hz
    refine ⟨fun hp' => ?_, fun hp' => ⟨fun hpe => ⟨⟨⟨k0, k1, ?_⟩, M, ⟨hw, hD, hr, ht⟩, ?_⟩, ?_⟩, by omega⟩⟩
    · obtain ⟨d, hrd, hd, hdB⟩ := row_at ht (i := p.i) (by omega) (by omega)
      have hl : d.length = (ρ 1).i.toNat + (ρ 8).i.toNat := by rw [← hR.2 p.i.toNat (by omega), ← hd, bI_len]
      have hcell : matT M p.i.toNat c'.i.toNat = toF (cellI d c'.i 0) := row_mat hd c0 (by omega)
      have hcb := allB_get hdB c0 (by omega : c'.i < d.length)
      refine ⟨by omega, by omega, d, hrd, fun s _ cp _ e2 _ => ⟨c0, by omega, fun h0 => ⟨⟨⟨⟨k0, k1, c0, c1⟩, hk, hc⟩, hcc, ?_⟩, ?_⟩, fun hne => ⟨fun h => by exfalso; omega, fun _ => ⟨k0, hk, by omega, d, hrd, fun s2 _ cp2 _ e3 _ => ⟨by omega, hcb, fun o _ ho => ?_⟩⟩⟩⟩⟩
      · rw [s1 (by omega) (by omega)]
        refine ⟨by omega, by omega, M, ⟨hw, hD, hr, ht⟩, hR, fun i h1 h2 => ?_⟩
        by_cases hip : i = p.i.toNat
        · rw [hip, hcell, h0]; rfl
        · exact hz i h1 (by omega)
      · rw [s1 (by omega) (by omega)]; omega
      · have hS := redS_swap hR (by omega) (p := p.i.toNat) (by omega) (by omega)
        have hMk : (fun i => M (swp k'.i.toNat p.i.toNat i)) k'.i.toNat = M p.i.toNat := by simp [swp]
        refine ⟨⟨⟨⟨k0, k1, c0, c1⟩, hk, hc⟩, hcc, by omega, ?_, fun i => M (swp k'.i.toNat p.i.toNat i), hS, ?_, ?_, ?_, hw, by rw [putD_len, putD_len]; exact hD, rows_put (rows_put hr (by omega) (by omega)) (by omega) (by rw [putD_len]; omega), ?_⟩, ?_⟩
        · rw [tvs_swap hr (by omega) (by omega) k0 (by omega), swp, if_pos rfl, tvs_at (by omega)]
        · rw [hMk, ← hd]; exact allB_list hdB
        · intro h
          have h' : matT M p.i.toNat c'.i.toNat = 0 := by
            have := h
            unfold matT at this ⊢
            rwa [hMk] at this
          rw [hcell, toF_eq_zero hcb] at h'
          exact hne h'
        · rw [ho]
          congr 1
          rw [← row_cell hd c0 (by omega)]
          exact congrArg (fun l => List.getD l c'.i.toNat 0) hMk.symm
        · have h := tab_swap ht hD hr (p := p.i) (r := k'.i) (by omega) (by omega) k0 (by omega)
          exact tab_congr h (fun _ _ => rfl) fun j _ => by rw [put_rank]
        · clear hw hD hr ht hR hz hS hMk hcell hcb hne ho hrd hd hdB hl e2 e3
          intro w _ _ _ _ _ _ _ _ _ _ _ D _ H _ k _ c _ v _ o _ j _ k0 k1 c0 c1 hk hc hcc j0 j1 hv M hS hMb hne ho hw hD hr ht
          have hlM := redS_len hS k.i.toNat (by omega)
          have hcB := bytesL_get hMb c.i.toNat
          have hoB : byteP o.i := by rw [ho]; exact invF_isB hcB
          refine ⟨fun hj => ?_, fun hj => ?_⟩
          · obtain ⟨d, hrd, hd, hdB⟩ := tab_at ht (j := k.i.toNat) (by omega)
            rw [← hv] at hrd
            have hd : bI d = rowTo (fun x y => mulF y o.i) (M k.i.toNat) j.i.toNat := by rw [hd]; exact if_pos rfl
            have hl : d.length = (ρ 1).i.toNat + (ρ 8).i.toNat := by rw [← bI_len, hd, rowTo_len]; exact hlM
            have hjB := allB_get hdB j0 (by omega : j.i < d.length)
            have hcj : (M k.i.toNat).getD j.i.toNat 0 = cellI d j.i 0 := by
              rw [← row_cell hd j0 (by omega), rowTo_get (by omega), if_neg (by omega)]
            refine ⟨d, hrd, fun s _ cp _ e2 _ => ⟨j0, by omega, ⟨hjB, hoB⟩, fun m _ hm => ⟨d, hrd, fun s2 _ cp2 _ e3 _ => ⟨by omega, fun H' _ hP => ⟨⟨⟨⟨k0, k1, c0, c1⟩, hk, hc⟩, hcc, ?_⟩, ?_⟩⟩⟩⟩⟩
            · rw [s1 (by omega) (by omega)]
              have hP' : Put H.h H'.h s2.r kB d j.i.toNat [.int .u8 m.i] := hP
              exact ⟨by omega, by omega, hv, M, hS, hMb, hne, ho, hw, hD, hr, tab_write ht (by omega) hP' e3 hv hrd j0 hd (by omega) (by rw [hm, hcj]) (by rw [hm]; exact mulF_isB hjB hoB)⟩
            · rw [s1 (by omega) (by omega)]; omega
          · obtain ⟨hS', h1⟩ := redS_scale hS (by omega) (by omega) (by omega) hMb hne ho
            rw [show j.i.toNat = (ρ 1).i.toNat + (ρ 8).i.toNat by omega] at ht
            refine ⟨⟨⟨⟨k0, k1, c0, c1⟩, hk, hc⟩, hcc, by omega, hv, _, ⟨hS', h1, fun i h => by omega⟩, hw, hD, hr, ht⟩, ?_⟩
            clear hw hD hr ht hS hMb hne ho hS' h1 hv hlM hcB hoB
            intro w _ _ _ _ _ _ _ _ _ _ _ D _ H _ k _ c _ v _ i _ k0 k1 c0 c1 hk hc hcc i0 i1 hv M hS h1 hz hw hD hr ht
            have hlk := redS_len hS k.i.toNat (by omega)
            refine ⟨fun hi => ?_, fun hi => ⟨⟨?_, M, ⟨hw, hD, hr, ht⟩, ?_⟩, ?_⟩⟩
            · obtain ⟨d, hrd, hd, hdB⟩ := row_at ht i0 (by omega)
              have hli := redS_len hS i.i.toNat (by omega)
              have hl : d.length = (ρ 1).i.toNat + (ρ 8).i.toNat := by rw [← hli, ← hd, bI_len]
              have hcell : matT M i.i.toNat c.i.toNat = toF (cellI d c.i 0) := row_mat hd c0 (by omega)
              have hcg : (M i.i.toNat).getD c.i.toNat 0 = cellI d c.i 0 := row_cell hd c0 (by omega)
              have hnext : (i.i = k.i ∨ cellI d c.i 0 = 0) → ∀ i' : Nat, (i' : Int) < i.i + 1 → (i' : Int) < (ρ 0).i → ¬ i' = k.i.toNat → matT M i' c.i.toNat = 0 := fun h i' h1 h2 h3 => by
                by_cases hii : i' = i.i.toNat
                · rcases h with h | h
                  · omega
                  · rw [hii, hcell, h]; rfl
                · exact hz i' (by omega) h2 h3
              refine ⟨i0, by omega, d, hrd, fun s _ cp _ e2 _ => ⟨c0, by omega, fun hik => ⟨⟨⟨⟨k0, k1, c0, c1⟩, hk, hc⟩, hcc, ?_⟩, ?_⟩, fun hik => ⟨fun h0 => ⟨⟨⟨⟨k0, k1, c0, c1⟩, hk, hc⟩, hcc, ?_⟩, ?_⟩, fun h0 => ⟨⟨⟨⟨k0, k1, c0, c1⟩, hk, hc⟩, hcc, i0, hi, hik, hv, by omega, M, ⟨hS, h1, hz⟩, by rw [← hd]; exact allB_list hdB, hcg.symm, hw, hD, hr, tab_congr ht (fun _ _ => rfl) fun j _ => by rw [put_rank]⟩, ?_⟩⟩⟩⟩
              · rw [s1 (by omega) (by omega)]
                exact ⟨by omega, by omega, hv, M, ⟨hS, h1, hnext (.inl hik)⟩, hw, hD, hr, ht⟩
              · rw [s1 (by omega) (by omega)]; omega
              · rw [s1 (by omega) (by omega)]
                exact ⟨by omega, by omega, hv, M, ⟨hS, h1, hnext (.inr h0)⟩, hw, hD, hr, ht⟩
              · rw [s1 (by omega) (by omega)]; omega
              · clear hw hD hr ht hS h1 hz hnext hcell hcg hli hl hd hdB hrd hlk hv e2 h0
                intro w _ _ _ _ _ _ _ _ _ _ _ D _ H _ k _ c _ v _ i _ g _ j _ k0 k1 c0 c1 hk hc hcc i0 i1 hik hii hv j0 j1 M hS h1 hz hMb hg' hw hD hr ht
                have hlk := redS_len hS k.i.toNat (by omega)
                have hli := redS_len hS i.i.toNat (by omega)
                have hkb : bytesL (M k.i.toNat) := by
                  have := tab_bytes ht (j := k.i.toNat) (by omega)
                  unfold put1 at this
                  rwa [if_neg (by omega)] at this
                have hgB : byteP g.i := by rw [hg']; exact bytesL_get hMb _
                refine ⟨fun hj => ?_, fun hj => ⟨⟨⟨⟨k0, k1, c0, c1⟩, hk, hc⟩, hcc, ?_⟩, ?_⟩⟩
                · obtain ⟨d, hrd, hd, hdB⟩ := row_at ht i0 (by omega)
                  obtain ⟨e, hre, he, heB⟩ := tab_at ht (j := k.i.toNat) (by omega)
                  rw [← hv] at hre
                  have hd : bI d = rowTo (fun j x => xorB x (mulF g.i ((M k.i.toNat).getD j 0))) (M i.i.toNat) j.i.toNat := by rw [hd]; exact if_pos rfl
                  have he : bI e = M k.i.toNat := by rw [he]; exact if_neg (by omega)
                  have hl : d.length = (ρ 1).i.toNat + (ρ 8).i.toNat := by rw [← bI_len, hd, rowTo_len]; exact hli
                  have hle : e.length = (ρ 1).i.toNat + (ρ 8).i.toNat := by rw [← bI_len, he]; exact hlk
                  have hej := allB_get heB j0 (by omega : j.i < e.length)
                  have hcj : (M i.i.toNat).getD j.i.toNat 0 = cellI d j.i 0 := by
                    rw [← row_cell hd j0 (by omega), rowTo_get (by omega), if_neg (by omega)]
                  have hce : (M k.i.toNat).getD j.i.toNat 0 = cellI e j.i 0 := row_cell he j0 (by omega)
                  have core : ∀ (s2 cp2 m H' : U), cellV D.d i.i 0 = .slice (addrOf s2.r 0) d.length cp2.i.toNat → m.i = mulF g.i (cellI e j.i 0) → Put H.h H'.h s2.r kB d j.i.toNat [.int .u8 (arithOf .xor .u8 (cellI d j.i 0) m.i)] →
                      tabV H'.h (tvs D.d) (ρ 0).i.toNat (put1 M i.i.toNat (rowTo (fun j x => xorB x (mulF g.i ((M k.i.toNat).getD j 0))) (M i.i.toNat) (j.i + 1).toNat)) := fun s2 cp2 m H' e2 hm hP =>
                    tab_write ht (by omega) hP e2 (tvs_at i0).symm hrd j0 hd (by omega) (by rw [hm, hcj, hce]; rfl) xorB_isB
                  rw [s1 (by omega) (by omega)]
                  refine ⟨i0, i1, by omega, ⟨by omega, ⟨d, hrd, fun s2 _ cp2 _ e2 _ => ⟨j0, by omega, e, hre, fun s3 _ cp3 _ e3 _ => ⟨by omega, ⟨hgB, hej⟩, fun m _ hm => ⟨by omega, fun H' _ hP => ?_⟩⟩⟩⟩,
                    e, hre, fun s3 _ cp3 _ e3 _ => ⟨j0, by omega, ⟨d, hrd, fun s2 _ cp2 _ e2 _ => ⟨by omega, ⟨hgB, hej⟩, fun m _ hm => ⟨by omega, fun H' _ hP => ?_⟩⟩⟩, ⟨hgB, hej⟩, fun m _ hm => ⟨d, hrd, fun s2 _ cp2 _ e2 _ => ⟨by omega, by omega, fun H' _ hP => ?_⟩⟩⟩⟩,
                    e, hre, fun s3 _ cp3 _ e3 _ => ⟨j0, by omega, ⟨by omega, ⟨d, hrd, fun s2 _ cp2 _ e2 _ => ⟨by omega, ⟨hgB, hej⟩, fun m _ hm => ⟨by omega, fun H' _ hP => ?_⟩⟩⟩, ⟨hgB, hej⟩, fun m _ hm => ⟨d, hrd, fun s2 _ cp2 _ e2 _ => ⟨by omega, by omega, fun H' _ hP => ?_⟩⟩⟩, ⟨hgB, hej⟩, fun m _ hm => ⟨by omega, d, hrd, fun s2 _ cp2 _ e2 _ => ⟨by omega, by omega, fun H' _ hP => ?_⟩⟩⟩⟩
                  all_goals exact ⟨⟨⟨⟨k0, k1, c0, c1⟩, hk, hc⟩, hcc, i0, i1, hik, hii, hv, by omega, by omega, M, ⟨hS, h1, hz⟩, hMb, hg', hw, hD, hr, core s2 cp2 m H' e2 hm hP⟩, by omega⟩
                · obtain ⟨hS', hz'⟩ := redS_add hS (by omega) (by omega) (i := i.i.toNat) (by omega) (by omega) hkb hMb h1 hg'
                  rw [show j.i.toNat = (ρ 1).i.toNat + (ρ 8).i.toNat by omega] at ht
                  rw [s1 (by omega) (by omega)]
                  refine ⟨by omega, by omega, hv, _, ⟨hS', ?_, fun i' h2 h3 h4 => ?_⟩, hw, hD, hr, ht⟩
                  · rw [matT_put, if_neg (by omega)]; exact h1
                  · by_cases hie : i' = i.i.toNat
                    · rw [hie]; exact hz'
                    · rw [matT_put, if_neg hie]; exact hz i' (by omega) h3 h4
                · rw [s1 (by omega) (by omega)]; omega
            · rw [s1 (by omega) (by omega), s1 (by omega) (by omega)]; omega
            · rw [s1 (by omega) (by omega), s1 (by omega) (by omega), show (c.i + 1).toNat = c.i.toNat + 1 by omega, show (k.i + 1).toNat = k.i.toNat + 1 by omega]
              exact redS_done hS (by omega) (by omega) h1 fun i' h2 h3 => hz i' (by omega) (by omega) h3
            · rw [s1 (by omega) (by omega)]; omega
    · rw [s1 (by omega) (by omega)]; omega
    · rw [s1 (by omega) (by omega), show (c'.i + 1).toNat = c'.i.toNat + 1 by omega]
      exact redT_skip hR (by omega) fun i h1 h2 => hz i (by omega) (by omega)
    · rw [s1 (by omega) (by omega)]; omega
  all_goals
    have hR' : redT (ρ 0).i.toNat ((ρ 1).i.toNat + (ρ 8).i.toNat) (augL (ρ 1).i.toNat (ρ 8).i.toNat (bI (ρ 5).d) (bI (ρ 12).d)) (ρ 1).i.toNat k.i.toNat M := by
      by_cases hcc : c.i = (ρ 1).i
      · rw [hcc] at hR; exact hR
      · have := redT_full hR (by omega) ((ρ 1).i.toNat - c.i.toNat) (by omega)
        rwa [show c.i.toNat + ((ρ 1).i.toNat - c.i.toNat) = (ρ 1).i.toNat by omega] at this
    refine ⟨⟨k0, k1, by omega, (fun row hrow => by cases hrow), M, ⟨hw, hD, hr, ht⟩, hR', fun i j h => by omega⟩, ?_⟩
    clear hw hD hr ht hR hR'
    intro w _ D _ H _ k _ n _ o _ j _ k0 k1 j0 j1 hn hn2 hoB M hw hD hr ht hR hout
    refine ⟨fun hj => ?_, fun hj => ⟨k0, k1, hn, by rw [hn2, show j.i = (ρ 0).i by omega], hoB, _, hR.1, fun i' j' h1 h2 => hout i' j' (by omega) h2⟩⟩
    obtain ⟨d, hrd, hd, hdB⟩ := row_at ht j0 (by omega)
    have hl : d.length = (ρ 1).i.toNat + (ρ 8).i.toNat := by rw [← hR.2 j.i.toNat (by omega), ← hd, bI_len]
    have hb := mul_bound (x := j.i) (y := (ρ 8).i) j0 (by omega) b0 b1
    have hjn : o.d.length = j.i.toNat * (ρ 8).i.toNat := by rw [← Int.toNat_mul j0 b0]; omega
    refine ⟨j0, by omega, d, hrd, fun s _ cp _ e2 hcp => ?_⟩
    have ho : (ρ 8).i.toNat = 0 ∨ (if cp.i = (ρ 1).i then 0 else (ρ 1).i).toNat = (ρ 1).i.toNat := by split <;> omega
    have hf : 0 ≤ (if cp.i = (ρ 1).i then 0 else (ρ 1).i) ∧ (if cp.i = (ρ 1).i then 0 else (ρ 1).i) + ((d.length : Int) - (ρ 1).i) ≤ (d.length : Int) := by split <;> omega
    rw [s1 (by omega) (by omega), Int.add_mul, Int.one_mul, show ((d.length : Int) - (ρ 1).i).toNat = (ρ 8).i.toNat by omega]
    refine ⟨by omega, by omega, by omega, hcp, hn, hf.1, by omega, hf.2, by omega, ⟨k0, k1, by omega, by omega, ?_, by omega, ?_, M, ⟨hw, hD, hr, ht⟩, hR, fun i' j' h1 h2 => out_step j0 hjn (fun i j h1 h2 => hout i j (by omega) (by omega)) hd hl ho i' j' (by omega) (by omega)⟩, by omega⟩
    · have h1 := hf.1; have h2 := hf.2
      omega
    · intro row hrow
      rcases List.mem_append.1 hrow with h | h
      · exact hoB _ h
      · exact hdB _ (List.mem_of_mem_drop (List.mem_of_mem_take h))
end Go.Proofs
