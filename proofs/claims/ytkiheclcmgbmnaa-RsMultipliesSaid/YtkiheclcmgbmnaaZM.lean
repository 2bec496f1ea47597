/- Elimination: the proof. -/
import Derived.Test.YtkiheclcmgbmnaaZK
import Derived.Test.YtkiheclcmgbmnaaZI
set_option linter.unusedSimpArgs false
set_option linter.unusedVariables false
namespace Go.Proofs
open Go Go.Eng

/-! ### Places -/
theorem idx {r n i c : Int} (hr : r ≤ 255) (hn : n ≤ 255) (i0 : 0 ≤ i) (i1 : i < r) (c0 : 0 ≤ c) (c1 : c < n) :
    arithOf .add .i64 (arithOf .mul .i64 i n) c = i * n + c ∧ 0 ≤ i * n + c ∧ i * n + c < r * n ∧ (i * n + c).toNat = i.toNat * n.toNat + c.toNat := by
  have hb := mul_bound (x := i) (y := n) i0 (show i ≤ 255 by omega) (by omega) hn
  have hlt : i * n + n ≤ r * n := by
    have := Int.mul_le_mul_of_nonneg_right (show i + 1 ≤ r by omega) (show 0 ≤ n by omega)
    rw [Int.add_mul, Int.one_mul] at this; omega
  refine ⟨by rw [mul64 (by omega) (by omega), add64 (by omega) (by omega)], by omega, by omega, ?_⟩
  rw [Int.toNat_add hb.1 c0, Int.toNat_mul i0 (by omega)]
theorem rowIx {r n i : Int} (i0 : 0 ≤ i) (i1 : i < r) (n0 : 0 ≤ n) : 0 ≤ i * n ∧ i * n + n ≤ r * n ∧ (i * n).toNat = i.toNat * n.toNat := by
  have hlt : i * n + n ≤ r * n := by
    have := Int.mul_le_mul_of_nonneg_right (show i + 1 ≤ r by omega) n0
    rw [Int.add_mul, Int.one_mul] at this; omega
  exact ⟨Int.mul_nonneg i0 n0, hlt, Int.toNat_mul i0 n0⟩
theorem rowDis {n i j : Int} (h : ¬ i = j) (n0 : 0 ≤ n) : j * n + n ≤ i * n ∨ i * n + n ≤ j * n := by
  rcases Int.lt_or_gt_of_ne h with h | h
  · right
    have := Int.mul_le_mul_of_nonneg_right (show i + 1 ≤ j by omega) n0
    rw [Int.add_mul, Int.one_mul] at this; omega
  · left
    have := Int.mul_le_mul_of_nonneg_right (show j + 1 ≤ i by omega) n0
    rw [Int.add_mul, Int.one_mul] at this; omega
theorem cell_getD {d : Rows'} {e : Int} (h0 : 0 ≤ e) (h1 : e < d.length) : (bI d).getD e.toNat 0 = cellI d e 0 := by
  rw [List.getD_eq_getElem?_getD, bI_get h0 h1]; rfl
theorem fullM.seg {r c l cap : Int} {d : Rows'} (h : fullM r c l cap d) {i o n : Int} (i0 : 0 ≤ i) (i1 : i < r) (ho : o = i * c) (hn : n = c) : segOk d o n := by
  obtain ⟨⟨a1, a2, a3, a4, a5, a6, a7, a8⟩, a9⟩ := h
  obtain ⟨b1, b2, _⟩ := rowIx i0 i1 a3
  exact ⟨by omega, by omega, by omega, by unfold Go.Eng.big; omega⟩
theorem fullM.next {r c l cap : Int} {d d' : Rows'} (h : fullM r c l cap d) (hl : d'.length = d.length) (hB : allB d') : fullM r c l cap d' := by
  obtain ⟨⟨a1, a2, a3, a4, a5, a6, a7, a8⟩, a9⟩ := h
  exact ⟨⟨a1, a2, a3, a4, a5, a6, by omega, hB⟩, by omega⟩
/-! ### Elimination, plainly -/
theorem elimN_stop {rows ca cb : Nat} {a b : List Int} {c : Nat} (h : rows ≤ (elimN rows ca cb a b c).2.2) : ∀ k, elimN rows ca cb a b (c + k) = elimN rows ca cb a b c
  | 0 => rfl
  | k + 1 => by
    rw [← Nat.add_assoc, elimN, elimN_stop h k, elimStep, if_pos h]
theorem pivF_self {a : List Int} {ca c p n : Nat} (h : ¬ a.getD (p * ca + c) 0 = 0) : pivF a ca c p n = p := by
  cases n with
  | zero => rfl
  | succ n => rw [pivF, if_neg h]
section
variable {r ca cb l1 c1 l2 c2 rank c p i : Int} {f da db a0 b0 : Rows'}
theorem elimO.start (hf : fieldD f) (hA : fullM r ca l1 c1 da) (hB : fullM r cb l2 c2 db) : elimO r ca cb l1 c1 l2 c2 0 0 f da db da db :=
  ⟨⟨hf, hA, hB, by omega, hA.1.1, by omega, hA.1.2.2.1⟩, rfl⟩
theorem elimP.start (h : elimO r ca cb l1 c1 l2 c2 rank c f da db a0 b0) (hr : rank < r) (hc : c < ca) : elimP r ca cb l1 c1 l2 c2 rank c rank f da db a0 b0 :=
  ⟨h, hr, hc, by omega, by omega, rfl⟩
theorem elimP.next (h : elimP r ca cb l1 c1 l2 c2 rank c p f da db a0 b0) (hp : p < r) (hz : cellI da (p * ca + c) 0 = 0) : elimP r ca cb l1 c1 l2 c2 rank c (p + 1) f da db a0 b0 := by
  obtain ⟨h1, h2, h3, h4, h5, h6⟩ := h
  refine ⟨h1, h2, h3, by omega, by omega, ?_⟩
  obtain ⟨⟨_, hA, hB, w1, w2, w3, w4⟩, _⟩ := h1
  obtain ⟨⟨a1, a2, a3, a4, a5, a6, a7, a8⟩, a9⟩ := hA
  obtain ⟨_, e1, e2, e3⟩ := idx (i := p) a2 a4 (by omega) hp w3 h3
  have hg := cell_getD (d := da) e1 (by omega)
  rw [e3] at hg
  rw [← h6, show r.toNat - p.toNat = (r.toNat - (p + 1).toNat) + 1 by omega, pivF, if_pos (by rw [hg]; exact hz), show (p + 1).toNat = p.toNat + 1 by omega]
theorem elimO.skip (h : elimP r ca cb l1 c1 l2 c2 rank c p f da db a0 b0) (hp : p = r) : elimO r ca cb l1 c1 l2 c2 rank (c + 1) f da db a0 b0 := by
  obtain ⟨⟨⟨hf, hA, hB, w1, w2, w3, w4⟩, he⟩, h2, h3, h4, h5, h6⟩ := h
  refine ⟨⟨hf, hA, hB, w1, w2, by omega, by omega⟩, ?_⟩
  rw [show (c + 1).toNat = c.toNat + 1 by omega, elimN, ← he, elimStep]
  simp only
  rw [if_neg (by omega), if_pos]
  rw [← h6, hp, Nat.sub_self, pivF]
/-- The pivot is found. -/
theorem elimP.piv (h : elimP r ca cb l1 c1 l2 c2 rank c p f da db a0 b0) (hp : p < r) (hz : ¬ cellI da (p * ca + c) 0 = 0) : pivF (bI da) ca.toNat c.toNat rank.toNat (r.toNat - rank.toNat) = p.toNat := by
  obtain ⟨⟨⟨hf, hA, hB, w1, w2, w3, w4⟩, he⟩, h2, h3, h4, h5, h6⟩ := h
  obtain ⟨⟨a1, a2, a3, a4, a5, a6, a7, a8⟩, a9⟩ := hA
  obtain ⟨_, e1, e2, e3⟩ := idx (i := p) a2 a4 (by omega) hp w3 h3
  have hg := cell_getD (d := da) e1 (by omega)
  rw [e3] at hg
  rw [← h6, pivF_self (by rw [hg]; exact hz)]
/-- The pivot's row is up and scaled. -/
theorem elimQ.start {da1 db1 da2 db2 f2 : Rows'} {o1 n1 o2 n2 x : Int} (h : elimP r ca cb l1 c1 l2 c2 rank c p f da db a0 b0) (hp : p < r) (hz : ¬ cellI da (p * ca + c) 0 = 0)
    (hs : (bI da1, bI db1) = swapR ca.toNat cb.toNat rank.toNat p.toNat (bI da) (bI db)) (hl1 : da1.length = da.length) (hl2 : db1.length = db.length)
    (hx : x = invF (cellI da1 (rank * ca + c) 0)) (hA2 : bI da2 = scaleL (bI da1) o1.toNat n1.toNat x) (hB2 : bI db2 = scaleL (bI db1) o2.toNat n2.toNat x) (ho1 : o1 = rank * ca) (hn1 : n1 = ca) (ho2 : o2 = rank * cb) (hn2 : n2 = cb)
    (hl3 : da2.length = da1.length) (hl4 : db2.length = db1.length) (hb1 : allB da2) (hb2 : allB db2) (hf2 : fieldD f2) : elimQ r ca cb l1 c1 l2 c2 rank c 0 f2 da2 db2 a0 b0 := by
  have hpiv := elimP.piv h hp hz
  obtain ⟨⟨⟨hf, hA, hB, w1, w2, w3, w4⟩, he⟩, h2, h3, h4, h5, h6⟩ := h
  refine ⟨⟨hf2, fullM.next hA (by omega) hb1, fullM.next hB (by omega) hb2, w1, w2, w3, w4⟩, h2, h3, by omega, by omega, _, he, rfl, by simp only; rw [hpiv]; omega, ?_⟩
  obtain ⟨⟨a1, a2, a3, a4, a5, a6, a7, a8⟩, a9⟩ := hA
  obtain ⟨⟨d1, d2, d3, d4, d5, d6, d7, d8⟩, d9⟩ := hB
  obtain ⟨_, e1, e2, e3⟩ := idx (i := rank) a2 a4 w1 h2 w3 h3
  have hg := cell_getD (d := da1) e1 (by omega)
  rw [e3] at hg
  have hr1 := (rowIx (n := ca) w1 h2 a3).2.2
  have hr2 := (rowIx (n := cb) w1 h2 d3).2.2
  simp only [elimMid, Int.toNat_zero, elimRows]
  rw [hpiv, ← hs]
  simp only [scaleR]
  rw [hg, ← hx, hA2, hB2, ho1, ho2, hn1, hn2, hr1, hr2]
theorem elimQ.same (h : elimQ r ca cb l1 c1 l2 c2 rank c i f da db a0 b0) (hi : i < r) (he : i = rank) : elimQ r ca cb l1 c1 l2 c2 rank c (i + 1) f da db a0 b0 := by
  obtain ⟨hw, h2, h3, h4, h5, s, hs, hs2, hs3, hs4⟩ := h
  refine ⟨hw, h2, h3, by omega, by omega, s, hs, hs2, hs3, ?_⟩
  rw [show (i + 1).toNat = i.toNat + 1 by omega, elimRows]
  rw [if_pos (by omega)]; exact hs4
theorem elimQ.next {da2 db2 f2 : Rows'} {o1 o2 p1 m1 p2 m2 : Int} (h : elimQ r ca cb l1 c1 l2 c2 rank c i f da db a0 b0) (hi : i < r) (hne : ¬ i = rank)
    (hA2 : bI da2 = addToL (bI da) o1.toNat (seg (bI da) p1.toNat m1.toNat) (cellI da (i * ca + c) 0)) (hB2 : bI db2 = addToL (bI db) o2.toNat (seg (bI db) p2.toNat m2.toNat) (cellI da (i * ca + c) 0))
    (ho1 : o1 = i * ca) (hp1 : p1 = rank * ca) (hm1 : m1 = ca) (ho2 : o2 = i * cb) (hp2 : p2 = rank * cb) (hm2 : m2 = cb)
    (hl3 : da2.length = da.length) (hl4 : db2.length = db.length) (hb1 : allB da2) (hb2 : allB db2) (hf2 : fieldD f2) : elimQ r ca cb l1 c1 l2 c2 rank c (i + 1) f2 da2 db2 a0 b0 := by
  obtain ⟨⟨hf, hA, hB, w1, w2, w3, w4⟩, h2, h3, h4, h5, s, hs, hs2, hs3, hs4⟩ := h
  refine ⟨⟨hf2, fullM.next hA hl3 hb1, fullM.next hB hl4 hb2, w1, w2, w3, w4⟩, h2, h3, by omega, by omega, s, hs, hs2, hs3, ?_⟩
  obtain ⟨⟨a1, a2, a3, a4, a5, a6, a7, a8⟩, a9⟩ := hA
  obtain ⟨⟨d1, d2, d3, d4, d5, d6, d7, d8⟩, d9⟩ := hB
  obtain ⟨_, e1, e2, e3⟩ := idx (i := i) a2 a4 h4 hi w3 h3
  have hg := cell_getD (d := da) e1 (by omega)
  rw [e3] at hg
  rw [show (i + 1).toNat = i.toNat + 1 by omega, elimRows]
  rw [if_neg (by omega), ← hs4]
  simp only
  rw [hg, hA2, hB2, ho1, ho2, hp1, hp2, hm1, hm2, (rowIx (n := ca) h4 hi a3).2.2, (rowIx (n := cb) h4 hi d3).2.2, (rowIx (n := ca) w1 h2 a3).2.2, (rowIx (n := cb) w1 h2 d3).2.2]
theorem elimO.after (h : elimQ r ca cb l1 c1 l2 c2 rank c i f da db a0 b0) (hi : i = r) : elimO r ca cb l1 c1 l2 c2 (rank + 1) (c + 1) f da db a0 b0 := by
  obtain ⟨⟨hf, hA, hB, w1, w2, w3, w4⟩, h2, h3, h4, h5, s, hs, hs2, hs3, hs4⟩ := h
  refine ⟨⟨hf, hA, hB, by omega, by omega, by omega, by omega⟩, ?_⟩
  rw [show (c + 1).toNat = c.toNat + 1 by omega, elimN, ← hs, elimStep, hs2, if_neg (by omega), if_neg hs3]
  simp only
  rw [hi] at hs4
  rw [← hs4]
  simp only
  rw [show (rank + 1).toNat = rank.toNat + 1 by omega]
theorem elimO.fin (h : elimO r ca cb l1 c1 l2 c2 rank c f da db a0 b0) (hd : r ≤ rank ∨ ca ≤ c) : (bI da, bI db, rank.toNat) = elimN r.toNat ca.toNat cb.toNat (bI a0) (bI b0) ca.toNat := by
  obtain ⟨⟨hf, hA, hB, w1, w2, w3, w4⟩, he⟩ := h
  rcases hd with hd | hd
  · have := elimN_stop (rows := r.toNat) (ca := ca.toNat) (cb := cb.toNat) (a := bI a0) (b := bI b0) (c := c.toNat) (by rw [← he]; simp only; omega) (ca.toNat - c.toNat)
    rw [show c.toNat + (ca.toNat - c.toNat) = ca.toNat by omega] at this
    rw [this, he]
  · rw [he, show c.toNat = ca.toNat by omega]
end
theorem swapR_ne {ca cb rank p : Nat} {a b : List Int} (h : ¬ p = rank) : swapR ca cb rank p a b = (addToL a (rank * ca) (seg a (p * ca) ca) 1, addToL b (rank * cb) (seg b (p * cb) cb) 1) := by rw [swapR, if_neg h]
set_option maxRecDepth 100000 in
set_option maxHeartbeats 4000000 in
theorem elim83_ok : elim83C.ok Try.prog := elim83_of (by simp [row75_ok, addTo_ok, addToS_ok, inv51_ok, scale_ok]) fun ρ hg hp => by
  obtain ⟨hf, hA, hB, hr⟩ := hp
  simp (config := { maxSteps := 4000000 }) [o_elim83, elim83C, elim83I, elim83J, elim83K, row75C, addToC, addToS, inv51C, scaleC]
  have hA' := hA
  have hB' := hB
  obtain ⟨⟨a1, a2, a3, a4, a5, a6, a7, a8⟩, a9⟩ := hA'
  rw [hr] at hB
  have hB2 := hB
  obtain ⟨⟨d1, d2, d3, d4, d5, d6, d7, d8⟩, d9⟩ := hB2
  rw [hr]
  refine ⟨elimO.start hf hA hB, fun rk _ c _ f _ da _ db _ hO => ⟨fun hc => ⟨fun hrk => ⟨elimP.start hO hrk hc, ?_⟩, fun hrk => ?_⟩, fun hc => ?_⟩⟩
  rotate_left
  · have hfin := elimO.fin hO (.inl hrk)
    obtain ⟨⟨h1, h2, h3, h4, h5, h6, h7⟩, he⟩ := hO
    exact ⟨h1, h2, h3, h4, h5, hfin⟩
  · have hfin := elimO.fin hO (.inr hc)
    obtain ⟨⟨h1, h2, h3, h4, h5, h6, h7⟩, he⟩ := hO
    exact ⟨h1, h2, h3, h4, h5, hfin⟩
  intro rk _ c' _ f _ da _ db _ p _ hP hcc
  have hP' := hP
  obtain ⟨⟨⟨hfd, hAd, hBd, w1, w2, w3, w4⟩, hE⟩, hrk, hcc', hp0, hp1, hpv⟩ := hP
  have hlA := hAd.2
  refine ⟨fun hp => ?_, fun hp => ⟨fun he => ?_, fun hne => by omega⟩⟩
  · obtain ⟨x0, x1, x2, x3⟩ := idx (i := p.i) a2 a4 (by omega) hp w3 hcc'
    rw [x0, add64 (x := p.i) (by omega) (by omega)]
    refine ⟨x1, by omega, by omega, fun hz => ⟨⟨elimP.next hP' hp hz, hcc⟩, by omega⟩, fun hz => ⟨fun he => by omega, fun _ => ⟨fun hpr => ?_, fun hpr => ?_⟩⟩⟩
    · refine ⟨⟨w1, hrk, hAd.1⟩, fun o1 _ n1 _ k1 _ ho1 hn1 hk1 => ⟨⟨by omega, hp, hAd.1⟩, fun o2 _ n2 _ k2 _ ho2 hn2 hk2 => ⟨⟨hfd, fullM.seg hAd w1 hrk ho1 hn1, fullM.seg hAd (by omega) hp ho2 hn2, by omega, by rw [ho1, hn1, ho2, hn2]; exact rowDis (fun h => hpr h.symm) a3, hAd.1.2.2.2.2.2.2.2⟩, fun f1 _ da1 _ hf1 hl1 hb1 hA1 => ⟨⟨w1, hrk, hBd.1⟩, fun o3 _ n3 _ k3 _ ho3 hn3 hk3 => ⟨⟨by omega, hp, hBd.1⟩, fun o4 _ n4 _ k4 _ ho4 hn4 hk4 => ⟨⟨hf1, fullM.seg hBd w1 hrk ho3 hn3, fullM.seg hBd (by omega) hp ho4 hn4, by omega, by rw [ho3, hn3, ho4, hn4]; exact rowDis (fun h => hpr h.symm) d3, hBd.1.2.2.2.2.2.2.2⟩, fun f2 _ db1 _ hf2 hl2 hb2 hB1 => ?_⟩⟩⟩⟩⟩⟩
      have hsw : (bI da1.d, bI db1.d) = swapR (ρ 3).i.toNat (ρ 10).i.toNat rk.i.toNat p.i.toNat (bI da.d) (bI db.d) := by
        rw [swapR_ne (by omega), hA1, hB1, ho1, ho2, ho3, ho4, hn2, hn4, (rowIx (n := (ρ 3).i) w1 hrk a3).2.2, (rowIx (n := (ρ 3).i) (by omega) hp a3).2.2, (rowIx (n := (ρ 10).i) w1 hrk d3).2.2, (rowIx (n := (ρ 10).i) (by omega) hp d3).2.2]
      have fA1 : fullM (ρ 2).i (ρ 3).i (ρ 5).i (ρ 6).i da1.d := fullM.next hAd hl1 hb1
      have fB1 : fullM (ρ 2).i (ρ 10).i (ρ 12).i (ρ 13).i db1.d := fullM.next hBd hl2 hb2
      obtain ⟨y0, y1, y2, y3⟩ := idx (i := rk.i) a2 a4 w1 hrk w3 hcc'
      rw [y0]
      have hcell := allB_get fA1.1.2.2.2.2.2.2.2 (i := rk.i * (ρ 3).i + c'.i) y1 (by have := fA1.2; omega)
      have hlA := fA1.2
      refine ⟨y1, by omega, by omega, ⟨hf2, hcell⟩, fun x _ er _ f3 _ hf3 hx _ => ⟨⟨w1, hrk, fA1.1⟩, fun o5 _ n5 _ k5 _ ho5 hn5 hk5 => ⟨⟨hf3, fullM.seg fA1 w1 hrk ho5 hn5, fA1.1.2.2.2.2.2.2.2, by rw [hx]; exact (invF_range hcell.1 hcell.2).1, by rw [hx]; exact (invF_range hcell.1 hcell.2).2⟩, fun f4 _ da2 _ hf4 hl4 hb4 hA4 => ⟨⟨w1, hrk, fB1.1⟩, fun o6 _ n6 _ k6 _ ho6 hn6 hk6 => ⟨⟨hf4, fullM.seg fB1 w1 hrk ho6 hn6, fB1.1.2.2.2.2.2.2.2, by rw [hx]; exact (invF_range hcell.1 hcell.2).1, by rw [hx]; exact (invF_range hcell.1 hcell.2).2⟩, fun f5 _ db2 _ hf5 hl5 hb5 hB5 => ⟨⟨elimQ.start hP' hp hz hsw hl1 hl2 hx hA4 hB5 ho5 hn5 ho6 hn6 hl4 hl5 hb4 hb5 hf5, hcc⟩, ?_⟩⟩⟩⟩⟩⟩
      intro rk2 _ c2 _ f6 _ da3 _ db3 _ i _ hQ hc2
      refine ⟨fun hi => ?_, fun hi => ?_⟩
      · have hQ' := hQ
        obtain ⟨⟨hfq, hAq, hBq, v1, v2, v3, v4⟩, q1, q2, q3, q4, _⟩ := hQ'
        have hlq := hAq.2
        obtain ⟨z0, z1, z2, z3⟩ := idx (i := i.i) a2 a4 q3 hi v3 q2
        rw [z0, add64 (by omega) (by omega)]
        have hcq := allB_get hAq.1.2.2.2.2.2.2.2 (i := i.i * (ρ 3).i + c2.i) z1 (by omega)
        refine ⟨z1, by omega, by omega, fun hne => ⟨⟨q3, hi, hAq.1⟩, fun r1 _ r2 _ r3 _ hr1 hr2 hr3 => ⟨⟨v1, q1, hAq.1⟩, fun t1 _ t2 _ t3 _ ht1 ht2 ht3 => ⟨⟨hfq, fullM.seg hAq q3 hi hr1 hr2, fullM.seg hAq v1 q1 ht1 ht2, by omega, by rw [hr1, hr2, ht1, ht2]; exact rowDis hne a3, hAq.1.2.2.2.2.2.2.2, hcq⟩, fun f7 _ da4 _ hf7 hl7 hb7 hA7 => ⟨⟨q3, hi, hBq.1⟩, fun r4 _ r5 _ r6 _ hr4 hr5 hr6 => ⟨⟨v1, q1, hBq.1⟩, fun t4 _ t5 _ t6 _ ht4 ht5 ht6 => ⟨⟨hf7, fullM.seg hBq q3 hi hr4 hr5, fullM.seg hBq v1 q1 ht4 ht5, by omega, by rw [hr4, hr5, ht4, ht5]; exact rowDis hne d3, hBq.1.2.2.2.2.2.2.2, hcq⟩, fun f8 _ db4 _ hf8 hl8 hb8 hB8 => ⟨⟨elimQ.next hQ hi hne hA7 hB8 hr1 ht1 ht2 hr4 ht4 ht5 hl7 hl8 hb7 hb8 hf8, hc2⟩, by omega⟩⟩⟩⟩⟩⟩⟩, fun hieq => ⟨⟨elimQ.same hQ hi hieq, hc2⟩, by omega⟩⟩
      · have hQ' := hQ
        obtain ⟨⟨hfq, hAq, hBq, v1, v2, v3, v4⟩, q1, q2, q3, q4, _⟩ := hQ'
        rw [add64 (by omega) (by omega), add64 (by omega) (by omega)]
        exact ⟨elimO.after hQ (by omega), by omega⟩
    · have hsw : (bI da.d, bI db.d) = swapR (ρ 3).i.toNat (ρ 10).i.toNat rk.i.toNat p.i.toNat (bI da.d) (bI db.d) := by
        rw [swapR, if_pos (by omega)]
      have fA1 : fullM (ρ 2).i (ρ 3).i (ρ 5).i (ρ 6).i da.d := hAd
      have fB1 : fullM (ρ 2).i (ρ 10).i (ρ 12).i (ρ 13).i db.d := hBd
      obtain ⟨y0, y1, y2, y3⟩ := idx (i := rk.i) a2 a4 w1 hrk w3 hcc'
      rw [y0]
      have hcell := allB_get fA1.1.2.2.2.2.2.2.2 (i := rk.i * (ρ 3).i + c'.i) y1 (by have := fA1.2; omega)
      have hlA := fA1.2
      refine ⟨y1, by omega, by omega, ⟨hfd, hcell⟩, fun x _ er _ f3 _ hf3 hx _ => ⟨⟨w1, hrk, fA1.1⟩, fun o5 _ n5 _ k5 _ ho5 hn5 hk5 => ⟨⟨hf3, fullM.seg fA1 w1 hrk ho5 hn5, fA1.1.2.2.2.2.2.2.2, by rw [hx]; exact (invF_range hcell.1 hcell.2).1, by rw [hx]; exact (invF_range hcell.1 hcell.2).2⟩, fun f4 _ da2 _ hf4 hl4 hb4 hA4 => ⟨⟨w1, hrk, fB1.1⟩, fun o6 _ n6 _ k6 _ ho6 hn6 hk6 => ⟨⟨hf4, fullM.seg fB1 w1 hrk ho6 hn6, fB1.1.2.2.2.2.2.2.2, by rw [hx]; exact (invF_range hcell.1 hcell.2).1, by rw [hx]; exact (invF_range hcell.1 hcell.2).2⟩, fun f5 _ db2 _ hf5 hl5 hb5 hB5 => ⟨⟨elimQ.start hP' hp hz hsw rfl rfl hx hA4 hB5 ho5 hn5 ho6 hn6 hl4 hl5 hb4 hb5 hf5, hcc⟩, ?_⟩⟩⟩⟩⟩⟩
      intro rk2 _ c2 _ f6 _ da3 _ db3 _ i _ hQ hc2
      refine ⟨fun hi => ?_, fun hi => ?_⟩
      · have hQ' := hQ
        obtain ⟨⟨hfq, hAq, hBq, v1, v2, v3, v4⟩, q1, q2, q3, q4, _⟩ := hQ'
        have hlq := hAq.2
        obtain ⟨z0, z1, z2, z3⟩ := idx (i := i.i) a2 a4 q3 hi v3 q2
        rw [z0, add64 (by omega) (by omega)]
        have hcq := allB_get hAq.1.2.2.2.2.2.2.2 (i := i.i * (ρ 3).i + c2.i) z1 (by omega)
        refine ⟨z1, by omega, by omega, fun hne => ⟨⟨q3, hi, hAq.1⟩, fun r1 _ r2 _ r3 _ hr1 hr2 hr3 => ⟨⟨v1, q1, hAq.1⟩, fun t1 _ t2 _ t3 _ ht1 ht2 ht3 => ⟨⟨hfq, fullM.seg hAq q3 hi hr1 hr2, fullM.seg hAq v1 q1 ht1 ht2, by omega, by rw [hr1, hr2, ht1, ht2]; exact rowDis hne a3, hAq.1.2.2.2.2.2.2.2, hcq⟩, fun f7 _ da4 _ hf7 hl7 hb7 hA7 => ⟨⟨q3, hi, hBq.1⟩, fun r4 _ r5 _ r6 _ hr4 hr5 hr6 => ⟨⟨v1, q1, hBq.1⟩, fun t4 _ t5 _ t6 _ ht4 ht5 ht6 => ⟨⟨hf7, fullM.seg hBq q3 hi hr4 hr5, fullM.seg hBq v1 q1 ht4 ht5, by omega, by rw [hr4, hr5, ht4, ht5]; exact rowDis hne d3, hBq.1.2.2.2.2.2.2.2, hcq⟩, fun f8 _ db4 _ hf8 hl8 hb8 hB8 => ⟨⟨elimQ.next hQ hi hne hA7 hB8 hr1 ht1 ht2 hr4 ht4 ht5 hl7 hl8 hb7 hb8 hf8, hc2⟩, by omega⟩⟩⟩⟩⟩⟩⟩, fun hieq => ⟨⟨elimQ.same hQ hi hieq, hc2⟩, by omega⟩⟩
      · have hQ' := hQ
        obtain ⟨⟨hfq, hAq, hBq, v1, v2, v3, v4⟩, q1, q2, q3, q4, _⟩ := hQ'
        rw [add64 (by omega) (by omega), add64 (by omega) (by omega)]
        exact ⟨elimO.after hQ (by omega), by omega⟩
  · rw [add64 (by omega) (by omega)]
    exact ⟨elimO.skip hP' he, by omega⟩
end Go.Proofs
