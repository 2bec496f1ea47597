/- Texts ZM, ZS, ZV, ZW, ZX, DS, DT, E13, E14. -/
import Derived.Test.YtelcnkclppkicaaDoorG9
import Derived.Test.YtelcnkclppkicaaDoorG6
import Derived.Test.YtelcnkclppkicaaDoorProg
import Derived.Test.YtelcnkclppkicaaDoorG5
import Derived.Test.YtelcnkclppkicaaDoorG8
import Derived.Test.YtelcnkclppkicaaDoorG7
import Derived.WalkKit
import Derived.ProofKit
import Derived.OpenShut
import Derived.Carry
import Derived.SizedLaws
set_option linter.unusedSimpArgs false
set_option linter.unusedVariables false
namespace Go.Proofs
open Go Go.Eng

/-! ### Places -/
theorem idx {r n i c : Int} (hr : r ≤ 255) (hn : n ≤ 255) (i0 : 0 ≤ i) (i1 : i < r) (c0 : 0 ≤ c) (c1 : c < n) :
    arithOf .add .i64 (arithOf .mul .i64 i n) c = i * n + c ∧ 0 ≤ i * n + c ∧ i * n + c < r * n ∧ (i * n + c).toNat = i.toNat * n.toNat + c.toNat := by
  have hb := mul_bound (x := i) (y := n) i0 (show i ≤ 255 by omega) (by omega) hn
  have hlt : i * n + n ≤ r * n := by
    have := Int.mul_le_mul_of_nonneg_right (show i + 1 ≤ r by omega) (show 0 ≤ n by omega)
    rw [Int.add_mul, Int.one_mul] at this; omega
  refine ⟨by rw [mul64 (by omega) (by omega), add64 (by omega) (by omega)], by omega, by omega, ?_⟩
  rw [Int.toNat_add hb.1 c0, Int.toNat_mul i0 (by omega)]
theorem rowIx {r n i : Int} (i0 : 0 ≤ i) (i1 : i < r) (n0 : 0 ≤ n) : 0 ≤ i * n ∧ i * n + n ≤ r * n ∧ (i * n).toNat = i.toNat * n.toNat := by
  have hlt : i * n + n ≤ r * n := by
    have := Int.mul_le_mul_of_nonneg_right (show i + 1 ≤ r by omega) n0
    rw [Int.add_mul, Int.one_mul] at this; omega
  exact ⟨Int.mul_nonneg i0 n0, hlt, Int.toNat_mul i0 n0⟩
theorem rowDis {n i j : Int} (h : ¬ i = j) (n0 : 0 ≤ n) : j * n + n ≤ i * n ∨ i * n + n ≤ j * n := by
  rcases Int.lt_or_gt_of_ne h with h | h
  · right
    have := Int.mul_le_mul_of_nonneg_right (show i + 1 ≤ j by omega) n0
    rw [Int.add_mul, Int.one_mul] at this; omega
  · left
    have := Int.mul_le_mul_of_nonneg_right (show j + 1 ≤ i by omega) n0
    rw [Int.add_mul, Int.one_mul] at this; omega
theorem cell_getD {d : Rows'} {e : Int} (h0 : 0 ≤ e) (h1 : e < d.length) : (bI d).getD e.toNat 0 = cellI d e 0 := by
  rw [List.getD_eq_getElem?_getD, bI_get h0 h1]; rfl
theorem fullM.seg {r c l cap : Int} {d : Rows'} (h : fullM r c l cap d) {i o n : Int} (i0 : 0 ≤ i) (i1 : i < r) (ho : o = i * c) (hn : n = c) : segOk d o n := by
  obtain ⟨⟨a1, a2, a3, a4, a5, a6, a7, a8⟩, a9⟩ := h
  obtain ⟨b1, b2, _⟩ := rowIx i0 i1 a3
  exact ⟨by omega, by omega, by omega, by unfold Go.Eng.big; omega⟩
theorem fullM.next {r c l cap : Int} {d d' : Rows'} (h : fullM r c l cap d) (hl : d'.length = d.length) (hB : allB d') : fullM r c l cap d' := by
  obtain ⟨⟨a1, a2, a3, a4, a5, a6, a7, a8⟩, a9⟩ := h
  exact ⟨⟨a1, a2, a3, a4, a5, a6, by omega, hB⟩, by omega⟩
/-! ### Elimination, plainly -/
theorem elimN_stop {rows ca cb : Nat} {a b : List Int} {c : Nat} (h : rows ≤ (elimN rows ca cb a b c).2.2) : ∀ k, elimN rows ca cb a b (c + k) = elimN rows ca cb a b c
  | 0 => rfl
  | k + 1 => by
    rw [← Nat.add_assoc, elimN, elimN_stop h k, elimStep, if_pos h]
theorem pivF_self {a : List Int} {ca c p n : Nat} (h : ¬ a.getD (p * ca + c) 0 = 0) : pivF a ca c p n = p := by
  cases n with
  | zero => rfl
  | succ n => rw [pivF, if_neg h]
section
variable {r ca cb l1 c1 l2 c2 rank c p i : Int} {f da db a0 b0 : Rows'}
theorem elimO.start (hf : fieldD f) (hA : fullM r ca l1 c1 da) (hB : fullM r cb l2 c2 db) : elimO r ca cb l1 c1 l2 c2 0 0 f da db da db :=
  ⟨⟨hf, hA, hB, by omega, hA.1.1, by omega, hA.1.2.2.1⟩, rfl⟩
theorem elimP.start (h : elimO r ca cb l1 c1 l2 c2 rank c f da db a0 b0) (hr : rank < r) (hc : c < ca) : elimP r ca cb l1 c1 l2 c2 rank c rank f da db a0 b0 :=
  ⟨h, hr, hc, by omega, by omega, rfl⟩
theorem elimP.next (h : elimP r ca cb l1 c1 l2 c2 rank c p f da db a0 b0) (hp : p < r) (hz : cellI da (p * ca + c) 0 = 0) : elimP r ca cb l1 c1 l2 c2 rank c (p + 1) f da db a0 b0 := by
  obtain ⟨h1, h2, h3, h4, h5, h6⟩ := h
  refine ⟨h1, h2, h3, by omega, by omega, ?_⟩
  obtain ⟨⟨_, hA, hB, w1, w2, w3, w4⟩, _⟩ := h1
  obtain ⟨⟨a1, a2, a3, a4, a5, a6, a7, a8⟩, a9⟩ := hA
  obtain ⟨_, e1, e2, e3⟩ := idx (i := p) a2 a4 (by omega) hp w3 h3
  have hg := cell_getD (d := da) e1 (by omega)
  rw [e3] at hg
  rw [← h6, show r.toNat - p.toNat = (r.toNat - (p + 1).toNat) + 1 by omega, pivF, if_pos (by rw [hg]; exact hz), show (p + 1).toNat = p.toNat + 1 by omega]
theorem elimO.skip (h : elimP r ca cb l1 c1 l2 c2 rank c p f da db a0 b0) (hp : p = r) : elimO r ca cb l1 c1 l2 c2 rank (c + 1) f da db a0 b0 := by
  obtain ⟨⟨⟨hf, hA, hB, w1, w2, w3, w4⟩, he⟩, h2, h3, h4, h5, h6⟩ := h
  refine ⟨⟨hf, hA, hB, w1, w2, by omega, by omega⟩, ?_⟩
  rw [show (c + 1).toNat = c.toNat + 1 by omega, elimN, ← he, elimStep]
  simp only
  rw [if_neg (by omega), if_pos]
  rw [← h6, hp, Nat.sub_self, pivF]
/-- The pivot is found. -/
theorem elimP.piv (h : elimP r ca cb l1 c1 l2 c2 rank c p f da db a0 b0) (hp : p < r) (hz : ¬ cellI da (p * ca + c) 0 = 0) : pivF (bI da) ca.toNat c.toNat rank.toNat (r.toNat - rank.toNat) = p.toNat := by
  obtain ⟨⟨⟨hf, hA, hB, w1, w2, w3, w4⟩, he⟩, h2, h3, h4, h5, h6⟩ := h
  obtain ⟨⟨a1, a2, a3, a4, a5, a6, a7, a8⟩, a9⟩ := hA
  obtain ⟨_, e1, e2, e3⟩ := idx (i := p) a2 a4 (by omega) hp w3 h3
  have hg := cell_getD (d := da) e1 (by omega)
  rw [e3] at hg
  rw [← h6, pivF_self (by rw [hg]; exact hz)]
/-- The pivot's row is up and scaled. -/
theorem elimQ.start {da1 db1 da2 db2 f2 : Rows'} {o1 n1 o2 n2 x : Int} (h : elimP r ca cb l1 c1 l2 c2 rank c p f da db a0 b0) (hp : p < r) (hz : ¬ cellI da (p * ca + c) 0 = 0)
    (hs : (bI da1, bI db1) = swapR ca.toNat cb.toNat rank.toNat p.toNat (bI da) (bI db)) (hl1 : da1.length = da.length) (hl2 : db1.length = db.length)
    (hx : x = invF (cellI da1 (rank * ca + c) 0)) (hA2 : bI da2 = scaleL (bI da1) o1.toNat n1.toNat x) (hB2 : bI db2 = scaleL (bI db1) o2.toNat n2.toNat x) (ho1 : o1 = rank * ca) (hn1 : n1 = ca) (ho2 : o2 = rank * cb) (hn2 : n2 = cb)
    (hl3 : da2.length = da1.length) (hl4 : db2.length = db1.length) (hb1 : allB da2) (hb2 : allB db2) (hf2 : fieldD f2) : elimQ r ca cb l1 c1 l2 c2 rank c 0 f2 da2 db2 a0 b0 := by
  have hpiv := elimP.piv h hp hz
  obtain ⟨⟨⟨hf, hA, hB, w1, w2, w3, w4⟩, he⟩, h2, h3, h4, h5, h6⟩ := h
  refine ⟨⟨hf2, fullM.next hA (by omega) hb1, fullM.next hB (by omega) hb2, w1, w2, w3, w4⟩, h2, h3, by omega, by omega, _, he, rfl, by simp only; rw [hpiv]; omega, ?_⟩
  obtain ⟨⟨a1, a2, a3, a4, a5, a6, a7, a8⟩, a9⟩ := hA
  obtain ⟨⟨d1, d2, d3, d4, d5, d6, d7, d8⟩, d9⟩ := hB
  obtain ⟨_, e1, e2, e3⟩ := idx (i := rank) a2 a4 w1 h2 w3 h3
  have hg := cell_getD (d := da1) e1 (by omega)
  rw [e3] at hg
  have hr1 := (rowIx (n := ca) w1 h2 a3).2.2
  have hr2 := (rowIx (n := cb) w1 h2 d3).2.2
  simp only [elimMid, Int.toNat_zero, elimRows]
  rw [hpiv, ← hs]
  simp only [scaleR]
  rw [hg, ← hx, hA2, hB2, ho1, ho2, hn1, hn2, hr1, hr2]
theorem elimQ.same (h : elimQ r ca cb l1 c1 l2 c2 rank c i f da db a0 b0) (hi : i < r) (he : i = rank) : elimQ r ca cb l1 c1 l2 c2 rank c (i + 1) f da db a0 b0 := by
  obtain ⟨hw, h2, h3, h4, h5, s, hs, hs2, hs3, hs4⟩ := h
  refine ⟨hw, h2, h3, by omega, by omega, s, hs, hs2, hs3, ?_⟩
  rw [show (i + 1).toNat = i.toNat + 1 by omega, elimRows]
  rw [if_pos (by omega)]; exact hs4
theorem elimQ.next {da2 db2 f2 : Rows'} {o1 o2 p1 m1 p2 m2 : Int} (h : elimQ r ca cb l1 c1 l2 c2 rank c i f da db a0 b0) (hi : i < r) (hne : ¬ i = rank)
    (hA2 : bI da2 = addToL (bI da) o1.toNat (seg (bI da) p1.toNat m1.toNat) (cellI da (i * ca + c) 0)) (hB2 : bI db2 = addToL (bI db) o2.toNat (seg (bI db) p2.toNat m2.toNat) (cellI da (i * ca + c) 0))
    (ho1 : o1 = i * ca) (hp1 : p1 = rank * ca) (hm1 : m1 = ca) (ho2 : o2 = i * cb) (hp2 : p2 = rank * cb) (hm2 : m2 = cb)
    (hl3 : da2.length = da.length) (hl4 : db2.length = db.length) (hb1 : allB da2) (hb2 : allB db2) (hf2 : fieldD f2) : elimQ r ca cb l1 c1 l2 c2 rank c (i + 1) f2 da2 db2 a0 b0 := by
  obtain ⟨⟨hf, hA, hB, w1, w2, w3, w4⟩, h2, h3, h4, h5, s, hs, hs2, hs3, hs4⟩ := h
  refine ⟨⟨hf2, fullM.next hA hl3 hb1, fullM.next hB hl4 hb2, w1, w2, w3, w4⟩, h2, h3, by omega, by omega, s, hs, hs2, hs3, ?_⟩
  obtain ⟨⟨a1, a2, a3, a4, a5, a6, a7, a8⟩, a9⟩ := hA
  obtain ⟨⟨d1, d2, d3, d4, d5, d6, d7, d8⟩, d9⟩ := hB
  obtain ⟨_, e1, e2, e3⟩ := idx (i := i) a2 a4 h4 hi w3 h3
  have hg := cell_getD (d := da) e1 (by omega)
  rw [e3] at hg
  rw [show (i + 1).toNat = i.toNat + 1 by omega, elimRows]
  rw [if_neg (by omega), ← hs4]
  simp only
  rw [hg, hA2, hB2, ho1, ho2, hp1, hp2, hm1, hm2, (rowIx (n := ca) h4 hi a3).2.2, (rowIx (n := cb) h4 hi d3).2.2, (rowIx (n := ca) w1 h2 a3).2.2, (rowIx (n := cb) w1 h2 d3).2.2]
theorem elimO.after (h : elimQ r ca cb l1 c1 l2 c2 rank c i f da db a0 b0) (hi : i = r) : elimO r ca cb l1 c1 l2 c2 (rank + 1) (c + 1) f da db a0 b0 := by
  obtain ⟨⟨hf, hA, hB, w1, w2, w3, w4⟩, h2, h3, h4, h5, s, hs, hs2, hs3, hs4⟩ := h
  refine ⟨⟨hf, hA, hB, by omega, by omega, by omega, by omega⟩, ?_⟩
  rw [show (c + 1).toNat = c.toNat + 1 by omega, elimN, ← hs, elimStep, hs2, if_neg (by omega), if_neg hs3]
  simp only
  rw [hi] at hs4
  rw [← hs4]
  simp only
  rw [show (rank + 1).toNat = rank.toNat + 1 by omega]
theorem elimO.fin (h : elimO r ca cb l1 c1 l2 c2 rank c f da db a0 b0) (hd : r ≤ rank ∨ ca ≤ c) : (bI da, bI db, rank.toNat) = elimN r.toNat ca.toNat cb.toNat (bI a0) (bI b0) ca.toNat := by
  obtain ⟨⟨hf, hA, hB, w1, w2, w3, w4⟩, he⟩ := h
  rcases hd with hd | hd
  · have := elimN_stop (rows := r.toNat) (ca := ca.toNat) (cb := cb.toNat) (a := bI a0) (b := bI b0) (c := c.toNat) (by rw [← he]; simp only; omega) (ca.toNat - c.toNat)
    rw [show c.toNat + (ca.toNat - c.toNat) = ca.toNat by omega] at this
    rw [this, he]
  · rw [he, show c.toNat = ca.toNat by omega]
end
theorem swapR_ne {ca cb rank p : Nat} {a b : List Int} (h : ¬ p = rank) : swapR ca cb rank p a b = (addToL a (rank * ca) (seg a (p * ca) ca) 1, addToL b (rank * cb) (seg b (p * cb) cb) 1) := by rw [swapR, if_neg h]
set_option maxRecDepth 100000 in
set_option maxHeartbeats 4000000 in
theorem elim83_ok : elim83C.ok Tryd.prog := elim83_of (by simp [row75_ok, addTo_ok, addToS_ok, inv51_ok, scale_ok]) fun ρ hg hp => by
  obtain ⟨hf, hA, hB, hr⟩ := hp
  simp (config := { maxSteps := 4000000 }) [o_elim83, elim83C, elim83I, elim83J, elim83K, row75C, addToC, addToS, inv51C, scaleC]
  have hA' := hA
  have hB' := hB
  obtain ⟨⟨a1, a2, a3, a4, a5, a6, a7, a8⟩, a9⟩ := hA'
  rw [hr] at hB
  have hB2 := hB
  obtain ⟨⟨d1, d2, d3, d4, d5, d6, d7, d8⟩, d9⟩ := hB2
  rw [hr]
  refine ⟨elimO.start hf hA hB, fun rk _ c _ f _ da _ db _ hO => ⟨fun hc => ⟨fun hrk => ⟨elimP.start hO hrk hc, ?_⟩, fun hrk => ?_⟩, fun hc => ?_⟩⟩
  rotate_left
  · have hfin := elimO.fin hO (.inl hrk)
    obtain ⟨⟨h1, h2, h3, h4, h5, h6, h7⟩, he⟩ := hO
    exact ⟨h1, h2, h3, h4, h5, hfin⟩
  · have hfin := elimO.fin hO (.inr hc)
    obtain ⟨⟨h1, h2, h3, h4, h5, h6, h7⟩, he⟩ := hO
    exact ⟨h1, h2, h3, h4, h5, hfin⟩
  intro rk _ c' _ f _ da _ db _ p _ hP hcc
  have hP' := hP
  obtain ⟨⟨⟨hfd, hAd, hBd, w1, w2, w3, w4⟩, hE⟩, hrk, hcc', hp0, hp1, hpv⟩ := hP
  have hlA := hAd.2
  refine ⟨fun hp => ?_, fun hp => ⟨fun he => ?_, fun hne => by omega⟩⟩
  · obtain ⟨x0, x1, x2, x3⟩ := idx (i := p.i) a2 a4 (by omega) hp w3 hcc'
    rw [x0, add64 (x := p.i) (by omega) (by omega)]
    refine ⟨x1, by omega, by omega, fun hz => ⟨⟨elimP.next hP' hp hz, hcc⟩, by omega⟩, fun hz => ⟨fun he => by omega, fun _ => ⟨fun hpr => ?_, fun hpr => ?_⟩⟩⟩
    · refine ⟨⟨w1, hrk, hAd.1⟩, fun o1 _ n1 _ k1 _ ho1 hn1 hk1 => ⟨⟨by omega, hp, hAd.1⟩, fun o2 _ n2 _ k2 _ ho2 hn2 hk2 => ⟨⟨hfd, fullM.seg hAd w1 hrk ho1 hn1, fullM.seg hAd (by omega) hp ho2 hn2, by omega, by rw [ho1, hn1, ho2, hn2]; exact rowDis (fun h => hpr h.symm) a3, hAd.1.2.2.2.2.2.2.2⟩, fun f1 _ da1 _ hf1 hl1 hb1 hA1 => ⟨⟨w1, hrk, hBd.1⟩, fun o3 _ n3 _ k3 _ ho3 hn3 hk3 => ⟨⟨by omega, hp, hBd.1⟩, fun o4 _ n4 _ k4 _ ho4 hn4 hk4 => ⟨⟨hf1, fullM.seg hBd w1 hrk ho3 hn3, fullM.seg hBd (by omega) hp ho4 hn4, by omega, by rw [ho3, hn3, ho4, hn4]; exact rowDis (fun h => hpr h.symm) d3, hBd.1.2.2.2.2.2.2.2⟩, fun f2 _ db1 _ hf2 hl2 hb2 hB1 => ?_⟩⟩⟩⟩⟩⟩
      have hsw : (bI da1.d, bI db1.d) = swapR (ρ 3).i.toNat (ρ 10).i.toNat rk.i.toNat p.i.toNat (bI da.d) (bI db.d) := by
        rw [swapR_ne (by omega), hA1, hB1, ho1, ho2, ho3, ho4, hn2, hn4, (rowIx (n := (ρ 3).i) w1 hrk a3).2.2, (rowIx (n := (ρ 3).i) (by omega) hp a3).2.2, (rowIx (n := (ρ 10).i) w1 hrk d3).2.2, (rowIx (n := (ρ 10).i) (by omega) hp d3).2.2]
      have fA1 : fullM (ρ 2).i (ρ 3).i (ρ 5).i (ρ 6).i da1.d := fullM.next hAd hl1 hb1
      have fB1 : fullM (ρ 2).i (ρ 10).i (ρ 12).i (ρ 13).i db1.d := fullM.next hBd hl2 hb2
      obtain ⟨y0, y1, y2, y3⟩ := idx (i := rk.i) a2 a4 w1 hrk w3 hcc'
      rw [y0]
      have hcell := allB_get fA1.1.2.2.2.2.2.2.2 (i := rk.i * (ρ 3).i + c'.i) y1 (by have := fA1.2; omega)
      have hlA := fA1.2
      refine ⟨y1, by omega, by omega, ⟨hf2, hcell⟩, fun x _ er _ f3 _ hf3 hx _ => ⟨⟨w1, hrk, fA1.1⟩, fun o5 _ n5 _ k5 _ ho5 hn5 hk5 => ⟨⟨hf3, fullM.seg fA1 w1 hrk ho5 hn5, fA1.1.2.2.2.2.2.2.2, by rw [hx]; exact (invF_range hcell.1 hcell.2).1, by rw [hx]; exact (invF_range hcell.1 hcell.2).2⟩, fun f4 _ da2 _ hf4 hl4 hb4 hA4 => ⟨⟨w1, hrk, fB1.1⟩, fun o6 _ n6 _ k6 _ ho6 hn6 hk6 => ⟨⟨hf4, fullM.seg fB1 w1 hrk ho6 hn6, fB1.1.2.2.2.2.2.2.2, by rw [hx]; exact (invF_range hcell.1 hcell.2).1, by rw [hx]; exact (invF_range hcell.1 hcell.2).2⟩, fun f5 _ db2 _ hf5 hl5 hb5 hB5 => ⟨⟨elimQ.start hP' hp hz hsw hl1 hl2 hx hA4 hB5 ho5 hn5 ho6 hn6 hl4 hl5 hb4 hb5 hf5, hcc⟩, ?_⟩⟩⟩⟩⟩⟩
      intro rk2 _ c2 _ f6 _ da3 _ db3 _ i _ hQ hc2
      refine ⟨fun hi => ?_, fun hi => ?_⟩
      · have hQ' := hQ
        obtain ⟨⟨hfq, hAq, hBq, v1, v2, v3, v4⟩, q1, q2, q3, q4, _⟩ := hQ'
        have hlq := hAq.2
        obtain ⟨z0, z1, z2, z3⟩ := idx (i := i.i) a2 a4 q3 hi v3 q2
        rw [z0, add64 (by omega) (by omega)]
        have hcq := allB_get hAq.1.2.2.2.2.2.2.2 (i := i.i * (ρ 3).i + c2.i) z1 (by omega)
        refine ⟨z1, by omega, by omega, fun hne => ⟨⟨q3, hi, hAq.1⟩, fun r1 _ r2 _ r3 _ hr1 hr2 hr3 => ⟨⟨v1, q1, hAq.1⟩, fun t1 _ t2 _ t3 _ ht1 ht2 ht3 => ⟨⟨hfq, fullM.seg hAq q3 hi hr1 hr2, fullM.seg hAq v1 q1 ht1 ht2, by omega, by rw [hr1, hr2, ht1, ht2]; exact rowDis hne a3, hAq.1.2.2.2.2.2.2.2, hcq⟩, fun f7 _ da4 _ hf7 hl7 hb7 hA7 => ⟨⟨q3, hi, hBq.1⟩, fun r4 _ r5 _ r6 _ hr4 hr5 hr6 => ⟨⟨v1, q1, hBq.1⟩, fun t4 _ t5 _ t6 _ ht4 ht5 ht6 => ⟨⟨hf7, fullM.seg hBq q3 hi hr4 hr5, fullM.seg hBq v1 q1 ht4 ht5, by omega, by rw [hr4, hr5, ht4, ht5]; exact rowDis hne d3, hBq.1.2.2.2.2.2.2.2, hcq⟩, fun f8 _ db4 _ hf8 hl8 hb8 hB8 => ⟨⟨elimQ.next hQ hi hne hA7 hB8 hr1 ht1 ht2 hr4 ht4 ht5 hl7 hl8 hb7 hb8 hf8, hc2⟩, by omega⟩⟩⟩⟩⟩⟩⟩, fun hieq => ⟨⟨elimQ.same hQ hi hieq, hc2⟩, by omega⟩⟩
      · have hQ' := hQ
        obtain ⟨⟨hfq, hAq, hBq, v1, v2, v3, v4⟩, q1, q2, q3, q4, _⟩ := hQ'
        rw [add64 (by omega) (by omega), add64 (by omega) (by omega)]
        exact ⟨elimO.after hQ (by omega), by omega⟩
    · have hsw : (bI da.d, bI db.d) = swapR (ρ 3).i.toNat (ρ 10).i.toNat rk.i.toNat p.i.toNat (bI da.d) (bI db.d) := by
        rw [swapR, if_pos (by omega)]
      have fA1 : fullM (ρ 2).i (ρ 3).i (ρ 5).i (ρ 6).i da.d := hAd
      have fB1 : fullM (ρ 2).i (ρ 10).i (ρ 12).i (ρ 13).i db.d := hBd
      obtain ⟨y0, y1, y2, y3⟩ := idx (i := rk.i) a2 a4 w1 hrk w3 hcc'
      rw [y0]
      have hcell := allB_get fA1.1.2.2.2.2.2.2.2 (i := rk.i * (ρ 3).i + c'.i) y1 (by have := fA1.2; omega)
      have hlA := fA1.2
      refine ⟨y1, by omega, by omega, ⟨hfd, hcell⟩, fun x _ er _ f3 _ hf3 hx _ => ⟨⟨w1, hrk, fA1.1⟩, fun o5 _ n5 _ k5 _ ho5 hn5 hk5 => ⟨⟨hf3, fullM.seg fA1 w1 hrk ho5 hn5, fA1.1.2.2.2.2.2.2.2, by rw [hx]; exact (invF_range hcell.1 hcell.2).1, by rw [hx]; exact (invF_range hcell.1 hcell.2).2⟩, fun f4 _ da2 _ hf4 hl4 hb4 hA4 => ⟨⟨w1, hrk, fB1.1⟩, fun o6 _ n6 _ k6 _ ho6 hn6 hk6 => ⟨⟨hf4, fullM.seg fB1 w1 hrk ho6 hn6, fB1.1.2.2.2.2.2.2.2, by rw [hx]; exact (invF_range hcell.1 hcell.2).1, by rw [hx]; exact (invF_range hcell.1 hcell.2).2⟩, fun f5 _ db2 _ hf5 hl5 hb5 hB5 => ⟨⟨elimQ.start hP' hp hz hsw rfl rfl hx hA4 hB5 ho5 hn5 ho6 hn6 hl4 hl5 hb4 hb5 hf5, hcc⟩, ?_⟩⟩⟩⟩⟩⟩
      intro rk2 _ c2 _ f6 _ da3 _ db3 _ i _ hQ hc2
      refine ⟨fun hi => ?_, fun hi => ?_⟩
      · have hQ' := hQ
        obtain ⟨⟨hfq, hAq, hBq, v1, v2, v3, v4⟩, q1, q2, q3, q4, _⟩ := hQ'
        have hlq := hAq.2
        obtain ⟨z0, z1, z2, z3⟩ := idx (i := i.i) a2 a4 q3 hi v3 q2
        rw [z0, add64 (by omega) (by omega)]
        have hcq := allB_get hAq.1.2.2.2.2.2.2.2 (i := i.i * (ρ 3).i + c2.i) z1 (by omega)
        refine ⟨z1, by omega, by omega, fun hne => ⟨⟨q3, hi, hAq.1⟩, fun r1 _ r2 _ r3 _ hr1 hr2 hr3 => ⟨⟨v1, q1, hAq.1⟩, fun t1 _ t2 _ t3 _ ht1 ht2 ht3 => ⟨⟨hfq, fullM.seg hAq q3 hi hr1 hr2, fullM.seg hAq v1 q1 ht1 ht2, by omega, by rw [hr1, hr2, ht1, ht2]; exact rowDis hne a3, hAq.1.2.2.2.2.2.2.2, hcq⟩, fun f7 _ da4 _ hf7 hl7 hb7 hA7 => ⟨⟨q3, hi, hBq.1⟩, fun r4 _ r5 _ r6 _ hr4 hr5 hr6 => ⟨⟨v1, q1, hBq.1⟩, fun t4 _ t5 _ t6 _ ht4 ht5 ht6 => ⟨⟨hf7, fullM.seg hBq q3 hi hr4 hr5, fullM.seg hBq v1 q1 ht4 ht5, by omega, by rw [hr4, hr5, ht4, ht5]; exact rowDis hne d3, hBq.1.2.2.2.2.2.2.2, hcq⟩, fun f8 _ db4 _ hf8 hl8 hb8 hB8 => ⟨⟨elimQ.next hQ hi hne hA7 hB8 hr1 ht1 ht2 hr4 ht4 ht5 hl7 hl8 hb7 hb8 hf8, hc2⟩, by omega⟩⟩⟩⟩⟩⟩⟩, fun hieq => ⟨⟨elimQ.same hQ hi hieq, hc2⟩, by omega⟩⟩
      · have hQ' := hQ
        obtain ⟨⟨hfq, hAq, hBq, v1, v2, v3, v4⟩, q1, q2, q3, q4, _⟩ := hQ'
        rw [add64 (by omega) (by omega), add64 (by omega) (by omega)]
        exact ⟨elimO.after hQ (by omega), by omega⟩
  · rw [add64 (by omega) (by omega)]
    exact ⟨elimO.skip hP' he, by omega⟩
end Go.Proofs

set_option linter.unusedSimpArgs false
set_option linter.unusedVariables false
namespace Go.Proofs
open Go Go.Eng
theorem identG_ok : identGC.ok Tryd.prog := Ctr.ok_less ident40_ok rfl rfl rfl rfl rfl (fun _ _ => trivial) fun ρ ρ' ai al hp hag hal hpost => by
  match ai, hal with
  | 0, hal =>
    exfalso
    obtain rfl := Option.some.inj hal
    have h2 : ((ρ'.upto 1) 0).i < 1 ∨ 255 < ((ρ'.upto 1) 0).i := hpost
    have e : (ρ'.upto 1) 0 = ρ 0 := by rw [Env.upto, if_pos (by omega)]; exact hag 0 (by decide)
    rw [e] at h2
    have h3 : 1 ≤ (ρ 0).i ∧ (ρ 0).i ≤ 255 := hp
    omega
  | 1, hal => exact ⟨0, hal⟩
  | n + 2, hal => cases hal
theorem vanderG_ok : vanderGC.ok Tryd.prog := Ctr.ok_less vander45_ok rfl rfl rfl rfl rfl (fun _ h => h.1) fun ρ ρ' ai al hp hag hal hpost => by
  match ai, hal with
  | 0, hal =>
    exfalso
    obtain rfl := Option.some.inj hal
    have h2 : vanderBad ((ρ'.upto 5) 2).i ((ρ'.upto 5) 3).i := hpost.2
    have e2 : (ρ'.upto 5) 2 = ρ 2 := by rw [Env.upto, if_pos (by omega)]; exact hag 2 (by decide)
    have e3 : (ρ'.upto 5) 3 = ρ 3 := by rw [Env.upto, if_pos (by omega)]; exact hag 3 (by decide)
    rw [e2, e3] at h2
    exact hp.2 h2
  | 1, hal => exact ⟨0, hal⟩
  | n + 2, hal => cases hal
theorem cloneK_ok : cloneKC.ok Tryd.prog := by
  refine ⟨clone84_ok.1, fun ρ w hF hO hg hd hsub hst hro hpre => (clone84_ok.2 ρ w hF hO hg hd hsub hst hro hpre).mono fun e w' hq => ?_⟩
  obtain ⟨ai, al, ρ', hal, hg', hag, he, hpost, hheap⟩ := hq
  match ai, hal with
  | 0, hal =>
    obtain rfl := Option.some.inj hal
    refine ⟨0, _, ρ', rfl, hg', hag, he, ⟨hpost, ?_⟩, hheap⟩
    obtain ⟨hO', hd', ⟨h1, h2, hdj, hu, hden, _⟩, hsub', hwi'⟩ := hheap
    show (((ρ'.upto 10) 9).d.length : Int) ≤ ((ρ'.upto 10) 8).i
    rw [show (ρ'.upto 10) 9 = ρ' 9 from rfl, show (ρ'.upto 10) 8 = ρ' 8 from rfl]
    rcases hden with ⟨_, hn, hc⟩ | ⟨b, c, g1, g2, g3, g4, g5⟩
    · have hn : (ρ' 9).d = [] := hn
      have hc : (ρ' 8).i = 0 := hc
      rw [hn, hc]; simp
    · exact g4
  | n + 1, hal => cases hal
theorem allB_take {d : Rows'} {n : Nat} (h : allB d) : allB (d.take n) := fun r hr => h r (List.mem_of_mem_take hr)
theorem bI_take {d : Rows'} {n : Nat} : bI (d.take n) = (bI d).take n := by simp [bI, List.map_take]
theorem inverse55_ok : inverse55C.ok Tryd.prog := inverse55_of (by simp [valid36_ok, identG_ok, cloneK_ok, elim83_ok]) fun ρ hg hp => by
  obtain ⟨hf, l0, l1, l2, hB⟩ := hp
  have hne := (fieldD_ne hf).1
  simp [o_inverse55, inverse55C, valid36C, identGC, ident40C, cloneKC, clone84C, elim83C]
  refine ⟨fun h => (hne h).elim, fun _ => ⟨l0, fun v _ hv => ⟨fun hb => ⟨hf, fun h => ?_⟩, fun hb => ⟨fun h => ⟨hf, hv.1 hb, h⟩, fun hrc => ?_⟩⟩⟩⟩
  · have := hv.2 h
    rw [hb] at this; cases this
  obtain ⟨r1, r2, c1, c2, hl⟩ := hv.1 hb
  have vA : validM (ρ 2).i (ρ 3).i (ρ 5).i := hv.1 hb
  have hbd := mul_bound (x := (ρ 2).i) (y := (ρ 3).i) (by omega) r2 (by omega) c2
  refine ⟨⟨r1, r2⟩, fun l _ cp _ d _ _ _ hM hL hI => ⟨⟨l0, l2, by unfold Go.Eng.big; omega⟩, fun cc _ dd _ hdd hcap => ?_⟩⟩
  have hlen : dd.d.length = (ρ 5).i.toNat := by rw [hdd, List.length_take]; omega
  refine ⟨⟨hf, ⟨⟨by omega, r2, by omega, c2, hl, by omega, by omega, by rw [hdd]; exact allB_take hB⟩, by omega⟩, hM, hL⟩, fun rk _ f2 _ d2 _ b2 _ hf2 hA2 hB2 k0 k1 he => ?_⟩
  have hE : elimN (ρ 2).i.toNat (ρ 3).i.toNat (ρ 2).i.toNat (bI dd.d) (bI d.d) (ρ 3).i.toNat = invE ((bI (ρ 7).d).take (ρ 5).i.toNat) (ρ 2).i.toNat := by
    rw [invE, hdd, bI_take, hI, hrc]
  rw [hE] at he
  rw [← he]
  exact ⟨fun h => ⟨hf2, vA, hrc, by simp only; omega⟩, fun h => ⟨hf2, vA, hrc, hB2, by simp only; omega, rfl⟩⟩
theorem sizesB_iff {k t : Int} : sizesB k t = true ↔ 1 ≤ k ∧ k ≤ t ∧ t ≤ 255 := by simp [sizesB, and_assoc]
theorem gen35_ok : gen35C.ok Tryd.prog := gen35_of (by simp [sizes74_ok, vanderG_ok, inverse55_ok, prod49_ok]) fun ρ hg hp => by
  have hf : fieldD (ρ 1).d := hp
  have hne := (fieldD_ne hf).1
  simp [o_gen35, gen35C, sizes74C, vanderGC, vander45C, inverse55C, prod49C]
  intro u0 _
  refine ⟨fun h => (hne h).elim, fun _ u1 _ hs => ⟨fun hb => ⟨hf, fun h => ?_⟩, fun hb => ?_⟩⟩
  · rw [h] at hs; rw [hb] at hs; cases hs
  have hsz : sizesB (ρ 2).i (ρ 3).i = true := by rw [← hs]; exact hb
  obtain ⟨k1, k2, k3⟩ := sizesB_iff.1 hsz
  have hvb : ¬ vanderBad (ρ 3).i (ρ 2).i := by unfold vanderBad; omega
  have hkk := mul_bound (x := (ρ 2).i) (y := (ρ 2).i) (by omega) (show (ρ 2).i ≤ 255 by omega) (by omega) (show (ρ 2).i ≤ 255 by omega)
  have hlek : (ρ 2).i * (ρ 2).i ≤ (ρ 3).i * (ρ 2).i := Int.mul_le_mul_of_nonneg_right k2 (by omega)
  refine ⟨⟨hf, hvb⟩, fun u2 _ l _ cp _ f1 _ d _ hf1 _ hM hL hV u7 _ hcap => ?_⟩
  obtain ⟨a1, a2, a3, a4, a5, a6, a7, a8⟩ := hM
  have vV : validM (ρ 3).i (ρ 2).i l.i := ⟨by omega, by omega, by omega, by omega, a5⟩
  rw [mul64 (by omega) (by omega)]
  have hkn : ((ρ 2).i * (ρ 2).i).toNat = (ρ 2).i.toNat * (ρ 2).i.toNat := Int.toNat_mul (by omega) (by omega)
  have hTop : invE ((bI d.d).take ((ρ 2).i * (ρ 2).i).toNat) (ρ 2).i.toNat = topE (ρ 2).i.toNat (ρ 3).i.toNat := by rw [topE, hV, hkn]
  rw [hTop]
  have vT : validM (ρ 2).i (ρ 2).i ((ρ 2).i * (ρ 2).i) := ⟨by omega, by omega, by omega, by omega, rfl⟩
  have hno : ¬ validM 0 0 0 := by unfold validM; omega
  refine ⟨by omega, by omega, hkk.1, by omega, fun u8 _ => ⟨⟨hf1, hkk.1, by omega, by omega, a8⟩, fun e _ f2 _ hf2 hor u11 _ => ⟨⟨hf2, by omega, by omega, by omega, a8, fun r hr => by cases hr⟩, fun f3 _ hf3 _ => ⟨hf3, fun _ => ?_⟩, fun _ _ _ _ h => (hno h).elim, ?_⟩, ?_⟩⟩
  · rcases hor with ⟨h, _⟩ | ⟨_, h, _⟩
    · exact (h vT).elim
    · exact h
  · intro _ _ _ _ _ _ _ _ _ _ _ _ h
    exact (hno h).elim
  · intro u9 _ li _ ci _ f4 _ di _ hf4 _ hMi hrk hInv u14 _
    obtain ⟨⟨b1, b2, b3, b4, b5, b6, b7, b8⟩, b9⟩ := hMi
    have vI : validM (ρ 2).i (ρ 2).i li.i := ⟨by omega, by omega, by omega, by omega, b5⟩
    refine ⟨⟨hf4, by omega, by omega, by omega, a8, by omega, b6, by omega, b8⟩, fun f5 _ hf5 h => (h vV vI).elim, ?_⟩
    intro u15 _ lp _ cq _ f6 _ dp _ hf6 _ _ hMp hLp hP u20 _ _
    refine ⟨hf6, hsz, ⟨hMp, hLp⟩, hrk, ?_⟩
    rw [hP, hInv, genL, hV, List.take_of_length_le (by rw [vanderL, fillTo_len, a5, Int.toNat_mul (by omega) (by omega)]; exact Nat.le_refl _), List.take_of_length_le (by rw [← hInv, bI_len]; omega)]
end Go.Proofs

set_option linter.unusedSimpArgs false
set_option linter.unusedVariables false
set_option maxRecDepth 100000
namespace Go.Proofs
open Go Go.Eng

def o_encode31 : Out := (.br (.and (.cmp .eql (.dlen (.var 1)) (.lit (0))) (.isnil 0))
 (.ret 0 ⟨9, [(10, (.t (.var 1))), (9, (.t (.lit (1))))], [((.lit (1)), (.lit (1)))], [], []⟩)
 (.pre 0 ⟨0, [(1, (.t (.var 3))), (0, (.t (.var 2)))], [], [], []⟩ (.both (.fresh 9 (.post 0 0 ⟨0, [(1, (.t (.var 3))), (0, (.t (.var 2)))], [], [], []⟩ 9 (.br (.not (.var 9))
 (.ret 0 ⟨9, [(10, (.t (.var 1))), (9, (.t (.lit (2))))], [((.lit (1)), (.lit (1)))], [], []⟩)
 (.need (.cmp .leq (.lit (0)) (.var 5)) (.br (.cmp .gtr (.var 5) (.lit (8192)))
 (.ret 0 ⟨9, [(10, (.t (.var 1))), (9, (.t (.lit (3))))], [((.lit (1)), (.lit (1)))], [], []⟩)
 (.pre 1 ⟨0, [(1, (.t (.var 5))), (0, (.t (.var 2)))], [], [], []⟩ (.both (.fresh 10 (.fresh 11 (.post 1 0 ⟨0, [(1, (.t (.var 5))), (0, (.t (.var 2)))], [], [], []⟩ 10 (.need (.cmp .leq (.lit (0)) (.arith .mul .i64 (.var 2) (.var 10))) (.need (.cmp .leq (.tims (.lit (1)) (.arith .mul .i64 (.var 2) (.var 10))) (.lit (281474976710656))) (.fresh 12 (.need (.cmp .leq (.arith .mul .i64 (.var 2) (.var 10)) (.dlen (.drep (.arith .mul .i64 (.var 2) (.var 10)) (.rcons (.vint .u8 (.lit (0))) .rnil)))) (.need (.cmp .leq (.var 5) (.dlen (.var 7))) (.fresh 13 (.pre 2 ⟨0, [(1, (.t (.var 1))), (3, (.t (.var 3))), (2, (.t (.var 2))), (0, (.r 0))], [((.lit (1)), (.lit (1))), ((.lit (0)), (.lit (0)))], [], []⟩ (.both (.fresh 14 (.fresh 15 (.fresh 16 (.fresh 17 (.fresh 18 (.fresh 19 (.post 2 0 ⟨0, [(1, (.t (.var 1))), (3, (.t (.var 3))), (2, (.t (.var 2))), (0, (.r 0))], [((.lit (1)), (.lit (1))), ((.lit (0)), (.lit (0)))], [], []⟩ 14 (.fresh 20 (.need (.cmp .leq (.lit (0)) (.var 3)) (.need (.cmp .leq (.tims (.lit (32)) (.var 3)) (.lit (281474976710656))) (.fresh 21 (.inv 0 22 ⟨1000, [(1015, (.r 19)), (1014, (.t (.drep (.var 3) (.rcons (.vint .i64 (.lit (0))) (.rcons .vnils .rnil))))), (1013, (.t (.c3 .dsplice (.drep (.arith .mul .i64 (.var 2) (.var 10)) (.rcons (.vint .u8 (.lit (0))) .rnil)) (.lit (0)) (.dtake (.dtake (.var 7) (.var 5)) (.imin (.arith .mul .i64 (.var 2) (.var 10)) (.var 5)))))), (1012, (.t (.var 18))), (1011, (.t (.var 16))), (1010, (.t (.var 15))), (1009, (.r 14)), (1008, (.t (.var 17))), (1007, (.t (.lit (0)))), (1006, (.t (.var 3))), (1005, (.r 21)), (1004, (.r 20)), (1003, (.t (.arith .mul .i64 (.var 2) (.var 10)))), (1002, (.t (.arith .mul .i64 (.var 2) (.var 10)))), (1001, (.r 12)), (1000, (.t (.var 10)))], [((.var 1006), (.var 3)), ((.var 1003), (.arith .mul .i64 (.var 2) (.var 10))), ((.var 1011), (.var 16)), ((.lit (0)), (.lit (0))), ((.var 2), (.var 2)), ((.var 3), (.var 3)), ((.lit (1)), (.lit (1))), ((.var 3), (.var 3)), ((.var 3), (.var 3)), ((.lit (0)), (.lit (0))), ((.lit (0)), (.lit (0))), ((.lit (0)), (.lit (0)))], [], []⟩ (.fresh 22 (.fresh 23 (.fresh 24 (.fresh 25 (.fresh 26 (.fresh 27 (.fresh 28 (.fresh 29 (.fresh 30 (.fresh 31 (.fresh 32 (.fresh 33 (.fresh 34 (.fresh 35 (.fresh 36 (.fresh 37 (.hyp 0 22 (.br (.cmp .lss (.var 29) (.var 3))
 (.need (.cmp .leq (.lit (0)) (.var 22)) (.need (.cmp .leq (.tims (.lit (1)) (.var 22)) (.lit (281474976710656))) (.fresh 38 (.pre 3 ⟨0, [(6, (.t (.var 33))), (5, (.t (.var 34))), (7, (.t (.var 29))), (4, (.t (.var 33))), (3, (.t (.var 32))), (2, (.r 31)), (1, (.t (.var 2))), (0, (.t (.var 3)))], [((.lit (0)), (.lit (0)))], [], []⟩ (.both (.fresh 39 (.fresh 40 (.fresh 41 (.post 3 0 ⟨0, [(6, (.t (.var 33))), (5, (.t (.var 34))), (7, (.t (.var 29))), (4, (.t (.var 33))), (3, (.t (.var 32))), (2, (.r 31)), (1, (.t (.var 2))), (0, (.t (.var 3)))], [((.lit (0)), (.lit (0)))], [], []⟩ 39 (.need (.cmp .leq (.lit (0)) (.var 40)) (.inv 1 42 ⟨1000, [(1015, (.r 37)), (1018, (.t (.drep (.var 22) (.rcons (.vint .u8 (.lit (0))) .rnil)))), (1014, (.t (.var 36))), (1013, (.t (.var 35))), (1012, (.t (.var 34))), (1011, (.t (.var 33))), (1010, (.t (.var 32))), (1008, (.t (.var 30))), (1022, (.t (.lit (0)))), (1021, (.t (.var 41))), (1020, (.t (.var 40))), (1019, (.t (.var 39))), (1009, (.r 31)), (1017, (.t (.var 22))), (1016, (.r 38)), (1007, (.t (.var 29))), (1006, (.t (.var 28))), (1005, (.r 27)), (1004, (.r 26)), (1003, (.t (.var 25))), (1002, (.t (.var 24))), (1001, (.r 23)), (1000, (.t (.var 22)))], [((.var 1017), (.var 22)), ((.var 1006), (.var 28)), ((.var 1003), (.var 25)), ((.var 1011), (.var 33)), ((.lit (0)), (.lit (0))), ((.var 2), (.var 2)), ((.var 3), (.var 3)), ((.lit (1)), (.lit (1))), ((.var 1020), (.var 40)), ((.var 1000), (.var 22)), ((.lit (0)), (.lit (0))), ((.var 1007), (.var 29)), ((.var 3), (.var 3)), ((.var 3), (.var 3)), ((.lit (0)), (.lit (0))), ((.lit (0)), (.lit (0))), ((.lit (0)), (.lit (0))), ((.lit (0)), (.lit (0)))], [], []⟩ (.fresh 42 (.fresh 43 (.fresh 44 (.fresh 45 (.fresh 46 (.fresh 47 (.fresh 48 (.fresh 49 (.fresh 50 (.fresh 51 (.fresh 52 (.fresh 53 (.fresh 54 (.fresh 55 (.fresh 56 (.fresh 57 (.fresh 58 (.fresh 59 (.fresh 60 (.fresh 61 (.fresh 62 (.fresh 63 (.fresh 64 (.hyp 1 42 (.br (.cmp .lss (.var 64) (.var 62))
 (.need (.cmp .leq (.lit (0)) (.var 64)) (.need (.cmp .leq (.lit (0)) (.var 61)) (.need (.cmp .leq (.lit (0)) (.plus (.var 61) (.var 64))) (.need (.cmp .lss (.plus (.var 61) (.var 64)) (.dlen (.var 54))) (.know (.cmp .leq (.dlen (.var 55)) (.var 45)) (.need (.cmp .leq (.lit (0)) (.var 44)) (.need (.cmp .leq (.lit (0)) (.var 45)) (.need (.cmp .leq (.lit (0)) (.arith .mul .i64 (.var 64) (.var 42))) (.need (.cmp .leq (.arith .mul .i64 (.var 64) (.var 42)) (.arith .mul .i64 (.arith .add .i64 (.var 64) (.lit (1))) (.var 42))) (.need (.cmp .leq (.arith .mul .i64 (.arith .add .i64 (.var 64) (.lit (1))) (.var 42)) (.var 45)) (.pre 4 ⟨0, [(13, (.t (.var 45))), (12, (.t (.var 55))), (7, (.t (.var 59))), (6, (.t (.var 60))), (1, (.t (.var 50))), (14, (.t (.icell (.var 54) (.plus (.var 61) (.var 64)) 0))), (11, (.t (.minus (.var 45) (.arith .mul .i64 (.var 64) (.var 42))))), (10, (.t (.minus (.arith .mul .i64 (.arith .add .i64 (.var 64) (.lit (1))) (.var 42)) (.arith .mul .i64 (.var 64) (.var 42))))), (9, (.t (.ife (.var 45) (.arith .mul .i64 (.var 64) (.var 42)) (.lit (0)) (.arith .mul .i64 (.var 64) (.var 42))))), (8, (.r 43)), (5, (.t (.var 59))), (4, (.t (.var 42))), (3, (.t (.lit (0)))), (2, (.r 58)), (0, (.r 0))], [((.lit (1)), (.lit (1))), ((.lit (0)), (.lit (0)))], [], []⟩ (.both (.fresh 65 (.fresh 66 (.post 4 0 ⟨0, [(13, (.t (.var 45))), (12, (.t (.var 55))), (7, (.t (.var 59))), (6, (.t (.var 60))), (1, (.t (.var 50))), (14, (.t (.icell (.var 54) (.plus (.var 61) (.var 64)) 0))), (11, (.t (.minus (.var 45) (.arith .mul .i64 (.var 64) (.var 42))))), (10, (.t (.minus (.arith .mul .i64 (.arith .add .i64 (.var 64) (.lit (1))) (.var 42)) (.arith .mul .i64 (.var 64) (.var 42))))), (9, (.t (.ife (.var 45) (.arith .mul .i64 (.var 64) (.var 42)) (.lit (0)) (.arith .mul .i64 (.var 64) (.var 42))))), (8, (.r 43)), (5, (.t (.var 59))), (4, (.t (.var 42))), (3, (.t (.lit (0)))), (2, (.r 58)), (0, (.r 0))], [((.lit (1)), (.lit (1))), ((.lit (0)), (.lit (0)))], [], []⟩ 65 (.back 1 42 ⟨1000, [(1015, (.r 57)), (1018, (.t (.var 66))), (1014, (.t (.var 56))), (1013, (.t (.var 55))), (1012, (.t (.var 54))), (1011, (.t (.var 53))), (1010, (.t (.var 52))), (1008, (.t (.var 65))), (1022, (.t (.arith .add .i64 (.var 64) (.lit (1))))), (1021, (.t (.var 63))), (1020, (.t (.var 62))), (1019, (.t (.var 61))), (1009, (.r 51)), (1017, (.t (.var 59))), (1016, (.r 58)), (1007, (.t (.var 49))), (1006, (.t (.var 48))), (1005, (.r 47)), (1004, (.r 46)), (1003, (.t (.var 45))), (1002, (.t (.var 44))), (1001, (.r 43)), (1000, (.t (.var 42)))], [((.var 1017), (.var 59)), ((.var 1006), (.var 48)), ((.var 1003), (.var 45)), ((.var 1011), (.var 53)), ((.lit (0)), (.lit (0))), ((.var 2), (.var 2)), ((.var 3), (.var 3)), ((.lit (1)), (.lit (1))), ((.var 1020), (.var 62)), ((.var 1000), (.var 42)), ((.lit (0)), (.lit (0))), ((.var 1007), (.var 49)), ((.var 3), (.var 3)), ((.var 3), (.var 3)), ((.lit (0)), (.lit (0))), ((.lit (0)), (.lit (0))), ((.lit (0)), (.lit (0))), ((.lit (0)), (.lit (0)))], [], []⟩)))) .top))))))))))))
 (.need (.cmp .leq (.lit (0)) (.var 49)) (.need (.cmp .lss (.var 49) (.var 3)) (.need (.cmp .lss (.var 49) (.dlen (.var 56))) (.pack [.arr 58 5 [CK.int .u8] (.var 60) (.var 59), .abs 57 2] 65 (.back 0 22 ⟨1000, [(1015, (.r 65)), (1014, (.t (.dput (.var 56) (.var 49) 0 (.rcons (.vint .i64 (.var 49)) (.rcons (.vslice 58 (.lit (0)) (.var 42) (.var 59) 1) .rnil))))), (1013, (.t (.var 55))), (1012, (.t (.var 54))), (1011, (.t (.var 53))), (1010, (.t (.var 52))), (1009, (.r 51)), (1008, (.t (.var 50))), (1007, (.t (.arith .add .i64 (.var 49) (.lit (1))))), (1006, (.t (.var 48))), (1005, (.r 47)), (1004, (.r 46)), (1003, (.t (.var 45))), (1002, (.t (.var 44))), (1001, (.r 43)), (1000, (.t (.var 42)))], [((.var 1006), (.var 48)), ((.var 1003), (.var 45)), ((.var 1011), (.var 53)), ((.lit (0)), (.lit (0))), ((.var 2), (.var 2)), ((.var 3), (.var 3)), ((.lit (1)), (.lit (1))), ((.var 3), (.var 3)), ((.var 3), (.var 3)), ((.lit (0)), (.lit (0))), ((.lit (0)), (.lit (0))), ((.lit (0)), (.lit (0))), ((.lit (0)), (.lit (0)))], [], []⟩)))))))))))))))))))))))))))))))))))) .top)))))
 (.pack [.cells 26 160 [(.vint .i64 (.var 3)), (.vint .i64 (.var 2)), (.vslice 31 (.lit (0)) (.var 32) (.var 33) 1)], .arr 31 5 [CK.int .u8] (.var 34) (.var 33), .arr 23 5 [CK.int .u8] (.var 35) (.var 25), .abs 37 2] 38 (.ret 1 ⟨9, [(13, (.r 38)), (12, (.t (.var 36))), (11, (.t (.var 30))), (10, (.t (.var 28))), (9, (.r 27))], [((.var 10), (.var 28)), ((.lit (1)), (.lit (1))), ((.lit (0)), (.lit (0))), ((.var 3), (.var 3)), ((.lit (0)), (.lit (0)))], [], []⟩)))))))))))))))))))))))))))))))) .top))))))))))) .top))))))) .top)))
theorem o_encode31_eq : treeOf ⟨Tryd.prog, encode31C, [sizes74C, piece26C, genGC, row75C, addToC], [encode31I, encode31J]⟩ 100000 Tryd.f72 = o_encode31 := by kernel_rfl
theorem encode31_of (hd : ∀ c ∈ ([sizes74C, piece26C, genGC, row75C, addToC] : List Ctr), c.ok Tryd.prog) (h : ∀ ρ : Env, ρ.good → (encode31C).pre ρ → o_encode31.den ⟨Tryd.prog, encode31C, [sizes74C, piece26C, genGC, row75C, addToC], [encode31I, encode31J]⟩ ρ) : (encode31C).ok Tryd.prog :=
  ok_of_tree Tryd.func72 (fun a w => Tryd.call72 a w) hd 100000 (fun ρ hg hp => by rw [o_encode31_eq]; exact h ρ hg hp)
end Go.Proofs

set_option linter.unusedSimpArgs false
set_option linter.unusedVariables false
namespace Go.Proofs
open Go Go.Eng

theorem genG_ok : genGC.ok Tryd.prog := Ctr.ok_less gen35_ok rfl rfl rfl rfl rfl (fun _ h => h.1) fun ρ ρ' ai al hp hag hal hpost => by
  match ai, hal with
  | 0, hal =>
    exfalso
    obtain rfl := Option.some.inj hal
    obtain ⟨_, h2⟩ : _ ∧ (sizesB ((ρ'.upto 5) 2).i ((ρ'.upto 5) 3).i = true → (topE ((ρ'.upto 5) 2).i.toNat ((ρ'.upto 5) 3).i.toNat).2.2 < ((ρ'.upto 5) 2).i.toNat) := hpost
    have e2 : (ρ'.upto 5) 2 = ρ 2 := by rw [Env.upto, if_pos (by omega)]; exact hag 2 (by decide)
    have e3 : (ρ'.upto 5) 3 = ρ 3 := by rw [Env.upto, if_pos (by omega)]; exact hag 3 (by decide)
    rw [e2, e3] at h2
    obtain ⟨_, p2, p3⟩ := hp
    have := h2 p2
    omega
  | 1, hal => exact ⟨0, hal⟩
  | n + 2, hal => cases hal
/-! ### Pieces' lengths -/
theorem pieceLen_ge {k n : Nat} (hk : 0 < k) : n ≤ k * pieceLen k n := by
  unfold pieceLen
  have h1 := Nat.div_add_mod (n + k - 1) k
  have h2 := Nat.mod_lt (n + k - 1) hk
  omega
theorem pieceLen_lt {k n : Nat} (hk : 0 < k) : k * pieceLen k n < n + k := by
  unfold pieceLen
  have h1 := Nat.div_add_mod (n + k - 1) k
  omega
theorem pieceLen_le {k n : Nat} (hk : 0 < k) : pieceLen k n ≤ n := by
  have h := pieceLen_lt (n := n) hk
  by_cases h2 : pieceLen k n ≤ n
  · exact h2
  · have h3 : k * (n + 1) ≤ k * pieceLen k n := Nat.mul_le_mul_left k (by omega)
    rw [Nat.mul_add, Nat.mul_one] at h3
    have h4 : n * 1 ≤ k * n := by rw [Nat.mul_comm k n]; exact Nat.mul_le_mul_left n hk
    omega
theorem pieceLen_tdiv {k : Int} {n : Nat} (hk : 1 ≤ k) : ((n : Int) + k - 1).tdiv k = (pieceLen k.toNat n : Nat) := by
  rw [Int.tdiv_eq_ediv_of_nonneg (by omega), pieceLen, Int.natCast_ediv]
  congr 1 <;> omega
/-! ### Rows spliced -/
theorem bI_splice {d x : Rows'} (h : x.length ≤ d.length) : bI (spliceD d 0 x) = bI x ++ (bI d).drop x.length := by
  simp [spliceD, bI, List.map_drop]
theorem allB_splice {d x : Rows'} (hd : allB d) (hx : allB x) : allB (spliceD d 0 x) := fun r hr => by
  unfold spliceD at hr
  rcases List.mem_append.1 hr with hr | hr
  · rcases List.mem_append.1 hr with hr | hr
    · simp at hr
    · exact hx r hr
  · exact hd r (List.mem_of_mem_drop hr)
theorem encW_init {k total len lg cg : Int} {f dg data D : Rows'} (hf : fieldD f) (hs : sizesB k total = true) (h1 : len ≤ 8192) (h2 : len = data.length) (hB : allB data) (hM : fullM total k lg cg dg) (hG : bI dg = genL k.toNat total.toNat) (hD : D = List.replicate total.toNat [.int .i64 0, .slice none 0 0]) :
    encW k total len (pieceLen k.toNat data.length : Nat) (k * (pieceLen k.toNat data.length : Nat)) (k * (pieceLen k.toNat data.length : Nat)) lg cg 0 f dg (spliceD (List.replicate (k * (pieceLen k.toNat data.length : Nat)).toNat [.int .u8 0]) 0 data) D data := by
  obtain ⟨k1, k2, k3⟩ := sizesB_iff.1 hs
  have hge := pieceLen_ge (k := k.toNat) (n := data.length) (by omega)
  have hle := pieceLen_le (k := k.toNat) (n := data.length) (by omega)
  have hc : (k * (pieceLen k.toNat data.length : Nat)).toNat = k.toNat * pieceLen k.toNat data.length := by rw [Int.toNat_mul (by omega) (by omega)]; simp
  have hc0 : 0 ≤ k * (pieceLen k.toNat data.length : Nat) := Int.mul_nonneg (by omega) (by omega)
  refine ⟨hf, hs, h1, h2, hB, rfl, by omega, rfl, ?_, allB_splice allB_rep hB, ?_, hM, hG, by rw [hD, List.length_replicate], fun row hr => by rw [hD] at hr; rw [List.eq_of_mem_replicate hr]; rfl, by omega, by omega⟩
  · rw [spliceD_len (by rw [List.length_replicate]; omega), List.length_replicate]; omega
  · rw [bI_splice (by rw [List.length_replicate]; omega), bI_rep, hc, fullL, bI_len, List.drop_replicate]; simp
theorem encW_next {k total len l lf cf lg cg i : Int} {f dg df D data : Rows'} {v w : Value} (h : encW k total len l lf cf lg cg i f dg df D data) (hi : i < total) : encW k total len l lf cf lg cg (i + 1) f dg df (putD D i 0 [v, w]) data := by
  obtain ⟨a1, a2, a3, a4, a5, a6, a7, a8, a9, a10, a11, a12, a13, a14, a17, a15, a16⟩ := h
  refine ⟨a1, a2, a3, a4, a5, a6, a7, a8, a9, a10, a11, a12, a13, by rw [putD_len]; exact a14, fun row hr => ?_, by omega, by omega⟩
  unfold putD at hr
  rcases List.mem_or_eq_of_mem_set hr with hr | rfl
  · exact a17 row hr
  · have hl : i.toNat < D.length := by omega
    have := a17 _ (List.getElem_mem hl)
    rw [List.getElem?_eq_getElem hl, Option.getD_some, splice_length (by rw [this]; simp), this]
theorem encW_f {k total len l lf cf lg cg i : Int} {f f' dg df D data : Rows'} (h : encW k total len l lf cf lg cg i f dg df D data) (hf : fieldD f') : encW k total len l lf cf lg cg i f' dg df D data := ⟨hf, h.2⟩
theorem encAt_mono {h h' : Hp} {D : Rows'} {n : Nat} {f : Nat → List Int} (he : encAt h D n f) (hl : Hp.le h h') : encAt h' D n f := fun j hj => by
  obtain ⟨v, d, e1, e2, e3⟩ := he j hj
  exact ⟨v, d, e1, Rd_mono e2 hl, e3⟩
theorem encAt_next {h h' : Hp} {D : Rows'} {i : Int} {f : Nat → List Int} {v : Value} {d : Rows'} (he : encAt h D i.toNat f) (hl : Hp.le h h') (h0 : 0 ≤ i) (hi : i.toNat < D.length) (hc : (D[i.toNat]?.getD []).length = 2) (hr : Rd h' kB v d) (hd : bI d = f i.toNat) (hB : allB d) :
    encAt h' (putD D i 0 [.int .i64 i, v]) (i.toNat + 1) f := fun j hj => by
  by_cases hji : j = i.toNat
  · subst hji
    refine ⟨v, d, ?_, hr, hd, hB⟩
    have hs : splice (D[i.toNat]?.getD []) 0 [.int .i64 i, v] = [.int .i64 i, v] := by
      simp only [splice, List.take_zero, List.nil_append]
      rw [List.drop_eq_nil_of_le (by rw [hc]; exact Nat.le_refl _), List.append_nil]
    rw [putD, List.getElem?_set_self hi, hs, Int.toNat_of_nonneg h0]
  · obtain ⟨v', d', e1, e2, e3⟩ := he j (by omega)
    exact ⟨v', d', by rw [putD, List.getElem?_set_ne (by omega)]; exact e1, Rd_mono e2 hl, e3⟩
set_option maxRecDepth 20000 in
set_option pp.deepTerms true in
set_option pp.maxSteps 1000000 in
theorem encode31_ok : encode31C.ok Tryd.prog := encode31_of (by simp [sizes74_ok, piece26_ok, genG_ok, row75_ok, addTo_ok]) fun ρ hg hp => by
  obtain ⟨hf, hl, hB, hrk⟩ := hp
  have hne := (fieldD_ne hf).1
  simp (config := { maxSteps := 4000000 }) [o_encode31, encode31C, encode31I, encode31J, sizes74C, piece26C, genGC, gen35C, row75C, addToC]
  refine ⟨fun h => (hne h).elim, fun _ v _ hv => ⟨fun hb => ⟨hf, by rw [← hv]; exact hb⟩, fun hb => ?_⟩⟩
  have hsz : sizesB (ρ 2).i (ρ 3).i = true := by rw [← hv]; exact hb
  obtain ⟨k1, k2, k3⟩ := sizesB_iff.1 hsz
  refine ⟨by omega, fun h => ⟨hf, hsz, h⟩, fun hle l _ e _ _ hpl => ?_⟩
  have hnb : ¬ pieceBad (ρ 2).i (ρ 5).i := by unfold pieceBad; omega
  obtain ⟨hpl1, _⟩ := hpl hnb
  rw [hl, pieceLen_tdiv k1] at hpl1
  have hge := pieceLen_ge (k := (ρ 2).i.toNat) (n := (ρ 7).d.length) (by omega)
  have hlt := pieceLen_lt (k := (ρ 2).i.toNat) (n := (ρ 7).d.length) (by omega)
  have hkl : (ρ 2).i * l.i = (((ρ 2).i.toNat * pieceLen (ρ 2).i.toNat (ρ 7).d.length : Nat) : Int) := by rw [hpl1, Int.natCast_mul, Int.toNat_of_nonneg (by omega)]
  rw [mul64 (by omega) (by omega)]
  have hmax : max ((ρ 2).i * l.i) 0 = (ρ 2).i * l.i := by omega
  refine ⟨by omega, by omega, fun u3 _ => ⟨by omega, by omega, fun u4 _ => ⟨⟨hf, hsz, hrk hsz⟩, fun u5 _ lg _ cg _ f1 _ dg _ ab _ hf1 _ hM _ hG u11 _ => ⟨by omega, by omega, fun u12 _ => ⟨⟨?_, fun j hj => by omega⟩, ?_⟩⟩⟩⟩⟩
  · have htake : (((ρ 7).d.take (ρ 5).i.toNat).take (if (ρ 5).i < (ρ 2).i * l.i then (ρ 5).i else (ρ 2).i * l.i).toNat) = (ρ 7).d := by
      rw [List.take_of_length_le (l := (ρ 7).d) (by omega), List.take_of_length_le (by split <;> omega)]
    rw [htake, hpl1]
    exact encW_init hf1 hsz hle hl hB hM hG rfl
  intro l2 _ u14 _ lf _ cf _ u17 _ u18 _ u19 _ i _ f2 _ u22 _ lg2 _ cg2 _ dg2 _ df2 _ D2 _ ab2 _ hW hE
  refine ⟨fun hi => ?_, fun hi u29 _ hst => ?_⟩
  · have hW' := hW
    obtain ⟨a1, a2, a3, a4, a5, a6, a7, a8, a9, a10, a11, a12, a13, a14, a17, a15, a16⟩ := hW'
    refine ⟨by omega, by omega, fun u29 _ => ⟨⟨a15, hi, a12.1⟩, fun o _ n _ c _ ho hn hc => ⟨by omega, ⟨hW, hE, hi, ho, hn, by omega, allB_rep, ?_⟩, ?_⟩⟩⟩
    · rw [bI_rep]; rfl
    intro l3 _ u34 _ lf3 _ cf3 _ u37 _ u38 _ u39 _ i3 _ f3 _ u42 _ lg3 _ cg3 _ dg3 _ df3 _ D3 _ ab3 _ rp _ cp _ pd _ o3 _ n3 _ c3 _ j _ hW3 hE3 hii hi3 ho3 hn3 j0 j1 hpl hpB hp3
    have hW3' := hW3
    obtain ⟨b1, b2, b3, b4, b5, b6, b7, b8, b9, b10, b11, b12, b13, b14, b17, b15, b16⟩ := hW3'
    obtain ⟨⟨m1, m2, m3, m4, m5, m6, m7, m8⟩, m9⟩ := b12
    have hl0 : 0 ≤ l3.i := by omega
    refine ⟨fun hj => ?_, fun hj => ?_⟩
    · have hjk : j.i < (ρ 2).i := by omega
      have hbo := mul_bound (x := i3.i) (y := (ρ 2).i) b15 (show i3.i ≤ 255 by omega) (by omega) (show (ρ 2).i ≤ 255 by omega)
      have hbj := mul_bound (x := j.i) (y := l3.i) j0 (show j.i ≤ 255 by omega) hl0 b7
      have hltG : i3.i * (ρ 2).i + j.i < (ρ 3).i * (ρ 2).i := by
        have := Int.mul_le_mul_of_nonneg_right (show i3.i + 1 ≤ (ρ 3).i by omega) (show 0 ≤ (ρ 2).i by omega)
        rw [Int.add_mul, Int.one_mul] at this; omega
      have he : (j.i + 1) * l3.i = j.i * l3.i + l3.i := by rw [Int.add_mul, Int.one_mul]
      have hltF : j.i * l3.i + l3.i ≤ (ρ 2).i * l3.i := by
        have := Int.mul_le_mul_of_nonneg_right (show j.i + 1 ≤ (ρ 2).i by omega) hl0
        omega
      have hcell := allB_get m8 (i := o3.i + j.i) (by omega) (by omega)
      rw [add64 (by omega) (by omega), mul64 (by omega) (by omega), mul64 (by omega) (by omega), he]
      refine ⟨j0, by omega, by omega, by omega, fun hcap => ⟨by omega, by omega, hbj.1, by omega, by omega, ⟨b1, ⟨by omega, hl0, by omega, by unfold Go.Eng.big; omega⟩, ⟨by split <;> omega, by omega, by split <;> omega, by unfold Go.Eng.big; omega⟩, by omega, hpB, b10, hcell⟩, fun f4 _ d4 _ hf4 hl4 hB4 he4 => ?_⟩⟩
      refine ⟨⟨encW_f hW3 hf4, hE3, hii, hi3, ho3, hn3, by omega, by omega, by omega, hB4, ?_⟩, by omega⟩
      have hsg : seg (bI df3.d) (if cf3.i = j.i * l3.i then 0 else j.i * l3.i).toNat (j.i * l3.i + l3.i - j.i * l3.i).toNat = seg (bI df3.d) (j.i.toNat * l3.i.toNat) l3.i.toNat := by
        rw [show j.i * l3.i + l3.i - j.i * l3.i = l3.i by omega]
        split
        · have : l3.i.toNat = 0 := by omega
          rw [this]; simp [seg]
        · rw [Int.toNat_mul j0 hl0]
      have hgd : (bI dg3.d).getD (i3.i.toNat * (ρ 2).i.toNat + j.i.toNat) 0 = cellI dg3.d (o3.i + j.i) 0 := by
        have := bI_get (d := dg3.d) (i := o3.i + j.i) (by omega) (by omega)
        rw [show (o3.i + j.i).toNat = i3.i.toNat * (ρ 2).i.toNat + j.i.toNat by rw [ho3, Int.toNat_add hbo.1 j0, Int.toNat_mul b15 (by omega)]] at this
        rw [List.getD_eq_getElem?_getD, this]; rfl
      rw [he4, hp3, hsg, show (j.i + 1).toNat = j.i.toNat + 1 by omega, pieceN, hgd]
    · have hjk : j.i = (ρ 2).i := by omega
      refine ⟨b15, hi3, by omega, fun u56 _ hst => ?_⟩
      rw [add64 (by omega) (by omega)]
      refine ⟨⟨encW_next hW3 hi3, ?_⟩, by omega⟩
      obtain ⟨ha, la, da⟩ := star_mem hst (List.mem_cons_self ..)
      obtain ⟨hb, lb, db⟩ := star_mem_abs hst (n := 57) (t := 2) (by simp)
      have hr := arr_Rd (n := l3.i.toNat) (k := cp.i.toNat) da la (by simp; omega) (by simp)
      have hr : Rd u56.h kB (.slice (addrOf rp.r 0) l3.i.toNat cp.i.toNat) pd.d := by simpa [kB] using hr
      have hdl : i3.i.toNat < D3.d.length := by omega
      rw [show (i3.i + 1).toNat = i3.i.toNat + 1 by omega]
      refine encAt_next hE3 (Hp.le_trans (by simpa using db) lb) b15 hdl (by rw [List.getElem?_eq_getElem hdl]; exact b17 _ (List.getElem_mem hdl)) hr ?_ hpB
      rw [hp3, encP, hjk, b13, b11, bI_len]
      rw [show l3.i.toNat = pieceLen (ρ 2).i.toNat (ρ 7).d.length by omega]
  · obtain ⟨a1, a2, a3, a4, a5, a6, a7, a8, a9, a10, a11, a12, a13, a14, a17, a15, a16⟩ := hW
    obtain ⟨hb, lb, db⟩ := star_mem_abs hst (n := 37) (t := 2) (by simp)
    refine ⟨a1, hsz, hle, a14, ?_⟩
    rw [show i.i.toNat = (ρ 3).i.toNat by omega] at hE
    exact encAt_mono hE (Hp.le_trans (by simpa using db) lb)
end Go.Proofs

set_option linter.unusedSimpArgs false
set_option linter.unusedVariables false
namespace Go.Proofs
open Go Go.Eng

end Go.Proofs

set_option linter.unusedSimpArgs false
set_option linter.unusedVariables false
namespace Go.Proofs
open Go Go.Eng
theorem sizes3_ok : sizes3C.ok Tryd.prog := sizes3_of (by simp) fun ρ hg hp => by
  simp [o_sizes3, sizes3C]
  refine ⟨fun h1 => ⟨fun h2 => ⟨fun h3 => ?_, fun h3 => ?_⟩, fun h2 => ?_⟩, fun h1 => ?_⟩
  · simp [sizes3, h1, h2, h3, cmpOf]
  · simp [sizes3]; omega
  · simp [sizes3]; omega
  · simp [sizes3]; omega
set_option maxRecDepth 20000 in
theorem checkM_ok : checkMC.ok Tryd.prog := checkM_of (by simp [sizes3_ok]) fun ρ hg hp => by
  have hp : 0 ≤ (ρ 6).i := hp
  simp [o_checkM, checkMC, sizes3C, manOk, manV, manT, cellsT]
  refine fun u _ hu => ⟨fun h hs => by (rw [hu, hs] at h; cases h), fun h => ⟨fun a _ b => by omega, fun a => ⟨fun b _ _ c => by omega, fun b => ⟨hp, fun c _ _ _ => c, fun c => ⟨by rw [← hu, h], a, b, c⟩⟩⟩⟩⟩
theorem shr8 {x : Int} : arithOf .shr .i64 x 8 = x.fdiv 256 := rfl
set_option maxRecDepth 20000 in
theorem pieceDg_ok : pieceDgC.ok Tryd.prog := pieceDg_of (by simp [newHash_ok, write_ok, sum_ok]) fun ρ hg hp => by
  obtain ⟨o0, l0, lc, l1, hle, hB, hGr, hGd⟩ := hp
  simp (config := { maxSteps := 2000000 }) [o_pieceDg, pieceDgC, newHashC, writeC, sumC, gOk]
  have hseg : segB [[.int .u8 (IntKind.u8.wrap (arithOf .shr .i64 (ρ 0).i 8))], [.int .u8 (IntKind.u8.wrap (ρ 0).i)]] 0 2 = pieceIn (ρ 0).i := by
    rw [shr8, wrap8, wrap8]; rfl
  refine fun h _ hh => ⟨⟨⟨[], hh, by decide⟩, ?_, hGr, hGd⟩, fun g _ hg1 => ?_⟩
  · intro row hr
    simp at hr
    rcases hr with rfl | rfl
    · simp [rowI, vInt, wrap8]; omega
    · simp [rowI, vInt, wrap8]; omega
  · rw [hseg] at hg1
    have h1 := hg1 [] hh
    refine ⟨⟨⟨_, h1, by simp [pieceIn]⟩, o0, l0, lc, by omega, hle, hB, hGr, hGd⟩, fun k _ hk => ⟨⟨⟨_, hk _ h1, ?_⟩, hGr, hGd⟩, fun d _ hd => ?_⟩⟩
    · have : (segB (ρ 5).d (ρ 2).i (ρ 3).i).length ≤ (ρ 3).i.toNat := by simp [segB]; omega
      simp [pieceIn]; omega
    · exact (show rowL _ 32 = rowL d.d 32 from rfl).trans (hd _ (hk _ h1))
theorem wThen_ok {lim : Int} {b : Bool} {x m s : List Int} (h : (b, x) = wThen lim false m s) (hf : (m.length : Int) + s.length ≤ lim) : b = false ∧ x = m ++ s := by
  rw [wThen_fits (by simp [wFull]; omega)] at h
  simpa using h
theorem wrap16 {x : Int} : IntKind.u16.wrap x = x % 65536 := by simp [IntKind.wrap, IntKind.bits, IntKind.signed]
theorem row_dgs {d : Rows'} {i : Nat} (h : i < d.length) : rowL [dgCells (cellI d i)] 32 = rowB d[i] := by
  refine List.map_congr_left fun j hj => ?_
  rw [dgCells_get (List.mem_range.1 hj)]
  simp [cellI, cellV, rowI, h]
theorem dgs_take {d : Rows'} {i : Nat} (h : i < d.length) : ((dgs d).take (i + 1)).flatten = ((dgs d).take i).flatten ++ rowB d[i] := by
  rw [List.take_add_one, List.getElem?_eq_getElem (by simpa [dgs] using h)]
  simp [dgs]
set_option maxRecDepth 20000 in
set_option maxHeartbeats 800000 in
theorem encMan_ok : encManC.ok Tryd.prog := encMan_of (by simp [checkM_ok, newWriter_ok, u8_ok, u16_ok, rawM_ok, raw32_ok, bytes_ok]) fun ρ hg hp => by
  obtain ⟨l0, hl, ho, hd⟩ := hp
  simp (config := { maxSteps := 2000000 }) [o_encMan, encManC, encManI, checkMC, newWriterC, u8C, u16C, numFn, rawMC, raw32C, bytesC, wHeap, wCells, wPost]
  refine ⟨l0, fun e _ he => ⟨fun hne => ?_, fun hz lim _ hlim => ?_⟩⟩
  · by_cases h : manOk (ρ 0).i (ρ 1).i (ρ 2).i (ρ 3).i (ρ 6).i = true
    · rw [if_pos h] at he; exact absurd he hne
    · rw [if_neg h] at he; exact ⟨he.symm, by simpa using h⟩
  · have hok : manOk (ρ 0).i (ρ 1).i (ρ 2).i (ρ 3).i (ρ 6).i = true := by
      by_cases h : manOk (ρ 0).i (ρ 1).i (ρ 2).i (ρ 3).i (ρ 6).i = true
      · exact h
      · rw [if_neg h] at he; omega
    have hb := hok
    simp [manOk, sizes3] at hb
    obtain ⟨⟨b1, b2, b3, b4⟩, b5, b6, b7⟩ := hb
    have hl2 : lim.i = 39 + 32 * (ρ 2).i := by
      rw [hlim, mul64 (by omega) (by omega), add64 (by omega) (by omega)]; omega
    clear hlim
    simp only [wrap8, wrap16]
    have hman : List.drop 4 (rowL [([.int .i64 (ρ 0).i, .int .i64 (ρ 1).i, .int .i64 (ρ 2).i, .int .i64 (ρ 3).i] ++ (dgCells (cellX (ρ 4).d) ++ [.slice (addrOf (ρ 5).r 0) (ρ 6).i.toNat (ρ 7).i.toNat]) : List Value)] 36) = rowL (ρ 4).d 32 := rfl
    have hone : oneRow [([.int .i64 (ρ 0).i, .int .i64 (ρ 1).i, .int .i64 (ρ 2).i, .int .i64 (ρ 3).i] ++ (dgCells (cellX (ρ 4).d) ++ [.slice (addrOf (ρ 5).r 0) (ρ 6).i.toNat (ρ 7).i.toNat]) : List Value)] 37 := ⟨_, rfl, by simp [dgCells]⟩
    have hlen : ∀ {l n c : Int} {d : Rows'}, wOk l n c d → n = ((bI d).length : Int) := fun h => by rw [bI_len]; exact h.2.2.1
    refine ⟨⟨by omega, by omega, rfl, by omega, by intro r hr; cases hr⟩, fun f1 _ n1 _ c1 _ d1 _ w1 g1 => ?_⟩
    obtain ⟨y1, x1⟩ := wThen_ok g1 (by rw [hl2]; simp [bI, beL_len]; omega)
    have L1 : (bI d1.d).length = 2 := by rw [x1]; simp [bI, beL_len]
    have q1 := hlen w1
    refine ⟨⟨w1, by omega, by omega, by omega⟩, fun f2 _ n2 _ c2 _ d2 _ w2 g2 => ?_⟩
    rw [y1] at g2
    obtain ⟨y2, x2⟩ := wThen_ok g2 (by rw [hl2, L1, beL_len]; omega)
    have L2 : (bI d2.d).length = 3 := by rw [x2, List.length_append, L1, beL_len]
    have q2 := hlen w2
    refine ⟨⟨w2, by omega, by omega, by omega⟩, fun f3 _ n3 _ c3 _ d3 _ w3 g3 => ?_⟩
    rw [y2] at g3
    obtain ⟨y3, x3⟩ := wThen_ok g3 (by rw [hl2, L2, beL_len]; omega)
    have L3 : (bI d3.d).length = 4 := by rw [x3, List.length_append, L2, beL_len]
    have q3 := hlen w3
    refine ⟨⟨w3, by omega, by omega, by omega⟩, fun f4 _ n4 _ c4 _ d4 _ w4 g4 => ?_⟩
    rw [y3] at g4
    obtain ⟨y4, x4⟩ := wThen_ok g4 (by rw [hl2, L3, beL_len]; omega)
    have L4 : (bI d4.d).length = 5 := by rw [x4, List.length_append, L3, beL_len]
    have q4 := hlen w4
    refine ⟨⟨w4, by omega, by omega, by omega⟩, fun f5 _ n5 _ c5 _ d5 _ w5 g5 => ?_⟩
    rw [y4] at g5
    obtain ⟨y5, x5⟩ := wThen_ok g5 (by rw [hl2, L4, beL_len]; omega)
    have L5 : (bI d5.d).length = 7 := by rw [x5, List.length_append, L4, beL_len]
    have q5 := hlen w5
    refine ⟨⟨w5, by omega, hone, ?_⟩, fun f6 _ n6 _ c6 _ d6 _ w6 g6 => ?_⟩
    · have := hman
      exact this ▸ ho
    have g6' : (f6.b, bI d6.d) = wThen lim.i f5.b (bI d5.d) (rowL (ρ 4).d 32) := g6
    rw [y5] at g6'
    obtain ⟨y6, x6⟩ := wThen_ok g6' (by rw [hl2, L5, rowL_len]; omega)
    have hhead : bI d6.d = manHead (ρ 0).i (ρ 1).i (ρ 2).i (ρ 3).i (rowL (ρ 4).d 32) := by
      rw [x6, x5, x4, x3, x2, x1]
      simp [manHead, bI, List.append_assoc]
    refine ⟨l0, ⟨hok, l0, hl2, y6, w6, hhead⟩, fun lim2 _ f _ n _ c _ d _ t _ _ t0 t1 z1 z2 z3 z4 => ⟨fun hlt => ?_, fun hge => ?_⟩⟩
    · obtain ⟨T, hT⟩ : ∃ T : Nat, t.i = T := ⟨t.i.toNat, by omega⟩
      have m1 : arithOf .add .i64 t.i 1 = ((T + 1 : Nat) : Int) := by rw [add64 (by omega) (by omega)]; omega
      have hTl : T < (ρ 8).d.length := by omega
      have hrow := row_dgs hTl
      have hnl : n.i = 39 + 32 * t.i := by
        have h1 := hlen z3
        rw [z4, List.length_append] at h1
        have h2 : ∀ (k : Nat), k ≤ (ρ 8).d.length → ((dgs (ρ 8).d).take k).flatten.length = 32 * k := fun k => by
          induction k with
          | zero => intro _; simp
          | succ k ih => intro hk; rw [dgs_take (by omega), List.length_append, ih (by omega)]; simp [rowB]; omega
        rw [h2 _ (by omega)] at h1
        have h3 : (manHead (ρ 0).i (ρ 1).i (ρ 2).i (ρ 3).i (rowL (ρ 4).d 32)).length = 39 := by simp [manHead, beL_len, rowL_len]
        omega
      rw [hT] at z4 hnl ⊢
      rw [← hT, m1, hT]
      refine ⟨by omega, by omega, ⟨z3, by omega, ⟨_, rfl, rfl⟩, ?_⟩, fun f7 _ n7 _ c7 _ d7 _ w7 g7 => ?_⟩
      · have h1 : allM (rowB (ρ 8).d[T]) := (hd _ (List.getElem_mem hTl)).2
        rw [← hrow] at h1
        exact h1
      · have g7' : (f7.b, bI d7.d) = wThen lim2.i f.b (bI d.d) (rowL [dgCells (cellI (ρ 8).d T)] 32) := g7
        rw [z2, hrow] at g7'
        have hbl : (rowB (ρ 8).d[T]).length = 32 := by simp [rowB]
        obtain ⟨y7, x7⟩ := wThen_ok g7' (by rw [← hlen z3, hbl]; omega)
        refine ⟨⟨hok, by omega, by omega, z1, y7, w7, ?_⟩, by omega⟩
        rw [x7, z4]
        simp only [Int.toNat_natCast]
        rw [dgs_take hTl, List.append_assoc]
    · have ht : t.i.toNat = (ρ 8).d.length := by omega
      rw [ht] at z4
      rw [List.take_of_length_le (by simp [dgs])] at z4
      refine ⟨⟨z3, ?_⟩, z2, fun e _ _ he => ⟨hok, by rw [he]; exact z3.2.2.1, by rw [he]; exact z3.2.2.2.2, by rw [he]; exact z4⟩⟩
      have := z3.2.2.2.1
      omega
end Go.Proofs

set_option linter.unusedSimpArgs false
set_option linter.unusedVariables false
namespace Go.Proofs
open Go Go.Eng
theorem sha_allM (m : List Int) : allM (sha m) := fun x hx => by
  obtain ⟨j, _, rfl⟩ := List.mem_map.1 hx
  omega
theorem sha_hex : hexL (sha [97, 98, 99]) = [98, 97, 55, 56, 49, 54, 98, 102, 56, 102, 48, 49, 99, 102, 101, 97, 52, 49, 52, 49, 52, 48, 100, 101, 53, 100, 97, 101, 50, 50, 50, 51, 98, 48, 48, 51, 54, 49, 97, 51, 57, 54, 49, 55, 55, 97, 57, 99, 98, 52, 49, 48, 102, 102, 54, 49, 102, 50, 48, 48, 49, 53, 97, 100] := by
  rw [sha_abc]; decide +kernel
theorem crc_known : ofW (crcF [49, 50, 51, 52, 53, 54, 55, 56, 57]) = 3808858755 := by decide +kernel
set_option maxRecDepth 100000 in
theorem top23 : (topE 2 3).2.2 = 2 := by kernel_rfl
theorem head23 : ∀ o : List Int, manHead 2 3 3 2 o = [77, 1, 2, 3, 3, 0, 2] ++ o := fun o => by
  have h1 : beL 19713 2 = [77, 1] := by decide
  have h2 : beL (2 % 256) 1 = [2] := by decide
  have h3 : beL (3 % 256) 1 = [3] := by decide
  have h4 : beL (2 % 65536) 2 = [0, 2] := by decide
  rw [manHead, h1, h2, h3, h4]; rfl
theorem madeAt_len {f : Nat → List Int} {n : Nat} : (madeAt f n).length = n := by simp [madeAt]
theorem bytesOf_bI {d : Rows'} : bytesOf d = (bI d).map fun x => UInt8.ofNat x.toNat := by simp [bytesOf, bI, rowI]
theorem pieceN_len {g full : List Int} {k l i : Nat} : ∀ j, (pieceN g full k l i j).length = l
  | 0 => by simp [pieceN]
  | j + 1 => by rw [pieceN, addToL_len, pieceN_len j]
theorem encP_len {k total : Nat} {data : List Int} {i : Nat} : (encP k total data i).length = pieceLen k data.length := pieceN_len k
theorem dgs_snoc {d : Rows'} {r : List Value} : dgs (d ++ [r]) = dgs d ++ [rowB r] := by simp [dgs]
theorem madeAt_snoc {f : Nat → List Int} {n : Nat} : madeAt f (n + 1) = madeAt f n ++ [sha (pieceIn n ++ f n)] := by simp [madeAt, List.range_succ]
theorem rowB_dg {d : Rows'} : rowB (dgCells (cellX d)) = rowL d 32 := rfl
set_option maxRecDepth 20000 in
set_option maxHeartbeats 1600000 in
theorem make_ok : makeC.ok Tryd.prog := make_of (by simp [sizes3_ok, encode31_ok, sha256_ok, pieceDg_ok]) fun ρ hg hp => by
  obtain ⟨hf, hl, hlc, hB, ⟨hGr, hGd⟩, htop⟩ := hp
  simp (config := { maxSteps := 2000000 }) [o_make, makeC, makeI, sizes3C, encode31C, sha256C, pieceDgC, gOk, bytesIn]
  have hnn := fieldD_ne hf
  refine fun u _ => ⟨fun h => absurd h hnn.1, fun _ b _ hb => ⟨fun hz => ⟨hf, by rw [← hb]; exact hz⟩, fun hz => ?_⟩⟩
  rw [hz] at hb
  have hs3 := hb.symm
  have hs3' := hs3
  simp [sizes3] at hs3'
  obtain ⟨b1, b2, b3, b4⟩ := hs3'
  have hsB : sizesB (ρ 2).i (ρ 4).i = true := by simp [sizesB]; omega
  have hsz : sizesB (ρ 2).i (ρ 4).i = false → False := fun h => by rw [hsB] at h; cases h
  refine ⟨⟨hf, hl, hB, htop⟩, fun e _ f _ hf2 he => ⟨fun hne => ⟨hf2, ?_⟩, fun hz2 => ?_⟩, fun _ _ _ _ f _ P _ ab _ hf2 _ hle hPl hE => ⟨by omega, ⟨⟨by omega, hlc, by omega, by omega, hB⟩, hGr, hGd⟩, fun o _ ho _ _ => ⟨by omega, ⟨hf2, hs3, hle, by omega, hPl, hE, ?_, ?_, ?_⟩, fun _ _ _ _ _ _ o2 _ _ _ t _ _ _ Ds _ P2 _ _ _ f2 _ ab2 _ hf3 _ _ t0 t1 hPl2 hE2 ho2 hDl hDo hDm => ⟨fun hlt => ?_, fun hge => ?_⟩⟩⟩⟩
  · rcases he with ⟨h, _⟩ | ⟨_, h1, h2⟩
    · exact (hsz h).elim
    · exact .inr ⟨hs3, h1, h2⟩
  · rcases he with ⟨h, _⟩ | ⟨_, h1, h2⟩
    · exact (hsz h).elim
    · omega
  · rw [segB_all hl] at ho
    exact ho
  · intro r hr; cases hr
  · rfl
  · obtain ⟨T, hT⟩ : ∃ T : Nat, t.i = T := ⟨t.i.toNat, by omega⟩
    have m1 : arithOf .add .i64 t.i 1 = ((T + 1 : Nat) : Int) := by rw [add64 (by omega) (by omega)]; omega
    obtain ⟨v, d, e1, e2, e3, e4⟩ := hE2 T (by omega)
    have hcv : cellV P2.d t.i 1 = v := by rw [hT]; simp [cellV, e1]
    have hci : cellI P2.d t.i 0 = (T : Int) := by rw [hT]; simp [cellI, cellV, e1, vInt]
    rw [m1, hcv, hci]
    have hdl : d.length ≤ (ρ 8).d.length := by
      have h1 := congrArg List.length e3
      rw [bI_len, encP_len, bI_len] at h1
      have := pieceLen_le (k := (ρ 2).i.toNat) (n := (ρ 8).d.length) (by omega)
      omega
    refine ⟨by omega, by omega, fun _ _ => ⟨d, e2, fun r0 _ c1 _ hv hcl => ⟨⟨hcl, by omega, e4, hGr, hGd⟩, fun g _ hg2 _ _ => ⟨by omega, by omega, fun _ _ _ _ ab3 _ hst => ⟨by omega, ⟨hf3, hs3, hle, by omega, by omega, hPl2, ?_, ho2, by omega, ?_, ?_⟩, by omega⟩⟩⟩⟩⟩
    · obtain ⟨hb2, lb, db⟩ := star_mem_abs hst (n := 32) (t := 2) (by simp)
      exact encAt_mono hE2 (Hp.le_trans (by simpa using db) lb)
    · intro r hr
      rcases List.mem_append.1 hr with hr | hr
      · exact hDo r hr
      · obtain rfl := List.mem_singleton.1 hr
        refine ⟨rfl, ?_⟩
        have : allM (rowL g.d 32) := by rw [hg2]; exact sha_allM _
        exact this
    · have hh : dgs (Ds.d ++ [dgCells (cellX g.d)]) = madeAt (encP (ρ 2).i.toNat (ρ 4).i.toNat (bI (ρ 8).d)) (T + 1) := by
        rw [dgs_snoc, rowB_dg, hg2, segB_all rfl, e3, hDm, hT, Int.toNat_natCast, madeAt_snoc]
      exact hh
  · have ht : t.i = (ρ 4).i := by omega
    refine fun ab3 _ hst => ⟨by omega, hf3, hs3, hle, hPl2, ?_, ho2, hDo, by rw [hDm, ht]⟩
    obtain ⟨hb2, lb, db⟩ := star_mem_abs hst (n := 32) (t := 2) (by simp)
    exact encAt_mono hE2 (Hp.le_trans (by simpa using db) lb)
set_option maxRecDepth 20000 in
theorem known_ok : knownC.ok Tryd.prog := known_of (by simp [sha256_ok, hex_ok, crc_ok, newField_ok, make_ok, encMan_ok]) fun ρ hg hp => by
  obtain ⟨hGr, hGd⟩ := hp
  simp (config := { maxSteps := 2000000 }) [o_known, vStr_mk, knownC, newFieldC, sha256C, hexC, crcC, makeC, encManC, gOk, bytesIn]
  have b3 : allB [[Value.int .u8 97], [Value.int .u8 98], [Value.int .u8 99]] := by
    intro row hr; simp at hr; rcases hr with rfl | rfl | rfl <;> decide
  have b9 : allB [[Value.int .u8 49], [Value.int .u8 50], [Value.int .u8 51], [Value.int .u8 52], [Value.int .u8 53], [Value.int .u8 54], [Value.int .u8 55], [Value.int .u8 56], [Value.int .u8 57]] := by
    intro row hr; simp at hr; rcases hr with rfl | rfl | rfl | rfl | rfl | rfl | rfl | rfl | rfl <;> decide
  have b2 : allB [[Value.int .u8 97], [Value.int .u8 98]] := by
    intro row hr; simp at hr; rcases hr with rfl | rfl <;> decide
  refine ⟨⟨b3, hGr, hGd⟩, fun d _ hd => ⟨?_, fun s _ hs => ?_⟩⟩
  · have : allM (rowL d.d 32) := by rw [hd]; exact sha_allM _
    exact this
  · have hs' : vStr s.v = hexL (rowL d.d 32) := hs
    have hd' : rowL d.d 32 = sha [97, 98, 99] := hd
    rw [hd', sha_hex] at hs'
    refine ⟨hs', fun _ => ⟨b9, fun c _ hc => ?_⟩⟩
    have hc' : c.i = 3808858755 := hc.trans crc_known
    refine ⟨hc', fun _ F _ hF => ⟨⟨.inl hF, b2, ⟨hGr, hGd⟩, fun _ => top23⟩, fun _ _ _ _ _ h => absurd h (by decide), fun o _ f _ Ds _ P _ ab _ hf hsz hPl hE ho hdo hdg => ?_⟩⟩
    have hDl : Ds.d.length = 3 := by
      have := congrArg List.length hdg
      rw [madeAt_len] at this; simpa [dgs] using this
    have hoM : allM (rowL o.d 32) := by rw [ho]; exact sha_allM _
    refine ⟨⟨by omega, hoM, hdo⟩, by decide, fun n _ cp _ b _ _ hn hb hbI => ?_⟩
    have hbI' : bI b.d = manHead 2 3 3 2 (rowL o.d 32) ++ (dgs Ds.d).flatten := hbI
    have hfl : (dgs Ds.d).flatten.length = 96 := by
      rw [hdg]; simp [madeAt, List.range_succ, sha_len]
    have hbl : b.d.length = 135 := by
      have := congrArg List.length hbI'
      rw [bI_len, head23] at this
      simp [rowL_len, hfl] at this
      exact this
    refine ⟨by omega, fun _ hcp => ⟨by omega, by omega, by omega, ?_⟩, by omega⟩
    have h7 : bI (List.take 7 b.d) = [77, 1, 2, 3, 3, 0, 2] := by
      rw [bI, List.map_take, ← bI, hbI', head23]; rfl
    rw [bytesOf_bI, h7]; rfl
end Go.Proofs

set_option linter.unusedSimpArgs false
set_option linter.unusedVariables false
namespace Go.Eng
open Go Go.ChangeShapes Go.WideShapes Go.ChangeAt Go.RowKit

/-- Of what was there nothing has turned. -/
structure Grew (W w' : World) : Prop where
  os : w'.os = W.os
  out : w'.output = W.output
  blk : ∀ (b : Nat) (o : Obj), W.heap[b]? = some o → w'.heap[b]? = some o

theorem Grew.block {W w' : World} (h : Grew W w') {i : Nat} (hi : i < W.heap.size) : w'.heap[i]? = W.heap[i]? := by
  rw [Array.getElem?_eq_getElem hi]; exact h.blk i _ (Array.getElem?_eq_getElem hi)

theorem Grew.kept {W w' : World} (h : Grew W w') (may : MemPlace → Prop) : W.keptBut w' may := by
  refine ⟨h.os, h.out, fun i hi => ?_⟩
  rw [h.block hi, Array.getElem?_eq_getElem hi]
  cases W.heap[i] <;> simp

theorem Grew.trodAll {H : Type} {enc : TypeId × Value → H} {P : Program} {W W' : World} (hg : Grew W W') (hl : laidOutB P = true) {sp : Nat → Bool} : ∀ {ts : List TypeId} {vs : List Value} {ds : List (DataW H)} {ps : List MemPlace},
    (∀ t ∈ ts, P.readableRec t = true ∧ t < P.types.size) → DataW.TrodAll enc P W 0 (fun _ => true) true ts vs ds ps → (∀ p ∈ ps, p.block < W.heap.size) → (∀ p ∈ ps, sp p.block = true) →
    DataW.TrodAll enc P W' 0 sp true ts vs ds ps
  | [], [], [], _, _, h, _, _ => h
  | _ :: _, _ :: _, _ :: _, _, hT, ⟨p, q, h1, h2, e⟩, hlt, hs => by
    subst e
    refine ⟨p, q, ?_, Grew.trodAll hg hl (fun t ht => hT t (List.mem_cons_of_mem _ ht)) h2 (fun x hx => hlt x (List.mem_append_right _ hx)) (fun x hx => hs x (List.mem_append_right _ hx)), rfl⟩
    have hr := hT _ (List.mem_cons_self ..)
    refine WideElems.Trod_stays hl hr.1 hr.2 h1 (fun x hx => ?_) (fun x hx => hs x (List.mem_append_left _ hx))
    have hb := hg.block (hlt x (List.mem_append_left _ hx))
    cases x with
    | cell b o => exact World.cell?_of_block (w := W) hb
    | map b => exact hb

/-- The call's contract, at the whole memory as its frame. -/
theorem law_calls {P : Program} {c : Ctr} (hok : c.ok P) (hheap : c.heap = []) (halts : ∀ al ∈ c.alts, al.ret = .one (.vbool (.bl true))) {ρ : Env} (hg : ρ.good) (W : World)
    (hro : ∀ x ∈ c.ro, x.roden ρ (fun b => W.heap[b]?)) (hpre : c.pre ρ) :
    Calls P c.fn (c.args.map (SV.den ρ)).toArray W fun e W' => e = .returned (.bool true) ∧ Grew W W' := by
  have h := hok.2 ρ W ⟨fun b => W.heap[b]?, W.os, W.output⟩ Hp.emp hg (Hp.disj_emp _)
    ⟨fun b o hb => by simpa [Hp.union, Hp.emp] using hb, rfl, rfl⟩ (by rw [hheap]; trivial) hro hpre
  refine h.mono fun e w' hq => ?_
  obtain ⟨ai, al, ρ', hal, _, _, rfl, _, hO, _, _, hsub, hwi⟩ := hq
  refine ⟨by rw [halts al (List.mem_of_getElem? hal)]; rfl, ⟨hwi.1, hwi.2, fun b o hb => hsub b o ?_⟩⟩
  simp [Hp.union, hb]

theorem law_post {H : Type} {enc : TypeId × Value → H} {P : Program} {f : Func} {s : ChangeSpec} {W W' : World} {args : Array Value} {ds gs : List (DataW H)} {before : List MemPlace} {bt : TypeId}
    (hl : laidOutB P = true) (hT : ∀ t ∈ f.params.toList, P.readableRec t = true ∧ t < P.types.size) (hvars : s.vars = []) (hrt : f.resultTypes = #[bt]) (hbt : P.underlying bt = some .bool)
    (hfn : ∀ ds' : List (DataW H), ds'.length = f.params.size → s.fn H ds' = { results := [.lit (.bool true)], args := ds' })
    (hW : DataW.Whole enc P f.params.toList s.vars false W args.toList ds gs before) (hg : Grew W W') : s.post enc P f false true false false W args (.bool true) W' := by
  have hlt := hW.lt
  have hW0 := hW
  obtain ⟨p, q, hA, hV, hpq, hz, hn⟩ := hW
  rw [hvars] at hV
  obtain ⟨rfl, rfl⟩ := trodVars_none hV
  have hlen : ds.length = f.params.size := by
    have : ∀ {ts : List TypeId} {vs : List Value} {ds : List (DataW H)} {ps : List MemPlace}, DataW.TrodAll enc P W 0 (fun _ => true) true ts vs ds ps → ds.length = ts.length := by
      intro ts
      induction ts with
      | nil => intro vs ds ps h; cases vs <;> cases ds <;> simp_all [DataW.TrodAll]
      | cons t ts ih =>
        intro vs ds ps h
        cases vs <;> cases ds <;> simp_all [DataW.TrodAll]
        obtain ⟨p, q, _, h2, _⟩ := h
        exact ih h2
    simpa using this hA
  have hlt' : ∀ x ∈ p, x.block < W.heap.size := fun x hx => hlt x (by rw [hpq]; exact List.mem_append_left _ hx)
  refine ⟨ds, [], before, [], p, [], hW0, ?_, ?_, ?_, hg.kept _, fun h => by cases h⟩
  · rw [List.append_nil, hfn ds hlen, hrt]
    exact ⟨[], [], ⟨1, by simp [DataW.trod, hbt, Value.cells]⟩, rfl, rfl⟩
  · rw [List.append_nil, hfn ds hlen]
    exact hg.trodAll hl hT hA hlt' (fun x hx => by simpa using hlt' x hx)
  · rw [List.append_nil, hfn ds hlen, hvars]
    rfl

/-- What is asked of a law's call. -/
theorem law_call {H : Type} {enc : TypeId × Value → H} {P : Program} {f : Func} {s : ChangeSpec} {c : Ctr} {W : World} {args : Array Value} {ds gs : List (DataW H)} {before : List MemPlace} {bt : TypeId} {ρ : Env}
    (hok : c.ok P) (hheap : c.heap = []) (halts : ∀ al ∈ c.alts, al.ret = .one (.vbool (.bl true)))
    (hl : laidOutB P = true) (hT : ∀ t ∈ f.params.toList, P.readableRec t = true ∧ t < P.types.size) (hvars : s.vars = []) (hrt : f.resultTypes = #[bt]) (hbt : P.underlying bt = some .bool)
    (hfn : ∀ ds' : List (DataW H), ds'.length = f.params.size → s.fn H ds' = { results := [.lit (.bool true)], args := ds' })
    (hW : DataW.Whole enc P f.params.toList s.vars false W args.toList ds gs before)
    (hg : ρ.good) (hargs : args = (c.args.map (SV.den ρ)).toArray) (hro : ∀ x ∈ c.ro, x.roden ρ (fun b => W.heap[b]?)) (hpre : c.pre ρ) :
    Calls P c.fn args W fun e W' => ∃ v, e = .returned v ∧ s.post enc P f false true false false W args v W' := by
  rw [hargs]
  refine (law_calls hok hheap halts hg W hro hpre).mono fun e W' ⟨he, hgr⟩ => ⟨_, he, ?_⟩
  rw [← hargs]
  exact law_post hl hT hvars hrt hbt hfn hW hgr
end Go.Eng

set_option linter.unusedSimpArgs false
set_option linter.unusedVariables false
namespace Go.Eng
open Go Go.ChangeShapes Go.WideShapes Go.ChangeAt Go.RowKit

def patFs (P : Program) (f : TypeId → Option (List CK)) : List Field → Nat → Option (List CK)
  | [], _ => some []
  | x :: fs, off =>
    if Nat.beq x.offset off then
      match f x.type with
      | some p => if Nat.beq p.length (P.cellsOf x.type) then (patFs P f fs (off + p.length)).map (p ++ ·) else none
      | none => none
    else none
def patArr (p : List CK) : Nat → List CK
  | 0 => []
  | n + 1 => p ++ patArr p n
/-- The kinds of a type's cells. -/
def patP (P : Program) : Nat → TypeId → Option (List CK)
  | 0, _ => none
  | n + 1, t =>
    match P.underlying t with
    | some (.int k) => some [.int k]
    | some .bool => some [.bool]
    | some .string => some [.any]
    | some (.slice _) => some [.any]
    | some (.pointer _) => some [.any]
    | some (.struct fs) => match patFs P (patP P n) fs.toList 0 with
      | some p => if Nat.beq p.length (P.cellsOf t) then some p else none
      | none => none
    | some (.array m e) => match patP P n e with
      | some p => if Nat.beq p.length (P.cellsOf e) && Nat.beq (P.cellsOf t) (m * P.cellsOf e) then some (patArr p m) else none
      | none => none
    | _ => none

theorem fitsRow_append {p q : List CK} {cs : List Value} (h1 : fitsRow p (cs.take p.length)) (h2 : fitsRow q (cs.drop p.length)) : fitsRow (p ++ q) cs := by
  obtain ⟨a1, a2⟩ := h1
  obtain ⟨b1, b2⟩ := h2
  have hle : p.length ≤ cs.length := by simp at a1; omega
  refine ⟨by simp at a1 b1 ⊢; omega, fun c k v hk hv => ?_⟩
  by_cases hc : c < p.length
  · rw [List.getElem?_append_left hc] at hk
    exact a2 c k v hk (by rw [List.getElem?_take, if_pos hc]; exact hv)
  · rw [List.getElem?_append_right (by omega)] at hk
    exact b2 (c - p.length) k v hk (by rw [List.getElem?_drop, show p.length + (c - p.length) = c by omega]; exact hv)

section
variable {H : Type} {enc : TypeId × Value → H} {P : Program} {w : World} {base : Nat} {spare : Nat → Bool} {held : Bool}

theorem fits_one_any {v : Value} (h : v.oneCell' = true) : fitsRow [.any] [v] := ⟨rfl, fun c k v' hk hv => by
  cases c with
  | zero => simp at hk hv; subst hk; subst hv; exact h
  | succ c => simp at hk⟩

theorem patFs_fits {f : TypeId → Option (List CK)} {cs : List Value} (hf : ∀ t p, f t = some p → ∀ cs', (∃ fuel x, DataW.trod enc P w base spare held fuel t cs' = some x) → fitsRow p cs') :
    ∀ {fs : List Field} {off : Nat} {p : List CK}, patFs P f fs off = some p → (∀ x ∈ fs, ∃ fuel y, DataW.trod enc P w base spare held fuel x.type ((cs.drop x.offset).take (P.cellsOf x.type)) = some y) → off + p.length = cs.length → fitsRow p (cs.drop off)
  | [], off, p, h, _, hl => by
    simp only [patFs, Option.some.injEq] at h; subst h
    simp at hl
    refine ⟨by simp; omega, fun c k v hk => by simp at hk⟩
  | x :: fs, off, p, h, ht, hl => by
    simp only [patFs] at h
    split at h
    · rename_i ho
      have ho := Nat.eq_of_beq_eq_true ho
      split at h
      · rename_i p1 hp1
        split at h
        · rename_i hc
          have hc := Nat.eq_of_beq_eq_true hc
          simp only [Option.map_eq_some_iff] at h
          obtain ⟨p2, hp2, rfl⟩ := h
          simp only [List.length_append] at hl
          have h1 := hf x.type p1 hp1 _ (ht x (List.mem_cons_self ..))
          rw [ho, ← hc] at h1
          have h2 := patFs_fits hf hp2 (fun y hy => ht y (List.mem_cons_of_mem _ hy)) (by omega)
          exact fitsRow_append h1 (by rw [List.drop_drop]; exact h2)
        · simp at h
      · simp at h
    · simp at h

theorem patArr_fits {p : List CK} : ∀ {m : Nat} {cs : List Value}, cs.length = m * p.length → (∀ i, i < m → fitsRow p ((cs.drop (i * p.length)).take p.length)) → fitsRow (patArr p m) cs
  | 0, cs, hl, _ => by
    simp at hl; subst hl
    exact ⟨rfl, fun c k v hk => by simp [patArr] at hk⟩
  | m + 1, cs, hl, h => by
    simp only [patArr]
    refine fitsRow_append (by simpa using h 0 (by omega)) (patArr_fits (by rw [List.length_drop, hl, Nat.add_mul]; omega) fun i hi => ?_)
    rw [List.drop_drop, show p.length + i * p.length = (i + 1) * p.length by rw [Nat.add_mul]; omega]
    exact h (i + 1) (by omega)

theorem trod_fits : ∀ (n : Nat) {t : TypeId} {pat : List CK}, patP P n t = some pat → ∀ cs, (∃ fuel x, DataW.trod enc P w base spare held fuel t cs = some x) → fitsRow pat cs
  | 0, t, pat, h, _, _ => by simp [patP] at h
  | n + 1, t, pat, h, cs, ⟨fuel, x, hx⟩ => by
    simp only [patP] at h
    split at h
    · rename_i k hu
      simp only [Option.some.injEq] at h; subst h
      obtain ⟨z, rfl, _, _⟩ := DataW.trod_int hu hx
      refine ⟨rfl, fun c k' v hk hv => ?_⟩
      cases c with
      | zero => simp at hk hv; subst hk; subst hv; simp [CK.fits]
      | succ c => simp at hk
    · rename_i hu
      simp only [Option.some.injEq] at h; subst h
      cases fuel with
      | zero => simp [DataW.trod] at hx
      | succ m =>
        unfold DataW.trod at hx
        rw [hu] at hx
        split at hx <;> simp_all
        refine ⟨rfl, fun c k' v hk hv => ?_⟩
        cases c with
        | zero => simp at hk hv; subst hk; subst hv; simp [CK.fits]
        | succ c => simp at hk
    · rename_i hu
      simp only [Option.some.injEq] at h; subst h
      cases fuel with
      | zero => simp [DataW.trod] at hx
      | succ m =>
        unfold DataW.trod at hx
        rw [hu] at hx
        split at hx <;> simp_all
        exact fits_one_any rfl
    · rename_i e hu
      simp only [Option.some.injEq] at h; subst h
      rcases DataW.trod_slice hu hx with ⟨rfl, _⟩ | ⟨a, len, cap, elems, rest, m, _, rfl, _⟩
      · exact fits_one_any rfl
      · exact fits_one_any rfl
    · rename_i e hu
      simp only [Option.some.injEq] at h; subst h
      cases fuel with
      | zero => simp [DataW.trod] at hx
      | succ m =>
        unfold DataW.trod at hx
        rw [hu] at hx
        split at hx <;> simp_all
        all_goals exact fits_one_any rfl
    · rename_i fs hu
      split at h
      · rename_i p hp
        split at h
        · rename_i hc
          have hc := Nat.eq_of_beq_eq_true hc
          simp only [Option.some.injEq] at h; subst h
          obtain ⟨xs, m, _, _, hl, hxl, hall⟩ := DataW.trod_struct hu hx
          have := patFs_fits (cs := cs) (f := patP P n) (fun t p hp cs' hh => trod_fits n hp cs' hh) hp (fun y hy => by
            obtain ⟨i, hi⟩ := List.getElem?_of_mem hy
            have hi' : fs[i]? = some y := by simpa using hi
            have h1 := hall i y hi'
            have hlt : i < xs.length := by
              rw [hxl]; exact (Array.getElem?_eq_some_iff.1 hi').1
            exact ⟨m, xs[i], by rw [h1]; simp [hlt]⟩) (by omega)
          simpa using this
        · simp at h
      · simp at h
    · rename_i m e hu
      split at h
      · rename_i p hp
        split at h
        · rename_i hc
          simp only [Bool.and_eq_true] at hc
          have hc1 := Nat.eq_of_beq_eq_true hc.1
          have hc2 := Nat.eq_of_beq_eq_true hc.2
          simp only [Option.some.injEq] at h; subst h
          obtain ⟨xs, k, _, _, hl, hxl, hall⟩ := DataW.trod_array hu hx
          refine patArr_fits (by rw [hl, hc2, hc1]) fun i hi => ?_
          have h1 := hall i hi
          rw [← hc1] at h1
          exact trod_fits n hp _ ⟨k, xs[i]'(by omega), by rw [h1]; simp [hxl, hi]⟩
        · simp at h
      · simp at h
    · simp at h

theorem cells?_get {a : Addr} {n : Nat} {cs : List Value} (h : w.cells? base a n = some cs) : cs.length = n ∧ ∀ i, i < n → w.cell? (a.add i) = cs[i]? := by
  unfold World.cells? at h
  split at h
  · exact ⟨by simpa using mapM_some_length h, fun i hi => by simpa using mapM_some_get h i i (by simp [hi])⟩
  · simp at h

/-- A slice that reads as data: its rows in memory, each of which reads; what it is read as. -/
theorem open_rows {t e : TypeId} {pat : List CK} {n : Nat} {v : Value} {d : DataW H} {ps : List MemPlace} (ht : P.underlying t = some (.slice e)) (hpat : patP P n e = some pat) (hce : P.cellsOf e = pat.length) (hpos : 0 < pat.length)
    {fuel : Nat} (hsp : ∀ b, spare b = true) (hf : DataW.trod enc P w base spare held fuel t [v] = some (d, ps)) :
    ∃ rows : List (List Value), Rd (fun b => w.heap[b]?) pat v rows ∧ (∀ row ∈ rows, ∃ fuel x, DataW.trod enc P w base spare held fuel e row = some x) ∧
      ((d = .nil ∧ rows = []) ∨ ∃ elems sp, d = .slice elems sp ∧ elems.length = rows.length ∧ ∀ (i : Nat) (row : List Value), rows[i]? = some row → ∃ fuel x, DataW.trod enc P w base spare held fuel e row = some x ∧ elems[i]? = some x.1) := by
  rcases DataW.trod_slice ht hf with ⟨h1, h2⟩ | ⟨a, len, cap, elems, rest, m, _, h1, h2, hb, hlc, hcm, hel, hall, hrest, _⟩
  · simp at h1 h2
    exact ⟨[], .inl ⟨_, h1, rfl⟩, by simp, .inl ⟨h2.1, rfl⟩⟩
  · simp at h1 h2
    subst h1
    have hrow : ∀ i, i < len → ∃ cs x, w.cells? base (a.add (i * P.cellsOf e)) (P.cellsOf e) = some cs ∧ DataW.trod enc P w base spare held m e cs = some x ∧ elems[i]? = some x := fun i hi => by
      have := hall i hi
      rw [List.getElem?_eq_getElem (by omega)] at this
      obtain ⟨cs, g1, g2⟩ := Option.bind_eq_some_iff.1 this
      exact ⟨cs, _, g1, g2, List.getElem?_eq_getElem _⟩
    let rows : List (List Value) := (List.range len).map fun i => ((w.cells? base (a.add (i * P.cellsOf e)) (P.cellsOf e)).getD [])
    have hget : ∀ i row, rows[i]? = some row → i < len ∧ w.cells? base (a.add (i * P.cellsOf e)) (P.cellsOf e) = some row := fun i row hr => by
      simp only [rows, List.getElem?_map, Option.map_eq_some_iff] at hr
      obtain ⟨j, hj, rfl⟩ := hr
      have hlt : i < len := by
        have := (List.getElem?_eq_some_iff.1 hj).1; simpa using this
      rw [List.getElem?_range hlt] at hj
      simp only [Option.some.injEq] at hj; subst hj
      obtain ⟨cs, x, g1, _, _⟩ := hrow i hlt
      exact ⟨hlt, by rw [g1]; rfl⟩
    have hrl : rows.length = len := by simp [rows]
    have htr : ∀ row ∈ rows, ∃ fuel x, DataW.trod enc P w base spare held fuel e row = some x := fun row hr => by
      obtain ⟨i, hi⟩ := List.getElem?_of_mem hr
      obtain ⟨hlt, hc⟩ := hget i row hi
      obtain ⟨cs, x, g1, g2, _⟩ := hrow i hlt
      rw [hc] at g1
      simp only [Option.some.injEq] at g1; subst g1
      exact ⟨m, x, g2⟩
    refine ⟨rows, ?_, htr, .inr ⟨_, _, h2.1, by simp [hel, hrl], fun i row hi => ?_⟩⟩
    rotate_left
    · obtain ⟨hlt, hc⟩ := hget i row hi
      obtain ⟨cs, x, g1, g2, g3⟩ := hrow i hlt
      rw [hc] at g1
      simp only [Option.some.injEq] at g1; subst g1
      exact ⟨m, x, g2, by simp [g3]⟩
    by_cases hcap : cap = 0
    · have hl0 : len = 0 := by omega
      have : rows = [] := by apply List.eq_nil_of_length_eq_zero; omega
      exact .inl ⟨some a, by rw [hl0, hcap], this⟩
    have hfirst : ∃ cs, w.cells? base (a.add 0) (P.cellsOf e) = some cs := by
      by_cases hl : 0 < len
      · obtain ⟨cs, _, g1, _, _⟩ := hrow 0 hl
        rw [Nat.zero_mul] at g1
        exact ⟨cs, g1⟩
      · obtain ⟨r1, r2⟩ := hrest (hsp _)
        have := r2 0 (by omega)
        rw [show (len + 0) * P.cellsOf e = 0 by rw [show len + 0 = 0 by omega]; simp, List.getElem?_eq_getElem (by omega)] at this
        obtain ⟨cs, g1, _⟩ := Option.bind_eq_some_iff.1 this
        exact ⟨cs, g1⟩
    obtain ⟨cs0, hc0⟩ := hfirst
    obtain ⟨hl0, hg0⟩ := cells?_get hc0
    have h00 := hg0 0 (by omega)
    rw [show (a.add 0).add 0 = a from rfl, List.getElem?_eq_getElem (by omega)] at h00
    obtain ⟨ab, ao, asp⟩ := a
    have hblk0 := h00
    unfold World.cell? at hblk0
    split at hblk0
    · rename_i c ty fr hblk
      simp only at hblk
      have hsp0 : asp = none := by
        cases asp with
        | none => rfl
        | some s => simp at hblk0
      subst hsp0
      refine .inr ⟨ab, ao, cap, c, ty, fr, by rw [hrl], by omega, hblk, fun i row hi => ?_⟩
      obtain ⟨hlt, hc⟩ := hget i row hi
      refine ⟨trod_fits n hpat row (htr row (List.mem_of_getElem? hi)), fun k x hk => ?_⟩
      obtain ⟨hl1, hg⟩ := cells?_get hc
      have hkl : k < P.cellsOf e := by
        rw [← hl1]; exact (List.getElem?_eq_some_iff.1 hk).1
      have := hg k hkl
      rw [hk, hce] at this
      rw [Go.Eng.addr_add, Go.Eng.addr_add, cell_of_heap hblk] at this
      exact this
    · simp at hblk0
end

/-- What the form says of a slice argument: it lies at a block that is there. -/
theorem okWide_slice {P : Program} {w : World} {r : Go.Reach} {b : Nat} {t e : TypeId} {v : Value} (ht : P.underlying t = some (.slice e)) (h : Value.okWide P w r b t v) :
    v.cells = #[v] ∧ ∀ a len cap, v = .slice (some a) len cap → a.spot = none ∧ (w.shape? a.block).isSome = true := by
  simp only [Value.okWide, ht, Cell.okWide, Cell.ok] at h
  cases v <;> simp_all [Value.cells]
  rename_i a len cap
  intro a' ha
  subst ha
  obtain ⟨_, _, _, h1, row, cells, h2, _⟩ := h
  exact ⟨h1, by rw [h2]; rfl⟩
end Go.Eng
