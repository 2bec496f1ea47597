/- Slices of bytes that lie apart: what a write into one of them does. -/
import Derived.Test.YtkiheclcmgbmnaaW7
set_option linter.unusedSimpArgs false
set_option linter.unusedVariables false
namespace Go.Eng
open Go Go.Proofs
/-- A slice's block. -/
def blk : Value → Option Nat
  | .slice (some a) _ _ => some a.block
  | _ => none
/-- The first n of these slices read as M, and no two of them share memory. -/
def tabV (h : Hp) (vs : Nat → Value) (n : Nat) (M : Nat → List Int) : Prop :=
  (∀ j, j < n → ∃ d, Rd h kB (vs j) d ∧ bI d = M j ∧ allB d) ∧ ∀ i j, i < n → j < n → i ≠ j → M i ≠ [] → M j ≠ [] → blk (vs i) ≠ blk (vs j)
end Go.Eng
namespace Go.Proofs
open Go Go.Eng
theorem bI_nil {d : Rows'} : bI d = [] ↔ d = [] := by
  constructor
  · intro h
    have := congrArg List.length h
    rw [bI_len] at this
    exact List.length_eq_zero_iff.1 (by simpa using this)
  · rintro rfl; rfl
/-- A slice that is not empty lies at a block. -/
theorem Rd_blk {h : Hp} {pat : List CK} {v : Value} {d : Rows'} (hr : Rd h pat v d) (hd : d ≠ []) : ∃ b o cap c ty fr, v = .slice (some ⟨b, o, none⟩) d.length cap ∧ d.length ≤ cap ∧ blk v = some b ∧ h b = some (.cells c ty fr) ∧ rowsAt c o pat d := by
  rcases hr with ⟨a, _, h0⟩ | ⟨b, o, cap, c, ty, fr, h1, h2, h3, h4⟩
  · exact (hd h0).elim
  · exact ⟨b, o, cap, c, ty, fr, h1, h2, by rw [h1]; rfl, h3, h4⟩
theorem tab_at {h : Hp} {vs : Nat → Value} {n j : Nat} {M : Nat → List Int} (ht : tabV h vs n M) (hj : j < n) : ∃ d, Rd h kB (vs j) d ∧ bI d = M j ∧ allB d := ht.1 j hj
theorem tab_mono {h h' : Hp} {vs : Nat → Value} {n : Nat} {M : Nat → List Int} (ht : tabV h vs n M) (hl : Hp.le h h') : tabV h' vs n M :=
  ⟨fun j hj => by obtain ⟨d, h1, h2⟩ := ht.1 j hj; exact ⟨d, Rd_mono h1 hl, h2⟩, ht.2⟩
theorem tab_congr {h : Hp} {vs vs' : Nat → Value} {n : Nat} {M M' : Nat → List Int} (ht : tabV h vs n M) (hv : ∀ j, j < n → vs' j = vs j) (hM : ∀ j, j < n → M' j = M j) : tabV h vs' n M' :=
  ⟨fun j hj => by rw [hv j hj, hM j hj]; exact ht.1 j hj, fun i j hi hj hne h1 h2 => by rw [hv i hi, hv j hj]; rw [hM i hi] at h1; rw [hM j hj] at h2; exact ht.2 i j hi hj hne h1 h2⟩
/-- The slices in another order. -/
theorem tab_perm {h : Hp} {vs : Nat → Value} {n : Nat} {M : Nat → List Int} (ht : tabV h vs n M) {s : Nat → Nat} (hs : ∀ j, j < n → s j < n) (hi : ∀ i j, i < n → j < n → s i = s j → i = j) : tabV h (fun j => vs (s j)) n (fun j => M (s j)) :=
  ⟨fun j hj => ht.1 _ (hs j hj), fun i j h1 h2 hne h3 h4 => ht.2 _ _ (hs i h1) (hs j h2) (fun he => hne (hi i j h1 h2 he)) h3 h4⟩
/-- One more slice, in memory of its own. -/
theorem tab_new {h hx H : Hp} {vs vs' : Nat → Value} {n : Nat} {M M' : Nat → List Int} {v : Value} {d : Rows'} (ht : tabV h vs n M) (hl : Hp.le h H) (hr : Rd hx kB v d) (hlx : Hp.le hx H) (hdis : Hp.disj hx h) (hB : allB d)
    (hv : ∀ j, j < n → vs' j = vs j) (hvn : vs' n = v) (hM : ∀ j, j < n → M' j = M j) (hMn : M' n = bI d) : tabV H vs' (n + 1) M' := by
  have key : ∀ j, j < n → M j ≠ [] → d ≠ [] → blk (vs j) ≠ blk v := fun j hj hne hd he => by
    obtain ⟨dj, h1, h2, _⟩ := ht.1 j hj
    obtain ⟨b, _, _, c, ty, fr, _, _, e1, hb, _⟩ := Rd_blk h1 (fun h0 => hne (by rw [← h2, h0]; rfl))
    obtain ⟨b', _, _, c', ty', fr', _, _, e2, hb', _⟩ := Rd_blk hr hd
    rw [e1, e2, Option.some.injEq] at he
    subst he
    rcases hdis b with h0 | h0
    · rw [hb'] at h0; cases h0
    · rw [hb] at h0; cases h0
  refine ⟨fun j hj => ?_, fun i j hi hj hne h1 h2 => ?_⟩
  · by_cases hjn : j = n
    · subst hjn
      exact ⟨d, by rw [hvn]; exact Rd_mono hr hlx, hMn.symm, hB⟩
    · obtain ⟨dj, e1, e2, e3⟩ := ht.1 j (by omega)
      exact ⟨dj, by rw [hv j (by omega)]; exact Rd_mono e1 hl, by rw [hM j (by omega)]; exact e2, e3⟩
  · by_cases hin : i = n
    · subst hin
      rw [hvn, hv j (by omega)]
      rw [hM j (by omega)] at h2
      rw [hMn] at h1
      exact fun he => key j (by omega) h2 (fun h0 => h1 (bI_nil.2 h0)) he.symm
    · by_cases hjn : j = n
      · subst hjn
        rw [hvn, hv i (by omega)]
        rw [hM i (by omega)] at h1
        rw [hMn] at h2
        exact key i (by omega) h1 fun h0 => h2 (bI_nil.2 h0)
      · rw [hv i (by omega), hv j (by omega)]
        rw [hM i (by omega)] at h1; rw [hM j (by omega)] at h2
        exact ht.2 i j (by omega) (by omega) hne h1 h2
theorem wrote_rows {c0 c1 : Array Value} {o k : Nat} {d : Rows'} {x : Int} (hd : rowsAt c0 o kB d) (hw : Wrote c0 c1 (o + k) [.int .u8 x]) (hk : k < d.length) : rowsAt c1 o kB (putD d k 0 [.int .u8 x]) := by
  obtain ⟨_, hw⟩ := hw
  intro i row hi
  unfold putD at hi
  rw [List.getElem?_set] at hi
  split at hi
  · rename_i hik
    split at hi
    · simp only [Option.some.injEq] at hi
      subst hi
      obtain ⟨⟨hl, hf⟩, hc⟩ := hd _ _ (List.getElem?_eq_getElem (l := d) (i := ((k : Int).toNat)) (by simpa using hk))
      have hrow : splice ((d[(k : Int).toNat]?).getD []) 0 [.int .u8 x] = [.int .u8 x] := by
        rw [List.getElem?_eq_getElem (by simpa using hk), Option.getD_some]
        unfold splice
        rw [List.take_zero, List.nil_append, List.drop_eq_nil_of_le (by rw [hl]; simp [kB]), List.append_nil]
      rw [hrow]
      refine ⟨⟨rfl, fun c kk v hkk hv => ?_⟩, fun c v hv => ?_⟩
      · cases c with
        | zero =>
          simp only [kB, List.getElem?_cons_zero, Option.some.injEq] at hkk hv
          subst hkk hv; rfl
        | succ c => simp [kB] at hkk
      · cases c with
        | zero =>
          simp only [List.getElem?_cons_zero, Option.some.injEq] at hv
          subst hv
          rw [hw, if_pos (by simp [kB] at hik ⊢; omega)]
          have : o + i * kB.length + 0 - (o + k) = 0 := by simp [kB] at hik ⊢; omega
          rw [this]; rfl
        | succ c => simp at hv
    · cases hi
  · rename_i hik
    obtain ⟨hf, hc⟩ := hd i row hi
    refine ⟨hf, fun c v hv => ?_⟩
    have hcl : c < 1 := by
      have := (List.getElem?_eq_some_iff.1 hv).1
      rw [hf.1] at this
      simpa [kB] using this
    rw [hw, if_neg (by simp [kB] at hik ⊢; omega)]
    exact hc c v hv
/-- A byte is written into one of the slices. -/
theorem tab_put {h h' : Hp} {vs : Nat → Value} {n i : Nat} {M : Nat → List Int} {r : Option Addr} {d : Rows'} {k : Nat} {x : Int} {cap : Nat} (ht : tabV h vs n M) (hi : i < n) (hP : Put h h' r kB d k [.int .u8 x]) (hv : vs i = .slice (addrOf r 0) d.length cap)
    (hr : Rd h kB (vs i) d) (hk : k < d.length) (hx : 0 ≤ x ∧ x < 256) : tabV h' vs n (fun j => if j = i then (M i).set k x else M j) := by
  obtain ⟨b, o, c0, c1, ty, rfl, hb, hrows, hw, rfl⟩ := hP
  rw [addrOf_zero] at hv
  have hdn : d ≠ [] := fun h0 => by rw [h0] at hk; cases hk
  obtain ⟨di, r1, m1, b1⟩ := ht.1 i hi
  obtain rfl := Rd_unique r1 hr
  have hcap : di.length ≤ cap := by
    obtain ⟨_, _, cap', _, _, _, e1, e2, _⟩ := Rd_blk hr hdn
    rw [hv] at e1
    simp only [Value.slice.injEq] at e1
    omega
  have hbi : blk (vs i) = some b := by rw [hv]; rfl
  have hMi : M i ≠ [] := fun h0 => hdn (bI_nil.1 (by rw [m1, h0]))
  have hlen : ∀ j, ((if j = i then (M i).set k x else M j) = []) ↔ M j = [] := fun j => by
    by_cases hj : j = i
    · subst hj
      rw [if_pos rfl]
      constructor
      · intro h0
        have := congrArg List.length h0
        rw [List.length_set] at this
        exact List.length_eq_zero_iff.1 (by simpa using this)
      · intro h0; rw [h0]; rfl
    · rw [if_neg hj]
  refine ⟨fun j hj => ?_, fun i' j hi' hj hne h1 h2 => ht.2 i' j hi' hj hne (fun h0 => h1 ((hlen i').2 h0)) (fun h0 => h2 ((hlen j).2 h0))⟩
  by_cases hji : j = i
  · subst hji
    refine ⟨putD di k 0 [.int .u8 x], .inr ⟨b, o, cap, c1, ty, (0, 0), by rw [hv, putD_len], by rw [putD_len]; exact hcap, by simp [Hp.upd], wrote_rows hrows hw hk⟩, ?_, allB_put b1 hx.1 hx.2⟩
    simp only [if_true]
    rw [bI_put, m1]; rfl
  · simp only [if_neg hji]
    obtain ⟨dj, r2, m2, b2⟩ := ht.1 j hj
    refine ⟨dj, ?_, m2, b2⟩
    by_cases hdj : dj = []
    · subst hdj
      rcases r2 with h0 | ⟨b', o', cap', c', ty', fr', e1, e2, e3, e4⟩
      · exact .inl h0
      · by_cases hbb : b' = b
        · exact .inr ⟨b', o', cap', c1, ty, (0, 0), e1, e2, by simp [Hp.upd, hbb], fun q row hq => by simp at hq⟩
        · exact .inr ⟨b', o', cap', c', ty', fr', e1, e2, by simp only [Hp.upd, if_neg hbb]; exact e3, e4⟩
    · obtain ⟨b', o', cap', c', ty', fr', e1, e2, e3, e4, e5⟩ := Rd_blk r2 hdj
      have hbb : b' ≠ b := fun h0 => by
        refine ht.2 j i hj hi hji (fun h0 => hdj (bI_nil.1 (by rw [m2, h0]))) hMi ?_
        rw [e3, hbi, h0]
      exact .inr ⟨b', o', cap', c', ty', fr', e1, e2, by simp only [Hp.upd, if_neg hbb]; exact e4, e5⟩
/-- Two pieces of a star lie apart. -/
theorem star_two {ρ : Env} {x y : SH} : ∀ {l1 l2 : List SH} {H : Hp}, star ρ (l1 ++ x :: l2) H → y ∈ l2 → ∃ hx hy, Hp.disj hx hy ∧ Hp.le hx H ∧ Hp.le hy H ∧ x.den ρ hx ∧ y.den ρ hy
  | [], l2, H, ⟨h1, h2, hd, hu, hx, hs⟩, hy => by
    subst hu
    obtain ⟨g, g1, g2⟩ := star_mem hs hy
    refine ⟨h1, g, fun b => ?_, Hp.le_left _ _, Hp.le_trans g1 (Hp.le_right hd), hx, g2⟩
    rcases hd b with h0 | h0
    · exact .inl h0
    · right
      cases hg : g b with
      | none => rfl
      | some v => rw [g1 _ _ hg] at h0; cases h0
  | z :: l1, l2, H, ⟨h1, h2, hd, hu, hz, hs⟩, hy => by
    subst hu
    obtain ⟨hx, hy', e1, e2, e3, e4⟩ := star_two (l1 := l1) hs hy
    exact ⟨hx, hy', e1, Hp.le_trans e2 (Hp.le_right hd), Hp.le_trans e3 (Hp.le_right hd), e4⟩
theorem disj_le {h h1 h2 : Hp} (hd : Hp.disj h h1) (hl : Hp.le h2 h1) : Hp.disj h h2 := fun b => by
  rcases hd b with h0 | h0
  · exact .inl h0
  · right
    cases hg : h2 b with
    | none => rfl
    | some v => rw [hl _ _ hg] at h0; cases h0
end Go.Proofs
