/- Receive: what it computes. -/
import Derived.Test.YtlmkkphojjodhaaNT
import Derived.Test.YtlmkkphojjodhaaBQ
import Derived.Test.YtlmkkphojjodhaaMU
set_option linter.unusedSimpArgs false
set_option linter.unusedVariables false
namespace Go.Proofs
open Go Go.Eng

theorem peer87_ok : peer87C.ok Try.prog := peer87_of (by simp) fun ρ hg hp => by
  have hp : 0 ≤ (ρ 3).i := hp
  simp [o_peer87, peer87C, peerP, hp]
  exact ⟨fun h => by simp [h, cmpOf], fun h => by omega⟩
theorem accepts81_ok : accepts81C.ok Try.prog := accepts81_of (by simp [peer87_ok, valid20_ok]) fun ρ hg hp => by
  obtain ⟨h0, h1, h2⟩ := hp
  simp [o_accepts81, accepts81C, peer87C, valid20C, contains59C, index84C, msgV, arithOf]
  refine ⟨h0, fun u _ hu => ⟨fun h3 => ?_, fun h3 => ⟨fun h4 => ?_, fun h4 => ⟨fun h5 => ?_, fun h5 => ⟨⟨h1, h2⟩, fun v _ hv => ⟨fun h6 => ?_, fun h6 => ⟨by omega, h0, fun h7 => ?_, fun h7 => ⟨fun h8 => ⟨h0, fun x _ hx => ?_⟩, fun h8 => ⟨fun h9 => ⟨h0, fun x _ hx => ?_⟩, fun h9 => ⟨fun h10 => ⟨h0, fun x _ hx => ?_⟩, fun h10 => ?_⟩⟩⟩⟩⟩⟩⟩⟩⟩⟩
  all_goals simp only [acceptsP, tab_len]
  all_goals (try rw [← hu])
  all_goals (try rw [← hv])
  all_goals (try simp only [← h1])
  all_goals simp_all
theorem clo83_ok : clo83C.ok Try.prog := clo83_of (by simp) fun ρ hg hp => by
  simp [o_clo83, clo83C, seqIs, cmpOf]
theorem prbs_take (d : List (List Value)) (n : Nat) : prbsOf (d.take n) = (prbsOf d).take n := by simp [prbsOf, List.map_take]
theorem prbs_takeget {d : List (List Value)} {i n : Int} (h0 : 0 ≤ i) (hn : i < n) (h : n ≤ (d.length : Int)) : ((prbsOf d).take n.toNat)[i.toNat]? = some ⟨cellI d i 0, cellI d i 1, cellI d i 2, cellB d i 3⟩ := by
  rw [List.getElem?_take, if_pos (by omega)]; exact cellI_prbs h0 (by omega)
theorem prbs_takelen {d : List (List Value)} {n : Int} (h0 : 0 ≤ n) (h : n ≤ (d.length : Int)) : ((prbsOf d).take n.toNat).length = n.toNat := by rw [List.length_take, prbs_len]; omega
theorem index88_ok : index88C.ok Try.prog := index88_of (by simp [clo83_ok]) fun ρ hg hp => by
  obtain ⟨hl, h0, hb⟩ := hp
  have hlen := prbs_takelen h0 hl
  simp [o_index88, index88C, index88I, clo83C, arithOf, noneN_zero]
  refine ⟨h0, fun u _ q0 q1 q2 => ⟨fun h3 => ⟨q0, by omega, fun u1 _ h4 => ⟨fun h5 => ?_, fun h5 => ⟨?_, ?_⟩⟩⟩, fun h3 => .inl ⟨rfl, noneN_all (by omega) q2⟩⟩⟩
  · exact .inr ⟨q0, by omega, q2, by rw [prbs_takeget q0 h3 hl]; simp [← h4, h5]⟩
  · rw [wrapAdd q0 h3 hb, toNat_succ q0]
    exact ⟨by omega, by omega, noneN_succ (prbs_takeget q0 h3 hl) q2 (by rw [← h4, h5])⟩
  · rw [wrapAdd q0 h3 hb]; omega
theorem delete82_ok : delete82C.ok Try.prog := delete82_of (by simp [index88_ok, clo83_ok]) fun ρ hg hp => by
  obtain ⟨hl, hn0, hb, hcap⟩ := hp
  have hlen := prbs_takelen hn0 hl
  simp [o_delete82, delete82C, delete82I, index88C, clo83C, arithOf]
  refine ⟨⟨hl, hn0, hb⟩, fun u _ hu => ⟨fun h1 => ?_, fun h1 => ?_⟩⟩
  · refine ⟨hn0, by omega, ?_⟩
    rcases hu with ⟨_, h2⟩ | ⟨h2, _⟩
    · have := noneN_filter h2
      rw [List.take_of_length_le (Nat.le_refl _)] at this
      exact this.symm
    · omega
  · have h0 : 0 ≤ u.i ∧ u.i < (ρ 122).i := by
      rcases hu with ⟨h2, _⟩ | ⟨h2, h3, _⟩
      · exact absurd h2 h1
      · rw [hlen] at h3; omega
    refine ⟨by rw [wrapAdd h0.1 h0.2 hb]; exact delOk_init hu h1, fun ui _ uj _ ud _ g gl => ⟨hn0, fun g1 => ?_, fun g1 => ?_⟩⟩
    · have hg' := g
      obtain ⟨k0, k1, k2, k3, k4, k5⟩ := g
      rw [hlen] at k2
      have hc := prbs_takeget (d := ud.d) (i := uj.i) (n := (ρ 122).i) (by omega) g1 (by omega)
      rw [wrapAdd (n := (ρ 122).i) (show 0 ≤ uj.i by omega) g1 hb]
      refine ⟨by omega, by omega, fun u3 _ h3 => ⟨fun h4 => ⟨by omega, by omega, by omega, ⟨?_, by rw [putD_len]; exact gl⟩, by omega⟩, fun h4 => ⟨?_, by omega⟩⟩⟩
      · rw [wrapAdd (n := (ρ 122).i) (show 0 ≤ ui.i by omega) (by omega) hb, prbs_put (by omega) (by omega), List.take_set]
        exact delOk_keep hg' (by rw [hlen]; omega) hc (by rw [← h3, h4])
      · exact ⟨delOk_skip hg' (by rw [hlen]; omega) hc (by rw [← h3, h4]), gl⟩
    · have hg' := g
      obtain ⟨k0, k1, k2, k3, k4, k5⟩ := g
      rw [hlen] at k2
      intro hkn
      have hd := delOk_done hg' (by rw [hlen]; omega)
      rw [List.take_take, show min ui.i.toNat (ρ 122).i.toNat = ui.i.toNat by omega] at hd
      have hmin : (if (ρ 122).i - ui.i = 0 then (ud.d.length : Int) else if (ρ 123).i = ui.i then 0 else ui.i).toNat = if (ρ 122).i - ui.i = 0 then ud.d.length else ui.i.toNat := by
        split
        · simp
        · rw [if_neg (by omega)]
      simp only [hmin]
      refine ⟨by omega, by omega, by omega, by omega, ?_, by omega, ?_, fun hk2 => ⟨by omega, by omega, ?_, by omega, ?_⟩⟩
      · split <;> omega
      · split <;> omega
      · split <;> omega
      · rw [prbs_take, List.take_take, ← hd]
        congr 1
        split <;> omega

/-! ### Tables, as they are received -/
theorem recvTab_get {self : Int} {tab t : List Ent} {i : Nat} {x y : Ent} (h : tab[i]? = some x) (hy : t[i]? = some y) : (recvTab self tab t)[i]? = some (if (i : Int) = self then x else joinE x y) := by
  simp only [recvTab, List.getElem?_mapIdx, h, Option.map_some, entAt, List.getD_eq_getElem?_getD, hy, Option.getD_some]
theorem recvSince_get {self clock : Int} {tab t : List Ent} {since : List Int} {i : Nat} {x y : Ent} {s : Int} (h : tab[i]? = some x) (hy : t[i]? = some y) (hs : since[i]? = some s) : (recvSince self clock tab since t)[i]? = some (if (i : Int) ≠ self ∧ joinE x y ≠ x ∧ (joinE x y).2 = 2 then clock else s) := by
  simp only [recvSince, List.getElem?_mapIdx, hs, Option.map_some, entAt, List.getD_eq_getElem?_getD, hy, h, Option.getD_some]
theorem recvTab_len {self : Int} {tab t : List Ent} : (recvTab self tab t).length = tab.length := by simp [recvTab]
theorem recvSince_len {self clock : Int} {tab t : List Ent} {since : List Int} : (recvSince self clock tab since t).length = since.length := by simp [recvSince]
/-- A list that is the new one up to i, the old one from there. -/
def mixed {α : Type} (old new cur : List α) (i : Int) : Prop := ∀ j : Nat, cur[j]? = if (j : Int) < i then new[j]? else old[j]?
theorem mixed_zero {α : Type} {old new : List α} : mixed old new old 0 := fun j => by rw [if_neg (by omega)]
theorem mixed_all {α : Type} {old new cur : List α} {i : Int} (h : mixed old new cur i) (ho : (old.length : Int) ≤ i) (hn : (new.length : Int) ≤ i) : cur = new := by
  apply List.ext_getElem?
  intro j
  rw [h j]
  split
  · rfl
  · rw [List.getElem?_eq_none (by omega), List.getElem?_eq_none (by omega)]
theorem mixed_get {α : Type} {old new cur : List α} {i : Int} (h : mixed old new cur i) (h0 : 0 ≤ i) : cur[i.toNat]? = old[i.toNat]? := by
  have := h i.toNat; rwa [if_neg (by omega)] at this
theorem mixed_same {α : Type} {old new cur : List α} {i : Int} (h : mixed old new cur i) (h0 : 0 ≤ i) (hx : new[i.toNat]? = old[i.toNat]?) : mixed old new cur (i + 1) := fun j => by
  rw [h j]
  by_cases hj : (j : Int) = i
  · subst hj
    simp only [Int.toNat_natCast] at hx
    rw [if_neg (by omega), if_pos (by omega), hx]
  · by_cases hj2 : (j : Int) < i
    · rw [if_pos hj2, if_pos (by omega)]
    · rw [if_neg hj2, if_neg (by omega)]
theorem mixed_set {α : Type} {old new cur : List α} {i : Int} {x : α} (h : mixed old new cur i) (h0 : 0 ≤ i) (hi : i.toNat < cur.length) (hx : new[i.toNat]? = some x) : mixed old new (cur.set i.toNat x) (i + 1) := fun j => by
  rw [List.getElem?_set]
  by_cases hj : i.toNat = j
  · subst hj
    rw [if_pos rfl, if_pos hi, if_pos (by omega), hx]
  · rw [if_neg hj, h j]
    by_cases hj2 : (j : Int) < i
    · rw [if_pos hj2, if_pos (by omega)]
    · rw [if_neg hj2, if_neg (by omega)]
theorem setSince_mixed {self clock : Int} {tab t curT : List Ent} {since curS : List Int} {i : Int} {x y : Ent}
    (h : mixed since (recvSince self clock tab since t) curS i) (hT : curT[i.toNat]? = some x) (hx : tab[i.toNat]? = some x) (hy : t[i.toNat]? = some y) (h0 : 0 ≤ i) (hne : i ≠ self) (hi : i.toNat < curS.length) (hs : i.toNat < since.length) :
    mixed since (recvSince self clock tab since t) (setSince curT curS clock i (joinE x y)) (i + 1) := by
  have hsg : since[i.toNat]? = some since[i.toNat] := List.getElem?_eq_getElem hs
  have hg := recvSince_get (self := self) (clock := clock) hx hy hsg
  rw [Int.toNat_of_nonneg h0] at hg
  unfold setSince
  rw [hT]
  by_cases hc : joinE x y ≠ x ∧ (joinE x y).2 = 2
  · rw [if_pos ⟨fun e => hc.1 (Option.some.inj e).symm, hc.2⟩]
    rw [if_pos ⟨hne, hc.1, hc.2⟩] at hg
    exact mixed_set h h0 hi hg
  · rw [if_neg (fun e => hc ⟨fun e' => e.1 (by rw [e']), e.2⟩)]
    rw [if_neg (fun e => hc ⟨e.2.1, e.2.2⟩)] at hg
    exact mixed_same h h0 (by rw [hg, hsg])
theorem entAt_get {t : List Ent} {i : Nat} {x : Ent} (h : t[i]? = some x) : entAt t i = x := by simp [entAt, List.getD_eq_getElem?_getD, h]
end Go.Proofs
