/- One operation, carried out: writing, making memory, and each operation in turn. -/
import Derived.Test.YtlmkkphojjodhaaE6
set_option linter.unusedSimpArgs false
set_option linter.unusedVariables false
namespace Go.Eng
open Go
variable {P : Program} {ρ : Env} {hF : Fr} {s : S} {a : Act} {w : World}

def HeapOk (ρ : Env) (hF : Fr) (heap : List SH) (w : World) : Prop := ∃ hO, Hp.disj hF hO ∧ star ρ heap hO ∧ (Hp.union hF hO).sub w ∧ hF.wi w

/-! ### Writing -/

/-- What stands in a block once vs has been written from place i on. -/
def Wrote (c0 c1 : Array Value) (i : Nat) (vs : List Value) : Prop :=
  c1.size = c0.size ∧ ∀ j, c1[j]? = if i ≤ j ∧ j < i + vs.length then vs[j - i]? else c0[j]?

theorem run_storeCells {b off : Nat} {ty : TypeId} : ∀ (vs : List Value) (i : Nat) (c0 : Array Value) (w : World), w.heap[b]? = some (.cells c0 ty (0, 0)) →
    (∀ v ∈ vs, v.oneCell' = true) → off + i + vs.length ≤ c0.size →
    ∃ w' c1, (storeCells ⟨b, off, none⟩ vs i).run P w = .ok () w' ∧ w'.heap[b]? = some (.cells c1 ty (0, 0)) ∧ (∀ b', b' ≠ b → w'.heap[b']? = w.heap[b']?) ∧ Wrote c0 c1 (off + i) vs ∧ w'.os = w.os ∧ w'.output = w.output
  | [], i, c0, w, hb, _, _ => ⟨w, c0, by simp [storeCells], hb, fun _ _ => rfl, ⟨rfl, fun j => by rw [if_neg (by simp)]⟩, rfl, rfl⟩
  | v :: vs, i, c0, w, hb, hv, hl => by
    simp only [List.length_cons] at hl
    have hlt : off + i < c0.size := by omega
    have hcell : w.cell? ⟨b, off + i, none⟩ = some c0[off + i] := by simp [cell_of_heap hb, hlt]
    have hfr : w.frozen? ⟨b, off + i, none⟩ = false := by simp [World.frozen?, hb]
    have hset : (w.setCell ⟨b, off + i, none⟩ v).heap[b]? = some (.cells (c0.setIfInBounds (off + i) v) ty (0, 0)) := by
      simp only [World.setCell, Array.getElem?_modify, if_true, hb, Option.map_some]
      simp
    have hoth : ∀ b', b' ≠ b → (w.setCell ⟨b, off + i, none⟩ v).heap[b']? = w.heap[b']? := fun b' hne => by
      simp only [World.setCell, Array.getElem?_modify]
      rw [if_neg (fun h => hne h.symm)]
    obtain ⟨w', c1, hrun, h1, h2, ⟨h3, h4⟩, ho⟩ := run_storeCells (off := off) vs (i + 1) (c0.setIfInBounds (off + i) v) _ hset (fun x hx => hv x (List.mem_cons_of_mem _ hx)) (by simp only [Array.size_setIfInBounds]; omega)
    refine ⟨w', c1, ?_, h1, fun b' hne => (h2 b' hne).trans (hoth b' hne), ⟨by simpa using h3, fun j => ?_⟩, ho⟩
    · simp only [storeCells, addr_add, Sem.run_bind]
      rw [run_store P w _ v _ (hv v (List.mem_cons_self ..)), hcell]
      simp only [hfr, Bool.false_eq_true, if_false, Result.andThen_ok]
      exact hrun
    · rw [h4 j]
      simp only [List.length_cons]
      by_cases hj : j = off + i
      · subst hj
        rw [if_neg (by omega), if_pos (by omega)]
        simp [hlt]
      · by_cases hin : off + (i + 1) ≤ j ∧ j < off + (i + 1) + vs.length
        · rw [if_pos hin, if_pos (by omega)]
          rw [show j - (off + i) = (j - (off + (i + 1))) + 1 from by omega, List.getElem?_cons_succ]
        · rw [if_neg hin, if_neg (by omega)]
          rw [Array.getElem?_setIfInBounds_ne (fun h => hj h.symm)]

theorem run_storeVar {t : TypeId} {n b off : Nat} {c0 : Array Value} {ty : TypeId} {v : Value} {vs : List Value} (hn : sizeP P t = some n) (hcs : v.cells = vs.toArray) (hl : vs.length = n)
    (hb : w.heap[b]? = some (.cells c0 ty (0, 0))) (hv : ∀ v ∈ vs, v.oneCell' = true) (hs : off + vs.length ≤ c0.size) :
    ∃ w' c1, (storeVar t ⟨b, off, none⟩ v).run P w = .ok () w' ∧ w'.heap[b]? = some (.cells c1 ty (0, 0)) ∧ (∀ b', b' ≠ b → w'.heap[b']? = w.heap[b']?) ∧ Wrote c0 c1 off vs ∧ w'.os = w.os ∧ w'.output = w.output := by
  obtain ⟨w', c1, h1, h2, h3, h4, ho⟩ := run_storeCells (P := P) (b := b) (off := off) vs 0 c0 w hb hv (by simpa using hs)
  refine ⟨w', c1, ?_, h2, h3, by simpa using h4, ho⟩
  unfold storeVar
  simp only [Sem.run_bind, sizeP_run hn, Result.andThen_ok, hcs]
  have : vs.toArray.size = n := by simpa using hl
  simp only [this, ne_eq, not_true_eq_false, if_false, Sem.run_pure, Result.andThen_ok]
  simpa using h1

theorem splice_get {row : List Value} {c : Nat} {vs : List Value} (h : c + vs.length ≤ row.length) (j : Nat) :
    (splice row c vs)[j]? = if c ≤ j ∧ j < c + vs.length then vs[j - c]? else row[j]? := by
  unfold splice
  by_cases h1 : j < c
  · rw [if_neg (by omega), List.append_assoc, List.getElem?_append_left (by simp; omega), List.getElem?_take_of_lt h1]
  · by_cases h2 : j < c + vs.length
    · rw [if_pos (by omega), List.append_assoc, List.getElem?_append_right (by simp; omega)]
      simp only [List.length_take]
      rw [Nat.min_eq_left (by omega), List.getElem?_append_left (by omega)]
    · rw [if_neg (by omega), List.append_assoc, List.getElem?_append_right (by simp; omega)]
      simp only [List.length_take]
      rw [Nat.min_eq_left (by omega), List.getElem?_append_right (by omega), List.getElem?_drop]
      congr 1; omega

theorem splice_length {row : List Value} {c : Nat} {vs : List Value} (h : c + vs.length ≤ row.length) : (splice row c vs).length = row.length := by
  simp [splice]; omega

theorem writeH_sound {x x' : SH} {e : T} {p c r : Nat} {vs needs : List T} (h : writeH x e p c vs = some (x', needs)) {H : Hp} (hx : x.den ρ H) (hr : x.reg = some r)
    (hn : ∀ c ∈ needs, (c.den ρ).b = true) :
    ∃ b c0 ty, (ρ r).r = some (b, 0) ∧ H b = some (.cells c0 ty (0, 0)) ∧ (e.den ρ).i.toNat * p + c + vs.length ≤ c0.size ∧
      ∀ c1, Wrote c0 c1 ((e.den ρ).i.toNat * p + c) (denVs ρ vs) → x'.den ρ (Hp.upd H b (.cells c1 ty (0, 0))) := by
  cases x with
  | cells r' ty ts =>
    simp only [SH.reg, Option.some.injEq] at hr; subst hr
    simp only [writeH] at h
    split at h
    · rename_i z hz
      split at h
      · rename_i hc
        simp only [Option.some.injEq, Prod.mk.injEq] at h
        obtain ⟨rfl, rfl⟩ := h
        have he : (e.den ρ).i = z := by unfold T.isLit at hz; split at hz <;> simp_all [T.den, O0.den]
        obtain ⟨b, h1, h2⟩ := hx
        refine ⟨b, _, ty, h1, h2, by rw [he]; simp [denVs]; omega, fun c1 hw => ?_⟩
        rw [he] at hw
        refine ⟨b, h1, ?_⟩
        simp only [Hp.upd, if_true, Option.some.injEq]
        congr 1
        apply Array.ext_getElem?
        intro j
        rw [hw.2 j]
        simp only [List.getElem?_toArray, replaceAt_den]
        rw [splice_get (by simp [denVs]; omega)]
      · simp at h
    · simp at h
  | arr r' ty pat d cap =>
    simp only [SH.reg, Option.some.injEq] at hr; subst hr
    simp only [writeH] at h
    split at h
    · rename_i hc
      simp only [Bool.and_eq_true, Nat.ble_eq] at hc
      have hp := Nat.eq_of_beq_eq_true hc.1.1
      simp only [Option.some.injEq, Prod.mk.injEq] at h
      obtain ⟨rfl, rfl⟩ := h
      have h0 := mkLe0_den (hn _ (List.mem_cons_self ..))
      have h1 := lss_dlen (hn _ (List.mem_cons_of_mem _ (List.mem_cons_self ..)))
      have hlt : (e.den ρ).i.toNat < (d.den ρ).d.length := by omega
      have hrow := List.getElem?_eq_getElem hlt
      rcases hx with ⟨_, hd, _⟩ | ⟨b, c0, g1, g2, g3, g4, g5⟩
      · rw [hd] at hlt; simp at hlt
      · obtain ⟨hfit, hcells⟩ := g5 _ _ hrow
        have hvl : (denVs ρ vs).length = vs.length := by simp [denVs]
        have hcapn : (d.den ρ).d.length ≤ (cap.den ρ).i.toNat := by omega
        have hmul : ((e.den ρ).i.toNat + 1) * p ≤ (cap.den ρ).i.toNat * p := Nat.mul_le_mul_right _ (by omega)
        have hsz : (e.den ρ).i.toNat * p + c + vs.length ≤ c0.size := by
          rw [g3, ← hp]
          rw [Nat.add_mul, Nat.one_mul] at hmul
          omega
        refine ⟨b, c0, ty, g1, g2, hsz, fun c1 hw => .inr ⟨b, c1, g1, by simp [Hp.upd], by rw [hw.1, g3], ?_, ?_⟩⟩
        · simp only [T.den, O3.den, putD, List.length_set]; exact g4
        · simp only [T.den, O3.den, row_den, putD, hrow, Option.getD_some]
          intro i row hi
          rw [List.getElem?_set] at hi
          split at hi
          · rename_i hie
            subst hie
            simp only [hlt, if_true, Option.some.injEq] at hi
            subst hi
            have hle : c + (denVs ρ vs).length ≤ ((d.den ρ).d[(e.den ρ).i.toNat]).length := by rw [hfit.1, hvl]; omega
            refine ⟨⟨by rw [splice_length hle, hfit.1], fun j k v hk hv => ?_⟩, fun k v hv => ?_⟩
            · rw [splice_get hle] at hv
              split at hv
              · rename_i hin
                refine fitsTs_den hc.2 (j - c) k v ?_ hv
                rw [List.getElem?_drop, show c + (j - c) = j from by omega]; exact hk
              · exact hfit.2 j k v hk hv
            · rw [splice_get hle] at hv
              rw [hw.2]
              rw [hp]
              split at hv
              · rename_i hin
                rw [if_pos (by omega)]
                rw [show 0 + (e.den ρ).i.toNat * pat.length + k - ((e.den ρ).i.toNat * pat.length + c) = k - c from by omega]
                exact hv
              · rw [if_neg (by omega)]
                exact hcells k v hv
          · rename_i hie
            obtain ⟨hf2, hc2⟩ := g5 i row hi
            refine ⟨hf2, fun k v hv => ?_⟩
            have hkl : k < pat.length := by
              rw [← hf2.1]
              rcases Nat.lt_or_ge k row.length with h | h
              · exact h
              · rw [List.getElem?_eq_none h] at hv; cases hv
            rw [hw.2, if_neg ?_]
            · exact hc2 k v hv
            · rintro ⟨q1, q2⟩
              rw [hvl] at q2
              rw [hp] at q1 q2
              have hcl : c + vs.length ≤ pat.length := by rw [← hp]; exact hc.1.2
              have e1 : (i * pat.length + k) / pat.length = i := by
                rw [Nat.mul_comm, Nat.mul_add_div (by omega), Nat.div_eq_of_lt hkl]; omega
              have e2 : (i * pat.length + k) / pat.length = (e.den ρ).i.toNat := by
                have : i * pat.length + k = pat.length * (e.den ρ).i.toNat + (i * pat.length + k - (e.den ρ).i.toNat * pat.length) := by
                  rw [Nat.mul_comm pat.length]; omega
                rw [this, Nat.mul_add_div (by omega), Nat.div_eq_of_lt (by omega)]; omega
              exact hie (e2.symm.trans e1)
    · simp at h
  | abs m t => simp [SH.reg] at hr

/-! ### New memory -/

theorem HeapOk.alloc {heap : List SH} {w : World} {nx : Nat} {cs : List T} {ty : TypeId} {c : Array Value} (h : HeapOk ρ hF heap w) (hsc : heap.all (SH.inB nx) = true)
    (hcs : denVs (ρ.set nx { r := some (w.heap.size, 0) }) cs = c.toList) :
    HeapOk (ρ.set nx { r := some (w.heap.size, 0) }) hF (.cells nx ty cs :: heap) { w with heap := w.heap.push (.cells c ty) } := by
  obtain ⟨hO, hd, hst, hsub, hwi⟩ := h
  have hlt : ∀ y o, Hp.union hF hO y = some o → y < w.heap.size := fun y o hy => by
    have := hsub y o hy
    rcases Nat.lt_or_ge y w.heap.size with h | h
    · exact h
    · rw [Array.getElem?_eq_none h] at this; cases this
  have hno : ∀ h', Hp.le h' (Hp.union hF hO) → Hp.disj h' (Hp.one w.heap.size (.cells c ty)) := fun h' hl y => by
    by_cases hy : y = w.heap.size
    · left
      cases hx : h' y with
      | none => rfl
      | some o => have := hlt y o (hl y o hx); omega
    · right; simp [Hp.one, hy]
  refine ⟨Hp.union (Hp.one w.heap.size (.cells c ty)) hO, ?_, ⟨_, hO, (hno hO (Hp.le_right hd)).symm, rfl, ⟨w.heap.size, by simp, ?_⟩, ?_⟩, ?_⟩
  · exact Hp.disj_union.2 ⟨hno hF (Hp.le_left _ _), hd⟩
  · rw [hcs]; simp [Hp.one]
  · exact star_congr (n := nx) (fun m hm => (Env.set_ne ρ _ (by omega)).symm) _ hsc _ hst
  · refine ⟨fun y o hy => ?_, hwi⟩
    by_cases hyb : y = w.heap.size
    · subst hyb
      have : hF w.heap.size = none := by
        cases hx : hF w.heap.size with
        | none => rfl
        | some o' => have := hlt w.heap.size o' (Hp.le_left _ _ _ _ hx); omega
      simp only [Hp.union, this, Hp.one, if_true, Option.none_or, Option.some_or, Option.some.injEq] at hy
      subst hy
      simp
    · have hy' : Hp.union hF hO y = some o := by
        simp only [Hp.union, Hp.one, hyb, if_false, Option.none_or] at hy ⊢
        exact hy
      have h1 := hsub y o hy'
      have h2 := hlt y o hy'
      rw [Array.getElem?_push_lt h2]
      rwa [Array.getElem?_eq_getElem h2] at h1

end Go.Eng
