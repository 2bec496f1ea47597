/- Slices: made, cut, appended to. -/
import Derived.Test.YtlmkkphojjodhaaE8
set_option linter.unusedSimpArgs false
set_option linter.unusedVariables false
namespace Go.Eng
open Go
variable {P : Program} {ρ : Env} {hF : Fr} {s : S} {a : Act} {w : World} {o : Oper} {r : R1}

theorem bytesP_info {t : TypeId} {n : Nat} (h : bytesP P t = some n) : ∃ i, P.info? t = some i ∧ i.bytes = n := by
  unfold bytesP at h; simpa [Option.map_eq_some_iff] using h
theorem sizeP_info {t : TypeId} {n : Nat} (h : sizeP P t = some n) : ∃ i, P.info? t = some i ∧ i.size = n := by
  unfold sizeP at h; simpa [Option.map_eq_some_iff] using h

theorem leq_den {x y : T} (h : ((mkCmp .leq x y).den ρ).b = true) : (x.den ρ).i ≤ (y.den ρ).i := by
  rw [mkCmp_den _ _ _ (by simp)] at h; exact of_decide_eq_true h
theorem eql_den {x y : T} (h : ((mkCmp .eql x y).den ρ).b = true) : (x.den ρ).i = (y.den ρ).i := by
  rw [mkCmp_den _ _ _ (by simp)] at h; simpa [cmpOf] using h

/-- A new block with whatever assertion. -/
theorem HeapOk.new {heap : List SH} {w : World} {n : Nat} {ρ' : Env} {x : SH} {ob : Obj} {d : Nat} (h : HeapOk ρ hF heap w) (hsc : heap.all (SH.inB n) = true) (hag : ∀ m, m < n → ρ m = ρ' m)
    (hx : x.den ρ' (Hp.one w.heap.size ob)) : HeapOk ρ' hF (x :: heap) { w with heap := w.heap.push ob, drawn := d } := by
  obtain ⟨hO, hd, hst, hsub, hwi⟩ := h
  have hlt : ∀ y o, Hp.union hF hO y = some o → y < w.heap.size := fun y o hy => by
    have := hsub y o hy
    rcases Nat.lt_or_ge y w.heap.size with h | h
    · exact h
    · rw [Array.getElem?_eq_none h] at this; cases this
  have hno : ∀ h', Hp.le h' (Hp.union hF hO) → Hp.disj h' (Hp.one w.heap.size ob) := fun h' hl y => by
    by_cases hy : y = w.heap.size
    · left
      cases hx : h' y with
      | none => rfl
      | some o => have := hlt y o (hl y o hx); omega
    · right; simp [Hp.one, hy]
  refine ⟨Hp.union (Hp.one w.heap.size ob) hO, ?_, ⟨_, hO, (hno hO (Hp.le_right hd)).symm, rfl, hx, ?_⟩, ?_⟩
  · exact Hp.disj_union.2 ⟨hno hF (Hp.le_left _ _), hd⟩
  · exact star_congr (n := n) hag _ hsc _ hst
  · refine ⟨fun y o hy => ?_, hwi⟩
    by_cases hyb : y = w.heap.size
    · subst hyb
      have : hF w.heap.size = none := by
        cases hx : hF w.heap.size with
        | none => rfl
        | some o' => have := hlt w.heap.size o' (Hp.le_left _ _ _ _ hx); omega
      simp only [Hp.union, this, Hp.one, if_true, Option.none_or, Option.some_or, Option.some.injEq] at hy
      subst hy
      simp
    · have hy' : Hp.union hF hO y = some o := by
        simp only [Hp.union, Hp.one, hyb, if_false, Option.none_or] at hy ⊢
        exact hy
      have h1 := hsub y o hy'
      have h2 := hlt y o hy'
      simp only
      rw [Array.getElem?_push_lt h2]
      rwa [Array.getElem?_eq_getElem h2] at h1

theorem kindOf_fits (hg : ρ.good) (t : T) : CK.fits (kindOf t) (t.den ρ).v = true := by
  have := (T.den_good hg t).1
  unfold kindOf
  split
  · simp [T.den, O1.den, CK.fits]
  · simp [T.den, O1.den, CK.fits]
  · exact this

theorem zero_fits (hg : ρ.good) (z : List T) : fitsRow (z.map kindOf) (denVs ρ z) := by
  refine ⟨by simp [denVs], fun c k v hk hv => ?_⟩
  simp only [List.getElem?_map, Option.map_eq_some_iff] at hk
  obtain ⟨t, ht, rfl⟩ := hk
  simp only [denVs, List.getElem?_map, ht, Option.map_some, Option.some.injEq] at hv
  subst hv
  exact kindOf_fits hg t

theorem zeroP_fits {t : TypeId} {z : List T} (h : zeroP P t = some z) (ρ : Env) : fitsRow (z.map kindOf) (denVs ρ z) := by
  have h1 := zeroP_in (n := 0) h
  have : denVs ρ z = denVs (fun _ => {}) z := denVs_congr (n := 0) (fun m hm => by omega) z h1
  rw [this]
  exact zero_fits (fun n => by simp [U.good, Value.oneCell']) z

theorem madeCells_get (z : List Value) (hz : 0 < z.length) (n j : Nat) (hj : j < n) : (madeCells z.toArray n)[j]? = z[j % z.length]? := by
  have hm : j % z.length < z.length := Nat.mod_lt _ hz
  simp [madeCells, hj, List.getElem?_eq_getElem hm]

theorem step_make {t : TypeId} {l c : Operand} (hs : Holds ρ hF s a w) (hop : o.op = .makeSlice t l c) (hsc : s.scopedEH = true) (h : stepOp P s o = some r) (hn : ∀ c ∈ r.needs, (c.den ρ).b = true) : StepOk P ρ hF s a w o r := by
  simp only [stepOp, hop] at h
  split at h
  · rename_i va vb hl hc
    have hel := hs.opd hl
    have hec := hs.opd hc
    have hil := opd_in hsc hl
    have hic := opd_in hsc hc
    unfold stepMake at h
    split at h
    · rename_i el kl lt kc ct hu
      simp only [SV.den, T.den, O1.den] at hel hec
      split at h
      · rename_i z n bz hz hsz hbz
        split at h
        · rename_i hchk
          simp only [Bool.and_eq_true, Nat.blt_eq] at hchk
          have hzl := Nat.eq_of_beq_eq_true hchk.1.1
          simp only [Option.some.injEq] at h; subst h
          have h0 := mkLe0_den (hn _ (List.mem_cons_self ..))
          have h1 := leq_den (hn _ (List.mem_cons_of_mem _ (List.mem_cons_self ..)))
          have h2 := leq_den (hn _ (List.mem_cons_of_mem _ (List.mem_cons_of_mem _ (List.mem_cons_self ..))))
          simp only [T.den, O0.den, O2.den] at h2
          obtain ⟨i, v, hi, hiz, hzc⟩ := zeroP_info (ρ := ρ) hz
          have his : i.size = n := by simpa [sizeP, hi] using hsz
          have hib : i.bytes = bz := by simpa [bytesP, hi] using hbz
          have hc63 : (ct.den ρ).i ≤ 9223372036854775807 := by
            have : (ct.den ρ).i ≤ (bz : Int) * (ct.den ρ).i := by
              have hb1 : (1 : Int) ≤ bz := by omega
              have := Int.mul_le_mul_of_nonneg_right hb1 (show 0 ≤ (ct.den ρ).i by omega)
              omega
            omega
          have hrun := run_make (P := P) w t el i v hu hi hiz kl kc (lt.den ρ).i (ct.den ρ).i h0 h1 (by rw [hib]; exact h2) hc63
          rw [hzc, his] at hrun
          have hdl : (denVs ρ z).length = n := by simp [denVs, hzl]
          let u : U := { r := some (w.heap.size, 0) }
          have hag : ∀ m, m < s.nx → ρ m = (ρ.set s.nx u) m := fun m hm => (Env.set_ne ρ u (by omega)).symm
          have hsh : s.heap.all (SH.inB s.nx) = true := by simp only [S.scopedEH, Bool.and_eq_true] at hsc; exact hsc.2
          have hlt : lt.den (ρ.set s.nx u) = lt.den ρ := (T.den_congr hag lt hil).symm
          have hct : ct.den (ρ.set s.nx u) = ct.den ρ := (T.den_congr hag ct hic).symm
          have hzd : denVs (ρ.set s.nx u) z = denVs ρ z := (denVs_congr hag z (zeroP_in hz)).symm
          refine ⟨[u], _, rfl, by simp [U.good, u, Value.oneCell'], HeapOk.new (ρ' := ρ.set s.nx u) (d := w.drawn) hs.hp hsh hag (ob := .cells (madeCells (denVs ρ z).toArray ((ct.den ρ).i.toNat * n)) el) ?_, ?_, fun h => by cases h⟩
          · refine .inr ⟨w.heap.size, madeCells (denVs ρ z).toArray ((ct.den ρ).i.toNat * n), by simp [u], by simp [Hp.one], ?_, ?_, ?_⟩
            · rw [size_madeCells, hct]; simp [hzl]
            · simp only [T.den, O2.den, List.length_replicate, hlt, hct]; omega
            · intro i row hrow
              simp only [T.den, O2.den, hlt] at hrow
              rw [List.getElem?_replicate] at hrow
              split at hrow
              · rename_i hil2
                simp only [Option.some.injEq, row_den, hzd] at hrow
                subst hrow
                refine ⟨zeroP_fits hz ρ, fun k v hv => ?_⟩
                have hk : k < n := by
                  rw [← hdl]
                  rcases Nat.lt_or_ge k (denVs ρ z).length with h | h
                  · exact h
                  · rw [List.getElem?_eq_none h] at hv; cases hv
                have hmul : (i + 1) * n ≤ (ct.den ρ).i.toNat * n := Nat.mul_le_mul_right _ (by omega)
                rw [Nat.add_mul, Nat.one_mul] at hmul
                rw [List.length_map, hzl]
                rw [madeCells_get _ (by omega) _ _ (by omega), hdl]
                rw [show (0 + i * n + k) % n = k from by rw [Nat.zero_add, Nat.mul_comm, Nat.mul_add_mod, Nat.mod_eq_of_lt hk]]
                exact hv
              · cases hrow
          · have hv : SV.den (ρ.set s.nx u) (.one (.vslice s.nx (.lit 0) lt ct n)) = .slice (some ⟨w.heap.size, 0, none⟩) (lt.den ρ).i.toNat (ct.den ρ).i.toNat := by
              simp [SV.den, T.den, O0.den, O3.den, addrOf, hlt, hct, u]
            simp only [Ran, setL, hv]
            simp only [execOp, hop, hel, hec, Sem.run_bind, hrun, Result.andThen_ok, Sem.run_pure]
            rfl
        · simp at h
      · simp at h
    · simp at h
  · simp at h

theorem boundOf_den (hs : Holds ρ hF s a w) {dflt t : T} {x : Option Operand} (h : boundOf s dflt x = some t) :
    match x with
    | none => t = dflt
    | some y => ∃ k, a.eval y = .int k (t.den ρ).i := by
  cases x with
  | none => simp only [boundOf, Option.some.injEq] at h; exact h.symm
  | some y =>
    simp only [boundOf] at h
    split at h
    · rename_i k t' hx
      simp only [Option.some.injEq] at h; subst h
      exact ⟨k, by have := hs.opd hx; simpa [SV.den, T.den, O1.den] using this⟩
    · simp at h

theorem mkMinus_den (x y : T) : ((mkMinus x y).den ρ).i = (x.den ρ).i - (y.den ρ).i := by
  unfold mkMinus
  split
  · rename_i u v hu hv; rw [isLit_eq hu, isLit_eq hv]; simp [T.den, O0.den]
  · rename_i v hu hv
    split
    · rename_i h0; rw [isLit_eq hv, h0]; simp [T.den, O0.den]
    · rfl
  · split
    · rename_i h; rw [T.same_eq h]; simp [T.den, O0.den]
    · rfl
theorem mkIfe_den (x y u v : T) : ((mkIfe x y u v).den ρ).i = if (x.den ρ).i = (y.den ρ).i then (u.den ρ).i else (v.den ρ).i := by
  unfold mkIfe
  split
  · rename_i p q hp hq
    rw [isLit_eq hp, isLit_eq hq]
    simp only [T.den, O0.den]
    by_cases h : p = q <;> simp [h]
  · split
    · rename_i h; rw [T.same_eq h]; simp
    · rfl

theorem sliceBound_run {v : Value} {k : IntKind} {z : Int} {y : Nat} {code : BoundsCode} (hv : v = .int k z) (h : 0 ≤ z ∧ z ≤ y) (w : World) : (Instr.sliceBound v y code).run P w = .ok z.toNat w := by
  subst hv
  simp [Instr.sliceBound, asIntOf, h]

theorem sliceBounds_run (w : World) {len cap : Nat} {L H M : Option Value} {l h m : Int} (hL : match L with | none => l = 0 | some v => ∃ k, v = .int k l) (hH : match H with | none => h = len | some v => ∃ k, v = .int k h)
    (hM : match M with | none => m = cap | some v => ∃ k, v = .int k m) (hHM : M = none ∨ H.isSome = true) (h0 : 0 ≤ l) (h1 : l ≤ h) (h2 : h ≤ m) (h3 : m ≤ cap) :
    (Instr.sliceBounds true len cap L H M).run P w = .ok (l.toNat, h.toNat, m.toNat) w := by
  have e1 : (h.toNat : Int) = h := by omega
  have e2 : (m.toNat : Int) = m := by omega
  cases M with
  | none =>
    have hM : m = cap := hM
    subst hM
    cases H with
    | none =>
      have hH : h = len := hH
      subst hH
      cases L with
      | none => have hL : l = 0 := hL; subst hL; simp [Instr.sliceBounds]
      | some v => obtain ⟨k, rfl⟩ := hL; simp [Instr.sliceBounds, Instr.sliceBound, asIntOf, h0, h1]
    | some vh =>
      obtain ⟨kh, rfl⟩ := hH
      have hh0 : 0 ≤ h := by omega
      cases L with
      | none => have hL : l = 0 := hL; subst hL; simp [Instr.sliceBounds, Instr.sliceBound, asIntOf, hh0, h2]
      | some v =>
        obtain ⟨k, rfl⟩ := hL
        have : l ≤ max h 0 := by omega
        simp [Instr.sliceBounds, Instr.sliceBound, asIntOf, h0, hh0, h2, this]
  | some vm =>
    obtain ⟨km, rfl⟩ := hM
    have hm0 : 0 ≤ m := by omega
    cases H with
    | none => simp at hHM
    | some vh =>
      obtain ⟨kh, rfl⟩ := hH
      have hh0 : 0 ≤ h := by omega
      have hmx : h ≤ max m 0 := by omega
      cases L with
      | none => have hL : l = 0 := hL; subst hL; simp [Instr.sliceBounds, Instr.sliceBound, asIntOf, hm0, h3, hh0, hmx]
      | some v =>
        obtain ⟨k, rfl⟩ := hL
        have : l ≤ max h 0 := by omega
        simp [Instr.sliceBounds, Instr.sliceBound, asIntOf, h0, hm0, h3, hh0, hmx, this]

theorem step_slice {t : TypeId} {x : Operand} {lo hi mx : Option Operand} (hs : Holds ρ hF s a w) (hop : o.op = .slice t x lo hi mx) (h : stepOp P s o = some r) (hn : ∀ c ∈ r.needs, (c.den ρ).b = true) : StepOk P ρ hF s a w o r := by
  simp only [stepOp, hop] at h
  split at h
  · rename_i va hx
    have hev := hs.opd hx
    unfold stepSlice at h
    split at h
    · rename_i el hu
      simp only [SV.den, T.den, O0.den] at hev
      split at h
      · rename_i n hsz hl hh' hm
        split at h
        · rename_i hchk
          simp only [Option.some.injEq] at h; subst h
          refine StepOk.quiet hs ?_
          have bl := boundOf_den hs hl
          have bh := boundOf_den hs hh'
          have bm := boundOf_den hs hm
          have hbounds : (Instr.sliceBounds true 0 0 (lo.map a.eval) (hi.map a.eval) (mx.map a.eval)).run P w = .ok ((0 : Int).toNat, (0 : Int).toNat, (0 : Int).toNat) w := by
            refine sliceBounds_run w (l := 0) (h := 0) (m := 0) ?_ ?_ ?_ ?_ (by omega) (by omega) (by omega) (by omega)
            · cases lo with
              | none => simp only [Option.map_none]
              | some v => exact bl
            · cases hi with
              | none => simp only [Option.map_none]; rfl
              | some v => exact bh
            · cases mx with
              | none => simp only [Option.map_none]; rfl
              | some v => exact bm
            · cases hi <;> cases mx <;> simp_all
          simp only [SV.den, T.den, O0.den]
          simp only [execOp, hop, Instr.sliceAt, Sem.run_bind, underlying_run hu, Result.andThen_ok, hev, Instr.slice, hbounds, sizeP_run hsz, Sem.run_pure]
          simp
        · simp at h
      · simp at h
    · rename_i el rg p off len cap hu
      simp only [SV.den, T.den, O3.den] at hev
      split at h
      · rename_i n l hh m hsz hl hh' hm
        split at h
        · rename_i hchk
          simp only [Bool.and_eq_true] at hchk
          have hnp := Nat.eq_of_beq_eq_true hchk.1
          subst hnp
          simp only [Option.some.injEq] at h; subst h
          have n1 := mkLe0_den (hn _ (List.mem_cons_self ..))
          have n2 := mkLe0_den (hn _ (List.mem_cons_of_mem _ (List.mem_cons_self ..)))
          have n3 := mkLe0_den (hn _ (List.mem_cons_of_mem _ (List.mem_cons_of_mem _ (List.mem_cons_self ..))))
          have n4 := mkLe0_den (hn _ (List.mem_cons_of_mem _ (List.mem_cons_of_mem _ (List.mem_cons_of_mem _ (List.mem_cons_self ..)))))
          have n5 := leq_den (hn _ (List.mem_cons_of_mem _ (List.mem_cons_of_mem _ (List.mem_cons_of_mem _ (List.mem_cons_of_mem _ (List.mem_cons_self ..))))))
          have n6 := leq_den (hn _ (List.mem_cons_of_mem _ (List.mem_cons_of_mem _ (List.mem_cons_of_mem _ (List.mem_cons_of_mem _ (List.mem_cons_of_mem _ (List.mem_cons_self ..)))))))
          have n7 := leq_den (hn _ (List.mem_cons_of_mem _ (List.mem_cons_of_mem _ (List.mem_cons_of_mem _ (List.mem_cons_of_mem _ (List.mem_cons_of_mem _ (List.mem_cons_of_mem _ (List.mem_cons_self ..))))))))
          refine StepOk.quiet hs ?_
          have bl := boundOf_den hs hl
          have bh := boundOf_den hs hh'
          have bm := boundOf_den hs hm
          -- the three bounds
          have hbounds : (Instr.sliceBounds true (len.den ρ).i.toNat (cap.den ρ).i.toNat (lo.map a.eval) (hi.map a.eval) (mx.map a.eval)).run P w = .ok ((l.den ρ).i.toNat, (hh.den ρ).i.toNat, (m.den ρ).i.toNat) w := by
            refine sliceBounds_run w ?_ ?_ ?_ ?_ n4 n5 n6 (by omega)
            · cases lo with
              | none => simp only [Option.map_none]; rw [bl]; simp [T.den, O0.den]
              | some v => exact bl
            · cases hi with
              | none => simp only [Option.map_none]; rw [bh]; omega
              | some v => exact bh
            · cases mx with
              | none => simp only [Option.map_none]; rw [bm]; omega
              | some v => exact bm
            · have := hchk.2
              cases hi <;> cases mx <;> simp_all
          have hoff : ((cutOff l m off).den ρ).i = if (m.den ρ).i = (l.den ρ).i then (off.den ρ).i else (off.den ρ).i + (l.den ρ).i := by
            unfold cutOff
            split
            · rename_i hz
              have : (l.den ρ).i = 0 := by rw [isLit_eq hz]; simp [T.den, O0.den]
              rw [this]; simp
            · rw [mkIfe_den, mkPlus_den]
          simp only [SV.den, T.den, O3.den, hoff, mkMinus_den]
          simp only [execOp, hop, Instr.sliceAt, Sem.run_bind, underlying_run hu, Result.andThen_ok, hev, Instr.slice, hbounds, sizeP_run hsz, Sem.run_pure]
          have e1 : (hh.den ρ).i.toNat - (l.den ρ).i.toNat = ((hh.den ρ).i - (l.den ρ).i).toNat := by omega
          have e2 : (m.den ρ).i.toNat - (l.den ρ).i.toNat = ((m.den ρ).i - (l.den ρ).i).toNat := by omega
          rw [e1, e2]
          congr 3
          by_cases hml : (m.den ρ).i = (l.den ρ).i
          · rw [if_pos (by rw [hml]), if_pos hml]
          · rw [if_neg (by omega), if_neg hml]
            cases hr : (ρ rg).r with
            | none => rfl
            | some bo =>
              simp only [addrOf, Option.map_some, addr_add, Option.some.injEq]
              have : ((off.den ρ).i + (l.den ρ).i).toNat * n = (off.den ρ).i.toNat * n + (l.den ρ).i.toNat * n := by
                rw [← Nat.add_mul]; congr 1; omega
              rw [this, Nat.add_assoc]
        · simp at h
      · simp at h
    · simp at h
  · simp at h

end Go.Eng
