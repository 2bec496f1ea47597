/- Appending; and all operations together. -/
import Derived.Test.YtlmkkphojjodhaaE8b
set_option linter.unusedSimpArgs false
set_option linter.unusedVariables false
namespace Go.Eng
open Go
variable {P : Program} {ρ : Env} {hF : Fr} {s : S} {a : Act} {w : World} {o : Oper} {r : R1}

/-! ### Rows laid out -/

/-- What a source comes to: rows that fit, m of them, whose cells can be read. -/
structure SrcOk (w : World) (pat : List CK) (v : Value) (d : List (List Value)) (m : Nat) : Prop where
  fits : ∀ row ∈ d, fitsRow pat row
  len : d.length = m
  shape : ∃ b c, v = .slice b m c
  cells : ∀ (h' : Array Obj) (dr : Nat), h' = w.heap → (Builtin.firstCells pat.length m v).run P { w with heap := h', drawn := dr } = .ok (flat d).toArray { w with heap := h', drawn := dr }

theorem firstCells_run {w : World} {b o : Nat} {c : Array Value} {ty : TypeId} {fr : Nat × Nat} {pat : List CK} {d : List (List Value)} {m cap : Nat} (hp : 0 < pat.length) (hb : w.heap[b]? = some (.cells c ty fr)) (h : rowsAt c o pat d) (hl : d.length = m) :
    (Builtin.firstCells pat.length m (.slice (some ⟨b, o, none⟩) m cap)).run P w = .ok (flat d).toArray w := by
  have hfl : (flat d).length = m * pat.length := by
    rw [← hl]
    exact flat_len (fun row hr => by
      obtain ⟨i, hi⟩ := List.getElem?_of_mem hr
      exact (h i row hi).1.1)
  exact run_firstCells_some w pat.length m ⟨b, o, none⟩ m cap (flat d) hfl (fun j v hv => by rw [addr_add, cell_of_heap hb]; exact rowsAt_flat hp h j v hv)

theorem srcOf_sound {pat : List CK} {x : SV} {src : Src} (hp : 0 < pat.length) (hs : Holds ρ hF s a w) (h : srcOf s pat x = some src) (hn : ∀ c ∈ src.needs, (c.den ρ).b = true) :
    0 ≤ (src.len.den ρ).i ∧ SrcOk (P := P) w pat (x.den ρ) (src.d.den ρ).d (src.len.den ρ).i.toNat := by
  unfold srcOf at h
  split at h
  · simp only [Option.some.injEq] at h; subst h
    refine ⟨by simp [T.den, O0.den], ⟨by simp [T.den, O0.den], by simp [T.den, O0.den], ⟨none, 0, by simp [SV.den, T.den, O0.den]⟩, fun h' dr _ => ?_⟩⟩
    simp [SV.den, T.den, O0.den, run_firstCells_none, flat]
  · rename_i rg p off len cap
    split at h
    · simp at h
    · rename_i hpp
      simp only [Bool.not_eq_true', Bool.not_eq_false] at hpp
      have hpp := Nat.eq_of_beq_eq_true hpp
      split at h
      · rename_i k rr ty cs hf
        obtain ⟨H, hsub, hro, hreg⟩ := hs.found hf
        simp only [SH.reg, Option.some.injEq] at hreg; subst hreg
        split at h
        · rename_i n hoff hlen
          split at h
          · rename_i hc
            simp only [Option.map_eq_some_iff] at h
            obtain ⟨d, hd, rfl⟩ := h
            obtain ⟨b, o0, c', ty', fr, g1, g2, g3⟩ := hro
            obtain ⟨e1, e2, e3⟩ := rowsLit_den (ρ := ρ) hpp hd
            have hl : (len.den ρ).i = n := by rw [isLit_eq hlen]; simp [T.den, O0.den]
            have ho : (off.den ρ).i = 0 := by rw [isLit_eq hoff]; simp [T.den, O0.den]
            simp only
            rw [hl]
            have hval : SV.den ρ (.one (.c3 (.vslice rr p) off len cap)) = .slice (some ⟨b, o0, none⟩) n.toNat (cap.den ρ).i.toNat := by
              simp [SV.den, T.den, O3.den, g1, addrOf, hl, ho]
            rw [hval]
            refine ⟨hc.1, ⟨e3, e1, ⟨_, _, rfl⟩, fun h' dr hh' => ?_⟩⟩
            subst hh'
            refine run_firstCells_some (P := P) _ pat.length n.toNat ⟨b, o0, none⟩ _ _ (flat (d.den ρ).d) ?_ (fun j v hv => ?_)
            · rw [e2, ← hpp]; simp [denVs]; omega
            · rw [addr_add, cell_of_heap (w := { w with heap := w.heap, drawn := dr }) (hsub _ _ g2)]
              rw [e2] at hv
              refine g3 j v ?_
              simp only [denVs, List.map_take] at hv ⊢
              rw [List.getElem?_take] at hv
              split at hv
              · exact hv
              · cases hv
          · simp at h
        · simp at h
      · rename_i k rr ty pat' d cap' hf
        obtain ⟨H, hsub, hro, hreg⟩ := hs.found hf
        simp only [SH.reg, Option.some.injEq] at hreg; subst hreg
        split at h
        · simp at h
        · rename_i hpat
          simp only [Bool.not_eq_true', Bool.not_eq_false, decide_eq_true_eq] at hpat
          subst hpat
          -- the general case: rows n to n + m
          have key : ∀ (n m : Nat) (dd : List (List Value)), dd = ((d.den ρ).d.drop n).take m → n + m ≤ (d.den ρ).d.length → (off.den ρ).i.toNat = n → (len.den ρ).i.toNat = m →
              SrcOk (P := P) w pat' (SV.den ρ (.one (.c3 (.vslice rr p) off len cap))) dd m := by
            intro n m dd hdd hle hoff hlen
            subst hdd
            rcases hro with ⟨g1, g2⟩ | ⟨b, o0, c', ty', fr, g1, g2, g3⟩
            · rw [g2] at hle
              have hm0 : m = 0 := by simp at hle; omega
              subst hm0
              refine ⟨by simp [g2], by simp, ⟨none, _, by simp [SV.den, T.den, O3.den, g1, addrOf, hlen]; rfl⟩, fun h' dr _ => ?_⟩
              simp [SV.den, T.den, O3.den, g1, addrOf, run_firstCells_none, flat]
            · have hr := rowsAt_sub g3 n m
              have hval : SV.den ρ (.one (.c3 (.vslice rr p) off len cap)) = .slice (some ⟨b, o0 + n * pat'.length, none⟩) m (cap.den ρ).i.toNat := by
                simp [SV.den, T.den, O3.den, g1, addrOf, hoff, hlen, hpp]
              rw [hval]
              refine ⟨fun row hm => ?_, by simp; omega, ⟨_, _, rfl⟩, fun h' dr hh' => ?_⟩
              · obtain ⟨i, hi⟩ := List.getElem?_of_mem hm
                exact (hr i row hi).1
              · subst hh'
                exact firstCells_run (w := { w with heap := w.heap, drawn := dr }) hp (hsub _ _ g2) hr (by simp; omega)
          split at h
          · rename_i hoff
            have ho : (off.den ρ).i.toNat = 0 := by rw [isLit_eq hoff]; simp [T.den, O0.den]
            split at h
            · rename_i hsame
              simp only [Option.some.injEq] at h; subst h
              have hl : (len.den ρ).i = ((d.den ρ).d.length : Int) := by rw [T.same_eq hsame, mkDlen_den]
              refine ⟨by simp only; omega, ?_⟩
              refine key 0 _ _ ?_ ?_ ho rfl
              · simp only [List.drop_zero]; rw [List.take_of_length_le (by omega)]
              · simp only; omega
            · simp only [Option.some.injEq] at h; subst h
              simp only at hn
              have n1 := mkLe0_den (hn _ (List.mem_cons_self ..))
              have n2 := leq_den (hn _ (List.mem_cons_of_mem _ (List.mem_cons_self ..)))
              rw [mkDlen_den] at n2
              refine ⟨n1, key 0 _ _ ?_ (by simp only; omega) ho rfl⟩
              simp [T.den, O2.den]
          · simp only [Option.some.injEq] at h; subst h
            simp only at hn
            have n1 := mkLe0_den (hn _ (List.mem_cons_self ..))
            have n2 := mkLe0_den (hn _ (List.mem_cons_of_mem _ (List.mem_cons_self ..)))
            have n3 := leq_den (hn _ (List.mem_cons_of_mem _ (List.mem_cons_of_mem _ (List.mem_cons_self ..))))
            rw [mkPlus_den, mkDlen_den] at n3
            refine ⟨n2, key _ _ _ ?_ (by simp only; omega) rfl rfl⟩
            simp [T.den, O2.den]
      · simp at h
  · simp at h

/-! ### Appending -/

theorem mkApp_den (x y : T) : ((mkApp x y).den ρ).d = (x.den ρ).d ++ (y.den ρ).d := by
  unfold mkApp; split <;> simp [T.den, O0.den, O2.den]

/-- What is appended to, in memory: its block, what else there is. -/
structure DstOk (ρ : Env) (hF : Fr) (heap : List SH) (w : World) (el : TypeId) (pat : List CK) (base : Option Addr) (cap : Nat) (d : List (List Value)) (hT hR : Hp) : Prop where
  d1 : Hp.disj hF hT
  d2 : Hp.disj hF hR
  d3 : Hp.disj hT hR
  st : star ρ heap hR
  sub : (Hp.union hF (Hp.union hT hR)).sub w
  wi : hF.wi w
  how : (base = none ∧ cap = 0 ∧ d = []) ∨ ∃ b c, base = some ⟨b, 0, none⟩ ∧ hT b = some (.cells c el (0, 0)) ∧ c.size = cap * pat.length ∧ d.length ≤ cap ∧ rowsAt c 0 pat d

theorem dstOf_sound {el : TypeId} {pat : List CK} {x : SV} {d len : T} {k : Option Nat} {n1 : List T} (hs : Holds ρ hF s a w) (h : dstOf s el pat x = some (d, len, k, n1)) (hn : ∀ c ∈ n1, (c.den ρ).b = true) :
    ∃ base cap hT hR, DstOk ρ hF (eraseO s.heap k) w el pat base cap (d.den ρ).d hT hR ∧ x.den ρ = .slice base (d.den ρ).d.length cap ∧ (len.den ρ).i = ((d.den ρ).d.length : Int) := by
  obtain ⟨hO, hd, hst, hsub, hwi⟩ := hs.hp
  unfold dstOf at h
  split at h
  · simp only [Option.some.injEq, Prod.mk.injEq] at h
    obtain ⟨rfl, rfl, rfl, rfl⟩ := h
    refine ⟨none, 0, Hp.emp, hO, ⟨fun _ => .inr rfl, hd, fun _ => .inl rfl, hst, ?_, hwi, .inl ⟨rfl, rfl, by simp [T.den, O0.den]⟩⟩, by simp [SV.den, T.den, O0.den], by simp [T.den, O0.den]⟩
    have : Hp.union hF (Hp.union Hp.emp hO) = Hp.union hF hO := by funext y; simp [Hp.union, Hp.emp]
    rw [this]; exact hsub
  · rename_i rg p off len' cap
    split at h
    · simp at h
    · rename_i hpp
      simp only [Bool.not_eq_true', Bool.not_eq_false] at hpp
      have hpp := Nat.eq_of_beq_eq_true hpp
      split at h
      · rename_i k' rr ty' pat' d' cap' hoff hat
        split at h
        · rename_i hc
          simp only [Bool.and_eq_true, decide_eq_true_eq] at hc
          have hty := Nat.eq_of_beq_eq_true hc.1
          have hpat := hc.2
          simp only [Option.some.injEq, Prod.mk.injEq] at h
          obtain ⟨rfl, rfl, rfl, rfl⟩ := h
          have e1 := eql_den (hn _ (List.mem_cons_self ..))
          have e2 := eql_den (hn _ (List.mem_cons_of_mem _ (List.mem_cons_self ..)))
          rw [mkDlen_den] at e1
          obtain ⟨hk, hreg⟩ := heapAt_spec hat
          simp only [SH.reg, Option.some.injEq] at hreg; subst hreg
          obtain ⟨t1, t2, td, tu, tx, ts⟩ := star_take hst hk
          have ho : (off.den ρ).i = 0 := by rw [isLit_eq hoff]; simp [T.den, O0.den]
          have hl : (len'.den ρ).i.toNat = (d'.den ρ).d.length := by omega
          have dj : Hp.disj hF t1 ∧ Hp.disj hF t2 := Hp.disj_union.1 (tu ▸ hd)
          subst hty hpat
          rcases tx with ⟨g1, g2, g3⟩ | ⟨b, c, g1, g2, g3, g4, g5⟩
          · refine ⟨none, 0, t1, t2, ⟨dj.1, dj.2, td, ts, tu ▸ hsub, hwi, .inl ⟨rfl, rfl, g2⟩⟩, ?_, e1⟩
            simp [SV.den, T.den, O3.den, g1, addrOf, hl, e2, g3]
          · refine ⟨some ⟨b, 0, none⟩, (cap'.den ρ).i.toNat, t1, t2, ⟨dj.1, dj.2, td, ts, tu ▸ hsub, hwi, .inr ⟨b, c, rfl, g2, g3, by omega, g5⟩⟩, ?_, e1⟩
            simp [SV.den, T.den, O3.den, g1, addrOf, hl, e2, ho]
        · simp at h
      · rename_i k' rr ty' hoff hat
        split at h
        · rename_i hc
          have hty := Nat.eq_of_beq_eq_true hc
          simp only [Option.some.injEq, Prod.mk.injEq] at h
          obtain ⟨rfl, rfl, rfl, rfl⟩ := h
          have e1 := eql_den (hn _ (List.mem_cons_self ..))
          have e2 := eql_den (hn _ (List.mem_cons_of_mem _ (List.mem_cons_self ..)))
          obtain ⟨hk, hreg⟩ := heapAt_spec hat
          simp only [SH.reg, Option.some.injEq] at hreg; subst hreg
          obtain ⟨t1, t2, td, tu, tx, ts⟩ := star_take hst hk
          have ho : (off.den ρ).i = 0 := by rw [isLit_eq hoff]; simp [T.den, O0.den]
          have dj : Hp.disj hF t1 ∧ Hp.disj hF t2 := Hp.disj_union.1 (tu ▸ hd)
          subst hty
          simp only [T.den, O0.den] at e1 e2
          obtain ⟨b, g1, g2⟩ := tx
          refine ⟨some ⟨b, 0, none⟩, 0, t1, t2, ⟨dj.1, dj.2, td, ts, tu ▸ hsub, hwi, .inr ⟨b, _, rfl, g2, by simp [denVs], by simp [T.den, O0.den], by simp [T.den, O0.den, rowsAt]⟩⟩, ?_, by simp [T.den, O0.den]⟩
          simp [SV.den, T.den, O0.den, O3.den, g1, addrOf, e1, e2, ho]
        · simp at h
      · simp at h
  · simp at h

theorem append_run {heap : List SH} {t ty el : TypeId} {i : TypeInfo} {z : Value} {pat : List CK} {base : Option Addr} {cap m : Nat} {d dd : List (List Value)} {hT hR : Hp} {y : Value}
    (hD : DstOk ρ hF heap w el pat base cap d hT hR) (hS : SrcOk (P := P) w pat y dd m) (ht : P.underlying t = some (.slice el)) (hi : P.info? el = some i) (hz : i.zero = some z) (hzs : z.cells.size = i.size) (hp : pat.length = i.size) (hp0 : 0 < i.size) (hb0 : 0 < i.bytes)
    (hb : (d.length + m) * i.bytes ≤ 140737488355328) :
    ∃ w' u cap' hN, (Builtin.append_ #[t, t] ty #[.slice base d.length cap, y]).run P w = .ok (.slice (addrOf u 0) (d.length + m) cap') w' ∧ Hp.disj hF hN ∧ Hp.disj hN hR ∧ (Hp.union hF (Hp.union hN hR)).sub w' ∧ hF.wi w' ∧
      ((u = none ∧ d ++ dd = [] ∧ cap' = 0) ∨ ∃ b c, u = some (b, 0) ∧ hN b = some (.cells c el (0, 0)) ∧ c.size = cap' * pat.length ∧ d.length + m ≤ cap' ∧ rowsAt c 0 pat (d ++ dd)) := by
  obtain ⟨yb, yc, rfl⟩ := hS.shape
  have hlen : ∀ w' : World, (Builtin.lenOf (.slice yb m yc)).run P w' = .ok m w' := fun _ => rfl
  have hc0 : (Builtin.firstCells i.size m (.slice yb m yc)).run P w = .ok (flat dd).toArray w := by
    have := hS.cells w.heap w.drawn rfl
    rwa [hp] at this
  have hcD : (Builtin.firstCells i.size m (.slice yb m yc)).run P w.drew = .ok (flat dd).toArray w.drew := by
    have := hS.cells w.heap (w.drawn + 1) rfl
    rwa [hp] at this
  have hdl := hS.len
  have hfl : (flat dd).length = m * i.size := by rw [← hdl]; exact flat_len (fun row hr => by rw [(hS.fits row hr).1, hp])
  have hgd := flat_good hS.fits
  by_cases hroom : d.length + m ≤ cap
  · rcases hD.how with ⟨rfl, rfl, rfl⟩ | ⟨b, c, rfl, g2, g3, g4, g5⟩
    · have hm : m = 0 := by simp at hroom; exact hroom
      have hdd : dd = [] := List.length_eq_zero_iff.1 (by omega)
      subst hdd
      subst hm
      refine ⟨w, none, 0, hT, ?_, hD.d1, hD.d3, hD.sub, hD.wi, .inl ⟨rfl, by simp, rfl⟩⟩
      simp [Builtin.append_, run_underlying ht, sizeOf, typeInfo, hi, hlen, hc0, addrOf]
    · have hlt : ∀ b o, Hp.union hF (Hp.union hT hR) b = some o → w.heap[b]? = some o := hD.sub
      have hFb : hF b = none := (hD.d1 b).resolve_right (by rw [g2]; simp)
      have hRb : hR b = none := (hD.d3 b).resolve_left (by rw [g2]; simp)
      have hwb : w.heap[b]? = some (.cells c el (0, 0)) := hlt b _ (by simp [Hp.union, hFb, g2])
      have hfit0 := rowsAt_fits g5
      have hfd : (flat d).length = d.length * i.size := flat_len (fun row hr => by rw [(hfit0 row hr).1, hp])
      have hsz : d.length * i.size + (flat dd).length ≤ c.size := by
        rw [g3, hfl, hp, ← Nat.add_mul]; exact Nat.mul_le_mul_right _ hroom
      obtain ⟨w', c1, hrun, hw1, hw2, ⟨hsz1, hget⟩, hos⟩ := run_storeCells (P := P) (off := d.length * i.size) (flat dd) 0 c w hwb hgd (by simpa using hsz)
      refine ⟨w', some (b, 0), cap, Hp.upd hT b (.cells c1 el (0, 0)), ?_, ?_, ?_, ?_, ⟨hos.1.trans hD.wi.1, hos.2.trans hD.wi.2⟩, .inr ⟨b, c1, rfl, by simp [Hp.upd], by rw [hsz1, g3], hroom, ?_⟩⟩
      · simp [Builtin.append_, run_underlying ht, sizeOf, typeInfo, hi, hlen, hroom, hc0, Addr.add_lit, hrun, addrOf]
      · intro q
        rcases hD.d1 q with h | h
        · exact .inl h
        · right; unfold Hp.upd; split
          · rename_i he; subst he; rw [g2] at h; cases h
          · exact h
      · intro q
        rcases hD.d3 q with h | h
        · left; unfold Hp.upd; split
          · rename_i he; subst he; rw [g2] at h; cases h
          · exact h
        · exact .inr h
      · intro q ob hq
        by_cases hqb : q = b
        · subst hqb
          simp only [Hp.union, hFb, Hp.upd, if_true, Option.none_or, Option.some_or, Option.some.injEq] at hq
          rw [hw1, hq]
        · rw [hw2 q hqb]
          refine hlt q ob ?_
          simp only [Hp.union, Hp.upd, hqb, if_false] at hq ⊢
          exact hq
      · refine rowsAt_of_flat (fun row hr => ?_) (fun j v hv => ?_)
        · rcases List.mem_append.1 hr with h | h
          · exact hfit0 row h
          · exact hS.fits row h
        · rw [flat_append] at hv
          rw [hget]
          by_cases hj : j < (flat d).length
          · rw [if_neg (by omega)]
            rw [List.getElem?_append_left hj] at hv
            exact rowsAt_flat (by omega) g5 j v hv
          · rw [List.getElem?_append_right (by omega)] at hv
            have hj2 : j - (flat d).length < (flat dd).length := by
              rcases Nat.lt_or_ge (j - (flat d).length) (flat dd).length with h' | h'
              · exact h'
              · rw [List.getElem?_eq_none h'] at hv; cases hv
            rw [if_pos (by omega)]
            rw [hfd] at hv
            rw [show 0 + j - (d.length * i.size + 0) = j - d.length * i.size from by omega]
            exact hv
  · have hg : cap < d.length + m := by omega
    have hfit := growslice_fits hg hb
    have hge := grownCap_ge w (d.length + m) cap el
    have hn : ¬ (d.length + m ≤ cap) := hroom
    have h63 : d.length + m ≤ 140737488355328 := Nat.le_trans (by have := Nat.mul_le_mul_left (d.length + m) hb0; omega) hb
    have h63' : ¬ (9223372036854775807 < ((d.length : Int) + (m : Int))) := by omega
    have h48' : ¬ (281474976710656 < Builtin.nextslicecap (d.length + m) cap * i.bytes) := by omega
    have hfits : ∀ row ∈ d, fitsRow pat row := by
      rcases hD.how with ⟨rfl, rfl, rfl⟩ | ⟨b, c, rfl, g2, g3, g4, g5⟩
      · simp
      · exact rowsAt_fits g5
    have hold : (Builtin.firstCells i.size d.length (.slice base d.length cap)).run P w.drew = .ok (flat d).toArray w.drew := by
      rcases hD.how with ⟨rfl, rfl, rfl⟩ | ⟨b, c, rfl, g2, g3, g4, g5⟩
      · simp [run_firstCells_none, flat]
      · have hFb : hF b = none := (hD.d1 b).resolve_right (by rw [g2]; simp)
        have hwb : w.drew.heap[b]? = some (.cells c el (0, 0)) := hD.sub b _ (by simp [Hp.union, hFb, g2])
        have := firstCells_run (P := P) (w := w.drew) (cap := cap) (by omega) hwb g5 rfl
        rwa [hp] at this
    have hfd : (flat d).length = d.length * i.size := flat_len (fun row hr => by rw [(hfits row hr).1, hp])
    let G := grownCap w (d.length + m) cap el
    let ob : Array Value := ((flat d ++ flat dd).toArray ++ Builtin.zeroCells z.cells (G - (d.length + m)))
    have hlt : ∀ y o, Hp.union hF (Hp.union hT hR) y = some o → y < w.heap.size := fun y o hy => by
      have := hD.sub y o hy
      rcases Nat.lt_or_ge y w.heap.size with h | h
      · exact h
      · rw [Array.getElem?_eq_none h] at this; cases this
    have hR0 : ∀ q, q = w.heap.size → hF q = none ∧ hR q = none := fun q hq => by
      have : Hp.union hF (Hp.union hT hR) q = none := by
        cases hx : Hp.union hF (Hp.union hT hR) q with
        | none => rfl
        | some o => have := hlt q o hx; omega
      simp only [Hp.union, Option.or_eq_none_iff] at this
      exact ⟨this.1, this.2.2⟩
    refine ⟨w.drew.alloc (.cells ob el), some (w.heap.size, 0), G, Hp.one w.heap.size (.cells ob el (0, 0)), ?_, ?_, ?_, ?_, hD.wi, .inr ⟨w.heap.size, ob, rfl, by simp [Hp.one], ?_, hge, ?_⟩⟩
    · simp [Builtin.append_, run_underlying ht, sizeOf, typeInfo, zeroValue, hi, hz, hlen, hn, h63', h48', Question.forced, hcD, hold, newRow, grownCap, ob, G, addrOf]
      congr 2
      apply Array.ext'
      simp [List.append_assoc]
    · intro q
      by_cases hq : q = w.heap.size
      · exact .inl (hR0 q hq).1
      · right; simp [Hp.one, hq]
    · intro q
      by_cases hq : q = w.heap.size
      · exact .inr (hR0 q hq).2
      · left; simp [Hp.one, hq]
    · intro q o hq
      show (w.heap.push _)[q]? = some o
      by_cases hqb : q = w.heap.size
      · subst hqb
        simp only [Hp.union, (hR0 _ rfl).1, Hp.one, if_true, Option.none_or, Option.some_or, Option.some.injEq] at hq
        simp [hq]
      · have hq' : Hp.union hF (Hp.union hT hR) q = some o := by
          simp only [Hp.union, Hp.one, hqb, if_false, Option.none_or] at hq ⊢
          rcases hx : hF q with _ | o1
          · rw [hx] at hq
            simp only [Option.none_or] at hq ⊢
            have := (hD.d3 q).resolve_right (by rw [hq]; simp)
            rw [this, hq]; rfl
          · rw [hx] at hq; simpa using hq
        have h2 := hlt q o hq'
        have h1 := hD.sub q o hq'
        rw [Array.getElem?_push_lt h2]
        rwa [Array.getElem?_eq_getElem h2] at h1
    · simp only [ob, Array.size_append, List.size_toArray, List.length_append, hfd, hfl, size_zeroCells, hzs, hp, ← Nat.add_mul]
      congr 1
      simp only [G]; omega
    · refine rowsAt_of_flat (fun row hr => ?_) (fun j v hv => ?_)
      · rcases List.mem_append.1 hr with h | h
        · exact hfits row h
        · exact hS.fits row h
      · rw [flat_append] at hv
        have hj : j < (flat d ++ flat dd).length := by
          rcases Nat.lt_or_ge j (flat d ++ flat dd).length with h' | h'
          · exact h'
          · rw [List.getElem?_eq_none h'] at hv; cases hv
        simp only [ob, Nat.zero_add]
        rw [Array.getElem?_append_left (by simpa using hj)]
        simpa using hv

theorem step_append {args : Array Operand} {tys : Array TypeId} (hs : Holds ρ hF s a w) (hop : o.op = .call { callee := .builtin .append, args, argTypes := tys }) (hsc : s.scopedEH = true) (h : stepOp P s o = some r) (hn : ∀ c ∈ r.needs, (c.den ρ).b = true) : StepOk P ρ hF s a w o r := by
  simp only [stepOp, hop] at h
  split at h
  · rename_i x y t t2 ha ht
    have hargs : args = #[x, y] := by apply Array.ext'; simpa using ha
    have htys : tys = #[t, t2] := by apply Array.ext'; simpa using ht
    split at h
    · rename_i htt
      have htt := Nat.eq_of_beq_eq_true htt
      subst htt
      split at h
      · rename_i va vb hx hy
        have hex := hs.opd hx
        have hey := hs.opd hy
        unfold stepAppend at h
        split at h
        · rename_i el hu
          split at h
          · rename_i z n bz hz hsz hbz
            split at h
            · rename_i hchk
              simp only [Bool.and_eq_true, Nat.blt_eq] at hchk
              have hzl := Nat.eq_of_beq_eq_true hchk.1.1
              split at h
              · rename_i d len k n1 src hdst hsrc
                split at h
                · simp at h
                · rename_i hin
                  simp only [Bool.not_eq_true', Bool.not_eq_false, Bool.and_eq_true] at hin
                  simp only [Option.some.injEq] at h; subst h
                  obtain ⟨i, v, hi, hiz, hzc⟩ := zeroP_info (ρ := ρ) hz
                  have his : i.size = n := by simpa [sizeP, hi] using hsz
                  have hib : i.bytes = bz := by simpa [bytesP, hi] using hbz
                  obtain ⟨base, cap, hT, hR, hD, hxv, hlen⟩ := dstOf_sound hs hdst (fun c hc => hn c (by simp [hc]))
                  obtain ⟨hm0, hS⟩ := srcOf_sound (P := P) (by simp [hzl]; omega) hs hsrc (fun c hc => hn c (by simp [hc]))
                  have hnb := leq_den (hn _ (List.mem_append_right _ (List.mem_singleton.2 rfl)))
                  simp only [T.den, O0.den, O2.den, mkPlus_den, hlen] at hnb
                  have hbb : ((d.den ρ).d.length + (src.len.den ρ).i.toNat) * i.bytes ≤ 140737488355328 := by
                    rw [hib]
                    have e : (((((d.den ρ).d.length + (src.len.den ρ).i.toNat) * bz : Nat)) : Int) = (bz : Int) * (((d.den ρ).d.length : Int) + (src.len.den ρ).i) := by
                      rw [Int.natCast_mul, Int.natCast_add, Int.toNat_of_nonneg hm0, Int.mul_comm]
                    omega
                  obtain ⟨w', u, cap', hN, hrun, j1, j2, j3, jw, j4⟩ := append_run (P := P) (ty := o.type) hD hS hu hi hiz (by rw [hzc, his]; simp [denVs, hzl]) (by simp [hzl, his]) (by omega) (by omega) hbb
                  let u1 : U := { r := u }
                  let u2 : U := { i := (cap' : Int) }
                  have hag : ∀ m, m < s.nx → ρ m = ((ρ.set s.nx u1).set (s.nx + 1) u2) m := fun m hm => by
                    rw [Env.set_ne _ _ (by omega), Env.set_ne _ _ (by omega)]
                  have hsh : (eraseO s.heap k).all (SH.inB s.nx) = true := by
                    simp only [S.scopedEH, Bool.and_eq_true] at hsc
                    have h0 := List.all_eq_true.1 hsc.2
                    cases k with
                    | none => exact hsc.2
                    | some k => exact List.all_eq_true.2 fun x hx => h0 x (List.mem_of_mem_eraseIdx hx)
                  have hd' : ((mkApp d src.d).den ((ρ.set s.nx u1).set (s.nx + 1) u2)).d = (d.den ρ).d ++ (src.d.den ρ).d := by
                    rw [← T.den_congr hag _ hin.1, mkApp_den]
                  have hl' : ((mkPlus len src.len).den ((ρ.set s.nx u1).set (s.nx + 1) u2)).i.toNat = (d.den ρ).d.length + (src.len.den ρ).i.toNat := by
                    rw [← T.den_congr hag _ hin.2, mkPlus_den, hlen]; omega
                  have e1 : ((ρ.set s.nx u1).set (s.nx + 1) u2) s.nx = u1 := by rw [Env.set_ne _ _ (by omega), Env.set_same]
                  have e2 : ((ρ.set s.nx u1).set (s.nx + 1) u2) (s.nx + 1) = u2 := Env.set_same ..
                  have hsl := hS.len
                  refine ⟨[u1, u2], w', rfl, by simp [U.good, u1, u2, Value.oneCell'], ⟨Hp.union hN hR, Hp.disj_union.2 ⟨j1, hD.d2⟩, ⟨hN, hR, j2, rfl, ?_, star_congr hag _ hsh _ hD.st⟩, j3, jw⟩, ?_, fun h => by cases h⟩
                  · rcases j4 with ⟨g1, g2, g3⟩ | ⟨b, c, g1, g2, g3, g4, g5⟩
                    · refine .inl ⟨by simp only [setL]; rw [e1]; exact g1, by simp only [setL]; rw [hd', g2], by simp only [setL, T.den]; rw [e2]; simp [u2, g3]⟩
                    · refine .inr ⟨b, c, by simp only [setL]; rw [e1]; exact g1, g2, by simp only [setL, T.den]; rw [e2]; simp [u2, g3], ?_, by simp only [setL]; rw [hd']; exact g5⟩
                      simp only [setL, T.den]; rw [e2, hd']; simp only [u2, List.length_append, hsl]; omega
                  · have hv : SV.den ((ρ.set s.nx u1).set (s.nx + 1) u2) (.one (.vslice s.nx (.lit 0) (mkPlus len src.len) (.var (s.nx + 1)) n)) = .slice (addrOf u 0) ((d.den ρ).d.length + (src.len.den ρ).i.toNat) cap' := by
                      simp only [SV.den, T.den, O0.den, O3.den, hl', e1, e2, u1, u2]
                      simp
                    simp only [Ran, setL, hv]
                    simp [execOp, hop, resolve, invoke, builtin, hargs, htys, hex, hey, hxv, hrun]
              · simp at h
            · simp at h
          · simp at h
        · simp at h
      · simp at h
    · simp at h
  · simp at h

/-- All of them. -/
theorem stepOp_sound (hs : Holds ρ hF s a w) (h : stepOp P s o = some r) (hn : ∀ c ∈ r.needs, (c.den ρ).b = true) (hsc : r.fresh = 0 ∨ s.scopedEH = true) : StepOk P ρ hF s a w o r := by
  have h0 := h
  cases hop : o.op with
  | move x => exact step_move hs (.inl hop) (by simpa [stepOp, hop] using h)
  | assign x => exact step_move hs (.inr hop) (by simpa [stepOp, hop] using h)
  | pick c x y => exact step_pick hs hop h
  | box t x =>
    refine step_box hs hop (hsc.resolve_left fun hf => ?_) h
    simp only [stepOp, hop] at h
    split at h
    · simp only [Option.some.injEq] at h; subst h; cases hf
    · simp at h
  | alloc t =>
    refine step_alloc hs hop (hsc.resolve_left fun hf => ?_) h
    simp only [stepOp, hop] at h
    split at h
    · simp only [Option.some.injEq] at h; subst h; cases hf
    · simp at h
  | build t ps => exact step_build hs hop h
  | buildSlice t n ps =>
    refine step_buildSlice hs hop (hsc.resolve_left fun hf => ?_) h
    simp only [stepOp, hop] at h
    repeat' (split at h)
    all_goals first | (simp at h; done) | (simp only [Option.some.injEq] at h; subst h; cases hf)
  | load t x => exact step_load hs hop h hn
  | store t x y => exact step_store hs hop h hn
  | nilCheck x => exact step_nilCheck hs hop h hn
  | binOp op t x y u => exact step_bin hs hop h hn
  | unOp op t x => exact step_unOp hs hop h
  | convert src dst x => exact step_convert hs hop h
  | fieldAddr t x f => exact step_fieldAddr hs hop h hn
  | field t x f => exact step_field hs hop h
  | indexAddr t x i => exact step_indexAddr hs hop h hn
  | makeSlice t l c =>
    refine step_make hs hop (hsc.resolve_left fun hf => ?_) h hn
    simp only [stepOp, hop] at h
    split at h
    · unfold stepMake at h
      repeat' (split at h)
      all_goals first | (simp at h; done) | (simp only [Option.some.injEq] at h; subst h; cases hf)
    · simp at h
  | slice t x lo hi mx => exact step_slice hs hop h hn
  | extract x i => exact step_extract hs hop h
  | makeFunc fn f c => exact step_makeFunc hs hop h
  | call c =>
    obtain ⟨callee, args, tys⟩ := c
    cases callee with
    | builtin b =>
      cases b
      case len => exact step_len hs hop h hn
      case min => exact step_min hs hop h
      case max => exact step_max hs hop h
      case append =>
        refine step_append hs hop (hsc.resolve_left fun hf => ?_) h hn
        simp only [stepOp, hop] at h
        repeat' (split at h)
        all_goals first | (simp at h; done) | skip
        unfold stepAppend at h
        repeat' (split at h)
        all_goals first | (simp at h; done) | (simp only [Option.some.injEq] at h; subst h; cases hf)
      all_goals simp [stepOp, hop] at h
    | value f => simp [stepOp, hop] at h
    | invoke f m => simp [stepOp, hop] at h
  | _ => simp [stepOp, hop] at h

end Go.Eng
