/- One operation: what the engine says of it is what the machine does. -/
import Derived.Test.YtlmkkphojjodhaaE5
set_option linter.unusedSimpArgs false
set_option linter.unusedVariables false
namespace Go.Eng
open Go

/-- A frame: a piece of memory, and what of the world stays besides. -/
structure Fr where
  h : Hp
  os : Os
  out : Array (Nat × ByteArray)
instance : Coe Fr Hp := ⟨Fr.h⟩
instance : CoeFun Fr (fun _ => Hp) := ⟨Fr.h⟩
def Fr.wi (F : Fr) (w : World) : Prop := w.os = F.os ∧ w.output = F.out

/-- The state holds: of this frame, in this world. -/
structure Holds (ρ : Env) (hF : Fr) (s : S) (a : Act) (w : World) : Prop where
  gd : ρ.good
  nt : s.nt ≤ a.tmps.size
  df : a.defers = []
  env : ∀ t v, lookE t s.env = some v → a.tmps.getD t undef = v.den ρ
  ro : ∀ x ∈ s.ro, x.roden ρ hF
  hp : ∃ hO, Hp.disj hF hO ∧ star ρ s.heap hO ∧ (Hp.union hF hO).sub w ∧ hF.wi w
  pc : ∀ c b, (c, b) ∈ s.pc → (c.den ρ).b = b
  vw : ∀ x ∈ s.vw, ∃ m ∈ x.1, x.2.roden ρ (ρ m).h

variable {P : Program} {ρ : Env} {hF : Fr} {s : S} {a : Act} {w : World}

/-! ### Operands -/

theorem ofCell_den {v : Value} {t : T} (h : ofCell v = some t) : (t.den ρ).v = v := by
  unfold ofCell at h
  split at h <;> simp only [Option.some.injEq, reduceCtorEq] at h <;> subst h <;> simp [T.den, O0.den, O1.den]

theorem ofCell_in {v : Value} {t : T} {n : Nat} (h : ofCell v = some t) : t.inB n = true := by
  unfold ofCell at h
  split at h <;> simp only [Option.some.injEq, reduceCtorEq] at h <;> subst h <;> simp [T.inB]

theorem ofCells_den : ∀ {l : List Value} {ts : List T}, ofCells l = some ts → denVs ρ ts = l
  | [], ts, h => by simp only [ofCells, Option.some.injEq] at h; subst h; rfl
  | v :: r, ts, h => by
    simp only [ofCells] at h
    split at h
    · rename_i t ts' h1 h2
      simp only [Option.some.injEq] at h; subst h
      have := ofCells_den h2
      simp only [denVs, List.map_cons] at this ⊢
      rw [this, ofCell_den h1]
    · simp at h

theorem ofCells_in {n : Nat} : ∀ {l : List Value} {ts : List T}, ofCells l = some ts → ts.all (T.inB n) = true
  | [], ts, h => by simp only [ofCells, Option.some.injEq] at h; subst h; rfl
  | v :: r, ts, h => by
    simp only [ofCells] at h
    split at h
    · rename_i t ts' h1 h2
      simp only [Option.some.injEq] at h; subst h
      simp only [List.all_cons, ofCell_in h1, ofCells_in h2, Bool.and_self]
    · simp at h

theorem ofValue_den {v : Value} {x : SV} (h : ofValue v = some x) : x.den ρ = v := by
  unfold ofValue at h
  split at h
  · rename_i cs
    simp only [Option.map_eq_some_iff] at h
    obtain ⟨ts, h1, rfl⟩ := h
    simp only [SV.den, ofCells_den h1]
  · simp only [Option.map_eq_some_iff] at h
    obtain ⟨t, h1, rfl⟩ := h
    simp only [SV.den, ofCell_den h1]

theorem ofValue_in {v : Value} {x : SV} {n : Nat} (h : ofValue v = some x) : x.inB n = true := by
  unfold ofValue at h
  split at h
  · rename_i cs
    simp only [Option.map_eq_some_iff] at h
    obtain ⟨ts, h1, rfl⟩ := h
    exact ofCells_in h1
  · simp only [Option.map_eq_some_iff] at h
    obtain ⟨t, h1, rfl⟩ := h
    exact ofCell_in h1

theorem Holds.opd (hs : Holds ρ hF s a w) {x : Operand} {v : SV} (h : opd s x = some v) : a.eval x = v.den ρ := by
  cases x with
  | tmp t => exact hs.env t v h
  | const c => exact (ofValue_den h).symm
  | global g => simp [Eng.opd] at h
  | func f =>
    simp only [Eng.opd, Option.some.injEq] at h; subst h
    simp [Act.eval, SV.den, denVs]

theorem Holds.opds (hs : Holds ρ hF s a w) : ∀ {xs : List Operand} {vs : List SV}, opds s xs = some vs → xs.map a.eval = vs.map (SV.den ρ)
  | [], vs, h => by simp only [Eng.opds, Option.some.injEq] at h; subst h; rfl
  | x :: r, vs, h => by
    simp only [Eng.opds] at h
    split at h
    · rename_i v vs' h1 h2
      simp only [Option.some.injEq] at h; subst h
      simp only [List.map_cons]
      rw [hs.opd h1, Holds.opds hs h2]
    · simp at h

theorem lookE_in {n : Nat} : ∀ {l : List (Nat × SV)} {t : Nat} {v : SV}, l.all (fun x => x.2.inB n) = true → lookE t l = some v → v.inB n = true
  | [], t, v, _, h => by simp [lookE] at h
  | (k, u) :: r, t, v, hb, h => by
    simp only [List.all_cons, Bool.and_eq_true] at hb
    simp only [lookE] at h
    split at h
    · simp only [Option.some.injEq] at h; rw [← h]; exact hb.1
    · exact lookE_in hb.2 h

theorem opd_in (hsc : s.scopedEH = true) {x : Operand} {v : SV} (h : opd s x = some v) : v.inB s.nx = true := by
  simp only [S.scopedEH, Bool.and_eq_true] at hsc
  cases x with
  | tmp t => exact lookE_in hsc.1 h
  | const c => exact ofValue_in h
  | global g => simp [Eng.opd] at h
  | func f => simp only [Eng.opd, Option.some.injEq] at h; subst h; rfl

theorem cells_in {v : SV} {cs : List T} {n : Nat} (h : v.cells = some cs) (hv : v.inB n = true) : cs.all (T.inB n) = true := by
  cases v <;> simp only [SV.cells, Option.some.injEq, reduceCtorEq] at h <;> subst h
  · simpa [SV.inB] using hv
  · exact hv

theorem good_cellV {d : List (List Value)} (h : ∀ row ∈ d, ∀ v ∈ row, v.oneCell' = true) (e : Int) (c : Nat) : (cellV d e c).oneCell' = true := by
  unfold cellV
  cases h1 : d[e.toNat]? with
  | none => simp [Value.oneCell']
  | some row =>
    simp only [Option.getD_some]
    cases h2 : row[c]? with
    | none => simp [Value.oneCell']
    | some v => exact h row (List.mem_of_getElem? h1) v (List.mem_of_getElem? h2)

theorem good_headD {d : List (List Value)} (h : ∀ row ∈ d, ∀ v ∈ row, v.oneCell' = true) : ∀ v ∈ d.headD [], v.oneCell' = true := by
  cases d with
  | nil => simp
  | cons r _ => simpa using h r (by simp)

theorem T.den_good (hg : ρ.good) : ∀ (t : T), (t.den ρ).good
  | .var n => hg n
  | .c0 o => by cases o <;> simp [T.den, O0.den, U.good, Value.oneCell']
  | .c1 o x => by cases o <;> simp [T.den, O1.den, U.good, Value.oneCell']
  | .c2 o x y => by
    have hx := T.den_good hg x
    have hy := T.den_good hg y
    cases o <;> simp only [T.den, O2.den] <;> (try (simp [U.good, Value.oneCell']; done))
    case vcell c => exact ⟨good_cellV hx.2 _ _, by simp⟩
    case dsnoc => exact ⟨rfl, fun row hr => (List.mem_append.1 hr).elim (hx.2 row) (hy.2 row)⟩
    case rcons =>
      refine ⟨rfl, fun row hr v hv => ?_⟩
      simp only [List.mem_singleton] at hr
      subst hr
      rcases List.mem_cons.1 hv with rfl | hv
      · exact hx.1
      · exact good_headD hy.2 v hv
    case drep =>
      refine ⟨rfl, fun row hr v hv => ?_⟩
      rw [(List.mem_replicate.1 hr).2] at hv
      exact good_headD hy.2 v hv
    case dapp => exact ⟨rfl, fun row hr => (List.mem_append.1 hr).elim (hx.2 row) (hy.2 row)⟩
    case dtake => exact ⟨rfl, fun row hr => hx.2 row (List.mem_of_mem_take hr)⟩
    case ddrop => exact ⟨rfl, fun row hr => hx.2 row (List.mem_of_mem_drop hr)⟩
  | .c3 o x y z => by
    have hx := T.den_good hg x
    have hz := T.den_good hg z
    cases o
    · simp [T.den, O3.den, U.good, Value.oneCell']
    · simp only [T.den, O3.den]
      refine ⟨rfl, fun row hr v hv => ?_⟩
      unfold putD at hr
      rcases List.mem_or_eq_of_mem_set hr with hr | rfl
      · exact hx.2 row hr v hv
      · unfold splice at hv
        rcases List.mem_append.1 hv with hv | hv
        · rcases List.mem_append.1 hv with hv | hv
          · have hv := List.mem_of_mem_take hv
            cases h1 : (x.den ρ).d[(y.den ρ).i.toNat]? with
            | none => rw [h1] at hv; simp at hv
            | some row => rw [h1] at hv; exact hx.2 row (List.mem_of_getElem? h1) v hv
          · exact good_headD hz.2 v hv
        · have hv := List.mem_of_mem_drop hv
          cases h1 : (x.den ρ).d[(y.den ρ).i.toNat]? with
          | none => rw [h1] at hv; simp at hv
          | some row => rw [h1] at hv; exact hx.2 row (List.mem_of_getElem? h1) v hv
  | .ife x y u v => by simp [T.den, U.good, Value.oneCell']

theorem denVs_good (hg : ρ.good) (ts : List T) : ∀ v ∈ denVs ρ ts, v.oneCell' = true := by
  intro v hv
  obtain ⟨t, _, rfl⟩ := List.mem_map.1 hv
  exact (T.den_good hg t).1

/-- A value's cells are what the machine takes for them. -/
theorem cells_den (hg : ρ.good) {v : SV} {cs : List T} (h : v.cells = some cs) : (v.den ρ).cells = (denVs ρ cs).toArray := by
  cases v with
  | one t =>
    simp only [SV.cells, Option.some.injEq] at h; subst h
    have := (T.den_good hg t).1
    simp only [SV.den, denVs, List.map_cons, List.map_nil]
    cases hv : (t.den ρ).v <;> simp_all [Value.cells, Value.oneCell']
  | agg ts => simp only [SV.cells, Option.some.injEq] at h; subst h; simp [SV.den, Value.cells]
  | tup vs => simp [SV.cells] at h
  | fn f x y => simp [SV.cells] at h

/-! ### The type table -/

theorem aggP_run {t : TypeId} {b : Bool} (h : aggP P t = some b) (w : World) : (isAgg t).run P w = .ok b w := by
  unfold aggP at h
  unfold isAgg
  simp only [Sem.run_bind]
  have hu : ∀ d, P.underlying t = some d → (underlying t).run P w = .ok d w := fun d hd => by simp [underlying, hd]
  split at h
  · rename_i fs hd; simp only [Option.some.injEq] at h; subst h; simp [hu _ hd]
  · rename_i n e hd; simp only [Option.some.injEq] at h; subst h; simp [hu _ hd]
  · rename_i d h1 h2 hd
    simp only [Option.some.injEq] at h; subst h
    rw [hu _ hd]
    simp only [Result.andThen_ok]
    cases d <;> simp_all
  · simp at h

theorem sizeP_run {t : TypeId} {n : Nat} (h : sizeP P t = some n) (w : World) : (sizeOf t).run P w = .ok n w := by
  unfold sizeP at h
  simp only [Option.map_eq_some_iff] at h
  obtain ⟨i, hi, rfl⟩ := h
  simp [sizeOf, typeInfo, hi]

theorem zeroP_run {t : TypeId} {cs : List T} (h : zeroP P t = some cs) (w : World) : ∃ v, (zeroValue t).run P w = .ok v w ∧ v.cells = (denVs ρ cs).toArray := by
  unfold zeroP at h
  split at h
  · rename_i v hv
    simp only [Option.bind_eq_some_iff] at hv
    obtain ⟨i, hi, hz⟩ := hv
    refine ⟨v, by simp [zeroValue, typeInfo, hi, hz], ?_⟩
    rw [ofCells_den h]
  · simp at h

theorem underlying_run {t : TypeId} {d : TypeDesc} (h : P.underlying t = some d) (w : World) : (underlying t).run P w = .ok d w := by simp [underlying, h]

/-! ### Reading -/

theorem absIn_spec {n : Nat} : ∀ {l : List SH}, absIn n l = true → ∃ t, .abs n t ∈ l
  | [], h => by simp [absIn] at h
  | .abs m t :: l, h => by
    simp only [absIn, Bool.or_eq_true] at h
    rcases h with h | h
    · rw [Nat.eq_of_beq_eq_true h]; exact ⟨t, List.mem_cons_self ..⟩
    · obtain ⟨t', ht⟩ := absIn_spec h; exact ⟨t', List.mem_cons_of_mem _ ht⟩
  | .cells _ _ _ :: l, h => by
    simp only [absIn] at h
    obtain ⟨t', ht⟩ := absIn_spec h; exact ⟨t', List.mem_cons_of_mem _ ht⟩
  | .arr _ _ _ _ _ :: l, h => by
    simp only [absIn] at h
    obtain ⟨t', ht⟩ := absIn_spec h; exact ⟨t', List.mem_cons_of_mem _ ht⟩

/-- A piece at hand lies in memory. -/
theorem piece_le {heap ro : List SH} {hO hF : Hp} (hst : star ρ heap hO) (hro : ∀ x ∈ ro, x.roden ρ hF) {n : Nat} (h : (absIn n heap || absIn n ro) = true) : Hp.le (ρ n).h hO ∨ Hp.le (ρ n).h hF := by
  simp only [Bool.or_eq_true] at h
  rcases h with h | h
  · obtain ⟨t, ht⟩ := absIn_spec h
    obtain ⟨k, hk⟩ := List.getElem?_of_mem ht
    obtain ⟨t1, t2, td, tu, tx, ts⟩ := star_take hst hk
    exact .inl (Hp.le_trans tx (tu ▸ Hp.le_left t1 t2))
  · obtain ⟨t, ht⟩ := absIn_spec h
    exact .inr (hro _ ht)

theorem vwAt_spec {s' : S} {r : Nat} : ∀ {l : List (List Nat × SH)} {k : Nat} {x : SH}, vwAt s' r l = some (k, x) → ∃ ms, (ms, x) ∈ l ∧ x.reg = some r ∧ ms.all s'.piece = true
  | [], k, x, h => by simp [vwAt] at h
  | (ms, y) :: l, k, x, h => by
    simp only [vwAt] at h
    split at h
    · rename_i hc
      simp only [Bool.and_eq_true] at hc
      simp only [Option.some.injEq, Prod.mk.injEq] at h
      obtain ⟨_, rfl⟩ := h
      refine ⟨ms, List.mem_cons_self .., ?_, hc.2⟩
      have := hc.1
      unfold regIs at this
      split at this
      · rename_i q hq
        rw [hq, Nat.eq_of_beq_eq_true this]
      · cases this
    · obtain ⟨ms', h1, h2⟩ := vwAt_spec h
      exact ⟨ms', List.mem_cons_of_mem _ h1, h2⟩

theorem Holds.found (hs : Holds ρ hF s a w) {r k : Nat} {x : SH} (h : s.look r = some (k, x)) :
    ∃ H, Hp.sub H w ∧ x.roden ρ H ∧ x.reg = some r := by
  obtain ⟨hO, hd, hst, hsub, hwi⟩ := hs.hp
  unfold S.look at h
  rcases h1 : heapAt r s.heap with _ | y
  · rcases h2 : heapAt r s.ro with _ | y
    · rw [h1, h2] at h
      have h : vwAt s r s.vw = some (k, x) := h
      obtain ⟨ms, hm, hr, hall⟩ := vwAt_spec h
      obtain ⟨m, hmm, hx⟩ := hs.vw _ hm
      have hp := List.all_eq_true.1 hall m hmm
      refine ⟨Hp.union hF hO, hsub, SH.ro_mono hx ?_, hr⟩
      rcases piece_le hst hs.ro hp with h | h
      · exact Hp.le_trans h (Hp.le_right hd)
      · exact Hp.le_trans h (Hp.le_left _ _)
    · rw [h1, h2] at h
      have h : y = (k, x) := Option.some.inj h
      subst h
      obtain ⟨hk, hr⟩ := heapAt_spec h2
      exact ⟨Hp.union hF hO, hsub, SH.ro_mono (hs.ro x (List.mem_of_getElem? hk)) (Hp.le_left _ _), hr⟩
  · rw [h1] at h
    have h : y = (k, x) := Option.some.inj h
    subst h
    obtain ⟨hk, hr⟩ := heapAt_spec h1
    obtain ⟨t1, t2, td, tu, tx, ts⟩ := star_take hst hk
    exact ⟨Hp.union hF hO, hsub, SH.den_ro tx (Hp.le_trans (tu ▸ Hp.le_left t1 t2) (Hp.le_right hd)), hr⟩

theorem mkCmp_den (op : BinOp) (x y : T) (hop : op = .eql ∨ op = .neq ∨ op = .lss ∨ op = .leq ∨ op = .gtr ∨ op = .geq) : ((mkCmp op x y).den ρ).b = cmpOf op (x.den ρ).i (y.den ρ).i := by
  unfold mkCmp
  split
  · rename_i u v hu hv
    have : x = .lit u := by unfold T.isLit at hu; split at hu <;> simp_all
    have : y = .lit v := by unfold T.isLit at hv; split at hv <;> simp_all
    subst_vars; simp [T.den, O0.den]
  · split
    · rename_i h
      rw [T.same_eq h]
      rcases hop with rfl | rfl | rfl | rfl | rfl | rfl <;> simp [T.den, O0.den, cmpOf]
    · rfl

theorem nonneg_den : ∀ {t : T}, nonneg t = true → 0 ≤ (t.den ρ).i
  | .c0 o, h => by
    cases o <;> simp [nonneg] at h
    simpa [T.den, O0.den] using h
  | .c1 o x, h => by
    cases o <;> simp [nonneg] at h
    simp [T.den, O1.den]
  | .c2 o x y, h => by
    cases o <;> simp [nonneg] at h
    · have h1 := nonneg_den h.1; have h2 := nonneg_den h.2
      simp only [T.den, O2.den]; omega
    · have h1 := nonneg_den h.1; have h2 := nonneg_den h.2
      simp only [T.den, O2.den]; split <;> assumption
  | .var n, h => by simp [nonneg] at h
  | .c3 o x y z, h => by simp [nonneg] at h
  | .ife x y u v, h => by simp [nonneg] at h

theorem mkLe0_den {t : T} (h : ((mkLe0 t).den ρ).b = true) : 0 ≤ (t.den ρ).i := by
  unfold mkLe0 at h
  split at h
  · rename_i hn; exact nonneg_den hn
  · rw [mkCmp_den _ _ _ (by simp)] at h; exact of_decide_eq_true h

theorem mkDlen0_den : ∀ (d : T), ((mkDlen0 d).den ρ).i = ((d.den ρ).d.length : Int)
  | .c0 o => by cases o <;> simp [mkDlen0, T.den, O0.den, O1.den]
  | .c1 o x => by simp [mkDlen0, T.den, O1.den]
  | .c2 o x y => by cases o <;> simp [mkDlen0, T.den, O1.den]
  | .c3 o x y z => by
    cases o
    · simp [mkDlen0, T.den, O1.den]
    · simp only [mkDlen0, mkDlen0_den x, T.den, O3.den, putD, List.length_set]
  | .var n => by simp [mkDlen0, T.den, O1.den]
  | .ife x y u v => by simp [mkDlen0, T.den, O1.den]

theorem replaceAt_den (l : List T) (i : Nat) (vs : List T) : denVs ρ (replaceAt l i vs) = splice (denVs ρ l) i (denVs ρ vs) := by
  simp [replaceAt, splice, denVs]

/-- Where it is written, and what it says then. -/
theorem isLit_den {t : T} {z : Int} (h : t.isLit = some z) : (t.den ρ).i = z := by
  unfold T.isLit at h; split at h <;> simp_all [T.den, O0.den]
theorem slen_den : ∀ {d : T} {n : Nat}, slen d = some n → (d.den ρ).d.length = n
  | .c0 o, n, h => by cases o <;> simp_all [slen, T.den, O0.den]
  | .c1 o x, n, h => by simp [slen] at h
  | .c2 o x y, n, h => by
    cases o <;> simp only [slen] at h
    case rcons => simp only [Option.some.injEq] at h; subst h; simp [T.den, O2.den]
    case drep =>
      split at h
      · rename_i z hz
        simp only [Option.some.injEq] at h; subst h
        simp [T.den, O2.den, isLit_den hz]
      · cases h
    case dapp =>
      split at h
      · rename_i n1 m1 h1 h2
        simp only [Option.some.injEq] at h; subst h
        simp [T.den, O2.den, slen_den h1, slen_den h2]
      · cases h
    all_goals cases h
  | .c3 o x y z, n, h => by
    cases o <;> simp only [slen] at h
    case dput c => simp [T.den, O3.den, putD, slen_den h]
    all_goals cases h
  | .var m, n, h => by simp [slen] at h
  | .ife x y u v, n, h => by simp [slen] at h
theorem rowList_den : ∀ {r : T} {ts : List T}, rowList r = some ts → (r.den ρ).d = [denVs ρ ts]
  | .c0 o, ts, h => by
    cases o <;> simp only [rowList] at h
    case rnil => simp only [Option.some.injEq] at h; subst h; simp [T.den, O0.den, denVs]
    all_goals cases h
  | .c1 o x, n, h => by simp [rowList] at h
  | .c2 o x y, n, h => by
    cases o <;> simp only [rowList] at h
    case rcons =>
      split at h
      · rename_i ts h1
        simp only [Option.some.injEq] at h; subst h
        simp [T.den, O2.den, rowList_den h1, denVs]
      · cases h
    all_goals cases h
  | .c3 o x y z, n, h => by simp [rowList] at h
  | .var m, n, h => by simp [rowList] at h
  | .ife x y u v, n, h => by simp [rowList] at h
theorem rowAt_den : ∀ {d : T} {i : Nat} {ts : List T}, rowAt d i = some ts → (d.den ρ).d[i]? = some (denVs ρ ts)
  | .c0 o, i, ts, h => by
    cases o <;> cases i <;> simp only [rowAt] at h
    case rnil.zero => simp only [Option.some.injEq] at h; subst h; simp [T.den, O0.den, denVs]
    all_goals cases h
  | .c1 o x, i, n, h => by simp [rowAt] at h
  | .c2 .rcons v r, 0, ts, h => by
    simp only [rowAt] at h
    rw [rowList_den h]; rfl
  | .c2 .rcons v r, i + 1, ts, h => by simp [rowAt] at h
  | .c2 .drep n r, i, ts, h => by
    simp only [rowAt] at h
    split at h
    · rename_i z hz
      split at h
      · rename_i hlt
        simp only [Nat.blt_eq] at hlt
        simp only [T.den, O2.den, isLit_den hz, rowList_den h]
        rw [List.getElem?_replicate, if_pos hlt]; rfl
      · cases h
    · cases h
  | .c2 .dapp a b, i, ts, h => by
    simp only [rowAt] at h
    split at h
    · rename_i n hn
      have hl := slen_den (ρ := ρ) hn
      split at h
      · rename_i hlt
        simp only [Nat.blt_eq] at hlt
        simp only [T.den, O2.den]
        rw [List.getElem?_append_left (by omega)]
        exact rowAt_den h
      · rename_i hlt
        simp only [Nat.blt_eq] at hlt
        simp only [T.den, O2.den]
        rw [List.getElem?_append_right (by omega), hl]
        exact rowAt_den h
    · cases h
  | .c2 (.arith _ _) _ _, i, ts, h => by simp [rowAt] at h
  | .c2 .plus _ _, i, ts, h => by simp [rowAt] at h
  | .c2 .minus _ _, i, ts, h => by simp [rowAt] at h
  | .c2 .tims _ _, i, ts, h => by simp [rowAt] at h
  | .c2 .imin _ _, i, ts, h => by simp [rowAt] at h
  | .c2 .imax _ _, i, ts, h => by simp [rowAt] at h
  | .c2 (.icell _) _ _, i, ts, h => by simp [rowAt] at h
  | .c2 (.cmp _) _ _, i, ts, h => by simp [rowAt] at h
  | .c2 .beq _ _, i, ts, h => by simp [rowAt] at h
  | .c2 .and _ _, i, ts, h => by simp [rowAt] at h
  | .c2 .or _ _, i, ts, h => by simp [rowAt] at h
  | .c2 (.bcell _) _ _, i, ts, h => by simp [rowAt] at h
  | .c2 (.vcell _) _ _, i, ts, h => by simp [rowAt] at h
  | .c2 .dsnoc _ _, i, ts, h => by simp [rowAt] at h
  | .c2 .dtake _ _, i, ts, h => by simp [rowAt] at h
  | .c2 .ddrop _ _, i, ts, h => by simp [rowAt] at h
  | .c3 (.dput c) d e r, i, ts, h => by
    simp only [rowAt] at h
    split at h
    · rename_i z ts0 vs hz h0 hr
      have g0 := rowAt_den h0
      have gr := rowList_den (ρ := ρ) hr
      have hlt : i < (d.den ρ).d.length := by
        rcases Nat.lt_or_ge i (d.den ρ).d.length with h' | h'
        · exact h'
        · rw [List.getElem?_eq_none h'] at g0; cases g0
      split at h
      · rename_i hzi
        have hzi := Nat.eq_of_beq_eq_true hzi
        split at h
        · simp only [Option.some.injEq] at h; subst h
          simp only [T.den, O3.den, putD, isLit_den hz, hzi, gr, g0, List.headD_cons, Option.getD_some, replaceAt_den]
          rw [List.getElem?_set_self hlt]
        · cases h
      · rename_i hzi
        simp only [Option.some.injEq] at h; subst h
        simp only [T.den, O3.den, putD, isLit_den hz]
        rw [List.getElem?_set_ne (fun he => hzi (by rw [he]; simp))]
        exact g0
    · cases h
  | .c3 (.vslice _ _) _ _ _, i, ts, h => by simp [rowAt] at h
  | .var m, i, n, h => by simp [rowAt] at h
  | .ife x y u v, i, n, h => by simp [rowAt] at h
theorem statRow_den {d e : T} {ts : List T} (h : statRow d e = some ts) : (d.den ρ).d[(e.den ρ).i.toNat]? = some (denVs ρ ts) := by
  unfold statRow at h
  split at h
  · rename_i z hz
    rw [isLit_den hz]; exact rowAt_den h
  · cases h

theorem mkDlen_den (d : T) : ((mkDlen d).den ρ).i = ((d.den ρ).d.length : Int) := by
  unfold mkDlen
  split
  · rename_i n hn; rw [slen_den hn]; simp [T.den, O0.den]
  · exact mkDlen0_den d

theorem lss_dlen {e d : T} (h : ((mkCmp .lss e (mkDlen d)).den ρ).b = true) : (e.den ρ).i < ((d.den ρ).d.length : Int) := by
  rw [mkCmp_den _ _ _ (by simp), mkDlen_den] at h
  simpa [cmpOf] using h

theorem rowCells_den {d e : T} {row : List Value} (hrow : (d.den ρ).d[(e.den ρ).i.toNat]? = some row) :
    ∀ (pat : List CK) (c : Nat), (∀ (j : Nat) (k : CK), pat[j]? = some k → ∃ v, row[c + j]? = some v ∧ CK.fits k v = true) →
      denVs ρ (rowCells d e pat c) = (row.drop c).take pat.length
  | [], c, _ => by simp [rowCells, denVs]
  | k :: ks, c, h => by
    obtain ⟨v, hv, hk⟩ := h 0 k (by simp)
    simp only [Nat.add_zero] at hv
    have hcell : cellV (d.den ρ).d (e.den ρ).i c = v := by simp [cellV, hrow, hv]
    have ih := rowCells_den hrow ks (c + 1) (fun j k' hk' => by
      have := h (j + 1) k' (by simpa using hk')
      rwa [show c + (j + 1) = c + 1 + j from by omega] at this)
    have hdrop : row.drop c = v :: row.drop (c + 1) := by
      have hc : c < row.length := by
        rcases Nat.lt_or_ge c row.length with h | h
        · exact h
        · rw [List.getElem?_eq_none h] at hv; cases hv
      rw [List.drop_eq_getElem_cons hc]
      congr 1
      rw [List.getElem?_eq_getElem hc, Option.some.injEq] at hv
      exact hv
    have hx : denVs ρ (rowCells d e (k :: ks) c) = v :: denVs ρ (rowCells d e ks (c + 1)) := by
      cases k with
      | int k =>
        simp only [rowCells, denVs, List.map_cons, T.den, O1.den, O2.den, cellI, hcell]
        congr 1
        cases v <;> simp_all [CK.fits, vInt]
      | bool =>
        simp only [rowCells, denVs, List.map_cons, T.den, O1.den, O2.den, cellB, hcell]
        congr 1
        cases v <;> simp_all [CK.fits, vBool]
      | any => simp only [rowCells, denVs, List.map_cons, T.den, O2.den, hcell]
    rw [hx, ih, hdrop]
    simp

theorem rowCells_length (d e : T) : ∀ (pat : List CK) (c : Nat), (rowCells d e pat c).length = pat.length
  | [], _ => rfl
  | .int _ :: ks, c => by simp [rowCells, rowCells_length d e ks]
  | .bool :: ks, c => by simp [rowCells, rowCells_length d e ks]
  | .any :: ks, c => by simp [rowCells, rowCells_length d e ks]

/-- What is read is what stands there. -/
theorem readH_sound {x : SH} {e : T} {p c n r : Nat} {cs needs : List T} (h : readH x e p c n = some (cs, needs)) {H : Hp} (hx : x.roden ρ H) (hr : x.reg = some r)
    (hn : ∀ c ∈ needs, (c.den ρ).b = true) :
    cs.length = n ∧ ∃ b o c' ty fr, (ρ r).r = some (b, o) ∧ H b = some (.cells c' ty fr) ∧
      ∀ (k : Nat) (v : Value), (denVs ρ cs)[k]? = some v → c'[o + ((e.den ρ).i.toNat * p + c) + k]? = some v := by
  cases x with
  | cells r' ty ts =>
    simp only [SH.reg, Option.some.injEq] at hr; subst hr
    simp only [readH] at h
    split at h
    · rename_i z hz
      split at h
      · rename_i hc
        simp only [Option.some.injEq, Prod.mk.injEq] at h
        obtain ⟨rfl, rfl⟩ := h
        have he : (e.den ρ).i = z := by unfold T.isLit at hz; split at hz <;> simp_all [T.den, O0.den]
        obtain ⟨b, o, c', ty', fr, h1, h2, h3⟩ := hx
        refine ⟨by simp; omega, b, o, c', ty', fr, h1, h2, fun k v hv => ?_⟩
        rw [he]
        have := h3 (z.toNat * p + c + k) v ?_
        · rw [show o + (z.toNat * p + c) + k = o + (z.toNat * p + c + k) from by omega]; exact this
        · simp only [denVs, List.map_take, List.map_drop] at hv ⊢
          rw [List.getElem?_take] at hv
          split at hv
          · rw [List.getElem?_drop] at hv; exact hv
          · cases hv
      · simp at h
    · simp at h
  | arr r' ty pat d cap =>
    simp only [SH.reg, Option.some.injEq] at hr; subst hr
    simp only [readH] at h
    split at h
    · rename_i hc
      simp only [Bool.and_eq_true, Nat.ble_eq] at hc
      have hp := Nat.eq_of_beq_eq_true hc.1
      split at h
      · rename_i ts hts
        simp only [Option.some.injEq, Prod.mk.injEq] at h
        obtain ⟨rfl, rfl⟩ := h
        have hrow := statRow_den (ρ := ρ) hts
        rcases hx with ⟨_, hd⟩ | ⟨b, o, c', ty', fr, g1, g2, g3⟩
        · rw [hd] at hrow; simp at hrow
        · obtain ⟨hfit, hcells⟩ := g3 _ _ hrow
          have hl := hfit.1
          simp only [denVs, List.length_map] at hl
          refine ⟨by simp; omega, b, o, c', ty', fr, g1, g2, fun k v hv => ?_⟩
          simp only [denVs, List.map_take, List.map_drop] at hv
          rw [List.getElem?_take] at hv
          split at hv
          · rw [List.getElem?_drop] at hv
            have := hcells _ _ hv
            rw [hp, show o + ((e.den ρ).i.toNat * pat.length + c) + k = o + (e.den ρ).i.toNat * pat.length + (c + k) from by omega]
            exact this
          · cases hv
      rename_i hstat
      simp only [Option.some.injEq, Prod.mk.injEq] at h
      obtain ⟨rfl, rfl⟩ := h
      have h0 := mkLe0_den (hn _ (List.mem_cons_self ..))
      have h1 := lss_dlen (hn _ (List.mem_cons_of_mem _ (List.mem_cons_self ..)))
      have hlt : (e.den ρ).i.toNat < (d.den ρ).d.length := by omega
      have hrow := List.getElem?_eq_getElem hlt
      rcases hx with ⟨_, hd⟩ | ⟨b, o, c', ty', fr, g1, g2, g3⟩
      · rw [hd] at hlt; simp at hlt
      · obtain ⟨hfit, hcells⟩ := g3 _ _ hrow
        refine ⟨by rw [rowCells_length]; simp; omega, b, o, c', ty', fr, g1, g2, fun k v hv => ?_⟩
        rw [rowCells_den hrow _ c (fun j kk hj => ?_)] at hv
        · rw [List.getElem?_take] at hv
          split at hv
          · rw [List.getElem?_drop] at hv
            have := hcells _ _ hv
            rw [hp, show o + ((e.den ρ).i.toNat * pat.length + c) + k = o + (e.den ρ).i.toNat * pat.length + (c + k) from by omega]
            exact this
          · cases hv
        · rw [List.getElem?_take] at hj
          split at hj
          · rw [List.getElem?_drop] at hj
            have hlt2 : c + j < ((d.den ρ).d[(e.den ρ).i.toNat]).length := by
              rw [hfit.1]
              rcases Nat.lt_or_ge (c + j) pat.length with h | h
              · exact h
              · rw [List.getElem?_eq_none h] at hj; cases hj
            exact ⟨_, List.getElem?_eq_getElem hlt2, hfit.2 _ _ _ hj (List.getElem?_eq_getElem hlt2)⟩
          · cases hj
    · simp at h
  | abs m t => simp [SH.reg] at hr

theorem cell_of_heap {b off : Nat} {c : Array Value} {ty : TypeId} {fr : Nat × Nat} (h : w.heap[b]? = some (.cells c ty fr)) : w.cell? ⟨b, off, none⟩ = c[off]? := by
  simp [World.cell?, h]

theorem addr_add {b off j : Nat} : (⟨b, off, none⟩ : Addr).add j = ⟨b, off + j, none⟩ := by
  unfold Addr.add; split <;> simp_all

/-- A variable of type t at a place whose cells are known. -/
theorem run_loadVar {t : TypeId} {ag : Bool} {n b off : Nat} {c : Array Value} {ty : TypeId} {fr : Nat × Nat} {vs : List Value}
    (ha : aggP P t = some ag) (hn : sizeP P t = some n) (hb : w.heap[b]? = some (.cells c ty fr)) (hl : vs.length = n)
    (hc : ∀ (k : Nat) (v : Value), vs[k]? = some v → c[off + k]? = some v) (h1 : ag = false → n = 1) :
    (loadVar t ⟨b, off, none⟩).run P w = .ok (if ag then .agg vs.toArray else vs.headD .nilFunc) w := by
  unfold loadVar
  simp only [Sem.run_bind, aggP_run ha, Result.andThen_ok]
  cases ag with
  | true =>
    simp only [if_true, Sem.run_bind, sizeP_run hn, Result.andThen_ok]
    rw [← hl, run_loadCells_list (P := P) w ⟨b, off, none⟩ vs (fun j v hv => by rw [addr_add, cell_of_heap hb]; exact hc j v hv)]
    rfl
  | false =>
    have h1 := h1 rfl
    match vs, hl with
    | [v], _ =>
      have := hc 0 v (by simp)
      simp only [Nat.add_zero] at this
      simp [cell_of_heap hb, this]
    | [], hl => simp at hl; omega
    | _ :: _ :: _, hl => simp at hl; omega

end Go.Eng
