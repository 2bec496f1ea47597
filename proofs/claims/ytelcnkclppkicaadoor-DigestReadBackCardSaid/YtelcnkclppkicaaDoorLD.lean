/- Digests, strings, lists of bytes, manifests, pieces and calls that come in, opened. -/
import Derived.Test.YtelcnkclppkicaaDoorL0
import Derived.Test.YtelcnkclppkicaaDoorG6
set_option linter.unusedSimpArgs false
set_option linter.unusedVariables false
namespace Go.Proofs.YtelcnkclppkicaaDoor
open Go Go.Eng Go.Proofs Go.ChangeShapes Go.WideShapes Go.ChangeAt Go.RowKit
set_option maxRecDepth 100000
theorem wf_u64 {z : Int} (h : (Lit.int .u64 z).wf = true) : 0 ≤ z ∧ z < 18446744073709551616 := by
  have u1 : IntKind.u64.min = 0 := rfl
  have u2 : IntKind.u64.max = 18446744073709551615 := rfl
  simp [Lit.wf, IntKind.wrap, IntKind.bits, IntKind.signed] at h
  omega
theorem goodOps : Tryd.prog.readableRec 68 = true ∧ 68 < Tryd.prog.types.size := ⟨by kernel_rfl, of_decide_eq_true (by kernel_rfl)⟩
/-! ### Digests -/
section
variable {H : Type} {enc : TypeId × Value → H} {W : World} {base b : Nat} {sp : Nat → Bool}
end
/-! ### Lists of bytes, pieces, calls, manifests -/
theorem cells22' : Tryd.prog.cellsOf 22 = 1 := by kernel_rfl
theorem cells3 : Tryd.prog.cellsOf 3 = 1 := by kernel_rfl
noncomputable def fsO : Array Field := match Tryd.prog.underlying 77 with | some (.struct fs) => fs | _ => #[]
theorem underO : Tryd.prog.underlying 77 = some (.struct fsO) := by kernel_rfl
theorem fsO_0 : (fsO[0]?).map (fun f => (f.type, f.offset)) = some (3, 0) := by kernel_rfl
theorem fsO_1 : (fsO[1]?).map (fun f => (f.type, f.offset)) = some (75, 1) := by kernel_rfl
theorem fsO_2 : (fsO[2]?).map (fun f => (f.type, f.offset)) = some (3, 2) := by kernel_rfl
theorem fsO_3 : (fsO[3]?).map (fun f => (f.type, f.offset)) = some (22, 3) := by kernel_rfl
theorem underOs : Tryd.prog.underlying 68 = some (.slice 77) := by kernel_rfl
theorem patO : patP Tryd.prog 3 77 = some kOp := by kernel_rfl
theorem cellsO : Tryd.prog.cellsOf 77 = kOp.length := by kernel_rfl
theorem bytesO : Tryd.prog.bytesOf 77 = 48 := by kernel_rfl
theorem cellsU : Tryd.prog.cellsOf 75 = 1 := by kernel_rfl
/-- Rows in memory. -/
def rowsIn (W : World) (k : List CK) (r : Option Addr) (rows : List (List Value)) : Prop := rows = [] ∨ ∃ b o c ty fr, r = some ⟨b, o, none⟩ ∧ W.heap[b]? = some (.cells c ty fr) ∧ rowsAt c o k rows
theorem rows_good {W : World} {k : List CK} {r : Option Addr} {rows : List (List Value)} (h : rowsIn W k r rows) : ({ d := rows } : U).good := by
  refine ⟨rfl, ?_⟩
  rcases h with h | ⟨_, _, _, _, _, _, _, h⟩
  · simp only; rw [h]; simp
  · exact rowsAt_good h
theorem ops_good {W : World} {r : Option Addr} {rows : List (List Value)} (h : rowsIn W kOp r rows) : ({ d := rows } : U).good := rows_good h
section
variable {H : Type} {enc : TypeId × Value → H} {W : World} {base b : Nat} {sp : Nat → Bool}
/-- A field of a struct that reads: what it is read as, its weights. -/
theorem open_field {t u : TypeId} {fs : Array Field} {cs : List Value} {fuel : Nat} {x : DataW H × List MemPlace} {k off : Nat} (ht : Tryd.prog.underlying t = some (.struct fs)) (h : DataW.trod enc Tryd.prog W base sp true fuel t cs = some x)
    (hk : (fs[k]?).map (fun f => (f.type, f.offset)) = some (u, off)) : ∃ m y, DataW.trod enc Tryd.prog W base sp true m u ((cs.drop off).take (Tryd.prog.cellsOf u)) = some y ∧ ∀ n ∈ y.1.weights Tryd.prog u, n ∈ x.1.weights Tryd.prog t := by
  obtain ⟨xs, n, _, hx, _, hxl, hall⟩ := DataW.trod_struct ht h
  obtain ⟨f, hf, hf'⟩ := Option.map_eq_some_iff.1 hk
  simp only [Prod.mk.injEq] at hf'
  have h1 := hall k f hf
  rw [hf'.1, hf'.2] at h1
  have hlt : k < xs.length := by rw [hxl]; exact (Array.getElem?_eq_some_iff.1 hf).1
  rw [List.getElem?_eq_getElem hlt] at h1
  refine ⟨n, _, h1, fun m hm => ?_⟩
  rw [hx]
  simp only [DataW.weights, ht]
  exact DataW.weights_mem_each (j := k) (by rw [List.getElem?_map, Array.getElem?_toList, hf, Option.map_some, hf'.1]) (by simp [hlt]) m hm
/-- Bytes that a cell tells of. -/
theorem cell_bytes {fuel : Nat} {v : Value} {x : DataW H × List MemPlace} (hsp : ∀ b, sp b = true) (hf : DataW.trod enc Tryd.prog W base sp true fuel 22 [v] = some x) :
    ∃ rows : List (List Value), Rd (fun b => W.heap[b]?) kB v rows ∧ allB rows := by
  obtain ⟨rows, hr, ht, hd⟩ := open_rows (ps := x.2) (d := x.1) Tryd.underlying22 pat5 cells5 (by decide) hsp hf
  refine ⟨rows, hr, fun row hrow => ?_⟩
  obtain ⟨fuel', x', h⟩ := ht row hrow
  obtain ⟨z, e, _, hw⟩ := DataW.trod_int Tryd.underlying5 h
  rw [e]
  exact wf_u8 hw
/-- Rows of any kind that a slice tells of. -/
theorem rows_any {t e : TypeId} {pat : List CK} {n w m : Nat} {fuel : Nat} {v : Value} {x : DataW H × List MemPlace} (hsp : ∀ b, sp b = true) (hu : Tryd.prog.underlying t = some (.slice e)) (hp : patP Tryd.prog n e = some pat) (hc : Tryd.prog.cellsOf e = pat.length) (h0 : 0 < pat.length) (hb : Tryd.prog.bytesOf e = w) (hm : 140737488351232 < (m + 1) * w)
    (hf : DataW.trod enc Tryd.prog W base sp true fuel t [v] = some x) (hsz : ∀ n ∈ x.1.weights Tryd.prog t, n ≤ reachBytes) :
    ∃ (r : Option Addr) (rows : List (List Value)) (cap : Nat), v = .slice (addrOf r 0) rows.length cap ∧ rows.length ≤ cap ∧ (rows.length : Int) ≤ m ∧ (∀ row ∈ rows, ∃ fuel x, DataW.trod enc Tryd.prog W base sp true fuel e row = some x) ∧ rowsIn W pat r rows := by
  obtain ⟨rows, hr, ht, hd⟩ := open_rows (ps := x.2) (d := x.1) hu hp hc h0 hsp hf
  have hbound : (rows.length : Int) ≤ m := by
    rcases hd with ⟨_, h0⟩ | ⟨elems, spare, h3, h4, _⟩
    · rw [h0]; simp
    · have := hsz ((elems.length + spare.length) * Tryd.prog.bytesOf e) (by rw [h3]; simp only [DataW.weights, hu]; exact List.mem_cons_self ..)
      rw [hb] at this
      have hrb : reachBytes = 140737488351232 := by decide
      rw [hrb] at this
      rcases Nat.lt_or_ge m (elems.length + spare.length) with hlt | hge
      · have := Nat.mul_le_mul_right w hlt
        simp only [Nat.succ_eq_add_one] at this
        omega
      · omega
  rcases hr with ⟨r, e1, e2⟩ | ⟨b, o, cap, c, ty, fr, e1, hle, e3, e4⟩
  · exact ⟨r, rows, 0, by rw [e1, e2, addrOf_zero]; rfl, by rw [e2]; exact Nat.zero_le _, hbound, ht, .inl e2⟩
  · exact ⟨some ⟨b, o, none⟩, rows, cap, by rw [e1]; rfl, by omega, hbound, ht, .inr ⟨b, o, c, ty, fr, rfl, e3, e4⟩⟩
/-- The rows of a slice that lies there fit. -/
theorem rowsIn_fits {k : List CK} {r : Option Addr} {rows : List (List Value)} (h : rowsIn W k r rows) {j : Nat} {row : List Value} (hj : rows[j]? = some row) : fitsRow k row := by
  rcases h with h | ⟨_, _, _, _, _, _, _, h⟩
  · rw [h] at hj; simp at hj
  · exact (h j row hj).1
set_option maxRecDepth 100000 in
theorem open_ops {v : Value} {d : DataW H} {p : List MemPlace} {ts : List TypeId} {ds : List (DataW H)} {j : Nat} (hsp : ∀ b, sp b = true)
    (hv : Value.okWide Tryd.prog W .any b 68 v) (h : DataW.Trod enc Tryd.prog W base sp true 68 v d p) (hsz : (DataW.weightsEach Tryd.prog ts ds).all (· ≤ reachBytes) = true) (hts : ts[j]? = some 68) (hds : ds[j]? = some d) :
    ∃ (r : Option Addr) (rows : List (List Value)) (cap : Nat), v = .slice (addrOf r 0) rows.length cap ∧ rows.length ≤ cap ∧ (rows.length : Int) ≤ 2932031007317 ∧ opRows (fun b => W.heap[b]?) rows rows.length ∧ rowsIn W kOp r rows := by
  obtain ⟨h1, h2⟩ := Go.Eng.okWide_slice underOs hv
  obtain ⟨fuel, hf⟩ := h
  rw [h1] at hf
  obtain ⟨r, rows, cap, e1, e2, e3, e4, e5⟩ := rows_any (w := 48) (m := 2932031007317) hsp underOs patO cellsO (by decide) bytesO (by decide) hf (sized_of hsz hts hds)
  refine ⟨r, rows, cap, e1, e2, e3, fun i hi => ?_, e5⟩
  obtain ⟨fuel', x', ht⟩ := e4 rows[i] (List.getElem_mem hi)
  have hfit := rowsIn_fits e5 (List.getElem?_eq_getElem hi)
  match hm : rows[i], hfit.1 with
  | [a0, a1, a2, a3], _ =>
    rw [hm] at ht
    obtain ⟨m0, y0, g0, _⟩ := open_field underO ht fsO_0
    obtain ⟨m1, y1, g1, _⟩ := open_field underO ht fsO_1
    obtain ⟨m2, y2, g2, _⟩ := open_field underO ht fsO_2
    obtain ⟨m3, y3, g3, _⟩ := open_field underO ht fsO_3
    rw [cells3] at g0 g2
    rw [cellsU] at g1
    rw [cells22'] at g3
    simp at g0 g1 g2 g3
    obtain ⟨z0, q0, _, w0⟩ := DataW.trod_int Tryd.underlying3 g0
    obtain ⟨z1, q1, _, w1⟩ := DataW.trod_int Tryd.underlying75 g1
    obtain ⟨z2, q2, _, w2⟩ := DataW.trod_int Tryd.underlying3 g2
    simp only [List.cons.injEq, and_true] at q0 q1 q2
    obtain ⟨dd, k1, k2⟩ := cell_bytes hsp g3
    exact ⟨z0, z1, z2, a3, dd, by rw [List.getElem?_eq_getElem hi, hm, q0, q1, q2], wf_i64 w0, wf_u64 w1, wf_i64 w2, k1, k2⟩
end
end Go.Proofs.YtelcnkclppkicaaDoor
