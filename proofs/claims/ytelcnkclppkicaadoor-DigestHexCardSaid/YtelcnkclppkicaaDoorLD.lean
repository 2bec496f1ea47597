/- Digests, strings, lists of bytes, manifests, pieces and calls that come in, opened. -/
import Derived.Test.YtelcnkclppkicaaDoorL0
import Derived.Test.YtelcnkclppkicaaDoorG6
set_option linter.unusedSimpArgs false
set_option linter.unusedVariables false
namespace Go.Proofs.YtelcnkclppkicaaDoor
open Go Go.Eng Go.Proofs Go.ChangeShapes Go.WideShapes Go.ChangeAt Go.RowKit
set_option maxRecDepth 100000
theorem wf_u32 {z : Int} (h : (Lit.int .u32 z).wf = true) : 0 ≤ z ∧ z < 4294967296 := by
  have u1 : IntKind.u32.min = 0 := rfl
  have u2 : IntKind.u32.max = 4294967295 := rfl
  simp [Lit.wf, IntKind.wrap, IntKind.bits, IntKind.signed] at h
  omega
theorem goodU32 : Tryd.prog.readableRec 46 = true ∧ 46 < Tryd.prog.types.size := ⟨by kernel_rfl, of_decide_eq_true (by kernel_rfl)⟩
theorem goodStr : Tryd.prog.readableRec 9 = true ∧ 9 < Tryd.prog.types.size := ⟨by kernel_rfl, of_decide_eq_true (by kernel_rfl)⟩
theorem goodDg : Tryd.prog.readableRec 24 = true ∧ 24 < Tryd.prog.types.size := ⟨by kernel_rfl, of_decide_eq_true (by kernel_rfl)⟩
theorem goodParts : Tryd.prog.readableRec 51 = true ∧ 51 < Tryd.prog.types.size := ⟨by kernel_rfl, of_decide_eq_true (by kernel_rfl)⟩
/-! ### Digests -/
theorem underD : Tryd.prog.underlying 24 = some (.array 32 5) := by kernel_rfl
theorem cells5' : Tryd.prog.cellsOf 5 = 1 := by kernel_rfl
theorem cellsD : Tryd.prog.cellsOf 24 = 32 := by kernel_rfl
/-- A row of n bytes. -/
def rowBytes (n : Nat) (row : List Value) : Prop := row.length = n ∧ ∀ j, j < n → ∃ z, row[j]? = some (.int .u8 z) ∧ 0 ≤ z ∧ z < 256
section
variable {H : Type} {enc : TypeId × Value → H} {W : World} {base b : Nat} {sp : Nat → Bool}
set_option maxRecDepth 100000 in
theorem trod_digest {fuel : Nat} {cs : List Value} {x : DataW H × List MemPlace} (hf : DataW.trod enc Tryd.prog W base sp true fuel 24 cs = some x) : rowBytes 32 cs := by
  obtain ⟨xs, m, _, _, hl, hn, hall⟩ := DataW.trod_array underD hf
  rw [cellsD] at hl
  refine ⟨hl, fun i hi => ?_⟩
  have hc := hall i hi
  rw [cells5'] at hc
  have hxi : xs[i]? = some xs[i] := List.getElem?_eq_getElem (by omega)
  rw [hxi] at hc
  obtain ⟨z, e, _, hw⟩ := DataW.trod_int Tryd.underlying5 hc
  have h1 : i < cs.length := by omega
  have e1 : (cs.drop (i * 1)).take 1 = [cs[i]] := by
    rw [Nat.mul_one, List.drop_eq_getElem_cons h1]; rfl
  rw [e1] at e
  exact ⟨z, by rw [List.getElem?_eq_getElem h1]; simpa using e, wf_u8 hw⟩
theorem open_digest {v : Value} {d : DataW H} {p : List MemPlace} (hv : Value.okWide Tryd.prog W .any b 24 v) (h : DataW.Trod enc Tryd.prog W base sp true 24 v d p) : ∃ row : List Value, v = .agg row.toArray ∧ row.length = 32 ∧ rowBytes 32 row := by
  simp only [Value.okWide, underD] at hv
  obtain ⟨cs, rfl, hsize, _⟩ := hv
  obtain ⟨fuel, hf⟩ := h
  simp only [Value.cells] at hf
  have := trod_digest hf
  exact ⟨cs.toList, by simp, this.1, this⟩
theorem open_string {v : Value} {d : DataW H} {p : List MemPlace} (hv : Value.okWide Tryd.prog W .any b 9 v) (h : DataW.Trod enc Tryd.prog W base sp true 9 v d p) : ∃ l : List UInt8, v = .string ⟨l.toArray⟩ := by
  suffices hh : ∃ s, v = .string s by
    obtain ⟨⟨a⟩, rfl⟩ := hh
    exact ⟨a.toList, by simp⟩
  simp only [Value.okWide, Tryd.underlying9, Cell.okWide, Cell.ok] at hv
  cases v <;> simp_all
end
theorem digest_good {row : List Value} (h : rowBytes 32 row) : ({ d := [row] } : U).good := by
  refine ⟨rfl, ?_⟩
  intro r hr
  obtain rfl := List.mem_singleton.1 hr
  intro v hv
  obtain ⟨j, hj⟩ := List.getElem?_of_mem hv
  obtain ⟨z, hz, _⟩ := h.2 j (by rw [← h.1]; exact (List.getElem?_eq_some_iff.1 hj).1)
  rw [hz] at hj
  obtain rfl := Option.some.inj hj
  rfl
/-- What a row of bytes is told as. -/
theorem den_cells {n m : Nat} {ρ : Env} {row : List Value} (hn : (ρ n).d = [row]) (h : rowBytes m row) : denVs ρ (cellsT .u8 n m) = row := by
  refine List.ext_getElem? fun j => ?_
  unfold denVs cellsT
  rw [List.map_map, List.getElem?_map]
  by_cases hj : j < m
  · obtain ⟨z, hz, _⟩ := h.2 j hj
    rw [List.getElem?_range hj, hz]
    simp [T.den, O1.den, O2.den, hn, cellX, hz, vInt]
  · rw [List.getElem?_eq_none (by simp; omega), List.getElem?_eq_none (by rw [h.1]; omega)]
    rfl
theorem den_dgV {n : Nat} {ρ : Env} {row : List Value} (hn : (ρ n).d = [row]) (h : rowBytes 32 row) : SV.den ρ (dgV n) = .agg row.toArray := by
  show Value.agg (denVs ρ (cellsT .u8 n 32)).toArray = _
  rw [den_cells hn h]
theorem row_bytes {row : List Value} {n : Nat} (h : rowBytes n row) : allM (rowL [row] n) := fun x hx => by
  obtain ⟨j, hj, rfl⟩ := List.mem_map.1 hx
  obtain ⟨z, hz, h0⟩ := h.2 j (List.mem_range.1 hj)
  show 0 ≤ vInt (row[j]?.getD .nilFunc) ∧ vInt (row[j]?.getD .nilFunc) < 256
  rw [hz]; exact h0
/-! ### Lists of bytes, pieces, calls, manifests -/
theorem underL : Tryd.prog.underlying 51 = some (.slice 22) := by kernel_rfl
theorem pat22 : patP Tryd.prog 3 22 = some kPart := by kernel_rfl
theorem cells22 : Tryd.prog.cellsOf 22 = kPart.length := by kernel_rfl
theorem bytes22 : Tryd.prog.bytesOf 22 = 24 := by kernel_rfl
/-- Rows in memory. -/
def rowsIn (W : World) (k : List CK) (r : Option Addr) (rows : List (List Value)) : Prop := rows = [] ∨ ∃ b o c ty fr, r = some ⟨b, o, none⟩ ∧ W.heap[b]? = some (.cells c ty fr) ∧ rowsAt c o k rows
theorem rows_good {W : World} {k : List CK} {r : Option Addr} {rows : List (List Value)} (h : rowsIn W k r rows) : ({ d := rows } : U).good := by
  refine ⟨rfl, ?_⟩
  rcases h with h | ⟨_, _, _, _, _, _, _, h⟩
  · simp only; rw [h]; simp
  · exact rowsAt_good h
theorem parts_good {W : World} {r : Option Addr} {rows : List (List Value)} (h : rowsIn W kPart r rows) : ({ d := rows } : U).good := rows_good h
section
variable {H : Type} {enc : TypeId × Value → H} {W : World} {base b : Nat} {sp : Nat → Bool}
/-- Bytes that a cell tells of. -/
theorem cell_bytes {fuel : Nat} {v : Value} {x : DataW H × List MemPlace} (hsp : ∀ b, sp b = true) (hf : DataW.trod enc Tryd.prog W base sp true fuel 22 [v] = some x) :
    ∃ rows : List (List Value), Rd (fun b => W.heap[b]?) kB v rows ∧ allB rows := by
  obtain ⟨rows, hr, ht, hd⟩ := open_rows (ps := x.2) (d := x.1) Tryd.underlying22 pat5 cells5 (by decide) hsp hf
  refine ⟨rows, hr, fun row hrow => ?_⟩
  obtain ⟨fuel', x', h⟩ := ht row hrow
  obtain ⟨z, e, _, hw⟩ := DataW.trod_int Tryd.underlying5 h
  rw [e]
  exact wf_u8 hw
/-- Rows of any kind that a slice tells of. -/
theorem rows_any {t e : TypeId} {pat : List CK} {n w m : Nat} {fuel : Nat} {v : Value} {x : DataW H × List MemPlace} (hsp : ∀ b, sp b = true) (hu : Tryd.prog.underlying t = some (.slice e)) (hp : patP Tryd.prog n e = some pat) (hc : Tryd.prog.cellsOf e = pat.length) (h0 : 0 < pat.length) (hb : Tryd.prog.bytesOf e = w) (hm : 140737488351232 < (m + 1) * w)
    (hf : DataW.trod enc Tryd.prog W base sp true fuel t [v] = some x) (hsz : ∀ n ∈ x.1.weights Tryd.prog t, n ≤ reachBytes) :
    ∃ (r : Option Addr) (rows : List (List Value)) (cap : Nat), v = .slice (addrOf r 0) rows.length cap ∧ rows.length ≤ cap ∧ (rows.length : Int) ≤ m ∧ (∀ row ∈ rows, ∃ fuel x, DataW.trod enc Tryd.prog W base sp true fuel e row = some x) ∧ rowsIn W pat r rows := by
  obtain ⟨rows, hr, ht, hd⟩ := open_rows (ps := x.2) (d := x.1) hu hp hc h0 hsp hf
  have hbound : (rows.length : Int) ≤ m := by
    rcases hd with ⟨_, h0⟩ | ⟨elems, spare, h3, h4, _⟩
    · rw [h0]; simp
    · have := hsz ((elems.length + spare.length) * Tryd.prog.bytesOf e) (by rw [h3]; simp only [DataW.weights, hu]; exact List.mem_cons_self ..)
      rw [hb] at this
      have hrb : reachBytes = 140737488351232 := by decide
      rw [hrb] at this
      rcases Nat.lt_or_ge m (elems.length + spare.length) with hlt | hge
      · have := Nat.mul_le_mul_right w hlt
        simp only [Nat.succ_eq_add_one] at this
        omega
      · omega
  rcases hr with ⟨r, e1, e2⟩ | ⟨b, o, cap, c, ty, fr, e1, hle, e3, e4⟩
  · exact ⟨r, rows, 0, by rw [e1, e2, addrOf_zero]; rfl, by rw [e2]; exact Nat.zero_le _, hbound, ht, .inl e2⟩
  · exact ⟨some ⟨b, o, none⟩, rows, cap, by rw [e1]; rfl, by omega, hbound, ht, .inr ⟨b, o, c, ty, fr, rfl, e3, e4⟩⟩
/-- The rows of a slice that lies there fit. -/
theorem rowsIn_fits {k : List CK} {r : Option Addr} {rows : List (List Value)} (h : rowsIn W k r rows) {j : Nat} {row : List Value} (hj : rows[j]? = some row) : fitsRow k row := by
  rcases h with h | ⟨_, _, _, _, _, _, _, h⟩
  · rw [h] at hj; simp at hj
  · exact (h j row hj).1
set_option maxRecDepth 100000 in
theorem open_parts {v : Value} {d : DataW H} {p : List MemPlace} {ts : List TypeId} {ds : List (DataW H)} {j : Nat} (hsp : ∀ b, sp b = true)
    (hv : Value.okWide Tryd.prog W .any b 51 v) (h : DataW.Trod enc Tryd.prog W base sp true 51 v d p) (hsz : (DataW.weightsEach Tryd.prog ts ds).all (· ≤ reachBytes) = true) (hts : ts[j]? = some 51) (hds : ds[j]? = some d) :
    ∃ (r : Option Addr) (rows : List (List Value)) (cap : Nat), v = .slice (addrOf r 0) rows.length cap ∧ rows.length ≤ cap ∧ (rows.length : Int) ≤ 5864062014634 ∧ ptOk (fun b => W.heap[b]?) rows rows.length ∧ rowsIn W kPart r rows := by
  obtain ⟨h1, h2⟩ := Go.Eng.okWide_slice underL hv
  obtain ⟨fuel, hf⟩ := h
  rw [h1] at hf
  obtain ⟨r, rows, cap, e1, e2, e3, e4, e5⟩ := rows_any (w := 24) (m := 5864062014634) hsp underL pat22 cells22 (by decide) bytes22 (by decide) hf (sized_of hsz hts hds)
  refine ⟨r, rows, cap, e1, e2, e3, fun i hi => ?_, e5⟩
  obtain ⟨fuel', x', ht⟩ := e4 rows[i] (List.getElem_mem hi)
  have hfit := rowsIn_fits e5 (List.getElem?_eq_getElem hi)
  match hm : rows[i], hfit.1 with
  | [a], _ =>
    rw [hm] at ht
    obtain ⟨dd, g1, g2⟩ := cell_bytes hsp ht
    exact ⟨a, dd, by rw [List.getElem?_eq_getElem hi, hm], g1, g2⟩
end
end Go.Proofs.YtelcnkclppkicaaDoor
