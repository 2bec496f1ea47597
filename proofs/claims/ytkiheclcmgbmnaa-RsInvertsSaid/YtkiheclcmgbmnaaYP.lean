/- Matrices that come in, opened. -/
import Derived.Test.YtkiheclcmgbmnaaYO
import Derived.Test.YtkiheclcmgbmnaaYD
set_option linter.unusedSimpArgs false
set_option linter.unusedVariables false
namespace Go.Proofs.Ytkiheclcmgbmnaa
open Go Go.Eng Go.Proofs Go.ChangeShapes Go.WideShapes Go.ChangeAt Go.RowKit
noncomputable def fs43 : Array Field := match Try.prog.underlying 43 with | some (.struct fs) => fs | _ => #[]
theorem under43 : Try.prog.underlying 43 = some (.struct fs43) := by kernel_rfl
theorem fs43_0 : (fs43[0]?).map (fun f => (f.type, f.offset)) = some (3, 0) := by kernel_rfl
theorem fs43_1 : (fs43[1]?).map (fun f => (f.type, f.offset)) = some (3, 1) := by kernel_rfl
theorem fs43_2 : (fs43[2]?).map (fun f => (f.type, f.offset)) = some (27, 2) := by kernel_rfl
theorem cells43 : Try.prog.cellsOf 43 = 3 := by kernel_rfl
theorem cells3 : Try.prog.cellsOf 3 = 1 := by kernel_rfl
theorem cells27 : Try.prog.cellsOf 27 = 1 := by kernel_rfl
section
variable {H : Type} {enc : TypeId × Value → H} {W : World} {base b : Nat} {sp : Nat → Bool}
/-- A field of a struct that reads: what it is read as, its weights. -/
theorem open_field {t u : TypeId} {fs : Array Field} {cs : List Value} {fuel : Nat} {x : DataW H × List MemPlace} {k off : Nat} (ht : Try.prog.underlying t = some (.struct fs)) (h : DataW.trod enc Try.prog W base sp true fuel t cs = some x)
    (hk : (fs[k]?).map (fun f => (f.type, f.offset)) = some (u, off)) : ∃ m y, DataW.trod enc Try.prog W base sp true m u ((cs.drop off).take (Try.prog.cellsOf u)) = some y ∧ ∀ n ∈ y.1.weights Try.prog u, n ∈ x.1.weights Try.prog t := by
  obtain ⟨xs, n, _, hx, _, hxl, hall⟩ := DataW.trod_struct ht h
  obtain ⟨f, hf, hf'⟩ := Option.map_eq_some_iff.1 hk
  simp only [Prod.mk.injEq] at hf'
  have h1 := hall k f hf
  rw [hf'.1, hf'.2] at h1
  have hlt : k < xs.length := by rw [hxl]; exact (Array.getElem?_eq_some_iff.1 hf).1
  rw [List.getElem?_eq_getElem hlt] at h1
  refine ⟨n, _, h1, fun m hm => ?_⟩
  rw [hx]
  simp only [DataW.weights, ht]
  exact DataW.weights_mem_each (j := k) (by rw [List.getElem?_map, Array.getElem?_toList, hf, Option.map_some, hf'.1]) (by simp [hlt]) m hm
set_option maxRecDepth 100000 in
theorem open_matrix {v : Value} {d : DataW H} {p : List MemPlace} {ts : List TypeId} {ds : List (DataW H)} {j : Nat} (hsp : ∀ b, sp b = true)
    (hv : Value.okWide Try.prog W .any b 43 v) (h : DataW.Trod enc Try.prog W base sp true 43 v d p) (hsz : (DataW.weightsEach Try.prog ts ds).all (· ≤ reachBytes) = true) (hts : ts[j]? = some 43) (hds : ds[j]? = some d) :
    ∃ (x y : Int) (r : Option Addr) (rows : List (List Value)) (cap : Nat), v = .agg #[.int .i64 x, .int .i64 y, .slice (addrOf r 0) rows.length cap] ∧ (-9223372036854775808 ≤ x ∧ x < 9223372036854775808) ∧ (-9223372036854775808 ≤ y ∧ y < 9223372036854775808) ∧
      rows.length ≤ cap ∧ (rows.length : Int) ≤ 140737488351232 ∧ allB rows ∧ bytesAt W r rows := by
  simp only [Value.okWide, under43] at hv
  obtain ⟨cs, rfl, hsize, _⟩ := hv
  rw [cells43] at hsize
  obtain ⟨fuel, hf⟩ := h
  simp only [Value.cells] at hf
  have hw := sized_of hsz hts hds
  obtain ⟨c0, c1, c2, hcs⟩ : ∃ c0 c1 c2, cs = #[c0, c1, c2] := by
    have : cs.toList.length = 3 := by simpa using hsize
    match hl : cs.toList, this with
    | [c0, c1, c2], _ => exact ⟨c0, c1, c2, by rw [← Array.toArray_toList (xs := cs), hl]⟩
  subst hcs
  obtain ⟨m0, y0, h0, _⟩ := open_field under43 hf fs43_0
  obtain ⟨m1, y1, h1, _⟩ := open_field under43 hf fs43_1
  obtain ⟨m2, y2, h2, hw2⟩ := open_field under43 hf fs43_2
  rw [cells3] at h0 h1
  rw [cells27] at h2
  simp at h0 h1 h2
  obtain ⟨z0, e0, _, w0⟩ := DataW.trod_int Try.underlying3 h0
  obtain ⟨z1, e1, _, w1⟩ := DataW.trod_int Try.underlying3 h1
  simp only [List.cons.injEq, and_true] at e0 e1
  obtain ⟨r, rows, cap, e2, g1, g2, g3, g4⟩ := rows_bytes hsp h2 fun n hn => hw n (hw2 n hn)
  exact ⟨z0, z1, r, rows, cap, by rw [e0, e1, e2], wf_i64 w0, wf_i64 w1, g1, g2, g3, g4⟩
theorem pat3 : patP Try.prog 3 3 = some kI := by kernel_rfl
theorem bytes3 : Try.prog.bytesOf 3 = 8 := by kernel_rfl
/-- An argument that is numbers in memory. -/
def intsAt (W : World) (r : Option Addr) (rows : List (List Value)) : Prop := rows = [] ∨ ∃ b o c ty fr, r = some ⟨b, o, none⟩ ∧ W.heap[b]? = some (.cells c ty fr) ∧ rowsAt c o kI rows
set_option maxRecDepth 100000 in
theorem open_ints {v : Value} {d : DataW H} {p : List MemPlace} {ts : List TypeId} {ds : List (DataW H)} {j : Nat} (hsp : ∀ b, sp b = true)
    (hv : Value.okWide Try.prog W .any b 37 v) (h : DataW.Trod enc Try.prog W base sp true 37 v d p) (hsz : (DataW.weightsEach Try.prog ts ds).all (· ≤ reachBytes) = true) (hts : ts[j]? = some 37) (hds : ds[j]? = some d) :
    ∃ (r : Option Addr) (rows : List (List Value)) (cap : Nat), v = .slice (addrOf r 0) rows.length cap ∧ (rows.length : Int) ≤ 17592186043904 ∧ intsAt W r rows := by
  obtain ⟨h1, h2⟩ := Go.Eng.okWide_slice Try.underlying37 hv
  obtain ⟨fuel, hf⟩ := h
  rw [h1] at hf
  obtain ⟨rows, hr, ht, hd⟩ := open_rows Try.underlying37 pat3 cells3 (by decide) hsp hf
  have hbound : (rows.length : Int) ≤ 17592186043904 := by
    rcases hd with ⟨_, h0⟩ | ⟨elems, spare, h3, h4, _⟩
    · rw [h0]; decide
    · have := sized_of hsz hts hds ((elems.length + spare.length) * Try.prog.bytesOf 3) (by rw [h3]; simp only [DataW.weights, Try.underlying37]; exact List.mem_cons_self ..)
      rw [bytes3] at this
      have hrb : reachBytes = 140737488351232 := by decide
      rw [hrb] at this
      omega
  rcases hr with ⟨r, e1, e2⟩ | ⟨b, o, cap, c, ty, fr, e1, hle, e3, e4⟩
  · exact ⟨r, rows, 0, by rw [e1, e2, addrOf_zero]; rfl, hbound, .inl e2⟩
  · exact ⟨some ⟨b, o, none⟩, rows, cap, by rw [e1]; rfl, hbound, .inr ⟨b, o, c, ty, fr, rfl, e3, e4⟩⟩
theorem ints_good {r : Option Addr} {rows : List (List Value)} (h : intsAt W r rows) : ({ d := rows } : U).good := by
  refine ⟨rfl, ?_⟩
  rcases h with h | ⟨_, _, _, _, _, _, _, h⟩
  · simp only; rw [h]; simp
  · exact rowsAt_good h
end
end Go.Proofs.Ytkiheclcmgbmnaa
