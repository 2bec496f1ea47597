/- The input of the statements about codes, opened. -/
import Derived.Test.YtkiheclcmgbmnaaYP
import Derived.Test.YtkiheclcmgbmnaaGH
set_option linter.unusedSimpArgs false
set_option linter.unusedVariables false
namespace Go.Proofs.Ytkiheclcmgbmnaa
open Go Go.Eng Go.Proofs Go.ChangeShapes Go.WideShapes Go.ChangeAt Go.RowKit
noncomputable def fs39 : Array Field := match Try.prog.underlying 39 with | some (.struct fs) => fs | _ => #[]
noncomputable def fs36 : Array Field := match Try.prog.underlying 36 with | some (.struct fs) => fs | _ => #[]
theorem under39 : Try.prog.underlying 39 = some (.struct fs39) := by kernel_rfl
theorem under36 : Try.prog.underlying 36 = some (.struct fs36) := by kernel_rfl
theorem fs39_0 : (fs39[0]?).map (fun f => (f.type, f.offset)) = some (3, 0) := by kernel_rfl
theorem fs39_1 : (fs39[1]?).map (fun f => (f.type, f.offset)) = some (3, 1) := by kernel_rfl
theorem fs39_2 : (fs39[2]?).map (fun f => (f.type, f.offset)) = some (3, 2) := by kernel_rfl
theorem fs39_3 : (fs39[3]?).map (fun f => (f.type, f.offset)) = some (3, 3) := by kernel_rfl
theorem fs39_4 : (fs39[4]?).map (fun f => (f.type, f.offset)) = some (27, 4) := by kernel_rfl
theorem fs39_5 : (fs39[5]?).map (fun f => (f.type, f.offset)) = some (27, 5) := by kernel_rfl
theorem fs39_6 : (fs39[6]?).map (fun f => (f.type, f.offset)) = some (37, 6) := by kernel_rfl
theorem fs39_7 : (fs39[7]?).map (fun f => (f.type, f.offset)) = some (3, 7) := by kernel_rfl
theorem fs39_8 : (fs39[8]?).map (fun f => (f.type, f.offset)) = some (3, 8) := by kernel_rfl
theorem fs39_9 : (fs39[9]?).map (fun f => (f.type, f.offset)) = some (5, 9) := by kernel_rfl
theorem fs39_10 : (fs39[10]?).map (fun f => (f.type, f.offset)) = some (28, 10) := by kernel_rfl
theorem fs36_1 : (fs36[1]?).map (fun f => (f.type, f.offset)) = some (27, 1) := by kernel_rfl
theorem cells39 : Try.prog.cellsOf 39 = 11 := by kernel_rfl
theorem cells5' : Try.prog.cellsOf 5 = 1 := by kernel_rfl
theorem cells37 : Try.prog.cellsOf 37 = 1 := by kernel_rfl
theorem cells28 : Try.prog.cellsOf 28 = 1 := by kernel_rfl
theorem cells36 : Try.prog.cellsOf 36 = kPiece.length := by kernel_rfl
theorem bytes36 : Try.prog.bytesOf 36 = 32 := by kernel_rfl
theorem pat36 : patP Try.prog 3 36 = some kPiece := by kernel_rfl
theorem good39 : Try.prog.readableRec 39 = true ∧ 39 < Try.prog.types.size := ⟨by kernel_rfl, of_decide_eq_true (by kernel_rfl)⟩
section
variable {H : Type} {enc : TypeId × Value → H} {W : World} {base b : Nat} {sp : Nat → Bool}
theorem fits_int {k : IntKind} {v : Value} (h : CK.fits (.int k) v = true) : ∃ z, v = .int k z := by
  cases v <;> simp [CK.fits] at h
  subst h; exact ⟨_, rfl⟩
/-- Bytes that a cell tells of. -/
theorem cell_bytes {fuel : Nat} {v : Value} {x : DataW H × List MemPlace} (hsp : ∀ b, sp b = true) (hf : DataW.trod enc Try.prog W base sp true fuel 27 [v] = some x) :
    ∃ rows : List (List Value), Rd (fun b => W.heap[b]?) kB v rows ∧ allB rows := by
  obtain ⟨rows, hr, ht, hd⟩ := open_rows (ps := x.2) (d := x.1) Try.underlying27 pat5 cells5 (by decide) hsp hf
  refine ⟨rows, hr, fun row hrow => ?_⟩
  obtain ⟨fuel', x', h⟩ := ht row hrow
  obtain ⟨z, e, _, hw⟩ := DataW.trod_int Try.underlying5 h
  rw [e]
  exact wf_u8 hw
/-- Pieces that a cell tells of. -/
def piecesAt (W : World) (r : Option Addr) (rows : List (List Value)) : Prop := rows = [] ∨ ∃ b o c ty fr, r = some ⟨b, o, none⟩ ∧ W.heap[b]? = some (.cells c ty fr) ∧ rowsAt c o kPiece rows
set_option maxRecDepth 100000 in
theorem rows_pieces {fuel : Nat} {v : Value} {x : DataW H × List MemPlace} (hsp : ∀ b, sp b = true) (hf : DataW.trod enc Try.prog W base sp true fuel 28 [v] = some x) (hsz : ∀ n ∈ x.1.weights Try.prog 28, n ≤ reachBytes) :
    ∃ (r : Option Addr) (rows : List (List Value)) (cap : Nat), v = .slice (addrOf r 0) rows.length cap ∧ (rows.length : Int) ≤ 17592186043904 ∧ piecesAt W r rows ∧ pcOk (fun b => W.heap[b]?) rows rows.length := by
  obtain ⟨rows, hr, ht, hd⟩ := open_rows (ps := x.2) (d := x.1) Try.underlying28 pat36 cells36 (by decide) hsp hf
  have hbound : (rows.length : Int) ≤ 17592186043904 := by
    rcases hd with ⟨_, h0⟩ | ⟨elems, spare, h3, h4, _⟩
    · rw [h0]; decide
    · have := hsz ((elems.length + spare.length) * Try.prog.bytesOf 36) (by rw [h3]; simp only [DataW.weights, Try.underlying28]; exact List.mem_cons_self ..)
      rw [bytes36] at this
      have hrb : reachBytes = 140737488351232 := by decide
      rw [hrb] at this
      omega
  have hpc : ∀ (c : Array Value) (o : Nat), rowsAt c o kPiece rows → pcOk (fun b => W.heap[b]?) rows rows.length := fun c o hra j hj => by
    have hrow := List.getElem?_eq_getElem hj
    obtain ⟨⟨hl, hfit⟩, _⟩ := hra j _ hrow
    obtain ⟨fuel', x', h⟩ := ht _ (List.getElem_mem hj)
    match hm : rows[j], hl with
    | [a, v], _ =>
      rw [hm] at hfit h hrow
      obtain ⟨z, rfl⟩ := fits_int (hfit 0 (.int .i64) a rfl rfl)
      obtain ⟨m, y, hy, _⟩ := open_field under36 h fs36_1
      rw [cells27] at hy
      obtain ⟨d, h1, h2⟩ := cell_bytes hsp hy
      exact ⟨z, v, d, hrow, h1, h2⟩
  rcases hr with ⟨r, e1, e2⟩ | ⟨b, o, cap, c, ty, fr, e1, hle, e3, e4⟩
  · exact ⟨r, rows, 0, by rw [e1, e2, addrOf_zero]; rfl, hbound, .inl e2, fun j hj => by rw [e2] at hj; cases hj⟩
  · exact ⟨some ⟨b, o, none⟩, rows, cap, by rw [e1]; rfl, hbound, .inr ⟨b, o, c, ty, fr, rfl, e3, e4⟩, hpc c o e4⟩
set_option maxRecDepth 100000 in
/-- Numbers that a cell tells of. -/
theorem rows_ints {fuel : Nat} {v : Value} {x : DataW H × List MemPlace} (hsp : ∀ b, sp b = true) (hf : DataW.trod enc Try.prog W base sp true fuel 37 [v] = some x) (hsz : ∀ n ∈ x.1.weights Try.prog 37, n ≤ reachBytes) :
    ∃ (r : Option Addr) (rows : List (List Value)) (cap : Nat), v = .slice (addrOf r 0) rows.length cap ∧ (rows.length : Int) ≤ 17592186043904 ∧ intsAt W r rows := by
  obtain ⟨rows, hr, ht, hd⟩ := open_rows (ps := x.2) (d := x.1) Try.underlying37 pat3 cells3 (by decide) hsp hf
  have hbound : (rows.length : Int) ≤ 17592186043904 := by
    rcases hd with ⟨_, h0⟩ | ⟨elems, spare, h3, h4, _⟩
    · rw [h0]; decide
    · have := hsz ((elems.length + spare.length) * Try.prog.bytesOf 3) (by rw [h3]; simp only [DataW.weights, Try.underlying37]; exact List.mem_cons_self ..)
      rw [bytes3] at this
      have hrb : reachBytes = 140737488351232 := by decide
      rw [hrb] at this
      omega
  rcases hr with ⟨r, e1, e2⟩ | ⟨b, o, cap, c, ty, fr, e1, hle, e3, e4⟩
  · exact ⟨r, rows, 0, by rw [e1, e2, addrOf_zero]; rfl, hbound, .inl e2⟩
  · exact ⟨some ⟨b, o, none⟩, rows, cap, by rw [e1]; rfl, hbound, .inr ⟨b, o, c, ty, fr, rfl, e3, e4⟩⟩
theorem pieces_good {r : Option Addr} {rows : List (List Value)} (h : piecesAt W r rows) : ({ d := rows } : U).good := by
  refine ⟨rfl, ?_⟩
  rcases h with h | ⟨_, _, _, _, _, _, _, h⟩
  · simp only; rw [h]; simp
  · exact rowsAt_good h
set_option maxRecDepth 100000 in
theorem open_case {v : Value} {d : DataW H} {p : List MemPlace} {ts : List TypeId} {ds : List (DataW H)} {j : Nat} (hsp : ∀ b, sp b = true)
    (hv : Value.okWide Try.prog W .any b 39 v) (h : DataW.Trod enc Try.prog W base sp true 39 v d p) (hsz : (DataW.weightsEach Try.prog ts ds).all (· ≤ reachBytes) = true) (hts : ts[j]? = some 39) (hds : ds[j]? = some d) :
    ∃ (k t s x w a m : Int) (r1 r2 r3 r4 : Option Addr) (d1 d2 d3 d4 : List (List Value)) (c1 c2 c3 c4 : Nat),
      v = .agg #[.int .i64 k, .int .i64 t, .int .i64 s, .int .i64 x, .slice (addrOf r1 0) d1.length c1, .slice (addrOf r2 0) d2.length c2, .slice (addrOf r3 0) d3.length c3, .int .i64 w, .int .i64 a, .int .u8 m, .slice (addrOf r4 0) d4.length c4] ∧
      bytesAt W r1 d1 ∧ bytesAt W r2 d2 ∧ intsAt W r3 d3 ∧ piecesAt W r4 d4 ∧
      caseP k t s x d1.length d2.length d3.length w a m d4.length d1 d2 d3 d4 (fun b => W.heap[b]?) := by
  simp only [Value.okWide, under39] at hv
  obtain ⟨cs, rfl, hsize, _⟩ := hv
  rw [cells39] at hsize
  obtain ⟨fuel, hf⟩ := h
  simp only [Value.cells] at hf
  have hw := sized_of hsz hts hds
  obtain ⟨c0, c1, c2, c3, c4, c5, c6, c7, c8, c9, c10, hcs⟩ : ∃ c0 c1 c2 c3 c4 c5 c6 c7 c8 c9 c10, cs = #[c0, c1, c2, c3, c4, c5, c6, c7, c8, c9, c10] := by
    have : cs.toList.length = 11 := by simpa using hsize
    match hl : cs.toList, this with
    | [c0, c1, c2, c3, c4, c5, c6, c7, c8, c9, c10], _ => exact ⟨c0, c1, c2, c3, c4, c5, c6, c7, c8, c9, c10, by rw [← Array.toArray_toList (xs := cs), hl]⟩
  subst hcs
  obtain ⟨m0, y0, h0, _⟩ := open_field under39 hf fs39_0
  obtain ⟨m1, y1, h1, _⟩ := open_field under39 hf fs39_1
  obtain ⟨m2, y2, h2, _⟩ := open_field under39 hf fs39_2
  obtain ⟨m3, y3, h3, _⟩ := open_field under39 hf fs39_3
  obtain ⟨m4, y4, h4, hw4⟩ := open_field under39 hf fs39_4
  obtain ⟨m5, y5, h5, hw5⟩ := open_field under39 hf fs39_5
  obtain ⟨m6, y6, h6, hw6⟩ := open_field under39 hf fs39_6
  obtain ⟨m7, y7, h7, _⟩ := open_field under39 hf fs39_7
  obtain ⟨m8, y8, h8, _⟩ := open_field under39 hf fs39_8
  obtain ⟨m9, y9, h9, _⟩ := open_field under39 hf fs39_9
  obtain ⟨m10, y10, h10, hw10⟩ := open_field under39 hf fs39_10
  rw [cells3] at h0 h1 h2 h3 h7 h8
  rw [cells27] at h4 h5
  rw [cells37] at h6
  rw [cells5'] at h9
  rw [cells28] at h10
  simp at h0 h1 h2 h3 h4 h5 h6 h7 h8 h9 h10
  obtain ⟨z0, e0, _, w0⟩ := DataW.trod_int Try.underlying3 h0
  obtain ⟨z1, e1, _, w1⟩ := DataW.trod_int Try.underlying3 h1
  obtain ⟨z2, e2, _, w2⟩ := DataW.trod_int Try.underlying3 h2
  obtain ⟨z3, e3, _, w3⟩ := DataW.trod_int Try.underlying3 h3
  obtain ⟨z7, e7, _, w7⟩ := DataW.trod_int Try.underlying3 h7
  obtain ⟨z8, e8, _, w8⟩ := DataW.trod_int Try.underlying3 h8
  obtain ⟨z9, e9, _, w9⟩ := DataW.trod_int Try.underlying5 h9
  simp only [List.cons.injEq, and_true] at e0 e1 e2 e3 e7 e8 e9
  obtain ⟨r1, d1, k1, e4, g1, g2, g3, g4⟩ := rows_bytes hsp h4 fun n hn => hw n (hw4 n hn)
  obtain ⟨r2, d2, k2, e5, i1, i2, i3, i4⟩ := rows_bytes hsp h5 fun n hn => hw n (hw5 n hn)
  obtain ⟨r3, d3, k3, e6, j1, j2⟩ := rows_ints hsp h6 fun n hn => hw n (hw6 n hn)
  obtain ⟨r4, d4, k4, e10, l1, l2, l3⟩ := rows_pieces hsp h10 fun n hn => hw n (hw10 n hn)
  exact ⟨z0, z1, z2, z3, z7, z8, z9, r1, r2, r3, r4, d1, d2, d3, d4, k1, k2, k3, k4, by rw [e0, e1, e2, e3, e4, e5, e6, e7, e8, e9, e10], g4, i4, j2, l2,
    wf_i64 w0, wf_i64 w1, wf_i64 w2, wf_i64 w3, ⟨Int.natCast_nonneg _, g2, rfl, g3⟩, ⟨Int.natCast_nonneg _, i2, rfl, i3⟩, ⟨Int.natCast_nonneg _, j1, rfl⟩, wf_u8 w9, ⟨Int.natCast_nonneg _, l1, rfl⟩, l3⟩
end
end Go.Proofs.Ytkiheclcmgbmnaa
