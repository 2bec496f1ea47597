/- What the statements' arguments are opened with. -/
import Derived.Test.YtlmkkphojjodhaaRows
import Derived.Test.YtlmkkphojjodhaaEC
import Derived.Test.YtlmkkphojjodhaaGB
set_option linter.unusedSimpArgs false
set_option linter.unusedVariables false
namespace Go.Proofs.Ytlmkkphojjodhaa
open Go Go.Eng Go.Proofs Go.ChangeShapes Go.WideShapes Go.ChangeAt Go.RowKit
theorem own : ownKnob Try.prog.godebug = none := by kernel_rfl
theorem laidOut : laidOutB Try.prog = true := by kernel_rfl
theorem good31 : Try.prog.readableRec 31 = true ∧ 31 < Try.prog.types.size := ⟨by kernel_rfl, of_decide_eq_true (by kernel_rfl)⟩
theorem pat25 : patP Try.prog 3 25 = some kMem := by kernel_rfl
theorem cells25 : Try.prog.cellsOf 25 = kMem.length := by kernel_rfl
theorem bytes25 : Try.prog.bytesOf 25 = 16 := by kernel_rfl
set_option maxRecDepth 100000 in
/-- A table that comes in: its rows, its length, its bound. -/
theorem open_table {H : Type} {enc : TypeId × Value → H} {W : World} {base b : Nat} {sp : Nat → Bool} (hsp : ∀ b, sp b = true) {v : Value} {d : DataW H} {p : List MemPlace} {ts : List TypeId} {ds : List (DataW H)} {j : Nat}
    (hv : Value.okWide Try.prog W .any b 31 v) (h : DataW.Trod enc Try.prog W base sp true 31 v d p) (hsz : (DataW.weightsEach Try.prog ts ds).all (· ≤ reachBytes) = true) (hts : ts[j]? = some 31) (hds : ds[j]? = some d) :
    ∃ (r : Option Addr) (rows : List (List Value)) (cap : Nat), v = .slice (addrOf r 0) rows.length cap ∧ (rows.length : Int) ≤ big ∧
      (rows = [] ∨ ∃ b o c ty fr, r = some ⟨b, o, none⟩ ∧ W.heap[b]? = some (.cells c ty fr) ∧ rowsAt c o kMem rows) := by
  obtain ⟨h1, h2⟩ := Go.Eng.okWide_slice Try.underlying31 hv
  obtain ⟨fuel, hf⟩ := h
  rw [h1] at hf
  obtain ⟨rows, hr, _, hd⟩ := open_rows Try.underlying31 pat25 cells25 (by decide) hsp hf
  have hbound : (rows.length : Int) ≤ big := by
    rcases hd with ⟨_, h0⟩ | ⟨elems, spare, h3, h4, _⟩
    · rw [h0]; decide
    · have := sized_slice hsz hts (by rw [hds, h3]) Try.underlying31
      rw [bytes25] at this
      have hrb : reachBytes = 140737488351232 := by decide
      rw [hrb] at this
      unfold big; omega
  rcases hr with ⟨r, e1, e2⟩ | ⟨b, o, cap, c, ty, fr, e1, _, e3, e4⟩
  · exact ⟨r, rows, 0, by rw [e1, e2, addrOf_zero]; rfl, hbound, .inl e2⟩
  · exact ⟨some ⟨b, o, none⟩, rows, cap, by rw [e1]; rfl, hbound, .inr ⟨b, o, c, ty, fr, rfl, e3, e4⟩⟩
theorem rows_good {W : World} {r : Option Addr} {rows : List (List Value)} (h : rows = [] ∨ ∃ b o c ty fr, r = some ⟨b, o, none⟩ ∧ W.heap[b]? = some (.cells c ty fr) ∧ rowsAt c o kMem rows) : ({ d := rows } : U).good := by
  refine ⟨rfl, ?_⟩
  rcases h with h | ⟨_, _, _, _, _, _, _, h⟩
  · simp only; rw [h]; simp
  · exact rowsAt_good h
end Go.Proofs.Ytlmkkphojjodhaa
