/- Points that come in, opened. -/
import Derived.Test.YtkiheclcmgbmnaaYP
import Derived.Test.YtkiheclcmgbmnaaV9
set_option linter.unusedSimpArgs false
set_option linter.unusedVariables false
namespace Go.Proofs.Ytkiheclcmgbmnaa
open Go Go.Eng Go.Proofs Go.ChangeShapes Go.WideShapes Go.ChangeAt Go.RowKit
theorem good70 : Try.prog.readableRec 70 = true ∧ 70 < Try.prog.types.size := ⟨by kernel_rfl, of_decide_eq_true (by kernel_rfl)⟩
noncomputable def fs75 : Array Field := match Try.prog.underlying 75 with | some (.struct fs) => fs | _ => #[]
theorem under75 : Try.prog.underlying 75 = some (.struct fs75) := by kernel_rfl
theorem fs75_0 : (fs75[0]?).map (fun f => (f.type, f.offset)) = some (5, 0) := by kernel_rfl
theorem fs75_1 : (fs75[1]?).map (fun f => (f.type, f.offset)) = some (5, 1) := by kernel_rfl
theorem pat75 : patP Try.prog 3 75 = some kP := by kernel_rfl
theorem cells75 : Try.prog.cellsOf 75 = kP.length := by kernel_rfl
theorem bytes75 : Try.prog.bytesOf 75 = 2 := by kernel_rfl
def pointsAt (W : World) (r : Option Addr) (rows : List (List Value)) : Prop := rows = [] ∨ ∃ b o c ty fr, r = some ⟨b, o, none⟩ ∧ W.heap[b]? = some (.cells c ty fr) ∧ rowsAt c o kP rows
section
variable {H : Type} {enc : TypeId × Value → H} {W : World} {base b : Nat} {sp : Nat → Bool}
theorem point_cell {fuel : Nat} {row : List Value} {x : DataW H × List MemPlace} {k : Nat} (hf : DataW.trod enc Try.prog W base sp true fuel 75 row = some x) (hk : (fs75[k]?).map (fun f => (f.type, f.offset)) = some (5, k)) : byteP (vInt (row[k]?.getD .nilFunc)) := by
  obtain ⟨m, y, h, _⟩ := open_field under75 hf hk
  rw [cells5] at h
  obtain ⟨z, e, _, hw⟩ := DataW.trod_int Try.underlying5 h
  have h0 : ((row.drop k).take kB.length)[0]? = some (.int .u8 z) := by rw [e]; rfl
  rw [List.getElem?_take, if_pos (by decide), List.getElem?_drop, Nat.add_zero] at h0
  rw [h0]
  exact wf_u8 hw
set_option maxRecDepth 100000 in
theorem open_points {v : Value} {d : DataW H} {p : List MemPlace} {ts : List TypeId} {ds : List (DataW H)} {j : Nat} (hsp : ∀ b, sp b = true)
    (hv : Value.okWide Try.prog W .any b 70 v) (h : DataW.Trod enc Try.prog W base sp true 70 v d p) (hsz : (DataW.weightsEach Try.prog ts ds).all (· ≤ reachBytes) = true) (hts : ts[j]? = some 70) (hds : ds[j]? = some d) :
    ∃ (r : Option Addr) (rows : List (List Value)) (cap : Nat), v = .slice (addrOf r 0) rows.length cap ∧ (rows.length : Int) ≤ 70368744175616 ∧ allP rows ∧ pointsAt W r rows := by
  obtain ⟨h1, h2⟩ := Go.Eng.okWide_slice Try.underlying70 hv
  obtain ⟨fuel, hf⟩ := h
  rw [h1] at hf
  obtain ⟨rows, hr, ht, hd⟩ := open_rows Try.underlying70 pat75 cells75 (by decide) hsp hf
  have hbound : (rows.length : Int) ≤ 70368744175616 := by
    rcases hd with ⟨_, h0⟩ | ⟨elems, spare, h3, h4, _⟩
    · rw [h0]; decide
    · have := sized_of hsz hts hds ((elems.length + spare.length) * Try.prog.bytesOf 75) (by rw [h3]; simp only [DataW.weights, Try.underlying70]; exact List.mem_cons_self ..)
      rw [bytes75] at this
      have hrb : reachBytes = 140737488351232 := by decide
      rw [hrb] at this
      omega
  have hall : allP rows := fun i i0 i1 => by
    obtain ⟨row, hrow⟩ : ∃ row, rows[i.toNat]? = some row := ⟨_, List.getElem?_eq_getElem (by omega)⟩
    obtain ⟨fuel', x', hx⟩ := ht row (List.mem_of_getElem? hrow)
    unfold cellI cellV
    rw [hrow]
    exact ⟨point_cell hx fs75_0, point_cell hx fs75_1⟩
  rcases hr with ⟨r, e1, e2⟩ | ⟨b, o, cap, c, ty, fr, e1, hle, e3, e4⟩
  · exact ⟨r, rows, 0, by rw [e1, e2, addrOf_zero]; rfl, hbound, hall, .inl e2⟩
  · exact ⟨some ⟨b, o, none⟩, rows, cap, by rw [e1]; rfl, hbound, hall, .inr ⟨b, o, c, ty, fr, rfl, e3, e4⟩⟩
theorem points_good {r : Option Addr} {rows : List (List Value)} (h : pointsAt W r rows) : ({ d := rows } : U).good := by
  refine ⟨rfl, ?_⟩
  rcases h with h | ⟨_, _, _, _, _, _, _, h⟩
  · simp only; rw [h]; simp
  · exact rowsAt_good h
end
end Go.Proofs.Ytkiheclcmgbmnaa
