/- Messages that come in, opened. -/
import Derived.Test.YtlmkkphojjodhaaCO
import Derived.Test.YtlmkkphojjodhaaGD
set_option linter.unusedSimpArgs false
set_option linter.unusedVariables false
namespace Go.Proofs.Ytlmkkphojjodhaa
open Go Go.Eng Go.Proofs Go.ChangeShapes Go.WideShapes Go.ChangeAt Go.RowKit
noncomputable def fs43 : Array Field := match Try.prog.underlying 43 with | some (.struct fs) => fs | _ => #[]
theorem under43 : Try.prog.underlying 43 = some (.struct fs43) := by kernel_rfl
theorem fs43_6 : (fs43[6]?).map (fun f => (f.type, f.offset)) = some (31, 6) := by kernel_rfl
theorem types43 : (Try.prog.cellTypes Try.prog.depth 43).map (fun ts => (ts.length, ts[6]?)) = some (116, some 31) := by kernel_rfl
theorem pat43 : patP Try.prog 6 43 = some kMsg := by kernel_rfl
theorem cells43 : Try.prog.cellsOf 43 = 116 := by kernel_rfl
theorem cells31 : Try.prog.cellsOf 31 = 1 := by kernel_rfl
theorem good43 : Try.prog.readableRec 43 = true ∧ 43 < Try.prog.types.size := ⟨by kernel_rfl, of_decide_eq_true (by kernel_rfl)⟩
theorem good3 : Try.prog.readableRec 3 = true ∧ 3 < Try.prog.types.size := ⟨by kernel_rfl, of_decide_eq_true (by kernel_rfl)⟩
theorem fits_int {k : IntKind} {v : Value} (h : CK.fits (.int k) v = true) : ∃ z, v = .int k z := by
  cases v <;> simp [CK.fits] at h
  subst h; exact ⟨_, rfl⟩
theorem fits_good {k : CK} {v : Value} (h : CK.fits k v = true) : v.oneCell' = true := by
  cases k <;> cases v <;> simp_all [CK.fits, Value.oneCell']
set_option maxRecDepth 100000 in
theorem open_message {H : Type} {enc : TypeId × Value → H} {W : World} {base b : Nat} {sp : Nat → Bool} (hsp : ∀ b, sp b = true) {v : Value} {d : DataW H} {p : List MemPlace} {ts : List TypeId} {ds : List (DataW H)} {j : Nat}
    (hv : Value.okWide Try.prog W .any b 43 v) (h : DataW.Trod enc Try.prog W base sp true 43 v d p) (hsz : (DataW.weightsEach Try.prog ts ds).all (· ≤ reachBytes) = true) (hts : ts[j]? = some 43) (hds : ds[j]? = some d) :
    ∃ (k f t s o g : Int) (r : Option Addr) (rows : List (List Value)) (cap : Nat) (rest : List Value), v = .agg (([.int .u8 k, .int .i64 f, .int .i64 t, .int .u64 s, .int .i64 o, .int .i64 g, .slice (addrOf r 0) rows.length cap] : List Value) ++ rest).toArray ∧ rest.length = 109 ∧ (∀ x ∈ rest, x.oneCell' = true) ∧ (rows.length : Int) ≤ big ∧
      (rows = [] ∨ ∃ b o c ty fr, r = some ⟨b, o, none⟩ ∧ W.heap[b]? = some (.cells c ty fr) ∧ rowsAt c o kMem rows) := by
  simp only [Value.okWide, under43] at hv
  obtain ⟨cs, rfl, hsize, tys, htys, _, hcell⟩ := hv
  rw [cells43] at hsize
  have ht43 := types43
  rw [htys] at ht43
  simp only [Option.map_some, Option.some.injEq, Prod.mk.injEq] at ht43
  obtain ⟨fuel, hf⟩ := h
  simp only [Value.cells] at hf
  have hfit := trod_fits 6 pat43 cs.toList ⟨fuel, _, hf⟩
  obtain ⟨xs, n, _, hx, _, hxl, hall⟩ := DataW.trod_struct under43 hf
  simp only [Prod.mk.injEq] at hx
  obtain ⟨hd, _⟩ := hx
  obtain ⟨f6, hf6, hf6'⟩ := Option.map_eq_some_iff.1 fs43_6
  simp only [Prod.mk.injEq] at hf6'
  have h6 := hall 6 f6 hf6
  rw [hf6'.1, hf6'.2, cells31] at h6
  have hlt : 6 < xs.length := by
    rw [hxl]; exact (Array.getElem?_eq_some_iff.1 hf6).1
  rw [List.getElem?_eq_getElem hlt] at h6
  have hsplit : ∃ c0 c1 c2 c3 c4 c5 c6 rest, cs.toList = c0 :: c1 :: c2 :: c3 :: c4 :: c5 :: c6 :: rest ∧ rest.length = 109 := by
    have hl : cs.toList.length = 116 := by simpa using hsize
    match cs.toList, hl with
    | c0 :: c1 :: c2 :: c3 :: c4 :: c5 :: c6 :: rest, hl => exact ⟨c0, c1, c2, c3, c4, c5, c6, rest, rfl, by simpa using hl⟩
  obtain ⟨c0, c1, c2, c3, c4, c5, c6, rest, hcs, hrl⟩ := hsplit
  rw [hcs] at hfit h6
  obtain ⟨k, rfl⟩ := fits_int (hfit.2 0 (.int .u8) c0 rfl rfl)
  obtain ⟨f, rfl⟩ := fits_int (hfit.2 1 (.int .i64) c1 rfl rfl)
  obtain ⟨t, rfl⟩ := fits_int (hfit.2 2 (.int .i64) c2 rfl rfl)
  obtain ⟨s, rfl⟩ := fits_int (hfit.2 3 (.int .u64) c3 rfl rfl)
  obtain ⟨o, rfl⟩ := fits_int (hfit.2 4 (.int .i64) c4 rfl rfl)
  obtain ⟨g, rfl⟩ := fits_int (hfit.2 5 (.int .i64) c5 rfl rfl)
  have hrest : ∀ x ∈ rest, x.oneCell' = true := fun x hx => by
    obtain ⟨i, hi⟩ := List.getElem?_of_mem hx
    have hk : kMsg[7 + i]? = some kMsg[7 + i]! := by
      have hlt' : i < 109 := by rw [← hrl]; exact (List.getElem?_eq_some_iff.1 hi).1
      have : 7 + i < kMsg.length := by have : kMsg.length = 116 := rfl; omega
      rw [List.getElem?_eq_getElem this, List.getElem!_eq_getElem?_getD, List.getElem?_eq_getElem this]; rfl
    exact fits_good (hfit.2 (7 + i) _ x hk (by rw [show 7 + i = i + 7 by omega]; simpa using hi))
  have hc6 : cs[6]? = some c6 := by rw [← Array.getElem?_toList, hcs]; rfl
  obtain ⟨u, hu, hok6⟩ := hcell 6 c6 hc6
  rw [ht43.1, show 6 % 116 = 6 from rfl, ht43.2] at hu
  simp only [Option.some.injEq] at hu; subst hu
  have hv6 : Value.okWide Try.prog W .any b 31 c6 := by simpa [Value.okWide, Try.underlying31] using hok6
  have hcells6 := (Go.Eng.okWide_slice Try.underlying31 hv6).1
  have htr6 : DataW.Trod enc Try.prog W base sp true 31 c6 xs[6].1 xs[6].2 := ⟨n, by rw [hcells6]; simpa using h6⟩
  have hw : (DataW.weightsEach Try.prog (fs43.toList.map (·.type)) (xs.map (·.1))).all (· ≤ reachBytes) = true := by
    rw [List.all_eq_true] at hsz ⊢
    intro m hm
    exact hsz m (DataW.weights_mem_each hts hds m (by rw [hd]; simp only [DataW.weights, under43]; exact hm))
  obtain ⟨r, rows, cap, e6, hb, hm⟩ := open_table hsp hv6 htr6 hw (j := 6) (by rw [List.getElem?_map, ← Array.getElem?_toList] at *; simp [hf6, hf6'.1]) (by simp [hlt])
  refine ⟨k, f, t, s, o, g, r, rows, cap, rest, ?_, hrl, hrest, hb, hm⟩
  rw [← e6]
  congr 1
  rw [← Array.toArray_toList (xs := cs), hcs]; rfl
end Go.Proofs.Ytlmkkphojjodhaa
