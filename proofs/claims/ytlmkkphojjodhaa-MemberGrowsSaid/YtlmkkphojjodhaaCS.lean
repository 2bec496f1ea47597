/- Scripts that come in, opened. -/
import Derived.Test.YtlmkkphojjodhaaCM
import Derived.Test.YtlmkkphojjodhaaUA
set_option linter.unusedSimpArgs false
set_option linter.unusedVariables false
namespace Go.Proofs.Ytlmkkphojjodhaa
open Go Go.Eng Go.Proofs Go.ChangeShapes Go.WideShapes Go.ChangeAt Go.RowKit
noncomputable def fs87 : Array Field := match Try.prog.underlying 87 with | some (.struct fs) => fs | _ => #[]
theorem under87 : Try.prog.underlying 87 = some (.struct fs87) := by kernel_rfl
theorem fs87_1 : (fs87[1]?).map (fun f => (f.type, f.offset)) = some (22, 1) := by kernel_rfl
theorem fs87_2 : (fs87[2]?).map (fun f => (f.type, f.offset)) = some (43, 2) := by kernel_rfl
theorem pat87 : patP Try.prog 7 87 = some kOp := by kernel_rfl
theorem cells87 : Try.prog.cellsOf 87 = kOp.length := by kernel_rfl
theorem cells22 : Try.prog.cellsOf 22 = 1 := by kernel_rfl
theorem bytes87 : 16 ≤ Try.prog.bytesOf 87 := of_decide_eq_true (by kernel_rfl)
theorem good84 : Try.prog.readableRec 84 = true ∧ 84 < Try.prog.types.size := ⟨by kernel_rfl, of_decide_eq_true (by kernel_rfl)⟩
section
variable {H : Type} {enc : TypeId × Value → H} {W : World} {base b : Nat} {sp : Nat → Bool}
theorem weightsAll_mem {e : TypeId} : ∀ {elems : List (DataW H)} {d : DataW H}, d ∈ elems → ∀ n ∈ d.weights Try.prog e, n ∈ DataW.weightsAll Try.prog e elems
  | x :: l, d, hd, n, hn => by
    simp only [DataW.weightsAll, List.mem_append]
    rcases List.mem_cons.1 hd with rfl | hd
    · exact .inl hn
    · exact .inr (weightsAll_mem hd n hn)
/-- A field of a struct that reads: what it is read as, its weights. -/
theorem open_field {t u : TypeId} {fs : Array Field} {cs : List Value} {fuel : Nat} {x : DataW H × List MemPlace} {k off : Nat} (ht : Try.prog.underlying t = some (.struct fs)) (h : DataW.trod enc Try.prog W base sp true fuel t cs = some x)
    (hk : (fs[k]?).map (fun f => (f.type, f.offset)) = some (u, off)) : ∃ m y, DataW.trod enc Try.prog W base sp true m u ((cs.drop off).take (Try.prog.cellsOf u)) = some y ∧ ∀ n ∈ y.1.weights Try.prog u, n ∈ x.1.weights Try.prog t := by
  obtain ⟨xs, n, _, hx, _, hxl, hall⟩ := DataW.trod_struct ht h
  obtain ⟨f, hf, hf'⟩ := Option.map_eq_some_iff.1 hk
  simp only [Prod.mk.injEq] at hf'
  have h1 := hall k f hf
  rw [hf'.1, hf'.2] at h1
  have hlt : k < xs.length := by rw [hxl]; exact (Array.getElem?_eq_some_iff.1 hf).1
  rw [List.getElem?_eq_getElem hlt] at h1
  refine ⟨n, _, h1, fun m hm => ?_⟩
  rw [hx]
  simp only [DataW.weights, ht]
  exact DataW.weights_mem_each (j := k) (by rw [List.getElem?_map, Array.getElem?_toList, hf, Option.map_some, hf'.1]) (by simp [hlt]) m hm
set_option maxRecDepth 100000 in
/-- A nested table. -/
theorem open_nested {v : Value} {fuel : Nat} {x : DataW H × List MemPlace} (hsp : ∀ b, sp b = true) (h : DataW.trod enc Try.prog W base sp true fuel 31 [v] = some x) (hsz : ∀ n ∈ x.1.weights Try.prog 31, n ≤ reachBytes) :
    ∃ t, Rd (fun b => W.heap[b]?) kMem v t ∧ (t.length : Int) ≤ big := by
  obtain ⟨rows, hr, _, hd⟩ := open_rows (ps := x.2) (d := x.1) Try.underlying31 pat25 cells25 (by decide) hsp h
  refine ⟨rows, hr, ?_⟩
  rcases hd with ⟨_, h0⟩ | ⟨elems, sp', h3, h4, _⟩
  · rw [h0]; decide
  · have := hsz ((elems.length + sp'.length) * Try.prog.bytesOf 25) (by rw [h3]; simp only [DataW.weights, Try.underlying31]; exact List.mem_cons_self ..)
    rw [bytes25] at this
    have hrb : reachBytes = 140737488351232 := by decide
    rw [hrb] at this
    unfold big; omega
set_option maxRecDepth 100000 in
theorem open_script {v : Value} {d : DataW H} {p : List MemPlace} {ts : List TypeId} {ds : List (DataW H)} {j : Nat} (hsp : ∀ b, sp b = true)
    (hv : Value.okWide Try.prog W .any b 84 v) (h : DataW.Trod enc Try.prog W base sp true 84 v d p) (hsz : (DataW.weightsEach Try.prog ts ds).all (· ≤ reachBytes) = true) (hts : ts[j]? = some 84) (hds : ds[j]? = some d) :
    ∃ (r : Option Addr) (rows : List (List Value)) (cap : Nat), v = .slice (addrOf r 0) rows.length cap ∧ (rows.length : Int) ≤ big ∧ opsOk (fun b => W.heap[b]?) rows ∧
      (rows = [] ∨ ∃ b o c ty fr, r = some ⟨b, o, none⟩ ∧ W.heap[b]? = some (.cells c ty fr) ∧ rowsAt c o kOp rows) := by
  obtain ⟨h1, _⟩ := Go.Eng.okWide_slice Try.underlying84 hv
  obtain ⟨fuel, hf⟩ := h
  rw [h1] at hf
  obtain ⟨rows, hr, hrow, hd⟩ := open_rows Try.underlying84 pat87 cells87 (by decide) hsp hf
  have hrb : reachBytes = 140737488351232 := by decide
  have hall : ∀ n ∈ d.weights Try.prog 84, n ≤ reachBytes := fun n hn => by
    rw [List.all_eq_true] at hsz
    exact of_decide_eq_true (hsz n (DataW.weights_mem_each hts hds n hn))
  have hb : (rows.length : Int) ≤ big := by
    rcases hd with ⟨_, h0⟩ | ⟨elems, sp', h3, h4, _⟩
    · rw [h0]; decide
    · have := hall ((elems.length + sp'.length) * Try.prog.bytesOf 87) (by rw [h3]; simp only [DataW.weights, Try.underlying84]; exact List.mem_cons_self ..)
      have hm : elems.length * 16 ≤ (elems.length + sp'.length) * Try.prog.bytesOf 87 := Nat.mul_le_mul (by omega) bytes87
      rw [hrb] at this
      unfold big; omega
  have hops : opsOk (fun b => W.heap[b]?) rows := fun row hrm => by
    obtain ⟨i, hi⟩ := List.getElem?_of_mem hrm
    rcases hd with ⟨_, h0⟩ | ⟨elems, sp', h3, h4, h5⟩
    · rw [h0] at hrm; cases hrm
    · obtain ⟨f, x, hx, hex⟩ := h5 i row hi
      have hw : ∀ n ∈ x.1.weights Try.prog 87, n ≤ reachBytes := fun n hn => hall n (by
        rw [h3]; simp only [DataW.weights, Try.underlying84]
        exact List.mem_cons_of_mem _ (List.mem_append_left _ (weightsAll_mem (List.mem_of_getElem? hex) n hn)))
      obtain ⟨m1, y1, g1, _⟩ := open_field under87 hx fs87_1
      obtain ⟨m2, y2, g2, w2⟩ := open_field under87 hx fs87_2
      obtain ⟨m3, y3, g3, w3⟩ := open_field under43 g2 fs43_6
      have hl : row.length = 118 := by
        have := (trod_fits 7 pat87 row ⟨f, x, hx⟩).1
        rw [this]; rfl
      have e1 : (row.drop 1).take (Try.prog.cellsOf 22) = [row[1]?.getD .nilFunc] := by
        rw [cells22, List.getElem?_eq_getElem (by omega), Option.getD_some]
        rw [List.drop_eq_getElem_cons (by omega), List.take_succ_cons, List.take_zero]
      have e3 : ((((row.drop 2).take (Try.prog.cellsOf 43)).drop 6).take (Try.prog.cellsOf 31)) = [row[8]?.getD .nilFunc] := by
        rw [cells43, cells31, List.getElem?_eq_getElem (by omega), Option.getD_some, List.drop_take, List.take_take, List.drop_drop]
        rw [List.drop_eq_getElem_cons (by omega)]
        rfl
      rw [e1] at g1
      rw [e3] at g3
      obtain ⟨t, ht, htb⟩ := open_nested hsp g3 fun n hn => hw n (w2 n (w3 n hn))
      refine ⟨⟨t, ht, htb⟩, ?_⟩
      obtain ⟨z, hz, _, hwf⟩ := DataW.trod_int Try.underlying22 g1
      have e : rowI row 1 = z := by
        have := (List.cons.inj hz).1
        rw [rowI, this]; rfl
      rw [e]
      have u1 : IntKind.u64.min = 0 := rfl
      have u2 : IntKind.u64.max = 18446744073709551615 := rfl
      simp [Lit.wf, IntKind.wrap, IntKind.bits, IntKind.signed] at hwf
      omega
  rcases hr with ⟨r, e1, e2⟩ | ⟨b, o, cap, c, ty, fr, e1, _, e3, e4⟩
  · exact ⟨r, rows, 0, by rw [e1, e2, addrOf_zero]; rfl, hb, hops, .inl e2⟩
  · exact ⟨some ⟨b, o, none⟩, rows, cap, by rw [e1]; rfl, hb, hops, .inr ⟨b, o, c, ty, fr, rfl, e3, e4⟩⟩
theorem ops_good {rows : List (List Value)} {r : Option Addr} (h : rows = [] ∨ ∃ b o c ty fr, r = some ⟨b, o, none⟩ ∧ W.heap[b]? = some (.cells c ty fr) ∧ rowsAt c o kOp rows) : ({ d := rows } : U).good := by
  refine ⟨rfl, ?_⟩
  rcases h with h | ⟨_, _, _, _, _, _, _, h⟩
  · simp only; rw [h]; simp
  · exact rowsAt_good h
end
end Go.Proofs.Ytlmkkphojjodhaa
