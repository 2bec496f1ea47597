/- Texts DS, DT, BT, E13, E14. -/
import Derived.Test.YtelcnkclppkicaaDoorG8
import Derived.Test.YtelcnkclppkicaaDoorG7
import Derived.Test.YtelcnkclppkicaaDoorG6
import Derived.Test.YtelcnkclppkicaaDoorG9
import Derived.Test.YtelcnkclppkicaaDoorG5
import Derived.WalkKit
import Derived.ProofKit
import Derived.OpenShut
import Derived.Carry
import Derived.SizedLaws
set_option linter.unusedSimpArgs false
set_option linter.unusedVariables false
namespace Go.Proofs
open Go Go.Eng
theorem sizes3_ok : sizes3C.ok Tryd.prog := sizes3_of (by simp) fun ρ hg hp => by
  simp [o_sizes3, sizes3C]
  refine ⟨fun h1 => ⟨fun h2 => ⟨fun h3 => ?_, fun h3 => ?_⟩, fun h2 => ?_⟩, fun h1 => ?_⟩
  · simp [sizes3, h1, h2, h3, cmpOf]
  · simp [sizes3]; omega
  · simp [sizes3]; omega
  · simp [sizes3]; omega
set_option maxRecDepth 20000 in
theorem checkM_ok : checkMC.ok Tryd.prog := checkM_of (by simp [sizes3_ok]) fun ρ hg hp => by
  have hp : 0 ≤ (ρ 6).i := hp
  simp [o_checkM, checkMC, sizes3C, manOk, manV, manT, cellsT]
  refine fun u _ hu => ⟨fun h hs => by (rw [hu, hs] at h; cases h), fun h => ⟨fun a _ b => by omega, fun a => ⟨fun b _ _ c => by omega, fun b => ⟨hp, fun c _ _ _ => c, fun c => ⟨by rw [← hu, h], a, b, c⟩⟩⟩⟩⟩
theorem shr8 {x : Int} : arithOf .shr .i64 x 8 = x.fdiv 256 := rfl
set_option maxRecDepth 20000 in
theorem pieceDg_ok : pieceDgC.ok Tryd.prog := pieceDg_of (by simp [newHash_ok, write_ok, sum_ok]) fun ρ hg hp => by
  obtain ⟨o0, l0, lc, l1, hle, hB, hGr, hGd⟩ := hp
  simp (config := { maxSteps := 2000000 }) [o_pieceDg, pieceDgC, newHashC, writeC, sumC, gOk]
  have hseg : segB [[.int .u8 (IntKind.u8.wrap (arithOf .shr .i64 (ρ 0).i 8))], [.int .u8 (IntKind.u8.wrap (ρ 0).i)]] 0 2 = pieceIn (ρ 0).i := by
    rw [shr8, wrap8, wrap8]; rfl
  refine fun h _ hh => ⟨⟨⟨[], hh, by decide⟩, ?_, hGr, hGd⟩, fun g _ hg1 => ?_⟩
  · intro row hr
    simp at hr
    rcases hr with rfl | rfl
    · simp [rowI, vInt, wrap8]; omega
    · simp [rowI, vInt, wrap8]; omega
  · rw [hseg] at hg1
    have h1 := hg1 [] hh
    refine ⟨⟨⟨_, h1, by simp [pieceIn]⟩, o0, l0, lc, by omega, hle, hB, hGr, hGd⟩, fun k _ hk => ⟨⟨⟨_, hk _ h1, ?_⟩, hGr, hGd⟩, fun d _ hd => ?_⟩⟩
    · have : (segB (ρ 5).d (ρ 2).i (ρ 3).i).length ≤ (ρ 3).i.toNat := by simp [segB]; omega
      simp [pieceIn]; omega
    · exact (show rowL _ 32 = rowL d.d 32 from rfl).trans (hd _ (hk _ h1))
theorem wThen_ok {lim : Int} {b : Bool} {x m s : List Int} (h : (b, x) = wThen lim false m s) (hf : (m.length : Int) + s.length ≤ lim) : b = false ∧ x = m ++ s := by
  rw [wThen_fits (by simp [wFull]; omega)] at h
  simpa using h
theorem wrap16 {x : Int} : IntKind.u16.wrap x = x % 65536 := by simp [IntKind.wrap, IntKind.bits, IntKind.signed]
theorem row_dgs {d : Rows'} {i : Nat} (h : i < d.length) : rowL [dgCells (cellI d i)] 32 = rowB d[i] := by
  refine List.map_congr_left fun j hj => ?_
  rw [dgCells_get (List.mem_range.1 hj)]
  simp [cellI, cellV, rowI, h]
theorem dgs_take {d : Rows'} {i : Nat} (h : i < d.length) : ((dgs d).take (i + 1)).flatten = ((dgs d).take i).flatten ++ rowB d[i] := by
  rw [List.take_add_one, List.getElem?_eq_getElem (by simpa [dgs] using h)]
  simp [dgs]
set_option maxRecDepth 20000 in
set_option maxHeartbeats 800000 in
theorem encMan_ok : encManC.ok Tryd.prog := encMan_of (by simp [checkM_ok, newWriter_ok, u8_ok, u16_ok, rawM_ok, raw32_ok, bytes_ok]) fun ρ hg hp => by
  obtain ⟨l0, hl, ho, hd⟩ := hp
  simp (config := { maxSteps := 2000000 }) [o_encMan, encManC, encManI, checkMC, newWriterC, u8C, u16C, numFn, rawMC, raw32C, bytesC, wHeap, wCells, wPost]
  refine ⟨l0, fun e _ he => ⟨fun hne => ?_, fun hz lim _ hlim => ?_⟩⟩
  · by_cases h : manOk (ρ 0).i (ρ 1).i (ρ 2).i (ρ 3).i (ρ 6).i = true
    · rw [if_pos h] at he; exact absurd he hne
    · rw [if_neg h] at he; exact ⟨he.symm, by simpa using h⟩
  · have hok : manOk (ρ 0).i (ρ 1).i (ρ 2).i (ρ 3).i (ρ 6).i = true := by
      by_cases h : manOk (ρ 0).i (ρ 1).i (ρ 2).i (ρ 3).i (ρ 6).i = true
      · exact h
      · rw [if_neg h] at he; omega
    have hb := hok
    simp [manOk, sizes3] at hb
    obtain ⟨⟨b1, b2, b3, b4⟩, b5, b6, b7⟩ := hb
    have hl2 : lim.i = 39 + 32 * (ρ 2).i := by
      rw [hlim, mul64 (by omega) (by omega), add64 (by omega) (by omega)]; omega
    clear hlim
    simp only [wrap8, wrap16]
    have hman : List.drop 4 (rowL [([.int .i64 (ρ 0).i, .int .i64 (ρ 1).i, .int .i64 (ρ 2).i, .int .i64 (ρ 3).i] ++ (dgCells (cellX (ρ 4).d) ++ [.slice (addrOf (ρ 5).r 0) (ρ 6).i.toNat (ρ 7).i.toNat]) : List Value)] 36) = rowL (ρ 4).d 32 := rfl
    have hone : oneRow [([.int .i64 (ρ 0).i, .int .i64 (ρ 1).i, .int .i64 (ρ 2).i, .int .i64 (ρ 3).i] ++ (dgCells (cellX (ρ 4).d) ++ [.slice (addrOf (ρ 5).r 0) (ρ 6).i.toNat (ρ 7).i.toNat]) : List Value)] 37 := ⟨_, rfl, by simp [dgCells]⟩
    have hlen : ∀ {l n c : Int} {d : Rows'}, wOk l n c d → n = ((bI d).length : Int) := fun h => by rw [bI_len]; exact h.2.2.1
    refine ⟨⟨by omega, by omega, rfl, by omega, by intro r hr; cases hr⟩, fun f1 _ n1 _ c1 _ d1 _ w1 g1 => ?_⟩
    obtain ⟨y1, x1⟩ := wThen_ok g1 (by rw [hl2]; simp [bI, beL_len]; omega)
    have L1 : (bI d1.d).length = 2 := by rw [x1]; simp [bI, beL_len]
    have q1 := hlen w1
    refine ⟨⟨w1, by omega, by omega, by omega⟩, fun f2 _ n2 _ c2 _ d2 _ w2 g2 => ?_⟩
    rw [y1] at g2
    obtain ⟨y2, x2⟩ := wThen_ok g2 (by rw [hl2, L1, beL_len]; omega)
    have L2 : (bI d2.d).length = 3 := by rw [x2, List.length_append, L1, beL_len]
    have q2 := hlen w2
    refine ⟨⟨w2, by omega, by omega, by omega⟩, fun f3 _ n3 _ c3 _ d3 _ w3 g3 => ?_⟩
    rw [y2] at g3
    obtain ⟨y3, x3⟩ := wThen_ok g3 (by rw [hl2, L2, beL_len]; omega)
    have L3 : (bI d3.d).length = 4 := by rw [x3, List.length_append, L2, beL_len]
    have q3 := hlen w3
    refine ⟨⟨w3, by omega, by omega, by omega⟩, fun f4 _ n4 _ c4 _ d4 _ w4 g4 => ?_⟩
    rw [y3] at g4
    obtain ⟨y4, x4⟩ := wThen_ok g4 (by rw [hl2, L3, beL_len]; omega)
    have L4 : (bI d4.d).length = 5 := by rw [x4, List.length_append, L3, beL_len]
    have q4 := hlen w4
    refine ⟨⟨w4, by omega, by omega, by omega⟩, fun f5 _ n5 _ c5 _ d5 _ w5 g5 => ?_⟩
    rw [y4] at g5
    obtain ⟨y5, x5⟩ := wThen_ok g5 (by rw [hl2, L4, beL_len]; omega)
    have L5 : (bI d5.d).length = 7 := by rw [x5, List.length_append, L4, beL_len]
    have q5 := hlen w5
    refine ⟨⟨w5, by omega, hone, ?_⟩, fun f6 _ n6 _ c6 _ d6 _ w6 g6 => ?_⟩
    · have := hman
      exact this ▸ ho
    have g6' : (f6.b, bI d6.d) = wThen lim.i f5.b (bI d5.d) (rowL (ρ 4).d 32) := g6
    rw [y5] at g6'
    obtain ⟨y6, x6⟩ := wThen_ok g6' (by rw [hl2, L5, rowL_len]; omega)
    have hhead : bI d6.d = manHead (ρ 0).i (ρ 1).i (ρ 2).i (ρ 3).i (rowL (ρ 4).d 32) := by
      rw [x6, x5, x4, x3, x2, x1]
      simp [manHead, bI, List.append_assoc]
    refine ⟨l0, ⟨hok, l0, hl2, y6, w6, hhead⟩, fun lim2 _ f _ n _ c _ d _ t _ _ t0 t1 z1 z2 z3 z4 => ⟨fun hlt => ?_, fun hge => ?_⟩⟩
    · obtain ⟨T, hT⟩ : ∃ T : Nat, t.i = T := ⟨t.i.toNat, by omega⟩
      have m1 : arithOf .add .i64 t.i 1 = ((T + 1 : Nat) : Int) := by rw [add64 (by omega) (by omega)]; omega
      have hTl : T < (ρ 8).d.length := by omega
      have hrow := row_dgs hTl
      have hnl : n.i = 39 + 32 * t.i := by
        have h1 := hlen z3
        rw [z4, List.length_append] at h1
        have h2 : ∀ (k : Nat), k ≤ (ρ 8).d.length → ((dgs (ρ 8).d).take k).flatten.length = 32 * k := fun k => by
          induction k with
          | zero => intro _; simp
          | succ k ih => intro hk; rw [dgs_take (by omega), List.length_append, ih (by omega)]; simp [rowB]; omega
        rw [h2 _ (by omega)] at h1
        have h3 : (manHead (ρ 0).i (ρ 1).i (ρ 2).i (ρ 3).i (rowL (ρ 4).d 32)).length = 39 := by simp [manHead, beL_len, rowL_len]
        omega
      rw [hT] at z4 hnl ⊢
      rw [← hT, m1, hT]
      refine ⟨by omega, by omega, ⟨z3, by omega, ⟨_, rfl, rfl⟩, ?_⟩, fun f7 _ n7 _ c7 _ d7 _ w7 g7 => ?_⟩
      · have h1 : allM (rowB (ρ 8).d[T]) := (hd _ (List.getElem_mem hTl)).2
        rw [← hrow] at h1
        exact h1
      · have g7' : (f7.b, bI d7.d) = wThen lim2.i f.b (bI d.d) (rowL [dgCells (cellI (ρ 8).d T)] 32) := g7
        rw [z2, hrow] at g7'
        have hbl : (rowB (ρ 8).d[T]).length = 32 := by simp [rowB]
        obtain ⟨y7, x7⟩ := wThen_ok g7' (by rw [← hlen z3, hbl]; omega)
        refine ⟨⟨hok, by omega, by omega, z1, y7, w7, ?_⟩, by omega⟩
        rw [x7, z4]
        simp only [Int.toNat_natCast]
        rw [dgs_take hTl, List.append_assoc]
    · have ht : t.i.toNat = (ρ 8).d.length := by omega
      rw [ht] at z4
      rw [List.take_of_length_le (by simp [dgs])] at z4
      refine ⟨⟨z3, ?_⟩, z2, fun e _ _ he => ⟨hok, by rw [he]; exact z3.2.2.1, by rw [he]; exact z3.2.2.2.2, by rw [he]; exact z4⟩⟩
      have := z3.2.2.2.1
      omega
end Go.Proofs

set_option linter.unusedSimpArgs false
set_option linter.unusedVariables false
namespace Go.Proofs
open Go Go.Eng
theorem sha_allM (m : List Int) : allM (sha m) := fun x hx => by
  obtain ⟨j, _, rfl⟩ := List.mem_map.1 hx
  omega
theorem sha_hex : hexL (sha [97, 98, 99]) = [98, 97, 55, 56, 49, 54, 98, 102, 56, 102, 48, 49, 99, 102, 101, 97, 52, 49, 52, 49, 52, 48, 100, 101, 53, 100, 97, 101, 50, 50, 50, 51, 98, 48, 48, 51, 54, 49, 97, 51, 57, 54, 49, 55, 55, 97, 57, 99, 98, 52, 49, 48, 102, 102, 54, 49, 102, 50, 48, 48, 49, 53, 97, 100] := by
  rw [sha_abc]; decide +kernel
theorem crc_known : ofW (crcF [49, 50, 51, 52, 53, 54, 55, 56, 57]) = 3808858755 := by decide +kernel
set_option maxRecDepth 100000 in
theorem top23 : (topE 2 3).2.2 = 2 := by kernel_rfl
theorem head23 : ∀ o : List Int, manHead 2 3 3 2 o = [77, 1, 2, 3, 3, 0, 2] ++ o := fun o => by
  have h1 : beL 19713 2 = [77, 1] := by decide
  have h2 : beL (2 % 256) 1 = [2] := by decide
  have h3 : beL (3 % 256) 1 = [3] := by decide
  have h4 : beL (2 % 65536) 2 = [0, 2] := by decide
  rw [manHead, h1, h2, h3, h4]; rfl
theorem madeAt_len {f : Nat → List Int} {n : Nat} : (madeAt f n).length = n := by simp [madeAt]
theorem bytesOf_bI {d : Rows'} : bytesOf d = (bI d).map fun x => UInt8.ofNat x.toNat := by simp [bytesOf, bI, rowI]
theorem pieceN_len {g full : List Int} {k l i : Nat} : ∀ j, (pieceN g full k l i j).length = l
  | 0 => by simp [pieceN]
  | j + 1 => by rw [pieceN, addToL_len, pieceN_len j]
theorem encP_len {k total : Nat} {data : List Int} {i : Nat} : (encP k total data i).length = pieceLen k data.length := pieceN_len k
theorem dgs_snoc {d : Rows'} {r : List Value} : dgs (d ++ [r]) = dgs d ++ [rowB r] := by simp [dgs]
theorem madeAt_snoc {f : Nat → List Int} {n : Nat} : madeAt f (n + 1) = madeAt f n ++ [sha (pieceIn n ++ f n)] := by simp [madeAt, List.range_succ]
theorem rowB_dg {d : Rows'} : rowB (dgCells (cellX d)) = rowL d 32 := rfl
set_option maxRecDepth 20000 in
set_option maxHeartbeats 1600000 in
theorem make_ok : makeC.ok Tryd.prog := make_of (by simp [sizes3_ok, encode31_ok, sha256_ok, pieceDg_ok]) fun ρ hg hp => by
  obtain ⟨hf, hl, hlc, hB, ⟨hGr, hGd⟩, htop⟩ := hp
  simp (config := { maxSteps := 2000000 }) [o_make, makeC, makeI, sizes3C, encode31C, sha256C, pieceDgC, gOk, bytesIn]
  have hnn := fieldD_ne hf
  refine fun u _ => ⟨fun h => absurd h hnn.1, fun _ b _ hb => ⟨fun hz => ⟨hf, by rw [← hb]; exact hz⟩, fun hz => ?_⟩⟩
  rw [hz] at hb
  have hs3 := hb.symm
  have hs3' := hs3
  simp [sizes3] at hs3'
  obtain ⟨b1, b2, b3, b4⟩ := hs3'
  have hsB : sizesB (ρ 2).i (ρ 4).i = true := by simp [sizesB]; omega
  have hsz : sizesB (ρ 2).i (ρ 4).i = false → False := fun h => by rw [hsB] at h; cases h
  refine ⟨⟨hf, hl, hB, htop⟩, fun e _ f _ hf2 he => ⟨fun hne => ⟨hf2, ?_⟩, fun hz2 => ?_⟩, fun _ _ _ _ f _ P _ ab _ hf2 _ hle hPl hE => ⟨by omega, ⟨⟨by omega, hlc, by omega, by omega, hB⟩, hGr, hGd⟩, fun o _ ho _ _ => ⟨by omega, ⟨hf2, hs3, hle, by omega, hPl, hE, ?_, ?_, ?_⟩, fun _ _ _ _ _ _ o2 _ _ _ t _ _ _ Ds _ P2 _ _ _ f2 _ ab2 _ hf3 _ _ t0 t1 hPl2 hE2 ho2 hDl hDo hDm => ⟨fun hlt => ?_, fun hge => ?_⟩⟩⟩⟩
  · rcases he with ⟨h, _⟩ | ⟨_, h1, h2⟩
    · exact (hsz h).elim
    · exact .inr ⟨hs3, h1, h2⟩
  · rcases he with ⟨h, _⟩ | ⟨_, h1, h2⟩
    · exact (hsz h).elim
    · omega
  · rw [segB_all hl] at ho
    exact ho
  · intro r hr; cases hr
  · rfl
  · obtain ⟨T, hT⟩ : ∃ T : Nat, t.i = T := ⟨t.i.toNat, by omega⟩
    have m1 : arithOf .add .i64 t.i 1 = ((T + 1 : Nat) : Int) := by rw [add64 (by omega) (by omega)]; omega
    obtain ⟨v, d, e1, e2, e3, e4⟩ := hE2 T (by omega)
    have hcv : cellV P2.d t.i 1 = v := by rw [hT]; simp [cellV, e1]
    have hci : cellI P2.d t.i 0 = (T : Int) := by rw [hT]; simp [cellI, cellV, e1, vInt]
    rw [m1, hcv, hci]
    have hdl : d.length ≤ (ρ 8).d.length := by
      have h1 := congrArg List.length e3
      rw [bI_len, encP_len, bI_len] at h1
      have := pieceLen_le (k := (ρ 2).i.toNat) (n := (ρ 8).d.length) (by omega)
      omega
    refine ⟨by omega, by omega, fun _ _ => ⟨d, e2, fun r0 _ c1 _ hv hcl => ⟨⟨hcl, by omega, e4, hGr, hGd⟩, fun g _ hg2 _ _ => ⟨by omega, by omega, fun _ _ _ _ ab3 _ hst => ⟨by omega, ⟨hf3, hs3, hle, by omega, by omega, hPl2, ?_, ho2, by omega, ?_, ?_⟩, by omega⟩⟩⟩⟩⟩
    · obtain ⟨hb2, lb, db⟩ := star_mem_abs hst (n := 32) (t := 2) (by simp)
      exact encAt_mono hE2 (Hp.le_trans (by simpa using db) lb)
    · intro r hr
      rcases List.mem_append.1 hr with hr | hr
      · exact hDo r hr
      · obtain rfl := List.mem_singleton.1 hr
        refine ⟨rfl, ?_⟩
        have : allM (rowL g.d 32) := by rw [hg2]; exact sha_allM _
        exact this
    · have hh : dgs (Ds.d ++ [dgCells (cellX g.d)]) = madeAt (encP (ρ 2).i.toNat (ρ 4).i.toNat (bI (ρ 8).d)) (T + 1) := by
        rw [dgs_snoc, rowB_dg, hg2, segB_all rfl, e3, hDm, hT, Int.toNat_natCast, madeAt_snoc]
      exact hh
  · have ht : t.i = (ρ 4).i := by omega
    refine fun ab3 _ hst => ⟨by omega, hf3, hs3, hle, hPl2, ?_, ho2, hDo, by rw [hDm, ht]⟩
    obtain ⟨hb2, lb, db⟩ := star_mem_abs hst (n := 32) (t := 2) (by simp)
    exact encAt_mono hE2 (Hp.le_trans (by simpa using db) lb)
set_option maxRecDepth 20000 in
theorem known_ok : knownC.ok Tryd.prog := known_of (by simp [sha256_ok, hex_ok, crc_ok, newField_ok, make_ok, encMan_ok]) fun ρ hg hp => by
  obtain ⟨hGr, hGd⟩ := hp
  simp (config := { maxSteps := 2000000 }) [o_known, vStr_mk, knownC, newFieldC, sha256C, hexC, crcC, makeC, encManC, gOk, bytesIn]
  have b3 : allB [[Value.int .u8 97], [Value.int .u8 98], [Value.int .u8 99]] := by
    intro row hr; simp at hr; rcases hr with rfl | rfl | rfl <;> decide
  have b9 : allB [[Value.int .u8 49], [Value.int .u8 50], [Value.int .u8 51], [Value.int .u8 52], [Value.int .u8 53], [Value.int .u8 54], [Value.int .u8 55], [Value.int .u8 56], [Value.int .u8 57]] := by
    intro row hr; simp at hr; rcases hr with rfl | rfl | rfl | rfl | rfl | rfl | rfl | rfl | rfl <;> decide
  have b2 : allB [[Value.int .u8 97], [Value.int .u8 98]] := by
    intro row hr; simp at hr; rcases hr with rfl | rfl <;> decide
  refine ⟨⟨b3, hGr, hGd⟩, fun d _ hd => ⟨?_, fun s _ hs => ?_⟩⟩
  · have : allM (rowL d.d 32) := by rw [hd]; exact sha_allM _
    exact this
  · have hs' : vStr s.v = hexL (rowL d.d 32) := hs
    have hd' : rowL d.d 32 = sha [97, 98, 99] := hd
    rw [hd', sha_hex] at hs'
    refine ⟨hs', fun _ => ⟨b9, fun c _ hc => ?_⟩⟩
    have hc' : c.i = 3808858755 := hc.trans crc_known
    refine ⟨hc', fun _ F _ hF => ⟨⟨.inl hF, b2, ⟨hGr, hGd⟩, fun _ => top23⟩, fun _ _ _ _ _ h => absurd h (by decide), fun o _ f _ Ds _ P _ ab _ hf hsz hPl hE ho hdo hdg => ?_⟩⟩
    have hDl : Ds.d.length = 3 := by
      have := congrArg List.length hdg
      rw [madeAt_len] at this; simpa [dgs] using this
    have hoM : allM (rowL o.d 32) := by rw [ho]; exact sha_allM _
    refine ⟨⟨by omega, hoM, hdo⟩, by decide, fun n _ cp _ b _ _ hn hb hbI => ?_⟩
    have hbI' : bI b.d = manHead 2 3 3 2 (rowL o.d 32) ++ (dgs Ds.d).flatten := hbI
    have hfl : (dgs Ds.d).flatten.length = 96 := by
      rw [hdg]; simp [madeAt, List.range_succ, sha_len]
    have hbl : b.d.length = 135 := by
      have := congrArg List.length hbI'
      rw [bI_len, head23] at this
      simp [rowL_len, hfl] at this
      exact this
    refine ⟨by omega, fun _ hcp => ⟨by omega, by omega, by omega, ?_⟩, by omega⟩
    have h7 : bI (List.take 7 b.d) = [77, 1, 2, 3, 3, 0, 2] := by
      rw [bI, List.map_take, ← bI, hbI', head23]; rfl
    rw [bytesOf_bI, h7]; rfl
end Go.Proofs

set_option linter.unusedSimpArgs false
set_option linter.unusedVariables false
namespace Go.Proofs
open Go Go.Eng
set_option maxRecDepth 20000
theorem wrote_ok : wroteC.ok Tryd.prog := wrote_of (by simp [width_ok, numberR_ok]) fun ρ hg hp => by
  obtain ⟨hlim, hl, hl2, hB5, hk, ⟨v0, v1⟩, hn, hn2, hB⟩ := hp
  simp [o_wrote, wroteC, widthC, numberRC, outV, opV]
  have hbl : (bI (ρ 13).d).length = (ρ 13).d.length := bI_len
  have ht5 : bI (List.take (ρ 3).i.toNat (ρ 5).d) = bI (ρ 5).d := by rw [List.take_of_length_le (by omega)]
  have ht : List.take (ρ 11).i.toNat (ρ 13).d = (ρ 13).d := List.take_of_length_le (by omega)
  unfold i64P at hlim
  refine ⟨hk, fun w _ hw => ⟨fun hpos => ?_, fun hneg => ⟨fun h5 => ?_, fun h5 => ⟨fun h6 => ⟨by omega, fun hlg => ⟨⟨by rw [wrap64u]; omega, by rw [wrap64u]; omega⟩, fun l _ x _ hxl hxB hxv => ?_⟩, fun hlg => ⟨⟨by rw [wrap64u]; omega, by rw [wrap64u]; omega⟩, fun l _ x _ hxl hxB hxv => ?_⟩⟩, fun h6 => ?_⟩⟩⟩⟩
  · have h14 : 1 ≤ (ρ 7).i ∧ (ρ 7).i ≤ 4 := by
      by_cases e : 1 ≤ (ρ 7).i ∧ (ρ 7).i ≤ 4
      · exact e
      · rw [if_neg e] at hw; omega
    rw [if_pos h14] at hw
    have hw8 : w.i.toNat = 2 ^ ((ρ 7).i.toNat - 1) ∧ w.i ≤ 8 := by
      have h : (ρ 7).i = 1 ∨ (ρ 7).i = 2 ∨ (ρ 7).i = 3 ∨ (ρ 7).i = 4 := by omega
      rcases h with h | h | h | h <;> rw [h] at hw ⊢ <;> rw [hw] <;> decide
    refine ⟨⟨⟨v0, v1⟩, by omega, hw8.2⟩, fun l _ x _ hxl hxB hxv => ?_⟩
    have ha := opAdd_num (v := (ρ 8).i) (b := bI (ρ 13).d) h14.1 h14.2
    rw [← hw8.1] at ha
    have hxlen : x.d.length = w.i.toNat := by
      have := congrArg List.length hxv
      rw [bI_len, beL_len] at this; exact this
    have hs : ((beL (ρ 8).i w.i.toNat).length : Int) = l.i := by rw [beL_len]; omega
    have hx : bI (List.take l.i.toNat x.d) = beL (ρ 8).i w.i.toNat := by rw [List.take_of_length_le (by omega), hxv]
    have hBx : allB (List.take l.i.toNat x.d) := allB_tk hxB
    have hlong : opLong (ρ 7).i (bI (ρ 13).d) = false := opLong_no (by omega)
    have m : arithOf .add .i64 (ρ 3).i l.i = (ρ 3).i + l.i := by rw [Go.Proofs.add64 (by omega) (by omega)]
    exact ⟨fun hz => ⟨fun hb => ⟨hl, hB5, wrote_full ha (.inl hb)⟩, fun hb => ⟨by omega, by omega, fun h => ⟨hl, hB5, wrote_full ha (.inr (.inr (by rw [m] at h; rw [bI_len]; omega)))⟩, fun h => ⟨by omega, by omega, by omega, by omega, by rw [m] at h; omega, by omega, allB_app (allB_tk hB5) hBx, by rw [bI_app, hx, ht5]; exact wrote_fits ha hb hlong (by rw [m] at h; rw [bI_len]; omega)⟩⟩⟩, fun hz => ⟨fun hb => ⟨hl, hB5, wrote_full ha (.inl hb)⟩, fun hb => ⟨by omega, by omega, fun h => ⟨hl, hB5, wrote_full ha (.inr (.inr (by rw [m] at h; rw [bI_len]; omega)))⟩, fun h => ⟨by omega, by omega, by omega, by omega, by rw [m] at h; omega, by omega, allB_app (allB_tk hB5) hBx, by rw [bI_app, hx, ht5]; exact wrote_fits ha hb hlong (by rw [m] at h; rw [bI_len]; omega)⟩⟩⟩⟩
  · have ha : opAdd (ρ 7).i (ρ 8).i (bI (ρ 13).d) = some (bI (ρ 13).d) := by rw [h5]; exact opAdd_raw
    have hs : ((bI (ρ 13).d).length : Int) = (ρ 11).i := by omega
    have hx : bI (List.take (ρ 11).i.toNat (ρ 13).d) = bI (ρ 13).d := by rw [ht]
    have hBx : allB (List.take (ρ 11).i.toNat (ρ 13).d) := allB_tk hB
    have hlong : opLong (ρ 7).i (bI (ρ 13).d) = false := opLong_no (by omega)
    have m : arithOf .add .i64 (ρ 3).i (ρ 11).i = (ρ 3).i + (ρ 11).i := by rw [Go.Proofs.add64 (by omega) (by omega)]
    exact ⟨fun hz => ⟨fun hb => ⟨hl, hB5, wrote_full ha (.inl hb)⟩, fun hb => ⟨by omega, by omega, fun h => ⟨hl, hB5, wrote_full ha (.inr (.inr (by rw [m] at h; rw [bI_len]; omega)))⟩, fun h => ⟨by omega, by omega, by omega, by omega, by rw [m] at h; omega, by omega, allB_app (allB_tk hB5) hBx, by rw [bI_app, hx, ht5]; exact wrote_fits ha hb hlong (by rw [m] at h; rw [bI_len]; omega)⟩⟩⟩, fun hz => ⟨fun hb => ⟨hl, hB5, wrote_full ha (.inl hb)⟩, fun hb => ⟨by omega, by omega, fun h => ⟨hl, hB5, wrote_full ha (.inr (.inr (by rw [m] at h; rw [bI_len]; omega)))⟩, fun h => ⟨by omega, by omega, by omega, by omega, by rw [m] at h; omega, by omega, allB_app (allB_tk hB5) hBx, by rw [bI_app, hx, ht5]; exact wrote_fits ha hb hlong (by rw [m] at h; rw [bI_len]; omega)⟩⟩⟩⟩
  · have ha : opAdd (ρ 7).i (ρ 8).i (bI (ρ 13).d) = some (beL (bI (ρ 13).d).length 2 ++ bI (ρ 13).d) := by rw [h6]; exact opAdd_text
    have hlong : opLong (ρ 7).i (bI (ρ 13).d) = true := decide_eq_true ⟨h6, by omega⟩
    have hxlen : x.d.length = 2 := by
      have := congrArg List.length hxv
      rw [bI_len, beL_len] at this; exact this
    exact ⟨hxl, by omega, by omega, fun _ => ⟨hl, hB5, wrote_full ha (.inr (.inl hlong))⟩, fun _ => ⟨hl, hB5, wrote_full ha (.inr (.inl hlong))⟩⟩
  · have ha : opAdd (ρ 7).i (ρ 8).i (bI (ρ 13).d) = some (beL (bI (ρ 13).d).length 2 ++ bI (ρ 13).d) := by rw [h6]; exact opAdd_text
    have hlong : opLong (ρ 7).i (bI (ρ 13).d) = false := decide_eq_false fun e => by have := e.2; omega
    have hxlen : x.d.length = 2 := by
      have := congrArg List.length hxv
      rw [bI_len, beL_len] at this; exact this
    have hs : (((beL (bI (ρ 13).d).length 2 ++ bI (ρ 13).d).length : Nat) : Int) = l.i + (ρ 11).i := by rw [List.length_append, beL_len]; omega
    have hwv : IntKind.u64.wrap (ρ 11).i = ((bI (ρ 13).d).length : Int) := by rw [wrap64u]; omega
    have hx : bI (List.take (l.i + (ρ 11).i).toNat (x.d ++ List.take (ρ 11).i.toNat (ρ 13).d)) = beL (bI (ρ 13).d).length 2 ++ bI (ρ 13).d := by
      rw [ht, List.take_of_length_le (by rw [List.length_append]; omega), bI_app, hxv, hwv]
    have hBx : allB (List.take (l.i + (ρ 11).i).toNat (x.d ++ List.take (ρ 11).i.toNat (ρ 13).d)) := allB_tk (allB_app hxB (allB_tk hB))
    have m : arithOf .add .i64 (ρ 3).i (l.i + (ρ 11).i) = (ρ 3).i + (l.i + (ρ 11).i) := by rw [Go.Proofs.add64 (by omega) (by omega)]
    exact ⟨hxl, by omega, by omega, ⟨fun hz => ⟨fun hb => ⟨hl, hB5, wrote_full ha (.inl hb)⟩, fun hb => ⟨by omega, by omega, fun h => ⟨hl, hB5, wrote_full ha (.inr (.inr (by rw [m] at h; rw [bI_len]; omega)))⟩, fun h => ⟨by omega, by omega, by omega, by omega, by rw [m] at h; omega, by omega, allB_app (allB_tk hB5) hBx, by rw [bI_app, hx, ht5]; exact wrote_fits ha hb hlong (by rw [m] at h; rw [bI_len]; omega)⟩⟩⟩, fun hz => ⟨fun hb => ⟨hl, hB5, wrote_full ha (.inl hb)⟩, fun hb => ⟨by omega, by omega, fun h => ⟨hl, hB5, wrote_full ha (.inr (.inr (by rw [m] at h; rw [bI_len]; omega)))⟩, fun h => ⟨by omega, by omega, by omega, by omega, by rw [m] at h; omega, by omega, allB_app (allB_tk hB5) hBx, by rw [bI_app, hx, ht5]; exact wrote_fits ha hb hlong (by rw [m] at h; rw [bI_len]; omega)⟩⟩⟩⟩⟩
  · have h14 : ¬ (1 ≤ (ρ 7).i ∧ (ρ 7).i ≤ 4) := fun e => by
      rw [if_pos e] at hw
      have : 1 ≤ 2 ^ ((ρ 7).i.toNat - 1) := Nat.one_le_two_pow
      have h2 : ((2 : Int) ^ ((ρ 7).i.toNat - 1)) = ((2 ^ ((ρ 7).i.toNat - 1) : Nat) : Int) := (Int.natCast_pow 2 _).symm
      omega
    exact ⟨hl, hB5, by rw [wrote_none (opAdd_other h14 h5 h6)]⟩
theorem wrote_len {lim : Int} {f : Bool} {m b : List Int} {k v : Int} : (wrote lim f m k v b).2.length ≤ m.length + b.length + 8 := by
  unfold wrote
  split
  · show m.length ≤ _; omega
  · rename_i s hs
    have hsl : s.length ≤ b.length + 8 := by
      unfold opAdd at hs
      split at hs
      · rename_i h
        obtain rfl := Option.some.inj hs
        rw [beL_len]
        have h : k = 1 ∨ k = 2 ∨ k = 3 ∨ k = 4 := by omega
        rcases h with h | h | h | h <;> rw [h] <;> simp <;> omega
      · split at hs
        · obtain rfl := Option.some.inj hs; omega
        · split at hs
          · obtain rfl := Option.some.inj hs
            rw [List.length_append, beL_len]; omega
          · cases hs
    unfold wThen
    split
    · show m.length ≤ _; omega
    · show (m ++ s).length ≤ _
      rw [List.length_append]; omega
theorem lawWrites_ok (hk : knownC.ok Tryd.prog) : lawWritesC.ok Tryd.prog := lawWrites_of (by simp [hk, heavy_ok, newWriter_ok, writeOp_ok, wrote_ok, bytesJ_ok, lenW_ok]) fun ρ hg hp => by
  obtain ⟨hlim, ⟨hl, hl1, hop⟩, hGr, hGd⟩ := hp
  simp only [Nat.reduceAdd] at hl hl1 hop
  simp (config := { maxSteps := 2000000 }) [o_lawWrites, lawWritesC, lawWritesI, lawWritesJ, lwIn, lwHp, lwEnv, knownC, heavyC, newWriterC, writeOpC, wroteC, bytesJC, bytesC, lenWC, lawTrue, gOk, opsHp, outV, opV, wHeap, wCells]
  refine ⟨⟨hl, hl1, hop⟩, fun hv _ hhv => ⟨fun _ => ⟨hGr, hGd⟩, fun hvf => ?_⟩⟩
  obtain ⟨h200, _, h70⟩ := hhv hvf
  intro _ _ lim0 _ _ _ _ _ hlim0 _ _ _ _ _
  unfold i64P at hlim
  refine ⟨⟨by omega, h200, h70, hlim0, ⟨by omega, by omega, rfl, by omega, fun r hr => (by cases hr)⟩, fun r hr => (by cases hr)⟩, fun _ _ lm _ f _ _ _ n _ cp _ d _ _ _ _ _ sn _ _ _ sd _ i _ H _ g _ i0 i1 _ _ hlm hw hgf hsd hsn hsB hgrow => ⟨by omega, fun hlt => ?_, fun _ => ⟨hGr, hGd⟩⟩⟩
  obtain ⟨I, hI⟩ : ∃ I : Nat, i.i = I := ⟨i.i.toNat, by omega⟩
  obtain ⟨x, k1, x1, l1, hr, hxB, hox⟩ := op_at hop (j := I) (by omega)
  have h7 := h70 I (by omega)
  rw [hox, bI_len] at h7
  rw [← hI] at k1 x1 l1 hr
  have hsl : sd.d.length = d.d.length := by
    have := congrArg List.length hsd
    rw [bI_len, bI_len] at this; exact this
  have hn := hw.2.2.1
  refine ⟨i0, by omega, x, .inr hr, fun _ _ _ _ => ⟨⟨hw, k1, x1, by omega, by omega, hxB⟩, fun f2 _ _ _ n2 _ c2 _ d2 _ hw2 hwr2 => ⟨x, .inr hr, fun _ _ _ _ => ⟨⟨hlim, hsn, by omega, hsB, k1, x1, by omega, hxB⟩, fun f3 _ _ _ n3 _ _ _ d3 _ hn3 hB3 hwr3 => ?_⟩⟩⟩⟩
  have hn2 := hw2.2.2.1
  rw [← hlm, hgf, hsd, ← hwr2] at hwr3
  obtain ⟨hf3, hd3⟩ := Prod.mk.inj hwr3
  have hl3 : d3.d.length = d2.d.length := by
    have := congrArg List.length hd3
    rw [bI_len, bI_len] at this; exact this
  have hlen : d2.d.length ≤ d.d.length + x.length + 8 := by
    have := wrote_len (lim := lm.i) (f := f.b) (m := bI d.d) (b := bI x) (k := cellI (ρ 4).d i.i 0) (v := cellI (ρ 4).d i.i 1)
    rw [← hwr2, bI_len, bI_len, bI_len] at this
    exact this
  refine ⟨⟨hw2, by omega⟩, fun _ _ bn _ _ _ e _ bd _ hby => ⟨by omega, by omega, by omega, fun _ => ⟨?_, fun _ => ⟨fun ht => ⟨?_, fun he3 => ⟨⟨⟨i0, i1, h200, h70, hlm, hw2, hf3, hd3, hn3, hB3⟩, hlt, by omega, ?_, ?_, ?_⟩, fun _ _ lm4 _ f4 _ _ _ n4 _ c4 _ d4 _ _ _ _ _ sn4 _ _ _ sd4 _ i4 _ _ _ g4 _ _ _ b4 _ _ _ bd4 _ j _ a0 a1 _ _ a2 a3 a4 a5 a6 a7 a8 a9 a10 a11 a12 j0 j1 => ⟨by omega, fun hj => by
      have m1 : arithOf .add .i64 j.i 1 = j.i + 1 := by rw [Go.Proofs.add64 (by omega) (by omega)]
      rw [m1, putD_len]
      exact ⟨j0, by omega, ⟨⟨a0, a1, h200, h70, a2, a3, a4, a5, a6, a7⟩, a8, a9, a10, a11, a12, by omega, by omega⟩, by omega⟩, fun hj _ _ _ => by
      have m1 : arithOf .add .i64 i4.i 1 = i4.i + 1 := by rw [Go.Proofs.add64 (by omega) (by omega)]
      rw [m1]
      exact ⟨⟨⟨by omega, by omega, h200, h70, a2, a3, a4, a5, a6, a7⟩, by omega⟩, by omega⟩⟩⟩⟩, fun hf => ⟨?_, ?_, by omega, ?_, fun _ => ⟨⟨⟨i0, i1, h200, h70, hlm, hw2, hf3, hd3, hn3, hB3⟩, hlt, by omega, ?_, ?_, ?_⟩, fun _ _ lm4 _ f4 _ _ _ n4 _ c4 _ d4 _ _ _ _ _ sn4 _ _ _ sd4 _ i4 _ _ _ g4 _ _ _ b4 _ _ _ bd4 _ j _ a0 a1 _ _ a2 a3 a4 a5 a6 a7 a8 a9 a10 a11 a12 j0 j1 => ⟨by omega, fun hj => by
      have m1 : arithOf .add .i64 j.i 1 = j.i + 1 := by rw [Go.Proofs.add64 (by omega) (by omega)]
      rw [m1, putD_len]
      exact ⟨j0, by omega, ⟨⟨a0, a1, h200, h70, a2, a3, a4, a5, a6, a7⟩, a8, a9, a10, a11, a12, by omega, by omega⟩, by omega⟩, fun hj _ _ _ => by
      have m1 : arithOf .add .i64 i4.i 1 = i4.i + 1 := by rw [Go.Proofs.add64 (by omega) (by omega)]
      rw [m1]
      exact ⟨⟨⟨by omega, by omega, h200, h70, a2, a3, a4, a5, a6, a7⟩, by omega⟩, by omega⟩⟩⟩⟩⟩⟩⟩⟩
  · rcases hby with ⟨ha, hb, hc, hd⟩ | ⟨ha, hb, hc, hd⟩
    · rw [hf3, ha, hb]; decide
    · rw [hf3, ha, hb]; decide
  · rcases hby with ⟨ha, hb, hc, hd⟩ | ⟨ha, hb, hc, hd⟩
    · exact hb
    · rw [hf3, ha] at ht; cases ht
  · rcases hby with ⟨ha, hb, hc, hd⟩ | ⟨ha, hb, hc, hd⟩
    · rw [hc, hd]; rfl
    · rw [hc, hd]; omega
  · rcases hby with ⟨ha, hb, hc, hd⟩ | ⟨ha, hb, hc, hd⟩ <;> omega
  · rcases hby with ⟨ha, hb, hc, hd⟩ | ⟨ha, hb, hc, hd⟩ <;> omega
  · rcases hby with ⟨ha, hb, hc, hd⟩ | ⟨ha, hb, hc, hd⟩ <;> omega
  · rcases hby with ⟨ha, hb, hc, hd⟩ | ⟨ha, hb, hc, hd⟩
    · rw [hf3, ha] at hf; cases hf
    · rw [hc, hd]; omega
  · rcases hby with ⟨ha, hb, hc, hd⟩ | ⟨ha, hb, hc, hd⟩
    · rw [hf3, ha] at hf; cases hf
    · rw [hd, List.take_of_length_le (by omega), List.take_of_length_le (by omega), bytesOf_bI, bytesOf_bI, hd3]
  · rcases hby with ⟨ha, hb, hc, hd⟩ | ⟨ha, hb, hc, hd⟩
    · rw [hc, hd]; rfl
    · rw [hc, hd]; omega
  · rcases hby with ⟨ha, hb, hc, hd⟩ | ⟨ha, hb, hc, hd⟩ <;> omega
  · rcases hby with ⟨ha, hb, hc, hd⟩ | ⟨ha, hb, hc, hd⟩ <;> omega
end Go.Proofs

set_option linter.unusedSimpArgs false
set_option linter.unusedVariables false
namespace Go.Eng
open Go Go.ChangeShapes Go.WideShapes Go.ChangeAt Go.RowKit

/-- Of what was there nothing has turned. -/
structure Grew (W w' : World) : Prop where
  os : w'.os = W.os
  out : w'.output = W.output
  blk : ∀ (b : Nat) (o : Obj), W.heap[b]? = some o → w'.heap[b]? = some o

theorem Grew.block {W w' : World} (h : Grew W w') {i : Nat} (hi : i < W.heap.size) : w'.heap[i]? = W.heap[i]? := by
  rw [Array.getElem?_eq_getElem hi]; exact h.blk i _ (Array.getElem?_eq_getElem hi)

theorem Grew.kept {W w' : World} (h : Grew W w') (may : MemPlace → Prop) : W.keptBut w' may := by
  refine ⟨h.os, h.out, fun i hi => ?_⟩
  rw [h.block hi, Array.getElem?_eq_getElem hi]
  cases W.heap[i] <;> simp

theorem Grew.trodAll {H : Type} {enc : TypeId × Value → H} {P : Program} {W W' : World} (hg : Grew W W') (hl : laidOutB P = true) {sp : Nat → Bool} : ∀ {ts : List TypeId} {vs : List Value} {ds : List (DataW H)} {ps : List MemPlace},
    (∀ t ∈ ts, P.readableRec t = true ∧ t < P.types.size) → DataW.TrodAll enc P W 0 (fun _ => true) true ts vs ds ps → (∀ p ∈ ps, p.block < W.heap.size) → (∀ p ∈ ps, sp p.block = true) →
    DataW.TrodAll enc P W' 0 sp true ts vs ds ps
  | [], [], [], _, _, h, _, _ => h
  | _ :: _, _ :: _, _ :: _, _, hT, ⟨p, q, h1, h2, e⟩, hlt, hs => by
    subst e
    refine ⟨p, q, ?_, Grew.trodAll hg hl (fun t ht => hT t (List.mem_cons_of_mem _ ht)) h2 (fun x hx => hlt x (List.mem_append_right _ hx)) (fun x hx => hs x (List.mem_append_right _ hx)), rfl⟩
    have hr := hT _ (List.mem_cons_self ..)
    refine WideElems.Trod_stays hl hr.1 hr.2 h1 (fun x hx => ?_) (fun x hx => hs x (List.mem_append_left _ hx))
    have hb := hg.block (hlt x (List.mem_append_left _ hx))
    cases x with
    | cell b o => exact World.cell?_of_block (w := W) hb
    | map b => exact hb

/-- The call's contract, at the whole memory as its frame. -/
theorem law_calls {P : Program} {c : Ctr} (hok : c.ok P) (hheap : c.heap = []) (halts : ∀ al ∈ c.alts, al.ret = .one (.vbool (.bl true))) {ρ : Env} (hg : ρ.good) (W : World)
    (hro : ∀ x ∈ c.ro, x.roden ρ (fun b => W.heap[b]?)) (hpre : c.pre ρ) :
    Calls P c.fn (c.args.map (SV.den ρ)).toArray W fun e W' => e = .returned (.bool true) ∧ Grew W W' := by
  have h := hok.2 ρ W ⟨fun b => W.heap[b]?, W.os, W.output⟩ Hp.emp hg (Hp.disj_emp _)
    ⟨fun b o hb => by simpa [Hp.union, Hp.emp] using hb, rfl, rfl⟩ (by rw [hheap]; trivial) hro hpre
  refine h.mono fun e w' hq => ?_
  obtain ⟨ai, al, ρ', hal, _, _, rfl, _, hO, _, _, hsub, hwi⟩ := hq
  refine ⟨by rw [halts al (List.mem_of_getElem? hal)]; rfl, ⟨hwi.1, hwi.2, fun b o hb => hsub b o ?_⟩⟩
  simp [Hp.union, hb]

theorem law_post {H : Type} {enc : TypeId × Value → H} {P : Program} {f : Func} {s : ChangeSpec} {W W' : World} {args : Array Value} {ds gs : List (DataW H)} {before : List MemPlace} {bt : TypeId}
    (hl : laidOutB P = true) (hT : ∀ t ∈ f.params.toList, P.readableRec t = true ∧ t < P.types.size) (hvars : s.vars = []) (hrt : f.resultTypes = #[bt]) (hbt : P.underlying bt = some .bool)
    (hfn : ∀ ds' : List (DataW H), ds'.length = f.params.size → s.fn H ds' = { results := [.lit (.bool true)], args := ds' })
    (hW : DataW.Whole enc P f.params.toList s.vars false W args.toList ds gs before) (hg : Grew W W') : s.post enc P f false true false false W args (.bool true) W' := by
  have hlt := hW.lt
  have hW0 := hW
  obtain ⟨p, q, hA, hV, hpq, hz, hn⟩ := hW
  rw [hvars] at hV
  obtain ⟨rfl, rfl⟩ := trodVars_none hV
  have hlen : ds.length = f.params.size := by
    have : ∀ {ts : List TypeId} {vs : List Value} {ds : List (DataW H)} {ps : List MemPlace}, DataW.TrodAll enc P W 0 (fun _ => true) true ts vs ds ps → ds.length = ts.length := by
      intro ts
      induction ts with
      | nil => intro vs ds ps h; cases vs <;> cases ds <;> simp_all [DataW.TrodAll]
      | cons t ts ih =>
        intro vs ds ps h
        cases vs <;> cases ds <;> simp_all [DataW.TrodAll]
        obtain ⟨p, q, _, h2, _⟩ := h
        exact ih h2
    simpa using this hA
  have hlt' : ∀ x ∈ p, x.block < W.heap.size := fun x hx => hlt x (by rw [hpq]; exact List.mem_append_left _ hx)
  refine ⟨ds, [], before, [], p, [], hW0, ?_, ?_, ?_, hg.kept _, fun h => by cases h⟩
  · rw [List.append_nil, hfn ds hlen, hrt]
    exact ⟨[], [], ⟨1, by simp [DataW.trod, hbt, Value.cells]⟩, rfl, rfl⟩
  · rw [List.append_nil, hfn ds hlen]
    exact hg.trodAll hl hT hA hlt' (fun x hx => by simpa using hlt' x hx)
  · rw [List.append_nil, hfn ds hlen, hvars]
    rfl

/-- What is asked of a law's call. -/
theorem law_call {H : Type} {enc : TypeId × Value → H} {P : Program} {f : Func} {s : ChangeSpec} {c : Ctr} {W : World} {args : Array Value} {ds gs : List (DataW H)} {before : List MemPlace} {bt : TypeId} {ρ : Env}
    (hok : c.ok P) (hheap : c.heap = []) (halts : ∀ al ∈ c.alts, al.ret = .one (.vbool (.bl true)))
    (hl : laidOutB P = true) (hT : ∀ t ∈ f.params.toList, P.readableRec t = true ∧ t < P.types.size) (hvars : s.vars = []) (hrt : f.resultTypes = #[bt]) (hbt : P.underlying bt = some .bool)
    (hfn : ∀ ds' : List (DataW H), ds'.length = f.params.size → s.fn H ds' = { results := [.lit (.bool true)], args := ds' })
    (hW : DataW.Whole enc P f.params.toList s.vars false W args.toList ds gs before)
    (hg : ρ.good) (hargs : args = (c.args.map (SV.den ρ)).toArray) (hro : ∀ x ∈ c.ro, x.roden ρ (fun b => W.heap[b]?)) (hpre : c.pre ρ) :
    Calls P c.fn args W fun e W' => ∃ v, e = .returned v ∧ s.post enc P f false true false false W args v W' := by
  rw [hargs]
  refine (law_calls hok hheap halts hg W hro hpre).mono fun e W' ⟨he, hgr⟩ => ⟨_, he, ?_⟩
  rw [← hargs]
  exact law_post hl hT hvars hrt hbt hfn hW hgr
end Go.Eng

set_option linter.unusedSimpArgs false
set_option linter.unusedVariables false
namespace Go.Eng
open Go Go.ChangeShapes Go.WideShapes Go.ChangeAt Go.RowKit

def patFs (P : Program) (f : TypeId → Option (List CK)) : List Field → Nat → Option (List CK)
  | [], _ => some []
  | x :: fs, off =>
    if Nat.beq x.offset off then
      match f x.type with
      | some p => if Nat.beq p.length (P.cellsOf x.type) then (patFs P f fs (off + p.length)).map (p ++ ·) else none
      | none => none
    else none
def patArr (p : List CK) : Nat → List CK
  | 0 => []
  | n + 1 => p ++ patArr p n
/-- The kinds of a type's cells. -/
def patP (P : Program) : Nat → TypeId → Option (List CK)
  | 0, _ => none
  | n + 1, t =>
    match P.underlying t with
    | some (.int k) => some [.int k]
    | some .bool => some [.bool]
    | some .string => some [.any]
    | some (.slice _) => some [.any]
    | some (.pointer _) => some [.any]
    | some (.struct fs) => match patFs P (patP P n) fs.toList 0 with
      | some p => if Nat.beq p.length (P.cellsOf t) then some p else none
      | none => none
    | some (.array m e) => match patP P n e with
      | some p => if Nat.beq p.length (P.cellsOf e) && Nat.beq (P.cellsOf t) (m * P.cellsOf e) then some (patArr p m) else none
      | none => none
    | _ => none

theorem fitsRow_append {p q : List CK} {cs : List Value} (h1 : fitsRow p (cs.take p.length)) (h2 : fitsRow q (cs.drop p.length)) : fitsRow (p ++ q) cs := by
  obtain ⟨a1, a2⟩ := h1
  obtain ⟨b1, b2⟩ := h2
  have hle : p.length ≤ cs.length := by simp at a1; omega
  refine ⟨by simp at a1 b1 ⊢; omega, fun c k v hk hv => ?_⟩
  by_cases hc : c < p.length
  · rw [List.getElem?_append_left hc] at hk
    exact a2 c k v hk (by rw [List.getElem?_take, if_pos hc]; exact hv)
  · rw [List.getElem?_append_right (by omega)] at hk
    exact b2 (c - p.length) k v hk (by rw [List.getElem?_drop, show p.length + (c - p.length) = c by omega]; exact hv)

section
variable {H : Type} {enc : TypeId × Value → H} {P : Program} {w : World} {base : Nat} {spare : Nat → Bool} {held : Bool}

theorem fits_one_any {v : Value} (h : v.oneCell' = true) : fitsRow [.any] [v] := ⟨rfl, fun c k v' hk hv => by
  cases c with
  | zero => simp at hk hv; subst hk; subst hv; exact h
  | succ c => simp at hk⟩

theorem patFs_fits {f : TypeId → Option (List CK)} {cs : List Value} (hf : ∀ t p, f t = some p → ∀ cs', (∃ fuel x, DataW.trod enc P w base spare held fuel t cs' = some x) → fitsRow p cs') :
    ∀ {fs : List Field} {off : Nat} {p : List CK}, patFs P f fs off = some p → (∀ x ∈ fs, ∃ fuel y, DataW.trod enc P w base spare held fuel x.type ((cs.drop x.offset).take (P.cellsOf x.type)) = some y) → off + p.length = cs.length → fitsRow p (cs.drop off)
  | [], off, p, h, _, hl => by
    simp only [patFs, Option.some.injEq] at h; subst h
    simp at hl
    refine ⟨by simp; omega, fun c k v hk => by simp at hk⟩
  | x :: fs, off, p, h, ht, hl => by
    simp only [patFs] at h
    split at h
    · rename_i ho
      have ho := Nat.eq_of_beq_eq_true ho
      split at h
      · rename_i p1 hp1
        split at h
        · rename_i hc
          have hc := Nat.eq_of_beq_eq_true hc
          simp only [Option.map_eq_some_iff] at h
          obtain ⟨p2, hp2, rfl⟩ := h
          simp only [List.length_append] at hl
          have h1 := hf x.type p1 hp1 _ (ht x (List.mem_cons_self ..))
          rw [ho, ← hc] at h1
          have h2 := patFs_fits hf hp2 (fun y hy => ht y (List.mem_cons_of_mem _ hy)) (by omega)
          exact fitsRow_append h1 (by rw [List.drop_drop]; exact h2)
        · simp at h
      · simp at h
    · simp at h

theorem patArr_fits {p : List CK} : ∀ {m : Nat} {cs : List Value}, cs.length = m * p.length → (∀ i, i < m → fitsRow p ((cs.drop (i * p.length)).take p.length)) → fitsRow (patArr p m) cs
  | 0, cs, hl, _ => by
    simp at hl; subst hl
    exact ⟨rfl, fun c k v hk => by simp [patArr] at hk⟩
  | m + 1, cs, hl, h => by
    simp only [patArr]
    refine fitsRow_append (by simpa using h 0 (by omega)) (patArr_fits (by rw [List.length_drop, hl, Nat.add_mul]; omega) fun i hi => ?_)
    rw [List.drop_drop, show p.length + i * p.length = (i + 1) * p.length by rw [Nat.add_mul]; omega]
    exact h (i + 1) (by omega)

theorem trod_fits : ∀ (n : Nat) {t : TypeId} {pat : List CK}, patP P n t = some pat → ∀ cs, (∃ fuel x, DataW.trod enc P w base spare held fuel t cs = some x) → fitsRow pat cs
  | 0, t, pat, h, _, _ => by simp [patP] at h
  | n + 1, t, pat, h, cs, ⟨fuel, x, hx⟩ => by
    simp only [patP] at h
    split at h
    · rename_i k hu
      simp only [Option.some.injEq] at h; subst h
      obtain ⟨z, rfl, _, _⟩ := DataW.trod_int hu hx
      refine ⟨rfl, fun c k' v hk hv => ?_⟩
      cases c with
      | zero => simp at hk hv; subst hk; subst hv; simp [CK.fits]
      | succ c => simp at hk
    · rename_i hu
      simp only [Option.some.injEq] at h; subst h
      cases fuel with
      | zero => simp [DataW.trod] at hx
      | succ m =>
        unfold DataW.trod at hx
        rw [hu] at hx
        split at hx <;> simp_all
        refine ⟨rfl, fun c k' v hk hv => ?_⟩
        cases c with
        | zero => simp at hk hv; subst hk; subst hv; simp [CK.fits]
        | succ c => simp at hk
    · rename_i hu
      simp only [Option.some.injEq] at h; subst h
      cases fuel with
      | zero => simp [DataW.trod] at hx
      | succ m =>
        unfold DataW.trod at hx
        rw [hu] at hx
        split at hx <;> simp_all
        exact fits_one_any rfl
    · rename_i e hu
      simp only [Option.some.injEq] at h; subst h
      rcases DataW.trod_slice hu hx with ⟨rfl, _⟩ | ⟨a, len, cap, elems, rest, m, _, rfl, _⟩
      · exact fits_one_any rfl
      · exact fits_one_any rfl
    · rename_i e hu
      simp only [Option.some.injEq] at h; subst h
      cases fuel with
      | zero => simp [DataW.trod] at hx
      | succ m =>
        unfold DataW.trod at hx
        rw [hu] at hx
        split at hx <;> simp_all
        all_goals exact fits_one_any rfl
    · rename_i fs hu
      split at h
      · rename_i p hp
        split at h
        · rename_i hc
          have hc := Nat.eq_of_beq_eq_true hc
          simp only [Option.some.injEq] at h; subst h
          obtain ⟨xs, m, _, _, hl, hxl, hall⟩ := DataW.trod_struct hu hx
          have := patFs_fits (cs := cs) (f := patP P n) (fun t p hp cs' hh => trod_fits n hp cs' hh) hp (fun y hy => by
            obtain ⟨i, hi⟩ := List.getElem?_of_mem hy
            have hi' : fs[i]? = some y := by simpa using hi
            have h1 := hall i y hi'
            have hlt : i < xs.length := by
              rw [hxl]; exact (Array.getElem?_eq_some_iff.1 hi').1
            exact ⟨m, xs[i], by rw [h1]; simp [hlt]⟩) (by omega)
          simpa using this
        · simp at h
      · simp at h
    · rename_i m e hu
      split at h
      · rename_i p hp
        split at h
        · rename_i hc
          simp only [Bool.and_eq_true] at hc
          have hc1 := Nat.eq_of_beq_eq_true hc.1
          have hc2 := Nat.eq_of_beq_eq_true hc.2
          simp only [Option.some.injEq] at h; subst h
          obtain ⟨xs, k, _, _, hl, hxl, hall⟩ := DataW.trod_array hu hx
          refine patArr_fits (by rw [hl, hc2, hc1]) fun i hi => ?_
          have h1 := hall i hi
          rw [← hc1] at h1
          exact trod_fits n hp _ ⟨k, xs[i]'(by omega), by rw [h1]; simp [hxl, hi]⟩
        · simp at h
      · simp at h
    · simp at h

theorem cells?_get {a : Addr} {n : Nat} {cs : List Value} (h : w.cells? base a n = some cs) : cs.length = n ∧ ∀ i, i < n → w.cell? (a.add i) = cs[i]? := by
  unfold World.cells? at h
  split at h
  · exact ⟨by simpa using mapM_some_length h, fun i hi => by simpa using mapM_some_get h i i (by simp [hi])⟩
  · simp at h

/-- A slice that reads as data: its rows in memory, each of which reads; what it is read as. -/
theorem open_rows {t e : TypeId} {pat : List CK} {n : Nat} {v : Value} {d : DataW H} {ps : List MemPlace} (ht : P.underlying t = some (.slice e)) (hpat : patP P n e = some pat) (hce : P.cellsOf e = pat.length) (hpos : 0 < pat.length)
    {fuel : Nat} (hsp : ∀ b, spare b = true) (hf : DataW.trod enc P w base spare held fuel t [v] = some (d, ps)) :
    ∃ rows : List (List Value), Rd (fun b => w.heap[b]?) pat v rows ∧ (∀ row ∈ rows, ∃ fuel x, DataW.trod enc P w base spare held fuel e row = some x) ∧
      ((d = .nil ∧ rows = []) ∨ ∃ elems sp, d = .slice elems sp ∧ elems.length = rows.length ∧ ∀ (i : Nat) (row : List Value), rows[i]? = some row → ∃ fuel x, DataW.trod enc P w base spare held fuel e row = some x ∧ elems[i]? = some x.1) := by
  rcases DataW.trod_slice ht hf with ⟨h1, h2⟩ | ⟨a, len, cap, elems, rest, m, _, h1, h2, hb, hlc, hcm, hel, hall, hrest, _⟩
  · simp at h1 h2
    exact ⟨[], .inl ⟨_, h1, rfl⟩, by simp, .inl ⟨h2.1, rfl⟩⟩
  · simp at h1 h2
    subst h1
    have hrow : ∀ i, i < len → ∃ cs x, w.cells? base (a.add (i * P.cellsOf e)) (P.cellsOf e) = some cs ∧ DataW.trod enc P w base spare held m e cs = some x ∧ elems[i]? = some x := fun i hi => by
      have := hall i hi
      rw [List.getElem?_eq_getElem (by omega)] at this
      obtain ⟨cs, g1, g2⟩ := Option.bind_eq_some_iff.1 this
      exact ⟨cs, _, g1, g2, List.getElem?_eq_getElem _⟩
    let rows : List (List Value) := (List.range len).map fun i => ((w.cells? base (a.add (i * P.cellsOf e)) (P.cellsOf e)).getD [])
    have hget : ∀ i row, rows[i]? = some row → i < len ∧ w.cells? base (a.add (i * P.cellsOf e)) (P.cellsOf e) = some row := fun i row hr => by
      simp only [rows, List.getElem?_map, Option.map_eq_some_iff] at hr
      obtain ⟨j, hj, rfl⟩ := hr
      have hlt : i < len := by
        have := (List.getElem?_eq_some_iff.1 hj).1; simpa using this
      rw [List.getElem?_range hlt] at hj
      simp only [Option.some.injEq] at hj; subst hj
      obtain ⟨cs, x, g1, _, _⟩ := hrow i hlt
      exact ⟨hlt, by rw [g1]; rfl⟩
    have hrl : rows.length = len := by simp [rows]
    have htr : ∀ row ∈ rows, ∃ fuel x, DataW.trod enc P w base spare held fuel e row = some x := fun row hr => by
      obtain ⟨i, hi⟩ := List.getElem?_of_mem hr
      obtain ⟨hlt, hc⟩ := hget i row hi
      obtain ⟨cs, x, g1, g2, _⟩ := hrow i hlt
      rw [hc] at g1
      simp only [Option.some.injEq] at g1; subst g1
      exact ⟨m, x, g2⟩
    refine ⟨rows, ?_, htr, .inr ⟨_, _, h2.1, by simp [hel, hrl], fun i row hi => ?_⟩⟩
    rotate_left
    · obtain ⟨hlt, hc⟩ := hget i row hi
      obtain ⟨cs, x, g1, g2, g3⟩ := hrow i hlt
      rw [hc] at g1
      simp only [Option.some.injEq] at g1; subst g1
      exact ⟨m, x, g2, by simp [g3]⟩
    by_cases hcap : cap = 0
    · have hl0 : len = 0 := by omega
      have : rows = [] := by apply List.eq_nil_of_length_eq_zero; omega
      exact .inl ⟨some a, by rw [hl0, hcap], this⟩
    have hfirst : ∃ cs, w.cells? base (a.add 0) (P.cellsOf e) = some cs := by
      by_cases hl : 0 < len
      · obtain ⟨cs, _, g1, _, _⟩ := hrow 0 hl
        rw [Nat.zero_mul] at g1
        exact ⟨cs, g1⟩
      · obtain ⟨r1, r2⟩ := hrest (hsp _)
        have := r2 0 (by omega)
        rw [show (len + 0) * P.cellsOf e = 0 by rw [show len + 0 = 0 by omega]; simp, List.getElem?_eq_getElem (by omega)] at this
        obtain ⟨cs, g1, _⟩ := Option.bind_eq_some_iff.1 this
        exact ⟨cs, g1⟩
    obtain ⟨cs0, hc0⟩ := hfirst
    obtain ⟨hl0, hg0⟩ := cells?_get hc0
    have h00 := hg0 0 (by omega)
    rw [show (a.add 0).add 0 = a from rfl, List.getElem?_eq_getElem (by omega)] at h00
    obtain ⟨ab, ao, asp⟩ := a
    have hblk0 := h00
    unfold World.cell? at hblk0
    split at hblk0
    · rename_i c ty fr hblk
      simp only at hblk
      have hsp0 : asp = none := by
        cases asp with
        | none => rfl
        | some s => simp at hblk0
      subst hsp0
      refine .inr ⟨ab, ao, cap, c, ty, fr, by rw [hrl], by omega, hblk, fun i row hi => ?_⟩
      obtain ⟨hlt, hc⟩ := hget i row hi
      refine ⟨trod_fits n hpat row (htr row (List.mem_of_getElem? hi)), fun k x hk => ?_⟩
      obtain ⟨hl1, hg⟩ := cells?_get hc
      have hkl : k < P.cellsOf e := by
        rw [← hl1]; exact (List.getElem?_eq_some_iff.1 hk).1
      have := hg k hkl
      rw [hk, hce] at this
      rw [Go.Eng.addr_add, Go.Eng.addr_add, cell_of_heap hblk] at this
      exact this
    · simp at hblk0
end

/-- What the form says of a slice argument: it lies at a block that is there. -/
theorem okWide_slice {P : Program} {w : World} {r : Go.Reach} {b : Nat} {t e : TypeId} {v : Value} (ht : P.underlying t = some (.slice e)) (h : Value.okWide P w r b t v) :
    v.cells = #[v] ∧ ∀ a len cap, v = .slice (some a) len cap → a.spot = none ∧ (w.shape? a.block).isSome = true := by
  simp only [Value.okWide, ht, Cell.okWide, Cell.ok] at h
  cases v <;> simp_all [Value.cells]
  rename_i a len cap
  intro a' ha
  subst ha
  obtain ⟨_, _, _, h1, row, cells, h2, _⟩ := h
  exact ⟨h1, by rw [h2]; rfl⟩
end Go.Eng
