/- Texts DT, BT, BU, BV, BW, BX, BY, CA, CB, CC, CD, CE, CF, CG, CH, CI, CK, YA, CL, CM, ZLq, YF, W1, W2, W3, WD, CN, CO, YB, ZSq, YC, CP, W4, WC, YD, YE, YG, YK, W5, W6, YM, YR, CQ. -/
import Derived.Test.YtelcnkclppkicaaDoorG8
import Derived.Test.YtelcnkclppkicaaDoorG7
import Derived.Test.YtelcnkclppkicaaDoorG6
import Derived.Test.YtelcnkclppkicaaDoorProg
import Derived.Test.YtelcnkclppkicaaDoorG5
set_option linter.unusedSimpArgs false
set_option linter.unusedVariables false
namespace Go.Proofs
open Go Go.Eng
theorem sha_allM (m : List Int) : allM (sha m) := fun x hx => by
  obtain ⟨j, _, rfl⟩ := List.mem_map.1 hx
  omega
theorem sha_hex : hexL (sha [97, 98, 99]) = [98, 97, 55, 56, 49, 54, 98, 102, 56, 102, 48, 49, 99, 102, 101, 97, 52, 49, 52, 49, 52, 48, 100, 101, 53, 100, 97, 101, 50, 50, 50, 51, 98, 48, 48, 51, 54, 49, 97, 51, 57, 54, 49, 55, 55, 97, 57, 99, 98, 52, 49, 48, 102, 102, 54, 49, 102, 50, 48, 48, 49, 53, 97, 100] := by
  rw [sha_abc]; decide +kernel
theorem crc_known : ofW (crcF [49, 50, 51, 52, 53, 54, 55, 56, 57]) = 3808858755 := by decide +kernel
set_option maxRecDepth 100000 in
theorem top23 : (topE 2 3).2.2 = 2 := by kernel_rfl
theorem head23 : ∀ o : List Int, manHead 2 3 3 2 o = [77, 1, 2, 3, 3, 0, 2] ++ o := fun o => by
  have h1 : beL 19713 2 = [77, 1] := by decide
  have h2 : beL (2 % 256) 1 = [2] := by decide
  have h3 : beL (3 % 256) 1 = [3] := by decide
  have h4 : beL (2 % 65536) 2 = [0, 2] := by decide
  rw [manHead, h1, h2, h3, h4]; rfl
theorem madeAt_len {f : Nat → List Int} {n : Nat} : (madeAt f n).length = n := by simp [madeAt]
theorem bytesOf_bI {d : Rows'} : bytesOf d = (bI d).map fun x => UInt8.ofNat x.toNat := by simp [bytesOf, bI, rowI]
theorem pieceN_len {g full : List Int} {k l i : Nat} : ∀ j, (pieceN g full k l i j).length = l
  | 0 => by simp [pieceN]
  | j + 1 => by rw [pieceN, addToL_len, pieceN_len j]
theorem encP_len {k total : Nat} {data : List Int} {i : Nat} : (encP k total data i).length = pieceLen k data.length := pieceN_len k
theorem dgs_snoc {d : Rows'} {r : List Value} : dgs (d ++ [r]) = dgs d ++ [rowB r] := by simp [dgs]
theorem madeAt_snoc {f : Nat → List Int} {n : Nat} : madeAt f (n + 1) = madeAt f n ++ [sha (pieceIn n ++ f n)] := by simp [madeAt, List.range_succ]
theorem rowB_dg {d : Rows'} : rowB (dgCells (cellX d)) = rowL d 32 := rfl
set_option maxRecDepth 20000 in
set_option maxHeartbeats 1600000 in
theorem make_ok : makeC.ok Tryd.prog := make_of (by simp [sizes3_ok, encode31_ok, sha256_ok, pieceDg_ok]) fun ρ hg hp => by
  obtain ⟨hf, hl, hlc, hB, ⟨hGr, hGd⟩, htop⟩ := hp
  simp (config := { maxSteps := 2000000 }) [o_make, makeC, makeI, sizes3C, encode31C, sha256C, pieceDgC, gOk, bytesIn]
  have hnn := fieldD_ne hf
  refine fun u _ => ⟨fun h => absurd h hnn.1, fun _ b _ hb => ⟨fun hz => ⟨hf, by rw [← hb]; exact hz⟩, fun hz => ?_⟩⟩
  rw [hz] at hb
  have hs3 := hb.symm
  have hs3' := hs3
  simp [sizes3] at hs3'
  obtain ⟨b1, b2, b3, b4⟩ := hs3'
  have hsB : sizesB (ρ 2).i (ρ 4).i = true := by simp [sizesB]; omega
  have hsz : sizesB (ρ 2).i (ρ 4).i = false → False := fun h => by rw [hsB] at h; cases h
  refine ⟨⟨hf, hl, hB, htop⟩, fun e _ f _ hf2 he => ⟨fun hne => ⟨hf2, ?_⟩, fun hz2 => ?_⟩, fun _ _ _ _ f _ P _ ab _ hf2 _ hle hPl hE => ⟨by omega, ⟨⟨by omega, hlc, by omega, by omega, hB⟩, hGr, hGd⟩, fun o _ ho _ _ => ⟨by omega, ⟨hf2, hs3, hle, by omega, hPl, hE, ?_, ?_, ?_⟩, fun _ _ _ _ _ _ o2 _ _ _ t _ _ _ Ds _ P2 _ _ _ f2 _ ab2 _ hf3 _ _ t0 t1 hPl2 hE2 ho2 hDl hDo hDm => ⟨fun hlt => ?_, fun hge => ?_⟩⟩⟩⟩
  · rcases he with ⟨h, _⟩ | ⟨_, h1, h2⟩
    · exact (hsz h).elim
    · exact .inr ⟨hs3, h1, h2⟩
  · rcases he with ⟨h, _⟩ | ⟨_, h1, h2⟩
    · exact (hsz h).elim
    · omega
  · rw [segB_all hl] at ho
    exact ho
  · intro r hr; cases hr
  · rfl
  · obtain ⟨T, hT⟩ : ∃ T : Nat, t.i = T := ⟨t.i.toNat, by omega⟩
    have m1 : arithOf .add .i64 t.i 1 = ((T + 1 : Nat) : Int) := by rw [add64 (by omega) (by omega)]; omega
    obtain ⟨v, d, e1, e2, e3, e4⟩ := hE2 T (by omega)
    have hcv : cellV P2.d t.i 1 = v := by rw [hT]; simp [cellV, e1]
    have hci : cellI P2.d t.i 0 = (T : Int) := by rw [hT]; simp [cellI, cellV, e1, vInt]
    rw [m1, hcv, hci]
    have hdl : d.length ≤ (ρ 8).d.length := by
      have h1 := congrArg List.length e3
      rw [bI_len, encP_len, bI_len] at h1
      have := pieceLen_le (k := (ρ 2).i.toNat) (n := (ρ 8).d.length) (by omega)
      omega
    refine ⟨by omega, by omega, fun _ _ => ⟨d, e2, fun r0 _ c1 _ hv hcl => ⟨⟨hcl, by omega, e4, hGr, hGd⟩, fun g _ hg2 _ _ => ⟨by omega, by omega, fun _ _ _ _ ab3 _ hst => ⟨by omega, ⟨hf3, hs3, hle, by omega, by omega, hPl2, ?_, ho2, by omega, ?_, ?_⟩, by omega⟩⟩⟩⟩⟩
    · obtain ⟨hb2, lb, db⟩ := star_mem_abs hst (n := 32) (t := 2) (by simp)
      exact encAt_mono hE2 (Hp.le_trans (by simpa using db) lb)
    · intro r hr
      rcases List.mem_append.1 hr with hr | hr
      · exact hDo r hr
      · obtain rfl := List.mem_singleton.1 hr
        refine ⟨rfl, ?_⟩
        have : allM (rowL g.d 32) := by rw [hg2]; exact sha_allM _
        exact this
    · have hh : dgs (Ds.d ++ [dgCells (cellX g.d)]) = madeAt (encP (ρ 2).i.toNat (ρ 4).i.toNat (bI (ρ 8).d)) (T + 1) := by
        rw [dgs_snoc, rowB_dg, hg2, segB_all rfl, e3, hDm, hT, Int.toNat_natCast, madeAt_snoc]
      exact hh
  · have ht : t.i = (ρ 4).i := by omega
    refine fun ab3 _ hst => ⟨by omega, hf3, hs3, hle, hPl2, ?_, ho2, hDo, by rw [hDm, ht]⟩
    obtain ⟨hb2, lb, db⟩ := star_mem_abs hst (n := 32) (t := 2) (by simp)
    exact encAt_mono hE2 (Hp.le_trans (by simpa using db) lb)
set_option maxRecDepth 20000 in
theorem known_ok : knownC.ok Tryd.prog := known_of (by simp [sha256_ok, hex_ok, crc_ok, newField_ok, make_ok, encMan_ok]) fun ρ hg hp => by
  obtain ⟨hGr, hGd⟩ := hp
  simp (config := { maxSteps := 2000000 }) [o_known, vStr_mk, knownC, newFieldC, sha256C, hexC, crcC, makeC, encManC, gOk, bytesIn]
  have b3 : allB [[Value.int .u8 97], [Value.int .u8 98], [Value.int .u8 99]] := by
    intro row hr; simp at hr; rcases hr with rfl | rfl | rfl <;> decide
  have b9 : allB [[Value.int .u8 49], [Value.int .u8 50], [Value.int .u8 51], [Value.int .u8 52], [Value.int .u8 53], [Value.int .u8 54], [Value.int .u8 55], [Value.int .u8 56], [Value.int .u8 57]] := by
    intro row hr; simp at hr; rcases hr with rfl | rfl | rfl | rfl | rfl | rfl | rfl | rfl | rfl <;> decide
  have b2 : allB [[Value.int .u8 97], [Value.int .u8 98]] := by
    intro row hr; simp at hr; rcases hr with rfl | rfl <;> decide
  refine ⟨⟨b3, hGr, hGd⟩, fun d _ hd => ⟨?_, fun s _ hs => ?_⟩⟩
  · have : allM (rowL d.d 32) := by rw [hd]; exact sha_allM _
    exact this
  · have hs' : vStr s.v = hexL (rowL d.d 32) := hs
    have hd' : rowL d.d 32 = sha [97, 98, 99] := hd
    rw [hd', sha_hex] at hs'
    refine ⟨hs', fun _ => ⟨b9, fun c _ hc => ?_⟩⟩
    have hc' : c.i = 3808858755 := hc.trans crc_known
    refine ⟨hc', fun _ F _ hF => ⟨⟨.inl hF, b2, ⟨hGr, hGd⟩, fun _ => top23⟩, fun _ _ _ _ _ h => absurd h (by decide), fun o _ f _ Ds _ P _ ab _ hf hsz hPl hE ho hdo hdg => ?_⟩⟩
    have hDl : Ds.d.length = 3 := by
      have := congrArg List.length hdg
      rw [madeAt_len] at this; simpa [dgs] using this
    have hoM : allM (rowL o.d 32) := by rw [ho]; exact sha_allM _
    refine ⟨⟨by omega, hoM, hdo⟩, by decide, fun n _ cp _ b _ _ hn hb hbI => ?_⟩
    have hbI' : bI b.d = manHead 2 3 3 2 (rowL o.d 32) ++ (dgs Ds.d).flatten := hbI
    have hfl : (dgs Ds.d).flatten.length = 96 := by
      rw [hdg]; simp [madeAt, List.range_succ, sha_len]
    have hbl : b.d.length = 135 := by
      have := congrArg List.length hbI'
      rw [bI_len, head23] at this
      simp [rowL_len, hfl] at this
      exact this
    refine ⟨by omega, fun _ hcp => ⟨by omega, by omega, by omega, ?_⟩, by omega⟩
    have h7 : bI (List.take 7 b.d) = [77, 1, 2, 3, 3, 0, 2] := by
      rw [bI, List.map_take, ← bI, hbI', head23]; rfl
    rw [bytesOf_bI, h7]; rfl
end Go.Proofs

set_option linter.unusedSimpArgs false
set_option linter.unusedVariables false
namespace Go.Proofs
open Go Go.Eng
set_option maxRecDepth 20000
end Go.Proofs

set_option linter.unusedSimpArgs false
set_option linter.unusedVariables false
namespace Go.Eng
open Go Go.Proofs
end Go.Eng

set_option linter.unusedSimpArgs false
set_option linter.unusedVariables false
set_option maxRecDepth 100000
namespace Go.Proofs
open Go Go.Eng

end Go.Proofs

set_option linter.unusedSimpArgs false
set_option linter.unusedVariables false
namespace Go.Proofs
open Go Go.Eng
set_option maxRecDepth 20000
end Go.Proofs

set_option linter.unusedSimpArgs false
set_option linter.unusedVariables false
namespace Go.Proofs
open Go Go.Eng
set_option maxRecDepth 20000
end Go.Proofs

set_option linter.unusedSimpArgs false
set_option linter.unusedVariables false
namespace Go.Eng
open Go Go.Proofs
end Go.Eng

set_option linter.unusedSimpArgs false
set_option linter.unusedVariables false
set_option maxRecDepth 100000
namespace Go.Proofs
open Go Go.Eng

end Go.Proofs

set_option linter.unusedSimpArgs false
set_option linter.unusedVariables false
namespace Go.Proofs
open Go Go.Eng
set_option maxRecDepth 20000
end Go.Proofs

set_option linter.unusedSimpArgs false
set_option linter.unusedVariables false
namespace Go.Eng
open Go Go.Proofs
def sizesRC : Ctr := { fn := 73, nv := 3, args := [iv .i64 (.var 0), iv .i64 (.var 1), iv .i64 (.var 2)], heap := [], ro := [], pre := fun _ => True, alts := [
  { k := 1, ret := .one (.vbool (.var 3)), heap := [], post := fun ρ => (ρ 3).b = sizes3 (ρ 0).i (ρ 1).i (ρ 2).i }] }
def sameC : Ctr := { fn := 26, nv := 20, args := [manV, .agg (manT 8 9 10 11 12 13 14 15)], heap := [], ro := [dgsHp 5 16 17, dgsHp 13 18 19], pre := fun ρ => (ρ 6).i = (ρ 16).d.length ∧ (ρ 14).i = (ρ 18).d.length ∧ (ρ 6).i ≤ 4503599627370496, alts := [
  { k := 1, ret := .one (.vbool (.var 20)), heap := [], post := fun ρ => (ρ 0).i = (ρ 8).i → (ρ 1).i = (ρ 9).i → (ρ 2).i = (ρ 10).i → (ρ 3).i = (ρ 11).i → rowL (ρ 4).d 32 = rowL (ρ 12).d 32 → dgs (ρ 16).d = dgs (ρ 18).d → (ρ 20).b = true }] }
def sameI : Inv := { key := 4, nv := 3, env := [(2, .one (.vptr 1000 (.lit 0) 37 0)), (3, .one (.vptr 1001 (.lit 0) 37 0)), (5, iv .i64 (.var 1002))], heap := [.cells 1000 27 (manT 0 1 2 3 4 5 6 7), .cells 1001 27 (manT 8 9 10 11 12 13 14 15)], inv := (fun ρ => (ρ 6).i = (ρ 14).i ∧ 0 ≤ (ρ 1002).i ∧ (ρ 1002).i ≤ (ρ 6).i), mu := (fun ρ => ((ρ 6).i - (ρ 1002).i).toNat) }
end Go.Eng

set_option linter.unusedSimpArgs false
set_option linter.unusedVariables false
set_option maxRecDepth 100000
namespace Go.Proofs
open Go Go.Eng

def o_sizesR : Out := (.br (.cmp .leq (.lit 1) (.var 0))
 (.br (.cmp .leq (.var 0) (.var 1))
 (.br (.cmp .leq (.var 1) (.var 2))
 (.ret 0 (sg 3 [bt 3 (.cmp .leq (.var 2) (.lit 255))]))
 (.ret 0 (sg 3 [bt 3 (.bl false)])))
 (.ret 0 (sg 3 [bt 3 (.bl false)])))
 (.ret 0 (sg 3 [bt 3 (.bl false)])))
theorem o_sizesR_eq : treeOf ⟨Tryd.prog, sizesRC, [], []⟩ 100000 Tryd.f73 = o_sizesR := by kernel_rfl
theorem sizesR_of (hd : ∀ c ∈ ([] : List Ctr), c.ok Tryd.prog) (h : ∀ ρ : Env, ρ.good → (sizesRC).pre ρ → o_sizesR.den ⟨Tryd.prog, sizesRC, [], []⟩ ρ) : (sizesRC).ok Tryd.prog :=
  ok_of_tree Tryd.func73 (fun a w => Tryd.call73 a w) hd 100000 (fun ρ hg hp => by rw [o_sizesR_eq]; exact h ρ hg hp)
def o_same : Out := (.fresh 20 (.fresh 21 (.br (.cmp .neq (.var 0) (.var 8))
 (.ret 0 (sg 20 [bt 20 (.bl false)]))
 (.br (.cmp .neq (.var 1) (.var 9))
 (.ret 0 (sg 20 [bt 20 (.bl false)]))
 (.br (.cmp .neq (.var 2) (.var 10))
 (.ret 0 (sg 20 [bt 20 (.bl false)]))
 (.br (.cmp .neq (.var 3) (.var 11))
 (.ret 0 (sg 20 [bt 20 (.bl false)]))
 (.br (.not (.c2 .req (r8 4) (r8 12)))
 (.ret 0 (sg 20 [bt 20 (.bl false)]))
 (.need (.cmp .leq (.lit 0) (.var 6)) (.need (.cmp .leq (.lit 0) (.var 14)) (.br (.cmp .neq (.var 6) (.var 14))
 (.ret 0 (sg 20 [bt 20 (.bl false)]))
 (.inv 0 22 (sg 1000 [bt 1002 (.lit 0), bg 1001 21, bg 1000 20]) (.fresh 22 (.fresh 23 (.fresh 24 (.hyp 0 22 (.br (.cmp .lss (.var 24) (.var 6))
 (.need (.cmp .leq (.lit 0) (.var 24)) (.need (.cmp .lss (.var 24) (.dlen (.var 16))) (.need (.cmp .lss (.var 24) (.var 14)) (.need (.cmp .lss (.var 24) (.dlen (.var 18))) (.br (.not (.c2 .req (.rcons (i8 16 24 0) (.rcons (i8 16 24 1) (.rcons (i8 16 24 2) (.rcons (i8 16 24 3) (.rcons (i8 16 24 4) (.rcons (i8 16 24 5) (.rcons (i8 16 24 6) (.rcons (i8 16 24 7) (.rcons (i8 16 24 8) (.rcons (i8 16 24 9) (.rcons (i8 16 24 10) (.rcons (i8 16 24 11) (.rcons (i8 16 24 12) (.rcons (i8 16 24 13) (.rcons (i8 16 24 14) (.rcons (i8 16 24 15) (.rcons (i8 16 24 16) (.rcons (i8 16 24 17) (.rcons (i8 16 24 18) (.rcons (i8 16 24 19) (.rcons (i8 16 24 20) (.rcons (i8 16 24 21) (.rcons (i8 16 24 22) (.rcons (i8 16 24 23) (.rcons (i8 16 24 24) (.rcons (i8 16 24 25) (.rcons (i8 16 24 26) (.rcons (i8 16 24 27) (.rcons (i8 16 24 28) (.rcons (i8 16 24 29) (.rcons (i8 16 24 30) (.rcons (i8 16 24 31) .rnil)))))))))))))))))))))))))))))))) (.rcons (i8 18 24 0) (.rcons (i8 18 24 1) (.rcons (i8 18 24 2) (.rcons (i8 18 24 3) (.rcons (i8 18 24 4) (.rcons (i8 18 24 5) (.rcons (i8 18 24 6) (.rcons (i8 18 24 7) (.rcons (i8 18 24 8) (.rcons (i8 18 24 9) (.rcons (i8 18 24 10) (.rcons (i8 18 24 11) (.rcons (i8 18 24 12) (.rcons (i8 18 24 13) (.rcons (i8 18 24 14) (.rcons (i8 18 24 15) (.rcons (i8 18 24 16) (.rcons (i8 18 24 17) (.rcons (i8 18 24 18) (.rcons (i8 18 24 19) (.rcons (i8 18 24 20) (.rcons (i8 18 24 21) (.rcons (i8 18 24 22) (.rcons (i8 18 24 23) (.rcons (i8 18 24 24) (.rcons (i8 18 24 25) (.rcons (i8 18 24 26) (.rcons (i8 18 24 27) (.rcons (i8 18 24 28) (.rcons (i8 18 24 29) (.rcons (i8 18 24 30) (.rcons (i8 18 24 31) .rnil))))))))))))))))))))))))))))))))))
 (.ret 0 (sg 20 [bt 20 (.bl false)]))
 (.back 0 22 (sg 1000 [bt 1002 (.arith .add .i64 (.var 24) (.lit 1)), bg 1001 23, bg 1000 22])))))))
 (.ret 0 (sg 20 [bt 20 (.bl true)]))))))))))))))))))
theorem o_same_eq : treeOf ⟨Tryd.prog, sameC, [], [sameI]⟩ 100000 Tryd.f26 = o_same := by kernel_rfl
theorem same_of (hd : ∀ c ∈ ([] : List Ctr), c.ok Tryd.prog) (h : ∀ ρ : Env, ρ.good → (sameC).pre ρ → o_same.den ⟨Tryd.prog, sameC, [], [sameI]⟩ ρ) : (sameC).ok Tryd.prog :=
  ok_of_tree Tryd.func26 (fun a w => Tryd.call26 a w) hd 100000 (fun ρ hg hp => by rw [o_same_eq]; exact h ρ hg hp)
end Go.Proofs

set_option linter.unusedSimpArgs false
set_option linter.unusedVariables false
namespace Go.Proofs
open Go Go.Eng
set_option maxRecDepth 20000
theorem sizesR_ok : sizesRC.ok Tryd.prog := sizesR_of (by simp) fun ρ hg hp => by
  simp [o_sizesR, sizesRC]
  refine ⟨fun h1 => ⟨fun h2 => ⟨fun h3 => ?_, fun h3 => ?_⟩, fun h2 => ?_⟩, fun h1 => ?_⟩
  · simp [sizes3, h1, h2, h3, cmpOf]
  · simp [sizes3]; omega
  · simp [sizes3]; omega
  · simp [sizes3]; omega
theorem dgs_len {D : Rows'} : (dgs D).length = D.length := by simp [dgs]
theorem dgs_cell {D D' : Rows'} (h : dgs D = dgs D') {i : Nat} (h1 : i < D.length) (h2 : i < D'.length) {j : Nat} (hj : j < 32) : cellI D i j = cellI D' i j := by
  have e : rowB D[i] = rowB D'[i] := by
    have := congrArg (fun l => l[i]?) h
    simpa [dgs, h1, h2] using this
  rw [← row_dgs h1, ← row_dgs h2] at e
  have := rowL_eq32 e j hj
  rwa [dgCells_get hj, dgCells_get hj] at this
theorem same_ok : sameC.ok Tryd.prog := same_of (by simp) fun ρ hg hp => by
  obtain ⟨h6, h14, h7⟩ := hp
  simp (config := { maxSteps := 2000000 }) [o_same, sameC, sameI, manV, manT, cellsT]
  refine ⟨fun h e => absurd e h, fun _ => ⟨fun h _ e => absurd e h, fun _ => ⟨fun h _ _ e => absurd e h, fun _ => ⟨fun h _ _ _ e => absurd e h, fun _ => ⟨fun hor _ _ _ _ hr => ?_, ?_⟩⟩⟩⟩⟩
  · have hc := rowL_eq32 hr
    simp [hc] at hor
  · intros
    refine ⟨by omega, by omega, fun h _ _ _ _ _ hd => ?_, fun hll => ⟨⟨hll, by omega⟩, fun u _ _ u0 u1 hlt => ⟨u0, by omega, by omega, by omega, fun hor _ _ _ _ _ hd => ?_, ?_⟩⟩⟩
    · have := congrArg List.length hd
      rw [dgs_len, dgs_len] at this
      omega
    · obtain ⟨I, hI⟩ : ∃ I : Nat, u.i = I := ⟨u.i.toNat, by omega⟩
      have hc : ∀ j, j < 32 → cellI (ρ 16).d I j = cellI (ρ 18).d I j := fun j hj => dgs_cell hd (by omega) (by omega) hj
      rw [hI] at hor
      simp [hc] at hor
    · intros
      have m2 : arithOf .add .i64 u.i 1 = u.i + 1 := by rw [Go.Proofs.add64 (by omega) (by omega)]
      rw [m2]
      exact ⟨⟨hll, by omega, by omega⟩, by omega⟩
end Go.Proofs

set_option linter.unusedSimpArgs false
set_option linter.unusedVariables false
namespace Go.Proofs
open Go Go.Eng
set_option maxRecDepth 20000
end Go.Proofs

set_option linter.unusedSimpArgs false
set_option linter.unusedVariables false
namespace Go.Eng
open Go Go.Proofs
end Go.Eng

set_option linter.unusedSimpArgs false
set_option linter.unusedVariables false
set_option maxRecDepth 100000
namespace Go.Proofs
open Go Go.Eng

end Go.Proofs

set_option linter.unusedSimpArgs false
set_option linter.unusedVariables false
namespace Go.Proofs
open Go Go.Eng
set_option maxRecDepth 20000
theorem flat_len {l : List (List Int)} (h : ∀ x ∈ l, x.length = 32) : l.flatten.length = 32 * l.length := by
  induction l with
  | nil => rfl
  | cons x r ih =>
    rw [List.flatten_cons, List.length_append, h x (List.mem_cons_self ..), ih (fun y hy => h y (List.mem_cons_of_mem _ hy)), List.length_cons]; omega
theorem flat_at {l : List (List Int)} (h : ∀ x ∈ l, x.length = 32) : ∀ {j : Nat} (hj : j < l.length), (l.flatten.drop (32 * j)).take 32 = l[j] := by
  induction l with
  | nil => intro j hj; simp at hj
  | cons x r ih =>
    intro j hj
    have hx := h x (List.mem_cons_self ..)
    cases j with
    | zero => simp [List.take_left' hx]
    | succ j =>
      rw [List.flatten_cons, show 32 * (j + 1) = x.length + 32 * j by omega, List.drop_length_add_append]
      exact ih (fun y hy => h y (List.mem_cons_of_mem _ hy)) (by simpa using hj)
end Go.Proofs

set_option linter.unusedSimpArgs false
set_option linter.unusedVariables false
namespace Go.Proofs
open Go Go.Eng
def rowI8 (d : Rows') (i : Int) : List Int := (List.range 32).map fun k => cellI d i k
@[simp high] theorem rowL_x8 (d : Rows') : rowL [[.int .u8 (cellX d 0), .int .u8 (cellX d 1), .int .u8 (cellX d 2), .int .u8 (cellX d 3), .int .u8 (cellX d 4), .int .u8 (cellX d 5), .int .u8 (cellX d 6), .int .u8 (cellX d 7), .int .u8 (cellX d 8), .int .u8 (cellX d 9), .int .u8 (cellX d 10), .int .u8 (cellX d 11), .int .u8 (cellX d 12), .int .u8 (cellX d 13), .int .u8 (cellX d 14), .int .u8 (cellX d 15), .int .u8 (cellX d 16), .int .u8 (cellX d 17), .int .u8 (cellX d 18), .int .u8 (cellX d 19), .int .u8 (cellX d 20), .int .u8 (cellX d 21), .int .u8 (cellX d 22), .int .u8 (cellX d 23), .int .u8 (cellX d 24), .int .u8 (cellX d 25), .int .u8 (cellX d 26), .int .u8 (cellX d 27), .int .u8 (cellX d 28), .int .u8 (cellX d 29), .int .u8 (cellX d 30), .int .u8 (cellX d 31)]] 32 = rowL d 32 := rfl
@[simp high] theorem rowL_i8 (d : Rows') (i : Int) : rowL [[.int .u8 (cellI d i 0), .int .u8 (cellI d i 1), .int .u8 (cellI d i 2), .int .u8 (cellI d i 3), .int .u8 (cellI d i 4), .int .u8 (cellI d i 5), .int .u8 (cellI d i 6), .int .u8 (cellI d i 7), .int .u8 (cellI d i 8), .int .u8 (cellI d i 9), .int .u8 (cellI d i 10), .int .u8 (cellI d i 11), .int .u8 (cellI d i 12), .int .u8 (cellI d i 13), .int .u8 (cellI d i 14), .int .u8 (cellI d i 15), .int .u8 (cellI d i 16), .int .u8 (cellI d i 17), .int .u8 (cellI d i 18), .int .u8 (cellI d i 19), .int .u8 (cellI d i 20), .int .u8 (cellI d i 21), .int .u8 (cellI d i 22), .int .u8 (cellI d i 23), .int .u8 (cellI d i 24), .int .u8 (cellI d i 25), .int .u8 (cellI d i 26), .int .u8 (cellI d i 27), .int .u8 (cellI d i 28), .int .u8 (cellI d i 29), .int .u8 (cellI d i 30), .int .u8 (cellI d i 31)]] 32 = rowI8 d i := rfl
@[simp high] theorem mapV_x8 (d : Rows') : ([.int .u8 (cellX d 0), .int .u8 (cellX d 1), .int .u8 (cellX d 2), .int .u8 (cellX d 3), .int .u8 (cellX d 4), .int .u8 (cellX d 5), .int .u8 (cellX d 6), .int .u8 (cellX d 7), .int .u8 (cellX d 8), .int .u8 (cellX d 9), .int .u8 (cellX d 10), .int .u8 (cellX d 11), .int .u8 (cellX d 12), .int .u8 (cellX d 13), .int .u8 (cellX d 14), .int .u8 (cellX d 15), .int .u8 (cellX d 16), .int .u8 (cellX d 17), .int .u8 (cellX d 18), .int .u8 (cellX d 19), .int .u8 (cellX d 20), .int .u8 (cellX d 21), .int .u8 (cellX d 22), .int .u8 (cellX d 23), .int .u8 (cellX d 24), .int .u8 (cellX d 25), .int .u8 (cellX d 26), .int .u8 (cellX d 27), .int .u8 (cellX d 28), .int .u8 (cellX d 29), .int .u8 (cellX d 30), .int .u8 (cellX d 31)] : List Value).map vInt = rowL d 32 := rfl
@[simp high] theorem mapV_i8 (d : Rows') (i : Int) : ([.int .u8 (cellI d i 0), .int .u8 (cellI d i 1), .int .u8 (cellI d i 2), .int .u8 (cellI d i 3), .int .u8 (cellI d i 4), .int .u8 (cellI d i 5), .int .u8 (cellI d i 6), .int .u8 (cellI d i 7), .int .u8 (cellI d i 8), .int .u8 (cellI d i 9), .int .u8 (cellI d i 10), .int .u8 (cellI d i 11), .int .u8 (cellI d i 12), .int .u8 (cellI d i 13), .int .u8 (cellI d i 14), .int .u8 (cellI d i 15), .int .u8 (cellI d i 16), .int .u8 (cellI d i 17), .int .u8 (cellI d i 18), .int .u8 (cellI d i 19), .int .u8 (cellI d i 20), .int .u8 (cellI d i 21), .int .u8 (cellI d i 22), .int .u8 (cellI d i 23), .int .u8 (cellI d i 24), .int .u8 (cellI d i 25), .int .u8 (cellI d i 26), .int .u8 (cellI d i 27), .int .u8 (cellI d i 28), .int .u8 (cellI d i 29), .int .u8 (cellI d i 30), .int .u8 (cellI d i 31)] : List Value).map vInt = rowI8 d i := rfl
@[simp high] theorem rowL_z8 : rowL [[.int .u8 0, .int .u8 0, .int .u8 0, .int .u8 0, .int .u8 0, .int .u8 0, .int .u8 0, .int .u8 0, .int .u8 0, .int .u8 0, .int .u8 0, .int .u8 0, .int .u8 0, .int .u8 0, .int .u8 0, .int .u8 0, .int .u8 0, .int .u8 0, .int .u8 0, .int .u8 0, .int .u8 0, .int .u8 0, .int .u8 0, .int .u8 0, .int .u8 0, .int .u8 0, .int .u8 0, .int .u8 0, .int .u8 0, .int .u8 0, .int .u8 0, .int .u8 0]] 32 = List.replicate 32 0 := rfl
@[simp high] theorem mapV_z8 : ([.int .u8 0, .int .u8 0, .int .u8 0, .int .u8 0, .int .u8 0, .int .u8 0, .int .u8 0, .int .u8 0, .int .u8 0, .int .u8 0, .int .u8 0, .int .u8 0, .int .u8 0, .int .u8 0, .int .u8 0, .int .u8 0, .int .u8 0, .int .u8 0, .int .u8 0, .int .u8 0, .int .u8 0, .int .u8 0, .int .u8 0, .int .u8 0, .int .u8 0, .int .u8 0, .int .u8 0, .int .u8 0, .int .u8 0, .int .u8 0, .int .u8 0, .int .u8 0] : List Value).map vInt = List.replicate 32 0 := rfl
end Go.Proofs

set_option linter.unusedSimpArgs false
set_option linter.unusedVariables false
namespace Go.Eng
open Go

def byteP (x : Int) : Prop := 0 ≤ x ∧ x < 256
def len27C : Ctr := { piece26C with fn := 80 }
def len27I : Inv := { key := 4, nv := 1, env := [(0, iv .i64 (.var 0)), (1, iv .i64 (.var 1)), (6, iv .i64 (.var 1000))], heap := [], inv := (fun ρ => ¬ pieceBad (ρ 0).i (ρ 1).i ∧ 0 ≤ (ρ 1000).i ∧ (ρ 1000).i ≤ (ρ 1).i ∧ ((ρ 1000).i = 0 ∨ (ρ 0).i * ((ρ 1000).i - 1) < (ρ 1).i)), mu := (fun ρ => ((ρ 1).i - (ρ 1000).i).toNat) }
def timesStep (b : Int) (i : Nat) (s : Int × Int) : Int × Int :=
  (if arithOf .and .u8 s.1 128 = 0 then arithOf .shl .u8 s.1 1 else arithOf .xor .u8 (arithOf .shl .u8 s.1 1) 29,
   if arithOf .and .u8 b (arithOf .shl .u8 1 i) = 0 then s.2 else arithOf .xor .u8 s.2 s.1)
def timesN (a b : Int) : Nat → Int × Int
  | 0 => (a, 0)
  | i + 1 => timesStep b i (timesN a b i)
def times53C : Ctr := { fn := 130, nv := 2, args := [iv .u8 (.var 0), iv .u8 (.var 1)], heap := [], ro := [], pre := fun ρ => byteP (ρ 0).i ∧ byteP (ρ 1).i, alts := [{ k := 1, ret := iv .u8 (.var 2), heap := [], post := fun ρ => (ρ 2).i = mulF (ρ 0).i (ρ 1).i }] }
def times53I : Inv := { key := 3, nv := 3, env := [(0, iv .u8 (.var 1000)), (1, iv .u8 (.var 1)), (5, iv .u8 (.var 1001)), (6, iv .i64 (.var 1002))], heap := [], inv := (fun ρ => 0 ≤ (ρ 1002).i ∧ (ρ 1002).i ≤ 8 ∧ ((ρ 1000).i, (ρ 1001).i) = timesN (ρ 0).i (ρ 1).i (ρ 1002).i.toNat), mu := (fun ρ => (8 - (ρ 1002).i).toNat) }
def over54C : Ctr := { fn := 131, nv := 1, args := [iv .u8 (.var 0)], heap := [], ro := [], pre := fun ρ => byteP (ρ 0).i, alts := [{ k := 1, ret := iv .u8 (.var 1), heap := [], post := fun ρ => (ρ 1).i = invF (ρ 0).i }] }
def over54I : Inv := { key := 2, nv := 1, env := [(0, iv .u8 (.var 0)), (3, iv .i64 (.var 1000))], heap := [], inv := (fun ρ => 1 ≤ (ρ 1000).i ∧ (ρ 1000).i ≤ 256 ∧ ∀ j : Int, 1 ≤ j → j < (ρ 1000).i → mulF (ρ 0).i j ≠ 1), mu := (fun ρ => (256 - (ρ 1000).i).toNat) }
end Go.Eng

set_option linter.unusedSimpArgs false
set_option linter.unusedVariables false
namespace Go.Eng
open Go Go.Proofs
def ofPieceC : Ctr := { fn := 42, nv := 8, ip := [gIs 6], args := [iv .i64 (.var 0), bS 1], heap := [], ro := [bSHp 1, gHp 6 7], pre := fun ρ => (ρ 2).i = (ρ 4).d.length ∧ (ρ 2).i ≤ 100000000 ∧ allB (ρ 4).d ∧ gOk ρ 6 7 gS, alts := [
  { k := 1, ret := dgV 8, heap := [], post := fun ρ => rowL (ρ 8).d 32 = sha (pieceIn (ρ 0).i ++ bI (ρ 4).d) }] }
end Go.Eng

set_option linter.unusedSimpArgs false
set_option linter.unusedVariables false
set_option maxRecDepth 100000
namespace Go.Proofs
open Go Go.Eng

end Go.Proofs

set_option linter.unusedSimpArgs false
set_option linter.unusedVariables false
set_option maxRecDepth 100000
namespace Go.Proofs
open Go Go.Eng
theorem log_exp : ∀ i : Fin 255, logL.getD (expL.getD i.val 0).toNat 0 = i.val := by decide +kernel
theorem exp_log : ∀ a : Fin 256, a.val ≠ 0 → expL.getD (logL.getD a.val 0).toNat 0 = a.val := by decide +kernel
theorem exp_per : ∀ i : Fin 255, expL.getD (i.val + 255) 0 = expL.getD i.val 0 := by decide +kernel
end Go.Proofs

set_option linter.unusedSimpArgs false
set_option linter.unusedVariables false
namespace Go.Proofs
open Go Go.Eng

abbrev F := BitVec 8
def toF (x : Int) : F := BitVec.ofInt 8 x
def ofF (x : F) : Int := (x.toNat : Nat)
def isB (x : Int) : Prop := 0 ≤ x ∧ x < 256
theorem ofF_isB {x : F} : isB (ofF x) := ⟨Int.natCast_nonneg _, by have := x.isLt; unfold ofF; omega⟩
theorem toF_ofF {x : F} : toF (ofF x) = x := by
  unfold toF ofF
  apply BitVec.eq_of_toNat_eq
  rw [BitVec.toNat_ofInt]
  have := x.isLt
  omega
theorem toF_toNat {x : Int} (h : isB x) : (toF x).toNat = x.toNat := by
  obtain ⟨h0, h1⟩ := h
  unfold toF
  rw [BitVec.toNat_ofInt]
  omega
theorem ofF_toF {x : Int} (h : isB x) : ofF (toF x) = x := by
  unfold ofF
  rw [toF_toNat h]
  obtain ⟨h0, h1⟩ := h
  omega
theorem toF_inj {x y : Int} (hx : isB x) (hy : isB y) (h : toF x = toF y) : x = y := by rw [← ofF_toF hx, ← ofF_toF hy, h]
theorem toF_zero : toF 0 = 0 := rfl
theorem toF_eq_zero {x : Int} (h : isB x) : toF x = 0 ↔ x = 0 := ⟨fun e => toF_inj h ⟨by omega, by omega⟩ e, fun e => by rw [e]; rfl⟩
theorem xorB_F {x y : Int} : xorB x y = ofF (toF x ^^^ toF y) := by
  have h : (BitVec.ofInt 8 x ^^^ BitVec.ofInt 8 y).toNat < 256 := (BitVec.ofInt 8 x ^^^ BitVec.ofInt 8 y).isLt
  unfold xorB arithOf ofF toF
  show IntKind.u8.wrap _ = _
  have hb : IntKind.u8.bits = 8 := rfl
  rw [hb]
  generalize (BitVec.ofInt 8 x ^^^ BitVec.ofInt 8 y).toNat = z at h ⊢
  simp only [IntKind.wrap, IntKind.bits, IntKind.signed]
  simp
  omega
theorem toF_xorB {x y : Int} : toF (xorB x y) = toF x ^^^ toF y := by rw [xorB_F, toF_ofF]

def expF (n : Nat) : F := BitVec.ofNat 8 (expL.getD (n % 255) 0).toNat
def logF (x : F) : Nat := (logL.getD x.toNat 0).toNat
def fmul (x y : F) : F := if x = 0 ∨ y = 0 then 0 else expF (logF x + logF y)
def finv (x : F) : F := if x = 0 then 0 else expF (255 - logF x)
theorem expF_mod {n : Nat} : expF (n % 255) = expF n := by unfold expF; rw [Nat.mod_mod]
theorem expF_congr {n m : Nat} (h : n % 255 = m % 255) : expF n = expF m := by rw [← expF_mod, h, expF_mod]
theorem expF_toNat {n : Nat} : (expF n).toNat = (expL.getD (n % 255) 0).toNat := by
  have h := expL_range ⟨n % 255, by omega⟩
  simp only at h
  unfold expF
  rw [BitVec.toNat_ofNat]
  omega
theorem expF_ne {n : Nat} : expF n ≠ 0 := fun h => by
  have h1 := congrArg BitVec.toNat h
  rw [expF_toNat] at h1
  have h2 := expL_range ⟨n % 255, by omega⟩
  simp only at h2
  rw [show (0 : F).toNat = 0 by rfl] at h1
  omega
theorem logF_lt {x : F} : logF x < 255 := by
  have := logL_range ⟨x.toNat, x.isLt⟩
  simp only at this
  unfold logF
  omega
theorem exp_logF {x : F} (h : x ≠ 0) : expF (logF x) = x := by
  apply BitVec.eq_of_toNat_eq
  have h0 : x.toNat ≠ 0 := fun e => h (BitVec.eq_of_toNat_eq (by rw [e]; rfl))
  have h1 := exp_log ⟨x.toNat, x.isLt⟩ h0
  simp only at h1
  rw [expF_toNat, Nat.mod_eq_of_lt logF_lt, logF, h1]
  omega
theorem log_expF {n : Nat} : logF (expF n) = n % 255 := by
  have h := log_exp ⟨n % 255, by omega⟩
  simp only at h
  unfold logF
  rw [expF_toNat, h]
  omega
theorem expF_zero : expF 0 = 1 := by decide
theorem fmul_comm {x y : F} : fmul x y = fmul y x := by
  unfold fmul
  by_cases hx : x = 0
  · simp [hx]
  · by_cases hy : y = 0
    · simp [hy]
    · rw [if_neg (not_or.2 ⟨hx, hy⟩), if_neg (not_or.2 ⟨hy, hx⟩), Nat.add_comm]
theorem fmul_zero {x : F} : fmul x 0 = 0 := by simp [fmul]
theorem zero_fmul {x : F} : fmul 0 x = 0 := by simp [fmul]
theorem fmul_ne {x y : F} (hx : x ≠ 0) (hy : y ≠ 0) : fmul x y = expF (logF x + logF y) := by rw [fmul, if_neg (not_or.2 ⟨hx, hy⟩)]
theorem fmul_ne_zero {x y : F} (hx : x ≠ 0) (hy : y ≠ 0) : fmul x y ≠ 0 := by rw [fmul_ne hx hy]; exact expF_ne
theorem fmul_eq_zero {x y : F} : fmul x y = 0 ↔ x = 0 ∨ y = 0 := ⟨fun h => by
  by_cases hx : x = 0
  · exact .inl hx
  · by_cases hy : y = 0
    · exact .inr hy
    · exact (fmul_ne_zero hx hy h).elim, fun h => by rcases h with rfl | rfl; exact zero_fmul; exact fmul_zero⟩
theorem fmul_exp {n m : Nat} : fmul (expF n) (expF m) = expF (n + m) := by
  rw [fmul_ne expF_ne expF_ne, log_expF, log_expF]
  exact expF_congr (by omega)
theorem fmul_one {x : F} : fmul x 1 = x := by
  by_cases h : x = 0
  · rw [h, zero_fmul]
  · rw [← expF_zero]; conv => lhs; arg 1; rw [← exp_logF h]
    rw [fmul_exp, Nat.add_zero, exp_logF h]
theorem one_fmul {x : F} : fmul 1 x = x := by rw [fmul_comm, fmul_one]
theorem exists_exp {x : F} (h : x ≠ 0) : ∃ n, n < 255 ∧ x = expF n := ⟨logF x, logF_lt, (exp_logF h).symm⟩
theorem fmul_assoc {x y z : F} : fmul (fmul x y) z = fmul x (fmul y z) := by
  by_cases hx : x = 0
  · rw [hx, zero_fmul, zero_fmul, zero_fmul]
  by_cases hy : y = 0
  · rw [hy, fmul_zero, zero_fmul, fmul_zero]
  by_cases hz : z = 0
  · rw [hz, fmul_zero, fmul_zero, fmul_zero]
  obtain ⟨a, _, rfl⟩ := exists_exp hx
  obtain ⟨b, _, rfl⟩ := exists_exp hy
  obtain ⟨c, _, rfl⟩ := exists_exp hz
  rw [fmul_exp, fmul_exp, fmul_exp, fmul_exp, Nat.add_assoc]
theorem finv_ne {x : F} (h : x ≠ 0) : finv x ≠ 0 := by rw [finv, if_neg h]; exact expF_ne
theorem fmul_finv {x : F} (h : x ≠ 0) : fmul x (finv x) = 1 := by
  rw [finv, if_neg h]
  conv => lhs; arg 1; rw [← exp_logF h]
  have := logF_lt (x := x)
  rw [fmul_exp, ← expF_zero]
  exact expF_congr (by omega)
def xt (x : F) : F := x <<< 1 ^^^ (if x.msb then 29#8 else 0#8)
theorem fmul_two' : ∀ i : Fin 256, fmul (BitVec.ofFin i) 2 = xt (BitVec.ofFin i) := by decide +kernel
theorem fmul_two {x : F} : fmul x 2 = xt x := fmul_two' x.toFin
theorem xt_xor {x y : F} : xt (x ^^^ y) = xt x ^^^ xt y := by
  unfold xt
  rw [BitVec.shiftLeft_xor_distrib, BitVec.msb_xor]
  have h1 : ∀ a b c : F, a ^^^ b ^^^ c = a ^^^ c ^^^ b := fun a b c => by rw [BitVec.xor_assoc, BitVec.xor_comm b c, ← BitVec.xor_assoc]
  cases x.msb <;> cases y.msb
  · simp
  · simp [BitVec.xor_assoc]
  · simp [h1 (x <<< 1) (29#8) (y <<< 1)]
  · simp only [bne_self_eq_false, Bool.false_eq_true, if_true, if_false, BitVec.xor_zero]
    rw [h1 (x <<< 1) (29#8), BitVec.xor_assoc (x <<< 1), BitVec.xor_assoc (y <<< 1), BitVec.xor_self, BitVec.xor_zero]
theorem fmul_xor_exp {x y : F} : ∀ n : Nat, fmul (x ^^^ y) (expF n) = fmul x (expF n) ^^^ fmul y (expF n)
  | 0 => by rw [expF_zero, fmul_one, fmul_one, fmul_one]
  | n + 1 => by
    have he : expF (n + 1) = fmul (expF n) 2 := by
      have : (2 : F) = expF 1 := by decide
      rw [this, fmul_exp]
    rw [he, ← fmul_assoc, ← fmul_assoc, ← fmul_assoc, fmul_xor_exp n, fmul_two, fmul_two, fmul_two, xt_xor]
theorem fmul_xor {x y z : F} : fmul (x ^^^ y) z = fmul x z ^^^ fmul y z := by
  by_cases hz : z = 0
  · rw [hz, fmul_zero, fmul_zero, fmul_zero]; rfl
  · obtain ⟨n, _, rfl⟩ := exists_exp hz
    exact fmul_xor_exp n
theorem xor_fmul {x y z : F} : fmul z (x ^^^ y) = fmul z x ^^^ fmul z y := by rw [fmul_comm, fmul_xor, fmul_comm, fmul_comm (x := y)]

theorem expT_F {i : Nat} (h : i < 510) : expT i = ofF (expF i) := by
  rw [expT_eq h, ofF, expF_toNat]
  by_cases hi : i < 255
  · rw [Nat.mod_eq_of_lt hi]
    have := expL_range ⟨i, h⟩
    simp only at this
    omega
  · have h1 := exp_per ⟨i - 255, by omega⟩
    have h2 := expL_range ⟨i, h⟩
    simp only at h1 h2
    rw [show i - 255 + 255 = i by omega] at h1
    rw [show i % 255 = i - 255 by omega, ← h1]
    omega
theorem logT_F {a : Int} (h : isB a) : logT a.toNat = (logF (toF a) : Nat) := by
  obtain ⟨h0, h1⟩ := h
  rw [logT_eq (by omega), logF, toF_toNat ⟨h0, h1⟩]
  have := logL_range ⟨a.toNat, by omega⟩
  simp only at this
  omega
theorem mulF_F {a b : Int} (ha : isB a) (hb : isB b) : mulF a b = ofF (fmul (toF a) (toF b)) := by
  unfold mulF fmul
  simp only [toF_eq_zero ha, toF_eq_zero hb]
  split
  · rfl
  · have h1 := logF_lt (x := toF a)
    have h2 := logF_lt (x := toF b)
    rw [logT_F ha, logT_F hb, expT_F (by omega)]
    congr 2
theorem invF_F {a : Int} (ha : isB a) : invF a = ofF (finv (toF a)) := by
  unfold invF finv
  simp only [toF_eq_zero ha]
  split
  · rfl
  · have h1 := logF_lt (x := toF a)
    rw [logT_F ha, expT_F (by omega)]
    congr 2
    omega
theorem mulF_isB {a b : Int} (ha : isB a) (hb : isB b) : isB (mulF a b) := by rw [mulF_F ha hb]; exact ofF_isB
theorem toF_mulF {a b : Int} (ha : isB a) (hb : isB b) : toF (mulF a b) = fmul (toF a) (toF b) := by rw [mulF_F ha hb, toF_ofF]
theorem invF_isB {a : Int} (ha : isB a) : isB (invF a) := by rw [invF_F ha]; exact ofF_isB
theorem toF_invF {a : Int} (ha : isB a) : toF (invF a) = finv (toF a) := by rw [invF_F ha, toF_ofF]
theorem xorB_isB {a b : Int} : isB (xorB a b) := by rw [xorB_F]; exact ofF_isB
def fpow (x : F) : Nat → F
  | 0 => 1
  | n + 1 => fmul (fpow x n) x
theorem fpow_exp {n : Nat} : ∀ m, fpow (expF n) m = expF (n * m)
  | 0 => by rw [Nat.mul_zero]; exact expF_zero.symm
  | m + 1 => by rw [fpow, fpow_exp m, fmul_exp, Nat.mul_succ]
theorem fpow_zero' {m : Nat} (h : 0 < m) : fpow 0 m = 0 := by
  cases m with
  | zero => omega
  | succ m => rw [fpow, fmul_zero]
theorem powF_F {a e : Int} (ha : isB a) (he : e < 9223372036854775808) : powF a e = ofF (fpow (toF a) e.toNat) := by
  unfold powF
  by_cases h0 : e ≤ 0
  · rw [if_pos h0, show e.toNat = 0 by omega]; rfl
  rw [if_neg h0]
  by_cases h1 : a = 0
  · rw [if_pos h1, h1, toF_zero, fpow_zero' (by omega)]; rfl
  rw [if_neg h1]
  have hx : toF a ≠ 0 := fun h => h1 ((toF_eq_zero ha).1 h)
  have hl := logF_lt (x := toF a)
  rw [logT_F ha]
  have e1 : e.tmod 255 = ((e.toNat % 255 : Nat) : Int) := by
    rw [Int.tmod_eq_emod_of_nonneg (by omega)]; omega
  rw [e1, ← Int.natCast_mul, Int.tmod_eq_emod_of_nonneg (by omega), expT_F (by omega)]
  congr 1
  conv => rhs; rw [← exp_logF hx, fpow_exp]
  refine expF_congr ?_
  have : ((logF (toF a) * (e.toNat % 255) : Nat) : Int) % 255 = ((logF (toF a) * (e.toNat % 255) % 255 : Nat) : Int) := by omega
  rw [this, Int.toNat_natCast, Nat.mod_mod, Nat.mul_mod, Nat.mod_mod, ← Nat.mul_mod]
theorem powF_isB {a e : Int} (ha : isB a) (he : e < 9223372036854775808) : isB (powF a e) := by rw [powF_F ha he]; exact ofF_isB
end Go.Proofs

set_option linter.unusedSimpArgs false
set_option linter.unusedVariables false
namespace Go.Proofs
open Go Go.Eng

theorem xor_left_comm (a b c : F) : a ^^^ (b ^^^ c) = b ^^^ (a ^^^ c) := by rw [← BitVec.xor_assoc, BitVec.xor_comm a b, BitVec.xor_assoc]
theorem xor_swap (a b c d : F) : (a ^^^ b) ^^^ (c ^^^ d) = (a ^^^ c) ^^^ (b ^^^ d) := by rw [BitVec.xor_assoc, BitVec.xor_assoc, xor_left_comm b c d]
theorem xor_eq_zero {a b : F} : a ^^^ b = 0 ↔ a = b := ⟨fun h => by
  have : a ^^^ b ^^^ b = b := by rw [h]; simp
  rwa [BitVec.xor_assoc, BitVec.xor_self, BitVec.xor_zero] at this, fun h => by rw [h]; exact BitVec.xor_self⟩
theorem xor_zero' {a : F} : a ^^^ 0 = a := BitVec.xor_zero
theorem zero_xor' {a : F} : 0 ^^^ a = a := BitVec.zero_xor
theorem xor_self' {a : F} : a ^^^ a = 0 := BitVec.xor_self
theorem xor_cancelF {a b : F} : a ^^^ b ^^^ b = a := by rw [BitVec.xor_assoc, BitVec.xor_self, BitVec.xor_zero]
def fsum (f : Nat → F) : Nat → F
  | 0 => 0
  | n + 1 => fsum f n ^^^ f n
theorem fsum_congr {f g : Nat → F} {n : Nat} (h : ∀ i, i < n → f i = g i) : fsum f n = fsum g n := by
  induction n with
  | zero => rfl
  | succ n ih => rw [fsum, fsum, ih fun i hi => h i (by omega), h n (by omega)]
theorem fsum_zero {f : Nat → F} {n : Nat} (h : ∀ i, i < n → f i = 0) : fsum f n = 0 := by
  induction n with
  | zero => rfl
  | succ n ih => rw [fsum, ih fun i hi => h i (by omega), h n (by omega), xor_zero']
theorem fsum_xor {f g : Nat → F} {n : Nat} : fsum (fun i => f i ^^^ g i) n = fsum f n ^^^ fsum g n := by
  induction n with
  | zero => exact xor_zero'.symm
  | succ n ih => rw [fsum, fsum, fsum, ih, xor_swap]
theorem fsum_mul {f : Nat → F} {c : F} {n : Nat} : fsum (fun i => fmul c (f i)) n = fmul c (fsum f n) := by
  induction n with
  | zero => exact fmul_zero.symm
  | succ n ih => rw [fsum, fsum, ih, xor_fmul]
theorem fsum_mul' {f : Nat → F} {c : F} {n : Nat} : fsum (fun i => fmul (f i) c) n = fmul (fsum f n) c := by
  rw [fmul_comm, ← fsum_mul]
  exact fsum_congr fun i _ => fmul_comm
theorem fsum_one {f : Nat → F} {n k : Nat} (hk : k < n) (h : ∀ i, i < n → i ≠ k → f i = 0) : fsum f n = f k := by
  induction n with
  | zero => omega
  | succ n ih =>
    rw [fsum]
    by_cases hkn : k = n
    · rw [fsum_zero fun i hi => h i (by omega) (by omega), hkn, zero_xor']
    · rw [ih (by omega) fun i hi => h i (by omega), h n (by omega) (by omega), xor_zero']
theorem fsum_swap {f : Nat → Nat → F} {n m : Nat} : fsum (fun i => fsum (fun j => f i j) m) n = fsum (fun j => fsum (fun i => f i j) n) m := by
  induction n with
  | zero => exact (fsum_zero fun _ _ => rfl).symm
  | succ n ih =>
    rw [fsum, ih, ← fsum_xor]
    rfl
def del (i j : Nat) : F := if i = j then 1 else 0
theorem fsum_del {f : Nat → F} {n k : Nat} (hk : k < n) : fsum (fun i => fmul (del i k) (f i)) n = f k := by
  rw [fsum_one hk fun i hi hik => by rw [del, if_neg hik, zero_fmul], del, if_pos rfl, one_fmul]
theorem fsum_del' {f : Nat → F} {n k : Nat} (hk : k < n) : fsum (fun i => fmul (f i) (del i k)) n = f k := by
  rw [fsum_one hk fun i hi hik => by rw [del, if_neg hik, fmul_zero], del, if_pos rfl, fmul_one]

abbrev Mat := Nat → Nat → F
def spans (r w : Nat) (T : Mat) (v : Nat → F) : Prop := ∃ x : Nat → F, ∀ j, j < w → v j = fsum (fun i => fmul (x i) (T i j)) r
theorem spans_row {r w : Nat} {T : Mat} {i : Nat} (hi : i < r) : spans r w T (T i) := ⟨fun a => del a i, fun j _ => (fsum_del (f := fun a => T a j) hi).symm⟩
theorem spans_congr {r w : Nat} {T : Mat} {v v' : Nat → F} (h : spans r w T v) (he : ∀ j, j < w → v' j = v j) : spans r w T v' := by
  obtain ⟨x, hx⟩ := h
  exact ⟨x, fun j hj => by rw [he j hj, hx j hj]⟩
theorem spans_xor {r w : Nat} {T : Mat} {v v' : Nat → F} (h : spans r w T v) (h' : spans r w T v') : spans r w T (fun j => v j ^^^ v' j) := by
  obtain ⟨x, hx⟩ := h
  obtain ⟨y, hy⟩ := h'
  refine ⟨fun i => x i ^^^ y i, fun j hj => ?_⟩
  show v j ^^^ v' j = _
  rw [hx j hj, hy j hj, ← fsum_xor]
  exact fsum_congr fun i _ => fmul_xor.symm
theorem spans_mul {r w : Nat} {T : Mat} {v : Nat → F} {c : F} (h : spans r w T v) : spans r w T (fun j => fmul c (v j)) := by
  obtain ⟨x, hx⟩ := h
  refine ⟨fun i => fmul c (x i), fun j hj => ?_⟩
  show fmul c (v j) = _
  rw [hx j hj, ← fsum_mul]
  exact fsum_congr fun i _ => fmul_assoc.symm
theorem spans_trans {r w : Nat} {T T' : Mat} {v : Nat → F} (h : spans r w T' v) (hr : ∀ i, i < r → spans r w T (T' i)) : spans r w T v := by
  obtain ⟨x, hx⟩ := h
  let y : Nat → Nat → F := fun i => if h : i < r then (hr i h).choose else fun _ => 0
  have hy : ∀ i, i < r → ∀ j, j < w → T' i j = fsum (fun a => fmul (y i a) (T a j)) r := fun i hi j hj => by
    simp only [y, dif_pos hi]
    exact (hr i hi).choose_spec j hj
  refine ⟨fun a => fsum (fun i => fmul (x i) (y i a)) r, fun j hj => ?_⟩
  rw [hx j hj, fsum_congr fun i hi => by rw [hy i hi j hj, ← fsum_mul], fsum_swap]
  refine fsum_congr fun a _ => ?_
  rw [← fsum_mul']
  exact fsum_congr fun i _ => fmul_assoc.symm
structure Same (r w : Nat) (T T' : Mat) : Prop where
  to : ∀ i, i < r → spans r w T (T' i)
  back : ∀ i, i < r → spans r w T' (T i)
theorem Same.refl {r w : Nat} {T : Mat} : Same r w T T := ⟨fun i hi => spans_row hi, fun i hi => spans_row hi⟩
theorem Same.trans {r w : Nat} {T T' T'' : Mat} (h : Same r w T T') (h' : Same r w T' T'') : Same r w T T'' :=
  ⟨fun i hi => spans_trans (h'.to i hi) h.to, fun i hi => spans_trans (h.back i hi) h'.back⟩
theorem Same.symm {r w : Nat} {T T' : Mat} (h : Same r w T T') : Same r w T' T := ⟨h.back, h.to⟩
theorem Same.spans {r w : Nat} {T T' : Mat} (h : Same r w T T') {v : Nat → F} : spans r w T v ↔ Go.Proofs.spans r w T' v := ⟨fun hv => spans_trans hv h.back, fun hv => spans_trans hv h.to⟩
theorem same_add {r w : Nat} {T T' : Mat} {i p : Nat} {g : F} (hi : i < r) (hp : p < r) (hip : i ≠ p) (h1 : ∀ j, j < w → T' i j = T i j ^^^ fmul g (T p j)) (h2 : ∀ a, a < r → a ≠ i → ∀ j, j < w → T' a j = T a j) : Same r w T T' := by
  refine ⟨fun a ha => ?_, fun a ha => ?_⟩
  · by_cases hai : a = i
    · subst hai
      exact spans_congr (spans_xor (spans_row ha) (spans_mul (c := g) (spans_row hp))) h1
    · exact spans_congr (spans_row ha) (h2 a ha hai)
  · by_cases hai : a = i
    · subst hai
      refine spans_congr (spans_xor (spans_row ha) (spans_mul (c := g) (spans_row hp))) fun j hj => ?_
      rw [h1 j hj, h2 p hp (Ne.symm hip) j hj, xor_cancelF]
    · exact spans_congr (spans_row ha) fun j hj => (h2 a ha hai j hj).symm
theorem same_mul {r w : Nat} {T T' : Mat} {i : Nat} {g : F} (hi : i < r) (hg : g ≠ 0) (h1 : ∀ j, j < w → T' i j = fmul (T i j) g) (h2 : ∀ a, a < r → a ≠ i → ∀ j, j < w → T' a j = T a j) : Same r w T T' := by
  refine ⟨fun a ha => ?_, fun a ha => ?_⟩
  · by_cases hai : a = i
    · subst hai
      exact spans_congr (spans_mul (c := g) (spans_row ha)) fun j hj => by rw [h1 j hj, fmul_comm]
    · exact spans_congr (spans_row ha) (h2 a ha hai)
  · by_cases hai : a = i
    · subst hai
      refine spans_congr (spans_mul (c := finv g) (spans_row ha)) fun j hj => ?_
      rw [h1 j hj, fmul_comm, fmul_assoc, fmul_finv hg, fmul_one]
    · exact spans_congr (spans_row ha) fun j hj => (h2 a ha hai j hj).symm
def lead (r w : Nat) (T : Mat) (c : Nat) : Prop := ∃ v, spans r w T v ∧ (∀ j, j < c → v j = 0) ∧ v c ≠ 0
open Classical in
noncomputable def cnt (r w : Nat) (T : Mat) : Nat → Nat
  | 0 => 0
  | c + 1 => cnt r w T c + if lead r w T c then 1 else 0
theorem Same.lead {r w : Nat} {T T' : Mat} (h : Same r w T T') {c : Nat} : lead r w T c ↔ Go.Proofs.lead r w T' c := by
  unfold Go.Proofs.lead
  simp only [h.spans]
theorem cnt_le {r w : Nat} {T : Mat} : ∀ c, cnt r w T c ≤ c
  | 0 => Nat.le_refl _
  | c + 1 => by
    have := cnt_le (r := r) (w := w) (T := T) c
    unfold cnt; split <;> omega
theorem cnt_mono {r w : Nat} {T : Mat} {c : Nat} : ∀ d, cnt r w T c ≤ cnt r w T (c + d)
  | 0 => Nat.le_refl _
  | d + 1 => by
    have := cnt_mono (r := r) (w := w) (T := T) (c := c) d
    rw [← Nat.add_assoc]
    conv => rhs; unfold cnt
    omega
theorem cnt_lead {r w : Nat} {T : Mat} {c : Nat} (h : lead r w T c) : cnt r w T (c + 1) = cnt r w T c + 1 := by rw [cnt, if_pos h]
theorem cnt_not {r w : Nat} {T : Mat} {c : Nat} (h : ¬ lead r w T c) : cnt r w T (c + 1) = cnt r w T c := by rw [cnt, if_neg h]; rfl
theorem cnt_lt {r w : Nat} {T : Mat} {c c' : Nat} (h : lead r w T c) (hlt : c < c') : cnt r w T c < cnt r w T c' := by
  have := cnt_mono (r := r) (w := w) (T := T) (c := c + 1) (c' - (c + 1))
  rw [show c + 1 + (c' - (c + 1)) = c' by omega, cnt_lead h] at this
  omega
theorem cnt_inj {r w : Nat} {T : Mat} {c c' : Nat} (h : lead r w T c) (h' : lead r w T c') (he : cnt r w T c = cnt r w T c') : c = c' := by
  rcases Nat.lt_trichotomy c c' with h1 | h1 | h1
  · have := cnt_lt h h1; omega
  · exact h1
  · have := cnt_lt h' h1; omega
theorem cnt_onto {r w : Nat} {T : Mat} : ∀ {c i : Nat}, i < cnt r w T c → ∃ c', c' < c ∧ lead r w T c' ∧ cnt r w T c' = i
  | 0, i, h => by simp [cnt] at h
  | c + 1, i, h => by
    by_cases hl : lead r w T c
    · rw [cnt_lead hl] at h
      by_cases hi : i = cnt r w T c
      · exact ⟨c, by omega, hl, hi.symm⟩
      · obtain ⟨c', h1, h2, h3⟩ := cnt_onto (r := r) (w := w) (T := T) (c := c) (i := i) (by omega)
        exact ⟨c', by omega, h2, h3⟩
    · rw [cnt_not hl] at h
      obtain ⟨c', h1, h2, h3⟩ := cnt_onto (c := c) h
      exact ⟨c', by omega, h2, h3⟩
structure Ech (r w : Nat) (T0 T : Mat) (c rank : Nat) : Prop where
  same : Same r w T0 T
  num : rank = cnt r w T0 c
  le : rank ≤ r
  col : ∀ c', c' < c → lead r w T0 c' → ∀ i, i < r → T i c' = del i (cnt r w T0 c')
  low : ∀ i, rank ≤ i → i < r → ∀ c', c' < c → T i c' = 0
theorem ech_start {r w : Nat} {T : Mat} : Ech r w T T 0 0 := ⟨Same.refl, rfl, Nat.zero_le _, fun c' h => by omega, fun i _ _ c' h => by omega⟩
theorem ech_low {r w : Nat} {T0 T : Mat} {c rank : Nat} (h : Ech r w T0 T c rank) (hc : c ≤ w) {v : Nat → F} (hv : spans r w T0 v) (h0 : ∀ j, j < c → v j = 0) :
    ∃ x : Nat → F, (∀ i, i < rank → x i = 0) ∧ ∀ j, j < w → v j = fsum (fun i => fmul (x i) (T i j)) r := by
  obtain ⟨x, hx⟩ := h.same.spans.1 hv
  refine ⟨x, fun i hi => ?_, hx⟩
  rw [h.num] at hi
  obtain ⟨c', h1, h2, h3⟩ := cnt_onto hi
  have hle := h.le
  have h4 := hx c' (by omega)
  rw [h0 c' h1, fsum_congr fun a ha => by rw [h.col c' h1 h2 a ha, h3]] at h4
  rw [fsum_del' (f := x) (by have := h.num; omega)] at h4
  exact h4.symm
theorem ech_skip {r w : Nat} {T0 T : Mat} {c rank : Nat} (h : Ech r w T0 T c rank) (hc : c < w) (hz : ∀ i, rank ≤ i → i < r → T i c = 0) : Ech r w T0 T (c + 1) rank := by
  have hn : ¬ lead r w T0 c := fun ⟨v, h1, h2, h3⟩ => by
    obtain ⟨x, hx, he⟩ := ech_low h (by omega) h1 h2
    apply h3
    rw [he c hc]
    refine fsum_zero fun i hi => ?_
    by_cases hir : i < rank
    · rw [hx i hir, zero_fmul]
    · rw [hz i (by omega) hi, fmul_zero]
  refine ⟨h.same, by rw [cnt_not hn]; exact h.num, h.le, fun c' hc' hl i hi => ?_, fun i h1 h2 c' hc' => ?_⟩
  · by_cases he : c' = c
    · rw [he] at hl; exact (hn hl).elim
    · exact h.col c' (by omega) hl i hi
  · by_cases he : c' = c
    · rw [he]; exact hz i h1 h2
    · exact h.low i h1 h2 c' (by omega)
theorem ech_step {r w : Nat} {T0 T T' : Mat} {c rank : Nat} (h : Ech r w T0 T c rank) (hc : c < w) (hr : rank < r) (hs : Same r w T T') (hcol : ∀ i, i < r → T' i c = del i rank)
    (hold : ∀ c', c' < c → ∀ i, i < r → T' i c' = T i c') : Ech r w T0 T' (c + 1) (rank + 1) := by
  have hl : lead r w T0 c := by
    refine ⟨T' rank, (h.same.trans hs).spans.2 (spans_row hr), fun j hj => ?_, ?_⟩
    · rw [hold j hj rank hr]; exact h.low rank (Nat.le_refl _) hr j hj
    · rw [hcol rank hr, del, if_pos rfl]; decide
  refine ⟨h.same.trans hs, by rw [cnt_lead hl, ← h.num], hr, fun c' hc' hl' i hi => ?_, fun i h1 h2 c' hc' => ?_⟩
  · by_cases he : c' = c
    · rw [he, hcol i hi, h.num]
    · rw [hold c' (by omega) i hi]; exact h.col c' (by omega) hl' i hi
  · by_cases he : c' = c
    · rw [he, hcol i h2, del, if_neg (by omega)]
    · rw [hold c' (by omega) i h2]; exact h.low i (by omega) h2 c' (by omega)
theorem cnt_full {r w : Nat} {T : Mat} : ∀ {n : Nat}, cnt r w T n = n → ∀ c, c < n → lead r w T c ∧ cnt r w T c = c
  | 0, _, c, h => by omega
  | n + 1, he, c, h => by
    by_cases hl : lead r w T n
    · rw [cnt_lead hl] at he
      by_cases hc : c = n
      · exact ⟨by rw [hc]; exact hl, by rw [hc]; omega⟩
      · exact cnt_full (n := n) (by omega) c (by omega)
    · rw [cnt_not hl] at he
      have := cnt_le (r := r) (w := w) (T := T) n
      omega
theorem ech_full {r w : Nat} {T0 T : Mat} {n : Nat} (h : Ech r w T0 T n n) : ∀ i, i < r → ∀ c, c < n → T i c = del i c := fun i hi c hc => by
  obtain ⟨h1, h2⟩ := cnt_full h.num.symm c hc
  rw [h.col c hc h1 i hi, h2]
theorem ech_null {r w : Nat} {T0 T : Mat} {n rank : Nat} (h : Ech r w T0 T n rank) (hn : n ≤ w) (hlt : rank < n) : ∃ y : Nat → F, (∃ c, c < n ∧ y c ≠ 0) ∧ ∀ i, i < r → fsum (fun j => fmul (T0 i j) (y j)) n = 0 := by
  have hex : ∃ c, c < n ∧ ¬ lead r w T0 c := by
    refine Classical.byContradiction fun hno => ?_
    have hall : ∀ c, c < n → lead r w T0 c := fun c hc => Classical.byContradiction fun hl => hno ⟨c, hc, hl⟩
    have : ∀ c, c ≤ n → cnt r w T0 c = c := fun c => by
      induction c with
      | zero => intro _; rfl
      | succ c ih => intro hc; rw [cnt_lead (hall c (by omega)), ih (by omega)]
    have := this n (Nat.le_refl _)
    have := h.num
    omega
  obtain ⟨c, hc, hnl⟩ := hex
  let y : Nat → F := fun j => open Classical in if j = c then 1 else if lead r w T0 j then T (cnt r w T0 j) c else 0
  have hyc : y c = 1 := by simp [y]
  have hT : ∀ i, i < r → fsum (fun j => fmul (T i j) (y j)) n = 0 := fun i hi => by
    have hsplit : fsum (fun j => fmul (T i j) (y j)) n = fsum (fun j => fmul (if j = c then T i c else 0) 1) n ^^^ fsum (fun j => open Classical in if j ≠ c ∧ lead r w T0 j then fmul (del i (cnt r w T0 j)) (T (cnt r w T0 j) c) else 0) n := by
      rw [← fsum_xor]
      refine fsum_congr fun j hj => ?_
      by_cases hjc : j = c
      · subst hjc
        simp only [hyc, fmul_one, if_true, ne_eq, not_true, false_and, if_false, xor_zero']
      · simp only [if_neg hjc, zero_fmul, zero_xor']
        by_cases hl : lead r w T0 j
        · rw [if_pos ⟨hjc, hl⟩, h.col j hj hl i hi]; simp only [y, if_neg hjc, if_pos hl]
        · rw [if_neg fun hh => hl hh.2]; simp only [y, if_neg hjc, if_neg hl, fmul_zero]
    rw [hsplit, fsum_one hc fun j _ hj => by rw [if_neg hj, zero_fmul], if_pos rfl, fmul_one]
    by_cases hir : i < rank
    · rw [h.num] at hir
      obtain ⟨c', h1, h2, h3⟩ := cnt_onto hir
      have hcc : c' ≠ c := fun e => hnl (e ▸ h2)
      rw [fsum_one (k := c') h1 fun j hj hjc => ?_, if_pos ⟨hcc, h2⟩, h3, del, if_pos rfl, one_fmul, xor_self']
      split
      · rename_i hh
        rw [del, if_neg, zero_fmul]
        intro e
        exact hjc (cnt_inj hh.2 h2 (by rw [h3, e]))
      · rfl
    · rw [h.low i (by omega) hi c hc, zero_xor']
      refine fsum_zero fun j hj => ?_
      split
      · rename_i hh
        rw [del, if_neg, zero_fmul]
        have := cnt_lt hh.2 hj
        have := h.num
        omega
      · rfl
  refine ⟨y, ⟨c, hc, by rw [hyc]; decide⟩, fun i hi => ?_⟩
  obtain ⟨x, hx⟩ := h.same.back i hi
  rw [fsum_congr fun j hj => by rw [hx j (by omega), ← fsum_mul'], fsum_swap]
  refine fsum_zero fun a ha => ?_
  rw [fsum_congr (g := fun j => fmul (x a) (fmul (T a j) (y j))) fun j _ => fmul_assoc, fsum_mul, hT a ha, fmul_zero]
end Go.Proofs

set_option linter.unusedSimpArgs false
set_option linter.unusedVariables false
namespace Go.Proofs
open Go Go.Eng

def hornF (x : F) : List F → F
  | [] => 0
  | c :: l => fmul (hornF x l) x ^^^ c
theorem horn_nil {x : F} : hornF x [] = 0 := rfl
theorem horn_one {x c : F} : hornF x [c] = c := by rw [hornF, horn_nil, zero_fmul, zero_xor']
def divL (r : F) : List F → List F
  | [] => []
  | [_] => []
  | _ :: c' :: l => hornF r (c' :: l) :: divL r (c' :: l)
theorem divL_len {r : F} : ∀ {l : List F}, (divL r l).length = l.length - 1
  | [] => rfl
  | [_] => rfl
  | _ :: c' :: l => by simp only [divL, List.length_cons, divL_len (l := c' :: l)]; omega
theorem horn_div {x r : F} : ∀ {l : List F}, hornF x l ^^^ hornF r l = fmul (x ^^^ r) (hornF x (divL r l))
  | [] => by rw [divL, horn_nil, horn_nil, xor_self', fmul_zero]
  | [c] => by rw [divL, horn_one, horn_one, horn_nil, xor_self', fmul_zero]
  | c :: c' :: l => by
    have ih := horn_div (x := x) (r := r) (l := c' :: l)
    rw [divL, show hornF x (c :: c' :: l) = fmul (hornF x (c' :: l)) x ^^^ c from rfl, show hornF r (c :: c' :: l) = fmul (hornF r (c' :: l)) r ^^^ c from rfl]
    conv => rhs; rw [hornF]
    have h1 : ∀ a b d : F, a ^^^ b = fmul (x ^^^ r) d → fmul a x ^^^ c ^^^ (fmul b r ^^^ c) = fmul (x ^^^ r) (fmul d x ^^^ b) := fun a b d h => by
      rw [xor_swap, xor_self', xor_zero', xor_fmul (z := x ^^^ r), ← fmul_assoc, ← h, fmul_xor, fmul_comm (x := x ^^^ r), xor_fmul, ← BitVec.xor_assoc, xor_cancelF]
    exact h1 _ _ _ ih
theorem div_zero {r : F} : ∀ {l : List F} {c : F}, (∀ y ∈ divL r (c :: l), y = 0) → ∀ y ∈ l, y = 0
  | [], _, _ => by simp
  | c' :: l, c, h => by
    simp only [divL, List.mem_cons, forall_eq_or_imp] at h
    have ht := div_zero (l := l) (c := c') h.2
    have hh : hornF r l = 0 := by
      clear h
      induction l with
      | nil => rfl
      | cons a l ih => rw [hornF, ih fun y hy => ht y (List.mem_cons_of_mem _ hy), zero_fmul, ht a (List.mem_cons_self ..), xor_zero']
    have h1 := h.1
    rw [hornF, hh, zero_fmul, zero_xor'] at h1
    intro y hy
    rcases List.mem_cons.1 hy with rfl | hy
    · exact h1
    · exact ht y hy
theorem horn_zero {x : F} : ∀ {l : List F}, (∀ y ∈ l, y = 0) → hornF x l = 0
  | [], _ => rfl
  | a :: l, h => by rw [hornF, horn_zero fun y hy => h y (List.mem_cons_of_mem _ hy), zero_fmul, h a (List.mem_cons_self ..), xor_zero']
def distinct (n : Nat) (xs : Nat → F) : Prop := ∀ i j, i < n → j < n → xs i = xs j → i = j
theorem roots_zero {xs : Nat → F} : ∀ {n : Nat} {l : List F}, l.length ≤ n → distinct n xs → (∀ i, i < n → hornF (xs i) l = 0) → ∀ y ∈ l, y = 0
  | 0, l, hl, _, _ => by
    have : l = [] := List.eq_nil_of_length_eq_zero (by omega)
    rw [this]; simp
  | n + 1, [], _, _, _ => by simp
  | n + 1, c :: t, hl, hd, hr => by
    simp only [List.length_cons] at hl
    have hq := roots_zero (n := n) (l := divL (xs n) (c :: t)) (by rw [divL_len, List.length_cons]; omega) (fun i j hi hj => hd i j (by omega) (by omega)) fun i hi => by
      have h := horn_div (x := xs i) (r := xs n) (l := c :: t)
      rw [hr i (by omega), hr n (by omega), xor_self'] at h
      rcases fmul_eq_zero.1 h.symm with h1 | h1
      · have := hd i n (by omega) (by omega) (xor_eq_zero.1 h1); omega
      · exact h1
    have ht := div_zero hq
    have h1 := hr n (by omega)
    rw [hornF, horn_zero ht, zero_fmul, zero_xor'] at h1
    intro y hy
    rcases List.mem_cons.1 hy with rfl | hy
    · exact h1
    · exact ht y hy
def pval (n : Nat) (y : Nat → F) (x : F) : F := fsum (fun j => fmul (y j) (fpow x j)) n
theorem horn_snoc {x c : F} : ∀ {l : List F}, hornF x (l ++ [c]) = hornF x l ^^^ fmul c (fpow x l.length)
  | [] => by rw [List.nil_append, horn_one, horn_nil, zero_xor', List.length_nil, fpow, fmul_one]
  | a :: l => by
    rw [List.cons_append, hornF, horn_snoc (l := l), hornF, fmul_xor, List.length_cons, fpow, BitVec.xor_assoc, BitVec.xor_assoc, fmul_assoc, BitVec.xor_comm a]
theorem horn_pval {y : Nat → F} {x : F} : ∀ n, hornF x ((List.range n).map y) = pval n y x
  | 0 => rfl
  | n + 1 => by
    rw [List.range_succ, List.map_append, List.map_cons, List.map_nil, horn_snoc, horn_pval n]
    simp [pval, fsum]
theorem pval_roots {n : Nat} {y : Nat → F} {xs : Nat → F} (hd : distinct n xs) (h : ∀ i, i < n → pval n y (xs i) = 0) : ∀ j, j < n → y j = 0 := fun j hj => by
  have := roots_zero (l := (List.range n).map y) (by simp) hd (fun i hi => by rw [horn_pval]; exact h i hi) (y j)
  exact this (List.mem_map.2 ⟨j, List.mem_range.2 hj, rfl⟩)
theorem horn_getD {x : F} {l : List F} {n : Nat} (hl : l.length ≤ n) : hornF x l = pval n (fun j => l.getD j 0) x := by
  have h1 : ∀ m, pval (l.length + m) (fun j => l.getD j 0) x = pval l.length (fun j => l.getD j 0) x := fun m => by
    induction m with
    | zero => rfl
    | succ m ih =>
      rw [← Nat.add_assoc, pval, fsum]
      rw [show fsum (fun j => fmul (l.getD j 0) (fpow x j)) (l.length + m) = pval (l.length + m) (fun j => l.getD j 0) x from rfl, ih]
      rw [show l.getD (l.length + m) 0 = 0 by rw [List.getD_eq_getElem?_getD, List.getElem?_eq_none (by omega)]; rfl, zero_fmul, xor_zero']
  rw [show n = l.length + (n - l.length) by omega, h1, ← horn_pval]
  congr 1
  apply List.ext_getElem?
  intro j
  by_cases hj : j < l.length
  · simp [List.getElem?_range hj, List.getD_eq_getElem?_getD, List.getElem?_eq_getElem hj]
  · simp [hj]

def fprod (f : Nat → F) : Nat → F
  | 0 => 1
  | n + 1 => fmul (fprod f n) (f n)
theorem fprod_congr {f g : Nat → F} {n : Nat} (h : ∀ i, i < n → f i = g i) : fprod f n = fprod g n := by
  induction n with
  | zero => rfl
  | succ n ih => rw [fprod, fprod, ih fun i hi => h i (by omega), h n (by omega)]
theorem fprod_ne {f : Nat → F} {n : Nat} (h : ∀ i, i < n → f i ≠ 0) : fprod f n ≠ 0 := by
  induction n with
  | zero => exact (by decide : (1 : F) ≠ 0)
  | succ n ih => exact fmul_ne_zero (ih fun i hi => h i (by omega)) (h n (by omega))
theorem fprod_zero {f : Nat → F} {n k : Nat} (hk : k < n) (h : f k = 0) : fprod f n = 0 := by
  induction n with
  | zero => omega
  | succ n ih =>
    rw [fprod]
    by_cases hkn : k = n
    · rw [← hkn, h, fmul_zero]
    · rw [ih (by omega), zero_fmul]
theorem fprod_out {f : Nat → F} {n k : Nat} (hk : k < n) : fprod f n = fmul (f k) (fprod (fun m => if m = k then 1 else f m) n) := by
  induction n with
  | zero => omega
  | succ n ih =>
    rw [fprod, fprod]
    by_cases hkn : k = n
    · subst hkn
      rw [if_pos rfl, fmul_one, fmul_comm, fprod_congr (g := fun m => if m = k then 1 else f m) fun i hi => by rw [if_neg (by omega)]]
    · rw [ih (by omega), if_neg (by omega), fmul_assoc]
def byGo (r : F) : F → List F → List F
  | p, [] => [p]
  | p, c :: l => (p ^^^ fmul r c) :: byGo r c l
theorem byGo_len {r : F} : ∀ {p : F} {l : List F}, (byGo r p l).length = l.length + 1
  | _, [] => rfl
  | _, c :: l => by simp [byGo, byGo_len]
theorem byGo_horn {r x : F} : ∀ {p : F} {l : List F}, hornF x (byGo r p l) = p ^^^ fmul (x ^^^ r) (hornF x l)
  | p, [] => by rw [byGo, horn_one, horn_nil, fmul_zero, xor_zero']
  | p, c :: l => by
    rw [byGo, hornF, byGo_horn, hornF, fmul_xor, xor_fmul, BitVec.xor_comm _ (p ^^^ fmul r c), BitVec.xor_assoc, fmul_xor (x := x) (y := r) (z := c), ← fmul_assoc]
    congr 1
    rw [fmul_comm (x := c) (y := x), ← BitVec.xor_assoc, BitVec.xor_comm (fmul r c), BitVec.xor_comm]
theorem prod_poly (xs : Nat → F) (i : Nat) : ∀ n, ∃ l : List F, l.length = (if i < n then n else n + 1) ∧ ∀ x, hornF x l = fprod (fun m => if m = i then 1 else x ^^^ xs m) n
  | 0 => ⟨[1], by simp, fun x => by rw [horn_one, fprod]⟩
  | n + 1 => by
    obtain ⟨l, h1, h2⟩ := prod_poly xs i n
    by_cases hn : n = i
    · subst hn
      refine ⟨l, by rw [h1]; simp, fun x => by rw [h2, fprod, if_pos rfl, fmul_one]⟩
    · refine ⟨byGo (xs n) 0 l, ?_, fun x => ?_⟩
      · rw [byGo_len, h1]; split <;> split <;> omega
      · rw [byGo_horn, h2, fprod, if_neg hn, zero_xor', fmul_comm]
def lagF (n : Nat) (xs : Nat → F) (x : F) (i : Nat) : F := fmul (fprod (fun m => if m = i then 1 else x ^^^ xs m) n) (finv (fprod (fun m => if m = i then 1 else xs i ^^^ xs m) n))
theorem lag_del {n : Nat} {xs : Nat → F} (hd : distinct n xs) {i k : Nat} (hi : i < n) (hk : k < n) : lagF n xs (xs k) i = del i k := by
  unfold lagF del
  by_cases hik : i = k
  · subst hik
    rw [if_pos rfl, fmul_finv]
    refine fprod_ne fun m hm => ?_
    split
    · decide
    · rename_i hmi
      exact fun h => hmi (hd i m hi hm (xor_eq_zero.1 h)).symm
  · rw [if_neg hik, fprod_zero (k := k) hk (by rw [if_neg (Ne.symm hik)]; exact xor_self'), zero_fmul]
theorem lagrange {n : Nat} {xs : Nat → F} (hd : distinct n xs) {y : Nat → F} {x : F} : pval n y x = fsum (fun i => fmul (lagF n xs x i) (pval n y (xs i))) n := by
  have hex : ∀ i, ∃ l : Nat → F, i < n → ∀ x, pval n l x = lagF n xs x i := fun i => by
    obtain ⟨l, h1, h2⟩ := prod_poly xs i n
    refine ⟨fun j => fmul (l.getD j 0) (finv (fprod (fun m => if m = i then 1 else xs i ^^^ xs m) n)), fun hi x => ?_⟩
    rw [lagF, ← h2 x, horn_getD (n := n) (by rw [h1, if_pos hi]; exact Nat.le_refl _), pval, pval, ← fsum_mul']
    refine fsum_congr fun j _ => ?_
    rw [fmul_assoc, fmul_comm (x := finv _), ← fmul_assoc]
  let lc : Nat → Nat → F := fun i => (hex i).choose
  have hlc : ∀ i, i < n → ∀ x, pval n (lc i) x = lagF n xs x i := fun i hi => (hex i).choose_spec hi
  let S : Nat → F := fun j => y j ^^^ fsum (fun i => fmul (pval n y (xs i)) (lc i j)) n
  have hS : ∀ x, pval n S x = pval n y x ^^^ fsum (fun i => fmul (lagF n xs x i) (pval n y (xs i))) n := fun x => by
    have h1 : pval n S x = pval n y x ^^^ fsum (fun j => fsum (fun i => fmul (pval n y (xs i)) (fmul (lc i j) (fpow x j))) n) n := by
      simp only [pval]
      rw [← fsum_xor]
      refine fsum_congr fun j _ => ?_
      simp only [S]
      rw [fmul_xor]
      congr 1
      rw [← fsum_mul']
      exact fsum_congr fun i _ => fmul_assoc
    rw [h1, fsum_swap]
    congr 1
    refine fsum_congr fun i hi => ?_
    rw [fsum_mul, ← hlc i hi x, fmul_comm]
    rfl
  have h0 := pval_roots (y := S) hd fun k hk => by
    rw [hS, fsum_congr fun i hi => by rw [lag_del hd hi hk], fsum_del (f := fun i => pval n y (xs i)) hk, xor_self']
  have := hS x
  rw [show pval n S x = 0 from fsum_zero fun j hj => by rw [h0 j hj, zero_fmul]] at this
  exact xor_eq_zero.1 this.symm
theorem vander_inj {n : Nat} {xs : Nat → F} (hd : distinct n xs) {y : Nat → F} (h : ∀ i, i < n → fsum (fun j => fmul (fpow (xs i) j) (y j)) n = 0) : ∀ j, j < n → y j = 0 :=
  pval_roots hd fun i hi => by
    rw [pval, ← h i hi]
    exact fsum_congr fun j _ => fmul_comm
end Go.Proofs

set_option linter.unusedSimpArgs false
set_option linter.unusedVariables false
namespace Go.Proofs
open Go Go.Eng

def bytesL (l : List Int) : Prop := ∀ x ∈ l, isB x
theorem bytesL_get {l : List Int} (h : bytesL l) (i : Nat) : isB (l.getD i 0) := by
  rw [List.getD_eq_getElem?_getD]
  by_cases hi : i < l.length
  · rw [List.getElem?_eq_getElem hi]; exact h _ (List.getElem_mem hi)
  · rw [List.getElem?_eq_none (by omega)]; exact ⟨by simp, by simp⟩
def matL (ca : Nat) (l : List Int) : Mat := fun i j => toF (l.getD (i * ca + j) 0)
def augL (ca cb : Nat) (a b : List Int) : Mat := fun i j => if j < ca then matL ca a i j else matL cb b i (j - ca)
theorem row_in {i i' ca j : Nat} (hj : j < ca) : (i * ca ≤ i' * ca + j ∧ i' * ca + j < i * ca + ca) ↔ i' = i := by
  constructor
  · intro ⟨h1, h2⟩
    rcases Nat.lt_trichotomy i' i with h | h | h
    · have := Nat.mul_le_mul_right ca (show i' + 1 ≤ i by omega)
      rw [Nat.add_mul, Nat.one_mul] at this; omega
    · exact h
    · have := Nat.mul_le_mul_right ca (show i + 1 ≤ i' by omega)
      rw [Nat.add_mul, Nat.one_mul] at this; omega
  · rintro rfl; omega
theorem cell_lt {i r ca j : Nat} (hi : i < r) (hj : j < ca) : i * ca + j < r * ca := by
  have := Nat.mul_le_mul_right ca (show i + 1 ≤ r by omega)
  rw [Nat.add_mul, Nat.one_mul] at this; omega
theorem row_le {i r ca : Nat} (hi : i < r) : i * ca + ca ≤ r * ca := by
  have := Nat.mul_le_mul_right ca (show i + 1 ≤ r by omega)
  rwa [Nat.add_mul, Nat.one_mul] at this
theorem addToL_bytes {l s : List Int} {off : Nat} {c : Int} (h : bytesL l) : bytesL (addToL l off s c) := fun x hx => by
  obtain ⟨i, hi⟩ := List.getElem?_of_mem hx
  rw [addToL_get] at hi
  obtain ⟨y, hy, rfl⟩ := Option.map_eq_some_iff.1 hi
  split
  · exact xorB_isB
  · exact h y (List.mem_of_getElem? hy)
theorem scaleL_bytes {l : List Int} {off n : Nat} {c : Int} (h : bytesL l) (hc : isB c) : bytesL (scaleL l off n c) := fun x hx => by
  obtain ⟨i, hi⟩ := List.getElem?_of_mem hx
  rw [scaleL_get] at hi
  obtain ⟨y, hy, rfl⟩ := Option.map_eq_some_iff.1 hi
  have := h y (List.mem_of_getElem? hy)
  split
  · exact mulF_isB this hc
  · exact this
theorem matL_add {ca r i p : Nat} {a : List Int} {g : Int} (ha : a.length = r * ca) (hb : bytesL a) (hg : isB g) (hi : i < r) (hp : p < r) {i' j : Nat} (hi' : i' < r) (hj : j < ca) :
    matL ca (addToL a (i * ca) (seg a (p * ca) ca) g) i' j = if i' = i then matL ca a i j ^^^ fmul (toF g) (matL ca a p j) else matL ca a i' j := by
  have hlt := cell_lt hi' hj
  have hsl : (seg a (p * ca) ca).length = ca := seg_len (by rw [ha]; exact row_le hp)
  unfold matL
  rw [List.getD_eq_getElem?_getD, addToL_get, List.getElem?_eq_getElem (by omega), Option.map_some, Option.getD_some, hsl]
  by_cases he : i' = i
  · subst he
    rw [if_pos ⟨by omega, by omega⟩, if_pos rfl, show i' * ca + j - i' * ca = j by omega]
    have hs : (seg a (p * ca) ca).getD j 0 = a.getD (p * ca + j) 0 := by
      rw [List.getD_eq_getElem?_getD, seg_get, if_pos hj, List.getD_eq_getElem?_getD]
    rw [hs, toF_xorB, toF_mulF hg (bytesL_get hb _), List.getD_eq_getElem?_getD (l := a) (i := i' * ca + j), List.getElem?_eq_getElem (by omega), Option.getD_some]
  · rw [if_neg (fun h => he ((row_in hj).1 h)), if_neg he, List.getD_eq_getElem?_getD, List.getElem?_eq_getElem (by omega), Option.getD_some]
theorem matL_scale {ca r i : Nat} {a : List Int} {g : Int} (ha : a.length = r * ca) (hb : bytesL a) (hg : isB g) (hi : i < r) {i' j : Nat} (hi' : i' < r) (hj : j < ca) :
    matL ca (scaleL a (i * ca) ca g) i' j = if i' = i then fmul (matL ca a i j) (toF g) else matL ca a i' j := by
  have hlt := cell_lt hi' hj
  unfold matL
  rw [List.getD_eq_getElem?_getD, scaleL_get, List.getElem?_eq_getElem (by omega), Option.map_some, Option.getD_some]
  by_cases he : i' = i
  · subst he
    rw [if_pos ⟨by omega, by omega⟩, if_pos rfl, List.getD_eq_getElem?_getD, List.getElem?_eq_getElem (by omega), Option.getD_some, toF_mulF (hb _ (List.getElem_mem _)) hg]
  · rw [if_neg (fun h => he ((row_in hj).1 h)), if_neg he, List.getD_eq_getElem?_getD, List.getElem?_eq_getElem (by omega), Option.getD_some]
structure Two (r ca cb : Nat) (a b : List Int) : Prop where
  la : a.length = r * ca
  lb : b.length = r * cb
  ba : bytesL a
  bb : bytesL b
variable {r ca cb : Nat} {a b : List Int}
theorem Two.add (h : Two r ca cb a b) {i p : Nat} {g : Int} : Two r ca cb (addToL a (i * ca) (seg a (p * ca) ca) g) (addToL b (i * cb) (seg b (p * cb) cb) g) :=
  ⟨by rw [addToL_len, h.la], by rw [addToL_len, h.lb], addToL_bytes h.ba, addToL_bytes h.bb⟩
theorem Two.scale (h : Two r ca cb a b) {i : Nat} {g : Int} (hg : isB g) : Two r ca cb (scaleL a (i * ca) ca g) (scaleL b (i * cb) cb g) :=
  ⟨by rw [scaleL_len, h.la], by rw [scaleL_len, h.lb], scaleL_bytes h.ba hg, scaleL_bytes h.bb hg⟩
theorem aug_add (h : Two r ca cb a b) {i p : Nat} {g : Int} (hg : isB g) (hi : i < r) (hp : p < r) {i' j : Nat} (hi' : i' < r) (hj : j < ca + cb) :
    augL ca cb (addToL a (i * ca) (seg a (p * ca) ca) g) (addToL b (i * cb) (seg b (p * cb) cb) g) i' j = if i' = i then augL ca cb a b i j ^^^ fmul (toF g) (augL ca cb a b p j) else augL ca cb a b i' j := by
  unfold augL
  by_cases hjc : j < ca
  · simp only [if_pos hjc]; exact matL_add h.la h.ba hg hi hp hi' hjc
  · simp only [if_neg hjc]; exact matL_add h.lb h.bb hg hi hp hi' (by omega)
theorem aug_scale (h : Two r ca cb a b) {i : Nat} {g : Int} (hg : isB g) (hi : i < r) {i' j : Nat} (hi' : i' < r) (hj : j < ca + cb) :
    augL ca cb (scaleL a (i * ca) ca g) (scaleL b (i * cb) cb g) i' j = if i' = i then fmul (augL ca cb a b i j) (toF g) else augL ca cb a b i' j := by
  unfold augL
  by_cases hjc : j < ca
  · simp only [if_pos hjc]; exact matL_scale h.la h.ba hg hi hi' hjc
  · simp only [if_neg hjc]; exact matL_scale h.lb h.bb hg hi hi' (by omega)
theorem aug_left {c i : Nat} (hc : c < ca) : augL ca cb a b i c = toF (a.getD (i * ca + c) 0) := by rw [augL, if_pos hc, matL]
theorem piv_facts (a : List Int) (ca c : Nat) : ∀ n p, p ≤ pivF a ca c p n ∧ pivF a ca c p n ≤ p + n ∧ (pivF a ca c p n < p + n → a.getD (pivF a ca c p n * ca + c) 0 ≠ 0) ∧ ∀ i, p ≤ i → i < pivF a ca c p n → a.getD (i * ca + c) 0 = 0
  | 0, p => by simp only [pivF]; exact ⟨Nat.le_refl _, Nat.le_refl _, fun h => by omega, fun i h1 h2 => by omega⟩
  | n + 1, p => by
    obtain ⟨h1, h2, h3, h4⟩ := piv_facts a ca c n (p + 1)
    simp only [pivF]
    split
    · rename_i hz
      refine ⟨by omega, by omega, fun h => h3 (by omega), fun i hi1 hi2 => ?_⟩
      by_cases hip : i = p
      · rw [hip]; exact hz
      · exact h4 i (by omega) hi2
    · rename_i hz
      exact ⟨Nat.le_refl _, by omega, fun _ => hz, fun i h1 h2 => by omega⟩
theorem Two.rows (h : Two r ca cb a b) {rank c : Nat} : ∀ i, Two r ca cb (elimRows ca cb rank c a b i).1 (elimRows ca cb rank c a b i).2
  | 0 => h
  | i + 1 => by
    have ih := Two.rows h (rank := rank) (c := c) i
    simp only [elimRows]
    split
    · exact ih
    · exact ih.add
theorem aug_rows (h : Two r ca cb a b) {rank c : Nat} (hr : rank < r) (hc : c < ca) : ∀ i, i ≤ r →
    (∀ i' j, i' < r → j < ca + cb → augL ca cb (elimRows ca cb rank c a b i).1 (elimRows ca cb rank c a b i).2 i' j = if i' < i ∧ i' ≠ rank then augL ca cb a b i' j ^^^ fmul (augL ca cb a b i' c) (augL ca cb a b rank j) else augL ca cb a b i' j) ∧
    Same r (ca + cb) (augL ca cb a b) (augL ca cb (elimRows ca cb rank c a b i).1 (elimRows ca cb rank c a b i).2)
  | 0, _ => ⟨fun i' j _ _ => by rw [if_neg (by omega)]; rfl, Same.refl⟩
  | i + 1, hi => by
    obtain ⟨ih, ihs⟩ := aug_rows h hr hc i (by omega)
    have hT := h.rows (rank := rank) (c := c) i
    simp only [elimRows]
    by_cases hir : i = rank
    · rw [if_pos hir]
      refine ⟨fun i' j hi' hj => ?_, ihs⟩
      rw [ih i' j hi' hj]
      by_cases h1 : i' < i ∧ i' ≠ rank
      · rw [if_pos h1, if_pos ⟨by omega, h1.2⟩]
      · rw [if_neg h1, if_neg (by omega)]
    · rw [if_neg hir]
      simp only
      have hg := bytesL_get hT.ba (i * ca + c)
      have hgv : toF ((elimRows ca cb rank c a b i).1.getD (i * ca + c) 0) = augL ca cb a b i c := by
        rw [← aug_left (cb := cb) (b := (elimRows ca cb rank c a b i).2) hc, ih i c (by omega) (by omega), if_neg (by omega)]
      have hstep := fun i' j (hi' : i' < r) (hj : j < ca + cb) => aug_add hT (g := (elimRows ca cb rank c a b i).1.getD (i * ca + c) 0) hg (show i < r by omega) hr hi' hj
      refine ⟨fun i' j hi' hj => ?_, ihs.trans (same_add (i := i) (p := rank) (g := toF ((elimRows ca cb rank c a b i).1.getD (i * ca + c) 0)) (by omega) hr hir (fun j hj => by rw [hstep i j (by omega) hj, if_pos rfl]) fun a' ha' hne j hj => by rw [hstep a' j ha' hj, if_neg hne])⟩
      rw [hstep i' j hi' hj]
      by_cases he : i' = i
      · subst he
        rw [if_pos rfl, hgv, ih i' j hi' hj, if_neg (by omega), ih rank j hr hj, if_neg (by omega), if_pos ⟨by omega, hir⟩]
      · rw [if_neg he, ih i' j hi' hj]
        by_cases h1 : i' < i ∧ i' ≠ rank
        · rw [if_pos h1, if_pos ⟨by omega, h1.2⟩]
        · rw [if_neg h1, if_neg (by omega)]
theorem elim_step {T0 : Mat} {c rank : Nat} (h2 : Two r ca cb a b) (h : Ech r (ca + cb) T0 (augL ca cb a b) c rank) (hc : c < ca) :
    Two r ca cb (elimStep r ca cb c (a, b, rank)).1 (elimStep r ca cb c (a, b, rank)).2.1 ∧ Ech r (ca + cb) T0 (augL ca cb (elimStep r ca cb c (a, b, rank)).1 (elimStep r ca cb c (a, b, rank)).2.1) (c + 1) (elimStep r ca cb c (a, b, rank)).2.2 := by
  unfold elimStep
  simp only
  by_cases hr : r ≤ rank
  · rw [if_pos hr]
    exact ⟨h2, ech_skip h (by omega) fun i (h1 : rank ≤ i) h3 => by omega⟩
  rw [if_neg hr]
  obtain ⟨p1, p2, p3, p4⟩ := piv_facts a ca c (r - rank) rank
  by_cases hp : pivF a ca c rank (r - rank) = r
  · rw [if_pos hp]
    refine ⟨h2, ech_skip h (by omega) fun i (h1 : rank ≤ i) h3 => ?_⟩
    rw [aug_left hc, p4 i h1 (by omega)]; rfl
  rw [if_neg hp]
  simp only
  generalize hpv : pivF a ca c rank (r - rank) = p at p1 p2 p3 p4 hp
  have hpr : p < r := by omega
  have hnz := p3 (by omega)
  have hmid : elimMid r ca cb c (a, b, rank) = scaleR ca cb rank c (swapR ca cb rank p a b).1 (swapR ca cb rank p a b).2 := by
    unfold elimMid; simp only [hpv]
  -- the pivot's row is added
  have h1 : Two r ca cb (swapR ca cb rank p a b).1 (swapR ca cb rank p a b).2 ∧ Same r (ca + cb) (augL ca cb a b) (augL ca cb (swapR ca cb rank p a b).1 (swapR ca cb rank p a b).2) ∧
      augL ca cb (swapR ca cb rank p a b).1 (swapR ca cb rank p a b).2 rank c ≠ 0 ∧ (∀ i j, i < r → j < ca + cb → i ≠ rank → augL ca cb (swapR ca cb rank p a b).1 (swapR ca cb rank p a b).2 i j = augL ca cb a b i j) ∧
      ∀ c', c' < c → augL ca cb (swapR ca cb rank p a b).1 (swapR ca cb rank p a b).2 rank c' = 0 := by
    have hpc : augL ca cb a b p c ≠ 0 := by
      rw [aug_left hc]
      intro h0
      exact hnz ((toF_eq_zero (bytesL_get h2.ba _)).1 h0)
    unfold swapR
    by_cases hpe : p = rank
    · rw [if_pos hpe]
      exact ⟨h2, Same.refl, by rw [← hpe]; exact hpc, fun _ _ _ _ _ => rfl, fun c' hc' => h.low rank (Nat.le_refl _) (by omega) c' hc'⟩
    · rw [if_neg hpe]
      have hst := fun i' j (hi' : i' < r) (hj : j < ca + cb) => aug_add h2 (g := 1) ⟨by omega, by omega⟩ (show rank < r by omega) hpr hi' hj
      have h1 : toF 1 = 1 := rfl
      refine ⟨h2.add, same_add (i := rank) (p := p) (g := toF 1) (by omega) hpr (Ne.symm hpe) (fun j hj => by simp only; rw [hst rank j (by omega) hj, if_pos rfl]) (fun a' ha' hne j hj => by simp only; rw [hst a' j ha' hj, if_neg hne]), ?_, fun i j hi hj hne => by simp only; rw [hst i j hi hj, if_neg hne], fun c' hc' => ?_⟩
      · simp only
        rw [hst rank c (by omega) (by omega), if_pos rfl, h1, one_fmul]
        rw [aug_left hc (i := rank), p4 rank (Nat.le_refl _) (by omega), toF_zero, zero_xor']
        exact hpc
      · simp only
        rw [hst rank c' (by omega) (by omega), if_pos rfl, h1, one_fmul, h.low rank (Nat.le_refl _) (by omega) c' hc', h.low p (by omega) hpr c' hc', xor_zero']
  rw [hmid]
  generalize swapR ca cb rank p a b = s1 at h1
  obtain ⟨t1, same1, nz1, oth1, low1⟩ := h1
  -- it is scaled
  have hgB := invF_isB (bytesL_get t1.ba (rank * ca + c))
  have hgv : toF (invF (s1.1.getD (rank * ca + c) 0)) = finv (augL ca cb s1.1 s1.2 rank c) := by rw [toF_invF (bytesL_get t1.ba _), aug_left hc]
  have t2 : Two r ca cb (scaleR ca cb rank c s1.1 s1.2).1 (scaleR ca cb rank c s1.1 s1.2).2 := t1.scale hgB
  have hsc : ∀ i j, i < r → j < ca + cb → augL ca cb (scaleR ca cb rank c s1.1 s1.2).1 (scaleR ca cb rank c s1.1 s1.2).2 i j = if i = rank then fmul (augL ca cb s1.1 s1.2 rank j) (finv (augL ca cb s1.1 s1.2 rank c)) else augL ca cb s1.1 s1.2 i j := fun i j hi hj => by
    rw [← hgv]
    exact aug_scale t1 hgB (by omega) hi hj
  generalize scaleR ca cb rank c s1.1 s1.2 = s2 at t2 hsc
  have same2 : Same r (ca + cb) (augL ca cb s1.1 s1.2) (augL ca cb s2.1 s2.2) := same_mul (i := rank) (g := finv (augL ca cb s1.1 s1.2 rank c)) (by omega) (finv_ne nz1) (fun j hj => by rw [hsc rank j (by omega) hj, if_pos rfl]) fun a' ha' hne j hj => by rw [hsc a' j ha' hj, if_neg hne]
  have one2 : augL ca cb s2.1 s2.2 rank c = 1 := by rw [hsc rank c (by omega) (by omega), if_pos rfl, fmul_finv nz1]
  have low2 : ∀ c', c' < c → augL ca cb s2.1 s2.2 rank c' = 0 := fun c' hc' => by rw [hsc rank c' (by omega) (by omega), if_pos rfl, low1 c' hc', zero_fmul]
  have oth2 : ∀ i j, i < r → j < ca + cb → i ≠ rank → augL ca cb s2.1 s2.2 i j = augL ca cb a b i j := fun i j hi hj hne => by rw [hsc i j hi hj, if_neg hne, oth1 i j hi hj hne]
  -- the others are cleared
  obtain ⟨r3, same3⟩ := aug_rows t2 (rank := rank) (c := c) (by omega) hc r (Nat.le_refl _)
  refine ⟨t2.rows r, ech_step h (by omega) (by omega) ((same1.trans same2).trans same3) (fun i hi => ?_) fun c' hc' i hi => ?_⟩
  · rw [r3 i c hi (by omega), one2, fmul_one]
    by_cases hir : i = rank
    · rw [if_neg (by omega), hir, one2, del, if_pos rfl]
    · rw [if_pos ⟨hi, hir⟩, xor_self', del, if_neg hir]
  · rw [r3 i c' hi (by omega), low2 c' hc', fmul_zero, xor_zero']
    by_cases hir : i = rank
    · rw [if_neg (by omega), hir, low2 c' hc', h.low rank (Nat.le_refl _) (by omega) c' hc']
    · rw [if_pos ⟨hi, hir⟩, oth2 i c' hi (by omega) hir]
theorem elim_ech (h : Two r ca cb a b) : ∀ c, c ≤ ca → Two r ca cb (elimN r ca cb a b c).1 (elimN r ca cb a b c).2.1 ∧ Ech r (ca + cb) (augL ca cb a b) (augL ca cb (elimN r ca cb a b c).1 (elimN r ca cb a b c).2.1) c (elimN r ca cb a b c).2.2
  | 0, _ => ⟨h, ech_start⟩
  | c + 1, hc => by
    obtain ⟨h1, h2⟩ := elim_ech h c (by omega)
    rw [elimN]
    exact elim_step h1 h2 (by omega)
end Go.Proofs

set_option linter.unusedSimpArgs false
set_option linter.unusedVariables false
namespace Go.Proofs
open Go Go.Eng
theorem toList_loop (bs : ByteArray) : ∀ (n i : Nat) (r : List UInt8), bs.size - i = n → ByteArray.toList.loop bs i r = r.reverse ++ bs.data.toList.drop i
  | 0, i, r, h => by
    unfold ByteArray.toList.loop
    have hs : bs.size = bs.data.size := rfl
    rw [if_neg (by omega), List.drop_eq_nil_of_le (by simp; omega), List.append_nil]
  | n + 1, i, r, h => by
    unfold ByteArray.toList.loop
    have hs : bs.size = bs.data.size := rfl
    have hi : i < bs.data.toList.length := by simp; omega
    rw [if_pos (by omega), toList_loop bs n (i + 1) _ (by omega), List.drop_eq_getElem_cons hi, List.reverse_cons, List.append_assoc]
    congr 1
    simp only [List.singleton_append, List.cons.injEq, and_true]
    show bs.data[i]! = _
    have hi2 : i < bs.data.size := by simpa using hi
    rw [getElem!_pos bs.data i hi2]
    simp
theorem toList_mk (l : List UInt8) : ByteArray.toList ⟨l.toArray⟩ = l := by
  unfold ByteArray.toList
  rw [toList_loop _ _ 0 [] rfl]
  simp
theorem str_eq {a : List UInt8} : vStr (.string ⟨a.toArray⟩) = a := toList_mk a
theorem bytesL_of {d : Rows'} (h : allB d) : bytesL (bI d) := allB_list h
theorem allB_of {d : Rows'} (h : bytesL (bI d)) : allB d := fun row hr => h (rowI row 0) (List.mem_map.2 ⟨row, hr, rfl⟩)
theorem bytesOf_eq {d : Rows'} : bytesOf d = (bI d).map fun x => UInt8.ofNat x.toNat := by
  simp only [bytesOf, bI, List.map_map]
  exact List.map_congr_left fun r hr => rfl
theorem u8_inj {x y : Int} (hx : isB x) (hy : isB y) (h : UInt8.ofNat x.toNat = UInt8.ofNat y.toNat) : x = y := by
  have h1 := congrArg UInt8.toNat h
  simp only [UInt8.toNat_ofNat'] at h1
  obtain ⟨a0, a1⟩ := hx
  obtain ⟨b0, b1⟩ := hy
  omega
theorem bytesOf_inj {d d' : Rows'} (h : allB d) (h' : allB d') : bytesOf d = bytesOf d' ↔ bI d = bI d' := by
  rw [bytesOf_eq, bytesOf_eq]
  refine ⟨fun he => ?_, fun he => by rw [he]⟩
  have hb := bytesL_of h
  have hb' := bytesL_of h'
  revert hb hb' he
  generalize bI d = l
  generalize bI d' = l'
  clear h h'
  induction l generalizing l' with
  | nil => intro he _ _; cases l' with
    | nil => rfl
    | cons y l' => cases he
  | cons x l ih => intro he hb hb'; cases l' with
    | nil => cases he
    | cons y l' =>
      simp only [List.map_cons, List.cons.injEq] at he
      rw [u8_inj (hb x (List.mem_cons_self ..)) (hb' y (List.mem_cons_self ..)) he.1, ih l' he.2 (fun z hz => hb z (List.mem_cons_of_mem _ hz)) fun z hz => hb' z (List.mem_cons_of_mem _ hz)]
end Go.Proofs

set_option linter.unusedSimpArgs false
set_option linter.unusedVariables false
namespace Go.Proofs
open Go Go.Eng
set_option maxRecDepth 20000
end Go.Proofs

set_option linter.unusedSimpArgs false
set_option linter.unusedVariables false
set_option maxRecDepth 100000
namespace Go.Proofs
open Go Go.Eng

@[simp] def o_ofPiece_1 : Sg := sg 0 [bv 6 7, bv 4 11, bt 3 (.dapp (.dapp (.rcons (.vint .u8 (.conv .u8 (.arith .shr .i64 (.var 0) (.lit 8)))) .rnil) (.rcons (.vint .u8 (.conv .u8 (.var 0))) .rnil)) (.dtake (.var 4) (.var 2))), bv 2 11, bt 1 (.plus (.lit 2) (.var 2)), bg 0 10, bg 5 6]
def o_ofPiece : Out := (.fresh 8 (.fresh 9 (.need (.cmp .leq (.lit 0) (.var 2)) (.need (.cmp .leq (.var 2) (.dlen (.var 4))) (.need (.cmp .leq (.tims (.lit 1) (.plus (.lit 2) (.var 2))) (.lit 140737488355328)) (.fresh 10 (.fresh 11 (.pre 0 o_ofPiece_1 (.both (.fresh 12 (.post 0 0 o_ofPiece_1 12 (.ret 0 (sg 8 [bt 8 (r8 12)])))) .top)))))))))
theorem o_ofPiece_eq : treeOf ⟨Tryd.prog, ofPieceC, [sumRC], []⟩ 100000 Tryd.f42 = o_ofPiece := by kernel_rfl
theorem ofPiece_of (hd : ∀ c ∈ ([sumRC] : List Ctr), c.ok Tryd.prog) (h : ∀ ρ : Env, ρ.good → (ofPieceC).pre ρ → o_ofPiece.den ⟨Tryd.prog, ofPieceC, [sumRC], []⟩ ρ) : (ofPieceC).ok Tryd.prog :=
  ok_of_tree Tryd.func42 (fun a w => Tryd.call42 a w) hd 100000 (fun ρ hg hp => by rw [o_ofPiece_eq]; exact h ρ hg hp)
end Go.Proofs

set_option linter.unusedSimpArgs false
set_option linter.unusedVariables false
set_option maxRecDepth 100000
namespace Go.Proofs
open Go Go.Eng

def o_len27 : Out := (.br (.cmp .lss (.var 0) (.lit 1))
 (.ret 0 (sg 2 [bt 3 (.lit 2), bt 2 (.lit 0)]))
 (.br (.cmp .gtr (.var 0) (.lit 255))
 (.ret 0 (sg 2 [bt 3 (.lit 2), bt 2 (.lit 0)]))
 (.br (.cmp .lss (.var 1) (.lit 0))
 (.ret 0 (sg 2 [bt 3 (.lit 2), bt 2 (.lit 0)]))
 (.br (.cmp .gtr (.var 1) (.lit 8192))
 (.ret 0 (sg 2 [bt 3 (.lit 2), bt 2 (.lit 0)]))
 (.inv 0 2 (sg 1000 [bt 1000 (.lit 0)]) (.fresh 2 (.hyp 0 2 (.br (.cmp .lss (.arith .mul .i64 (.var 0) (.var 2)) (.var 1))
 (.back 0 2 (sg 1000 [bt 1000 (.arith .add .i64 (.var 2) (.lit 1))]))
 (.ret 0 (sg 2 [bt 3 (.lit 0), bv 2 2]))))))))))
theorem o_len27_eq : treeOf ⟨Tryd.prog, len27C, [], [len27I]⟩ 100000 Tryd.f80 = o_len27 := by kernel_rfl
theorem len27_of (hd : ∀ c ∈ ([] : List Ctr), c.ok Tryd.prog) (h : ∀ ρ : Env, ρ.good → (len27C).pre ρ → o_len27.den ⟨Tryd.prog, len27C, [], [len27I]⟩ ρ) : (len27C).ok Tryd.prog :=
  ok_of_tree Tryd.func80 (fun a w => Tryd.call80 a w) hd 100000 (fun ρ hg hp => by rw [o_len27_eq]; exact h ρ hg hp)
def o_times53 : Out := (.inv 0 2 (sg 1000 [bt 1002 (.lit 0), bt 1001 (.lit 0), bv 1000 0]) (.fresh 2 (.fresh 3 (.fresh 4 (.hyp 0 2 (.br (.cmp .lss (.var 4) (.lit 8))
 (.need (.cmp .geq (.conv .u64 (.var 4)) (.lit 0)) (.br (.cmp .neq (.arith .and .u8 (.var 1) (.arith .shl .u8 (.lit 1) (.conv .u64 (.var 4)))) (.lit 0))
 (.br (.cmp .neq (.arith .and .u8 (.var 2) (.lit 128)) (.lit 0))
 (.back 0 2 (sg 1000 [bt 1002 (.arith .add .i64 (.var 4) (.lit 1)), bt 1001 (.arith .xor .u8 (.var 3) (.var 2)), bt 1000 (.arith .xor .u8 (.arith .shl .u8 (.var 2) (.lit 1)) (.lit 29))]))
 (.back 0 2 (sg 1000 [bt 1002 (.arith .add .i64 (.var 4) (.lit 1)), bt 1001 (.arith .xor .u8 (.var 3) (.var 2)), bt 1000 (.arith .shl .u8 (.var 2) (.lit 1))])))
 (.br (.cmp .neq (.arith .and .u8 (.var 2) (.lit 128)) (.lit 0))
 (.back 0 2 (sg 1000 [bt 1002 (.arith .add .i64 (.var 4) (.lit 1)), bv 1001 3, bt 1000 (.arith .xor .u8 (.arith .shl .u8 (.var 2) (.lit 1)) (.lit 29))]))
 (.back 0 2 (sg 1000 [bt 1002 (.arith .add .i64 (.var 4) (.lit 1)), bv 1001 3, bt 1000 (.arith .shl .u8 (.var 2) (.lit 1))])))))
 (.ret 0 (sg 2 [bv 2 3]))))))))
theorem o_times53_eq : treeOf ⟨Tryd.prog, times53C, [], [times53I]⟩ 100000 Tryd.f130 = o_times53 := by kernel_rfl
theorem times53_of (hd : ∀ c ∈ ([] : List Ctr), c.ok Tryd.prog) (h : ∀ ρ : Env, ρ.good → (times53C).pre ρ → o_times53.den ⟨Tryd.prog, times53C, [], [times53I]⟩ ρ) : (times53C).ok Tryd.prog :=
  ok_of_tree Tryd.func130 (fun a w => Tryd.call130 a w) hd 100000 (fun ρ hg hp => by rw [o_times53_eq]; exact h ρ hg hp)
def o_over54 : Out := (.inv 0 1 (sg 1000 [bt 1000 (.lit 1)]) (.fresh 1 (.hyp 0 1 (.br (.cmp .lss (.var 1) (.lit 256))
 (.pre 0 (sg 0 [bt 1 (.conv .u8 (.var 1)), bv 0 0]) (.both (.fresh 2 (.post 0 0 (sg 0 [bt 1 (.conv .u8 (.var 1)), bv 0 0]) 2 (.br (.cmp .eql (.var 2) (.lit 1))
 (.ret 0 (sg 1 [bt 1 (.conv .u8 (.var 1))]))
 (.back 0 1 (sg 1000 [bt 1000 (.arith .add .i64 (.var 1) (.lit 1))]))))) .top))
 (.ret 0 (sg 1 [bt 1 (.lit 0)]))))))
theorem o_over54_eq : treeOf ⟨Tryd.prog, over54C, [times53C], [over54I]⟩ 100000 Tryd.f131 = o_over54 := by kernel_rfl
theorem over54_of (hd : ∀ c ∈ ([times53C] : List Ctr), c.ok Tryd.prog) (h : ∀ ρ : Env, ρ.good → (over54C).pre ρ → o_over54.den ⟨Tryd.prog, over54C, [times53C], [over54I]⟩ ρ) : (over54C).ok Tryd.prog :=
  ok_of_tree Tryd.func131 (fun a w => Tryd.call131 a w) hd 100000 (fun ρ hg hp => by rw [o_over54_eq]; exact h ρ hg hp)
end Go.Proofs

set_option linter.unusedSimpArgs false
set_option linter.unusedVariables false
namespace Go.Proofs
open Go Go.Eng
theorem fillTo_full {f : Nat → Int} {n : Nat} : fillTo f n n = (List.range n).map f := by
  unfold fillTo
  refine List.map_congr_left fun i hi => ?_
  rw [if_pos (List.mem_range.1 hi)]
end Go.Proofs

set_option linter.unusedSimpArgs false
set_option linter.unusedVariables false
namespace Go.Proofs
open Go Go.Eng

theorem ceil_eq {k n c : Int} (hk : 1 ≤ k) (h0 : 0 ≤ c) (h1 : n ≤ k * c) (h2 : c = 0 ∨ k * (c - 1) < n) (hn : 0 ≤ n) : c = (n + k - 1).tdiv k := by
  rw [Int.tdiv_eq_ediv_of_nonneg (by omega)]
  symm
  rw [Int.ediv_eq_iff_of_pos (by omega)]
  rw [Int.mul_sub, Int.mul_one] at h2
  rw [Int.mul_comm] at h1
  rcases h2 with rfl | h2
  · omega
  · rw [Int.mul_comm] at h2; omega
theorem len27_ok : len27C.ok Tryd.prog := len27_of (by simp) fun ρ hg hp => by
  simp [o_len27, len27C, len27I, piece26C]
  have hpb : pieceBad (ρ 0).i (ρ 1).i ↔ (ρ 0).i < 1 ∨ 255 < (ρ 0).i ∨ (ρ 1).i < 0 ∨ 8192 < (ρ 1).i := Iff.rfl
  refine ⟨fun h => hpb.2 (by omega), fun h1 => ⟨fun h => hpb.2 (by omega), fun h2 => ⟨fun h => hpb.2 (by omega), fun h3 => ⟨fun h => hpb.2 (by omega), fun h4 => ⟨⟨?_, h3⟩, fun u _ hnb u0 u1 u2 => ⟨fun h => ?_, fun h => ⟨fun hb => (hnb hb).elim, fun _ => ?_⟩⟩⟩⟩⟩⟩⟩
  · rw [hpb]; omega
  · have hb := mul_bound (x := (ρ 0).i) (y := u.i) (by omega) h2 u0 (show u.i ≤ 8192 by omega)
    rw [mul64 (by omega) (by omega)] at h
    have hlt : u.i < (ρ 1).i := by
      have := Int.mul_le_mul_of_nonneg_right h1 u0
      omega
    rw [add64 (by omega) (by omega)]
    refine ⟨⟨hnb, by omega, by omega, .inr ?_⟩, by omega⟩
    rw [show u.i + 1 - 1 = u.i by omega]; exact h
  · have hb := mul_bound (x := (ρ 0).i) (y := u.i) (by omega) h2 u0 (show u.i ≤ 8192 by omega)
    rw [mul64 (by omega) (by omega)] at h
    exact ceil_eq h1 u0 h u2 h3
theorem twice_eq' : ∀ i : Fin 256, (if arithOf .and .u8 (i.val : Int) 128 = 0 then arithOf .shl .u8 (i.val : Int) 1 else arithOf .xor .u8 (arithOf .shl .u8 (i.val : Int) 1) 29) = ofF (xt (toF (i.val : Int))) := by decide +kernel
theorem bit_eq' : ∀ b : Fin 256, ∀ i : Fin 8, toF ((b.val % 2 ^ (i.val + 1) : Nat) : Int) = if arithOf .and .u8 (b.val : Int) (arithOf .shl .u8 1 (i.val : Int)) = 0 then toF ((b.val % 2 ^ i.val : Nat) : Int) else toF ((b.val % 2 ^ i.val : Nat) : Int) ^^^ expF i.val := by decide +kernel
theorem twice_eq {x : Int} (h : isB x) : (if arithOf .and .u8 x 128 = 0 then arithOf .shl .u8 x 1 else arithOf .xor .u8 (arithOf .shl .u8 x 1) 29) = ofF (xt (toF x)) := by
  have := twice_eq' ⟨x.toNat, by have := h.2; have := h.1; omega⟩
  simp only [Int.toNat_of_nonneg h.1] at this
  exact this
theorem expF_succ {n : Nat} : expF (n + 1) = fmul (expF n) 2 := by
  have : (2 : F) = expF 1 := by decide
  rw [this, fmul_exp]
theorem timesN_eq {a b : Int} (ha : isB a) (hb : isB b) : ∀ i : Nat, i ≤ 8 → timesN a b i = (ofF (fmul (toF a) (expF i)), ofF (fmul (toF a) (toF ((b.toNat % 2 ^ i : Nat) : Int))))
  | 0, _ => by
    rw [timesN, expF_zero, fmul_one, ofF_toF ha, Nat.pow_zero, Nat.mod_one]
    rw [show toF ((0 : Nat) : Int) = 0 by rfl, fmul_zero]; rfl
  | i + 1, hi => by
    rw [timesN, timesN_eq ha hb i (by omega), timesStep]
    simp only
    rw [twice_eq ofF_isB, toF_ofF, ← fmul_two, fmul_assoc, ← expF_succ]
    have h := bit_eq' ⟨b.toNat, by have := hb.2; have := hb.1; omega⟩ ⟨i, by omega⟩
    simp only [Int.toNat_of_nonneg hb.1] at h
    rw [h]
    split
    · rfl
    · rw [xor_fmul]
      congr 1
      have := xorB_F (x := ofF (fmul (toF a) (toF ((b.toNat % 2 ^ i : Nat) : Int)))) (y := ofF (fmul (toF a) (expF i)))
      rw [toF_ofF, toF_ofF] at this
      exact this
theorem timesN_mulF {a b : Int} (ha : isB a) (hb : isB b) : (timesN a b 8).2 = mulF a b := by
  rw [timesN_eq ha hb 8 (Nat.le_refl _), mulF_F ha hb]
  simp only
  congr 2
  obtain ⟨h0, h1⟩ := hb
  congr 1
  omega
theorem times53_ok : times53C.ok Tryd.prog := times53_of (by simp) fun ρ hg hp => by
  obtain ⟨ha, hb⟩ := hp
  simp [o_times53, times53C, times53I]
  refine ⟨rfl, fun x _ y _ i _ i0 i1 he => ⟨fun hi => ?_, fun hi => ?_⟩⟩
  · have hw : IntKind.u64.wrap i.i = i.i := by simp [IntKind.wrap, IntKind.bits, IntKind.signed]; omega
    rw [hw, add64 (by omega) (by omega), show (i.i + 1).toNat = i.i.toNat + 1 by omega, timesN, ← he, timesStep]
    simp only [Int.toNat_of_nonneg i0]
    refine ⟨i0, fun h1 => ⟨fun h2 => ⟨⟨by omega, by omega, ?_⟩, by omega⟩, fun h2 => ⟨⟨by omega, by omega, ?_⟩, by omega⟩⟩, fun h1 => ⟨fun h2 => ⟨⟨by omega, by omega, ?_⟩, by omega⟩, fun h2 => ⟨⟨by omega, by omega, ?_⟩, by omega⟩⟩⟩ <;> simp [h1, h2]
  · rw [← timesN_mulF ha hb, show (8 : Nat) = i.i.toNat by omega, ← he]
theorem fmul_eq_one {x y : F} (h : fmul x y = 1) : y = finv x := by
  by_cases hx : x = 0
  · rw [hx, zero_fmul] at h; exact absurd h (by decide)
  · have h1 : fmul (finv x) (fmul x y) = finv x := by rw [h, fmul_one]
    rw [← fmul_assoc, fmul_comm (x := finv x), fmul_finv hx, one_fmul] at h1
    exact h1
theorem over54_ok : over54C.ok Tryd.prog := over54_of (by simp [times53_ok]) fun ρ hg hp => by
  have ha : isB (ρ 0).i := hp
  simp [o_over54, over54C, over54I, times53C]
  have hw : ∀ x : Int, 0 ≤ x → x < 256 → IntKind.u8.wrap x = x := fun x h0 h1 => by simp [IntKind.wrap, IntKind.bits, IntKind.signed]; omega
  refine ⟨fun j h0 h1 => by omega, fun i _ i0 i1 hn => ⟨fun hi => ?_, fun hi => ?_⟩⟩
  · rw [hw _ (by omega) hi, add64 (by omega) (by omega)]
    have hb : isB i.i := ⟨by omega, hi⟩
    refine ⟨⟨ha, hb⟩, fun m _ hm => ⟨fun h1 => ?_, fun h1 => ⟨⟨by omega, by omega, fun j j0 j1 => ?_⟩, by omega⟩⟩⟩
    · refine toF_inj hb (invF_isB ha) ?_
      rw [toF_invF ha]
      refine fmul_eq_one ?_
      rw [← toF_mulF ha hb, ← hm, h1]; rfl
    · by_cases hj : j = i.i
      · rw [hj, ← hm]; exact h1
      · exact hn j j0 (by omega)
  · by_cases h0 : (ρ 0).i = 0
    · rw [h0]; rfl
    · have hx : toF (ρ 0).i ≠ 0 := fun h => h0 ((toF_eq_zero ha).1 h)
      have hi1 : 1 ≤ invF (ρ 0).i := by
        have hz := invF_isB ha
        have : invF (ρ 0).i ≠ 0 := fun h => finv_ne hx (by rw [← toF_invF ha, h]; rfl)
        have := hz.1
        omega
      refine (hn (invF (ρ 0).i) hi1 (by have := (invF_isB ha).2; omega) ?_).elim
      rw [mulF_F ha (invF_isB ha), toF_invF ha, fmul_finv hx]; rfl
end Go.Proofs

set_option linter.unusedSimpArgs false
set_option linter.unusedVariables false
namespace Go.Proofs
open Go Go.Eng
set_option maxRecDepth 20000
theorem ofPiece_ok : ofPieceC.ok Tryd.prog := ofPiece_of (by simp [sumR_ok]) fun ρ hg hp => by
  obtain ⟨hl, hl1, hB, hSr, hSd⟩ := hp
  simp (config := { maxSteps := 4000000, contextual := true }) [o_ofPiece, ofPieceC, sumRC, gOk, hSr, hSd, hB, hl]
  have hx : bI ([Value.int .u8 (IntKind.u8.wrap (arithOf .shr .i64 (ρ 0).i 8))] :: [Value.int .u8 (IntKind.u8.wrap (ρ 0).i)] :: (ρ 4).d) = pieceIn (ρ 0).i ++ bI (ρ 4).d := by
    rw [shr8, wrap8, wrap8]; rfl
  refine ⟨by omega, ⟨by omega, by omega, allB_of ?_⟩, fun u _ hu => by rw [hx]⟩
  rw [hx]
  intro x hx
  rcases List.mem_append.1 hx with hx | hx
  · simp [pieceIn] at hx
    rcases hx with rfl | rfl <;> exact ⟨Int.emod_nonneg _ (by decide), Int.emod_lt_of_pos _ (by decide)⟩
  · exact allB_list hB x hx
end Go.Proofs

set_option linter.unusedSimpArgs false
set_option linter.unusedVariables false
namespace Go.Proofs
open Go Go.Eng

theorem pieceLen_ge' {k n : Nat} (hk : 0 < k) : n ≤ k * pieceLen k n := by
  unfold pieceLen
  have h1 := Nat.div_add_mod (n + k - 1) k
  have h2 := Nat.mod_lt (n + k - 1) hk
  omega
theorem ident_len {n : Nat} : (identTo n n).length = n * n := by simp [identTo]
theorem ident_get {n i : Nat} (hi : i < n * n) : (identTo n n).getD i 0 = if i / n = i % n then 1 else 0 := by
  have hn : 0 < n := by
    cases n with
    | zero => simp at hi
    | succ n => omega
  rw [List.getD_eq_getElem?_getD, identTo, List.getElem?_map, List.getElem?_range hi]
  simp only [Option.map_some, Option.getD_some]
  have : i / n < n := Nat.div_lt_of_lt_mul hi
  by_cases h : i / n = i % n
  · rw [if_pos ⟨h, this⟩, if_pos h]
  · rw [if_neg (fun hh => h hh.1), if_neg h]
theorem divmod_cell {i n j : Nat} (hj : j < n) : (i * n + j) / n = i ∧ (i * n + j) % n = j := by
  have hn : 0 < n := by omega
  constructor
  · rw [Nat.mul_comm, Nat.mul_add_div hn, Nat.div_eq_of_lt hj, Nat.add_zero]
  · rw [Nat.mul_comm, Nat.mul_add_mod, Nat.mod_eq_of_lt hj]
theorem ident_bytes {n : Nat} : bytesL (identTo n n) := fun x hx => by
  simp only [identTo, List.mem_map] at hx
  obtain ⟨i, _, rfl⟩ := hx
  split <;> exact ⟨by omega, by omega⟩
theorem ident_mat {n i j : Nat} (hi : i < n) (hj : j < n) : matL n (identTo n n) i j = del i j := by
  obtain ⟨h1, h2⟩ := divmod_cell (i := i) hj
  rw [matL, ident_get (cell_lt hi hj), h1, h2, del]
  split <;> rfl
theorem vander_len {r c : Nat} : (vanderL r c).length = r * c := by simp [vanderL, fillTo]
theorem vander_get {r c i j : Nat} (hi : i < r) (hj : j < c) : (vanderL r c).getD (i * c + j) 0 = powF (i : Int) (j : Int) := by
  obtain ⟨h1, h2⟩ := divmod_cell (i := i) hj
  have hlt := cell_lt hi hj
  rw [List.getD_eq_getElem?_getD, vanderL, fillTo, List.getElem?_map, List.getElem?_range hlt]
  simp only [Option.map_some, Option.getD_some]
  rw [if_pos hlt, vanderF, h1, h2]
def xsF (m : Nat) : F := toF (m : Int)
theorem vander_mat {r c i j : Nat} (hr : r ≤ 256) (hi : i < r) (hj : j < c) (hc : c < 9223372036854775808) : matL c (vanderL r c) i j = fpow (xsF i) j := by
  rw [matL, vander_get hi hj, powF_F ⟨by omega, by omega⟩ (by omega), toF_ofF, Int.toNat_natCast]; rfl
theorem vander_bytes {r c : Nat} (hr : r ≤ 256) (hc : c < 9223372036854775808) : bytesL (vanderL r c) := fun x hx => by
  simp only [vanderL, fillTo, List.mem_map, List.mem_range] at hx
  obtain ⟨i, hi, rfl⟩ := hx
  rw [if_pos hi]
  have hc0 : 0 < c := by
    cases c with
    | zero => simp at hi
    | succ c => omega
  have h1 : i / c < r := Nat.div_lt_of_lt_mul (by rwa [Nat.mul_comm] at hi)
  have h2 := Nat.mod_lt i hc0
  have h3 : ((i / c : Nat) : Int) < 256 := by omega
  exact powF_isB ⟨Int.natCast_nonneg _, h3⟩ (by omega)
theorem xs_distinct {n : Nat} (hn : n ≤ 256) : distinct n xsF := fun i j hi hj h => by
  have := toF_inj (x := (i : Int)) (y := (j : Int)) ⟨by omega, by omega⟩ ⟨by omega, by omega⟩ h
  omega
theorem take_bytes {l : List Int} {n : Nat} (h : bytesL l) : bytesL (l.take n) := fun x hx => h x (List.mem_of_mem_take hx)
theorem take_mat {l : List Int} {n c i j : Nat} (hi : i < n) (hj : j < c) : matL c (l.take (n * c)) i j = matL c l i j := by
  have hlt := cell_lt hi hj
  rw [matL, matL, List.getD_eq_getElem?_getD, List.getD_eq_getElem?_getD, List.getElem?_take, if_pos hlt]

theorem aug_right {ca cb : Nat} {a b : List Int} {i j : Nat} : augL ca cb a b i (ca + j) = matL cb b i j := by
  rw [augL, if_neg (by omega), show ca + j - ca = j by omega]
theorem inv_mul {n : Nat} {a A B : List Int} (h : Ech n (n + n) (augL n n a (identTo n n)) (augL n n A B) n n) :
    (∀ i j, i < n → j < n → fsum (fun l => fmul (matL n B i l) (matL n a l j)) n = del i j) ∧ ∀ i j, i < n → j < n → fsum (fun l => fmul (matL n a i l) (matL n B l j)) n = del i j := by
  refine ⟨fun i j hi hj => ?_, fun i j hi hj => ?_⟩
  · obtain ⟨x, hx⟩ := h.same.to i hi
    have hxB : ∀ l, l < n → x l = matL n B i l := fun l hl => by
      have h1 := hx (n + l) (by omega)
      rw [aug_right, fsum_congr fun m hm => by rw [aug_right, ident_mat hm hl], fsum_del' (f := x) hl] at h1
      exact h1.symm
    have h2 := hx j (by omega)
    rw [ech_full h i hi j hj, fsum_congr fun m hm => by rw [hxB m hm, aug_left hj]] at h2
    exact h2.symm
  · obtain ⟨x, hx⟩ := h.same.back i hi
    have hxa : ∀ l, l < n → x l = matL n a i l := fun l hl => by
      have h1 := hx l (by omega)
      rw [aug_left hl, fsum_congr fun m hm => by rw [ech_full h m hm l hl], fsum_del' (f := x) hl] at h1
      exact h1.symm
    have h2 := hx (n + j) (by omega)
    rw [aug_right, ident_mat hi hj, fsum_congr fun m hm => by rw [hxa m hm, aug_right]] at h2
    exact h2.symm
theorem two_ident {n : Nat} {m : List Int} (hl : m.length = n * n) (hb : bytesL m) : Two n n n m (identTo n n) := ⟨hl, ident_len, hb, ident_bytes⟩
theorem inv_ech {n : Nat} {m : List Int} (hl : m.length = n * n) (hb : bytesL m) : Two n n n (invE m n).1 (invE m n).2.1 ∧ Ech n (n + n) (augL n n m (identTo n n)) (augL n n (invE m n).1 (invE m n).2.1) n (invE m n).2.2 :=
  elim_ech (two_ident hl hb) n (Nat.le_refl _)
theorem inv_rank {n : Nat} {m : List Int} (hl : m.length = n * n) (hb : bytesL m) (h : ∀ y : Nat → F, (∀ i, i < n → fsum (fun j => fmul (matL n m i j) (y j)) n = 0) → ∀ j, j < n → y j = 0) : (invE m n).2.2 = n := by
  obtain ⟨_, he⟩ := inv_ech hl hb
  refine Classical.byContradiction fun hne => ?_
  have hlt : (invE m n).2.2 < n := by have := he.le; omega
  obtain ⟨y, ⟨c, hc, hyc⟩, hy⟩ := ech_null he (by omega) hlt
  exact hyc (h y (fun i hi => by rw [← hy i hi]; exact fsum_congr fun j hj => by rw [aug_left hj]; rfl) c hc)

theorem top_len {k total : Nat} (h : k ≤ total) : ((vanderL total k).take (k * k)).length = k * k := by
  rw [List.length_take, vander_len]
  exact Nat.min_eq_left (Nat.mul_le_mul_right k h)
theorem top_mat {k total i j : Nat} (hk : k ≤ total) (ht : total ≤ 255) (hi : i < k) (hj : j < k) : matL k ((vanderL total k).take (k * k)) i j = fpow (xsF i) j := by
  rw [take_mat hi hj, vander_mat (by omega) (by omega) hj (by omega)]
theorem top_bytes {k total : Nat} (hk : k ≤ total) (ht : total ≤ 255) : bytesL ((vanderL total k).take (k * k)) := take_bytes (vander_bytes (by omega) (by omega))
theorem top_rank {k total : Nat} (hk : k ≤ total) (ht : total ≤ 255) : (topE k total).2.2 = k :=
  inv_rank (top_len hk) (top_bytes hk ht) fun y hy => vander_inj (xs_distinct (by omega)) fun i hi => by
    rw [← hy i hi]
    exact fsum_congr fun j hj => by rw [top_mat hk ht hi hj]
theorem top_ech {k total : Nat} (hk : k ≤ total) (ht : total ≤ 255) : Two k k k (topE k total).1 (topE k total).2.1 ∧ Ech k (k + k) (augL k k ((vanderL total k).take (k * k)) (identTo k k)) (augL k k (topE k total).1 (topE k total).2.1) k k := by
  have h := inv_ech (top_len hk) (top_bytes hk ht)
  have hr := top_rank hk ht
  unfold topE at hr ⊢
  rw [hr] at h
  exact h

theorem prodN_facts {a b : List Int} {ra ca cb : Nat} (hb : b.length = ca * cb) (ha : bytesL a) (hbb : bytesL b) (hca : 0 < ca) : ∀ t, t ≤ ra * ca → (prodN a b ra ca cb t).length = ra * cb ∧ bytesL (prodN a b ra ca cb t) ∧
    ∀ i j, i < ra → j < cb → matL cb (prodN a b ra ca cb t) i j = fsum (fun l => if i * ca + l < t then fmul (matL ca a i l) (matL cb b l j) else 0) ca
  | 0, _ => ⟨by simp [prodN], fun x hx => by rw [prodN] at hx; rw [List.eq_of_mem_replicate hx]; exact ⟨by omega, by omega⟩, fun i j hi hj => by
      rw [fsum_zero fun l _ => if_neg (by omega), matL, prodN, List.getD_eq_getElem?_getD, List.getElem?_replicate, if_pos (cell_lt hi hj)]; rfl⟩
  | t + 1, ht => by
    obtain ⟨h1, h2, h3⟩ := prodN_facts (ra := ra) hb ha hbb hca t (by omega)
    have hti : t / ca < ra := Nat.div_lt_of_lt_mul (by rw [Nat.mul_comm]; omega)
    have htl := Nat.mod_lt t hca
    have htd := Nat.div_add_mod t ca
    rw [prodN]
    refine ⟨by rw [addToL_len, h1], addToL_bytes h2, fun i j hi hj => ?_⟩
    have hlt := cell_lt hi hj
    have hsl : (seg b (t % ca * cb) cb).length = cb := seg_len (by rw [hb]; exact row_le htl)
    have hL : matL cb (addToL (prodN a b ra ca cb t) (t / ca * cb) (seg b (t % ca * cb) cb) (a.getD t 0)) i j = if i = t / ca then matL cb (prodN a b ra ca cb t) i j ^^^ fmul (toF (a.getD t 0)) (matL cb b (t % ca) j) else matL cb (prodN a b ra ca cb t) i j := by
      unfold matL
      rw [List.getD_eq_getElem?_getD, addToL_get, List.getElem?_eq_getElem (by omega), Option.map_some, Option.getD_some, hsl]
      by_cases he : i = t / ca
      · subst he
        rw [if_pos ⟨by omega, by omega⟩, if_pos rfl, show t / ca * cb + j - t / ca * cb = j by omega]
        have hs : (seg b (t % ca * cb) cb).getD j 0 = b.getD (t % ca * cb + j) 0 := by
          rw [List.getD_eq_getElem?_getD, seg_get, if_pos hj, List.getD_eq_getElem?_getD]
        rw [hs, toF_xorB, toF_mulF (bytesL_get ha _) (bytesL_get hbb _), List.getD_eq_getElem?_getD (l := prodN a b ra ca cb t), List.getElem?_eq_getElem (by omega), Option.getD_some]
      · rw [if_neg (fun h => he ((row_in hj).1 h)), if_neg he, List.getD_eq_getElem?_getD, List.getElem?_eq_getElem (by omega), Option.getD_some]
    rw [hL, h3 i j hi hj]
    by_cases he : i = t / ca
    · have hit : i * ca + t % ca = t := by rw [he, Nat.mul_comm]; exact htd
      rw [if_pos he]
      have hat : toF (a.getD t 0) = matL ca a i (t % ca) := by rw [matL, hit]
      have h4 : fmul (toF (a.getD t 0)) (matL cb b (t % ca) j) = fsum (fun l => if l = t % ca then fmul (matL ca a i l) (matL cb b l j) else 0) ca := by
        rw [fsum_one htl fun l _ hl => if_neg hl, if_pos rfl, hat]
      rw [h4, ← fsum_xor]
      refine fsum_congr fun l hl => ?_
      by_cases hlt : l = t % ca
      · subst hlt; rw [if_neg (by omega), if_pos rfl, if_pos (by omega), zero_xor']
      · rw [if_neg hlt, xor_zero']
        by_cases h5 : i * ca + l < t
        · rw [if_pos h5, if_pos (by omega)]
        · rw [if_neg h5, if_neg (by omega)]
    · rw [if_neg he]
      refine fsum_congr fun l hl => ?_
      have hne : i * ca + l ≠ t := fun h => he (by rw [← h]; exact (divmod_cell hl).1.symm)
      by_cases h5 : i * ca + l < t
      · rw [if_pos h5, if_pos (by omega)]
      · rw [if_neg h5, if_neg (by omega)]
theorem prod_facts {a b : List Int} {ra ca cb : Nat} (hb : b.length = ca * cb) (ha : bytesL a) (hbb : bytesL b) (hca : 0 < ca) : (prodL a b ra ca cb).length = ra * cb ∧ bytesL (prodL a b ra ca cb) ∧
    ∀ i j, i < ra → j < cb → matL cb (prodL a b ra ca cb) i j = fsum (fun l => fmul (matL ca a i l) (matL cb b l j)) ca := by
  obtain ⟨h1, h2, h3⟩ := prodN_facts (ra := ra) hb ha hbb hca (ra * ca) (Nat.le_refl _)
  refine ⟨h1, h2, fun i j hi hj => ?_⟩
  rw [prodL, h3 i j hi hj]
  exact fsum_congr fun l hl => if_pos (cell_lt hi hl)

theorem gen_facts {k total : Nat} (h1 : 1 ≤ k) (hk : k ≤ total) (ht : total ≤ 255) : (genL k total).length = total * k ∧ bytesL (genL k total) ∧
    (∀ i j, i < total → j < k → matL k (genL k total) i j = fsum (fun l => fmul (fpow (xsF i) l) (matL k (topE k total).2.1 l j)) k) ∧
    ∀ i j, i < total → j < k → matL k (genL k total) i j = lagF k xsF (xsF i) j := by
  obtain ⟨t2, he⟩ := top_ech hk ht
  obtain ⟨p1, p2, p3⟩ := prod_facts (ra := total) t2.lb (vander_bytes (r := total) (c := k) (by omega) (by omega)) t2.bb (by omega)
  have hg : ∀ i j, i < total → j < k → matL k (genL k total) i j = fsum (fun l => fmul (fpow (xsF i) l) (matL k (topE k total).2.1 l j)) k := fun i j hi hj => by
    rw [genL, p3 i j hi hj]
    exact fsum_congr fun l hl => by rw [vander_mat (by omega) hi hl (by omega)]
  refine ⟨p1, p2, hg, fun i j hi hj => ?_⟩
  obtain ⟨_, m2⟩ := inv_mul he
  have hp : ∀ x, pval k (fun l => matL k (topE k total).2.1 l j) x = fsum (fun l => fmul (fpow x l) (matL k (topE k total).2.1 l j)) k := fun x => fsum_congr fun l _ => fmul_comm
  rw [hg i j hi hj, ← hp, lagrange (xs_distinct (n := k) (by omega))]
  rw [fsum_congr (g := fun m => fmul (lagF k xsF (xsF i) m) (del m j)) fun m hm => ?_, fsum_del' hj]
  rw [hp, ← m2 m j hm hj]
  congr 1
  exact fsum_congr fun l hl => by rw [top_mat hk ht hm hl]
theorem gen_top {k total : Nat} (h1 : 1 ≤ k) (hk : k ≤ total) (ht : total ≤ 255) {i j : Nat} (hi : i < k) (hj : j < k) : matL k (genL k total) i j = del i j := by
  rw [(gen_facts h1 hk ht).2.2.2 i j (by omega) hj, lag_del (xs_distinct (by omega)) hj hi, del, del]
  by_cases h : i = j
  · rw [if_pos h, if_pos h.symm]
  · rw [if_neg h, if_neg (Ne.symm h)]

theorem pieceN_facts {g full : List Int} {k l i : Nat} (hg : bytesL g) (hf : bytesL full) (hl : full.length = k * l) : ∀ j, j ≤ k → (pieceN g full k l i j).length = l ∧ bytesL (pieceN g full k l i j) ∧
    ∀ c, c < l → toF ((pieceN g full k l i j).getD c 0) = fsum (fun m => fmul (matL k g i m) (toF (full.getD (m * l + c) 0))) j
  | 0, _ => ⟨by simp [pieceN], fun x hx => by rw [pieceN] at hx; rw [List.eq_of_mem_replicate hx]; exact ⟨by omega, by omega⟩, fun c hc => by
      rw [pieceN, List.getD_eq_getElem?_getD, List.getElem?_replicate, if_pos hc]; rfl⟩
  | j + 1, hj => by
    obtain ⟨h1, h2, h3⟩ := pieceN_facts hg hf hl (i := i) j (by omega)
    have hsl : (seg full (j * l) l).length = l := seg_len (by rw [hl]; exact row_le (by omega))
    rw [pieceN]
    refine ⟨by rw [addToL_len, h1], addToL_bytes h2, fun c hc => ?_⟩
    rw [List.getD_eq_getElem?_getD, addToL_get, List.getElem?_eq_getElem (by omega), Option.map_some, Option.getD_some, hsl, if_pos ⟨by omega, by omega⟩, Nat.sub_zero]
    have hs : (seg full (j * l) l).getD c 0 = full.getD (j * l + c) 0 := by
      rw [List.getD_eq_getElem?_getD, seg_get, if_pos hc, List.getD_eq_getElem?_getD]
    rw [hs, toF_xorB, toF_mulF (bytesL_get hg _) (bytesL_get hf _), fsum, ← h3 c hc, List.getD_eq_getElem?_getD (l := pieceN g full k l i j), List.getElem?_eq_getElem (by omega), Option.getD_some]
    rfl
theorem full_facts {data : List Int} {n : Nat} (hb : bytesL data) (hn : data.length ≤ n) : (fullL data n).length = n ∧ bytesL (fullL data n) := by
  refine ⟨by simp [fullL]; omega, fun x hx => ?_⟩
  rcases List.mem_append.1 hx with hx | hx
  · exact hb x hx
  · rw [List.eq_of_mem_replicate hx]; exact ⟨by omega, by omega⟩
theorem full_get {data : List Int} {n i : Nat} : (fullL data n).getD i 0 = data.getD i 0 := by
  rw [List.getD_eq_getElem?_getD, List.getD_eq_getElem?_getD, fullL]
  by_cases h : i < data.length
  · rw [List.getElem?_append_left h]
  · rw [List.getElem?_append_right (by omega), List.getElem?_eq_none (l := data) (by omega), List.getElem?_replicate]
    split <;> rfl
theorem enc_facts {k total : Nat} {data : List Int} (h1 : 1 ≤ k) (hk : k ≤ total) (ht : total ≤ 255) (hb : bytesL data) (i : Nat) : (encP k total data i).length = pieceLen k data.length ∧ bytesL (encP k total data i) ∧
    ∀ c, c < pieceLen k data.length → toF ((encP k total data i).getD c 0) = fsum (fun m => fmul (matL k (genL k total) i m) (toF (data.getD (m * pieceLen k data.length + c) 0))) k := by
  obtain ⟨g1, g2, _, _⟩ := gen_facts h1 hk ht
  obtain ⟨f1, f2⟩ := full_facts hb (n := k * pieceLen k data.length) (pieceLen_ge' (by omega))
  obtain ⟨p1, p2, p3⟩ := pieceN_facts (i := i) g2 f2 f1 k (Nat.le_refl _)
  refine ⟨p1, p2, fun c hc => ?_⟩
  rw [encP, p3 c hc]
  exact fsum_congr fun m _ => by rw [full_get]
theorem enc_top {k total : Nat} {data : List Int} (h1 : 1 ≤ k) (hk : k ≤ total) (ht : total ≤ 255) (hb : bytesL data) {i : Nat} (hi : i < k) {c : Nat} (hc : c < pieceLen k data.length) :
    (encP k total data i).getD c 0 = data.getD (i * pieceLen k data.length + c) 0 := by
  obtain ⟨_, p2, p3⟩ := enc_facts h1 hk ht hb i
  refine toF_inj (bytesL_get p2 _) (bytesL_get hb _) ?_
  rw [p3 c hc, fsum_congr fun m hm => by rw [gen_top h1 hk ht hi hm]]
  rw [fsum_one hi fun m hm hne => by rw [del, if_neg (Ne.symm hne), zero_fmul], del, if_pos rfl, one_fmul]
end Go.Proofs

set_option linter.unusedSimpArgs false
set_option linter.unusedVariables false
namespace Go.Eng
open Go
end Go.Eng
namespace Go.Proofs
open Go Go.Eng
theorem list_ext_getD {a b : List Int} (hl : a.length = b.length) (h : ∀ i, i < a.length → a.getD i 0 = b.getD i 0) : a = b := by
  apply List.ext_getElem hl
  intro i h1 h2
  have := h i h1
  rwa [List.getD_eq_getElem?_getD, List.getElem?_eq_getElem h1, List.getD_eq_getElem?_getD, List.getElem?_eq_getElem h2] at this
theorem upto_at {ρ ρ' : Env} {nv m : Nat} (hag : ∀ n, n < nv → ρ' n = ρ n) (h : nv ≤ m) : ∀ n, n < nv → (ρ'.upto m) n = ρ n := fun n hn => by
  rw [Env.upto, if_pos (by omega)]
  exact hag n hn
end Go.Proofs

set_option linter.unusedSimpArgs false
set_option linter.unusedVariables false
namespace Go.Eng
open Go Go.Proofs

def firstL (n : Nat) : List Int := (List.range n).map fun (m : Nat) => (m : Int)
def wgtL (xs : List Int) (x : Int) : List Int := (List.range xs.length).map fun i => ofF (lagF xs.length (fun m => toF (xs.getD m 0)) (toF x) i)
def distL (xs : List Int) : Prop := Go.Proofs.distinct xs.length fun m => toF (xs.getD m 0)
def first79C : Ctr := { fn := 111, nv := 1, args := [iv .i64 (.var 0)], heap := [], ro := [], pre := fun ρ => 0 ≤ (ρ 0).i ∧ (ρ 0).i ≤ 255, alts := [{ k := 3, ret := .one (.vslice 1 (.lit 0) (.var 0) (.var 2) 1), heap := [bHp 1 3 2], post := fun ρ => bI (ρ 3).d = firstL (ρ 0).i.toNat }] }
def first79I : Inv := { key := 3, nv := 4, env := [(0, iv .i64 (.var 0)), (3, .one (.vslice 1001 (.lit 0) (.var 1000) (.var 1002) 1)), (4, iv .i64 (.var 1000))], heap := [bHp 1001 1003 1002], inv := (fun ρ => 0 ≤ (ρ 1000).i ∧ (ρ 1000).i ≤ (ρ 0).i ∧ bI (ρ 1003).d = firstL (ρ 1000).i.toNat), mu := (fun ρ => ((ρ 0).i - (ρ 1000).i).toNat) }
def wgt78C : Ctr := { fn := 110, nv := 6, args := [.one (.vslice 0 (.lit 0) (.var 1) (.var 2) 1), iv .u8 (.var 5)], heap := [], ro := [bHp 0 3 4], pre := fun ρ => 0 ≤ (ρ 1).i ∧ (ρ 1).i ≤ 256 ∧ (ρ 1).i = (ρ 3).d.length ∧ allB (ρ 3).d ∧ byteP (ρ 5).i ∧ distL (bI (ρ 3).d), alts := [{ k := 3, ret := .one (.vslice 6 (.lit 0) (.var 1) (.var 7) 1), heap := [bHp 6 8 7], post := fun ρ => (ρ 1).i ≤ (ρ 7).i ∧ bI (ρ 8).d = wgtL (bI (ρ 3).d) (ρ 5).i }] }
def wgtEnv : List (Nat × SV) := [(0, .one (.vslice 0 (.lit 0) (.var 1) (.var 2) 1)), (1, iv .u8 (.var 5)), (5, .one (.vslice 1000 (.lit 0) (.var 1) (.var 1001) 1))]
def wgtX (d : Rows') (m : Nat) : F := toF ((bI d).getD m 0)
def wgt78I : Inv := { key := 3, nv := 4, env := wgtEnv ++ [(6, iv .i64 (.var 1003))], heap := [bHp 1000 1002 1001], inv := (fun ρ => (ρ 1).i ≤ (ρ 1001).i ∧ (ρ 1002).d = List.replicate (ρ 1).i.toNat [.int .u8 0] ∧ 0 ≤ (ρ 1003).i ∧ (ρ 1003).i ≤ (ρ 1).i ∧ ∀ m : Nat, (m : Int) < (ρ 1003).i → toF (ρ 5).i ≠ wgtX (ρ 3).d m), mu := (fun ρ => ((ρ 1).i - (ρ 1003).i).toNat) }
def notIn (n : Int) (x : Int) (d : Rows') : Prop := ∀ m : Nat, (m : Int) < n → toF x ≠ wgtX d m
def wgt78J : Inv := { key := 10, nv := 5, env := wgtEnv ++ [(7, iv .u8 (.var 1003)), (8, iv .i64 (.var 1004))], heap := [bHp 1000 1002 1001], inv := (fun ρ => (ρ 1).i ≤ (ρ 1001).i ∧ (ρ 1002).d = List.replicate (ρ 1).i.toNat [.int .u8 0] ∧ notIn (ρ 1).i (ρ 5).i (ρ 3).d ∧ 0 ≤ (ρ 1004).i ∧ (ρ 1004).i ≤ (ρ 1).i ∧ byteP (ρ 1003).i ∧ toF (ρ 1003).i = fprod (fun m => toF (ρ 5).i ^^^ wgtX (ρ 3).d m) (ρ 1004).i.toNat), mu := (fun ρ => ((ρ 1).i - (ρ 1004).i).toNat) }
def wgtP (n x abv i : Int) (dw d : Rows') : Prop := notIn n x d ∧ byteP abv ∧ toF abv = fprod (fun m => toF x ^^^ wgtX d m) n.toNat ∧ dw.length = n.toNat ∧ 0 ≤ i ∧ i ≤ n ∧ bI dw = fillTo (fun j => ofF (lagF n.toNat (wgtX d) (toF x) j)) n.toNat i.toNat
def wgt78K : Inv := { key := 14, nv := 5, env := wgtEnv ++ [(7, iv .u8 (.var 1003)), (9, iv .i64 (.var 1004))], heap := [bHp 1000 1002 1001], inv := (fun ρ => (ρ 1).i ≤ (ρ 1001).i ∧ wgtP (ρ 1).i (ρ 5).i (ρ 1003).i (ρ 1004).i (ρ 1002).d (ρ 3).d), mu := (fun ρ => ((ρ 1).i - (ρ 1004).i).toNat) }
def wgt78L : Inv := { key := 18, nv := 7, env := wgtEnv ++ [(7, iv .u8 (.var 1003)), (9, iv .i64 (.var 1004)), (10, iv .u8 (.var 1005)), (11, iv .i64 (.var 1006))], heap := [bHp 1000 1002 1001], inv := (fun ρ => (ρ 1).i ≤ (ρ 1001).i ∧ wgtP (ρ 1).i (ρ 5).i (ρ 1003).i (ρ 1004).i (ρ 1002).d (ρ 3).d ∧ (ρ 1004).i < (ρ 1).i ∧ (ρ 1004).i = (ρ 20).i ∧ 0 ≤ (ρ 1006).i ∧ (ρ 1006).i ≤ (ρ 1).i ∧ byteP (ρ 1005).i ∧ toF (ρ 1005).i = fmul (toF (ρ 5).i ^^^ wgtX (ρ 3).d (ρ 1004).i.toNat) (fprod (fun m => if m = (ρ 1004).i.toNat then 1 else wgtX (ρ 3).d (ρ 1004).i.toNat ^^^ wgtX (ρ 3).d m) (ρ 1006).i.toNat)), mu := (fun ρ => ((ρ 1).i - (ρ 1006).i).toNat) }
def sizes29C : Ctr := { sizes74C with fn := 108 }
end Go.Eng

set_option linter.unusedSimpArgs false
set_option linter.unusedVariables false
set_option maxRecDepth 100000
namespace Go.Proofs
open Go Go.Eng

def o_first79 : Out := (.fresh 1 (.inv 0 2 (sg 1000 [bt 1003 .dnil, bt 1002 (.lit 0), bt 1000 (.lit 0), bg 1001 1]) (.fresh 2 (.fresh 3 (.fresh 4 (.fresh 5 (.hyp 0 2 (.br (.cmp .lss (.var 2) (.var 0))
 (.fresh 6 (.need (.cmp .eql (.var 2) (.dlen (.var 5))) (.need (.cmp .leq (.tims (.lit 1) (.plus (.var 2) (.lit 1))) (.lit 140737488355328)) (.fresh 7 (.fresh 8 (.need (.cmp .eql (.plus (.var 2) (.lit 1)) (.arith .add .i64 (.var 2) (.lit 1))) (.back 0 2 (sg 1000 [bt 1003 (.dapp (.var 5) (.rcons (.vint .u8 (.conv .u8 (.var 2))) .rnil)), bv 1002 8, bt 1000 (.plus (.var 2) (.lit 1)), bg 1001 7]))))))))
 (.need (.cmp .eql (.var 0) (.var 2)) (.ret 0 (sg 1 [bv 3 5, bv 2 4, bg 1 3])))))))))))
theorem o_first79_eq : treeOf ⟨Tryd.prog, first79C, [], [first79I]⟩ 100000 Tryd.f111 = o_first79 := by kernel_rfl
theorem first79_of (hd : ∀ c ∈ ([] : List Ctr), c.ok Tryd.prog) (h : ∀ ρ : Env, ρ.good → (first79C).pre ρ → o_first79.den ⟨Tryd.prog, first79C, [], [first79I]⟩ ρ) : (first79C).ok Tryd.prog :=
  ok_of_tree Tryd.func111 (fun a w => Tryd.call111 a w) hd 100000 (fun ρ hg hp => by rw [o_first79_eq]; exact h ρ hg hp)
def o_wgt78 : Out := (.need (.cmp .leq (.lit 0) (.var 1)) (.need (.cmp .leq (.tims (.lit 1) (.var 1)) (.lit 281474976710656)) (.fresh 6 (.inv 0 7 (sg 1000 [bt 1002 (.drep (.var 1) (.rcons (.vint .u8 (.lit 0)) .rnil)), bt 1003 (.lit 0), bv 1001 1, bg 1000 6]) (.fresh 7 (.fresh 8 (.fresh 9 (.fresh 10 (.hyp 0 7 (.br (.cmp .lss (.var 10) (.var 1))
 (.need (.cmp .leq (.lit 0) (.var 10)) (.need (.cmp .lss (.var 10) (.dlen (.var 3))) (.br (.cmp .eql (.icell (.var 3) (.var 10) 0) (.var 5))
 (.need (.cmp .lss (.var 10) (.dlen (.var 9))) (.ret 0 (sg 6 [bt 8 (.dput (.var 9) (.var 10) 0 (.rcons (.vint .u8 (.lit 1)) .rnil)), bv 7 8, bg 6 7])))
 (.back 0 7 (sg 1000 [bv 1002 9, bt 1003 (.arith .add .i64 (.var 10) (.lit 1)), bv 1001 8, bg 1000 7])))))
 (.inv 1 11 (sg 1000 [bv 1002 9, bt 1004 (.lit 0), bt 1003 (.lit 1), bv 1001 8, bg 1000 7]) (.fresh 11 (.fresh 12 (.fresh 13 (.fresh 14 (.fresh 15 (.hyp 1 11 (.br (.cmp .lss (.var 15) (.var 1))
 (.need (.cmp .leq (.lit 0) (.var 15)) (.need (.cmp .lss (.var 15) (.dlen (.var 3))) (.pre 0 (sg 0 [bt 1 (.arith .xor .u8 (.var 5) (.icell (.var 3) (.var 15) 0)), bv 0 14]) (.both (.fresh 16 (.post 0 0 (sg 0 [bt 1 (.arith .xor .u8 (.var 5) (.icell (.var 3) (.var 15) 0)), bv 0 14]) 16 (.back 1 11 (sg 1000 [bv 1002 13, bt 1004 (.arith .add .i64 (.var 15) (.lit 1)), bv 1003 16, bv 1001 12, bg 1000 11])))) .top))))
 (.inv 2 16 (sg 1000 [bv 1002 13, bt 1004 (.lit 0), bv 1003 14, bv 1001 12, bg 1000 11]) (.fresh 16 (.fresh 17 (.fresh 18 (.fresh 19 (.fresh 20 (.hyp 2 16 (.br (.cmp .lss (.var 20) (.var 1))
 (.need (.cmp .leq (.lit 0) (.var 20)) (.need (.cmp .lss (.var 20) (.dlen (.var 3))) (.inv 3 21 (sg 1000 [bv 1002 18, bt 1006 (.lit 0), bt 1005 (.arith .xor .u8 (.var 5) (.icell (.var 3) (.var 20) 0)), bv 1004 20, bv 1003 19, bv 1001 17, bg 1000 16]) (.fresh 21 (.fresh 22 (.fresh 23 (.fresh 24 (.fresh 25 (.fresh 26 (.fresh 27 (.hyp 3 21 (.br (.cmp .lss (.var 27) (.var 1))
 (.br (.cmp .neq (.var 27) (.var 25))
 (.need (.cmp .leq (.lit 0) (.var 25)) (.need (.cmp .lss (.var 25) (.var 1)) (.need (.cmp .lss (.var 25) (.dlen (.var 3))) (.need (.cmp .leq (.lit 0) (.var 27)) (.need (.cmp .lss (.var 27) (.dlen (.var 3))) (.both (.pre 0 (sg 0 [bt 1 (.arith .xor .u8 (.icell (.var 3) (.var 25) 0) (.icell (.var 3) (.var 27) 0)), bv 0 26]) (.both (.fresh 28 (.post 0 0 (sg 0 [bt 1 (.arith .xor .u8 (.icell (.var 3) (.var 25) 0) (.icell (.var 3) (.var 27) 0)), bv 0 26]) 28 (.back 3 21 (sg 1000 [bv 1002 23, bt 1006 (.arith .add .i64 (.var 27) (.lit 1)), bv 1005 28, bv 1004 25, bv 1003 24, bv 1001 22, bg 1000 21])))) .top)) .top))))))
 (.back 3 21 (sg 1000 [bv 1002 23, bt 1006 (.arith .add .i64 (.var 27) (.lit 1)), bv 1005 26, bv 1004 25, bv 1003 24, bv 1001 22, bg 1000 21])))
 (.pre 1 (sg 0 [bv 0 26]) (.both (.fresh 28 (.post 1 0 (sg 0 [bv 0 26]) 28 (.pre 0 (sg 0 [bv 1 28, bv 0 24]) (.both (.fresh 29 (.post 0 0 (sg 0 [bv 1 28, bv 0 24]) 29 (.need (.cmp .leq (.lit 0) (.var 25)) (.need (.cmp .lss (.var 25) (.var 1)) (.need (.cmp .lss (.var 25) (.dlen (.var 23))) (.back 2 16 (sg 1000 [bt 1002 (.dput (.var 23) (.var 25) 0 (.rcons (.vint .u8 (.var 29)) .rnil)), bt 1004 (.arith .add .i64 (.var 25) (.lit 1)), bv 1003 24, bv 1001 22, bg 1000 21]))))))) .top)))) .top))))))))))))))
 (.ret 0 (sg 6 [bv 8 18, bv 7 17, bg 6 16]))))))))))))))))))))))))))))
theorem o_wgt78_eq : treeOf ⟨Tryd.prog, wgt78C, [times53C, over54C], [wgt78I, wgt78J, wgt78K, wgt78L]⟩ 100000 Tryd.f110 = o_wgt78 := by kernel_rfl
theorem wgt78_of (hd : ∀ c ∈ ([times53C, over54C] : List Ctr), c.ok Tryd.prog) (h : ∀ ρ : Env, ρ.good → (wgt78C).pre ρ → o_wgt78.den ⟨Tryd.prog, wgt78C, [times53C, over54C], [wgt78I, wgt78J, wgt78K, wgt78L]⟩ ρ) : (wgt78C).ok Tryd.prog :=
  ok_of_tree Tryd.func110 (fun a w => Tryd.call110 a w) hd 100000 (fun ρ hg hp => by rw [o_wgt78_eq]; exact h ρ hg hp)
def o_sizes29 : Out := (.br (.cmp .leq (.lit 1) (.var 0))
 (.br (.cmp .leq (.var 0) (.var 1))
 (.ret 0 (sg 2 [bt 2 (.cmp .leq (.var 1) (.lit 255))]))
 (.ret 0 (sg 2 [bt 2 (.bl false)])))
 (.ret 0 (sg 2 [bt 2 (.bl false)])))
theorem o_sizes29_eq : treeOf ⟨Tryd.prog, sizes29C, [], []⟩ 100000 Tryd.f108 = o_sizes29 := by kernel_rfl
theorem sizes29_of (hd : ∀ c ∈ ([] : List Ctr), c.ok Tryd.prog) (h : ∀ ρ : Env, ρ.good → (sizes29C).pre ρ → o_sizes29.den ⟨Tryd.prog, sizes29C, [], []⟩ ρ) : (sizes29C).ok Tryd.prog :=
  ok_of_tree Tryd.func108 (fun a w => Tryd.call108 a w) hd 100000 (fun ρ hg hp => by rw [o_sizes29_eq]; exact h ρ hg hp)
end Go.Proofs

set_option linter.unusedSimpArgs false
set_option linter.unusedVariables false
namespace Go.Proofs
open Go Go.Eng

end Go.Proofs

set_option linter.unusedSimpArgs false
set_option linter.unusedVariables false
namespace Go.Proofs
open Go Go.Eng
theorem sizes29_ok : sizes29C.ok Tryd.prog := sizes29_of (by simp) fun ρ hg hp => by
  simp [o_sizes29, sizes29C, sizes74C]
  refine ⟨fun h1 => ⟨fun h2 => ?_, fun h2 => ?_⟩, fun h1 => ?_⟩
  · simp [sizesB, h1, h2, cmpOf]
  · simp [sizesB]; omega
  · simp [sizesB]; omega
theorem first79_ok : first79C.ok Tryd.prog := first79_of (by simp) fun ρ hg hp => by
  obtain ⟨h0, h1⟩ := hp
  simp [o_first79, first79C, first79I]
  refine ⟨⟨h0, rfl⟩, fun i _ d _ i0 i1 hd => ⟨fun hi => ?_, fun hi => ?_⟩⟩
  · have hl : d.d.length = i.i.toNat := by rw [← bI_len, hd, firstL]; simp
    have hw : IntKind.u8.wrap i.i = i.i := by simp [IntKind.wrap, IntKind.bits, IntKind.signed]; omega
    rw [add64 (by omega) (by omega), hw]
    refine ⟨by omega, by omega, rfl, ⟨by omega, by omega, ?_⟩, by omega⟩
    rw [show (i.i + 1).toNat = i.i.toNat + 1 by omega, firstL, List.range_succ, List.map_append, ← firstL, ← hd]
    simp [bI, rowI, vInt]; omega
  · have : i.i = (ρ 0).i := by omega
    exact ⟨by omega, by rw [← this]; exact hd⟩
theorem wgtX_cell {d : Rows'} {i : Int} (h0 : 0 ≤ i) (h1 : i < d.length) : toF (cellI d i 0) = wgtX d i.toNat := by
  rw [wgtX, List.getD_eq_getElem?_getD, bI_get h0 h1]; rfl
theorem fillTo_at {f : Nat → Int} {n : Nat} : fillTo f n n = (List.range n).map f := fillTo_full
theorem finv_fmul {a b : F} (ha : a ≠ 0) (hb : b ≠ 0) : finv (fmul a b) = fmul (finv a) (finv b) := by
  symm
  refine fmul_eq_one ?_
  rw [fmul_assoc, ← fmul_assoc (x := b), fmul_comm (x := b), fmul_assoc (x := finv a), fmul_finv hb, fmul_one, fmul_finv ha]
theorem lag_weight {n : Nat} {xs : Nat → F} {x : F} {i : Nat} (hd : distinct n xs) (hi : i < n) (hx : ∀ m, m < n → x ≠ xs m) :
    fmul (fprod (fun m => x ^^^ xs m) n) (finv (fmul (x ^^^ xs i) (fprod (fun m => if m = i then 1 else xs i ^^^ xs m) n))) = lagF n xs x i := by
  have h1 : x ^^^ xs i ≠ 0 := fun h => hx i hi (xor_eq_zero.1 h)
  have h2 : fprod (fun m => if m = i then 1 else xs i ^^^ xs m) n ≠ 0 := fprod_ne fun m hm => by
    split
    · decide
    · rename_i hmi
      exact fun h => hmi (hd i m hi hm (xor_eq_zero.1 h)).symm
  rw [finv_fmul h1 h2, fprod_out hi, lagF, fmul_comm (x := x ^^^ xs i), fmul_assoc, ← fmul_assoc (x := x ^^^ xs i), fmul_finv h1, one_fmul]
theorem wgtL_in {d : Rows'} {x : Int} {i : Nat} (hd : distL (bI d)) (hi : i < d.length) (hx : toF x = wgtX d i) : wgtL (bI d) x = (List.replicate d.length 0).set i 1 := by
  apply List.ext_getElem?
  intro j
  rw [wgtL, bI_len, List.getElem?_map, List.getElem?_set]
  by_cases hj : j < d.length
  · rw [List.getElem?_range hj, Option.map_some, hx]
    have hdd : distinct d.length (wgtX d) := by
      have := hd
      unfold distL at this
      rw [bI_len] at this
      exact this
    have hl : lagF d.length (fun m => toF ((bI d).getD m 0)) (wgtX d i) j = del j i := lag_del hdd hj hi
    rw [hl, del]
    by_cases hij : i = j
    · subst hij; rw [if_pos rfl, if_pos rfl, if_pos (by simpa using hj)]; rfl
    · rw [if_neg (Ne.symm hij), if_neg hij, List.getElem?_replicate, if_pos hj]; rfl
  · rw [List.getElem?_eq_none (by simp; omega), Option.map_none, if_neg (by omega), List.getElem?_eq_none (by simp; omega)]
theorem wgt78_ok : wgt78C.ok Tryd.prog := wgt78_of (by simp [times53_ok, over54_ok]) fun ρ hg hp => by
  obtain ⟨l0, l1, l2, hB, hx, hd⟩ := hp
  have hdd : distinct (ρ 1).i.toNat (wgtX (ρ 3).d) := by
    have := hd
    unfold distL at this
    rw [bI_len, show (ρ 3).d.length = (ρ 1).i.toNat by omega] at this
    exact this
  have hw1 : ∀ i : Int, 0 ≤ i → i < (ρ 1).i → isB (cellI (ρ 3).d i 0) := fun i h0 h1 => allB_get hB h0 (by omega)
  simp (config := { maxSteps := 4000000 }) [o_wgt78, wgt78C, wgt78I, wgt78J, wgt78K, wgt78L, times53C, over54C]
  refine ⟨l0, by omega, ⟨l0, fun m h => by omega⟩, fun cp _ w _ i _ hcp hw i0 i1 hni => ⟨fun hi => ⟨i0, by omega, fun he => ?_, fun hne => ?_⟩, fun hi => ?_⟩⟩
  · rw [hw]
    refine ⟨by rw [List.length_replicate]; omega, hcp, ?_⟩
    rw [bI_put, bI_rep, wgtL_in hd (i := i.i.toNat) (by omega) (by rw [← he]; exact wgtX_cell i0 (by omega)), show (ρ 1).i.toNat = (ρ 3).d.length by omega]
  · rw [add64 (by omega) (by omega)]
    refine ⟨⟨hcp, hw, by omega, by omega, fun m hm => ?_⟩, by omega⟩
    by_cases hmi : (m : Int) = i.i
    · intro h
      have hc := wgtX_cell (d := (ρ 3).d) i0 (by omega)
      rw [← hmi, Int.toNat_natCast, hmi] at hc
      exact hne (toF_inj (hw1 _ i0 hi) hx (hc.trans h.symm))
    · exact hni m (by omega)
  have hnot : notIn (ρ 1).i (ρ 5).i (ρ 3).d := fun m hm => hni m (by omega)
  have hneq : ∀ m, m < (ρ 1).i.toNat → toF (ρ 5).i ≠ wgtX (ρ 3).d m := fun m hm => hnot m (by omega)
  refine ⟨⟨hcp, hw, hnot, l0, ⟨by omega, by omega⟩, rfl⟩, fun cp2 _ w2 _ p _ j _ hcp2 hw2 _ j0 j1 hpB hp => ⟨fun hj => ?_, fun hj => ?_⟩⟩
  · rw [add64 (by omega) (by omega)]
    refine ⟨j0, by omega, ⟨hpB, xorB_isB⟩, fun q _ hq => ⟨⟨hcp2, hw2, hnot, by omega, by omega, by rw [hq]; exact mulF_isB hpB xorB_isB, ?_⟩, by omega⟩⟩
    have hxx : toF (xorB (ρ 5).i (cellI (ρ 3).d j.i 0)) = toF (ρ 5).i ^^^ wgtX (ρ 3).d j.i.toNat := by rw [toF_xorB, wgtX_cell j0 (by omega)]
    have hm : toF (mulF p.i (xorB (ρ 5).i (cellI (ρ 3).d j.i 0))) = fmul (toF p.i) (toF (ρ 5).i ^^^ wgtX (ρ 3).d j.i.toNat) := by rw [toF_mulF hpB xorB_isB, hxx]
    rw [hq, show (j.i + 1).toNat = j.i.toNat + 1 by omega, fprod, ← hp]
    exact hm
  have hpn : toF p.i = fprod (fun m => toF (ρ 5).i ^^^ wgtX (ρ 3).d m) (ρ 1).i.toNat := by rw [hp]; congr 1; omega
  refine ⟨⟨hcp2, hnot, hpB, hpn, by rw [hw2, List.length_replicate], Int.le_refl _, l0, by rw [hw2, bI_rep]; exact fillTo_zero.symm⟩, fun cp3 _ w3 _ p3 _ i3 _ hcp3 hP => ⟨fun hi3 => ?_, fun hi3 => ?_⟩⟩
  · have hP' := hP
    obtain ⟨_, hpB3, hp3, hwl, i30, i31, hf⟩ := hP'
    have hst : toF (xorB (ρ 5).i (cellI (ρ 3).d i3.i 0)) = toF (ρ 5).i ^^^ wgtX (ρ 3).d i3.i.toNat := by rw [toF_xorB, wgtX_cell i30 (by omega)]
    refine ⟨i30, by omega, ⟨hcp3, hP, hi3, l0, xorB_isB, ?_⟩, fun cp4 _ w4 _ p4 _ i4 _ q4 _ j4 _ hcp4 hP4 hi4 hii j40 j41 hqB hq4 => ⟨fun hj4 => ⟨fun hne => ?_, fun he => ?_⟩, fun hj4 => ?_⟩⟩
    · show toF (xorB _ _) = _
      rw [hst, fprod]; exact fmul_one.symm
    · obtain ⟨_, hpB4, hp4, hwl4, i40, i41, hf4⟩ := hP4
      rw [add64 (by omega) (by omega)]
      refine ⟨i40, hi4, by omega, j40, by omega, ⟨hqB, xorB_isB⟩, fun z _ hz => ⟨⟨hcp4, ⟨hnot, hpB4, hp4, hwl4, i40, i41, hf4⟩, hi4, hii, by omega, by omega, by rw [hz]; exact mulF_isB hqB xorB_isB, ?_⟩, by omega⟩⟩
      have hm : toF (mulF q4.i (xorB (cellI (ρ 3).d i4.i 0) (cellI (ρ 3).d j4.i 0))) = fmul (toF q4.i) (wgtX (ρ 3).d i4.i.toNat ^^^ wgtX (ρ 3).d j4.i.toNat) := by rw [toF_mulF hqB xorB_isB, toF_xorB, wgtX_cell i40 (by omega), wgtX_cell j40 (by omega)]
      rw [hz, show (j4.i + 1).toNat = j4.i.toNat + 1 by omega, fprod, if_neg (by omega), ← fmul_assoc, ← hq4]
      exact hm
    · rw [add64 (by omega) (by omega)]
      refine ⟨⟨hcp4, hP4, hi4, hii, by omega, by omega, hqB, ?_⟩, by omega⟩
      rw [hq4, show (j4.i + 1).toNat = j4.i.toNat + 1 by omega, fprod, if_pos (by omega), show (1#8 : F) = 1 from rfl, fmul_one]
    · obtain ⟨_, hpB4, hp4, hwl4, i40, i41, hf4⟩ := hP4
      rw [add64 (by omega) (by omega)]
      refine ⟨hqB, fun iv _ hiv => ⟨⟨hpB4, by rw [hiv]; exact invF_isB hqB⟩, fun z _ hz => ⟨i40, hi4, by omega, ⟨hcp4, hnot, hpB4, hp4, by rw [putD_len]; exact hwl4, by omega, by omega, ?_⟩, by omega⟩⟩⟩
      rw [bI_put, hf4, show (i4.i + 1).toNat = i4.i.toNat + 1 by omega, fillTo_step (by omega)]
      congr 1
      refine toF_inj ?_ ofF_isB ?_
      · rw [hz]; exact mulF_isB hpB4 (by rw [hiv]; exact invF_isB hqB)
      · rw [hz, hiv, toF_mulF hpB4 (invF_isB hqB), toF_invF hqB, hp4, hq4, toF_ofF, show j4.i.toNat = (ρ 1).i.toNat by omega]
        exact lag_weight hdd (by omega) hneq
  · obtain ⟨_, hpB3, hp3, hwl, i30, i31, hf⟩ := hP
    refine ⟨hcp3, ?_⟩
    rw [hf, show i3.i.toNat = (ρ 1).i.toNat by omega, fillTo_at, wgtL, bI_len, show (ρ 3).d.length = (ρ 1).i.toNat by omega]
    rfl
theorem lagF_congr {n : Nat} {xs ys : Nat → F} {x : F} {i : Nat} (hi : i < n) (h : ∀ m, m < n → xs m = ys m) : lagF n xs x i = lagF n ys x i := by
  rw [lagF, lagF, fprod_congr (g := fun m => if m = i then 1 else x ^^^ ys m) fun m hm => by simp only [h m hm], fprod_congr (f := fun m => if m = i then 1 else xs i ^^^ xs m) (g := fun m => if m = i then 1 else ys i ^^^ ys m) fun m hm => by simp only [h m hm, h i hi]]
theorem first_get {n m : Nat} (h : m < n) : (firstL n).getD m 0 = (m : Int) := by
  rw [List.getD_eq_getElem?_getD, firstL, List.getElem?_map, List.getElem?_range h]; rfl
theorem first_len {n : Nat} : (firstL n).length = n := by simp [firstL]
theorem first_dist {n : Nat} (h : n ≤ 256) : distL (firstL n) := by
  unfold distL
  rw [first_len]
  intro i j hi hj he
  simp only at he
  rw [first_get hi, first_get hj] at he
  exact xs_distinct h i j hi hj he
theorem gen_row {k total i : Nat} (h1 : 1 ≤ k) (hk : k ≤ total) (ht : total ≤ 255) (hi : i < total) : (genL k total).take ((i + 1) * k) = (genL k total).take (i * k) ++ wgtL (firstL k) (i : Int) := by
  obtain ⟨g1, g2, _, g4⟩ := gen_facts h1 hk ht
  rw [Nat.add_mul, Nat.one_mul, List.take_add]
  congr 1
  have hle := row_le (ca := k) hi
  apply List.ext_getElem?
  intro j
  rw [List.getElem?_take, List.getElem?_drop, wgtL, first_len, List.getElem?_map]
  by_cases hj : j < k
  · rw [if_pos hj, List.getElem?_range hj, Option.map_some, List.getElem?_eq_getElem (by omega)]
    have h2 := g4 i j hi hj
    rw [matL, List.getD_eq_getElem?_getD, List.getElem?_eq_getElem (by omega), Option.getD_some] at h2
    rw [Option.some.injEq, ← ofF_toF (g2 _ (List.getElem_mem (l := genL k total) (n := i * k + j) (by omega))), h2]
    congr 1
    refine lagF_congr hj fun m hm => ?_
    rw [first_get hm]; rfl
  · rw [if_neg hj, List.getElem?_eq_none (l := List.range k) (by simp; omega)]; rfl
theorem wgtL_len {xs : List Int} {x : Int} : (wgtL xs x).length = xs.length := by simp [wgtL]
theorem first_bytes {n : Nat} (h : n ≤ 256) : bytesL (firstL n) := fun x hx => by
  obtain ⟨m, hm, rfl⟩ := List.mem_map.1 hx
  have := List.mem_range.1 hm
  exact ⟨by omega, by omega⟩
end Go.Proofs

set_option linter.unusedSimpArgs false
set_option linter.unusedVariables false
namespace Go.Eng
open Go Go.Proofs
end Go.Eng
namespace Go.Proofs
open Go Go.Eng

end Go.Proofs

set_option linter.unusedSimpArgs false
set_option linter.unusedVariables false
namespace Go.Eng
open Go Go.Proofs
end Go.Eng
namespace Go.Proofs
open Go Go.Eng
theorem enc_pc {h : Hp} {D : Rows'} {n : Nat} {f : Nat → List Int} (he : encAt h D n f) : pcOk h D n ∧ ∀ j, j < n → pcI D j = j ∧ pcD h D j = f j := by
  refine ⟨fun j hj => ?_, fun j hj => ?_⟩
  · obtain ⟨v, d, e, hr, _, hb⟩ := he j hj
    exact ⟨_, v, d, e, hr, hb⟩
  · obtain ⟨v, d, e, hr, hf, hb⟩ := he j hj
    refine ⟨by simp [pcI, cellI, cellV, e, vInt], ?_⟩
    rw [pcD, show cellV D (j : Int) 1 = v by simp [cellV, e], rdL_eq hr, hf]
end Go.Proofs

set_option linter.unusedSimpArgs false
set_option linter.unusedVariables false
namespace Go.Eng
open Go Go.Proofs

def rangeI (n : Nat) : List Int := (List.range n).map fun (m : Nat) => (m : Int)
end Go.Eng

set_option linter.unusedSimpArgs false
set_option linter.unusedVariables false
namespace Go.Eng
open Go Go.Proofs

def samePc (h h' : Hp) (D D' : Rows') (n n' : Nat) : Prop := n = n' ∧ ∀ j, j < n → pcI D j = pcI D' j ∧ pcD h D j = pcD h' D' j
def same33Of (hp ro : List SH) (a b : Nat) : Ctr := { fn := 27, nv := 12, args := [pcS 0 1 2, pcS 5 6 7], heap := hp, ro := [pcHp 0 3 4, pcHp 5 8 9] ++ ro, pre := fun ρ => 0 ≤ (ρ 1).i ∧ (ρ 1).i ≤ 17592186043904 ∧ 0 ≤ (ρ 6).i ∧ pcOk (ρ a).h (ρ 3).d (ρ 1).i.toNat ∧ pcOk (ρ b).h (ρ 8).d (ρ 6).i.toNat, alts := [{ k := 1, ret := .one (.vbool (.var 12)), heap := hp, post := fun ρ => (ρ 12).b = true ↔ samePc (ρ a).h (ρ b).h (ρ 3).d (ρ 8).d (ρ 1).i.toNat (ρ 6).i.toNat }] }
def same33C : Ctr := same33Of [.abs 10 2] [] 10 10
def same33IOf (hp : List SH) (a b : Nat) : Inv := { key := 4, nv := 1, env := [(0, pcS 0 1 2), (1, pcS 5 6 7), (5, iv .i64 (.var 1000))], heap := hp, inv := (fun ρ => 0 ≤ (ρ 1000).i ∧ (ρ 1000).i ≤ (ρ 1).i ∧ (ρ 1).i = (ρ 6).i ∧ ∀ j, j < (ρ 1000).i.toNat → pcI (ρ 3).d j = pcI (ρ 8).d j ∧ pcD (ρ a).h (ρ 3).d j = pcD (ρ b).h (ρ 8).d j), mu := (fun ρ => ((ρ 1).i - (ρ 1000).i).toNat) }
def mixN (f : Nat → List Int) (w : List Int) (l : Nat) : Nat → List Int
  | 0 => List.replicate l 0
  | j + 1 => addToL (mixN f w l j) 0 (seg (f j) 0 l) (w.getD j 0)
def wS : SV := .one (.vslice 5 (.lit 0) (.var 6) (.var 7) 1)
def mix77Of (t : Nat) : Ctr := { fn := 109, nv := 12, args := [pcS 0 1 2, wS, iv .i64 (.var 10)], heap := [], ro := [pcHp 0 3 4, bHp 5 8 9, .abs 11 t], pre := fun ρ => 0 ≤ (ρ 1).i ∧ (ρ 1).i ≤ 255 ∧ 0 ≤ (ρ 10).i ∧ (ρ 10).i ≤ 9000 ∧ (ρ 6).i = (ρ 1).i ∧ (ρ 6).i ≤ (ρ 8).d.length ∧ allB (ρ 8).d ∧ pcOk (ρ 11).h (ρ 3).d (ρ 1).i.toNat ∧ ∀ j, j < (ρ 1).i.toNat → (ρ 10).i ≤ (pcD (ρ 11).h (ρ 3).d j).length, alts := [
  { k := 3, ret := .one (.vslice 12 (.lit 0) (.var 10) (.var 13) 1), heap := [bHp 12 14 13], post := fun ρ => (ρ 14).d.length = (ρ 10).i.toNat ∧ allB (ρ 14).d ∧ bI (ρ 14).d = mixN (pcD (ρ 11).h (ρ 3).d) (bI (ρ 8).d) (ρ 10).i.toNat (ρ 1).i.toNat }] }
def mix77C : Ctr := mix77Of 2
def mix77Env : List (Nat × SV) := [(0, pcS 0 1 2), (1, wS), (2, iv .i64 (.var 10)), (7, .one (.vslice 1000 (.lit 0) (.var 10) (.var 1001) 1)), (8, iv .i64 (.var 1003))]
def mix77I : Inv := { key := 3, nv := 4, env := mix77Env, heap := [bHp 1000 1002 1001], inv := (fun ρ => 0 ≤ (ρ 1003).i ∧ (ρ 1003).i ≤ (ρ 1).i ∧ (ρ 1002).d.length = (ρ 10).i.toNat ∧ allB (ρ 1002).d ∧ bI (ρ 1002).d = mixN (pcD (ρ 11).h (ρ 3).d) (bI (ρ 8).d) (ρ 10).i.toNat (ρ 1003).i.toNat), mu := (fun ρ => ((ρ 1).i - (ρ 1003).i).toNat) }
def mix77J : Inv := { key := 7, nv := 5, env := mix77Env ++ [(9, iv .i64 (.var 1004))], heap := [bHp 1000 1002 1001], inv := (fun ρ => 0 ≤ (ρ 1003).i ∧ (ρ 1003).i < (ρ 1).i ∧ (ρ 1003).i = (ρ 16).i ∧ (ρ 1002).d.length = (ρ 10).i.toNat ∧ allB (ρ 1002).d ∧ 0 ≤ (ρ 1004).i ∧ (ρ 1004).i ≤ (ρ 10).i ∧ bI (ρ 1002).d = addToL (mixN (pcD (ρ 11).h (ρ 3).d) (bI (ρ 8).d) (ρ 10).i.toNat (ρ 1003).i.toNat) 0 (seg (pcD (ρ 11).h (ρ 3).d (ρ 1003).i.toNat) 0 (ρ 1004).i.toNat) ((bI (ρ 8).d).getD (ρ 1003).i.toNat 0)), mu := (fun ρ => ((ρ 10).i - (ρ 1004).i).toNat) }
def dataS : SV := .one (.vslice 2 (.lit 0) (.var 3) (.var 4) 1)
def split32C : Ctr := { fn := 74, nv := 7, ip := [(79, 2)], args := [iv .i64 (.var 0), iv .i64 (.var 1), dataS], heap := [], ro := [bHp 2 5 6], pre := fun ρ => (ρ 3).i = (ρ 5).d.length ∧ allB (ρ 5).d, alts := [
  { k := 1, ret := .tup [(false, [.vnils]), eRet (.var 7)], heap := [], post := fun ρ => (sizesB (ρ 0).i (ρ 1).i = false ∧ (ρ 7).i = 2) ∨ (sizesB (ρ 0).i (ρ 1).i = true ∧ 8192 < (ρ 3).i ∧ (ρ 7).i = 3) },
  { k := 4, ret := .tup [(false, [.vslice 7 (.lit 0) (.var 1) (.var 8) 2]), eRet (.lit 0)], heap := [pcHp 7 9 8, .abs 10 2], post := fun ρ => sizesB (ρ 0).i (ρ 1).i = true ∧ (ρ 3).i ≤ 8192 ∧ (ρ 9).d.length = (ρ 1).i.toNat ∧ encAt (ρ 10).h (ρ 9).d (ρ 1).i.toNat (encP (ρ 0).i.toNat (ρ 1).i.toNat (bI (ρ 5).d)) }] }
def splitW (k total len l n i : Int) (D data : Rows') (h : Hp) : Prop :=
  sizesB k total = true ∧ len ≤ 8192 ∧ len = data.length ∧ allB data ∧ l = (pieceLen k.toNat data.length : Nat) ∧ l ≤ 8192 ∧ n = i ∧ n = D.length ∧ 0 ≤ i ∧ i ≤ total ∧ encAt h D i.toNat (encP k.toNat total.toNat (bI data))
def splitEnv : List (Nat × SV) := [(0, iv .i64 (.var 0)), (1, iv .i64 (.var 1)), (8, iv .i64 (.var 1000)), (10, pcS 1001 1002 1003)]
def split32I : Inv := { key := 8, nv := 7, env := splitEnv ++ [(2, dataS), (11, iv .i64 (.var 1005))], heap := [pcHp 1001 1004 1003, .abs 1006 2], inv := (fun ρ => splitW (ρ 0).i (ρ 1).i (ρ 3).i (ρ 1000).i (ρ 1002).i (ρ 1005).i (ρ 1004).d (ρ 5).d (ρ 1006).h ∧ (ρ 1005).i ≤ (ρ 0).i), mu := (fun ρ => ((ρ 0).i - (ρ 1005).i).toNat) }
def split32J : Inv := { key := 12, nv := 11, env := splitEnv ++ [(2, dataS), (11, iv .i64 (.var 1005)), (12, .one (.vslice 1007 (.lit 0) (.var 1000) (.var 1008) 1)), (13, iv .i64 (.var 1010))], heap := [pcHp 1001 1004 1003, bHp 1007 1009 1008, .abs 1006 2], inv := (fun ρ => splitW (ρ 0).i (ρ 1).i (ρ 3).i (ρ 1000).i (ρ 1002).i (ρ 1005).i (ρ 1004).d (ρ 5).d (ρ 1006).h ∧ (ρ 1005).i < (ρ 0).i ∧ (ρ 1005).i = (ρ 17).i ∧ 0 ≤ (ρ 1010).i ∧ (ρ 1010).i ≤ (ρ 1000).i ∧ allB (ρ 1009).d ∧ bI (ρ 1009).d = fillTo (fun c => (bI (ρ 5).d).getD ((ρ 1005).i.toNat * (ρ 1000).i.toNat + c) 0) (ρ 1000).i.toNat (ρ 1010).i.toNat), mu := (fun ρ => ((ρ 1000).i - (ρ 1010).i).toNat) }
def split32K : Inv := { key := 17, nv := 7, env := splitEnv ++ [(14, iv .i64 (.var 1005))], heap := [pcHp 1001 1004 1003, .abs 1006 2], inv := (fun ρ => splitW (ρ 0).i (ρ 1).i (ρ 3).i (ρ 1000).i (ρ 1002).i (ρ 1005).i (ρ 1004).d (ρ 5).d (ρ 1006).h ∧ (ρ 0).i ≤ (ρ 1005).i), mu := (fun ρ => ((ρ 1).i - (ρ 1005).i).toNat) }
end Go.Eng

set_option linter.unusedSimpArgs false
set_option linter.unusedVariables false
namespace Go.Eng
open Go Go.Proofs
def smallV (P D O B : Rows') (h : Hp) : Prop := P.length ≤ 60 ∧ D.length ≤ 400 ∧ O.length ≤ 10000 ∧ B.length ≤ 60 ∧ ∀ j, j < P.length → (pcD h P j).length ≤ 9000
def smallCase (ρ : Env) : Prop := smallV (ρ 25).d (ρ 23).d (ρ 21).d (ρ 27).d (ρ 29).h
def largeC : Ctr := { fn := 21, nv := 30, args := [caseArg], heap := [], ro := caseRo, pre := caseIn, alts := [
  { k := 1, ret := .one (.vbool (.var 30)), heap := [], post := fun ρ => (ρ 30).b = false → smallCase ρ }] }
def caseCells : List T := [.vint .i64 (.var 0), .vint .i64 (.var 1), .vint .i64 (.var 2), .vint .i64 (.var 3), .vslice 4 (.lit 0) (.var 5) (.var 6) 1] ++ (manT 7 8 9 10 11 12 13 14 ++ [.vslice 15 (.lit 0) (.var 16) (.var 17) 2, .vslice 18 (.lit 0) (.var 19) (.var 20) 1])
def largeI : Inv := { key := 4, nv := 2, env := [(1, .one (.vptr 1000 (.lit 0) 44 0)), (3, iv .i64 (.var 1001))], heap := [.cells 1000 31 caseCells], inv := (fun ρ => (ρ 16).i ≤ 60 ∧ (ρ 13).i ≤ 400 ∧ (ρ 5).i ≤ 10000 ∧ (ρ 19).i ≤ 60 ∧ 0 ≤ (ρ 1001).i ∧ (ρ 1001).i ≤ (ρ 16).i ∧ ∀ j, j < (ρ 1001).i.toNat → (pcD (ρ 29).h (ρ 25).d j).length ≤ 9000), mu := (fun ρ => ((ρ 16).i - (ρ 1001).i).toNat) }
def madeIs (k n t s : Int) (m o : List Int) (D E : Rows') (h : Hp) : Prop := sizes3 k n t = true ∧ s ≤ 8192 ∧ E.length = t.toNat ∧ encAt h E t.toNat (encP k.toNat t.toNat m) ∧ o = sha m ∧ dgsOk D ∧ dgs D = madeAt (encP k.toNat t.toNat m) t.toNat
def makeErr (k n t s e : Int) : Prop := (sizes3 k n t = false ∧ e = 2) ∨ (sizes3 k n t = true ∧ 8192 < s ∧ e = 3)
def split32G : Ctr := { split32C with pre := fun ρ => split32C.pre ρ ∧ sizesB (ρ 0).i (ρ 1).i = true ∧ (ρ 3).i ≤ 8192, alts := split32C.alts.drop 1 }
def madeV (r : Nat) : SV := .tup [(true, manT r (r + 1) (r + 2) (r + 3) (r + 4) (r + 5) (r + 6) (r + 7)), (false, [.vslice (r + 9) (.lit 0) (.var (r + 10)) (.var (r + 11)) 2]), eRet (.var (r + 14))]
def madeHp (r : Nat) : List SH := [dgsHp (r + 5) (r + 8) (r + 7), pcHp (r + 9) (r + 12) (r + 11), .abs (r + 13) 2]
def madeS (e k' n' t' s' l q k n t s : Int) (o m : List Int) (D E : Rows') (h : Hp) : Prop := (makeErr k n t s e ∧ k' = 0 ∧ n' = 0 ∧ t' = 0 ∧ s' = 0 ∧ o = List.replicate 32 0 ∧ l = 0 ∧ D = [] ∧ q = 0 ∧ E = []) ∨ (e = 0 ∧ k' = k ∧ n' = n ∧ t' = t ∧ s' = s ∧ l = t ∧ q = t ∧ madeIs k n t s m o D E h)
def madePost (ρ : Env) (r : Nat) (k n t s : Int) (m : List Int) : Prop := madeS (ρ (r + 14)).i (ρ r).i (ρ (r + 1)).i (ρ (r + 2)).i (ρ (r + 3)).i (ρ (r + 6)).i (ρ (r + 10)).i k n t s (rowL (ρ (r + 4)).d 32) m (ρ (r + 8)).d (ρ (r + 12)).d (ρ (r + 13)).h
def makeU : Ctr := { makeC with alts := [{ k := 16, ret := madeV 12, heap := fHp 27 :: madeHp 12, post := fun ρ => fieldD (ρ 27).d ∧ madePost ρ 12 (ρ 2).i (ρ 3).i (ρ 4).i (ρ 6).i (bI (ρ 8).d) }] }
def refMakeC : Ctr := { fn := 25, nv := 10, ip := [gIs 8, (1001, 9), (1002, 9)], args := [iv .i64 (.var 0), iv .i64 (.var 1), iv .i64 (.var 2), bS 3], heap := [], ro := [bSHp 3, gHp 8 9], pre := fun ρ => (ρ 4).i = (ρ 6).d.length ∧ allB (ρ 6).d ∧ gOk ρ 8 9 gS, alts := [
  { k := 15, ret := madeV 10, heap := madeHp 10, post := fun ρ => madePost ρ 10 (ρ 0).i (ρ 1).i (ρ 2).i (ρ 4).i (bI (ρ 6).d) }] }
def refMakeI : Inv := { key := 8, nv := 11, env := [(2, iv .i64 (.var 2)), (8, .one (.vptr 1000 (.lit 0) 37 0)), (11, pcS 1001 2 1009), (13, .one (.vptr 1002 (.lit 0) 37 0)), (14, iv .i64 (.var 1005))], heap := [manZ 1000, .cells 1002 27 (manT 0 1 2 4 1003 1004 1005 1006), dgsHp 1004 1007 1006, pcHp 1001 1008 1009, .abs 1010 2], inv := (fun ρ => sizes3 (ρ 0).i (ρ 1).i (ρ 2).i = true ∧ (ρ 4).i ≤ 8192 ∧ 0 ≤ (ρ 1005).i ∧ (ρ 1005).i ≤ (ρ 2).i ∧ (ρ 1008).d.length = (ρ 2).i.toNat ∧ encAt (ρ 1010).h (ρ 1008).d (ρ 2).i.toNat (encP (ρ 0).i.toNat (ρ 2).i.toNat (bI (ρ 6).d)) ∧ rowL (ρ 1003).d 32 = sha (bI (ρ 6).d) ∧ (ρ 1005).i = (ρ 1007).d.length ∧ dgsOk (ρ 1007).d ∧ dgs (ρ 1007).d = madeAt (encP (ρ 0).i.toNat (ρ 2).i.toNat (bI (ρ 6).d)) (ρ 1005).i.toNat), mu := (fun ρ => ((ρ 2).i - (ρ 1005).i).toNat) }
def same33N : Ctr := { fn := 27, nv := 0, args := [.one .vnils, .one .vnils], heap := [], ro := [], pre := fun _ => True, alts := [lawTrue] }
def lawMakesC : Ctr := { fn := 3, nv := 34, ip := [gIs 30, gIp 32, (1005, 7), (1001, 9), (1002, 9)], args := [caseArg], heap := [], ro := caseRo ++ [gHp 30 31, gHp 32 33], pre := fun ρ => caseIn ρ ∧ gOk ρ 30 31 gS ∧ gOk ρ 32 33 gR, alts := [lawTrue] }
end Go.Eng
