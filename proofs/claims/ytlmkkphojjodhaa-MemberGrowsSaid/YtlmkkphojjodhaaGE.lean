/- Contracts of New, Table, Reincarnate, Leave; the laws of one machine. -/
import Derived.Test.YtlmkkphojjodhaaGD
import Derived.Test.YtlmkkphojjodhaaProg
set_option linter.unusedSimpArgs false
set_option linter.unusedVariables false
namespace Go.Eng
open Go

def newM (self n inc : Int) : Mach := ⟨self, (List.replicate n.toNat ((0, 0) : Ent)).set self.toNat (inc, 1), List.replicate n.toNat 0, 0, 0, self, [], 0, false⟩
/-- The struct at region r, its arrays at ra, rs, rp. -/
def mStruct (r ra rs rp : Nat) (self n capT clock seq pinged np capP chal left : T) : SH := .cells r 117 [.vint .i64 self, .vslice ra (.lit 0) n capT 2, .vslice rs (.lit 0) n n 1, .vint .u64 clock, .vint .u64 seq, .vint .i64 pinged, .vslice rp (.lit 0) np capP 4, .vint .u64 chal, .vbool left]
def new22C : Ctr := { fn := 22, nv := 3, args := [iv .i64 (.var 0), iv .i64 (.var 1), iv .u64 (.var 2)], heap := [], ro := [], pre := fun _ => True, alts := [
  { k := 0, ret := .tup [(false, [.vnilp]), (false, [.vint .i64 (.lit 2)])], heap := [], post := fun ρ => newBad (ρ 0).i (ρ 1).i (ρ 2).i = true },
  { k := 9, ret := .tup [(false, [.vptr 3 (.lit 0) 0 0]), (false, [.vint .i64 (.lit 0)])], heap := [mStruct 3 4 5 8 (.var 0) (.var 1) (.var 1) (.lit 0) (.lit 0) (.var 0) (.var 9) (.var 10) (.lit 0) (.bl false), .arr 4 25 kMem (.var 6) (.var 1), .arr 5 22 [.int .u64] (.var 7) (.var 1), .arr 8 63 kProbe (.var 11) (.var 10)], post := fun ρ => newBad (ρ 0).i (ρ 1).i (ρ 2).i = false ∧ machV (ρ 0).i (ρ 6).d (ρ 7).d 0 0 (ρ 0).i (ρ 9).i (ρ 11).d 0 false = newM (ρ 0).i (ρ 1).i (ρ 2).i ∧ ((ρ 6).d.length : Int) = (ρ 1).i ∧ ((ρ 7).d.length : Int) = (ρ 1).i ∧ (ρ 9).i = 0 }] }
def table28C : Ctr := { fn := 28, nv := 18, args := [ptr 0], heap := [], ro := [mCells (.var 12), mTab], pre := fun ρ => (ρ 3).i = (ρ 5).d.length ∧ 0 < (ρ 3).i ∧ (ρ 3).i ≤ big, alts := [{ k := 3, ret := .one (.vslice 18 (.lit 0) (.var 3) (.var 19) 2), heap := [.arr 18 25 kMem (.var 20) (.var 19)], post := fun ρ => (ρ 20).d = (ρ 5).d }] }

/-! ### MemberAnswers -/
/-- 0 self, 1 from, 2 .. 7 the message, 8 .. 12 its table, 13 .. its other cells. -/
def lawAnswersC : Ctr := { fn := 4, nv := 122, args := [iv .i64 (.var 0), iv .i64 (.var 1), .agg (msgCellsV 2 (.vslice 8 (.lit 0) (.var 9) (.var 10) 2) 13)], heap := [], ro := [.arr 8 25 kMem (.var 11) (.var 12)], pre := fun ρ => (ρ 9).i = (ρ 11).d.length ∧ (ρ 9).i ≤ big, alts := lawWaitsC.alts }
/-- The last loop: 1000 the round, 1001 the box, 1002 .. the answer. -/
def lawAnswersI : Inv := { key := 12, nv := 7, env := [(0, iv .i64 (.var 0)), (5, ptr 1001), (7, iv .i64 (.var 9)), (10, .one (.vslice 1002 (.lit 0) (.lit 1) (.var 1003) 116)), (11, iv .i64 (.var 1000))], heap := [.cells 1001 43 ([.vint .u8 (.lit 1), .vint .i64 (.var 1), .vint .i64 (.var 0), .vint .u64 (.var 5), .vint .i64 (.var 6), .vint .i64 (.var 7), .vslice 8 (.lit 0) (.var 9) (.var 10) 2] ++ cellsFrom 13 109), .arr 1002 43 kMsg (.var 1004) (.var 1003), .abs 1005 2], inv := (fun ρ => 0 ≤ (ρ 1000).i ∧ (ρ 1000).i ≤ (ρ 9).i ∧ stamped (ρ 1005).h [recvMsg (ρ 0).i ⟨1, (ρ 1).i, (ρ 0).i, (ρ 5).i, (ρ 6).i, (ρ 7).i⟩] (ρ 0).i (recvTab (ρ 0).i (newM (ρ 0).i (ρ 9).i 7).tab (tabOf (ρ 11).d)) 1 (ρ 1004).d), mu := (fun ρ => ((ρ 9).i - (ρ 1000).i).toNat) }
end Go.Eng

set_option linter.unusedSimpArgs false
set_option linter.unusedVariables false
namespace Go.Proofs
open Go Go.Eng

def o_new22 : Out := (.br (.cmp .lss (.var 1) (.lit (2)))
 (.ret 0 ⟨3, [], [((.lit (2)), (.lit (2)))], [], []⟩)
 (.br (.cmp .gtr (.var 1) (.lit (16)))
 (.ret 0 ⟨3, [], [((.lit (2)), (.lit (2)))], [], []⟩)
 (.br (.cmp .lss (.var 0) (.lit (0)))
 (.ret 0 ⟨3, [], [((.lit (2)), (.lit (2)))], [], []⟩)
 (.br (.cmp .geq (.var 0) (.var 1))
 (.ret 0 ⟨3, [], [((.lit (2)), (.lit (2)))], [], []⟩)
 (.br (.cmp .eql (.var 2) (.lit (0)))
 (.ret 0 ⟨3, [], [((.lit (2)), (.lit (2)))], [], []⟩)
 (.both (.need (.cmp .leq (.lit (0)) (.var 1)) (.need (.cmp .leq (.tims (.lit (16)) (.var 1)) (.lit (281474976710656))) (.fresh 3 (.both (.need (.cmp .leq (.tims (.lit (8)) (.var 1)) (.lit (281474976710656))) (.fresh 4 (.both (.fresh 5 (.need (.cmp .leq (.lit (0)) (.var 0)) (.need (.cmp .lss (.var 0) (.var 1)) (.need (.cmp .lss (.var 0) (.dlen (.drep (.var 1) (.rcons (.vint .u64 (.lit (0))) (.rcons (.vint .u8 (.lit (0))) .rnil))))) (.ret 1 ⟨3, [(11, (.t .dnil)), (7, (.t (.drep (.var 1) (.rcons (.vint .u64 (.lit (0))) .rnil)))), (6, (.t (.dput (.drep (.var 1) (.rcons (.vint .u64 (.lit (0))) (.rcons (.vint .u8 (.lit (0))) .rnil))) (.var 0) 0 (.rcons (.vint .u64 (.var 2)) (.rcons (.vint .u8 (.lit (1))) .rnil))))), (10, (.t (.lit (0)))), (9, (.t (.lit (0)))), (8, .nil), (5, (.r 4)), (4, (.r 3)), (3, (.r 5))], [((.var 10), (.lit (0))), ((.var 1), (.var 1)), ((.var 1), (.var 1)), ((.lit (0)), (.lit (0))), ((.lit (0)), (.lit (0))), ((.var 0), (.var 0)), ((.lit (0)), (.lit (0))), ((.lit (0)), (.lit (0))), ((.var 1), (.var 1)), ((.var 1), (.var 1)), ((.lit (0)), (.lit (0))), ((.var 1), (.var 1)), ((.var 1), (.var 1)), ((.lit (0)), (.lit (0))), ((.var 0), (.var 0)), ((.lit (0)), (.lit (0))), ((.lit (0)), (.lit (0)))], [((.bl false), (.bl false))], []⟩))))) .top))) .top)))) (.both (.need (.cmp .leq (.lit (0)) (.var 1)) (.need (.cmp .leq (.tims (.lit (8)) (.var 1)) (.lit (281474976710656))) (.fresh 3 (.both (.need (.cmp .leq (.tims (.lit (16)) (.var 1)) (.lit (281474976710656))) (.fresh 4 (.both (.fresh 5 (.need (.cmp .leq (.lit (0)) (.var 0)) (.need (.cmp .lss (.var 0) (.var 1)) (.need (.cmp .lss (.var 0) (.dlen (.drep (.var 1) (.rcons (.vint .u64 (.lit (0))) (.rcons (.vint .u8 (.lit (0))) .rnil))))) (.ret 1 ⟨3, [(11, (.t .dnil)), (7, (.t (.drep (.var 1) (.rcons (.vint .u64 (.lit (0))) .rnil)))), (6, (.t (.dput (.drep (.var 1) (.rcons (.vint .u64 (.lit (0))) (.rcons (.vint .u8 (.lit (0))) .rnil))) (.var 0) 0 (.rcons (.vint .u64 (.var 2)) (.rcons (.vint .u8 (.lit (1))) .rnil))))), (10, (.t (.lit (0)))), (9, (.t (.lit (0)))), (8, .nil), (5, (.r 3)), (4, (.r 4)), (3, (.r 5))], [((.var 10), (.lit (0))), ((.var 1), (.var 1)), ((.var 1), (.var 1)), ((.lit (0)), (.lit (0))), ((.lit (0)), (.lit (0))), ((.var 0), (.var 0)), ((.lit (0)), (.lit (0))), ((.lit (0)), (.lit (0))), ((.var 1), (.var 1)), ((.var 1), (.var 1)), ((.lit (0)), (.lit (0))), ((.var 1), (.var 1)), ((.var 1), (.var 1)), ((.lit (0)), (.lit (0))), ((.var 0), (.var 0)), ((.lit (0)), (.lit (0))), ((.lit (0)), (.lit (0)))], [((.bl false), (.bl false))], []⟩))))) .top))) .top)))) .top)))))))
theorem o_new22_eq : treeOf ⟨Try.prog, new22C, [], []⟩ 100000 Try.f22 = o_new22 := by kernel_rfl
theorem new22_of (hd : ∀ c ∈ ([] : List Ctr), c.ok Try.prog) (h : ∀ ρ : Env, ρ.good → (new22C).pre ρ → o_new22.den ⟨Try.prog, new22C, [], []⟩ ρ) : (new22C).ok Try.prog :=
  ok_of_tree Try.func22 (fun a w => Try.call22 a w) hd 100000 (fun ρ hg hp => by rw [o_new22_eq]; exact h ρ hg hp)
def o_table28 : Out := (.pre 0 ⟨0, [(4, (.t (.var 4))), (3, (.t (.var 5))), (2, (.t (.var 4))), (1, (.t (.var 3))), (0, (.r 2))], [((.lit (0)), (.lit (0)))], [], []⟩ (.both (.fresh 18 (.fresh 19 (.fresh 20 (.post 0 0 ⟨0, [(4, (.t (.var 4))), (3, (.t (.var 5))), (2, (.t (.var 4))), (1, (.t (.var 3))), (0, (.r 2))], [((.lit (0)), (.lit (0)))], [], []⟩ 18 (.ret 0 ⟨18, [(20, (.t (.var 20))), (19, (.t (.var 19))), (18, (.r 18))], [((.var 19), (.var 19)), ((.var 3), (.var 3)), ((.lit (0)), (.lit (0)))], [], []⟩))))) .top))
theorem o_table28_eq : treeOf ⟨Try.prog, table28C, [clone63C], []⟩ 100000 Try.f28 = o_table28 := by kernel_rfl
theorem table28_of (hd : ∀ c ∈ ([clone63C] : List Ctr), c.ok Try.prog) (h : ∀ ρ : Env, ρ.good → (table28C).pre ρ → o_table28.den ⟨Try.prog, table28C, [clone63C], []⟩ ρ) : (table28C).ok Try.prog :=
  ok_of_tree Try.func28 (fun a w => Try.call28 a w) hd 100000 (fun ρ hg hp => by rw [o_table28_eq]; exact h ρ hg hp)
def o_lawAnswers : Out := (.fresh 122 (.need (.cmp .leq (.lit (0)) (.var 9)) (.br (.cmp .lss (.var 9) (.lit (2)))
 (.pre 0 ⟨0, [], [], [], []⟩ (.both (.post 0 0 ⟨0, [], [], [], []⟩ 123 (.ret 0 ⟨122, [], [], [((.bl true), (.bl true))], []⟩)) .top))
 (.br (.cmp .gtr (.var 9) (.lit (16)))
 (.pre 0 ⟨0, [], [], [], []⟩ (.both (.post 0 0 ⟨0, [], [], [], []⟩ 123 (.ret 0 ⟨122, [], [], [((.bl true), (.bl true))], []⟩)) .top))
 (.pre 1 ⟨0, [(4, (.t (.var 12))), (3, (.t (.var 11))), (2, (.t (.var 10))), (1, (.t (.var 9))), (0, (.r 8))], [((.lit (0)), (.lit (0)))], [], []⟩ (.both (.fresh 123 (.fresh 124 (.fresh 125 (.post 1 0 ⟨0, [(4, (.t (.var 12))), (3, (.t (.var 11))), (2, (.t (.var 10))), (1, (.t (.var 9))), (0, (.r 8))], [((.lit (0)), (.lit (0)))], [], []⟩ 123 (.pre 2 ⟨0, [(4, (.t (.var 124))), (3, (.t (.var 125))), (2, (.t (.var 124))), (1, (.t (.var 9))), (0, (.r 123))], [((.lit (0)), (.lit (0)))], [], []⟩ (.both (.fresh 126 (.post 2 0 ⟨0, [(4, (.t (.var 124))), (3, (.t (.var 125))), (2, (.t (.var 124))), (1, (.t (.var 9))), (0, (.r 123))], [((.lit (0)), (.lit (0)))], [], []⟩ 126 (.br (.not (.var 126))
 (.pre 0 ⟨0, [], [], [], []⟩ (.both (.post 0 0 ⟨0, [], [], [], []⟩ 127 (.ret 0 ⟨122, [], [], [((.bl true), (.bl true))], []⟩)) .top))
 (.br (.cmp .lss (.var 0) (.lit (0)))
 (.pre 0 ⟨0, [], [], [], []⟩ (.both (.post 0 0 ⟨0, [], [], [], []⟩ 127 (.ret 0 ⟨122, [], [], [((.bl true), (.bl true))], []⟩)) .top))
 (.br (.cmp .geq (.var 0) (.var 9))
 (.pre 0 ⟨0, [], [], [], []⟩ (.both (.post 0 0 ⟨0, [], [], [], []⟩ 127 (.ret 0 ⟨122, [], [], [((.bl true), (.bl true))], []⟩)) .top))
 (.br (.cmp .lss (.var 1) (.lit (0)))
 (.pre 0 ⟨0, [], [], [], []⟩ (.both (.post 0 0 ⟨0, [], [], [], []⟩ 127 (.ret 0 ⟨122, [], [], [((.bl true), (.bl true))], []⟩)) .top))
 (.br (.cmp .geq (.var 1) (.var 9))
 (.pre 0 ⟨0, [], [], [], []⟩ (.both (.post 0 0 ⟨0, [], [], [], []⟩ 127 (.ret 0 ⟨122, [], [], [((.bl true), (.bl true))], []⟩)) .top))
 (.br (.cmp .eql (.var 1) (.var 0))
 (.pre 0 ⟨0, [], [], [], []⟩ (.both (.post 0 0 ⟨0, [], [], [], []⟩ 127 (.ret 0 ⟨122, [], [], [((.bl true), (.bl true))], []⟩)) .top))
 (.br (.cmp .lss (.var 6) (.lit (0)))
 (.pre 0 ⟨0, [], [], [], []⟩ (.both (.post 0 0 ⟨0, [], [], [], []⟩ 127 (.ret 0 ⟨122, [], [], [((.bl true), (.bl true))], []⟩)) .top))
 (.br (.cmp .geq (.var 6) (.var 9))
 (.pre 0 ⟨0, [], [], [], []⟩ (.both (.post 0 0 ⟨0, [], [], [], []⟩ 127 (.ret 0 ⟨122, [], [], [((.bl true), (.bl true))], []⟩)) .top))
 (.pre 3 ⟨0, [(2, (.t (.lit (7)))), (1, (.t (.var 9))), (0, (.t (.var 0)))], [], [], []⟩ (.both (.post 3 0 ⟨0, [(2, (.t (.lit (7)))), (1, (.t (.var 9))), (0, (.t (.var 0)))], [], [], []⟩ 127 (.stuck 7 0 0)) (.both (.fresh 127 (.fresh 128 (.fresh 129 (.fresh 130 (.fresh 131 (.fresh 132 (.fresh 133 (.fresh 134 (.fresh 135 (.post 3 1 ⟨0, [(2, (.t (.lit (7)))), (1, (.t (.var 9))), (0, (.t (.var 0)))], [], [], []⟩ 127 (.pre 4 ⟨0, [(28, (.t (.var 12))), (27, (.t (.var 11))), (15, (.t (.var 135))), (8, (.t (.var 131))), (5, (.t (.var 130))), (17, (.t (.bl false))), (16, (.t (.lit (0)))), (14, (.t (.var 134))), (13, (.t (.var 133))), (12, (.r 132)), (11, (.t (.var 0))), (10, (.t (.lit (0)))), (9, (.t (.lit (0)))), (7, (.t (.var 9))), (6, (.r 129)), (4, (.t (.var 9))), (3, (.t (.var 9))), (2, (.r 128)), (1, (.t (.var 0))), (137, (.t (.var 121))), (136, (.t (.var 120))), (135, (.t (.var 119))), (134, (.t (.var 118))), (133, (.t (.var 117))), (132, (.t (.var 116))), (131, (.t (.var 115))), (130, (.t (.var 114))), (129, (.t (.var 113))), (128, (.t (.var 112))), (127, (.t (.var 111))), (126, (.t (.var 110))), (125, (.t (.var 109))), (124, (.t (.var 108))), (123, (.t (.var 107))), (122, (.t (.var 106))), (121, (.t (.var 105))), (120, (.t (.var 104))), (119, (.t (.var 103))), (118, (.t (.var 102))), (117, (.t (.var 101))), (116, (.t (.var 100))), (115, (.t (.var 99))), (114, (.t (.var 98))), (113, (.t (.var 97))), (112, (.t (.var 96))), (111, (.t (.var 95))), (110, (.t (.var 94))), (109, (.t (.var 93))), (108, (.t (.var 92))), (107, (.t (.var 91))), (106, (.t (.var 90))), (105, (.t (.var 89))), (104, (.t (.var 88))), (103, (.t (.var 87))), (102, (.t (.var 86))), (101, (.t (.var 85))), (100, (.t (.var 84))), (99, (.t (.var 83))), (98, (.t (.var 82))), (97, (.t (.var 81))), (96, (.t (.var 80))), (95, (.t (.var 79))), (94, (.t (.var 78))), (93, (.t (.var 77))), (92, (.t (.var 76))), (91, (.t (.var 75))), (90, (.t (.var 74))), (89, (.t (.var 73))), (88, (.t (.var 72))), (87, (.t (.var 71))), (86, (.t (.var 70))), (85, (.t (.var 69))), (84, (.t (.var 68))), (83, (.t (.var 67))), (82, (.t (.var 66))), (81, (.t (.var 65))), (80, (.t (.var 64))), (79, (.t (.var 63))), (78, (.t (.var 62))), (77, (.t (.var 61))), (76, (.t (.var 60))), (75, (.t (.var 59))), (74, (.t (.var 58))), (73, (.t (.var 57))), (72, (.t (.var 56))), (71, (.t (.var 55))), (70, (.t (.var 54))), (69, (.t (.var 53))), (68, (.t (.var 52))), (67, (.t (.var 51))), (66, (.t (.var 50))), (65, (.t (.var 49))), (64, (.t (.var 48))), (63, (.t (.var 47))), (62, (.t (.var 46))), (61, (.t (.var 45))), (60, (.t (.var 44))), (59, (.t (.var 43))), (58, (.t (.var 42))), (57, (.t (.var 41))), (56, (.t (.var 40))), (55, (.t (.var 39))), (54, (.t (.var 38))), (53, (.t (.var 37))), (52, (.t (.var 36))), (51, (.t (.var 35))), (50, (.t (.var 34))), (49, (.t (.var 33))), (48, (.t (.var 32))), (47, (.t (.var 31))), (46, (.t (.var 30))), (45, (.t (.var 29))), (44, (.t (.var 28))), (43, (.t (.var 27))), (42, (.t (.var 26))), (41, (.t (.var 25))), (40, (.t (.var 24))), (39, (.t (.var 23))), (38, (.t (.var 22))), (37, (.t (.var 21))), (36, (.t (.var 20))), (35, (.t (.var 19))), (34, (.t (.var 18))), (33, (.t (.var 17))), (32, (.t (.var 16))), (31, (.t (.var 15))), (30, (.t (.var 14))), (29, (.t (.var 13))), (26, (.t (.var 10))), (25, (.t (.var 9))), (24, (.r 8)), (23, (.t (.var 7))), (22, (.t (.var 6))), (21, (.t (.var 5))), (20, (.t (.var 0))), (19, (.t (.var 1))), (18, (.t (.lit (1)))), (0, (.r 127))], [((.var 14), (.var 134)), ((.var 7), (.var 9)), ((.var 4), (.var 9)), ((.lit (0)), (.lit (0))), ((.var 3), (.var 9)), ((.lit (0)), (.lit (0))), ((.lit (0)), (.lit (0))), ((.lit (0)), (.lit (0))), ((.lit (0)), (.lit (0)))], [], []⟩ (.both (.fresh 136 (.fresh 137 (.fresh 138 (.fresh 139 (.fresh 140 (.fresh 141 (.post 4 0 ⟨0, [(28, (.t (.var 12))), (27, (.t (.var 11))), (15, (.t (.var 135))), (8, (.t (.var 131))), (5, (.t (.var 130))), (17, (.t (.bl false))), (16, (.t (.lit (0)))), (14, (.t (.var 134))), (13, (.t (.var 133))), (12, (.r 132)), (11, (.t (.var 0))), (10, (.t (.lit (0)))), (9, (.t (.lit (0)))), (7, (.t (.var 9))), (6, (.r 129)), (4, (.t (.var 9))), (3, (.t (.var 9))), (2, (.r 128)), (1, (.t (.var 0))), (137, (.t (.var 121))), (136, (.t (.var 120))), (135, (.t (.var 119))), (134, (.t (.var 118))), (133, (.t (.var 117))), (132, (.t (.var 116))), (131, (.t (.var 115))), (130, (.t (.var 114))), (129, (.t (.var 113))), (128, (.t (.var 112))), (127, (.t (.var 111))), (126, (.t (.var 110))), (125, (.t (.var 109))), (124, (.t (.var 108))), (123, (.t (.var 107))), (122, (.t (.var 106))), (121, (.t (.var 105))), (120, (.t (.var 104))), (119, (.t (.var 103))), (118, (.t (.var 102))), (117, (.t (.var 101))), (116, (.t (.var 100))), (115, (.t (.var 99))), (114, (.t (.var 98))), (113, (.t (.var 97))), (112, (.t (.var 96))), (111, (.t (.var 95))), (110, (.t (.var 94))), (109, (.t (.var 93))), (108, (.t (.var 92))), (107, (.t (.var 91))), (106, (.t (.var 90))), (105, (.t (.var 89))), (104, (.t (.var 88))), (103, (.t (.var 87))), (102, (.t (.var 86))), (101, (.t (.var 85))), (100, (.t (.var 84))), (99, (.t (.var 83))), (98, (.t (.var 82))), (97, (.t (.var 81))), (96, (.t (.var 80))), (95, (.t (.var 79))), (94, (.t (.var 78))), (93, (.t (.var 77))), (92, (.t (.var 76))), (91, (.t (.var 75))), (90, (.t (.var 74))), (89, (.t (.var 73))), (88, (.t (.var 72))), (87, (.t (.var 71))), (86, (.t (.var 70))), (85, (.t (.var 69))), (84, (.t (.var 68))), (83, (.t (.var 67))), (82, (.t (.var 66))), (81, (.t (.var 65))), (80, (.t (.var 64))), (79, (.t (.var 63))), (78, (.t (.var 62))), (77, (.t (.var 61))), (76, (.t (.var 60))), (75, (.t (.var 59))), (74, (.t (.var 58))), (73, (.t (.var 57))), (72, (.t (.var 56))), (71, (.t (.var 55))), (70, (.t (.var 54))), (69, (.t (.var 53))), (68, (.t (.var 52))), (67, (.t (.var 51))), (66, (.t (.var 50))), (65, (.t (.var 49))), (64, (.t (.var 48))), (63, (.t (.var 47))), (62, (.t (.var 46))), (61, (.t (.var 45))), (60, (.t (.var 44))), (59, (.t (.var 43))), (58, (.t (.var 42))), (57, (.t (.var 41))), (56, (.t (.var 40))), (55, (.t (.var 39))), (54, (.t (.var 38))), (53, (.t (.var 37))), (52, (.t (.var 36))), (51, (.t (.var 35))), (50, (.t (.var 34))), (49, (.t (.var 33))), (48, (.t (.var 32))), (47, (.t (.var 31))), (46, (.t (.var 30))), (45, (.t (.var 29))), (44, (.t (.var 28))), (43, (.t (.var 27))), (42, (.t (.var 26))), (41, (.t (.var 25))), (40, (.t (.var 24))), (39, (.t (.var 23))), (38, (.t (.var 22))), (37, (.t (.var 21))), (36, (.t (.var 20))), (35, (.t (.var 19))), (34, (.t (.var 18))), (33, (.t (.var 17))), (32, (.t (.var 16))), (31, (.t (.var 15))), (30, (.t (.var 14))), (29, (.t (.var 13))), (26, (.t (.var 10))), (25, (.t (.var 9))), (24, (.r 8)), (23, (.t (.var 7))), (22, (.t (.var 6))), (21, (.t (.var 5))), (20, (.t (.var 0))), (19, (.t (.var 1))), (18, (.t (.lit (1)))), (0, (.r 127))], [((.var 14), (.var 134)), ((.var 7), (.var 9)), ((.var 4), (.var 9)), ((.lit (0)), (.lit (0))), ((.var 3), (.var 9)), ((.lit (0)), (.lit (0))), ((.lit (0)), (.lit (0))), ((.lit (0)), (.lit (0))), ((.lit (0)), (.lit (0)))], [], []⟩ 136 (.br (.cmp .neq (.var 136) (.lit (0)))
 (.stuck 7 0 0)
 (.stuck 7 0 0))))))))) (.both (.fresh 136 (.fresh 137 (.fresh 138 (.fresh 139 (.fresh 140 (.fresh 141 (.fresh 142 (.post 4 1 ⟨0, [(28, (.t (.var 12))), (27, (.t (.var 11))), (15, (.t (.var 135))), (8, (.t (.var 131))), (5, (.t (.var 130))), (17, (.t (.bl false))), (16, (.t (.lit (0)))), (14, (.t (.var 134))), (13, (.t (.var 133))), (12, (.r 132)), (11, (.t (.var 0))), (10, (.t (.lit (0)))), (9, (.t (.lit (0)))), (7, (.t (.var 9))), (6, (.r 129)), (4, (.t (.var 9))), (3, (.t (.var 9))), (2, (.r 128)), (1, (.t (.var 0))), (137, (.t (.var 121))), (136, (.t (.var 120))), (135, (.t (.var 119))), (134, (.t (.var 118))), (133, (.t (.var 117))), (132, (.t (.var 116))), (131, (.t (.var 115))), (130, (.t (.var 114))), (129, (.t (.var 113))), (128, (.t (.var 112))), (127, (.t (.var 111))), (126, (.t (.var 110))), (125, (.t (.var 109))), (124, (.t (.var 108))), (123, (.t (.var 107))), (122, (.t (.var 106))), (121, (.t (.var 105))), (120, (.t (.var 104))), (119, (.t (.var 103))), (118, (.t (.var 102))), (117, (.t (.var 101))), (116, (.t (.var 100))), (115, (.t (.var 99))), (114, (.t (.var 98))), (113, (.t (.var 97))), (112, (.t (.var 96))), (111, (.t (.var 95))), (110, (.t (.var 94))), (109, (.t (.var 93))), (108, (.t (.var 92))), (107, (.t (.var 91))), (106, (.t (.var 90))), (105, (.t (.var 89))), (104, (.t (.var 88))), (103, (.t (.var 87))), (102, (.t (.var 86))), (101, (.t (.var 85))), (100, (.t (.var 84))), (99, (.t (.var 83))), (98, (.t (.var 82))), (97, (.t (.var 81))), (96, (.t (.var 80))), (95, (.t (.var 79))), (94, (.t (.var 78))), (93, (.t (.var 77))), (92, (.t (.var 76))), (91, (.t (.var 75))), (90, (.t (.var 74))), (89, (.t (.var 73))), (88, (.t (.var 72))), (87, (.t (.var 71))), (86, (.t (.var 70))), (85, (.t (.var 69))), (84, (.t (.var 68))), (83, (.t (.var 67))), (82, (.t (.var 66))), (81, (.t (.var 65))), (80, (.t (.var 64))), (79, (.t (.var 63))), (78, (.t (.var 62))), (77, (.t (.var 61))), (76, (.t (.var 60))), (75, (.t (.var 59))), (74, (.t (.var 58))), (73, (.t (.var 57))), (72, (.t (.var 56))), (71, (.t (.var 55))), (70, (.t (.var 54))), (69, (.t (.var 53))), (68, (.t (.var 52))), (67, (.t (.var 51))), (66, (.t (.var 50))), (65, (.t (.var 49))), (64, (.t (.var 48))), (63, (.t (.var 47))), (62, (.t (.var 46))), (61, (.t (.var 45))), (60, (.t (.var 44))), (59, (.t (.var 43))), (58, (.t (.var 42))), (57, (.t (.var 41))), (56, (.t (.var 40))), (55, (.t (.var 39))), (54, (.t (.var 38))), (53, (.t (.var 37))), (52, (.t (.var 36))), (51, (.t (.var 35))), (50, (.t (.var 34))), (49, (.t (.var 33))), (48, (.t (.var 32))), (47, (.t (.var 31))), (46, (.t (.var 30))), (45, (.t (.var 29))), (44, (.t (.var 28))), (43, (.t (.var 27))), (42, (.t (.var 26))), (41, (.t (.var 25))), (40, (.t (.var 24))), (39, (.t (.var 23))), (38, (.t (.var 22))), (37, (.t (.var 21))), (36, (.t (.var 20))), (35, (.t (.var 19))), (34, (.t (.var 18))), (33, (.t (.var 17))), (32, (.t (.var 16))), (31, (.t (.var 15))), (30, (.t (.var 14))), (29, (.t (.var 13))), (26, (.t (.var 10))), (25, (.t (.var 9))), (24, (.r 8)), (23, (.t (.var 7))), (22, (.t (.var 6))), (21, (.t (.var 5))), (20, (.t (.var 0))), (19, (.t (.var 1))), (18, (.t (.lit (1)))), (0, (.r 127))], [((.var 14), (.var 134)), ((.var 7), (.var 9)), ((.var 4), (.var 9)), ((.lit (0)), (.lit (0))), ((.var 3), (.var 9)), ((.lit (0)), (.lit (0))), ((.lit (0)), (.lit (0))), ((.lit (0)), (.lit (0))), ((.lit (0)), (.lit (0)))], [], []⟩ 136 (.need (.cmp .lss (.lit (0)) (.dlen (.var 138))) (.br (.cmp .neq (.icell (.var 138) (.lit (0)) 0) (.lit (2)))
 (.stuck 7 0 0)
 (.br (.cmp .neq (.icell (.var 138) (.lit (0)) 1) (.var 0))
 (.stuck 7 0 0)
 (.br (.cmp .neq (.icell (.var 138) (.lit (0)) 2) (.var 1))
 (.stuck 7 0 0)
 (.br (.cmp .neq (.icell (.var 138) (.lit (0)) 3) (.var 5))
 (.stuck 7 0 0)
 (.br (.cmp .neq (.icell (.var 138) (.lit (0)) 4) (.var 6))
 (.stuck 7 0 0)
 (.both (.view (.vcell (.var 138) (.lit (0)) 6) [CK.int .u64, CK.int .u8] [139] 143 (.br (.cmp .neq (.dlen (.var 145)) (.var 9))
 (.stuck 7 0 0)
 (.pack [.cells 127 117 [(.vint .i64 (.var 0)), (.vslice 128 (.lit (0)) (.var 9) (.var 9) 2), (.vslice 129 (.lit (0)) (.var 9) (.var 9) 1), (.vint .u64 (.lit (0))), (.vint .u64 (.lit (0))), (.vint .i64 (.var 0)), (.vslice 132 (.lit (0)) (.var 133) (.var 134) 4), (.vint .u64 (.var 142)), (.vbool (.bl false))], .arr 128 25 [CK.int .u64, CK.int .u8] (.var 140) (.var 9), .arr 129 22 [CK.int .u64] (.var 141) (.var 9), .arr 132 63 [CK.int .u64, CK.int .i64, CK.int .u64, CK.bool] (.var 135) (.var 134), .abs 139 2, .arr 123 25 [CK.int .u64, CK.int .u8] (.var 125) (.var 124)] 146 (.inv 0 147 ⟨1000, [(1005, (.r 146)), (1004, (.t (.var 138))), (1000, (.t (.lit (0)))), (1003, (.t (.var 137))), (1002, (.r 136)), (1001, (.r 122))], [((.var 1003), (.var 137)), ((.var 10), (.var 10)), ((.var 9), (.var 9)), ((.lit (0)), (.lit (0))), ((.var 7), (.var 7)), ((.var 6), (.var 6)), ((.var 5), (.var 5)), ((.var 0), (.var 0)), ((.var 1), (.var 1)), ((.lit (1)), (.lit (1))), ((.lit (1)), (.lit (1))), ((.lit (0)), (.lit (0))), ((.var 9), (.var 9)), ((.lit (0)), (.lit (0))), ((.var 0), (.var 0))], [], []⟩ (.fresh 147 (.fresh 148 (.fresh 149 (.fresh 150 (.fresh 151 (.fresh 152 (.fresh 153 (.hyp 0 147 (.br (.cmp .lss (.var 147) (.var 9))
 (.br (.cmp .neq (.var 147) (.var 0))
 (.need (.cmp .leq (.lit (0)) (.var 147)) (.need (.cmp .lss (.var 147) (.dlen (.var 11))) (.need (.cmp .lss (.lit (0)) (.dlen (.var 151))) (.both (.view (.vcell (.var 151) (.lit (0)) 6) [CK.int .u64, CK.int .u8] [152] 154 (.need (.cmp .lss (.var 147) (.dlen (.var 156))) (.both (.pre 5 ⟨0, [(3, (.t (.icell (.var 156) (.var 147) 1))), (2, (.t (.icell (.var 156) (.var 147) 0))), (1, (.t (.icell (.var 11) (.var 147) 1))), (0, (.t (.icell (.var 11) (.var 147) 0)))], [], [], []⟩ (.both (.post 5 0 ⟨0, [(3, (.t (.icell (.var 156) (.var 147) 1))), (2, (.t (.icell (.var 156) (.var 147) 0))), (1, (.t (.icell (.var 11) (.var 147) 1))), (0, (.t (.icell (.var 11) (.var 147) 0)))], [], [], []⟩ 157 (.br (.or (.cmp .gtr (.icell (.var 11) (.var 147) 0) (.icell (.var 156) (.var 147) 0)) (.and (.cmp .eql (.icell (.var 11) (.var 147) 0) (.icell (.var 156) (.var 147) 0)) (.cmp .gtr (.icell (.var 11) (.var 147) 1) (.icell (.var 156) (.var 147) 1))))
 (.stuck 7 0 0)
 (.back 0 147 ⟨1000, [(1005, (.r 152)), (1004, (.t (.var 151))), (1000, (.t (.arith .add .i64 (.var 147) (.lit (1))))), (1003, (.t (.var 150))), (1002, (.r 149)), (1001, (.r 148))], [((.var 1003), (.var 150)), ((.var 10), (.var 10)), ((.var 9), (.var 9)), ((.lit (0)), (.lit (0))), ((.var 7), (.var 7)), ((.var 6), (.var 6)), ((.var 5), (.var 5)), ((.var 0), (.var 0)), ((.var 1), (.var 1)), ((.lit (1)), (.lit (1))), ((.lit (1)), (.lit (1))), ((.lit (0)), (.lit (0))), ((.var 9), (.var 9)), ((.lit (0)), (.lit (0))), ((.var 0), (.var 0))], [], []⟩))) .top)) .top))) .top))))
 (.both (.back 0 147 ⟨1000, [(1005, (.r 152)), (1004, (.t (.var 151))), (1000, (.t (.arith .add .i64 (.var 147) (.lit (1))))), (1003, (.t (.var 150))), (1002, (.r 149)), (1001, (.r 148))], [((.var 1003), (.var 150)), ((.var 10), (.var 10)), ((.var 9), (.var 9)), ((.lit (0)), (.lit (0))), ((.var 7), (.var 7)), ((.var 6), (.var 6)), ((.var 5), (.var 5)), ((.var 0), (.var 0)), ((.var 1), (.var 1)), ((.lit (1)), (.lit (1))), ((.lit (1)), (.lit (1))), ((.lit (0)), (.lit (0))), ((.var 9), (.var 9)), ((.lit (0)), (.lit (0))), ((.var 0), (.var 0))], [], []⟩) .top))
 (.need (.cmp .lss (.lit (0)) (.dlen (.var 151))) (.view (.vcell (.var 151) (.lit (0)) 6) [CK.int .u64, CK.int .u8] [152] 154 (.need (.cmp .leq (.lit (0)) (.var 0)) (.need (.cmp .lss (.var 0) (.dlen (.var 156))) (.br (.and (.cmp .eql (.icell (.var 156) (.var 0) 0) (.lit (7))) (.cmp .eql (.icell (.var 156) (.var 0) 1) (.lit (1))))
 (.pre 0 ⟨0, [], [], [], []⟩ (.both (.post 0 0 ⟨0, [], [], [], []⟩ 157 (.ret 0 ⟨122, [], [], [((.bl true), (.bl true))], []⟩)) .top))
 (.stuck 7 0 0))))))))))))))))))) .top))))))))))))))) .top))))))))))))) .top))))))))))))) .top)))))) .top))))))
theorem o_lawAnswers_eq : treeOf ⟨Try.prog, lawAnswersC, [knownC, own21C, valid20C, new22C, receive23C, newerD], [lawAnswersI]⟩ 100000 Try.f4 = o_lawAnswers := by kernel_rfl
theorem lawAnswers_of (hd : ∀ c ∈ ([knownC, own21C, valid20C, new22C, receive23C, newerD] : List Ctr), c.ok Try.prog) (h : ∀ ρ : Env, ρ.good → (lawAnswersC).pre ρ → o_lawAnswers.den ⟨Try.prog, lawAnswersC, [knownC, own21C, valid20C, new22C, receive23C, newerD], [lawAnswersI]⟩ ρ) : (lawAnswersC).ok Try.prog :=
  ok_of_tree Try.func4 (fun a w => Try.call4 a w) hd 100000 (fun ρ hg hp => by rw [o_lawAnswers_eq]; exact h ρ hg hp)
end Go.Proofs

/- New, Table, the law MemberAnswers: what they compute. -/
set_option linter.unusedSimpArgs false
set_option linter.unusedVariables false
namespace Go.Proofs
open Go Go.Eng

theorem new22_ok : new22C.ok Try.prog := new22_of (by simp) fun ρ hg hp => by
  have hrep : tabOf (List.replicate (ρ 1).i.toNat [.int .u64 0, .int .u8 0]) = List.replicate (ρ 1).i.toNat (0, 0) := by simp [tabOf, rowI, vInt]
  have hrepi : intsOf (List.replicate (ρ 1).i.toNat [.int .u64 0]) = List.replicate (ρ 1).i.toNat 0 := by simp [intsOf, rowI, vInt]
  have htab : ∀ h0 : 0 ≤ (ρ 0).i, ∀ h : (ρ 0).i < (ρ 1).i, tabOf (putD (List.replicate (ρ 1).i.toNat [.int .u64 0, .int .u8 0]) (ρ 0).i 0 [.int .u64 (ρ 2).i, .int .u8 1]) = (List.replicate (ρ 1).i.toNat (0, 0)).set (ρ 0).i.toNat ((ρ 2).i, 1) := fun h0 h => by
    rw [tab_put' h0 (by simp; omega), hrep, setTab]
  simp [o_new22, new22C, newBad, newM, machV, prbsOf, hrepi, putD_len]
  refine ⟨fun h1 => by omega, fun h1 => ⟨fun h2 => by omega, fun h2 => ⟨fun h3 => by omega, fun h3 => ⟨fun h4 => by omega, fun h4 => ⟨fun h5 => by omega, fun h5 => ⟨⟨by omega, by omega, by omega, by omega, by omega, by omega, ⟨by omega, h5⟩, htab h3 h4, by omega⟩, by omega, by omega, by omega, by omega, by omega, by omega, ⟨by omega, h5⟩, htab h3 h4, by omega⟩⟩⟩⟩⟩⟩
theorem table28_ok : table28C.ok Try.prog := table28_of (by simp [clone63_ok]) fun ρ hg hp => by
  obtain ⟨h1, h2, h3⟩ := hp
  simp [o_table28, table28C, clone63C]
  exact ⟨h1, h2, h3⟩
theorem stamped_one {h : Hp} {g : Msg} {self : Int} {t : List Ent} {d : List (List Value)} (hs : stamped h [g] self t 1 d) : ∃ v, d = [msgRow { g with src := self } v] ∧ RdT h v t := by
  obtain ⟨vs, h1, h2, h3⟩ := hs
  match vs, h1 with
  | [v], _ => exact ⟨v, by simpa [rowsOf] using h2, h3 v (by simp)⟩
theorem star_mem_abs {ρ : Env} {l : List SH} {H : Hp} (hs : star ρ l H) {n t : Nat} (hm : SH.abs n t ∈ l) : ∃ hb, Hp.le hb H ∧ Hp.le (ρ n).h hb := by
  obtain ⟨hb, lb, db⟩ := star_mem hs hm
  exact ⟨hb, lb, by simpa [SH.den] using db⟩
set_option maxRecDepth 20000 in
set_option maxHeartbeats 4000000 in
theorem lawAnswers_ok : lawAnswersC.ok Try.prog := lawAnswers_of (by simp [known_ok, own21_ok, valid20_ok, new22_ok, receive23_ok, newer_ok]) fun ρ hg hp => by
  obtain ⟨h1, h2⟩ := hp
  simp [o_lawAnswers, lawAnswersC, lawAnswersI, knownC, own21C, valid20C, contains59C, index84C, new22C, receive23C, recv58C, newerD, newerC, lawWaitsC, arithOf, mPre, m0, msgV]
  intro ua _
  refine ⟨by omega, fun h3 h4 => ⟨⟨h1, h2⟩, fun ub _ uc _ ud _ hd => ?_⟩⟩
  rw [hd]
  refine ⟨⟨h1, h2⟩, fun ue _ ke kb f1 f2 f3 f4 f5 f6 f7 => ?_⟩
  have hv : validT (tabOf (ρ 11).d) = true := by rw [← ke, kb]
  have hnb : newBad (ρ 0).i (ρ 9).i 7 = false := by
    rw [Bool.eq_false_iff]; simp [newBad]; omega
  refine ⟨hnb, fun v1 _ v2 _ v3 _ vT _ vS _ v6 _ vn _ v8 _ vP _ _ q1 q2 q3 q4 => ?_⟩
  rw [q1]
  generalize hG : (⟨1, (ρ 1).i, (ρ 0).i, (ρ 5).i, (ρ 6).i, (ρ 7).i⟩ : Msg) = G
  have hself : (newM (ρ 0).i (ρ 9).i 7).self = (ρ 0).i := rfl
  have hlen : (newM (ρ 0).i (ρ 9).i 7).tab.length = (ρ 9).i.toNat := by simp [newM]
  have hE : recvE (newM (ρ 0).i (ρ 9).i 7) G (tabOf (ρ 11).d) = 0 := by
    rw [recvE, if_neg (by simp [newM]), if_pos]
    rw [hself, hlen]
    subst hG
    simp only [acceptsP, peerP, hv, tab_len, Bool.and_eq_true, Bool.not_eq_true', decide_eq_true_eq, beq_iff_eq, beq_eq_false_iff_ne, ne_eq]
    simp
    omega
  have hfm : forMe (newM (ρ 0).i (ρ 9).i 7).self G = false := by subst hG; simp [forMe]
  have hA : recvAns (newM (ρ 0).i (ρ 9).i 7) G (tabOf (ρ 11).d) = [recvMsg (ρ 0).i G] := by rw [recvAns, if_pos ⟨hE, hfm⟩, hself]
  have hS : (recvS (newM (ρ 0).i (ρ 9).i 7) G (tabOf (ρ 11).d)).tab = recvTab (ρ 0).i (newM (ρ 0).i (ρ 9).i 7).tab (tabOf (ρ 11).d) := by rw [recvS, if_pos hE]; rfl
  have hR : recvMsg (ρ 0).i G = ⟨2, 0, (ρ 1).i, (ρ 5).i, (ρ 6).i, 0⟩ := by subst hG; simp [recvMsg]
  rw [hE, hA, hS, hR]
  refine ⟨⟨⟨⟨by rw [hlen]; omega, by rw [hlen]; omega, by simp [newM], f1, by rw [hself, hlen]; omega, f1, by rw [hlen]; show (ρ 0).i < _; omega, by simp [newM]⟩, by omega, by omega, by omega, by omega⟩, h1, h2⟩, ?_, ?_⟩
  · intro _ _ _ _ _ _ _ _ _ _ _ _ _ hbad
    cases hbad
  intro w1 _ w2 _ wD _ wH _ w5 _ w6 _ w7 _ _ _ _ hst
  obtain ⟨v, e1, e2⟩ := stamped_one hst
  obtain ⟨d, r1, r2⟩ := e2
  have hdl : d.length = (ρ 9).i.toNat := by rw [← tab_len, r2, recvTab_len, hlen]
  rw [e1]
  have hst' := hst
  rw [e1] at hst'
  refine ⟨by simp, by simp [cellI, cellV, msgRow, vInt], fun _ => ⟨by simp [cellI, cellV, msgRow, vInt], fun _ => ⟨by simp [cellI, cellV, msgRow, vInt], fun _ => ⟨by simp [cellI, cellV, msgRow, vInt], fun _ => ⟨by simp [cellI, cellV, msgRow, vInt], fun _ => ⟨d, by simpa [cellV, msgRow, kMem] using r1, fun _ _ _ _ => ⟨by omega, fun _ wF _ kF => ?_⟩⟩⟩⟩⟩⟩⟩
  obtain ⟨hb, lb, db⟩ := star_mem_abs kF (n := 139) (t := 2) (by simp)
  refine ⟨⟨by omega, stamped_mono hst' (Hp.le_trans (by simpa using db) lb)⟩, ?_⟩
  intro xi _ xD _ xH _ g0 g1 hsx
  obtain ⟨v', e1', e2'⟩ := stamped_one hsx
  obtain ⟨d', r1', r2'⟩ := e2'
  have hdl' : d'.length = (ρ 9).i.toNat := by rw [← tab_len, r2', recvTab_len, hlen]
  have hrd : Rd xH.h [CK.int .u64, CK.int .u8] (cellV xD.d 0 6) d' := by rw [e1']; simpa [cellV, msgRow, kMem] using r1'
  have hpos : 0 < xD.d.length := by rw [e1']; simp
  have hget : ∀ i : Int, 0 ≤ i → i < (ρ 9).i → (newM (ρ 0).i (ρ 9).i 7).tab[i.toNat]? = some (if i = (ρ 0).i then (7, 1) else (0, 0)) := fun i i0 i1 => by
    simp only [newM, List.getElem?_set, List.length_replicate, List.getElem?_replicate]
    by_cases hi : i = (ρ 0).i
    · subst hi; simp; omega
    · rw [if_neg (by omega), if_pos (by omega), if_neg hi]
  have hcell : ∀ i : Int, 0 ≤ i → i < (ρ 9).i → (cellI d' i 0, cellI d' i 1) = if i = (ρ 0).i then (7, 1) else joinE (0, 0) (cellI (ρ 11).d i 0, cellI (ρ 11).d i 1) := fun i i0 i1 => by
    have a1 := cellI_tab (d := d') i0 (by omega)
    have a2 := recvTab_get (self := (ρ 0).i) (hget i i0 i1) (cellI_tab (d := (ρ 11).d) i0 (by omega))
    rw [r2', a2, Int.toNat_of_nonneg i0] at a1
    have a3 := Option.some.inj a1
    rw [← a3]
    split <;> rfl
  refine ⟨fun hi => ⟨fun hne => ⟨g0, by omega, hpos, d', hrd, by omega, ?_, fun _ _ => ⟨⟨?_, ?_, hsx⟩, ?_⟩⟩, fun heq => ⟨⟨?_, ?_, hsx⟩, ?_⟩⟩, fun hi => ⟨hpos, d', hrd, f1, by omega, ?_⟩⟩
  · have hc := hcell xi.i g0 hi
    rw [if_neg hne] at hc
    rcases Bool.eq_false_or_eq_true (newerE (cellI (ρ 11).d xi.i 0, cellI (ρ 11).d xi.i 1) (0, 0)) with hn | hn
    · rw [joinE, if_pos hn] at hc
      simp only [Prod.mk.injEq] at hc; omega
    · rw [joinE, if_neg (by simp [hn])] at hc
      simp only [Prod.mk.injEq] at hc
      simp [newerE, newerB] at hn
      omega
  · rw [wrapAdd g0 hi h2]; omega
  · rw [wrapAdd g0 hi h2]; omega
  · rw [wrapAdd g0 hi h2]; omega
  · rw [wrapAdd g0 hi h2]; omega
  · rw [wrapAdd g0 hi h2]; omega
  · rw [wrapAdd g0 hi h2]; omega
  · have hc := hcell (ρ 0).i f1 f2
    rw [if_pos rfl] at hc
    simpa using hc
end Go.Proofs

/- Contracts of Reincarnate, Leave, Challenge, Clock, Live, Probes; the laws Refutes, Helpers, Detects. -/
set_option linter.unusedSimpArgs false
set_option linter.unusedVariables false
namespace Go.Eng
open Go

/-! ### What they compute -/
def reincE (m : Mach) (inc : Int) : Int := if m.left then 30 else if inc ≤ (statAt m.tab m.self).1 ∨ inc ≤ m.chal then 2 else 0
def reincM (m : Mach) (inc : Int) : Mach := if reincE m inc = 0 then { m with tab := m.tab.set m.self.toNat (inc, 1), chal := 0 } else m
def leaveTab (t : List Ent) (self : Int) : List Ent := t.set self.toNat ((statAt t self).1, 4)
def leaveM (m : Mach) : Mach := if m.left then m else { m with tab := leaveTab m.tab m.self, left := true }
def leaveMsg (i : Int) : Msg := ⟨2, 0, i, 0, i, 0⟩
def leaveMsgs (t : List Ent) : List Msg := (liveT t).map leaveMsg

/-! ### Contracts -/
def mCellsC (chal left : T) : SH := .cells 0 117 [.vint .i64 (.var 1), .vslice 2 (.lit 0) (.var 3) (.var 4) 2, .vslice 6 (.lit 0) (.var 3) (.var 7) 1, .vint .u64 (.var 9), .vint .u64 (.var 10), .vint .i64 (.var 11), .var 12, .vint .u64 chal, .vbool left]
/-- The machine of the variables, without its probes. -/
def m1 (ρ : Env) : Mach := machV (ρ 1).i (ρ 5).d [] (ρ 9).i (ρ 10).i (ρ 11).i 0 [] (ρ 16).i (ρ 17).b
def challenge50C : Ctr := { fn := 50, nv := 18, args := [ptr 0], heap := [], ro := [mCells (.var 12)], pre := fun _ => True, alts := [{ k := 0, ret := iv .u64 (.var 16), heap := [], post := fun _ => True }] }
def clock45C : Ctr := { fn := 45, nv := 18, args := [ptr 0], heap := [], ro := [mCells (.var 12)], pre := fun _ => True, alts := [{ k := 0, ret := iv .u64 (.var 9), heap := [], post := fun _ => True }] }
def live30C : Ctr := { fn := 30, nv := 18, args := [ptr 0], heap := [], ro := [mCells (.var 12), mTab], pre := fun ρ => (ρ 3).i = (ρ 5).d.length ∧ (ρ 3).i ≤ big, alts := [{ k := 4, ret := .one (.vslice 18 (.lit 0) (.var 19) (.var 20) 1), heap := [.arr 18 3 [.int .i64] (.var 21) (.var 20)], post := fun ρ => intsOf (ρ 21).d = liveT (tabOf (ρ 5).d) ∧ (ρ 19).i = (ρ 21).d.length ∧ (ρ 19).i ≤ (ρ 3).i }] }
def clone69C : Ctr := { fn := 69, nv := 5, args := [pArg 0 1 2], heap := [], ro := [pRo 0 3 4], pre := fun ρ => 0 ≤ (ρ 1).i ∧ (ρ 1).i ≤ (ρ 3).d.length ∧ (ρ 1).i ≤ 1000001, alts := [{ k := 4, ret := .one (.vslice 5 (.lit 0) (.var 6) (.var 7) 4), heap := [.arr 5 63 kProbe (.var 8) (.var 7)], post := fun ρ => (ρ 8).d = (ρ 3).d.take (ρ 1).i.toNat ∧ (ρ 6).i = (ρ 1).i ∧ (ρ 6).i = (ρ 8).d.length }] }
def probes31C : Ctr := { fn := 31, nv := 18, args := [ptr 0], heap := [], ro := [mCells prbSl, mProbes], pre := fun ρ => 0 ≤ (ρ 13).i ∧ (ρ 13).i ≤ (ρ 15).d.length ∧ (ρ 13).i ≤ 1000001, alts := [{ k := 4, ret := .one (.vslice 18 (.lit 0) (.var 19) (.var 20) 4), heap := [.arr 18 63 kProbe (.var 21) (.var 20)], post := fun ρ => (ρ 21).d = (ρ 15).d.take (ρ 13).i.toNat ∧ (ρ 19).i = (ρ 13).i ∧ (ρ 19).i = (ρ 21).d.length }] }
def reinc43C : Ctr := { fn := 43, nv := 19, args := [ptr 0, iv .u64 (.var 18)], heap := [mCells (.var 12), mTab], ro := [], pre := fun ρ => (ρ 3).i = (ρ 5).d.length ∧ 0 ≤ (ρ 1).i ∧ (ρ 1).i < (ρ 3).i, alts := [{ k := 3, ret := iv .i64 (.var 19), heap := [mCellsC (.var 21) (.var 17), .arr 2 25 kMem (.var 20) (.var 4)], post := fun ρ => (ρ 19).i = reincE (m1 ρ) (ρ 18).i ∧ tabOf (ρ 20).d = (reincM (m1 ρ) (ρ 18).i).tab ∧ (ρ 21).i = (reincM (m1 ρ) (ρ 18).i).chal ∧ (ρ 20).d.length = (ρ 5).d.length }] }
def leave44C : Ctr := { fn := 44, nv := 18, args := [ptr 0], heap := [mCells (.var 12), mTab], ro := [], pre := fun ρ => mOk ρ ∧ (statAt (tabOf (ρ 5).d) (ρ 1).i).2 ≠ 0, alts := [{ k := 0, ret := .one .vnils, heap := [mCells (.var 12), mTab], post := fun ρ => (ρ 17).b = true },
  { k := 6, ret := .one (.vslice 18 (.lit 0) (.var 19) (.var 20) 116), heap := [mCellsC (.var 16) (.bl true), .arr 2 25 kMem (.var 21) (.var 4), .arr 18 43 kMsg (.var 22) (.var 20), .abs 23 2], post := fun ρ => (ρ 17).b = false ∧ tabOf (ρ 21).d = leaveTab (tabOf (ρ 5).d) (ρ 1).i ∧ (ρ 21).d.length = (ρ 5).d.length ∧ (ρ 19).i = (ρ 22).d.length ∧ stamped (ρ 23).h (leaveMsgs (leaveTab (tabOf (ρ 5).d) (ρ 1).i)) (ρ 1).i (leaveTab (tabOf (ρ 5).d) (ρ 1).i) (leaveMsgs (leaveTab (tabOf (ρ 5).d) (ρ 1).i)).length (ρ 22).d }] }
/-- 1000 the round, 1001 .. 1004 the live peers, 1005 .. 1008 the messages, 1009 the table. -/
def leave44I : Inv := { key := 6, nv := 10, env := [(0, ptr 0), (3, .one (.vslice 1005 (.lit 0) (.var 1006) (.var 1007) 116)), (26, .one (.vslice 1001 (.lit 0) (.var 1002) (.var 1003) 1)), (27, iv .i64 (.var 1002)), (28, iv .i64 (.var 1000))], heap := [mCellsC (.var 16) (.bl true), .arr 2 25 kMem (.var 1009) (.var 4), .arr 1001 3 [.int .i64] (.var 1004) (.var 1003), .arr 1005 43 kMsg (.var 1008) (.var 1007)], inv := (fun ρ => 0 ≤ (ρ 1000).i ∧ (ρ 1000).i ≤ (ρ 1002).i ∧ (ρ 1002).i = (ρ 1004).d.length ∧ (ρ 1002).i ≤ (ρ 3).i ∧ tabOf (ρ 1009).d = leaveTab (tabOf (ρ 5).d) (ρ 1).i ∧ (ρ 1009).d.length = (ρ 5).d.length ∧ intsOf (ρ 1004).d = liveT (leaveTab (tabOf (ρ 5).d) (ρ 1).i) ∧ (ρ 1006).i = (ρ 1008).d.length ∧ (ρ 1006).i = (ρ 1000).i ∧ plainRows (ρ 1008).d (((liveT (leaveTab (tabOf (ρ 5).d) (ρ 1).i)).take (ρ 1000).i.toNat).map leaveMsg)), mu := (fun ρ => ((ρ 1002).i - (ρ 1000).i).toNat) }
end Go.Eng

set_option linter.unusedSimpArgs false
set_option linter.unusedVariables false
namespace Go.Proofs
open Go Go.Eng

def o_challenge50 : Out := (.ret 0 ⟨18, [], [((.var 16), (.var 16))], [], []⟩)
theorem o_challenge50_eq : treeOf ⟨Try.prog, challenge50C, [], []⟩ 100000 Try.f50 = o_challenge50 := by kernel_rfl
theorem challenge50_of (hd : ∀ c ∈ ([] : List Ctr), c.ok Try.prog) (h : ∀ ρ : Env, ρ.good → (challenge50C).pre ρ → o_challenge50.den ⟨Try.prog, challenge50C, [], []⟩ ρ) : (challenge50C).ok Try.prog :=
  ok_of_tree Try.func50 (fun a w => Try.call50 a w) hd 100000 (fun ρ hg hp => by rw [o_challenge50_eq]; exact h ρ hg hp)
def o_clock45 : Out := (.ret 0 ⟨18, [], [((.var 9), (.var 9))], [], []⟩)
theorem o_clock45_eq : treeOf ⟨Try.prog, clock45C, [], []⟩ 100000 Try.f45 = o_clock45 := by kernel_rfl
theorem clock45_of (hd : ∀ c ∈ ([] : List Ctr), c.ok Try.prog) (h : ∀ ρ : Env, ρ.good → (clock45C).pre ρ → o_clock45.den ⟨Try.prog, clock45C, [], []⟩ ρ) : (clock45C).ok Try.prog :=
  ok_of_tree Try.func45 (fun a w => Try.call45 a w) hd 100000 (fun ρ hg hp => by rw [o_clock45_eq]; exact h ρ hg hp)
def o_live30 : Out := (.pre 0 ⟨0, [(4, (.t (.var 4))), (3, (.t (.var 5))), (2, (.t (.var 4))), (1, (.t (.var 3))), (0, (.r 2))], [((.lit (0)), (.lit (0)))], [], []⟩ (.both (.fresh 18 (.fresh 19 (.fresh 20 (.fresh 21 (.post 0 0 ⟨0, [(4, (.t (.var 4))), (3, (.t (.var 5))), (2, (.t (.var 4))), (1, (.t (.var 3))), (0, (.r 2))], [((.lit (0)), (.lit (0)))], [], []⟩ 18 (.ret 0 ⟨18, [(21, (.t (.var 20))), (20, (.t (.var 19))), (19, (.t (.var 21))), (18, (.r 18))], [((.var 20), (.var 19)), ((.lit (0)), (.lit (0)))], [], []⟩)))))) .top))
theorem o_live30_eq : treeOf ⟨Try.prog, live30C, [live37C], []⟩ 100000 Try.f30 = o_live30 := by kernel_rfl
theorem live30_of (hd : ∀ c ∈ ([live37C] : List Ctr), c.ok Try.prog) (h : ∀ ρ : Env, ρ.good → (live30C).pre ρ → o_live30.den ⟨Try.prog, live30C, [live37C], []⟩ ρ) : (live30C).ok Try.prog :=
  ok_of_tree Try.func30 (fun a w => Try.call30 a w) hd 100000 (fun ρ hg hp => by rw [o_live30_eq]; exact h ρ hg hp)
def o_clone69 : Out := (.br (.and (.cmp .eql (.dlen (.var 3)) (.lit (0))) (.isnil 0))
 (.ret 0 ⟨5, [(8, (.t .dnil)), (7, (.t (.lit (0)))), (6, (.t (.lit (0)))), (5, .nil)], [((.var 7), (.lit (0))), ((.lit (0)), (.lit (0)))], [], []⟩)
 (.fresh 5 (.need (.cmp .leq (.lit (0)) (.var 1)) (.need (.cmp .leq (.var 1) (.dlen (.var 3))) (.need (.cmp .leq (.tims (.lit (32)) (.var 1)) (.lit (140737488355328))) (.fresh 6 (.fresh 7 (.ret 0 ⟨5, [(8, (.t (.dtake (.var 3) (.var 1)))), (7, (.t (.var 7))), (6, (.t (.var 1))), (5, (.r 6))], [((.var 7), (.var 7)), ((.lit (0)), (.lit (0)))], [], []⟩))))))))
theorem o_clone69_eq : treeOf ⟨Try.prog, clone69C, [], []⟩ 100000 Try.f69 = o_clone69 := by kernel_rfl
theorem clone69_of (hd : ∀ c ∈ ([] : List Ctr), c.ok Try.prog) (h : ∀ ρ : Env, ρ.good → (clone69C).pre ρ → o_clone69.den ⟨Try.prog, clone69C, [], []⟩ ρ) : (clone69C).ok Try.prog :=
  ok_of_tree Try.func69 (fun a w => Try.call69 a w) hd 100000 (fun ρ hg hp => by rw [o_clone69_eq]; exact h ρ hg hp)
def o_probes31 : Out := (.pre 0 ⟨0, [(4, (.t (.var 14))), (3, (.t (.var 15))), (2, (.t (.var 14))), (1, (.t (.var 13))), (0, (.r 12))], [((.lit (0)), (.lit (0)))], [], []⟩ (.both (.fresh 18 (.fresh 19 (.fresh 20 (.fresh 21 (.post 0 0 ⟨0, [(4, (.t (.var 14))), (3, (.t (.var 15))), (2, (.t (.var 14))), (1, (.t (.var 13))), (0, (.r 12))], [((.lit (0)), (.lit (0)))], [], []⟩ 18 (.ret 0 ⟨18, [(21, (.t (.var 21))), (20, (.t (.var 20))), (19, (.t (.var 19))), (18, (.r 18))], [((.var 20), (.var 20)), ((.lit (0)), (.lit (0)))], [], []⟩)))))) .top))
theorem o_probes31_eq : treeOf ⟨Try.prog, probes31C, [clone69C], []⟩ 100000 Try.f31 = o_probes31 := by kernel_rfl
theorem probes31_of (hd : ∀ c ∈ ([clone69C] : List Ctr), c.ok Try.prog) (h : ∀ ρ : Env, ρ.good → (probes31C).pre ρ → o_probes31.den ⟨Try.prog, probes31C, [clone69C], []⟩ ρ) : (probes31C).ok Try.prog :=
  ok_of_tree Try.func31 (fun a w => Try.call31 a w) hd 100000 (fun ρ hg hp => by rw [o_probes31_eq]; exact h ρ hg hp)
def o_reinc43 : Out := (.pre 0 ⟨0, [(17, (.t (.var 17))), (16, (.t (.var 16))), (12, (.t (.var 12))), (11, (.t (.var 11))), (10, (.t (.var 10))), (9, (.t (.var 9))), (7, (.t (.var 7))), (6, (.r 6)), (4, (.t (.var 4))), (3, (.t (.var 3))), (2, (.r 2)), (1, (.t (.var 1))), (0, (.r 0))], [((.var 3), (.var 3)), ((.lit (0)), (.lit (0))), ((.lit (0)), (.lit (0))), ((.lit (0)), (.lit (0)))], [], []⟩ (.both (.post 0 0 ⟨0, [(17, (.t (.var 17))), (16, (.t (.var 16))), (12, (.t (.var 12))), (11, (.t (.var 11))), (10, (.t (.var 10))), (9, (.t (.var 9))), (7, (.t (.var 7))), (6, (.r 6)), (4, (.t (.var 4))), (3, (.t (.var 3))), (2, (.r 2)), (1, (.t (.var 1))), (0, (.r 0))], [((.var 3), (.var 3)), ((.lit (0)), (.lit (0))), ((.lit (0)), (.lit (0))), ((.lit (0)), (.lit (0)))], [], []⟩ 19 (.ret 0 ⟨19, [(20, (.t (.var 5))), (21, (.t (.var 16))), (19, (.t (.lit (30))))], [((.var 4), (.var 4)), ((.var 11), (.var 11)), ((.var 10), (.var 10)), ((.var 9), (.var 9)), ((.var 7), (.var 7)), ((.var 3), (.var 3)), ((.lit (0)), (.lit (0))), ((.var 4), (.var 4)), ((.var 3), (.var 3)), ((.lit (0)), (.lit (0))), ((.var 1), (.var 1))], [((.var 17), (.var 17))], []⟩)) (.both (.post 0 1 ⟨0, [(17, (.t (.var 17))), (16, (.t (.var 16))), (12, (.t (.var 12))), (11, (.t (.var 11))), (10, (.t (.var 10))), (9, (.t (.var 9))), (7, (.t (.var 7))), (6, (.r 6)), (4, (.t (.var 4))), (3, (.t (.var 3))), (2, (.r 2)), (1, (.t (.var 1))), (0, (.r 0))], [((.var 3), (.var 3)), ((.lit (0)), (.lit (0))), ((.lit (0)), (.lit (0))), ((.lit (0)), (.lit (0)))], [], []⟩ 19 (.need (.cmp .leq (.lit (0)) (.var 1)) (.need (.cmp .lss (.var 1) (.var 3)) (.need (.cmp .lss (.var 1) (.dlen (.var 5))) (.br (.cmp .leq (.var 18) (.icell (.var 5) (.var 1) 0))
 (.ret 0 ⟨19, [(20, (.t (.var 5))), (21, (.t (.var 16))), (19, (.t (.lit (2))))], [((.var 4), (.var 4)), ((.var 11), (.var 11)), ((.var 10), (.var 10)), ((.var 9), (.var 9)), ((.var 7), (.var 7)), ((.var 3), (.var 3)), ((.lit (0)), (.lit (0))), ((.var 4), (.var 4)), ((.var 3), (.var 3)), ((.lit (0)), (.lit (0))), ((.var 1), (.var 1))], [((.var 17), (.var 17))], []⟩)
 (.br (.cmp .leq (.var 18) (.var 16))
 (.ret 0 ⟨19, [(20, (.t (.var 5))), (21, (.t (.var 16))), (19, (.t (.lit (2))))], [((.var 4), (.var 4)), ((.var 11), (.var 11)), ((.var 10), (.var 10)), ((.var 9), (.var 9)), ((.var 7), (.var 7)), ((.var 3), (.var 3)), ((.lit (0)), (.lit (0))), ((.var 4), (.var 4)), ((.var 3), (.var 3)), ((.lit (0)), (.lit (0))), ((.var 1), (.var 1))], [((.var 17), (.var 17))], []⟩)
 (.need (.cmp .lss (.lit (0)) (.dlen (.var 5))) (.both (.both (.both (.both (.ret 0 ⟨19, [(20, (.t (.dput (.var 5) (.var 1) 0 (.rcons (.vint .u64 (.var 18)) (.rcons (.vint .u8 (.lit (1))) .rnil))))), (21, (.t (.lit (0)))), (19, (.t (.lit (0))))], [((.var 4), (.var 4)), ((.var 11), (.var 11)), ((.var 10), (.var 10)), ((.var 9), (.var 9)), ((.var 7), (.var 7)), ((.var 3), (.var 3)), ((.lit (0)), (.lit (0))), ((.var 4), (.var 4)), ((.var 3), (.var 3)), ((.lit (0)), (.lit (0))), ((.var 1), (.var 1))], [((.var 17), (.var 17))], []⟩) .top) .top) .top) .top)))))))) .top)))
theorem o_reinc43_eq : treeOf ⟨Try.prog, reinc43C, [fault64C], []⟩ 100000 Try.f43 = o_reinc43 := by kernel_rfl
theorem reinc43_of (hd : ∀ c ∈ ([fault64C] : List Ctr), c.ok Try.prog) (h : ∀ ρ : Env, ρ.good → (reinc43C).pre ρ → o_reinc43.den ⟨Try.prog, reinc43C, [fault64C], []⟩ ρ) : (reinc43C).ok Try.prog :=
  ok_of_tree Try.func43 (fun a w => Try.call43 a w) hd 100000 (fun ρ hg hp => by rw [o_reinc43_eq]; exact h ρ hg hp)
def o_leave44 : Out := (.pre 0 ⟨0, [(17, (.t (.var 17))), (16, (.t (.var 16))), (12, (.t (.var 12))), (11, (.t (.var 11))), (10, (.t (.var 10))), (9, (.t (.var 9))), (7, (.t (.var 7))), (6, (.r 6)), (4, (.t (.var 4))), (3, (.t (.var 3))), (2, (.r 2)), (1, (.t (.var 1))), (0, (.r 0))], [((.var 3), (.var 3)), ((.lit (0)), (.lit (0))), ((.lit (0)), (.lit (0))), ((.lit (0)), (.lit (0)))], [], []⟩ (.both (.post 0 0 ⟨0, [(17, (.t (.var 17))), (16, (.t (.var 16))), (12, (.t (.var 12))), (11, (.t (.var 11))), (10, (.t (.var 10))), (9, (.t (.var 9))), (7, (.t (.var 7))), (6, (.r 6)), (4, (.t (.var 4))), (3, (.t (.var 3))), (2, (.r 2)), (1, (.t (.var 1))), (0, (.r 0))], [((.var 3), (.var 3)), ((.lit (0)), (.lit (0))), ((.lit (0)), (.lit (0))), ((.lit (0)), (.lit (0)))], [], []⟩ 18 (.ret 0 ⟨18, [], [((.var 4), (.var 4)), ((.var 16), (.var 16)), ((.var 11), (.var 11)), ((.var 10), (.var 10)), ((.var 9), (.var 9)), ((.var 7), (.var 7)), ((.var 3), (.var 3)), ((.lit (0)), (.lit (0))), ((.var 4), (.var 4)), ((.var 3), (.var 3)), ((.lit (0)), (.lit (0))), ((.var 1), (.var 1))], [((.var 17), (.var 17))], [((.var 5), (.var 5))]⟩)) (.both (.post 0 1 ⟨0, [(17, (.t (.var 17))), (16, (.t (.var 16))), (12, (.t (.var 12))), (11, (.t (.var 11))), (10, (.t (.var 10))), (9, (.t (.var 9))), (7, (.t (.var 7))), (6, (.r 6)), (4, (.t (.var 4))), (3, (.t (.var 3))), (2, (.r 2)), (1, (.t (.var 1))), (0, (.r 0))], [((.var 3), (.var 3)), ((.lit (0)), (.lit (0))), ((.lit (0)), (.lit (0))), ((.lit (0)), (.lit (0)))], [], []⟩ 18 (.need (.cmp .leq (.lit (0)) (.var 1)) (.need (.cmp .lss (.var 1) (.var 3)) (.need (.cmp .lss (.lit (0)) (.dlen (.var 5))) (.both (.need (.cmp .lss (.var 1) (.dlen (.var 5))) (.both (.both (.both (.pre 1 ⟨0, [(4, (.t (.var 4))), (3, (.t (.dput (.var 5) (.var 1) 1 (.rcons (.vint .u8 (.lit (4))) .rnil)))), (2, (.t (.var 4))), (1, (.t (.var 3))), (0, (.r 2))], [((.lit (0)), (.lit (0)))], [], []⟩ (.both (.fresh 18 (.fresh 19 (.fresh 20 (.fresh 21 (.post 1 0 ⟨0, [(4, (.t (.var 4))), (3, (.t (.dput (.var 5) (.var 1) 1 (.rcons (.vint .u8 (.lit (4))) .rnil)))), (2, (.t (.var 4))), (1, (.t (.var 3))), (0, (.r 2))], [((.lit (0)), (.lit (0)))], [], []⟩ 18 (.need (.cmp .leq (.lit (0)) (.var 21)) (.inv 0 22 ⟨1000, [(1008, (.t .dnil)), (1004, (.t (.var 20))), (1009, (.t (.dput (.var 5) (.var 1) 1 (.rcons (.vint .u8 (.lit (4))) .rnil)))), (1000, (.t (.lit (0)))), (1003, (.t (.var 19))), (1002, (.t (.var 21))), (1001, (.r 18)), (1007, (.t (.lit (0)))), (1006, (.t (.lit (0)))), (1005, .nil)], [((.var 1007), (.lit (0))), ((.var 1003), (.var 19)), ((.var 4), (.var 4)), ((.var 16), (.var 16)), ((.var 11), (.var 11)), ((.var 10), (.var 10)), ((.var 9), (.var 9)), ((.var 7), (.var 7)), ((.var 3), (.var 3)), ((.lit (0)), (.lit (0))), ((.var 4), (.var 4)), ((.var 3), (.var 3)), ((.lit (0)), (.lit (0))), ((.var 1), (.var 1)), ((.var 1002), (.var 21)), ((.lit (0)), (.lit (0))), ((.lit (0)), (.lit (0))), ((.lit (0)), (.lit (0)))], [((.bl true), (.bl true))], []⟩ (.fresh 22 (.fresh 23 (.fresh 24 (.fresh 25 (.fresh 26 (.fresh 27 (.fresh 28 (.fresh 29 (.fresh 30 (.fresh 31 (.hyp 0 22 (.br (.cmp .lss (.var 22) (.var 24))
 (.need (.cmp .leq (.lit (0)) (.var 22)) (.need (.cmp .lss (.var 22) (.dlen (.var 26))) (.fresh 32 (.need (.cmp .eql (.var 28) (.dlen (.var 30))) (.need (.cmp .leq (.tims (.lit (352)) (.plus (.var 28) (.lit (1)))) (.lit (140737488355328))) (.fresh 33 (.fresh 34 (.back 0 22 ⟨1000, [(1008, (.t (.dapp (.var 30) (.rcons (.vint .u8 (.lit (2))) (.rcons (.vint .i64 (.lit (0))) (.rcons (.vint .i64 (.icell (.var 26) (.var 22) 0)) (.rcons (.vint .u64 (.lit (0))) (.rcons (.vint .i64 (.icell (.var 26) (.var 22) 0)) (.rcons (.vint .i64 (.lit (0))) (.rcons .vnils (.rcons .vnils (.rcons .vnils (.rcons (.vint .i64 (.lit (0))) (.rcons (.vint .u8 (.lit (0))) (.rcons (.vint .u8 (.lit (0))) (.rcons (.vint .u8 (.lit (0))) (.rcons (.vint .u8 (.lit (0))) (.rcons (.vint .u8 (.lit (0))) (.rcons (.vint .u8 (.lit (0))) (.rcons (.vint .u8 (.lit (0))) (.rcons (.vint .u8 (.lit (0))) (.rcons (.vint .u8 (.lit (0))) (.rcons (.vint .u8 (.lit (0))) (.rcons (.vint .u8 (.lit (0))) (.rcons (.vint .u8 (.lit (0))) (.rcons (.vint .u8 (.lit (0))) (.rcons (.vint .u8 (.lit (0))) (.rcons (.vint .u8 (.lit (0))) (.rcons (.vint .u8 (.lit (0))) (.rcons (.vint .u8 (.lit (0))) (.rcons (.vint .u8 (.lit (0))) (.rcons (.vint .u8 (.lit (0))) (.rcons (.vint .u8 (.lit (0))) (.rcons (.vint .u8 (.lit (0))) (.rcons (.vint .u8 (.lit (0))) (.rcons (.vint .u8 (.lit (0))) (.rcons (.vint .u8 (.lit (0))) (.rcons (.vint .u8 (.lit (0))) (.rcons (.vint .u8 (.lit (0))) (.rcons (.vint .u8 (.lit (0))) (.rcons (.vint .u8 (.lit (0))) (.rcons (.vint .u8 (.lit (0))) (.rcons (.vint .u8 (.lit (0))) (.rcons (.vint .u8 (.lit (0))) (.rcons (.vint .u8 (.lit (0))) (.rcons .vnils (.rcons (.vbool (.bl false)) (.rcons (.vint .u8 (.lit (0))) (.rcons (.vint .u8 (.lit (0))) (.rcons (.vint .u8 (.lit (0))) (.rcons (.vint .u8 (.lit (0))) (.rcons (.vint .u8 (.lit (0))) (.rcons (.vint .u8 (.lit (0))) (.rcons (.vint .u8 (.lit (0))) (.rcons (.vint .u8 (.lit (0))) (.rcons (.vint .u8 (.lit (0))) (.rcons (.vint .u8 (.lit (0))) (.rcons (.vint .u8 (.lit (0))) (.rcons (.vint .u8 (.lit (0))) (.rcons (.vint .u8 (.lit (0))) (.rcons (.vint .u8 (.lit (0))) (.rcons (.vint .u8 (.lit (0))) (.rcons (.vint .u8 (.lit (0))) (.rcons (.vint .u8 (.lit (0))) (.rcons (.vint .u8 (.lit (0))) (.rcons (.vint .u8 (.lit (0))) (.rcons (.vint .u8 (.lit (0))) (.rcons (.vint .u8 (.lit (0))) (.rcons (.vint .u8 (.lit (0))) (.rcons (.vint .u8 (.lit (0))) (.rcons (.vint .u8 (.lit (0))) (.rcons (.vint .u8 (.lit (0))) (.rcons (.vint .u8 (.lit (0))) (.rcons (.vint .u8 (.lit (0))) (.rcons (.vint .u8 (.lit (0))) (.rcons (.vint .u8 (.lit (0))) (.rcons (.vint .u8 (.lit (0))) (.rcons (.vint .u8 (.lit (0))) (.rcons (.vint .u8 (.lit (0))) (.rcons (.vint .i64 (.lit (0))) (.rcons (.vint .i64 (.lit (0))) (.rcons (.vint .i64 (.lit (0))) (.rcons (.vint .i64 (.lit (0))) (.rcons (.vint .u8 (.lit (0))) (.rcons (.vint .u8 (.lit (0))) (.rcons (.vint .u8 (.lit (0))) (.rcons (.vint .u8 (.lit (0))) (.rcons (.vint .u8 (.lit (0))) (.rcons (.vint .u8 (.lit (0))) (.rcons (.vint .u8 (.lit (0))) (.rcons (.vint .u8 (.lit (0))) (.rcons (.vint .u8 (.lit (0))) (.rcons (.vint .u8 (.lit (0))) (.rcons (.vint .u8 (.lit (0))) (.rcons (.vint .u8 (.lit (0))) (.rcons (.vint .u8 (.lit (0))) (.rcons (.vint .u8 (.lit (0))) (.rcons (.vint .u8 (.lit (0))) (.rcons (.vint .u8 (.lit (0))) (.rcons (.vint .u8 (.lit (0))) (.rcons (.vint .u8 (.lit (0))) (.rcons (.vint .u8 (.lit (0))) (.rcons (.vint .u8 (.lit (0))) (.rcons (.vint .u8 (.lit (0))) (.rcons (.vint .u8 (.lit (0))) (.rcons (.vint .u8 (.lit (0))) (.rcons (.vint .u8 (.lit (0))) (.rcons (.vint .u8 (.lit (0))) (.rcons (.vint .u8 (.lit (0))) (.rcons (.vint .u8 (.lit (0))) (.rcons (.vint .u8 (.lit (0))) (.rcons (.vint .u8 (.lit (0))) (.rcons (.vint .u8 (.lit (0))) (.rcons (.vint .u8 (.lit (0))) (.rcons (.vint .u8 (.lit (0))) (.rcons .vnils (.rcons (.vint .i64 (.lit (0))) (.rcons .vnils (.rcons (.vint .i64 (.lit (0))) .rnil))))))))))))))))))))))))))))))))))))))))))))))))))))))))))))))))))))))))))))))))))))))))))))))))))))))))))))))))))))))), (1004, (.t (.var 26))), (1009, (.t (.var 31))), (1000, (.t (.arith .add .i64 (.var 22) (.lit (1))))), (1003, (.t (.var 25))), (1002, (.t (.var 24))), (1001, (.r 23)), (1007, (.t (.var 34))), (1006, (.t (.plus (.var 28) (.lit (1))))), (1005, (.r 33))], [((.var 1007), (.var 34)), ((.var 1003), (.var 25)), ((.var 4), (.var 4)), ((.var 16), (.var 16)), ((.var 11), (.var 11)), ((.var 10), (.var 10)), ((.var 9), (.var 9)), ((.var 7), (.var 7)), ((.var 3), (.var 3)), ((.lit (0)), (.lit (0))), ((.var 4), (.var 4)), ((.var 3), (.var 3)), ((.lit (0)), (.lit (0))), ((.var 1), (.var 1)), ((.var 1002), (.var 24)), ((.lit (0)), (.lit (0))), ((.lit (0)), (.lit (0))), ((.lit (0)), (.lit (0)))], [((.bl true), (.bl true))], []⟩))))))))
 (.pre 2 ⟨0, [(5, (.t (.var 31))), (17, (.t (.bl true))), (16, (.t (.var 16))), (12, (.t (.var 12))), (11, (.t (.var 11))), (10, (.t (.var 10))), (9, (.t (.var 9))), (7, (.t (.var 7))), (6, (.r 6)), (4, (.t (.var 4))), (3, (.t (.var 3))), (2, (.r 2)), (1, (.t (.var 1))), (21, (.t (.var 30))), (20, (.t (.var 29))), (19, (.t (.var 28))), (18, (.r 27)), (0, (.r 0))], [((.var 4), (.var 4)), ((.var 3), (.var 3)), ((.lit (0)), (.lit (0))), ((.lit (0)), (.lit (0))), ((.var 20), (.var 29)), ((.lit (0)), (.lit (0))), ((.lit (0)), (.lit (0)))], [], []⟩ (.both (.fresh 32 (.fresh 33 (.post 2 0 ⟨0, [(5, (.t (.var 31))), (17, (.t (.bl true))), (16, (.t (.var 16))), (12, (.t (.var 12))), (11, (.t (.var 11))), (10, (.t (.var 10))), (9, (.t (.var 9))), (7, (.t (.var 7))), (6, (.r 6)), (4, (.t (.var 4))), (3, (.t (.var 3))), (2, (.r 2)), (1, (.t (.var 1))), (21, (.t (.var 30))), (20, (.t (.var 29))), (19, (.t (.var 28))), (18, (.r 27)), (0, (.r 0))], [((.var 4), (.var 4)), ((.var 3), (.var 3)), ((.lit (0)), (.lit (0))), ((.lit (0)), (.lit (0))), ((.var 20), (.var 29)), ((.lit (0)), (.lit (0))), ((.lit (0)), (.lit (0)))], [], []⟩ 32 (.pack [.abs 33 2, .arr 23 3 [CK.int .i64] (.var 26) (.var 25)] 34 (.ret 1 ⟨18, [(23, (.r 34)), (22, (.t (.var 32))), (21, (.t (.var 31))), (20, (.t (.var 29))), (19, (.t (.var 28))), (18, (.r 27))], [((.var 20), (.var 29)), ((.var 4), (.var 4)), ((.var 16), (.var 16)), ((.var 11), (.var 11)), ((.var 10), (.var 10)), ((.var 9), (.var 9)), ((.var 7), (.var 7)), ((.var 3), (.var 3)), ((.lit (0)), (.lit (0))), ((.var 4), (.var 4)), ((.var 3), (.var 3)), ((.lit (0)), (.lit (0))), ((.var 1), (.var 1)), ((.lit (0)), (.lit (0)))], [((.bl true), (.bl true))], []⟩))))) .top))))))))))))))))))))) .top)) .top) .top) .top)) .top))))) .top)))
theorem o_leave44_eq : treeOf ⟨Try.prog, leave44C, [fault64C, live37C, stamp68C], [leave44I]⟩ 100000 Try.f44 = o_leave44 := by kernel_rfl
theorem leave44_of (hd : ∀ c ∈ ([fault64C, live37C, stamp68C] : List Ctr), c.ok Try.prog) (h : ∀ ρ : Env, ρ.good → (leave44C).pre ρ → o_leave44.den ⟨Try.prog, leave44C, [fault64C, live37C, stamp68C], [leave44I]⟩ ρ) : (leave44C).ok Try.prog :=
  ok_of_tree Try.func44 (fun a w => Try.call44 a w) hd 100000 (fun ρ hg hp => by rw [o_leave44_eq]; exact h ρ hg hp)
end Go.Proofs

/- Reincarnate, Leave, Challenge, Clock, Live, Probes: what they compute. -/
set_option linter.unusedSimpArgs false
set_option linter.unusedVariables false
namespace Go.Proofs
open Go Go.Eng

theorem challenge50_ok : challenge50C.ok Try.prog := challenge50_of (by simp) fun ρ hg hp => by
  simp [o_challenge50, challenge50C]
theorem clock45_ok : clock45C.ok Try.prog := clock45_of (by simp) fun ρ hg hp => by
  simp [o_clock45, clock45C]
theorem live30_ok : live30C.ok Try.prog := live30_of (by simp [live37_ok]) fun ρ hg hp => by
  obtain ⟨h1, h2⟩ := hp
  simp [o_live30, live30C, live37C]
  exact ⟨h1, h2⟩
theorem clone69_ok : clone69C.ok Try.prog := clone69_of (by simp) fun ρ hg hp => by
  obtain ⟨h1, h2, h3⟩ := hp
  simp [o_clone69, clone69C]
  refine ⟨fun h => ?_, fun _ => ⟨h1, h2, by omega, by omega⟩⟩
  rw [h] at h2 ⊢
  simp at h2 ⊢
  omega
theorem probes31_ok : probes31C.ok Try.prog := probes31_of (by simp [clone69_ok]) fun ρ hg hp => by
  obtain ⟨h1, h2, h3⟩ := hp
  simp [o_probes31, probes31C, clone69C]
  exact ⟨h1, h2, h3⟩
theorem reinc43_ok : reinc43C.ok Try.prog := reinc43_of (by simp [fault64_ok]) fun ρ hg hp => by
  obtain ⟨h1, h2, h3⟩ := hp
  have hst := statAt_tab (d := (ρ 5).d) h2 (by omega)
  have hput := tab_put' (d := (ρ 5).d) (x := (ρ 18).i) (y := 1) h2 (by omega)
  simp [o_reinc43, reinc43C, fault64C, m1, machV, reincM, reincE, hst, hput, putD_len, setTab]
  refine ⟨fun hL => by simp [hL], fun hL => ⟨h2, h3, by omega, fun k => by simp [hL, k], fun k => ⟨fun k' => by simp [hL, k'], fun k' => ⟨by omega, ?_⟩⟩⟩⟩
  simp [hL, Int.not_le.2 k, Int.not_le.2 k']
set_option maxRecDepth 20000 in
theorem leave44_ok : leave44C.ok Try.prog := leave44_of (by simp [fault64_ok, live37_ok, stamp68_ok]) fun ρ hg hp => by
  obtain ⟨⟨h1, h2, h3, h4, h5, h6, h7⟩, h8⟩ := hp
  have hst := statAt_tab (d := (ρ 5).d) h4 (by omega)
  rw [hst] at h8
  have hput := tab_put1 (d := (ρ 5).d) (y := 4) h4 (by omega) h8
  simp [o_leave44, leave44C, leave44I, fault64C, live37C, stamp68C, leaveTab, mOk, hst, hput, putD_len, arithOf]
  generalize hT : (tabOf (ρ 5).d).set (ρ 1).i.toNat (cellI (ρ 5).d (ρ 1).i 0, 4) = T
  have hb16 : (16 : Int) ≤ big := by decide
  intro hL
  refine ⟨h4, h5, by omega, by omega, ⟨h1, by omega⟩, fun _ _ _ _ u2 _ u3 _ k1 k2 k3 => ⟨by omega, ⟨by omega, k2, k3, k1, rfl⟩, ?_⟩⟩
  intro ui _ _ _ un _ _ _ uL _ _ _ um _ _ _ uM _ uT _ g0 g1 g2 g3 g4 g5 g6 g7 g8 g9
  constructor
  · intro hi
    have hc := cellI_ints (d := uL.d) g0 (by omega)
    rw [g6] at hc
    rw [wrapAdd g0 hi (by omega)]
    have hq := plain_snoc (m := leaveMsg (cellI uL.d ui.i 0)) g9
    rw [← take_snoc (by rw [List.getElem?_map, hc]; rfl), ← toNat_succ g0] at hq
    exact ⟨g0, by omega, g7, by omega, ⟨by omega, by omega, g2, g3, g4, g5, g6, g7, by omega, hq⟩, by omega⟩
  · intro hi
    have hlen := congrArg List.length g6
    rw [ints_len] at hlen
    rw [List.take_of_length_le (by rw [List.length_map]; omega)] at g9
    refine ⟨⟨⟨by omega, h2, h3, h4, h5, h6, h7⟩, g7, by omega, ⟨_, g9⟩⟩, fun uD _ uH _ ks uF _ kF => ⟨hL, g4, g5, ?_, ?_⟩⟩
    · have := stamped_len (ks _ g9)
      have := plain_len g9
      omega
    · obtain ⟨hb, lb, db⟩ := star_mem_abs kF (n := 33) (t := 2) (by simp)
      have := stamped_mono (ks _ g9) (Hp.le_trans (by simpa using db) lb)
      rw [g4] at this
      exact this
end Go.Proofs
