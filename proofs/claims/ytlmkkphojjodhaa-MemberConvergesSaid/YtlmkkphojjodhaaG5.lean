/- Texts MD, MT, MU, TT, TP, MP, BQ, BT, BP, E13, E14, CO, NA, CM, OA, OB, PA, NT, NP, NQ, RC, RA, OT, OP, OU, OV, RD, UA, CS, PL. -/
import Derived.Test.YtlmkkphojjodhaaG4
import Derived.Test.YtlmkkphojjodhaaProg
import Derived.Test.YtlmkkphojjodhaaG1
import Derived.WalkKit
import Derived.ProofKit
import Derived.OpenShut
import Derived.Carry
import Derived.SizedLaws
import Derived.Test.YtlmkkphojjodhaaRows
set_option linter.unusedSimpArgs false
set_option linter.unusedVariables false
set_option linter.unusedSectionVars false
namespace Go.Proofs
open Go Go.Eng
def qsx:Out:=(fr 0 2 (.ret 0 (sg 0 [])))
theorem quj:qW ⟨Try.prog,qE 0 0 0 0 false,[],[]⟩ 100000 Try.f17 = qsx:=by kernel_rfl
set_option maxRecDepth 4000 in
theorem qwE:(qE 0 0 0 0 false).ok Try.prog:=by
 refine qo (ctrs:=[]) (invs:=[]) Try.func17 (fun a w=>Try.call17 a w) (by simp []) 100000 (fun Z hg hp=>?_);rw [quj];simp [qsx,qak,qaC,qbc,qau,qw,qax,qap,qK,qF,qx,qP,qab,qaa,qag,qal,qJ,qai,qE,qaf,qaM,qa9,qG,qC,qae,qI,qm,qN,qv,qu,qh,qaj,qg,qO,qa8,qR,qH]
def qs7:Out:=(fr 0 2 (.ret 0 (sg 0 [])))
theorem quH:qW ⟨Try.prog,qE 1 1 0 0 true,[],[]⟩ 100000 Try.f17 = qs7:=by kernel_rfl
set_option maxRecDepth 4000 in
theorem qx3:(qE 1 1 0 0 true).ok Try.prog:=by
 refine qo (ctrs:=[]) (invs:=[]) Try.func17 (fun a w=>Try.call17 a w) (by simp []) 100000 (fun Z hg hp=>?_);rw [quH];simp [qs7,qak,qaC,qbc,qau,qw,qax,qap,qK,qF,qx,qP,qab,qaa,qag,qal,qJ,qai,qE,qaf,qaM,qa9,qG,qC,qae,qI,qm,qN,qv,qu,qh,qaj,qg,qO,qa8,qR,qH]
def qs1:Out:=(fr 0 2 (.ret 0 (sg 0 [])))
theorem quL:qW ⟨Try.prog,qE 4 1 3 3 true,[],[]⟩ 100000 Try.f17 = qs1:=by kernel_rfl
set_option maxRecDepth 4000 in
theorem qwY:(qE 4 1 3 3 true).ok Try.prog:=by
 refine qo (ctrs:=[]) (invs:=[]) Try.func17 (fun a w=>Try.call17 a w) (by simp []) 100000 (fun Z hg hp=>?_);rw [quL];simp [qs1,qak,qaC,qbc,qau,qw,qax,qap,qK,qF,qx,qP,qab,qaa,qag,qal,qJ,qai,qE,qaf,qaM,qa9,qG,qC,qae,qI,qm,qN,qv,qu,qh,qaj,qg,qO,qa8,qR,qH]
def qsU:Out:=(fr 0 2 (.ret 0 (sg 0 [])))
theorem quU:qW ⟨Try.prog,qE 6 2 5 1 true,[],[]⟩ 100000 Try.f17 = qsU:=by kernel_rfl
set_option maxRecDepth 4000 in
theorem qw9:(qE 6 2 5 1 true).ok Try.prog:=by
 refine qo (ctrs:=[]) (invs:=[]) Try.func17 (fun a w=>Try.call17 a w) (by simp []) 100000 (fun Z hg hp=>?_);rw [quU];simp [qsU,qak,qaC,qbc,qau,qw,qax,qap,qK,qF,qx,qP,qab,qaa,qag,qal,qJ,qai,qE,qaf,qaM,qa9,qG,qC,qae,qI,qm,qN,qv,qu,qh,qaj,qg,qO,qa8,qR,qH]
def qxP:Out:=(fr 0 3 (.pre 0 (sg 0 []) (tb (.post 0 0 (sg 0 []) 3 (.ret 0 (sg 0 []))))))
theorem qw6:qW ⟨Try.prog,qaf 0 0 0 0 0 0,[qE 0 0 0 0 false],[]⟩ 100000 Try.f18 = qxP:=by kernel_rfl
set_option maxRecDepth 4000 in
theorem qzb:(qaf 0 0 0 0 0 0).ok Try.prog:=by
 refine qo (ctrs:=[qE 0 0 0 0 false]) (invs:=[]) Try.func18 (fun a w=>Try.call18 a w) (by simp [qwE]) 100000 (fun Z hg hp=>?_);rw [qw6];simp [qxP,qak,qaC,qbc,qau,qw,qax,qap,qK,qF,qx,qP,qab,qaa,qag,qal,qJ,qai,qE,qaf,qaM,qa9,qG,qC,qae,qI,qm,qN,qv,qu,qh,qaj,qg,qO,qa8,qR,qH]
def qxR:Out:=(fr 0 3 (.pre 0 (sg 0 []) (tb (.post 0 0 (sg 0 []) 3 (.ret 0 (sg 0 []))))))
theorem qwL:qW ⟨Try.prog,qaf 0 0 1 1 1 1,[qE 1 1 0 0 true],[]⟩ 100000 Try.f18 = qxR:=by kernel_rfl
set_option maxRecDepth 4000 in
theorem qzx:(qaf 0 0 1 1 1 1).ok Try.prog:=by
 refine qo (ctrs:=[qE 1 1 0 0 true]) (invs:=[]) Try.func18 (fun a w=>Try.call18 a w) (by simp [qx3]) 100000 (fun Z hg hp=>?_);rw [qwL];simp [qxR,qak,qaC,qbc,qau,qw,qax,qap,qK,qF,qx,qP,qab,qaa,qag,qal,qJ,qai,qE,qaf,qaM,qa9,qG,qC,qae,qI,qm,qN,qv,qu,qh,qaj,qg,qO,qa8,qR,qH]
def qxQ:Out:=(fr 0 3 (.pre 0 (sg 0 []) (tb (.post 0 0 (sg 0 []) 3 (.ret 0 (sg 0 []))))))
theorem qwX:qW ⟨Try.prog,qaf 3 3 4 1 4 1,[qE 4 1 3 3 true],[]⟩ 100000 Try.f18 = qxQ:=by kernel_rfl
set_option maxRecDepth 4000 in
theorem qz0:(qaf 3 3 4 1 4 1).ok Try.prog:=by
 refine qo (ctrs:=[qE 4 1 3 3 true]) (invs:=[]) Try.func18 (fun a w=>Try.call18 a w) (by simp [qwY]) 100000 (fun Z hg hp=>?_);rw [qwX];simp [qxQ,qak,qaC,qbc,qau,qw,qax,qap,qK,qF,qx,qP,qab,qaa,qag,qal,qJ,qai,qE,qaf,qaM,qa9,qG,qC,qae,qI,qm,qN,qv,qu,qh,qaj,qg,qO,qa8,qR,qH]
def qzy:Out:=(.fresh 5 (tb (.ret 0 (sg 5 []))))
theorem qxU:qW ⟨Try.prog,qaM 1 0 0 T0,[],[]⟩ 100000 Try.f65 = qzy:=by kernel_rfl
set_option maxRecDepth 4000 in
theorem qzJ:(qaM 1 0 0 T0).ok Try.prog:=by
 refine qo (ctrs:=[]) (invs:=[]) Try.func65 (fun a w=>Try.call65 a w) (by simp []) 100000 (fun Z hg hp=>?_);rw [qxU];simp [qzy,qak,qaC,qbc,qau,qw,qax,qap,qK,qF,qx,qP,qab,qaa,qag,qal,qJ,qai,qE,qaf,qaM,qa9,qG,qC,qae,qI,qm,qN,qv,qu,qh,qaj,qg,qO,qa8,qR,qH]
def qzv:Out:=(.fresh 5 (tb (.ret 0 (sg 5 []))))
theorem qyl:qW ⟨Try.prog,qaM 2 1 1 T1,[],[]⟩ 100000 Try.f65 = qzv:=by kernel_rfl
set_option maxRecDepth 4000 in
theorem qzI:(qaM 2 1 1 T1).ok Try.prog:=by
 refine qo (ctrs:=[]) (invs:=[]) Try.func65 (fun a w=>Try.call65 a w) (by simp []) 100000 (fun Z hg hp=>?_);rw [qyl];simp [qzv,qak,qaC,qbc,qau,qw,qax,qap,qK,qF,qx,qP,qab,qaa,qag,qal,qJ,qai,qE,qaf,qaM,qa9,qG,qC,qae,qI,qm,qN,qv,qu,qh,qaj,qg,qO,qa8,qR,qH]
def qzt:Out:=(.ret 0 (sg 5 []))
theorem qy9:qW ⟨Try.prog,qa9 2,[],[]⟩ 100000 Try.f87 = qzt:=by kernel_rfl
set_option maxRecDepth 4000 in
theorem qzF:(qa9 2).ok Try.prog:=by
 refine qo (ctrs:=[]) (invs:=[]) Try.func87 (fun a w=>Try.call87 a w) (by simp []) 100000 (fun Z hg hp=>?_);rw [qy9];simp [qzt,qak,qaC,qbc,qau,qw,qax,qap,qK,qF,qx,qP,qab,qaa,qag,qal,qJ,qai,qE,qaf,qaM,qa9,qG,qC,qae,qI,qm,qN,qv,qu,qh,qaj,qg,qO,qa8,qR,qH]
def qxH:Out:=(.fresh 0 (.ret 0 (sg 0 [])))
theorem qxc:qW ⟨Try.prog,qG 6 2,[],[]⟩ 100000 Try.f61 = qxH:=by kernel_rfl
set_option maxRecDepth 4000 in
theorem qzo:(qG 6 2).ok Try.prog:=by
 refine qo (ctrs:=[]) (invs:=[]) Try.func61 (fun a w=>Try.call61 a w) (by simp []) 100000 (fun Z hg hp=>?_);rw [qxc];simp [qxH,qak,qaC,qbc,qau,qw,qax,qap,qK,qF,qx,qP,qab,qaa,qag,qal,qJ,qai,qE,qaf,qaM,qa9,qG,qC,qae,qI,qm,qN,qv,qu,qh,qaj,qg,qO,qa8,qR,qH]
def qxB:Out:=(.fresh 0 (.ret 0 (sg 0 [])))
theorem qwB:qW ⟨Try.prog,qG 0 0,[],[]⟩ 100000 Try.f61 = qxB:=by kernel_rfl
set_option maxRecDepth 4000 in
theorem qyQ:(qG 0 0).ok Try.prog:=by
 refine qo (ctrs:=[]) (invs:=[]) Try.func61 (fun a w=>Try.call61 a w) (by simp []) 100000 (fun Z hg hp=>?_);rw [qwB];simp [qxB,qak,qaC,qbc,qau,qw,qax,qap,qK,qF,qx,qP,qab,qaa,qag,qal,qJ,qai,qE,qaf,qaM,qa9,qG,qC,qae,qI,qm,qN,qv,qu,qh,qaj,qg,qO,qa8,qR,qH]
def qxJ:Out:=(.fresh 0 (.ret 0 (sg 0 [])))
theorem qxj:qW ⟨Try.prog,qG 1 1,[],[]⟩ 100000 Try.f61 = qxJ:=by kernel_rfl
set_option maxRecDepth 4000 in
theorem qyH:(qG 1 1).ok Try.prog:=by
 refine qo (ctrs:=[]) (invs:=[]) Try.func61 (fun a w=>Try.call61 a w) (by simp []) 100000 (fun Z hg hp=>?_);rw [qxj];simp [qxJ,qak,qaC,qbc,qau,qw,qax,qap,qK,qF,qx,qP,qab,qaa,qag,qal,qJ,qai,qE,qaf,qaM,qa9,qG,qC,qae,qI,qm,qN,qv,qu,qh,qaj,qg,qO,qa8,qR,qH]
def qxL:Out:=(.fresh 0 (.pre 0 (sg 0 []) (tb (.post 0 0 (sg 0 []) 1 (.ret 0 (sg 0 []))))))
theorem qxz:qW ⟨Try.prog,qC 6 2,[qG 6 2],[]⟩ 100000 Try.f60 = qxL:=by kernel_rfl
set_option maxRecDepth 4000 in
theorem qyY:(qC 6 2).ok Try.prog:=by
 refine qo (ctrs:=[qG 6 2]) (invs:=[]) Try.func60 (fun a w=>Try.call60 a w) (by simp [qzo]) 100000 (fun Z hg hp=>?_);rw [qxz];simp [qxL,qak,qaC,qbc,qau,qw,qax,qap,qK,qF,qx,qP,qab,qaa,qag,qal,qJ,qai,qE,qaf,qaM,qa9,qG,qC,qae,qI,qm,qN,qv,qu,qh,qaj,qg,qO,qa8,qR,qH]
def qxF:Out:=(.fresh 0 (.pre 0 (sg 0 []) (tb (.post 0 0 (sg 0 []) 1 (.ret 0 (sg 0 []))))))
theorem qwF:qW ⟨Try.prog,qC 0 0,[qG 0 0],[]⟩ 100000 Try.f60 = qxF:=by kernel_rfl
set_option maxRecDepth 4000 in
theorem qzq:(qC 0 0).ok Try.prog:=by
 refine qo (ctrs:=[qG 0 0]) (invs:=[]) Try.func60 (fun a w=>Try.call60 a w) (by simp [qyQ]) 100000 (fun Z hg hp=>?_);rw [qwF];simp [qxF,qak,qaC,qbc,qau,qw,qax,qap,qK,qF,qx,qP,qab,qaa,qag,qal,qJ,qai,qE,qaf,qaM,qa9,qG,qC,qae,qI,qm,qN,qv,qu,qh,qaj,qg,qO,qa8,qR,qH]
def qxD:Out:=(.fresh 0 (.pre 0 (sg 0 []) (tb (.post 0 0 (sg 0 []) 1 (.ret 0 (sg 0 []))))))
theorem qwZ:qW ⟨Try.prog,qC 1 1,[qG 1 1],[]⟩ 100000 Try.f60 = qxD:=by kernel_rfl
set_option maxRecDepth 4000 in
theorem qyN:(qC 1 1).ok Try.prog:=by
 refine qo (ctrs:=[qG 1 1]) (invs:=[]) Try.func60 (fun a w=>Try.call60 a w) (by simp [qyH]) 100000 (fun Z hg hp=>?_);rw [qwZ];simp [qxD,qak,qaC,qbc,qau,qw,qax,qap,qK,qF,qx,qP,qab,qaa,qag,qal,qJ,qai,qE,qaf,qaM,qa9,qG,qC,qae,qI,qm,qN,qv,qu,qh,qaj,qg,qO,qa8,qR,qH]
def qxI:Out:=(.fresh 0 (.ret 0 (sg 0 [])))
theorem qwt:qW ⟨Try.prog,qae 5 1 true,[],[]⟩ 100000 Try.f72 = qxI:=by kernel_rfl
set_option maxRecDepth 4000 in
theorem qzn:(qae 5 1 true).ok Try.prog:=by
 refine qo (ctrs:=[]) (invs:=[]) Try.func72 (fun a w=>Try.call72 a w) (by simp []) 100000 (fun Z hg hp=>?_);rw [qwt];simp [qxI,qak,qaC,qbc,qau,qw,qax,qap,qK,qF,qx,qP,qab,qaa,qag,qal,qJ,qai,qE,qaf,qaM,qa9,qG,qC,qae,qI,qm,qN,qv,qu,qh,qaj,qg,qO,qa8,qR,qH]
def qxC:Out:=(.fresh 0 (.ret 0 (sg 0 [])))
theorem qxr:qW ⟨Try.prog,qae 0 0 false,[],[]⟩ 100000 Try.f72 = qxC:=by kernel_rfl
set_option maxRecDepth 4000 in
theorem qzh:(qae 0 0 false).ok Try.prog:=by
 refine qo (ctrs:=[]) (invs:=[]) Try.func72 (fun a w=>Try.call72 a w) (by simp []) 100000 (fun Z hg hp=>?_);rw [qxr];simp [qxC,qak,qaC,qbc,qau,qw,qax,qap,qK,qF,qx,qP,qab,qaa,qag,qal,qJ,qai,qE,qaf,qaM,qa9,qG,qC,qae,qI,qm,qN,qv,qu,qh,qaj,qg,qO,qa8,qR,qH]
def qxG:Out:=(.fresh 0 (.ret 0 (sg 0 [])))
theorem qxy:qW ⟨Try.prog,qae 1 1 true,[],[]⟩ 100000 Try.f72 = qxG:=by kernel_rfl
set_option maxRecDepth 4000 in
theorem qz1:(qae 1 1 true).ok Try.prog:=by
 refine qo (ctrs:=[]) (invs:=[]) Try.func72 (fun a w=>Try.call72 a w) (by simp []) 100000 (fun Z hg hp=>?_);rw [qxy];simp [qxG,qak,qaC,qbc,qau,qw,qax,qap,qK,qF,qx,qP,qab,qaa,qag,qal,qJ,qai,qE,qaf,qaM,qa9,qG,qC,qae,qI,qm,qN,qv,qu,qh,qaj,qg,qO,qa8,qR,qH]
def qq6:Out:=(.pre 0 (sg 0 []) (tb (.post 0 0 (sg 0 []) 11 (.pre 1 (sg 0 []) (tb (.post 1 0 (sg 0 []) 11 (.pre 2 (sg 0 []) (tb (.post 2 0 (sg 0 []) 11 (.ret 0 (sg 11 [])))))))))))
theorem qsj:qW ⟨Try.prog,qI,[qC 6 2,qC 0 0,qC 1 1],[]⟩ 100000 Try.f84 = qq6:=by kernel_rfl
set_option maxRecDepth 4000 in
theorem qvP:(qI).ok Try.prog:=by
 refine qo (ctrs:=[qC 6 2,qC 0 0,qC 1 1]) (invs:=[]) Try.func84 (fun a w=>Try.call84 a w) (by simp [qyY,qzq,qyN]) 100000 (fun Z hg hp=>?_);rw [qsj];simp [qq6,qak,qaC,qbc,qau,qw,qax,qap,qK,qF,qx,qP,qab,qaa,qag,qal,qJ,qai,qE,qaf,qaM,qa9,qG,qC,qae,qI,qm,qN,qv,qu,qh,qaj,qg,qO,qa8,qR,qH]
def qkL:Out:=(.pre 0 (sg 0 [bg 10 10]) (tb (.post 0 0 (sg 0 [bg 10 10]) 11 (.ret 0 (sg 11 [])))))
theorem qn4:qW ⟨Try.prog,qm,[qI],[]⟩ 100000 Try.f59 = qkL:=by kernel_rfl
set_option maxRecDepth 4000 in
theorem qpW:(qm).ok Try.prog:=by
 refine qo (ctrs:=[qI]) (invs:=[]) Try.func59 (fun a w=>Try.call59 a w) (by simp [qvP]) 100000 (fun Z hg hp=>?_);rw [qn4];simp [qkL,qak,qaC,qbc,qau,qw,qax,qap,qK,qF,qx,qP,qab,qaa,qag,qal,qJ,qai,qE,qaf,qaM,qa9,qG,qC,qae,qI,qm,qN,qv,qu,qh,qaj,qg,qO,qa8,qR,qH]
def qpT:Out:=(.pre 0 (sg 0 [bg 10 10]) (tb (.post 0 0 (sg 0 [bg 10 10]) 11 (.ret 0 (sg 11 [])))))
theorem qrJ:qW ⟨Try.prog,qN,[qm],[]⟩ 100000 Try.f20 = qpT:=by kernel_rfl
set_option maxRecDepth 4000 in
theorem qv5:(qN).ok Try.prog:=by
 refine qo (ctrs:=[qm]) (invs:=[]) Try.func20 (fun a w=>Try.call20 a w) (by simp [qpW]) 100000 (fun Z hg hp=>?_);rw [qrJ];simp [qpT,qak,qaC,qbc,qau,qw,qax,qap,qK,qF,qx,qP,qab,qaa,qag,qal,qJ,qai,qE,qaf,qaM,qa9,qG,qC,qae,qI,qm,qN,qv,qu,qh,qaj,qg,qO,qa8,qR,qH]
def qmt:Out:=(.fresh 11 (tb (.pre 0 (sg 0 [bv 4 4,bv 3 3,bg 1 1,bg 0 0]) (tb (.post 0 0 (sg 0 [bv 4 4,bv 3 3,bg 1 1,bg 0 0]) 12 (tb (.pre 1 (sg 0 [bg 10 10]) (tb (.post 1 0 (sg 0 [bg 10 10]) 12 (.pre 0 (sg 0 [bv 4 4,bv 3 3,bg 1 1,bg 0 0]) (tb (.post 0 0 (sg 0 [bv 4 4,bv 3 3,bg 1 1,bg 0 0]) 12 (.ret 0 (sg 11 []))))))))))))))
theorem qpq:qW ⟨Try.prog,qv,[qa9 2,qN],[]⟩ 100000 Try.f81 = qmt:=by kernel_rfl
set_option maxRecDepth 4000 in
theorem qrC:(qv).ok Try.prog:=by
 refine qo (ctrs:=[qa9 2,qN]) (invs:=[]) Try.func81 (fun a w=>Try.call81 a w) (by simp [qzF,qv5]) 100000 (fun Z hg hp=>?_);rw [qpq];simp [qmt,qak,qaC,qbc,qau,qw,qax,qap,qK,qF,qx,qP,qab,qaa,qag,qal,qJ,qai,qE,qaf,qaM,qa9,qG,qC,qae,qI,qm,qN,qv,qu,qh,qaj,qg,qO,qa8,qR,qH]
def qtb:Out:=(.br (.and (.cmp .eql (.dlen (tv 3)) (tl 0)) (.isnil 0))
 (.need (.cmp .eql (tv 1) (tl 0)) (.ret 0 (sg 4 [bt 6 .dnil,bt 5 (tl 0),(4,.nil)])))
 (.fresh 4 (tn (tl 0) (tv 1) (tn (tv 1) (.dlen (tv 3)) (tn (.tims (tl 16) (tv 1)) (tl 140737488355328) (fr 5 2 (.ret 0 (sg 4 [bt 6 (.dtake (tv 3) (tv 1)),bv 5 6,bg 4 5]))))))))
theorem qtj:qW ⟨Try.prog,qP,[],[]⟩ 100000 Try.f63 = qtb:=by kernel_rfl
theorem qqs:qP.ok Try.prog:=by
 refine qo (ctrs:=[]) (invs:=[]) Try.func63 (fun a w=>Try.call63 a w) (by simp) 100000 (fun Z hg hp=>?_);rw [qtj];simp [qtb,qP] at hp ⊢;obtain ⟨h1,h2,h3⟩:=hp;refine ⟨fun h=>by rw [h] at h1; simp at h1; omega,fun _=>⟨by omega,by omega,by omega,?_⟩⟩;rw [h1]; simp
def qpZ:Out:=(tb (.pre 0 (sg 0 [bv 3 5,bv 2 4,bv 1 3,bg 0 2]) (tb (fr 27 3 (.post 0 0 (sg 0 [bv 3 5,bv 2 4,bv 1 3,bg 0 2]) 27 (tb (ts (tl 0) (.dlen (tv 15)) (tb (tb (tb (tb (tb (.ret 0 (sg 27 [bv 29 29,bv 28 28,bg 27 27]))))))))))))))
theorem qsd:qW ⟨Try.prog,qab,[qP],[]⟩ 100000 Try.f68 = qpZ:=by kernel_rfl
theorem qvt:qab.ok Try.prog:=by
 refine qo (ctrs:=[qP]) (invs:=[]) Try.func68 (fun a w=>Try.call68 a w) (by simp [qqs]) 100000 (fun Z hg hp=>?_);rw [qsd];simp [qpZ,qab,qP] at hp ⊢;exact ⟨⟨hp.1,hp.2.1,hp.2.2.1⟩,fun u hu h=>⟨by omega,h⟩⟩
def qqN:Out:=(tb (.pre 0 (sg 0 [bv 3 5,bv 2 4,bv 1 3,bg 0 2]) (tb (fr 150 3 (.post 0 0 (sg 0 [bv 3 5,bv 2 4,bv 1 3,bg 0 2]) 150 (tb (tb (tb (tb (tb (tb (.ret 0 (sg 150 [bv 152 152,bv 151 151,bg 150 150])))))))))))))
theorem qr7:qW ⟨Try.prog,qaa,[qP],[]⟩ 100000 Try.f68 = qqN:=by kernel_rfl
theorem qvO:qaa.ok Try.prog:=by
 refine qo (ctrs:=[qP]) (invs:=[]) Try.func68 (fun a w=>Try.call68 a w) (by simp [qqs]) 100000 (fun Z hg hp=>?_);rw [qr7];simp [qqN,qaa,qP] at hp ⊢;exact hp
def qsZ:Out:=(.ret 0 (sg 3 []))
theorem qty:qW ⟨Try.prog,qag,[],[]⟩ 100000 Try.f67 = qsZ:=by kernel_rfl
set_option maxRecDepth 4000 in
theorem qxA:(qag).ok Try.prog:=by
 refine qo (ctrs:=[]) (invs:=[]) Try.func67 (fun a w=>Try.call67 a w) (by simp []) 100000 (fun Z hg hp=>?_);rw [qty];simp [qsZ,qak,qaC,qbc,qau,qw,qax,qap,qK,qF,qx,qP,qab,qaa,qag,qal,qJ,qai,qE,qaf,qaM,qa9,qG,qC,qae,qI,qm,qN,qv,qu,qh,qaj,qg,qO,qa8,qR,qH]
def qsy:Out:=(.ret 0 (sg 0 []))
theorem qtl:qW ⟨Try.prog,qal,[],[]⟩ 100000 Try.f24 = qsy:=by kernel_rfl
set_option maxRecDepth 4000 in
theorem qwJ:(qal).ok Try.prog:=by
 refine qo (ctrs:=[]) (invs:=[]) Try.func24 (fun a w=>Try.call24 a w) (by simp []) 100000 (fun Z hg hp=>?_);rw [qtl];simp [qsy,qak,qaC,qbc,qau,qw,qax,qap,qK,qF,qx,qP,qab,qaa,qag,qal,qJ,qai,qE,qaf,qaM,qa9,qG,qC,qae,qI,qm,qN,qv,qu,qh,qaj,qg,qO,qa8,qR,qH]
def qqV:Out:=(.ret 0 (sg 9 []))
theorem qsn:qW ⟨Try.prog,qJ,[],[]⟩ 100000 Try.f64 = qqV:=by kernel_rfl
set_option maxRecDepth 4000 in
theorem qoY:(qJ).ok Try.prog:=by
 refine qo (ctrs:=[]) (invs:=[]) Try.func64 (fun a w=>Try.call64 a w) (by simp []) 100000 (fun Z hg hp=>?_);rw [qsn];simp [qqV,qak,qaC,qbc,qau,qw,qax,qap,qK,qF,qx,qP,qab,qaa,qag,qal,qJ,qai,qE,qaf,qaM,qa9,qG,qC,qae,qI,qm,qN,qv,qu,qh,qaj,qg,qO,qa8,qR,qH]
@[simp] def qoZ:Sg:=sg 0 [bt 8 (tl 0),bt 7 .vnils,bt 6 (tl 0),bt 5 (tl 0),bt 4 (tl 0),bt 3 (.vslice 2 (tl 0) (tl 3) (tl 3) 1),bt 2 (.vslice 1 (tl 0) (tl 3) (tl 3) 2),bt 1 (tl 0),bg 0 0]
@[simp] def qo9:Sg:=sg 0 [bt 5 (.dput (.drep (tl 3) (.rcons (.vint .u64 (tl 0)) (.rcons (tu (tl 0)) .rnil))) (tl 0) 0 (.rcons (.vint .u64 (tl 5)) (.rcons (tu (tl 1)) .rnil))),bt 26 (.bl false),bt 25 (tl 0),bt 24 (.vslice 7 (tl 0) (tl 1) (tv 8) 4),bt 23 (tl 1),bt 22 (tl 1),bt 21 (tl 1),bt 20 (.vslice 2 (tl 0) (tl 3) (tl 3) 1),bt 4 (tl 3),bt 3 (tl 3),bg 2 1,bt 1 (tl 0),bt 15 (.rcons (tu (tl 1)) (.rcons (ti (tl 0)) (.rcons (ti (tl 1)) (.rcons (.vint .u64 (tl 1)) (.rcons (ti (tl 0)) (.rcons (ti (tl 0)) (.rcons .vnils (.rcons .vnils (.rcons .vnils (.rcons (ti (tl 0)) (rr 32 (tu (tl 0)) (.rcons .vnils (.rcons (.vbool (.bl false)) (rr 32 (tu (tl 0)) (rr 4 (ti (tl 0)) (rr 32 (tu (tl 0)) (.rcons .vnils (.rcons (ti (tl 0)) (.rcons .vnils (.rcons (ti (tl 0)) .rnil)))))))))))))))))))),bv 11 11,bg 10 10,bg 0 0]
def qsP:Out:=(.pre 1 qoZ (tb (.post 1 0 qoZ 3 (.pre 3 (sg 0 []) (tb (.post 3 0 (sg 0 []) 3 (fr 3 3 (.pre 2 (sg 0 [bg 2 2,bg 1 1,bg 0 0]) (tb (.post 2 0 (sg 0 [bg 2 2,bg 1 1,bg 0 0]) 6 (tb (.fresh 6 (tb (tn (.tims (tl 32) (tl 1)) (tl 140737488355328) (fr 7 2 (tb (tb (tb (tb (.fresh 9 (tb (tn (.tims (tl 352) (tl 1)) (tl 140737488355328) (fr 10 2 (tb (.pre 0 qo9 (tb (fr 12 3 (.post 0 0 qo9 12 (.ret 0 (sg 3 [bv 7 14,bv 6 13,bg 5 12,bv 9 8,bg 8 7,bv 4 11,bg 3 10]))))))))))))))))))))))))))))))
theorem qtw:qW ⟨Try.prog,qai,[qab,qJ,qag,qal],[]⟩ 100000 Try.f29 = qsP:=by kernel_rfl
set_option maxRecDepth 4000 in
theorem qx0:(qai).ok Try.prog:=by
 refine qo (ctrs:=[qab,qJ,qag,qal]) (invs:=[]) Try.func29 (fun a w=>Try.call29 a w) (by simp [qvt,qoY,qxA,qwJ]) 100000 (fun Z hg hp=>?_);rw [qtw];simp [qsP,qak,qaC,qbc,qau,qw,qax,qap,qK,qF,qx,qP,qab,qaa,qag,qal,qJ,qai,qE,qaf,qaM,qa9,qG,qC,qae,qI,qm,qN,qv,qu,qh,qaj,qg,qO,qa8,qR,qH]
@[simp] def qjB:Sg:=sg 0 [bt 8 (tl 0),bv 7 4,bt 6 (tl 1),bt 5 (tl 1),bt 4 (tl 1),bv 3 3,bt 2 (.vslice 1 (tl 0) (tl 3) (tl 3) 2),bt 1 (tl 0),bg 0 0]
@[simp] def qjD:Sg:=sg 0 [bt 5 (.dput (.dput (.dput (.drep (tl 3) (.rcons (.vint .u64 (tl 0)) (.rcons (tu (tl 0)) .rnil))) (tl 0) 0 (.rcons (.vint .u64 (tl 5)) (.rcons (tu (tl 1)) .rnil))) (tl 1) 0 (.rcons (.vint .u64 (tl 0)) (.rcons (tu (tl 0)) .rnil))) (tl 2) 0 (.rcons (.vint .u64 (tl 1)) (.rcons (tu (tl 1)) .rnil))),bt 26 (.bl false),bt 25 (tl 6),bv 24 4,bt 23 (tl 1),bt 22 (tl 1),bt 21 (tl 1),bv 20 3,bt 4 (tl 3),bt 3 (tl 3),bg 2 1,bt 1 (tl 0),bt 145 (ti (tl 0)),bt 144 .vnils,bt 143 (ti (tl 0)),bt 142 .vnils,bt 141 (tu (tl 0)),bt 140 (tu (tl 0)),bt 139 (tu (tl 0)),bt 138 (tu (tl 0)),bt 137 (tu (tl 0)),bt 136 (tu (tl 0)),bt 135 (tu (tl 0)),bt 134 (tu (tl 0)),bt 133 (tu (tl 0)),bt 132 (tu (tl 0)),bt 131 (tu (tl 0)),bt 130 (tu (tl 0)),bt 129 (tu (tl 0)),bt 128 (tu (tl 0)),bt 127 (tu (tl 0)),bt 126 (tu (tl 0)),bt 125 (tu (tl 0)),bt 124 (tu (tl 0)),bt 123 (tu (tl 0)),bt 122 (tu (tl 0)),bt 121 (tu (tl 0)),bt 120 (tu (tl 0)),bt 119 (tu (tl 0)),bt 118 (tu (tl 0)),bt 117 (tu (tl 0)),bt 116 (tu (tl 0)),bt 115 (tu (tl 0)),bt 114 (tu (tl 0)),bt 113 (tu (tl 0)),bt 112 (tu (tl 0)),bt 111 (tu (tl 0)),bt 110 (tu (tl 0)),bt 109 (ti (tl 0)),bt 108 (ti (tl 0)),bt 107 (ti (tl 0)),bt 106 (ti (tl 0)),bt 105 (tu (tl 0)),bt 104 (tu (tl 0)),bt 103 (tu (tl 0)),bt 102 (tu (tl 0)),bt 101 (tu (tl 0)),bt 100 (tu (tl 0)),bt 99 (tu (tl 0)),bt 98 (tu (tl 0)),bt 97 (tu (tl 0)),bt 96 (tu (tl 0)),bt 95 (tu (tl 0)),bt 94 (tu (tl 0)),bt 93 (tu (tl 0)),bt 92 (tu (tl 0)),bt 91 (tu (tl 0)),bt 90 (tu (tl 0)),bt 89 (tu (tl 0)),bt 88 (tu (tl 0)),bt 87 (tu (tl 0)),bt 86 (tu (tl 0)),bt 85 (tu (tl 0)),bt 84 (tu (tl 0)),bt 83 (tu (tl 0)),bt 82 (tu (tl 0)),bt 81 (tu (tl 0)),bt 80 (tu (tl 0)),bt 79 (tu (tl 0)),bt 78 (tu (tl 0)),bt 77 (tu (tl 0)),bt 76 (tu (tl 0)),bt 75 (tu (tl 0)),bt 74 (tu (tl 0)),bt 73 (.vbool (.bl false)),bt 72 .vnils,bt 71 (tu (tl 0)),bt 70 (tu (tl 0)),bt 69 (tu (tl 0)),bt 68 (tu (tl 0)),bt 67 (tu (tl 0)),bt 66 (tu (tl 0)),bt 65 (tu (tl 0)),bt 64 (tu (tl 0)),bt 63 (tu (tl 0)),bt 62 (tu (tl 0)),bt 61 (tu (tl 0)),bt 60 (tu (tl 0)),bt 59 (tu (tl 0)),bt 58 (tu (tl 0)),bt 57 (tu (tl 0)),bt 56 (tu (tl 0)),bt 55 (tu (tl 0)),bt 54 (tu (tl 0)),bt 53 (tu (tl 0)),bt 52 (tu (tl 0)),bt 51 (tu (tl 0)),bt 50 (tu (tl 0)),bt 49 (tu (tl 0)),bt 48 (tu (tl 0)),bt 47 (tu (tl 0)),bt 46 (tu (tl 0)),bt 45 (tu (tl 0)),bt 44 (tu (tl 0)),bt 43 (tu (tl 0)),bt 42 (tu (tl 0)),bt 41 (tu (tl 0)),bt 40 (tu (tl 0)),bt 39 (ti (tl 0)),bt 38 .vnils,bt 37 .vnils,bt 36 .vnils,bt 35 (ti (tl 0)),bt 34 (ti (tl 2)),bt 33 (.vint .u64 (tl 9)),bt 32 (ti (tl 2)),bt 31 (ti (tl 0)),bt 30 (tu (tl 2)),bg 10 16,bg 0 0]
def qnv:Out:=(.fresh 11 (.pre 0 qjB (tb (.post 0 0 qjB 12 (.pre 1 (sg 0 [bv 4 4,bv 3 3,bg 1 1,bg 10 10,bg 0 0]) (tb (.post 1 0 (sg 0 [bv 4 4,bv 3 3,bg 1 1,bg 10 10,bg 0 0]) 12 (.fresh 12 (tb (.pre 2 (sg 0 []) (tb (.post 2 0 (sg 0 []) 13 (tb (.fresh 13 (tb (.pre 3 (sg 0 []) (tb (.post 3 0 (sg 0 []) 14 (tb (.pre 5 (sg 0 [bv 4 4,bv 3 3,bg 1 1,bg 0 0]) (tb (.post 5 0 (sg 0 [bv 4 4,bv 3 3,bg 1 1,bg 0 0]) 14 (.fresh 14 (tb (.pre 4 (sg 0 []) (tb (.post 4 0 (sg 0 []) 15 (tb (.pre 6 (sg 0 [bv 4 4,bv 3 3,bg 1 1,bg 0 0]) (tb (.post 6 0 (sg 0 [bv 4 4,bv 3 3,bg 1 1,bg 0 0]) 15 (fr 15 2 (.pre 7 qjD (tb (fr 17 3 (.post 7 0 qjD 17 (.ret 0 (sg 11 [bv 14 19,bv 13 18,bg 12 17,bg 11 16]))))))))))))))))))))))))))))))))))))))
theorem qpt:qW ⟨Try.prog,qu,[qJ,qv,qE 6 2 5 1 true,qaf 0 0 0 0 0 0,qaf 0 0 1 1 1 1,qaM 1 0 0 T0,qaM 2 1 1 T1,qaa],[]⟩ 100000 Try.f58 = qnv:=by kernel_rfl
set_option maxRecDepth 4000 in
theorem qss:(qu).ok Try.prog:=by
 refine qo (ctrs:=[qJ,qv,qE 6 2 5 1 true,qaf 0 0 0 0 0 0,qaf 0 0 1 1 1 1,qaM 1 0 0 T0,qaM 2 1 1 T1,qaa]) (invs:=[]) Try.func58 (fun a w=>Try.call58 a w) (by simp [qoY,qrC,qw9,qzb,qzx,qzJ,qzI,qvO]) 100000 (fun Z hg hp=>?_);rw [qpt];simp [qnv,qak,qaC,qbc,qau,qw,qax,qap,qK,qF,qx,qP,qab,qaa,qag,qal,qJ,qai,qE,qaf,qaM,qa9,qG,qC,qae,qI,qm,qN,qv,qu,qh,qaj,qg,qO,qa8,qR,qH]
def qrv:Out:=(.fresh 2 (.pre 0 (sg 0 []) (tb (.post 0 0 (sg 0 []) 3 (.fresh 3 (tn (.tims (tl 8) (tl 1)) (tl 140737488355328) (fr 4 3 (.pre 1 (sg 0 []) (tb (.post 1 0 (sg 0 []) 7 (.fresh 7 (.pre 2 (sg 0 []) (tb (.post 2 0 (sg 0 []) 8 (.fresh 8 (tn (.tims (tl 8) (tl 2)) (tl 140737488355328) (fr 9 2 (.ret 0 (sg 2 [bt 4 (.dapp (.rcons (ti (tl 0)) .rnil) (.rcons (ti (tl 2)) .rnil)),bv 3 10,bg 2 9])))))))))))))))))))
theorem qsi:qW ⟨Try.prog,qh,[qae 5 1 true,qae 0 0 false,qae 1 1 true],[]⟩ 100000 Try.f37 = qrv:=by kernel_rfl
set_option maxRecDepth 4000 in
theorem qvx:(qh).ok Try.prog:=by
 refine qo (ctrs:=[qae 5 1 true,qae 0 0 false,qae 1 1 true]) (invs:=[]) Try.func37 (fun a w=>Try.call37 a w) (by simp [qzn,qzh,qz1]) 100000 (fun Z hg hp=>?_);rw [qsi];simp [qrv,qak,qaC,qbc,qau,qw,qax,qap,qK,qF,qx,qP,qab,qaa,qag,qal,qJ,qai,qE,qaf,qaM,qa9,qG,qC,qae,qI,qm,qN,qv,qu,qh,qaj,qg,qO,qa8,qR,qH]
def qsS:Out:=(.pre 0 (sg 0 [bg 1 1]) (tb (fr 5 3 (.post 0 0 (sg 0 [bg 1 1]) 5 (.ret 0 (sg 5 [bv 7 7,bv 6 6,bg 5 5]))))))
theorem quk:qW ⟨Try.prog,qaj,[qh],[]⟩ 100000 Try.f30 = qsS:=by kernel_rfl
set_option maxRecDepth 4000 in
theorem qx7:(qaj).ok Try.prog:=by
 refine qo (ctrs:=[qh]) (invs:=[]) Try.func30 (fun a w=>Try.call30 a w) (by simp [qvx]) 100000 (fun Z hg hp=>?_);rw [quk];simp [qsS,qak,qaC,qbc,qau,qw,qax,qap,qK,qF,qx,qP,qab,qaa,qag,qal,qJ,qai,qE,qaf,qaM,qa9,qG,qC,qae,qI,qm,qN,qv,qu,qh,qaj,qg,qO,qa8,qR,qH]
def qsF:Out:=(.ret 0 (sg 5 []))
theorem qtU:qW ⟨Try.prog,qg,[],[]⟩ 100000 Try.f50 = qsF:=by kernel_rfl
set_option maxRecDepth 4000 in
theorem qwv:(qg).ok Try.prog:=by
 refine qo (ctrs:=[]) (invs:=[]) Try.func50 (fun a w=>Try.call50 a w) (by simp []) 100000 (fun Z hg hp=>?_);rw [qtU];simp [qsF,qak,qaC,qbc,qau,qw,qax,qap,qK,qF,qx,qP,qab,qaa,qag,qal,qJ,qai,qE,qaf,qaM,qa9,qG,qC,qae,qI,qm,qN,qv,qu,qh,qaj,qg,qO,qa8,qR,qH]
def qrs:Out:=(.ret 0 (sg 5 []))
theorem qrU:qW ⟨Try.prog,qO,[],[]⟩ 100000 Try.f45 = qrs:=by kernel_rfl
set_option maxRecDepth 4000 in
theorem qvl:(qO).ok Try.prog:=by
 refine qo (ctrs:=[]) (invs:=[]) Try.func45 (fun a w=>Try.call45 a w) (by simp []) 100000 (fun Z hg hp=>?_);rw [qrU];simp [qrs,qak,qaC,qbc,qau,qw,qax,qap,qK,qF,qx,qP,qab,qaa,qag,qal,qJ,qai,qE,qaf,qaM,qa9,qG,qC,qae,qI,qm,qN,qv,qu,qh,qaj,qg,qO,qa8,qR,qH]
def qvd:Out:=(.both (tn (.tims (tl 16) (tl 3)) (tl 281474976710656) (.fresh 0 (tb (tn (.tims (tl 8) (tl 3)) (tl 281474976710656) (.fresh 1 (tb (.fresh 2 (.ret 0 (sg 0 [bg 2 1,bg 1 0,bg 0 2]))))))))) (tb (tn (.tims (tl 8) (tl 3)) (tl 281474976710656) (.fresh 0 (tb (tn (.tims (tl 16) (tl 3)) (tl 281474976710656) (.fresh 1 (tb (.fresh 2 (.ret 0 (sg 0 [bg 2 0,bg 1 1,bg 0 2])))))))))))
theorem qvJ:qW ⟨Try.prog,qa8,[],[]⟩ 100000 Try.f22 = qvd:=by kernel_rfl
set_option maxRecDepth 4000 in
theorem qxW:(qa8).ok Try.prog:=by
 refine qo (ctrs:=[]) (invs:=[]) Try.func22 (fun a w=>Try.call22 a w) (by simp []) 100000 (fun Z hg hp=>?_);rw [qvJ];simp [qvd,qak,qaC,qbc,qau,qw,qax,qap,qK,qF,qx,qP,qab,qaa,qag,qal,qJ,qai,qE,qaf,qaM,qa9,qG,qC,qae,qI,qm,qN,qv,qu,qh,qaj,qg,qO,qa8,qR,qH]
@[simp] def qe0:Sg:=sg 0 [bt 4 (.vslice 8 (tl 0) (tl 1) (tv 9) 4),bt 3 (.vslice 2 (tl 0) (tl 3) (tl 3) 1),bg 1 1,bg 0 0]
@[simp] def qo8:Sg:=sg 0 [bt 4 (.vslice 8 (tl 0) (tl 1) (tv 9) 4),bt 3 (.vslice 2 (tl 0) (tl 3) (tl 3) 1),bg 1 1,bg 10 10,bg 0 0]
def qsY:Out:=(.pre 0 (sg 0 []) (tb (fr 0 3 (.post 0 0 (sg 0 []) 0 (.pre 1 (sg 0 []) (tb (.post 1 0 (sg 0 []) 3 (.pre 2 (sg 0 [bg 2 2,bg 1 1,bg 0 0]) (tb (fr 3 7 (.post 2 0 (sg 0 [bg 2 2,bg 1 1,bg 0 0]) 3 (.fresh 10 (.pre 3 qo8 (tb (fr 11 4 (.post 3 0 qo8 11 (.pre 4 qe0 (tb (.post 4 0 qe0 15 (.pre 5 qe0 (tb (fr 15 3 (.post 5 0 qe0 15 (.pre 6 qe0 (tb (.post 6 0 qe0 18 (.ret 0 (sg 0 []))))))))))))))))))))))))))))
theorem quu:qW ⟨Try.prog,qR,[qa8,qaf 3 3 4 1 4 1,qai,qu,qg,qaj,qO],[]⟩ 100000 Try.f19 = qsY:=by kernel_rfl
set_option maxRecDepth 4000 in
theorem ql2:(qR).ok Try.prog:=by
 refine qo (ctrs:=[qa8,qaf 3 3 4 1 4 1,qai,qu,qg,qaj,qO]) (invs:=[]) Try.func19 (fun a w=>Try.call19 a w) (by simp [qxW,qz0,qx0,qss,qwv,qx7,qvl]) 100000 (fun Z hg hp=>?_);rw [quu];simp [qsY,qak,qaC,qbc,qau,qw,qax,qap,qK,qF,qx,qP,qab,qaa,qag,qal,qJ,qai,qE,qaf,qaM,qa9,qG,qC,qae,qI,qm,qN,qv,qu,qh,qaj,qg,qO,qa8,qR,qH]
def qwl:Out:=(.ret 0 (sg 1 [bt 1 (.arith .add .i64 (tl 10) (.arith .mul .i64 (tl 3) (.imin (.imax (tv 0) (tl 0)) (tl 16))))]))
theorem qyo:qY Try.prog qap [] [] qwl:=qA Try.func24 Try.call24 (by kernel_rfl)
def qqI:Out:=(.ret 0 (sg 1 [bt 1 (.arith .add .i64 (tl 30) (.arith .mul .i64 (tl 6) (.imin (.imax (tv 0) (tl 0)) (tl 16))))]))
theorem qvM:qY Try.prog qF [] [] qqI:=qA Try.func26 Try.call26 (by kernel_rfl)
def qsD:Out:=(fr 4 2 (.br (.cmp .gtr (tv 0) (tv 2))
 (.need (.beq (.or (.cmp .gtr (tv 0) (tv 2)) (.and (.cmp .eql (tv 0) (tv 2)) (.cmp .gtr (tv 1) (tv 3)))) (.bl true)) (.ret 0 (sg 4 [])))
 (.br (.cmp .eql (tv 0) (tv 2))
 (.need (.beq (.or (.cmp .gtr (tv 0) (tv 2)) (.and (.cmp .eql (tv 0) (tv 2)) (.cmp .gtr (tv 1) (tv 3)))) (.cmp .gtr (tv 1) (tv 3))) (.ret 0 (sg 4 [])))
 (.need (.beq (.or (.cmp .gtr (tv 0) (tv 2)) (.and (.cmp .eql (tv 0) (tv 2)) (.cmp .gtr (tv 1) (tv 3)))) (.bl false)) (.ret 0 (sg 4 []))))))
theorem qxw:qY Try.prog qg2 [] [] qsD:=qA Try.func17 Try.call17 (by kernel_rfl)
def qvH:Out:=(fr 4 3 (.pre 0 (sg 0 [bv 3 1,bv 2 0,bv 1 3,bv 0 2]) (tb (.post 0 0 (sg 0 [bv 3 1,bv 2 0,bv 1 3,bv 0 2]) 7 (.br (.or (.cmp .gtr (tv 2) (tv 0)) (.and (.cmp .eql (tv 2) (tv 0)) (.cmp .gtr (tv 3) (tv 1))))
 (.ret 0 (sg 4 []))
 (.ret 1 (sg 4 [])))))))
theorem qy4:qY Try.prog qlU [qg2] [] qvH:=qA Try.func18 Try.call18 (by kernel_rfl)
theorem qQ {x:Int} (h1:-9223372036854775808 <= x) (h2:x <= 9223372036854775807):IntKind.i64.wrap x = x:=by
 simp [IntKind.wrap,IntKind.signed,IntKind.bits]; omega
theorem qyc:qap.ok Try.prog:=qyo (by simp) fun Z hg hp=>by
 simp [qwl,qap,qi,qQ];rw [qQ (x:=3 * _) (by omega) (by omega),qQ (by omega) (by omega)];omega
theorem qoA:qF.ok Try.prog:=qvM (by simp) fun Z hg hp=>by
 simp [qqI,qF,qap,qi];rw [qQ (x:=6 * _) (by omega) (by omega),qQ (by omega) (by omega)];omega
theorem qqg:qg2.ok Try.prog:=qxw (by simp) fun Z hg hp=>by
 simp [qsD,qg2,qak];refine ⟨fun h=>.inl h,fun h=>⟨fun h'=>?_,fun h'=>⟨h,.inl h'⟩⟩⟩;cases hx:qS BinOp.gtr (Z 1).i (Z 3).i <;> cases hy:qS BinOp.gtr (Z 0).i (Z 2).i <;> simp_all <;> omega
theorem qyv:qlU.ok Try.prog:=qy4 (by simp [qqg]) fun Z hg hp=>by
 simp [qvH,qlU,qaC,qg2,qak,qdV]
def qoC:Out:=(.br (.and (.cmp .eql (.dlen (tv 3)) (tl 0)) (.isnil 0))
 (.need (.cmp .eql (tv 1) (tl 0)) (.ret 0 (sg 5 [bt 7 .dnil,bt 6 (tl 0),(5,.nil)])))
 (.fresh 5 (tn (tl 0) (tv 1) (tn (tv 1) (.dlen (tv 3)) (tn (.tims (tl 16) (tv 1)) (tl 140737488355328) (fr 6 2 (.ret 0 (sg 5 [bt 7 (.dtake (tv 3) (tv 1)),bv 6 7,bg 5 6]))))))))
theorem qu2:qY Try.prog qeo [] [] qoC:=qA Try.func63 Try.call63 (by kernel_rfl)
def qoa:Out:=(.fresh 2 (.br (.cmp .leq (tv 1) (tl 4))
 (.ret 0 (sg 2 [bt 2 (.beq (.cmp .eql (tv 0) (tl 0)) (.cmp .eql (tv 1) (tl 0)))]))
 (.ret 0 (sg 2 [bt 2 (.bl false)]))))
theorem qtg:qY Try.prog qc1 [] [] qoa:=qA Try.func61 Try.call61 (by kernel_rfl)
def qpj:Out:=(.fresh 2 (.pre 0 (sg 0 [bv 1 1,bv 0 0]) (tb (.fresh 3 (.post 0 0 (sg 0 [bv 1 1,bv 0 0]) 3 (.ret 0 (sg 2 [bt 2 (.not (tv 3))])))))))
theorem quB:qY Try.prog qgJ [qc1] [] qpj:=qA Try.func60 Try.call60 (by kernel_rfl)
def qqa:Out:=(.fresh 2 (.br (.cmp .eql (tv 1) (tl 1))
 (.ret 0 (sg 2 [bt 2 (.bl true)]))
 (.ret 0 (sg 2 [bt 2 (.cmp .eql (tv 1) (tl 2))]))))
theorem qvi:qY Try.prog qhH [] [] qqa:=qA Try.func72 Try.call72 (by kernel_rfl)
def qpf:Out:=(tn (tl 0) (tv 1) (.inv 0 5 (sg 1000 [bt 1000 (tl 0)]) (.fresh 5 (.hyp 0 5 (.br (.cmp .lss (tv 5) (tv 1))
 (tn (tl 0) (tv 5) (ts (tv 5) (.dlen (tv 3)) (.pre 0 (sg 0 [bt 1 (.icell (tv 3) (tv 5) 1),bt 0 (.icell (tv 3) (tv 5) 0)]) (tb (.fresh 6 (.post 0 0 (sg 0 [bt 1 (.icell (tv 3) (tv 5) 1),bt 0 (.icell (tv 3) (tv 5) 0)]) 6 (.br (tv 6)
 (.ret 0 (sg 5 [bv 5 5]))
 (.back 0 5 (sg 1000 [bt 1000 (.arith .add .i64 (tv 5) (tl 1))])))))))))
 (.ret 0 (sg 5 [bt 5 (.lit (-1))])))))))
theorem qud:qY Try.prog qcx [qgJ] [qrm] qpf:=qA Try.func84 Try.call84 (by kernel_rfl)
def qjN:Out:=(.pre 0 (sg 0 [bv 4 4,bv 3 3,bv 2 2,bv 1 1,bg 0 0]) (tb (.fresh 5 (.post 0 0 (sg 0 [bv 4 4,bv 3 3,bv 2 2,bv 1 1,bg 0 0]) 5 (.ret 0 (sg 5 [bt 5 (.cmp .geq (tv 5) (tl 0))]))))))
theorem qpo:qY Try.prog qcs [qcx] [] qjN:=qA Try.func59 Try.call59 (by kernel_rfl)
def qph:Out:=(tn (tl 0) (tv 1) (.br (.cmp .geq (tv 1) (tl 1))
 (.br (.cmp .leq (tv 1) (tl 16))
 (.pre 0 (sg 0 [bv 4 4,bv 3 3,bv 2 2,bv 1 1,bg 0 0]) (tb (.fresh 5 (.post 0 0 (sg 0 [bv 4 4,bv 3 3,bv 2 2,bv 1 1,bg 0 0]) 5 (.ret 0 (sg 5 [bt 5 (.not (tv 5))]))))))
 (.ret 0 (sg 5 [bt 5 (.bl false)])))
 (.ret 0 (sg 5 [bt 5 (.bl false)]))))
theorem qtF:qY Try.prog qgr [qcs] [] qph:=qA Try.func20 Try.call20 (by kernel_rfl)
def qs6:Out:=(.fresh 5 (tn (tl 0) (tv 1) (tn (tv 1) (.dlen (tv 3)) (tn (.tims (tl 16) (tv 1)) (tl 140737488355328) (fr 6 2 (.ret 0 (sg 5 [bt 7 (.dtake (tv 3) (tv 1)),bv 6 7,bg 5 6])))))))
theorem qxs:qY Try.prog qjS [] [] qs6:=qA Try.func21 Try.call21 (by kernel_rfl)
def qpQ:Out:=(tn (tl 0) (tv 1) (.inv 0 5 (sg 1000 [bt 1003 .dnil,bt 1000 (tl 0),bt 1002 (tl 0),bt 1004 (tl 0),(1001,.nil)]) (fr 5 5 (.hyp 0 5 (.br (.cmp .lss (tv 5) (tv 1))
 (tn (tl 0) (tv 5) (ts (tv 5) (.dlen (tv 3)) (.fresh 10 (.pre 0 (sg 0 [bt 1 (.icell (tv 3) (tv 5) 1),bt 0 (.icell (tv 3) (tv 5) 0)]) (tb (.fresh 11 (.post 0 0 (sg 0 [bt 1 (.icell (tv 3) (tv 5) 1),bt 0 (.icell (tv 3) (tv 5) 0)]) 11 (.br (tv 11)
 (.fresh 12 (.need (.cmp .eql (tv 9) (.dlen (tv 8))) (tn (.tims (tl 8) (.plus (tv 9) (tl 1))) (tl 140737488355328) (fr 13 2 (.back 0 5 (sg 1000 [bt 1003 (.dapp (tv 8) (.rcons (ti (tv 5)) .rnil)),bt 1000 (.arith .add .i64 (tv 5) (tl 1)),bv 1002 14,bt 1004 (.plus (tv 9) (tl 1)),bg 1001 13]))))))
 (.back 0 5 (sg 1000 [bv 1003 8,bt 1000 (.arith .add .i64 (tv 5) (tl 1)),bv 1002 7,bv 1004 9,bg 1001 6]))))))))))
 (.ret 0 (sg 5 [bv 7 8,bv 6 7,bv 8 9,bg 5 6])))))))
theorem qvc:qY Try.prog qdA [qhH] [qsG] qpQ:=qA Try.func37 Try.call37 (by kernel_rfl)
theorem qay {i n:Int} (h0:0 <= i) (h:i < n) (hn:n <= big):IntKind.i64.wrap (i + 1) = i + 1:=by
 unfold big at hn; exact qQ (by omega) (by omega)
theorem qad (d:List (List Value)):(qb d).length = d.length:=by simp [qb]
theorem qV (d:List (List Value)):(qf d).length = d.length:=by simp [qf]
theorem qbH {d:List (List Value)} {i:Int} (h0:0 <= i) (h:i < (d.length:Int)):(qb d)[i.toNat]? = some (qc d i 0,qc d i 1):=by
 have hl:i.toNat < d.length:=by omega
 simp [qb,jau,jae hl,qc,qU,qbO]
theorem qcm {d:List (List Value)} {i:Int} (h0:0 <= i) (h:i < (d.length:Int)):(qf d)[i.toNat]? = some (qc d i 0):=by
 have hl:i.toNat < d.length:=by omega
 simp [qf,jau,jae hl,qc,qU,qbO]
theorem qaB {i:Int} (h:0 <= i):(i + 1).toNat = i.toNat + 1:=by omega
theorem qbU {α:Type} {l:List α} {n:Nat} {x:α} (h:l[n]? = some x):l.take (n + 1) = l.take n ++ [x]:=by
 rw [List.take_add_one,h]; rfl
theorem qx2 (l:List Ent):okN l 0 = true:=by simp [okN]
theorem qwA {l:List Ent} {n:Nat} {x:Ent} (h:l[n]? = some x) (h':okN l n = true) (hx:qf4 x = true):okN l (n + 1) = true:=by
 unfold okN at *; rw [qbU h,jeq,h']; simp [hx]
theorem qyb {l:List Ent} {n:Nat} (h:l.length <= n) (h':okN l n = true):qfM l = true:=by
 unfold okN at h'; rwa [ja0 h] at h'
theorem qwa {l:List Ent} {n:Nat} {x:Ent} (h:l[n]? = some x) (hx:qf4 x = false):qfM l = false:=by
 have hm:=jas h;cases hh:qfM l with
 | false=>rfl
 | true=>have:=jao.1 hh x hm; rw [hx] at this; cases this
theorem qux:qc1.ok Try.prog:=qtg (by simp) fun Z hg hp=>by
 simp [qoa,qc1,qf4];refine ⟨fun h=>?_,fun h=>?_⟩
 ·simp [h,qS]
 ·intro h'; omega
theorem qtQ:qgJ.ok Try.prog:=quB (by simp [qux]) fun Z hg hp=>by
 simp [qpj,qgJ,qc1]
theorem qvT:qhH.ok Try.prog:=qvi (by simp) fun Z hg hp=>by
 simp [qqa,qhH,qc1,qcb];refine ⟨fun h=>.inl h,fun h=>?_⟩;rw [show ((Z 1).i == 1) = false by simpa using h]; simp [qS]
theorem quA:qcx.ok Try.prog:=qud (by simp [qtQ]) fun Z hg hp=>by
 obtain ⟨hl,hb⟩:=hp;simp [qpf,qcx,qrm,qgJ,qc1,qi,qx2];refine ⟨by omega,fun u _ h0 h1 h2=>⟨fun h3=>⟨h0,by omega,fun u1 _ h4=>?_⟩,fun h3=>qyb (by rw [qad]; omega) h2⟩⟩;have hc:=qbH (d:=(Z 3).d) h0 (by omega);rw [qay h0 h3 hb];refine ⟨fun h5=>⟨fun _=>?_,fun _=>h0⟩,fun h5=>⟨⟨by omega,by omega,?_⟩,by omega⟩⟩
 ·refine qwa hc ?_
  rw [h5] at h4; simpa using h4.symm
 ·rw [qaB h0]
  refine qwA hc h2 ?_;rw [h5] at h4; simpa using h4.symm
theorem qp2:qcs.ok Try.prog:=qpo (by simp [quA]) fun Z hg hp=>by
 simp only [qcs,qcx] at hp;simp [qjN,qcs,qcx,hp];refine ⟨by omega,fun u _ h=>?_⟩;cases hx:qfM (qb (Z 3).d) <;> cases hy:qS BinOp.geq u.i 0 <;> simp_all <;> omega
theorem qtR:qgr.ok Try.prog:=qtF (by simp [qp2]) fun Z hg hp=>by
 obtain ⟨hl,hb⟩:=hp;simp [qph,qgr,qcs,qcx,qj0,qad];refine ⟨by omega,fun h=>⟨fun h2=>⟨⟨hl,hb⟩,fun u _ h3=>?_⟩,fun h2=>?_⟩,fun h=>?_⟩
 ·rw [show decide (1 <= (Z 3).d.length) = true by simp; omega,show decide ((Z 3).d.length <= 16) = true by simp; omega,h3]; simp
 ·intro h3; omega
 ·intro h3; omega
theorem qx5:qjS.ok Try.prog:=qxs (by simp) fun Z hg hp=>by
 obtain ⟨hl,hb⟩:=hp;unfold big at hb;simp [qs6,qjS];exact ⟨by omega,by omega,by omega,by rw [hl]; simp⟩
theorem qlW:qeo.ok Try.prog:=qu2 (by simp) fun Z hg hp=>by
 obtain ⟨hl,h0,hb⟩:=hp;unfold big at hb;simp [qoC,qeo];refine ⟨fun h=>?_,fun _=>⟨by omega,by omega,by omega,by rw [hl]; simp⟩⟩;rw [h] at hl; simp at hl; omega
theorem qy2 {d:List (List Value)} {i:Int} {x y:Int} (h0:0 <= i) (h:i < (d.length:Int)) (j:Nat) :
  (qb (qH d i 0 [.int .u64 x,.int .u8 y]))[j]? = if j = i.toNat then some (x,y) else (qb d)[j]?:=by
 simp only [qb,qH,jau,ja4];by_cases hj:i.toNat = j
 ·subst hj
  have:i.toNat < d.length:=by omega
  simp [this,qba,qbO,qbK]
 ·rw [jaf hj,jaf (fun h=>hj h.symm)]
theorem qbP (d:List (List Value)) (i:Int) (c:Nat) (vs:List Value):(qH d i c vs).length = d.length:=by simp [qH]
theorem qtk (l:List Ent):qbj l 0 = []:=by simp [qbj]
theorem qvb {l:List Ent} {n:Nat} {x:Ent} (h:l[n]? = some x) (hx:qcb x.2 = true):qbj l (n + 1) = qbj l n ++ [(n:Int)]:=by
 simp [qbj,jc7,jch,jci,List.getD,h,hx]
theorem qwV {l:List Ent} {n:Nat} {x:Ent} (h:l[n]? = some x) (hx:qcb x.2 = false):qbj l (n + 1) = qbj l n:=by
 simp [qbj,jc7,jch,jci,List.getD,h,hx]
theorem qva (d:List (List Value)) (z:Int):qf (d ++ [[.int .i64 z]]) = qf d ++ [z]:=by simp [qf,qbO,qbK]
theorem qjW:qdA.ok Try.prog:=qvc (by simp [qvT]) fun Z hg hp=>by
 obtain ⟨hl,hb⟩:=hp;simp [qpQ,qdA,qsG,qhH,qc1,qi,qtk];refine ⟨by omega,⟨by omega,by simp [qf]⟩,fun ui _ ux _ uy _ h0 h1 h2 h3 h4=>⟨fun h5=>⟨h0,by omega,fun ub _ h6=>⟨fun h7=>?_,fun h7=>?_⟩⟩,fun h5=>⟨?_,h2,by omega⟩⟩⟩
 ·have hc:=qbH (d:=(Z 3).d) h0 (by omega)
  have hbig:8 * (uy.i + 1) <= 140737488355328:=by unfold big at hb; omega
  rw [qay h0 h5 hb,qaB h0];refine ⟨h2,hbig,⟨by omega,by omega,h2,by omega,?_⟩,by omega⟩;rw [qvb hc (by rw [<- h6,h7]),qva,h4,jb9 h0]
 ·have hc:=qbH (d:=(Z 3).d) h0 (by omega)
  rw [qay h0 h5 hb,qaB h0];refine ⟨⟨by omega,by omega,h2,by omega,?_⟩,by omega⟩;rw [qwV hc (by rw [<- h6,h7]),h4]
 ·rw [h4,qbC,qad,show ui.i.toNat = (Z 3).d.length by omega]
theorem qpF {h h':Hp} {v:Value} {t:List Ent} (hr:RdT h v t) (hl:Hp.le h h'):RdT h' v t:=by
 obtain ⟨d,h1,h2⟩:=hr; exact ⟨d,qnL h1 hl,h2⟩
theorem qzG {Z:Env} {r:Nat} {ty:TypeId} {pat:List CK} {d cap:T} {h:Hp} {n k:Nat} (hx:SH.den Z (.arr r ty pat d cap) h):atZ (.slice (qj (Z r).r 0) n k):=by
 intro a n c e;simp only [Value.slice.injEq] at e;rcases hx with ⟨h1,_⟩ | ⟨b,c,h1,_⟩
 ·rw [h1] at e; cases e.1
 ·rw [h1] at e
  obtain rfl:=(jat e.1).symm;rfl
theorem qfV:qbX.ok Try.prog:=qtB (by simp) fun Z hg hp=>by
 simp [qoL,qbX]
theorem qxu {d:List (List Value)} {i:Int} {x:Int} (h0:0 <= i) (h:i < (d.length:Int)):qf (qH d i 0 [.int .u64 x]) = (qf d).set i.toNat x:=by
 apply jbo;intro j;simp only [qf,qH,jau,ja4,jaz];by_cases hj:i.toNat = j
 ·subst hj
  have:i.toNat < d.length:=by omega
  simp [this,qba,qbO,qbK]
 ·simp [hj]
theorem ql9 {d:List (List Value)} {i:Int} {x y:Int} (h0:0 <= i) (h:i < (d.length:Int)):qb (qH d i 0 [.int .u64 x,.int .u8 y]) = qcl (qb d) i (x,y):=by
 apply jbo;intro j;rw [qy2 h0 h,qcl,ja4];by_cases hj:j = i.toNat
 ·subst hj; rw [jag rfl,jag rfl,jag (by rw [qad]; omega)]
 ·rw [jaf hj,jaf (fun h=>hj h.symm)]
theorem qqr:qgE.ok Try.prog:=qwC (by simp) fun Z hg hp=>by
 obtain ⟨h1,h2,h3,h4⟩:=hp;have hc:=qbH (d:=(Z 5).d) h3 (by omega);have ht:=ql9 (d:=(Z 5).d) (x:=(Z 19).i) (y:=(Z 20).i) h3 (by omega);simp [qsE,qgE,ht,qbP];refine ⟨h3,by omega,by omega,fun h5=>⟨fun h6=>⟨by omega,?_⟩,fun h6=>?_⟩,fun h5 h6=>?_⟩
 ·rw [qxu h3 (by omega),qb6,hc,jag ⟨fun e=>by rcases h5 with h5 | h5 <;> simp [h5] at e,h6⟩]
 ·rw [qb6,jaf (fun h=>h6 h.2)]
 ·rw [qb6,hc,h5,h6,jaf (fun h=>h.1 rfl)]
theorem qvj:qhL.ok Try.prog:=qv0 (by simp) fun Z hg hp=>by
 obtain ⟨h1,h2,h3,h4⟩:=hp;have hw:IntKind.i64.wrap ((Z 11).i + 1) = (Z 11).i + 1:=qQ (by omega) (by omega);have hlt:Int.tmod ((Z 11).i + 1) (Z 3).i < (Z 3).i:=jcg _ (by omega);have hge:0 <= Int.tmod ((Z 11).i + 1) (Z 3).i:=jcn _ (by omega);have hw2:IntKind.i64.wrap (Int.tmod ((Z 11).i + 1) (Z 3).i + 1) = Int.tmod ((Z 11).i + 1) (Z 3).i + 1:=qQ (by omega) (by omega);simp [qr4,qhL,qi,hw,hw2];refine ⟨by omega,by omega,fun h=>?_,fun h=>?_⟩
 ·rw [qaY,jag h]
 ·rw [qaY,jaf h]
theorem qqB {h:Hp} {ms:List Msg} {self:Int} {t:List Ent} {d:List (List Value)} (hd:qah d ms):qa6 h ms self t 0 d:=⟨[],rfl,by simpa [qgp,qah] using hd,by simp⟩
theorem qsT {A B:List (List Value)} {r:List Value} {i:Int} (h0:0 <= i) (hi:i.toNat = A.length) (c:Nat) (vs:List Value):qH (A ++ r :: B) i c vs = A ++ qba r c vs :: B:=by
 unfold qH;rw [hi,List.set_append_right _ _ (jbj _),jbd (jbj _)];simp
theorem qqh {h h':Hp} {ms:List Msg} {self:Int} {t:List Ent} {i:Int} {d:List (List Value)} {v:Value} (h0:0 <= i) (hi:i.toNat < ms.length) (hs:qa6 h ms self t i.toNat d) (hl:Hp.le h h') (hv:RdT h' v t) :
  qa6 h' ms self t (i.toNat + 1) (qH (qH d i 1 [.int .i64 self]) i 6 [v]):=by
 obtain ⟨vs,h1,h2,h3⟩:=hs;have hget:ms[i.toNat]? = some ms[i.toNat]:=jae hi;have hAl:(qgp ((ms.take i.toNat).map fun m=>{ m with src:=self }) vs).length = i.toNat:=by simp [qgp,h1]; omega
 refine ⟨vs ++ [v],by simp [h1],?_,fun x hx=>?_⟩
 ·rw [h2,jcb hi,jaq,qsT h0 hAl.symm,qsT h0 hAl.symm,qbU hget]
  simp only [qgp,jcl];rw [List.zipWith_append (by simp [h1]; omega)];simp only [jbv,jaq,jbl,List.zipWith_cons_cons,List.zipWith_nil_left,jdo,jco];rfl
 ·rcases jax.1 hx with hx | hx
  ·exact qpF (h3 x hx) hl
  ·simp only [jak] at hx; subst hx; exact hv
theorem qil:qcK.ok Try.prog:=quF (by simp [qlW]) fun Z hg hp=>by
 obtain ⟨⟨h1,h2,h3,h4,h5,h6,h7⟩,h8,h9,hms⟩:=hp;obtain ⟨ms0,hms0⟩:=hms;have hml:ms0.length = (Z 21).d.length:=by rw [hms0]; simp
 simp [qot,qcK,qeo,qpS,qi];refine ⟨by omega,fun u0 _ _=>⟨⟨by omega,fun ms hm=>qqB hm⟩,fun ui _ ud _ ut _ g0 g1 g2 g3=>⟨fun g4=>⟨⟨h1,by omega,?_⟩,fun ur _ uc _ uD _ g5=>⟨g0,by omega,fun uh _ g6=>?_⟩⟩,fun g4 ms hm=>?_⟩⟩⟩
 ·unfold big; omega
 ·rw [qay g0 g4 h9,qaB g0]
  refine ⟨⟨by omega,by omega,by rw [qbP,qbP]; exact g2,fun ms hm=>?_⟩,by omega⟩;obtain ⟨ha,la,da⟩:=qel g6 (jac ..);obtain ⟨hb,lb,db⟩:=qel g6 (jab _ (jac ..));have hl:Hp.le ut.h uh.h:=by
   have:Hp.le ut.h hb:=by simpa using db.1
   exact Hp.le_trans this lb
  have hr:=qvC (n:=(Z 3).i.toNat) (k:=uc.i.toNat) da la (by simp [g5]; omega) (by simp);have hr:Rd uh.h qan (.slice (qj ur.r 0) (Z 3).i.toNat uc.i.toNat) uD.d:=by simpa [qan] using hr
  have hmlen:ms.length = (Z 21).d.length:=by rw [hm]; simp
  exact qqh g0 (by omega) (g3 ms hm) hl ⟨_,hr,by rw [g5],qzG da⟩
 ·have hmlen:ms.length = (Z 21).d.length:=by rw [hm]; simp
  have:=g3 ms hm
  rwa [show ui.i.toNat = ms.length by omega] at this
theorem qnd {α:Type} (p:α->Bool) (l:List α):qdm p l 0 = true:=by simp [qdm]
theorem qng {α:Type} {p:α->Bool} {l:List α} {n:Nat} {x:α} (h:l[n]? = some x) (h':qdm p l n = true) (hx:p x = false):qdm p l (n + 1) = true:=by
 unfold qdm at *; rw [qbU h,jeq,h']; simp [hx]
theorem qom {α:Type} {p:α->Bool} {l:List α} {n:Nat} (h:l.length <= n) (h':qdm p l n = true):qdm p l l.length = true:=by
 unfold qdm at *; rw [ja0 h] at h'; rwa [ja0 (jbj _)]
theorem qgF {α:Type} {p:α->Bool} {l:List α} {n:Nat} (h:qdm p l n = true):(l.take n).filter (fun x=>!p x) = l.take n:=by
 rw [jdt]; unfold qdm at h; exact jao.1 h
theorem qqX:qgq.ok Try.prog:=qxm (by simp) fun Z hg hp=>by
 simp [qsM,qgq,qnO];refine ⟨fun h=>.inl h,fun h=>?_⟩;rw [show ((Z 24).i == (Z 1).i) = false by simpa using h]; simp [qS]
theorem quE:qgH.ok Try.prog:=qtr (by simp [qqX]) fun Z hg hp=>by
 obtain ⟨hl,hb⟩:=hp;simp [qoR,qgH,qq5,qgq,qi,qnd];refine ⟨by omega,fun u _ h0 h1 h2=>⟨fun h3=>⟨h0,by omega,fun u1 _ h4=>⟨fun h5=>?_,fun h5=>⟨?_,?_⟩⟩⟩,fun h3=>.inl ⟨rfl,qom (by rw [qV]; omega) h2⟩⟩⟩
 ·exact .inr ⟨h0,by rw [qV]; omega,h2,by rw [qcm h0 (by omega)]; simp [<- h4,h5]⟩
 ·rw [qay h0 h3 hb,qaB h0]
  exact ⟨by omega,by omega,qng (qcm h0 (by omega)) h2 (by rw [<- h4,h5])⟩
 ·rw [qay h0 h3 hb]; omega
theorem qmB {α:Type} {p:α->Bool} {l:List α} {i:Int} (h:qwz p l i) (hi:¬ i = -1):qfO p l l i (i + 1):=by
 rcases h with ⟨h,_⟩ | ⟨h0,h1,h2,h3⟩
 ·exact absurd h hi
 ·obtain ⟨x,hx,hpx⟩:=jah.1 h3
  refine ⟨h0,by omega,by omega,rfl,?_,rfl⟩;rw [qaB h0,qbU hx,jch,qgF h2];simp [hpx]
theorem qo1 {α:Type} {p:α->Bool} {orig cur:List α} {i j:Int} (h:qfO p orig cur i j) (hj:j < orig.length):orig[j.toNat]? = cur[j.toNat]?:=by
 obtain ⟨h0,h1,h2,h3,h4,h5⟩:=h;have:=congrArg (fun l=>l[0]?) h5;simpa [jbf] using this.symm
theorem qnk {α:Type} {p:α->Bool} {orig cur:List α} {i j:Int} {x:α} (h:qfO p orig cur i j) (hj:j < orig.length) (hx:cur[j.toNat]? = some x) (hp:p x = false):qfO p orig (cur.set i.toNat x) (i + 1) (j + 1):=by
 have ho:=qo1 h hj;obtain ⟨h0,h1,h2,h3,h4,h5⟩:=h;rw [hx] at ho;refine ⟨by omega,by omega,by omega,by simpa using h3,?_,?_⟩
 ·rw [qaB h0,qaB (show 0 <= j by omega),qbU ho,jch,<- h4]
  have hlt:i.toNat < cur.length:=by omega
  rw [qbU (x:=x) (by simp [hlt]),List.take_set_of_le (by omega)];simp [hp]
 ·rw [qaB (show 0 <= j by omega),List.drop_set_of_lt (by omega)]
  have:=congrArg (List.drop 1) h5;simpa [jdk,jdl] using this
theorem qnq {α:Type} {p:α->Bool} {orig cur:List α} {i j:Int} {x:α} (h:qfO p orig cur i j) (hj:j < orig.length) (hx:cur[j.toNat]? = some x) (hp:p x = true):qfO p orig cur i (j + 1):=by
 have ho:=qo1 h hj;obtain ⟨h0,h1,h2,h3,h4,h5⟩:=h;rw [hx] at ho;refine ⟨h0,by omega,by omega,h3,?_,?_⟩
 ·rw [qaB (show 0 <= j by omega),qbU ho,jch,<- h4]; simp [hp]
 ·rw [qaB (show 0 <= j by omega)]
  have:=congrArg (List.drop 1) h5;simpa [jdk,jdl] using this
theorem qmp {α:Type} {p:α->Bool} {orig cur:List α} {i j:Int} (h:qfO p orig cur i j) (hj:orig.length <= j):cur.take i.toNat = orig.filter (fun x=>!p x):=by
 obtain ⟨h0,h1,h2,h3,h4,h5⟩:=h;rw [h4,ja0 (by omega)]
theorem qxo {d:List (List Value)} {i:Int} {x:Int} (h0:0 <= i) (h:i < (d.length:Int)):qf (qH d i 0 [.int .i64 x]) = (qf d).set i.toNat x:=by
 apply jbo;intro j;simp only [qf,qH,jau,ja4,jaz];by_cases hj:i.toNat = j
 ·subst hj
  have:i.toNat < d.length:=by omega
  simp [this,qba,qbO,qbK]
 ·simp [hj]
theorem qv2 (d:List (List Value)) (n:Nat):qf (d.take n) = (qf d).take n:=by simp [qf,jcz]
theorem qbB {x:Int} (h1:0 <= x) (h2:x < 18446744073709551616):IntKind.u64.wrap x = x:=by
 simp [IntKind.wrap,IntKind.signed,IntKind.bits]; omega
theorem qsb:qfF.ok Try.prog:=qsp (by simp [quE,qqX]) fun Z hg hp=>by
 obtain ⟨hl,hb,hcap⟩:=hp;simp [qmn,qfF,qoy,qgH,qgq,qi];refine ⟨⟨hl,hb⟩,fun u _ hu=>⟨fun h1=>?_,fun h1=>?_⟩⟩
 ·refine ⟨by omega,by omega,?_⟩
  rcases hu with ⟨_,h2⟩ | ⟨h2,_⟩
  ·rw [ja0 (by rw [qV]; omega)]
   have:=qgF h2;rw [ja0 (jbj _)] at this;exact this.symm
  ·omega
 ·have h0:0 <= u.i/\u.i < (Z 29).i:=by
   rcases hu with ⟨h2,_⟩ | ⟨h2,h3,_⟩
   ·exact absurd h2 h1
   ·rw [qV] at h3; omega
  refine ⟨by rw [qay h0.1 h0.2 hb]; exact qmB hu h1,fun ui _ uj _ ud _ g=>⟨by omega,fun g1=>?_,fun g1=>?_⟩⟩
  ·have hg':=g
   obtain ⟨k0,k1,k2,k3,k4,k5⟩:=g;rw [qV,qV] at k3;have hc:=qcm (d:=ud.d) (i:=uj.i) (by omega) (by omega);rw [qay (n:=(Z 29).i) (show 0 <= uj.i by omega) g1 hb];refine ⟨by omega,by omega,fun u3 _ h3=>⟨fun h4=>⟨by omega,by omega,by omega,?_,by omega⟩,fun h4=>⟨?_,by omega⟩⟩⟩
   ·rw [qay (n:=(Z 29).i) (show 0 <= ui.i by omega) (by omega) hb,qxo (by omega) (by omega)]
    exact qnk hg' (by rw [qV]; omega) hc (by rw [<- h3,h4])
   ·exact qnq hg' (by rw [qV]; omega) hc (by rw [<- h3,h4])
  ·have hg':=g
   obtain ⟨k0,k1,k2,k3,k4,k5⟩:=g;rw [qV,qV] at k3;rw [qV] at k2;intro hkn;have hd:=qmp hg' (by rw [qV]; omega);have hmin:(if (Z 29).i - ui.i = 0 then (ud.d.length:Int) else if (Z 30).i = ui.i then 0 else ui.i).toNat = if (Z 29).i - ui.i = 0 then ud.d.length else ui.i.toNat:=by
    split
    ·simp
    ·rw [jaf (by omega)]
   simp only [hmin];refine ⟨by omega,by omega,by omega,by omega,?_,by omega,?_,fun hk2=>⟨by omega,by omega,?_,by omega,?_⟩⟩
   ·split <;> omega
   ·split <;> omega
   ·split <;> omega
   ·rw [qv2,jew,<- hd]
    congr 1
    split <;> omega
theorem qhg (l:List Ent) (n:Nat):(qbj l n).length <= n:=by
 simp only [qbj,jaz];exact jdm (jc6 _ _) (by simp)
theorem qvy (t:List Ent) (self target:Int):(qdl t self target).length <= t.length :=
 jdm (jc6 _ _) (qhg t t.length)
theorem qvu (c:List Int) (seq target draw:Int) (n:Nat):qjs c seq target draw (n + 1) = qjs c seq target draw n ++ [qks c seq target draw n]:=by
 simp [qjs,jc7]
theorem qiK {d:List (List Value)} {ms:List Msg} {m:Msg} (h:qah d ms):qah (d ++ [qgG m]) (ms ++ [m]):=by
 unfold qah at *; rw [h]; simp
set_option maxRecDepth 20000 in
theorem qwN:qjd.ok Try.prog:=qxf (by simp [qjW,qsb]) fun Z hg hp=>by
 obtain ⟨⟨h1,h2,h3,h4,h5,h6,h7⟩,h8,h9⟩:=hp;have hcl:=qvy (qb (Z 5).d) (Z 1).i (Z 19).i;rw [qad] at hcl;have hb:(Z 3).i <= big:=by unfold big; omega
 simp [qsR,qjd,qdA,qfF,qv7,qi];refine ⟨⟨h1,hb⟩,fun ul _ uk _ g1 g2 g3=>⟨⟨g2,by omega⟩,fun un _ ud _ k1 k2 k3 k4=>⟨k1,?_,fun ui _ vn _ vl _ vd _ vr _ q0 q1 q2 q3 q4 q5 q6 q7=>⟨fun q8=>?_,fun q8=>?_⟩⟩⟩⟩
 ·have hc:(qf ud.d).take un.i.toNat = qdl (qb (Z 5).d) (Z 1).i (Z 19).i:=by rw [k4,g1]; rfl
  have hlen:=congrArg List.length hc;rw [jbc,qV] at hlen;exact ⟨by omega,hc,k2,by simp [qah,qjs]⟩
 ·have hn:vn.i <= 16:=by omega
  have q8a:ui.i < vn.i:=by split at q8 <;> omega
  have q8b:ui.i < 2:=by split at q8 <;> omega
  have hw1:IntKind.u64.wrap vn.i = vn.i:=qbB (by omega) (by omega);have t1:Int.tmod (Z 22).i vn.i < vn.i:=jcg _ (by omega);have t0:0 <= Int.tmod (Z 22).i vn.i:=jcn _ h8;have hw2:IntKind.i64.wrap (Int.tmod (Z 22).i vn.i) = Int.tmod (Z 22).i vn.i:=qQ (by omega) (by omega);have hw3:IntKind.i64.wrap (Int.tmod (Z 22).i vn.i + ui.i) = Int.tmod (Z 22).i vn.i + ui.i:=qQ (by omega) (by omega);have hw4:IntKind.i64.wrap (ui.i + 1) = ui.i + 1:=qQ (by omega) (by omega);rw [hw1,hw2,hw3,hw4];have s1:Int.tmod (Int.tmod (Z 22).i vn.i + ui.i) vn.i < vn.i:=jcg _ (by omega);have s0:0 <= Int.tmod (Int.tmod (Z 22).i vn.i + ui.i) vn.i:=jcn _ (by omega);have hcell:=qcm (d:=vd.d) s0 (by omega);have hget:(qdl (qb (Z 5).d) (Z 1).i (Z 19).i)[(Int.tmod (Int.tmod (Z 22).i vn.i + ui.i) vn.i).toNat]? = some (qc vd.d (Int.tmod (Int.tmod (Z 22).i vn.i + ui.i) vn.i) 0):=by
   rw [<- q3,jbe,jag (by omega)]; exact hcell
  have hm:qks (qdl (qb (Z 5).d) (Z 1).i (Z 19).i) (Z 18).i (Z 19).i (Z 22).i ui.i.toNat = ⟨3,0,qc vd.d (Int.tmod (Int.tmod (Z 22).i vn.i + ui.i) vn.i) 0,(Z 18).i,0,(Z 19).i⟩:=by
   unfold qks;rw [<- q2,jb9 q0,jai,hget]; rfl
  have key:=qiK (m:=qks (qdl (qb (Z 5).d) (Z 1).i (Z 19).i) (Z 18).i (Z 19).i (Z 22).i ui.i.toNat) q7;rw [<- qvu,hm,<- qaB q0] at key;exact ⟨by omega,by omega,by omega,s0,s1,by omega,q5,by omega,⟨by omega,by omega,q2,q3,q4,by omega,by omega,key⟩,by omega⟩
 ·refine ⟨q5,?_⟩
  have:ui.i.toNat = min 2 (qdl (qb (Z 5).d) (Z 1).i (Z 19).i).length:=by split at q8 <;> omega
  rw [this] at q7;exact q7
theorem ql3 (d:List (List Value)):(qM d).length = d.length:=by simp [qM]
theorem qmL {d:List (List Value)} {i:Int} (h0:0 <= i) (h:i < (d.length:Int)):(qM d)[i.toNat]? = some ⟨qc d i 0,qc d i 1,qc d i 2,qcc d i 3⟩:=by
 have hl:i.toNat < d.length:=by omega
 simp [qM,quP,jau,jae hl,qc,qcc,qU,qbO,qq9]
theorem qqE {d:List (List Value)} {i a b c:Int} {e:Bool} (h0:0 <= i) (h:i < (d.length:Int)):qM (qH d i 0 [.int .u64 a,.int .i64 b,.int .u64 c,.bool e]) = (qM d).set i.toNat ⟨a,b,c,e⟩:=by
 apply jbo;intro j;simp only [qM,qH,jau,ja4,jaz];by_cases hj:i.toNat = j
 ·subst hj
  have:i.toNat < d.length:=by omega
  simp [this,qba,quP,qbO,qq9,qbK,qig]
 ·simp [hj]
theorem qqQ {d:List (List Value)} {i y:Int} (h0:0 <= i) (h:i < (d.length:Int)) (hz:qc d i 1 ≠ 0):qb (qH d i 1 [.int .u8 y]) = (qb d).set i.toNat (qc d i 0,y):=by
 apply jbo;intro j;have hl:i.toNat < d.length:=by omega
 simp only [qb,qH,jau,ja4,jaz];by_cases hj:i.toNat = j
 ·subst hj
  simp only [jag hl,ja5,ja9,jaa];have hz:qbK ((d[i.toNat])[1]?.getD .nilFunc) ≠ 0:=by simpa [qc,qU,jae hl] using hz
  simp only [qc,qU,jae hl,jbi];generalize d[i.toNat] = r at hz
  match r,hz with
  | [],hz=>simp [qbK] at hz
  | [a],hz=>simp [qbK] at hz
  | a :: b :: r,_=>simp [qbO,qba,qbK]
 ·simp [hj]
theorem qif {d:List (List Value)} {i:Int} (h0:0 <= i) (h:i < (d.length:Int)):qaO (qb d) i = (qc d i 0,qc d i 1):=by
 simp [qaO,jai,qbH h0 h]
theorem qkQ {self clock draw:Int} {tab:List Ent} {since:List Int} {P:List Prb} {i:Nat} {p:Prb} (h:P[i]? = some p) :
  qbW self clock draw tab since (P.take (i + 1)) = qaN self clock draw (qbW self clock draw tab since (P.take i)) p:=by
 rw [qbU h]; simp [qbW]
def TI (self clock draw:Int) (tab:List Ent) (since:List Int) (P:List Prb) (i k:Int) (dT dS dK dM:List (List Value)):Prop :=
 qbW self clock draw tab since (P.take i.toNat) = ⟨qb dT,qf dS,(qM dK).take k.toNat,(qbW self clock draw tab since (P.take i.toNat)).msgs⟩/\qah dM (qbW self clock draw tab since (P.take i.toNat)).msgs/\(qM dK).drop i.toNat = P.drop i.toNat
theorem qv8 {d e:List (List Value)} {ms ns:List Msg} (h:qah d ms) (h':qah e ns):qah (d ++ e) (ms ++ ns):=by
 unfold qah at *; rw [h,h']; simp
theorem qpK {self clock draw:Int} {tab:List Ent} {since:List Int} {P:List Prb} {i k:Int} {dT dS dK dM:List (List Value)} (h:TI self clock draw tab since P i k dT dS dK dM) (h0:0 <= i) (hi:i < dK.length) :
  P[i.toNat]? = some ⟨qc dK i 0,qc dK i 1,qc dK i 2,qcc dK i 3⟩:=by
 have:=congrArg (fun l=>l[0]?) h.2.2;simp only [jbf,jcq] at this;rw [<- this,qmL h0 hi]
theorem qnM {self clock draw:Int} {tab:List Ent} {since:List Int} {P:List Prb} {i k a b c:Int} {e:Bool} {dT dS dK dM dN:List (List Value)} {ns:List Msg}
  (h:TI self clock draw tab since P i k dT dS dK dM) (h0:0 <= k) (hk:k <= i) (hi:i < dK.length) (hn:qah dN ns)
  (hp:∀ st:TS,st.tab = qb dT->qaN self clock draw st ⟨qc dK i 0,qc dK i 1,qc dK i 2,qcc dK i 3⟩ = { st with kept:=st.kept ++ [⟨a,b,c,e⟩],msgs:=st.msgs ++ ns }) :
  TI self clock draw tab since P (i + 1) (k + 1) dT dS (qH dK k 0 [.int .u64 a,.int .i64 b,.int .u64 c,.bool e]) (dM ++ dN):=by
 have hg:=qpK h (by omega) hi;obtain ⟨h1,h2,h3⟩:=h;have hst:=qkQ (self:=self) (clock:=clock) (draw:=draw) (tab:=tab) (since:=since) hg;rw [hp _ (by rw [h1])] at hst;have hlt:k.toNat < (qM dK).length:=by rw [ql3]; omega
 unfold TI;rw [qaB (show 0 <= i by omega),qaB h0,hst,qqE h0 (by omega)];refine ⟨?_,qv8 h2 hn,?_⟩
 ·rw [qbU (x:=(⟨a,b,c,e⟩:Prb)) (by simp [hlt]),List.take_set_of_le (by omega)]
  conv=>lhs; rw [h1]
 ·rw [List.drop_set_of_lt (by omega)]
  have:=congrArg (List.drop 1) h3;simpa [jdk,jdl] using this
theorem qta {self clock draw:Int} {tab:List Ent} {since:List Int} {P:List Prb} {i k:Int} {dT dS dK dM dT' dS':List (List Value)}
  (h:TI self clock draw tab since P i k dT dS dK dM) (h0:0 <= i) (hi:i < dK.length)
  (hp:∀ st:TS,st.tab = qb dT->st.since = qf dS->qaN self clock draw st ⟨qc dK i 0,qc dK i 1,qc dK i 2,qcc dK i 3⟩ = { st with tab:=qb dT',since:=qf dS' }) :
  TI self clock draw tab since P (i + 1) k dT' dS' dK dM:=by
 have hg:=qpK h (by omega) hi;obtain ⟨h1,h2,h3⟩:=h;have hst:=qkQ (self:=self) (clock:=clock) (draw:=draw) (tab:=tab) (since:=since) hg;rw [hp _ (by rw [h1]) (by rw [h1])] at hst;unfold TI;rw [qaB h0,hst];refine ⟨?_,h2,?_⟩
 ·conv=>lhs; rw [h1]
 ·have:=congrArg (List.drop 1) h3
  simpa [jdk,jdl] using this
theorem qrk (t:List Ent) (self seq target draw:Int):(qgo t self seq target draw).length <= 2:=by
 simp only [qgo,qjs,jaz,List.length_range]; omega
def DI (T U:List Ent) (d:List (List Value)) (i:Int):Prop:=∀ j:Nat,(qb d)[j]? = if (j:Int) < i then U[j]? else T[j]?
theorem qyf {T U:List Ent} {d:List (List Value)} (h:qb d = T):DI T U d 0:=fun j=>by rw [jaf (by omega),h]
theorem qzz {T U:List Ent} {d:List (List Value)} {i:Int} (h:DI T U d i) (hT:(T.length:Int) <= i) (hU:(U.length:Int) <= i):qb d = U:=by
 apply jbo;intro j;rw [h j];split
 ·rfl
 ·rw [jap (by omega),jap (by omega)]
theorem qn1 {T U:List Ent} {d:List (List Value)} {i:Int} (h:DI T U d i) (h0:0 <= i) (hx:U[i.toNat]? = (qb d)[i.toNat]?):DI T U d (i + 1):=fun j=>by
 by_cases hj:(j:Int) = i
 ·subst hj
  rw [jag (by omega)]; simpa using hx.symm
 ·rw [h j]
  by_cases hj2:(j:Int) < i
  ·rw [jag hj2,jag (by omega)]
  ·rw [jaf hj2,jaf (by omega)]
theorem qze {T U:List Ent} {d:List (List Value)} {i y:Int} (h:DI T U d i) (h0:0 <= i) (hi:i < d.length) (hz:qc d i 1 ≠ 0) (hx:U[i.toNat]? = some (qc d i 0,y)):DI T U (qH d i 1 [.int .u8 y]) (i + 1):=fun j=>by
 rw [qqQ h0 hi hz,ja4];by_cases hj:i.toNat = j
 ·subst hj
  rw [jag rfl,jag (by rw [qad]; omega),jag (by omega),hx]
 ·rw [jaf hj,h j]
  by_cases hj2:(j:Int) < i
  ·rw [jag hj2,jag (by omega)]
  ·rw [jaf hj2,jaf (by omega)]
theorem qzu {T U:List Ent} {d:List (List Value)} {i:Int} (h:DI T U d i) (h0:0 <= i) (hi:i < d.length):T[i.toNat]? = some (qc d i 0,qc d i 1):=by
 have:=h i.toNat;rw [jaf (by omega),qbH h0 hi] at this;exact this.symm
theorem qly {self clock wait:Int} {since:List Int} {t:List Ent} {i:Nat} {x:Ent} (h:t[i]? = some x):(qeb self clock wait since t)[i]? = some (qgN self clock wait since i x):=by
 simp [qeb,jdc,h]
theorem qlM {self clock wait:Int} {since:List Int} {t:List Ent}:(qeb self clock wait since t).length = t.length:=by simp [qeb]
theorem qfm {n self pinged:Int} (h2:2 <= n) (h:n <= 16) (h0:0 <= pinged):0 <= qaY n self pinged/\qaY n self pinged < n:=by
 have a1:Int.tmod (pinged + 1) n < n:=jcg _ (by omega);have a0:0 <= Int.tmod (pinged + 1) n:=jcn _ (by omega);have b1:Int.tmod (Int.tmod (pinged + 1) n + 1) n < n:=jcg _ (by omega);have b0:0 <= Int.tmod (Int.tmod (pinged + 1) n + 1) n:=jcn _ (by omega);unfold qaY; split <;> omega
theorem qoD {d:List (List Value)} {ms:List Msg} (h:qah d ms):d.length = ms.length:=by rw [h]; simp
theorem qbR {h:Hp} {ms:List Msg} {self:Int} {t:List Ent} {d:List (List Value)} {i:Nat} (hs:qa6 h ms self t i d):d.length = min i ms.length + (ms.length - i):=by
 obtain ⟨vs,h1,h2,_⟩:=hs;rw [h2]; simp [qgp,h1]
theorem qeG {h h':Hp} {ms:List Msg} {self:Int} {t:List Ent} {d:List (List Value)} {i:Nat} (hs:qa6 h ms self t i d) (hl:Hp.le h h'):qa6 h' ms self t i d:=by
 obtain ⟨vs,h1,h2,h3⟩:=hs;exact ⟨vs,h1,h2,fun v hv=>qpF (h3 v hv) hl⟩
@[simp] def qiR:Sg:=sg 0 [bv 17 17,bv 16 16,bt 12 (.vslice 12 (tl 0) (tv 13) (tv 14) 4),bv 11 11,bv 10 10,bv 9 9,bv 7 7,bg 6 6,bv 4 4,bv 3 3,bg 2 2,bv 1 1,bg 0 0]
@[simp] def qm2:Sg:=sg 0 [bv 17 17,bv 16 16,bt 12 (.vslice 12 (tl 0) (tv 13) (tv 14) 4),bv 11 11,bv 10 10,bv 9 40,bv 7 7,bg 6 6,bv 4 4,bv 3 3,bg 2 2,bv 1 1,bg 0 0]
@[simp] def qiJ:Out:=.back 1 30 (sg 1000 [bv 1008 38,bv 1004 34,bv 1003 33,bv 1001 31,bv 1010 40,bt 1000 (.arith .add .i64 (tv 30) (tl 1)),bv 1009 39,bv 1002 32,bv 1007 37,bv 1006 36,bg 1005 35])
@[simp] def qmf:Sg:=sg 0 [bv 8 23,bv 5 22,bv 17 17,bv 16 16,bt 12 (.vslice 12 (tl 0) (tv 13) (tv 14) 4),bv 11 11,bv 10 10,bv 9 28,bv 7 7,bg 6 6,bv 4 4,bv 3 3,bg 2 2,bv 1 1,bt 20 (tl 2),bt 19 (.icell (tv 22) (.icell (tv 21) (tv 19) 1) 0),bt 18 (.icell (tv 21) (tv 19) 1),bg 0 0]
@[simp] def qlP:Sg:=sg 0 [bv 5 22,bv 17 17,bv 16 16,bt 12 (.vslice 12 (tl 0) (tv 13) (tv 14) 4),bv 11 11,bv 10 10,bv 9 28,bv 7 7,bg 6 6,bv 4 4,bv 3 3,bg 2 2,bv 1 1,bv 22 18,bt 21 (.bl true),bt 20 (.icell (tv 21) (tv 19) 2),bt 19 (.icell (tv 21) (tv 19) 1),bt 18 (.icell (tv 21) (tv 19) 0),bg 0 0]
@[simp] def qlN:Out:=.fresh 30 (.know (.cmp .leq (.dlen (tv 21)) (tv 14)) (tn (.plus (tv 20) (tl 1)) (tv 14) (tn (tl 0) (tv 20) (ts (tv 20) (.dlen (tv 21)) (.fresh 31 (.back 0 19 (sg 1000 [bv 1008 27,bt 1002 (.dput (tv 21) (tv 20) 0 (.rcons (.vint .u64 (.icell (tv 21) (tv 19) 0)) (.rcons (ti (.icell (tv 21) (tv 19) 1)) (.rcons (.vint .u64 (.icell (tv 21) (tv 19) 2)) (.rcons (.vbool (.bcell (tv 21) (tv 19) 3)) .rnil))))),bv 1004 23,bv 1003 22,bv 1009 28,bt 1000 (.arith .add .i64 (tv 19) (tl 1)),bt 1001 (.plus (tv 20) (tl 1)),bv 1007 26,bv 1006 25,bg 1005 24])))))))
@[simp] def qnh:Sg:=sg 0 [bv 5 31,bv 17 17,bv 16 16,bt 12 (.vslice 43 (tl 0) (.plus (tv 32) (tl 1)) (tv 44) 4),bv 11 41,bt 10 (.arith .add .u64 (tv 10) (tl 1)),bv 9 40,bv 7 7,bg 6 6,bv 4 4,bv 3 3,bg 2 2,bv 1 1,bt 21 (.dapp (tv 38) (.rcons (tu (tl 1)) (.rcons (ti (tl 0)) (.rcons (ti (tv 41)) (.rcons (.vint .u64 (.arith .add .u64 (tv 10) (tl 1))) (.rcons (ti (tv 1)) (.rcons (ti (tl 0)) (.rcons .vnils (.rcons .vnils (.rcons .vnils (.rcons (ti (tl 0)) (rr 32 (tu (tl 0)) (.rcons .vnils (.rcons (.vbool (.bl false)) (rr 32 (tu (tl 0)) (rr 4 (ti (tl 0)) (rr 32 (tu (tl 0)) (.rcons .vnils (.rcons (ti (tl 0)) (.rcons .vnils (.rcons (ti (tl 0)) .rnil))))))))))))))))))))),bv 20 47,bt 19 (.plus (tv 36) (tl 1)),bg 18 46,bg 0 0]
def qqM:Out:=(.pre 0 qiR (.both (.post 0 0 qiR 19 (.ret 0 (sg 19 []))) (tb (.post 0 1 qiR 19 (.know (.cmp .leq (.dlen (tv 15)) (tv 14)) (tn (tl 0) (tv 13) (tn (tl 0) (tv 14) (.inv 0 19 (sg 1000 [bt 1008 .dnil,bv 1002 15,bv 1004 8,bv 1003 5,bt 1009 (.arith .add .u64 (tv 9) (tl 1)),bt 1000 (tl 0),bt 1001 (tl 0),bt 1007 (tl 0),bt 1006 (tl 0),(1005,.nil)]) (fr 19 10 (.hyp 0 19 (.br (.cmp .lss (tv 19) (tv 13))
 (tn (tl 0) (tv 19) (ts (tv 19) (.dlen (tv 21)) (.fresh 29 (.br (.cmp .geq (.arith .sub .u64 (tv 28) (.icell (tv 21) (tv 19) 2)) (tl 10))
 (tn (tl 0) (.icell (tv 21) (tv 19) 1) (ts (.icell (tv 21) (tv 19) 1) (tv 3) (ts (.icell (tv 21) (tv 19) 1) (.dlen (tv 22)) (tb (.fresh 30 (tb (.br (.cmp .eql (.icell (tv 22) (.icell (tv 21) (tv 19) 1) 1) (tl 1))
 (.pre 1 qmf (tb (fr 31 2 (.post 1 0 qmf 31 (.back 0 19 (sg 1000 [bv 1008 27,bv 1002 21,bv 1004 32,bv 1003 31,bv 1009 28,bt 1000 (.arith .add .i64 (tv 19) (tl 1)),bv 1001 20,bv 1007 26,bv 1006 25,bg 1005 24]))))))
 (.back 0 19 (sg 1000 [bv 1008 27,bv 1002 21,bv 1004 23,bv 1003 22,bv 1009 28,bt 1000 (.arith .add .i64 (tv 19) (tl 1)),bv 1001 20,bv 1007 26,bv 1006 25,bg 1005 24])))))))))
 (.br (.cmp .geq (.arith .sub .u64 (tv 28) (.icell (tv 21) (tv 19) 2)) (tl 4))
 (.br (.not (.bcell (tv 21) (tv 19) 3))
 (.pre 2 qlP (tb (fr 30 4 (.post 2 0 qlP 30 (.need (.cmp .eql (tv 25) (.dlen (tv 27))) (tn (tl 0) (tv 33) (tn (tv 33) (.dlen (tv 32)) (tn (.tims (tl 352) (.plus (tv 25) (tv 33))) (tl 140737488355328) (fr 34 3 (.know (.cmp .leq (.dlen (tv 21)) (tv 14)) (tn (.plus (tv 20) (tl 1)) (tv 14) (tn (tl 0) (tv 20) (ts (tv 20) (.dlen (tv 21)) (.fresh 37 (.back 0 19 (sg 1000 [bt 1008 (.dapp (tv 27) (.dtake (tv 32) (tv 33))),bt 1002 (.dput (tv 21) (tv 20) 0 (.rcons (.vint .u64 (.icell (tv 21) (tv 19) 0)) (.rcons (ti (.icell (tv 21) (tv 19) 1)) (.rcons (.vint .u64 (.icell (tv 21) (tv 19) 2)) (.rcons (.vbool (.bl true)) .rnil))))),bv 1004 23,bv 1003 22,bv 1009 28,bt 1000 (.arith .add .i64 (tv 19) (tl 1)),bt 1001 (.plus (tv 20) (tl 1)),bv 1007 35,bt 1006 (.plus (tv 25) (tv 33)),bg 1005 34]))))))))))))))))
 qlN)
 qlN)))))
 (tn (tl 0) (tv 3) (.pre 3 (sg 0 [bv 0 3]) (tb (.fresh 29 (.post 3 0 (sg 0 [bv 0 3]) 29 (.inv 1 30 (sg 1000 [bv 1008 27,bv 1004 21,bv 1003 23,bv 1001 22,bv 1010 28,bt 1000 (tl 0),bt 1009 (.conv .u64 (tv 29)),bv 1002 20,bv 1007 26,bv 1006 25,bg 1005 24]) (fr 30 11 (.hyp 1 30 (.br (.cmp .lss (tv 30) (tv 3))
 (tn (tl 0) (tv 30) (ts (tv 30) (.dlen (tv 31)) (.fresh 41 (.br (.cmp .neq (tv 30) (tv 1))
 (.br (.cmp .eql (.icell (tv 31) (tv 30) 1) (tl 2))
 (ts (tv 30) (.dlen (tv 33)) (.br (.cmp .geq (.arith .sub .u64 (tv 40) (.icell (tv 33) (tv 30) 0)) (tv 39))
 (.back 1 30 (sg 1000 [bv 1008 38,bv 1004 34,bv 1003 33,bt 1001 (.dput (tv 31) (tv 30) 1 (.rcons (tu (tl 3)) .rnil)),bv 1010 40,bt 1000 (.arith .add .i64 (tv 30) (tl 1)),bv 1009 39,bv 1002 32,bv 1007 37,bv 1006 36,bg 1005 35]))
 qiJ))
 qiJ)
 qiJ))))
 (.pre 4 qm2 (tb (.fresh 41 (.post 4 0 qm2 41 (tb (.fresh 42 (tb (.need (.cmp .eql (tv 32) (.dlen (.dtake (tv 34) (tv 32)))) (tn (.tims (tl 32) (.plus (tv 32) (tl 1))) (tl 140737488355328) (fr 43 2 (tb (tb (tb (tb (.fresh 45 (tb (.need (.cmp .eql (tv 36) (.dlen (tv 38))) (tn (.tims (tl 352) (.plus (tv 36) (tl 1))) (tl 140737488355328) (fr 46 2 (tb (.pre 5 qnh (tb (fr 48 2 (.post 5 0 qnh 48 (.pack [.abs 49 2,.cells 45 43 [(tu (tl 1)),(ti (tl 0)),(ti (tv 41)),(.vint .u64 (.arith .add .u64 (tv 10) (tl 1))),(ti (tv 1)),(ti (tl 0)),.vnils,.vnils,.vnils,(ti (tl 0)),(tu (tl 0)),(tu (tl 0)),(tu (tl 0)),(tu (tl 0)),(tu (tl 0)),(tu (tl 0)),(tu (tl 0)),(tu (tl 0)),(tu (tl 0)),(tu (tl 0)),(tu (tl 0)),(tu (tl 0)),(tu (tl 0)),(tu (tl 0)),(tu (tl 0)),(tu (tl 0)),(tu (tl 0)),(tu (tl 0)),(tu (tl 0)),(tu (tl 0)),(tu (tl 0)),(tu (tl 0)),(tu (tl 0)),(tu (tl 0)),(tu (tl 0)),(tu (tl 0)),(tu (tl 0)),(tu (tl 0)),(tu (tl 0)),(tu (tl 0)),(tu (tl 0)),(tu (tl 0)),.vnils,(.vbool (.bl false)),(tu (tl 0)),(tu (tl 0)),(tu (tl 0)),(tu (tl 0)),(tu (tl 0)),(tu (tl 0)),(tu (tl 0)),(tu (tl 0)),(tu (tl 0)),(tu (tl 0)),(tu (tl 0)),(tu (tl 0)),(tu (tl 0)),(tu (tl 0)),(tu (tl 0)),(tu (tl 0)),(tu (tl 0)),(tu (tl 0)),(tu (tl 0)),(tu (tl 0)),(tu (tl 0)),(tu (tl 0)),(tu (tl 0)),(tu (tl 0)),(tu (tl 0)),(tu (tl 0)),(tu (tl 0)),(tu (tl 0)),(tu (tl 0)),(tu (tl 0)),(tu (tl 0)),(tu (tl 0)),(ti (tl 0)),(ti (tl 0)),(ti (tl 0)),(ti (tl 0)),(tu (tl 0)),(tu (tl 0)),(tu (tl 0)),(tu (tl 0)),(tu (tl 0)),(tu (tl 0)),(tu (tl 0)),(tu (tl 0)),(tu (tl 0)),(tu (tl 0)),(tu (tl 0)),(tu (tl 0)),(tu (tl 0)),(tu (tl 0)),(tu (tl 0)),(tu (tl 0)),(tu (tl 0)),(tu (tl 0)),(tu (tl 0)),(tu (tl 0)),(tu (tl 0)),(tu (tl 0)),(tu (tl 0)),(tu (tl 0)),(tu (tl 0)),(tu (tl 0)),(tu (tl 0)),(tu (tl 0)),(tu (tl 0)),(tu (tl 0)),(tu (tl 0)),(tu (tl 0)),.vnils,(ti (tl 0)),.vnils,(ti (tl 0))],.cells 42 63 [(.vint .u64 (.arith .add .u64 (tv 10) (tl 1))),(ti (tv 41)),(.vint .u64 (tv 40)),(.vbool (.bl false))]] 50 (.ret 1 (sg 19 [bg 32 50,bv 31 48,bt 30 (.dapp (.dtake (tv 34) (tv 32)) (.rcons (.vint .u64 (.arith .add .u64 (tv 10) (tl 1))) (.rcons (ti (tv 41)) (.rcons (.vint .u64 (tv 40)) (.rcons (.vbool (.bl false)) .rnil))))),bv 29 33,bv 28 31,bv 26 44,bt 25 (.plus (tv 32) (tl 1)),bg 27 43,bv 24 41,bt 23 (.arith .add .u64 (tv 10) (tl 1)),bv 22 40,bv 21 47,bt 20 (.plus (tv 36) (tl 1)),bg 19 46])))))))))))))))))))))))))))))))))))))))))))))))
theorem qvK:qY Try.prog qgm [qbX,qgE,qjd,qap,qhL,qcK] [qsV,qsI] qqM:=qA Try.func29 Try.call29 (by kernel_rfl)
set_option maxRecDepth 20000 in
set_option maxHeartbeats 4000000 in
theorem qpm:qgm.ok Try.prog:=qvK (by simp [qfV,qqr,qwN,qvj,qil,qyc]) fun Z hg hp=>by
 obtain ⟨⟨⟨a1,a2,a3,a4,a5,a6,a7,a8⟩,h2,h3,h4,h5⟩,h8,h9⟩:=hp;simp only [m0,qaE,qad,qV] at a1 a2 a3 a4 a5 a6 a7 a8;simp [qqM,qgm,qbX,qgE,qjd,qap,qhL,qcK,qsV,qsI,qi,mOk,m0];generalize hM:qaE (Z 1).i (Z 5).d (Z 8).d (Z 9).i (Z 10).i (Z 11).i (Z 13).i (Z 15).d (Z 16).i (Z 17).b = M;have hbig:(Z 13).i <= big:=by unfold big; omega
 have hc1:IntKind.u64.wrap ((Z 9).i + 1) = qk M:=by subst hM; rfl
 intro hL hcap;refine ⟨h3,by omega,⟨h3,hc1,by simp [qbW],by simp [qbW,qah]⟩,?_⟩;intro ui _ uk _ uK _ uT _ uS _ ur _ un _ ucap _ uM _ uc _ g0 g1 g2 g3 g4 g5 g6 g7 g8 g9 g10 g11 g12;have hTI:TI (Z 1).i uc.i (Z 18).i (qb (Z 5).d) (qf (Z 8).d) (qM (Z 15).d) ui.i uk.i uT.d uS.d uK.d uM.d:=⟨g10,g11,g12⟩;constructor
 ·intro hi
  have hget:=qpK hTI g0 (by omega);have htb:=a8 _ (jas (show ((qM (Z 15).d).take (Z 13).i.toNat)[ui.i.toNat]? = some _ by rw [jbe,jag (by omega)]; exact hget));simp only at htb;have hst:=qif (d:=uT.d) (i:=qc uK.d ui.i 1) htb.1 (by omega);rw [qay g0 hi hbig];have hal:∀ d:List (List Value),qah d (qgo (qb uT.d) (Z 1).i (qc uK.d ui.i 0) (qc uK.d ui.i 1) (Z 18).i)->d.length <= 2:=fun d h=>by
   have h1:=congrArg List.length h;have h2:=qrk (qb uT.d) (Z 1).i (qc uK.d ui.i 0) (qc uK.d ui.i 1) (Z 18).i;simp only [jaz] at h1;omega
  refine ⟨g0,by omega,fun hage=>⟨htb.1,by omega,by omega,fun hs=>⟨⟨by omega,by omega,htb.1,by omega⟩,fun v1 _ v2 _ k1 k2 k3 k4=>⟨⟨by omega,by omega,g2,by omega,g4,g5,by omega,by omega,g8,by omega,?_⟩,by omega⟩⟩,fun hs=>⟨⟨by omega,by omega,g2,by omega,g4,g5,g6,g7,g8,by omega,?_⟩,by omega⟩⟩,fun hage=>⟨fun hage4=>⟨fun hask=>⟨⟨⟨by omega,by omega,by omega,by omega,by omega,by omega,by omega⟩,by omega,by omega⟩,fun v1 _ v2 _ k1 k2=>⟨g8,by omega,by omega,by have:=hal _ k2; omega,fun hcap'=>⟨by omega,g2,by omega,⟨by omega,by omega,by omega,by omega,g4,by rw [qbP]; exact g5,g6,g7,by omega,by have:=hal _ k2; omega,?_⟩,by omega⟩⟩⟩,fun hask hcap'=>⟨by omega,g2,by omega,⟨by omega,by omega,by omega,by omega,g4,by rw [qbP]; exact g5,g6,g7,g8,by omega,?_⟩,by omega⟩⟩,fun hage4 hcap'=>⟨by omega,g2,by omega,⟨by omega,by omega,by omega,by omega,g4,by rw [qbP]; exact g5,g6,g7,g8,by omega,?_⟩,by omega⟩⟩⟩
  ·exact qta hTI g0 (by omega) fun st t1 t2=>by
    unfold qaN qaT;rw [jag hage,t1,t2,hst,jag hs,k1,k2]
  ·exact qta hTI g0 (by omega) fun st t1 t2=>by
    unfold qaN qaT;rw [jag hage,t1,hst,jaf hs,<- t1,<- t2]
  ·rw [show v1.d.take v2.i.toNat = v1.d from ja0 (by omega)]
   exact qnM hTI g2 g3 (by omega) k2 fun st t1=>by
    unfold qaN qaT;rw [jaf (jd6.2 hage),jag (And.intro hage4 hask),t1]
  ·have:=qnM (dN:=[]) (ns:=[]) hTI g2 g3 (by omega) rfl (a:=qc uK.d ui.i 0) (b:=qc uK.d ui.i 1) (c:=qc uK.d ui.i 2) (e:=qcc uK.d ui.i 3) fun st t1=>by
    unfold qaN qaT;rw [jaf (jd6.2 hage),jaf (fun h=>by have h:=h.2; simp only [hask] at h; cases h),jca]
   rwa [jca] at this
  ·have:=qnM (dN:=[]) (ns:=[]) hTI g2 g3 (by omega) rfl (a:=qc uK.d ui.i 0) (b:=qc uK.d ui.i 1) (c:=qc uK.d ui.i 2) (e:=qcc uK.d ui.i 3) fun st t1=>by
    unfold qaN qaT;rw [jaf (jd6.2 hage),jaf (fun h=>absurd h.1 (jd6.2 hage4)),jca]
   rwa [jca] at this
 ·intro hi
  have hTS:qat M (Z 18).i = qbW (Z 1).i uc.i (Z 18).i (qb (Z 5).d) (qf (Z 8).d) ((qM (Z 15).d).take ui.i.toNat):=by
   rw [g4,show ui.i.toNat = (Z 13).i.toNat by omega]; subst hM; rfl
  rw [<- hTS] at g10 g11;have hT1:(qat M (Z 18).i).tab = qb uT.d:=by rw [g10]
  have hT2:(qat M (Z 18).i).since = qf uS.d:=by rw [g10]
  have hT3:(qat M (Z 18).i).kept = (qM uK.d).take uk.i.toNat:=by rw [g10]
  refine ⟨by omega,fun uw _ kw=>⟨⟨by omega,g4,?_,g6,g7,g8,by omega,g2,by omega,by omega,hT2.symm,hT3.symm,g11,by rw [hT1,qad]; exact g6,?_⟩,?_⟩⟩
  ·rw [kw,qbB (by omega) (by omega),qbo,qad,h2]
  ·exact qyf hT1.symm
  intro vi _ vT _ vk _ vS _ vK _ vr _ vn _ vcap _ vM _ vw _ vc _ q0 q1 q2 q3 q4 q5 q6 q7 q8 q9 q10 q11 q12 q13 q14 q15;have hDI:DI (qat M (Z 18).i).tab (qeb (Z 1).i (qk M) (qbo (qb (Z 5).d).length) (qat M (Z 18).i).since (qat M (Z 18).i).tab) vT.d vi.i:=q15;constructor
  ·intro hlt
   rw [qay q0 hlt (by unfold big; omega)];have hget:=qzu hDI q0 (by omega);have hdg:=qly (self:=(Z 1).i) (clock:=qk M) (wait:=qbo (qb (Z 5).d).length) (since:=(qat M (Z 18).i).since) hget;have hct:=qbH (d:=vT.d) q0 (by omega);have hsg:(qat M (Z 18).i).since.getD vi.i.toNat 0 = qc vS.d vi.i 0:=by rw [<- q11,jai,qcm q0 (by omega)]; rfl
   have hin:((vi.i.toNat:Nat):Int) = vi.i:=by omega
   refine ⟨q0,by omega,fun hne=>⟨fun hs2=>⟨by omega,fun hage=>⟨⟨by omega,by omega,q2,q3,by rw [qbP]; exact q4,q5,q6,q7,q8,q9,q10,q11,q12,q13,q14,?_⟩,by omega⟩,fun hage=>⟨⟨by omega,by omega,q2,q3,q4,q5,q6,q7,q8,q9,q10,q11,q12,q13,q14,?_⟩,by omega⟩⟩,fun hs2=>⟨⟨by omega,by omega,q2,q3,q4,q5,q6,q7,q8,q9,q10,q11,q12,q13,q14,?_⟩,by omega⟩⟩,fun heq=>⟨⟨by omega,by omega,q2,q3,q4,q5,q6,q7,q8,q9,q10,q11,q12,q13,q14,?_⟩,by omega⟩⟩
   ·refine qze hDI q0 (by omega) (by omega) ?_
    rw [hdg,qgN,jag];simp only [hin,hs2,hsg,qaT,<- q2,<- q3];exact ⟨hne,trivial,hage⟩
   ·refine qn1 hDI q0 ?_
    rw [hdg,hct,qgN,jaf];simp only [hin,hs2,hsg,qaT,<- q2,<- q3]
    rintro ⟨_,_,h⟩; omega
   ·refine qn1 hDI q0 ?_
    rw [hdg,hct,qgN,jaf]
    rintro ⟨_,h,_⟩; exact hs2 h
   ·refine qn1 hDI q0 ?_
    rw [hdg,hct,qgN,jaf]
    rintro ⟨h,_,_⟩; exact h (by omega)
  ·intro hge
   have hdt:=qzz hDI (by omega) (by rw [qlM]; omega);have hpl:∀ p,qah (vM.d ++ [qgG ⟨1,0,p,IntKind.u64.wrap ((Z 10).i + 1),(Z 1).i,0⟩]) ((qat M (Z 18).i).msgs ++ [⟨1,0,p,IntKind.u64.wrap ((Z 10).i + 1),(Z 1).i,0⟩]):=fun p=>qiK q13
   refine ⟨⟨by omega,by omega,by omega,by omega⟩,fun up _ kp _ _=>⟨by omega,by omega,fun _ _ _ _ _ _=>⟨q6,by omega,fun _ _ _ _=>⟨⟨⟨by omega,by omega,by omega,by omega,by omega,?_,?_⟩,q6,by unfold big; omega,?_⟩,fun uD _ uH _ kst uF _ kF=>⟨hL,?_,?_,q4,by omega,by omega,by omega,?_⟩⟩⟩⟩⟩
   ·rw [kp]; exact (qfm (by omega) (by omega) a6).1
   ·rw [kp]; exact (qfm (by omega) (by omega) a6).2
   ·exact ⟨_,hpl up.i⟩
   ·have hTM:qn M (Z 18).i = ⟨(Z 1).i,qeb (Z 1).i (qk M) (qbo (qb (Z 5).d).length) (qat M (Z 18).i).since (qat M (Z 18).i).tab,(qat M (Z 18).i).since,qk M,IntKind.u64.wrap ((Z 10).i + 1),qaY (qb (Z 5).d).length (Z 1).i (Z 11).i,(qat M (Z 18).i).kept ++ [⟨IntKind.u64.wrap ((Z 10).i + 1),qaY (qb (Z 5).d).length (Z 1).i (Z 11).i,qk M,false⟩],(Z 16).i,(Z 17).b⟩:=by subst hM; rfl
    rw [hTM,<- hdt,<- q11,<- q12,qad,<- h2,<- kp,<- q2];have hk:((qM vK.d).take vk.i.toNat).length = vk.i.toNat:=by rw [jbc,ql3]; omega
    unfold qaE;rw [qaB q8]
    congr 1
    simp only [qM,jcl,jcz,jaq,jbl];rw [ja0]
    ·rfl
    ·rw [jav,jbc,jaz]; simp; omega
   ·have:=qbR (kst _ (hpl up.i))
    have hq:=qoD q13;rw [jav] at this; simp only [jbh,jcm] at this; omega
   ·have hTM:qas M (Z 18).i = (qat M (Z 18).i).msgs ++ [⟨1,0,up.i,IntKind.u64.wrap ((Z 10).i + 1),(Z 1).i,0⟩]:=by
     rw [kp]; subst hM; unfold qas; simp only [qaE,qad,h2]
    have hTT:(qn M (Z 18).i).tab = qb vT.d:=by rw [hdt]; subst hM; rfl
    rw [hTM,hTT];obtain ⟨hb,lb,db⟩:=qel kF (jac ..);have hl:Hp.le uH.h hb:=by simpa using db.1
    exact qeG (kst _ (hpl up.i)) (Hp.le_trans hl lb)
end Go.Proofs
namespace Go.Eng
open Go Go.ChangeShapes Go.WideShapes Go.ChangeAt Go.RowKit
structure Grew (W w':World):Prop where
 os:w'.os = W.os
 out:w'.output = W.output
 blk:∀ (b:Nat) (o:Obj),W.heap[b]? = some o->w'.heap[b]? = some o
theorem Grew.block {W w':World} (h:Grew W w') {i:Nat} (hi:i < W.heap.size):w'.heap[i]? = W.heap[i]?:=by
 rw [jcd hi]; exact h.blk i _ (jcd hi)
theorem Grew.kept {W w':World} (h:Grew W w') (may:MemPlace->Prop):W.keptBut w' may:=by
 refine ⟨h.os,h.out,fun i hi=>?_⟩;rw [h.block hi,jcd hi];cases W.heap[i] <;> simp
theorem Grew.trodAll {H:Type} {enc:TypeId × Value->H} {P:Program} {W W':World} (hg:Grew W W') (hl:laidOutB P = true) {sp:Nat->Bool}:∀ {ts:List TypeId} {vs:List Value} {ds:List (DataW H)} {ps:List MemPlace},
  (∀ t ∈ ts,P.readableRec t = true/\t < P.types.size)->DataW.TrodAll enc P W 0 (fun _=>true) true ts vs ds ps->(∀ p ∈ ps,p.block < W.heap.size)->(∀ p ∈ ps,sp p.block = true) ->
  DataW.TrodAll enc P W' 0 sp true ts vs ds ps
 | [],[],[],_,_,h,_,_=>h
 | _ :: _,_ :: _,_ :: _,_,hT,⟨p,q,h1,h2,e⟩,hlt,hs=>by
  subst e;refine ⟨p,q,?_,Grew.trodAll hg hl (fun t ht=>hT t (jab _ ht)) h2 (fun x hx=>hlt x (jb4 _ hx)) (fun x hx=>hs x (jb4 _ hx)),rfl⟩;have hr:=hT _ (jac ..);refine WideElems.Trod_stays hl hr.1 hr.2 h1 (fun x hx=>?_) (fun x hx=>hs x (jbn _ hx));have hb:=hg.block (hlt x (jbn _ hx));cases x with
  | cell b o=>exact World.cell?_of_block (w:=W) hb
  | map b=>exact hb
theorem qvf {P:Program} {c:Ctr} (hok:c.ok P) (hheap:c.heap = []) (halts:∀ al ∈ c.alts,al.ret = .one (.vbool (.bl true))) {Z:Env} (hg:Z.good) (W:World)
  (hro:∀ x ∈ c.ro,x.roden Z (fun b=>W.heap[b]?)) (hpre:c.pre Z) :
  Calls P c.fn (c.args.map (SV.den Z)).toArray W fun e W'=>e = .returned (.bool true)/\Grew W W':=by
 have h:=hok.2 Z W ⟨fun b=>W.heap[b]?,W.os,W.output⟩ Hp.emp hg (Hp.disj_emp _)
  ⟨fun b o hb=>by simpa [Hp.union,Hp.emp] using hb,rfl,rfl⟩ (by rw [hheap]; trivial) hro hpre
 refine h.mono fun e w' hq=>?_
 obtain ⟨ai,al,Z',hal,_,_,rfl,_,hO,_,_,hsub,hwi⟩:=hq;refine ⟨by rw [halts al (jas hal)]; rfl,⟨hwi.1,hwi.2,fun b o hb=>hsub b o ?_⟩⟩;simp [Hp.union,hb]
theorem qxi {H:Type} {enc:TypeId × Value->H} {P:Program} {f:Func} {s:ChangeSpec} {W W':World} {args:Array Value} {ds gs:List (DataW H)} {before:List MemPlace} {bt:TypeId}
  (hl:laidOutB P = true) (hT:∀ t ∈ f.params.toList,P.readableRec t = true/\t < P.types.size) (hvars:s.vars = []) (hrt:f.resultTypes = #[bt]) (hbt:P.underlying bt = some .bool)
  (hfn:∀ ds':List (DataW H),ds'.length = f.params.size->s.fn H ds' = { results:=[.lit (.bool true)],args:=ds' })
  (hW:DataW.Whole enc P f.params.toList s.vars false W args.toList ds gs before) (hg:Grew W W'):s.post enc P f false true false false W args (.bool true) W':=by
 have hlt:=hW.lt;have hW0:=hW;obtain ⟨p,q,hA,hV,hpq,hz,hn⟩:=hW;rw [hvars] at hV;obtain ⟨rfl,rfl⟩:=trodVars_none hV;have hlen:ds.length = f.params.size:=by
  have:∀ {ts:List TypeId} {vs:List Value} {ds:List (DataW H)} {ps:List MemPlace},DataW.TrodAll enc P W 0 (fun _=>true) true ts vs ds ps->ds.length = ts.length:=by
   intro ts
   induction ts with
   | nil=>intro vs ds ps h; cases vs <;> cases ds <;> simp_all [DataW.TrodAll]
   | cons t ts ih =>
    intro vs ds ps h;cases vs <;> cases ds <;> simp_all [DataW.TrodAll];obtain ⟨p,q,_,h2,_⟩:=h;exact ih h2
  simpa using this hA
 have hlt':∀ x ∈ p,x.block < W.heap.size:=fun x hx=>hlt x (by rw [hpq]; exact jbn _ hx)
 refine ⟨ds,[],before,[],p,[],hW0,?_,?_,?_,hg.kept _,fun h=>by cases h⟩
 ·rw [jca,hfn ds hlen,hrt]
  exact ⟨[],[],⟨1,by simp [DataW.trod,hbt,Value.cells]⟩,rfl,rfl⟩
 ·rw [jca,hfn ds hlen]
  exact hg.trodAll hl hT hA hlt' (fun x hx=>by simpa using hlt' x hx)
 ·rw [jca,hfn ds hlen,hvars]
  rfl
theorem ql5 {H:Type} {enc:TypeId × Value->H} {P:Program} {f:Func} {s:ChangeSpec} {c:Ctr} {W:World} {args:Array Value} {ds gs:List (DataW H)} {before:List MemPlace} {bt:TypeId} {Z:Env}
  (hok:c.ok P) (hheap:c.heap = []) (halts:∀ al ∈ c.alts,al.ret = .one (.vbool (.bl true)))
  (hl:laidOutB P = true) (hT:∀ t ∈ f.params.toList,P.readableRec t = true/\t < P.types.size) (hvars:s.vars = []) (hrt:f.resultTypes = #[bt]) (hbt:P.underlying bt = some .bool)
  (hfn:∀ ds':List (DataW H),ds'.length = f.params.size->s.fn H ds' = { results:=[.lit (.bool true)],args:=ds' })
  (hW:DataW.Whole enc P f.params.toList s.vars false W args.toList ds gs before)
  (hg:Z.good) (hargs:args = (c.args.map (SV.den Z)).toArray) (hro:∀ x ∈ c.ro,x.roden Z (fun b=>W.heap[b]?)) (hpre:c.pre Z) :
  Calls P c.fn args W fun e W'=>∃ v,e = .returned v/\s.post enc P f false true false false W args v W':=by
 rw [hargs];refine (qvf hok hheap halts hg W hro hpre).mono fun e W' ⟨he,hgr⟩=>⟨_,he,?_⟩
 rw [<- hargs];exact qxi hl hT hvars hrt hbt hfn hW hgr
def qmH (P:Program) (f:TypeId->Option (List CK)):List Field->Nat->Option (List CK)
 | [],_=>some []
 | x :: fs,off =>
  if Nat.beq x.offset off then
   match f x.type with
   | some p=>if Nat.beq p.length (P.cellsOf x.type) then (qmH P f fs (off + p.length)).map (p ++ ·) else none
   | none=>none
  else none
def qkn (p:List CK):Nat->List CK
 | 0=>[]
 | n + 1=>p ++ qkn p n
def qhy (P:Program):Nat->TypeId->Option (List CK)
 | 0,_=>none
 | n + 1,t =>
  match P.underlying t with
  | some (.int k)=>some [.int k]
  | some .bool=>some [.bool]
  | some .string=>some [.any]
  | some (.slice _)=>some [.any]
  | some (.pointer _)=>some [.any]
  | some (.struct fs)=>match qmH P (qhy P n) fs.toList 0 with
   | some p=>if Nat.beq p.length (P.cellsOf t) then some p else none
   | none=>none
  | some (.array m e)=>match qhy P n e with
   | some p=>if Nat.beq p.length (P.cellsOf e) && Nat.beq (P.cellsOf t) (m * P.cellsOf e) then some (qkn p m) else none
   | none=>none
  | _=>none
theorem qhG {p q:List CK} {cs:List Value} (h1:qX p (cs.take p.length)) (h2:qX q (cs.drop p.length)):qX (p ++ q) cs:=by
 obtain ⟨a1,a2⟩:=h1;obtain ⟨b1,b2⟩:=h2;have hle:p.length <= cs.length:=by simp at a1; omega
 refine ⟨by simp at a1 b1 ⊢; omega,fun c k v hk hv=>?_⟩;by_cases hc:c < p.length
 ·rw [jbs hc] at hk
  exact a2 c k v hk (by rw [jbe,jag hc]; exact hv)
 ·rw [jbd (by omega)] at hk
  exact b2 (c - p.length) k v hk (by rw [jbf,show p.length + (c - p.length) = c by omega]; exact hv)
section
variable {H:Type} {enc:TypeId × Value->H} {P:Program} {w:World} {base:Nat} {spare:Nat->Bool} {held:Bool}
theorem qeA {v:Value} (h:v.oneCell' = true):qX [.any] [v]:=⟨rfl,fun c k v' hk hv=>by
 cases c with
 | zero=>simp at hk hv; subst hk; subst hv; exact h
 | succ c=>simp at hk⟩
theorem qmW {f:TypeId->Option (List CK)} {cs:List Value} (hf:∀ t p,f t = some p->∀ cs',(∃ fuel x,DataW.trod enc P w base spare held fuel t cs' = some x)->qX p cs') :
  ∀ {fs:List Field} {off:Nat} {p:List CK},qmH P f fs off = some p->(∀ x ∈ fs,∃ fuel y,DataW.trod enc P w base spare held fuel x.type ((cs.drop x.offset).take (P.cellsOf x.type)) = some y)->off + p.length = cs.length->qX p (cs.drop off)
 | [],off,p,h,_,hl=>by
  simp only [qmH,jaa] at h; subst h;simp at hl;refine ⟨by simp; omega,fun c k v hk=>by simp at hk⟩
 | x :: fs,off,p,h,ht,hl=>by
  simp only [qmH] at h;split at h
  ·rename_i ho
   have ho:=Nat.eq_of_beq_eq_true ho;split at h
   ·rename_i p1 hp1
    split at h
    ·rename_i hc
     have hc:=Nat.eq_of_beq_eq_true hc;simp only [jah] at h;obtain ⟨p2,hp2,rfl⟩:=h;simp only [jav] at hl;have h1:=hf x.type p1 hp1 _ (ht x (jac ..));rw [ho,<- hc] at h1;have h2:=qmW hf hp2 (fun y hy=>ht y (jab _ hy)) (by omega);exact qhG h1 (by rw [jdk]; exact h2)
    ·simp at h
   ·simp at h
  ·simp at h
theorem qlg {p:List CK}:∀ {m:Nat} {cs:List Value},cs.length = m * p.length->(∀ i,i < m->qX p ((cs.drop (i * p.length)).take p.length))->qX (qkn p m) cs
 | 0,cs,hl,_=>by
  simp at hl; subst hl;exact ⟨rfl,fun c k v hk=>by simp [qkn] at hk⟩
 | m + 1,cs,hl,h=>by
  simp only [qkn];refine qhG (by simpa using h 0 (by omega)) (qlg (by rw [jcr,hl,jbq]; omega) fun i hi=>?_);rw [jdk,show p.length + i * p.length = (i + 1) * p.length by rw [jbq]; omega];exact h (i + 1) (by omega)
theorem qhd:∀ (n:Nat) {t:TypeId} {pat:List CK},qhy P n t = some pat->∀ cs,(∃ fuel x,DataW.trod enc P w base spare held fuel t cs = some x)->qX pat cs
 | 0,t,pat,h,_,_=>by simp [qhy] at h
 | n + 1,t,pat,h,cs,⟨fuel,x,hx⟩=>by
  simp only [qhy] at h;split at h
  ·rename_i k hu
   simp only [jaa] at h; subst h;obtain ⟨z,rfl,_,_⟩:=DataW.trod_int hu hx;refine ⟨rfl,fun c k' v hk hv=>?_⟩;cases c with
   | zero=>simp at hk hv; subst hk; subst hv; simp [CK.fits]
   | succ c=>simp at hk
  ·rename_i hu
   simp only [jaa] at h; subst h;cases fuel with
   | zero=>simp [DataW.trod] at hx
   | succ m =>
    unfold DataW.trod at hx;rw [hu] at hx;split at hx <;> simp_all;refine ⟨rfl,fun c k' v hk hv=>?_⟩;cases c with
    | zero=>simp at hk hv; subst hk; subst hv; simp [CK.fits]
    | succ c=>simp at hk
  ·rename_i hu
   simp only [jaa] at h; subst h;cases fuel with
   | zero=>simp [DataW.trod] at hx
   | succ m =>
    unfold DataW.trod at hx;rw [hu] at hx;split at hx <;> simp_all;exact qeA rfl
  ·rename_i e hu
   simp only [jaa] at h; subst h;rcases DataW.trod_slice hu hx with ⟨rfl,_⟩ | ⟨a,len,cap,elems,rest,m,_,rfl,_⟩
   ·exact qeA rfl
   ·exact qeA rfl
  ·rename_i e hu
   simp only [jaa] at h; subst h;cases fuel with
   | zero=>simp [DataW.trod] at hx
   | succ m =>
    unfold DataW.trod at hx;rw [hu] at hx;split at hx <;> simp_all
    all_goals exact qeA rfl
  ·rename_i fs hu
   split at h
   ·rename_i p hp
    split at h
    ·rename_i hc
     have hc:=Nat.eq_of_beq_eq_true hc;simp only [jaa] at h; subst h;obtain ⟨xs,m,_,_,hl,hxl,hall⟩:=DataW.trod_struct hu hx;have:=qmW (cs:=cs) (f:=qhy P n) (fun t p hp cs' hh=>qhd n hp cs' hh) hp (fun y hy=>by
      obtain ⟨i,hi⟩:=jb0 hy;have hi':fs[i]? = some y:=by simpa using hi
      have h1:=hall i y hi';have hlt:i < xs.length:=by
       rw [hxl]; exact (jc8.1 hi').1
      exact ⟨m,xs[i],by rw [h1]; simp [hlt]⟩) (by omega)
     simpa using this
    ·simp at h
   ·simp at h
  ·rename_i m e hu
   split at h
   ·rename_i p hp
    split at h
    ·rename_i hc
     simp only [jad] at hc;have hc1:=Nat.eq_of_beq_eq_true hc.1;have hc2:=Nat.eq_of_beq_eq_true hc.2;simp only [jaa] at h; subst h;obtain ⟨xs,k,_,_,hl,hxl,hall⟩:=DataW.trod_array hu hx;refine qlg (by rw [hl,hc2,hc1]) fun i hi=>?_
     have h1:=hall i hi;rw [<- hc1] at h1;exact qhd n hp _ ⟨k,xs[i]'(by omega),by rw [h1]; simp [hxl,hi]⟩
    ·simp at h
   ·simp at h
  ·simp at h
theorem qmM {a:Addr} {n:Nat} {cs:List Value} (h:w.cells? base a n = some cs):cs.length = n/\∀ i,i < n->w.cell? (a.add i) = cs[i]?:=by
 unfold World.cells? at h;split at h
 ·exact ⟨by simpa using mapM_some_length h,fun i hi=>by simpa using mapM_some_get h i i (by simp [hi])⟩
 ·simp at h
theorem qwq {t e:TypeId} {pat:List CK} {n:Nat} {v:Value} {d:DataW H} {ps:List MemPlace} (ht:P.underlying t = some (.slice e)) (hpat:qhy P n e = some pat) (hce:P.cellsOf e = pat.length) (hpos:0 < pat.length)
  {fuel:Nat} (hsp:∀ b,spare b = true) (hf:DataW.trod enc P w base spare held fuel t [v] = some (d,ps)) :
  ∃ rows:List (List Value),Rd (fun b=>w.heap[b]?) pat v rows/\(∀ row ∈ rows,∃ fuel x,DataW.trod enc P w base spare held fuel e row = some x) /\
   ((d = .nil/\rows = [])∨∃ elems sp,d = .slice elems sp/\elems.length = rows.length/\∀ (i:Nat) (row:List Value),rows[i]? = some row->∃ fuel x,DataW.trod enc P w base spare held fuel e row = some x/\elems[i]? = some x.1):=by
 rcases DataW.trod_slice ht hf with ⟨h1,h2⟩ | ⟨a,len,cap,elems,rest,m,_,h1,h2,hb,hlc,hcm,hel,hall,hrest,_⟩
 ·simp at h1 h2
  exact ⟨[],.inl ⟨_,h1,rfl⟩,by simp,.inl ⟨h2.1,rfl⟩⟩
 ·simp at h1 h2
  subst h1;have hrow:∀ i,i < len->∃ cs x,w.cells? base (a.add (i * P.cellsOf e)) (P.cellsOf e) = some cs/\DataW.trod enc P w base spare held m e cs = some x/\elems[i]? = some x:=fun i hi=>by
   have:=hall i hi;rw [jae (by omega)] at this;obtain ⟨cs,g1,g2⟩:=jaj.1 this;exact ⟨cs,_,g1,g2,jae _⟩
  let rows:List (List Value):=(List.range len).map fun i=>((w.cells? base (a.add (i * P.cellsOf e)) (P.cellsOf e)).getD [])
  have hget:∀ i row,rows[i]? = some row->i < len/\w.cells? base (a.add (i * P.cellsOf e)) (P.cellsOf e) = some row:=fun i row hr=>by
   simp only [rows,jau,jah] at hr;obtain ⟨j,hj,rfl⟩:=hr;have hlt:i < len:=by
    have:=(jal.1 hj).1; simpa using this
   rw [jdr hlt] at hj;simp only [jaa] at hj; subst hj;obtain ⟨cs,x,g1,_,_⟩:=hrow i hlt;exact ⟨hlt,by rw [g1]; rfl⟩
  have hrl:rows.length = len:=by simp [rows]
  have htr:∀ row ∈ rows,∃ fuel x,DataW.trod enc P w base spare held fuel e row = some x:=fun row hr=>by
   obtain ⟨i,hi⟩:=jb0 hr;obtain ⟨hlt,hc⟩:=hget i row hi;obtain ⟨cs,x,g1,g2,_⟩:=hrow i hlt;rw [hc] at g1;simp only [jaa] at g1; subst g1;exact ⟨m,x,g2⟩
  refine ⟨rows,?_,htr,.inr ⟨_,_,h2.1,by simp [hel,hrl],fun i row hi=>?_⟩⟩
  rotate_left
  ·obtain ⟨hlt,hc⟩:=hget i row hi
   obtain ⟨cs,x,g1,g2,g3⟩:=hrow i hlt;rw [hc] at g1;simp only [jaa] at g1; subst g1;exact ⟨m,x,g2,by simp [g3]⟩
  by_cases hcap:cap = 0
  ·have hl0:len = 0:=by omega
   have:rows = []:=by apply jc1; omega
   exact .inl ⟨some a,by rw [hl0,hcap],this⟩
  have hfirst:∃ cs,w.cells? base (a.add 0) (P.cellsOf e) = some cs:=by
   by_cases hl:0 < len
   ·obtain ⟨cs,_,g1,_,_⟩:=hrow 0 hl
    rw [jek] at g1;exact ⟨cs,g1⟩
   ·obtain ⟨r1,r2⟩:=hrest (hsp _)
    have:=r2 0 (by omega);rw [show (len + 0) * P.cellsOf e = 0 by rw [show len + 0 = 0 by omega]; simp,jae (by omega)] at this;obtain ⟨cs,g1,_⟩:=jaj.1 this;exact ⟨cs,g1⟩
  obtain ⟨cs0,hc0⟩:=hfirst;obtain ⟨hl0,hg0⟩:=qmM hc0;have h00:=hg0 0 (by omega);rw [show (a.add 0).add 0 = a from rfl,jae (by omega)] at h00;obtain ⟨ab,ao,asp⟩:=a;have hblk0:=h00;unfold World.cell? at hblk0;split at hblk0
  ·rename_i c ty fr hblk
   simp only at hblk;have hsp0:asp = none:=by
    cases asp with
    | none=>rfl
    | some s=>simp at hblk0
   subst hsp0;refine .inr ⟨ab,ao,cap,c,ty,fr,by rw [hrl],by omega,hblk,fun i row hi=>?_⟩;obtain ⟨hlt,hc⟩:=hget i row hi;refine ⟨qhd n hpat row (htr row (jas hi)),fun k x hk=>?_⟩;obtain ⟨hl1,hg⟩:=qmM hc;have hkl:k < P.cellsOf e:=by
    rw [<- hl1]; exact (jal.1 hk).1
   have:=hg k hkl;rw [hk,hce] at this;rw [Go.Eng.addr_add,Go.Eng.addr_add,qbz hblk] at this;exact this
  ·simp at hblk0
end
end Go.Eng
namespace Go.Proofs.Ytlmkkphojjodhaa
open Go Go.Eng Go.Proofs Go.ChangeShapes Go.WideShapes Go.ChangeAt Go.RowKit
theorem own:ownKnob Try.prog.godebug = none:=by kernel_rfl
theorem qnF:laidOutB Try.prog = true:=by kernel_rfl
end Go.Proofs.Ytlmkkphojjodhaa
namespace Go.Eng
open Go
def qk0 (n i:Int):Bool:=decide (0 <= i) && decide (i < n)
def qgA (self n:Int) (g:Msg) (t:List Ent):Bool :=
 qk0 n g.src && !(g.src == self) && (g.dst == self) && qj0 t && decide ((t.length:Int) = n) &&
  (if g.kind = 1∨g.kind = 2 then qk0 n g.origin else if g.kind = 3 then qk0 n g.target else false)
def qd (t:List Ent) (i:Nat):Ent:=t.getD i (0,0)
def qc8 (self:Int) (tab t:List Ent):List Ent:=tab.mapIdx fun i x=>if (i:Int) = self then x else qb1 x (qd t i)
def qbh (self clock:Int) (tab:List Ent) (since:List Int) (t:List Ent):List Int:=since.mapIdx fun i s=>if (i:Int) ≠ self/\qb1 (qd tab i) (qd t i) ≠ qd tab i/\(qb1 (qd tab i) (qd t i)).2 = 2 then clock else s
def qdx (self:Int) (tab t:List Ent) (chal:Int):Int:=if qbt (qd t self.toNat) (qd tab self.toNat) = true then max chal (qd t self.toNat).1 else chal
def qb4 (self:Int) (g:Msg):Bool:=decide (g.kind = 2/\g.origin = self)
def qaK (m:Mach) (g:Msg) (t:List Ent):Mach :=
 { m with tab:=qc8 m.self m.tab t,since:=qbh m.self m.clock m.tab m.since t,chal:=qdx m.self m.tab t m.chal,probes:=if qb4 m.self g then m.probes.filter (fun p=>!(p.seq == g.seq)) else m.probes }
def qam (self:Int) (g:Msg):Msg :=
 if g.kind = 3 then (if g.target = self then ⟨2,0,g.src,g.seq,g.src,0⟩ else ⟨1,0,g.target,g.seq,g.src,0⟩)
 else if g.kind = 2 then ⟨2,0,g.origin,g.seq,g.origin,0⟩ else ⟨2,0,g.src,g.seq,g.origin,0⟩
def qdB {α:Type} (old new cur:List α) (i:Int):Prop:=∀ j:Nat,cur[j]? = if (j:Int) < i then new[j]? else old[j]?
def qc7 (m:Mach) (g:Msg) (t:List Ent):Int:=if m.left then 30 else if qgA m.self m.tab.length g t then 0 else 2
def qB (m:Mach) (g:Msg) (t:List Ent):Mach:=if qc7 m g t = 0 then qaK m g t else m
def qa5 (m:Mach) (g:Msg) (t:List Ent):List Msg:=if qc7 m g t = 0/\qb4 m.self g = false then [qam m.self g] else []
def qbT (b:Nat) (tab:T) (rest:Nat):List T:=[.vint .u8 (.var b),.vint .i64 (.var (b + 1)),.vint .i64 (.var (b + 2)),.vint .u64 (.var (b + 3)),.vint .i64 (.var (b + 4)),.vint .i64 (.var (b + 5)),tab] ++ qgZ rest 109
def qa1 (Z:Env) (b:Nat):Msg:=⟨(Z b).i,(Z (b + 1)).i,(Z (b + 2)).i,(Z (b + 3)).i,(Z (b + 4)).i,(Z (b + 5)).i⟩
def qhC:Ctr:={ fn:=87,nv:=19,args:=[ptr 0,iv .i64 (.var 18)],heap:=[],ro:=[qbw (.var 12)],pre:=fun Z=>0 <= (Z 3).i,alts:=[{ k:=1,ret:=qi5 19,heap:=[],post:=fun Z=>(Z 19).b = qk0 (Z 3).i (Z 18).i }] }
def qkg:T:=.vslice 24 (.lit 0) (.var 25) (.var 26) 2
def qeO:Ctr:={ fn:=81,nv:=138,args:=[ptr 0,.agg (qbT 18 qkg 29)],heap:=[],ro:=[qbw (.var 12),.arr 24 25 qan (.var 27) (.var 28)],pre:=fun Z=>0 <= (Z 3).i/\(Z 25).i = (Z 27).d.length/\(Z 25).i <= big,alts:=[{ k:=1,ret:=qi5 138,heap:=[],post:=fun Z=>(Z 138).b = qgA (Z 1).i (Z 3).i (qa1 Z 18) (qb (Z 27).d) }] }
def qid (s:Int) (p:Prb):Bool:=p.seq == s
def qu3 (r l c:Nat):SV:=.one (.vslice r (.lit 0) (.var l) (.var c) 4)
def pRo (r d k:Nat):SH:=.arr r 63 qdz (.var d) (.var k)
def qtN:SV:=.fn (.func 83) [] [.vptr 4 (.lit 0) 0 0]
def qxe:SH:=.cells 4 43 (qbT 5 (.var 11) 12)
def qgI:Ctr:={ fn:=83,nv:=121,args:=[.agg (qlv 0),ptr 4],heap:=[],ro:=[qxe],pre:=fun _=>True,alts:=[{ k:=1,ret:=qi5 121,heap:=[],post:=fun Z=>(Z 121).b = qid (Z 8).i ⟨(Z 0).i,(Z 1).i,(Z 2).i,(Z 3).b⟩ }] }
def qg0:Ctr:={ fn:=88,nv:=126,args:=[qu3 121 122 123,qtN],heap:=[],ro:=[qxe,pRo 121 124 125],pre:=fun Z=>(Z 122).i <= (Z 124).d.length/\0 <= (Z 122).i/\(Z 122).i <= big,alts:=[{ k:=1,ret:=iv .i64 (.var 126),heap:=[],post:=fun Z=>qwz (qid (Z 8).i) ((qM (Z 124).d).take (Z 122).i.toNat) (Z 126).i }] }
def qqz:Inv:={ key:=2,nv:=1,env:=[(0,qu3 121 122 123),(1,qtN),(7,iv .i64 (.var 122)),(8,iv .i64 (.var 1000))],heap:=[],inv:=(fun Z=>0 <= (Z 1000).i/\(Z 1000).i <= (Z 122).i/\qdm (qid (Z 8).i) ((qM (Z 124).d).take (Z 122).i.toNat) (Z 1000).i.toNat = true),mu:=(fun Z=>((Z 122).i - (Z 1000).i).toNat) }
def qf8:Ctr:={ fn:=82,nv:=126,args:=[qu3 121 122 123,qtN],heap:=[pRo 121 124 125],ro:=[qxe],pre:=fun Z=>(Z 122).i <= (Z 124).d.length/\0 <= (Z 122).i/\(Z 122).i <= big/\(Z 123).i = (Z 125).i,alts:=[{ k:=2,ret:=.one (.vslice 121 (.lit 0) (.var 126) (.var 123) 4),heap:=[.arr 121 63 qdz (.var 127) (.var 125)],post:=fun Z=>0 <= (Z 126).i/\(Z 126).i <= (Z 127).d.length/\(Z 126).i <= (Z 122).i/\(qM (Z 127).d).take (Z 126).i.toNat = ((qM (Z 124).d).take (Z 122).i.toNat).filter (fun x=>!qid (Z 8).i x) }] }
def qoI:Inv:={ key:=5,nv:=3,env:=[(0,qu3 121 122 123),(1,qtN),(5,iv .i64 (.var 1000)),(6,iv .i64 (.var 1001))],heap:=[.arr 121 63 qdz (.var 1002) (.var 125)],inv:=(fun Z=>qfO (qid (Z 8).i) ((qM (Z 124).d).take (Z 122).i.toNat) ((qM (Z 1002).d).take (Z 122).i.toNat) (Z 1000).i (Z 1001).i/\(Z 1002).d.length = (Z 124).d.length),mu:=(fun Z=>((Z 122).i - (Z 1001).i).toNat) }
def qpD (np chal:T):SH:=qh8 (.var 9) (.var 10) (.var 11) .dnil np (.var 14) chal (.var 17) 12
def qgl:Ctr:={ fn:=58,nv:=138,args:=[ptr 0,.agg (qbT 18 qkg 29)],heap:=qbI,ro:=[.arr 24 25 qan (.var 27) (.var 28)],pre:=fun Z=>qyS Z/\(Z 25).i = (Z 27).d.length/\(Z 25).i <= big,alts:=[{ k:=6,ret:=.tup [(false,[.vnils]),(false,[.vint .i64 (.var 138)])],heap:=[qpD (.var 140) (.var 139),.arr 2 25 qan (.var 141) (.var 4),.arr 6 22 [.int .u64] (.var 142) (.var 7),.arr 12 63 qdz (.var 143) (.var 14)],post:=fun Z=>(Z 138).i = qc7 (m0 Z) (qa1 Z 18) (qb (Z 27).d)/\qa5 (m0 Z) (qa1 Z 18) (qb (Z 27).d) = []/\qaE (Z 1).i (Z 141).d (Z 142).d (Z 9).i (Z 10).i (Z 11).i (Z 140).i (Z 143).d (Z 139).i (Z 17).b = qB (m0 Z) (qa1 Z 18) (qb (Z 27).d)/\0 <= (Z 140).i/\(Z 140).i <= (Z 143).d.length/\(Z 140).i <= (Z 13).i },
  { k:=7,ret:=.tup [(false,[.vslice 138 (.lit 0) (.lit 1) (.var 139) 116]),(false,[.vint .i64 (.lit 0)])],heap:=[qpD (.var 13) (.var 144),.arr 2 25 qan (.var 142) (.var 4),.arr 6 22 [.int .u64] (.var 143) (.var 7),qgf,.arr 138 43 qaQ (.var 140) (.var 139),.abs 141 2],post:=fun Z=>qc7 (m0 Z) (qa1 Z 18) (qb (Z 27).d) = 0/\qa5 (m0 Z) (qa1 Z 18) (qb (Z 27).d) = [qam (Z 1).i (qa1 Z 18)]/\qaE (Z 1).i (Z 142).d (Z 143).d (Z 9).i (Z 10).i (Z 11).i (Z 13).i (Z 15).d (Z 144).i (Z 17).b = qB (m0 Z) (qa1 Z 18) (qb (Z 27).d)/\qa6 (Z 141).h [qam (Z 1).i (qa1 Z 18)] (Z 1).i (qB (m0 Z) (qa1 Z 18) (qb (Z 27).d)).tab 1 (Z 140).d }] }
def qs0:Inv:={ key:=7,nv:=6,env:=[(0,ptr 0),(3,ptr 1000),(20,.one qkg),(21,iv .i64 (.var 25)),(22,iv .i64 (.var 1001))],heap:=[qpD (.var 13) (.var 1005),.arr 2 25 qan (.var 1003) (.var 4),.arr 6 22 [.int .u64] (.var 1004) (.var 7),qgf,.cells 1000 43 (qbT 18 qkg 29)],inv:=(fun Z=>0 <= (Z 1001).i/\(Z 1001).i <= (Z 3).i/\(Z 1003).d.length = (Z 5).d.length/\(Z 1004).d.length = (Z 8).d.length/\(∀ j:Nat,(qb (Z 1003).d)[j]? = if (j:Int) < (Z 1001).i then (qc8 (Z 1).i (qb (Z 5).d) (qb (Z 27).d))[j]? else (qb (Z 5).d)[j]?)/\(∀ j:Nat,(qf (Z 1004).d)[j]? = if (j:Int) < (Z 1001).i then (qbh (Z 1).i (Z 9).i (qb (Z 5).d) (qf (Z 8).d) (qb (Z 27).d))[j]? else (qf (Z 8).d)[j]?)/\(Z 1005).i = if (Z 1).i < (Z 1001).i then qdx (Z 1).i (qb (Z 5).d) (qb (Z 27).d) (Z 16).i else (Z 16).i),mu:=(fun Z=>((Z 25).i - (Z 1001).i).toNat) }
end Go.Eng
namespace Go.Eng
open Go
def qcy (self n inc:Int):Mach:=⟨self,(List.replicate n.toNat ((0,0):Ent)).set self.toNat (inc,1),List.replicate n.toNat 0,0,0,self,[],0,false⟩
def qy8 (r ra rs rp:Nat) (self n capT clock seq pinged np capP chal left:T):SH:=.cells r 117 [.vint .i64 self,.vslice ra (.lit 0) n capT 2,.vslice rs (.lit 0) n n 1,.vint .u64 clock,.vint .u64 seq,.vint .i64 pinged,.vslice rp (.lit 0) np capP 4,.vint .u64 chal,.vbool left]
def qmN:Ctr:={ fn:=22,nv:=3,args:=[iv .i64 (.var 0),iv .i64 (.var 1),iv .u64 (.var 2)],heap:=[],ro:=[],pre:=fun _=>True,alts:=[
 { k:=0,ret:=.tup [(false,[.vnilp]),(false,[.vint .i64 (.lit 2)])],heap:=[],post:=fun Z=>qeD (Z 0).i (Z 1).i (Z 2).i = true },
 { k:=9,ret:=.tup [(false,[.vptr 3 (.lit 0) 0 0]),(false,[.vint .i64 (.lit 0)])],heap:=[qy8 3 4 5 8 (.var 0) (.var 1) (.var 1) (.lit 0) (.lit 0) (.var 0) (.var 9) (.var 10) (.lit 0) (.bl false),.arr 4 25 qan (.var 6) (.var 1),.arr 5 22 [.int .u64] (.var 7) (.var 1),.arr 8 63 qdz (.var 11) (.var 10)],post:=fun Z=>qeD (Z 0).i (Z 1).i (Z 2).i = false/\qaE (Z 0).i (Z 6).d (Z 7).d 0 0 (Z 0).i (Z 9).i (Z 11).d 0 false = qcy (Z 0).i (Z 1).i (Z 2).i/\((Z 6).d.length:Int) = (Z 1).i/\((Z 7).d.length:Int) = (Z 1).i/\(Z 9).i = 0 }] }
def qiO:Ctr:={ fn:=28,nv:=18,args:=[ptr 0],heap:=[],ro:=[qbw (.var 12),qfJ],pre:=fun Z=>(Z 3).i = (Z 5).d.length/\0 < (Z 3).i/\(Z 3).i <= big,alts:=[{ k:=3,ret:=.one (.vslice 18 (.lit 0) (.var 3) (.var 19) 2),heap:=[.arr 18 25 qan (.var 20) (.var 19)],post:=fun Z=>(Z 20).d = (Z 5).d }] }
def qdQ (m:Mach) (inc:Int):Int:=if m.left then 30 else if inc <= (qaO m.tab m.self).1∨inc <= m.chal then 2 else 0
def qch (m:Mach) (inc:Int):Mach:=if qdQ m inc = 0 then { m with tab:=m.tab.set m.self.toNat (inc,1),chal:=0 } else m
def qL (t:List Ent) (self:Int):List Ent:=t.set self.toNat ((qaO t self).1,4)
def qdR (m:Mach):Mach:=if m.left then m else { m with tab:=qL m.tab m.self,left:=true }
def qer (i:Int):Msg:=⟨2,0,i,0,i,0⟩
def qbv (t:List Ent):List Msg:=(qbC t).map qer
def qhT (chal left:T):SH:=.cells 0 117 [.vint .i64 (.var 1),.vslice 2 (.lit 0) (.var 3) (.var 4) 2,.vslice 6 (.lit 0) (.var 3) (.var 7) 1,.vint .u64 (.var 9),.vint .u64 (.var 10),.vint .i64 (.var 11),.var 12,.vint .u64 chal,.vbool left]
def m1 (Z:Env):Mach:=qaE (Z 1).i (Z 5).d [] (Z 9).i (Z 10).i (Z 11).i 0 [] (Z 16).i (Z 17).b
def qeL:Ctr:={ fn:=50,nv:=18,args:=[ptr 0],heap:=[],ro:=[qbw (.var 12)],pre:=fun _=>True,alts:=[{ k:=0,ret:=iv .u64 (.var 16),heap:=[],post:=fun _=>True }] }
def qk1:Ctr:={ fn:=30,nv:=18,args:=[ptr 0],heap:=[],ro:=[qbw (.var 12),qfJ],pre:=fun Z=>(Z 3).i = (Z 5).d.length/\(Z 3).i <= big,alts:=[{ k:=4,ret:=.one (.vslice 18 (.lit 0) (.var 19) (.var 20) 1),heap:=[.arr 18 3 [.int .i64] (.var 21) (.var 20)],post:=fun Z=>qf (Z 21).d = qbC (qb (Z 5).d)/\(Z 19).i = (Z 21).d.length/\(Z 19).i <= (Z 3).i }] }
def qek:Ctr:={ fn:=43,nv:=19,args:=[ptr 0,iv .u64 (.var 18)],heap:=[qbw (.var 12),qfJ],ro:=[],pre:=fun Z=>(Z 3).i = (Z 5).d.length/\0 <= (Z 1).i/\(Z 1).i < (Z 3).i,alts:=[{ k:=3,ret:=iv .i64 (.var 19),heap:=[qhT (.var 21) (.var 17),.arr 2 25 qan (.var 20) (.var 4)],post:=fun Z=>(Z 19).i = qdQ (m1 Z) (Z 18).i/\qb (Z 20).d = (qch (m1 Z) (Z 18).i).tab/\(Z 21).i = (qch (m1 Z) (Z 18).i).chal/\(Z 20).d.length = (Z 5).d.length }] }
def qeq:Ctr:={ fn:=44,nv:=18,args:=[ptr 0],heap:=[qbw (.var 12),qfJ],ro:=[],pre:=fun Z=>mOk Z/\(qaO (qb (Z 5).d) (Z 1).i).2 ≠ 0,alts:=[{ k:=0,ret:=.one .vnils,heap:=[qbw (.var 12),qfJ],post:=fun Z=>(Z 17).b = true },
 { k:=6,ret:=.one (.vslice 18 (.lit 0) (.var 19) (.var 20) 116),heap:=[qhT (.var 16) (.bl true),.arr 2 25 qan (.var 21) (.var 4),.arr 18 43 qaQ (.var 22) (.var 20),.abs 23 2],post:=fun Z=>(Z 17).b = false/\qb (Z 21).d = qL (qb (Z 5).d) (Z 1).i/\(Z 21).d.length = (Z 5).d.length/\(Z 19).i = (Z 22).d.length/\qa6 (Z 23).h (qbv (qL (qb (Z 5).d) (Z 1).i)) (Z 1).i (qL (qb (Z 5).d) (Z 1).i) (qbv (qL (qb (Z 5).d) (Z 1).i)).length (Z 22).d }] }
def qrr:Inv:={ key:=6,nv:=10,env:=[(0,ptr 0),(3,.one (.vslice 1005 (.lit 0) (.var 1006) (.var 1007) 116)),(26,.one (.vslice 1001 (.lit 0) (.var 1002) (.var 1003) 1)),(27,iv .i64 (.var 1002)),(28,iv .i64 (.var 1000))],heap:=[qhT (.var 16) (.bl true),.arr 2 25 qan (.var 1009) (.var 4),.arr 1001 3 [.int .i64] (.var 1004) (.var 1003),.arr 1005 43 qaQ (.var 1008) (.var 1007)],inv:=(fun Z=>0 <= (Z 1000).i/\(Z 1000).i <= (Z 1002).i/\(Z 1002).i = (Z 1004).d.length/\(Z 1002).i <= (Z 3).i/\qb (Z 1009).d = qL (qb (Z 5).d) (Z 1).i/\(Z 1009).d.length = (Z 5).d.length/\qf (Z 1004).d = qbC (qL (qb (Z 5).d) (Z 1).i)/\(Z 1006).i = (Z 1008).d.length/\(Z 1006).i = (Z 1000).i/\qah (Z 1008).d (((qbC (qL (qb (Z 5).d) (Z 1).i)).take (Z 1000).i.toNat).map qer)),mu:=(fun Z=>((Z 1002).i - (Z 1000).i).toNat) }
def qmF (draw:Int):Nat->Mach->Mach
 | 0,m=>m
 | n + 1,m=>qn (qmF draw n m) draw
def qjT (self n inc:Int) (t:List Ent):Mach:=qB (qcy self n inc) ⟨2,Int.tmod (self + 1) n,self,0,self,0⟩ t
end Go.Eng
namespace Go.Proofs
open Go Go.Eng
def qq0:Out:=(.br (.cmp .geq (tv 18) (tl 0))
 (tn (tl 0) (tv 3) (.ret 0 (sg 19 [bt 19 (.cmp .lss (tv 18) (tv 3))])))
 (.ret 0 (sg 19 [bt 19 (.bl false)])))
theorem qwo:qY Try.prog qhC [] [] qq0:=qA Try.func87 Try.call87 (by kernel_rfl)
@[simp] def qiX:Sg:=sg 0 [bv 17 17,bv 16 16,bv 12 12,bv 11 11,bv 10 10,bv 9 9,bv 7 7,bg 6 6,bv 4 4,bv 3 3,bg 2 2,bv 1 1,bv 18 22,bg 0 0]
@[simp] def qja:Sg:=sg 0 [bv 17 17,bv 16 16,bv 12 12,bv 11 11,bv 10 10,bv 9 9,bv 7 7,bg 6 6,bv 4 4,bv 3 3,bg 2 2,bv 1 1,bv 18 23,bg 0 0]
@[simp] def qiW:Sg:=sg 0 [bv 17 17,bv 16 16,bv 12 12,bv 11 11,bv 10 10,bv 9 9,bv 7 7,bg 6 6,bv 4 4,bv 3 3,bg 2 2,bv 1 1,bv 18 19,bg 0 0]
@[simp] def qiY:Out:=.pre 0 qiX (tb (.fresh 141 (.post 0 0 qiX 141 (.ret 0 (sg 138 [bv 138 141])))))
def qkB:Out:=(.fresh 138 (tb (.pre 0 qiW (tb (.fresh 139 (.post 0 0 qiW 139 (.br (.not (tv 139))
 (tb (.ret 0 (sg 138 [bt 138 (.bl false)])))
 (.br (.cmp .eql (tv 19) (tv 1))
 (tb (.ret 0 (sg 138 [bt 138 (.bl false)])))
 (.br (.cmp .neq (tv 20) (tv 1))
 (tb (.ret 0 (sg 138 [bt 138 (.bl false)])))
 (tb (.pre 1 (sg 0 [bv 4 28,bv 3 27,bv 2 26,bv 1 25,bg 0 24]) (tb (.fresh 140 (.post 1 0 (sg 0 [bv 4 28,bv 3 27,bv 2 26,bv 1 25,bg 0 24]) 140 (.br (.not (tv 140))
 (.ret 0 (sg 138 [bt 138 (.bl false)]))
 (tn (tl 0) (tv 25) (tn (tl 0) (tv 3) (.br (.cmp .neq (tv 25) (tv 3))
 (.ret 0 (sg 138 [bt 138 (.bl false)]))
 (.br (.cmp .eql (tv 18) (tl 1))
 qiY
 (.br (.cmp .eql (tv 18) (tl 2))
 qiY
 (.br (.cmp .eql (tv 18) (tl 3))
 (.pre 0 qja (tb (.fresh 141 (.post 0 0 qja 141 (.ret 0 (sg 138 [bv 138 141]))))))
 (.ret 0 (sg 138 [bt 138 (.bl false)])))))))))))))))))))))))
theorem qpU:qY Try.prog qeO [qhC,qgr] [] qkB:=qA Try.func81 Try.call81 (by kernel_rfl)
def qsX:Out:=(.fresh 121 (.ret 0 (sg 121 [bt 121 (.cmp .eql (tv 0) (tv 8))])))
theorem qw3:qY Try.prog qgI [] [] qsX:=qA Try.func83 Try.call83 (by kernel_rfl)
@[simp] def qkK:Sg:=sg 0 [bv 120 120,bv 119 119,bv 118 118,bv 117 117,bv 116 116,bv 115 115,bv 114 114,bv 113 113,bv 112 112,bv 111 111,bv 110 110,bv 109 109,bv 108 108,bv 107 107,bv 106 106,bv 105 105,bv 104 104,bv 103 103,bv 102 102,bv 101 101,bv 100 100,bv 99 99,bv 98 98,bv 97 97,bv 96 96,bv 95 95,bv 94 94,bv 93 93,bv 92 92,bv 91 91,bv 90 90,bv 89 89,bv 88 88,bv 87 87,bv 86 86,bv 85 85,bv 84 84,bv 83 83,bv 82 82,bv 81 81,bv 80 80,bv 79 79,bv 78 78,bv 77 77,bv 76 76,bv 75 75,bv 74 74,bv 73 73,bv 72 72,bv 71 71,bv 70 70,bv 69 69,bv 68 68,bv 67 67,bv 66 66,bv 65 65,bv 64 64,bv 63 63,bv 62 62,bv 61 61,bv 60 60,bv 59 59,bv 58 58,bv 57 57,bv 56 56,bv 55 55,bv 54 54,bv 53 53,bv 52 52,bv 51 51,bv 50 50,bv 49 49,bv 48 48,bv 47 47,bv 46 46,bv 45 45,bv 44 44,bv 43 43,bv 42 42,bv 41 41,bv 40 40,bv 39 39,bv 38 38,bv 37 37,bv 36 36,bv 35 35,bv 34 34,bv 33 33,bv 32 32,bv 31 31,bv 30 30,bv 29 29,bv 28 28,bv 27 27,bv 26 26,bv 25 25,bv 24 24,bv 23 23,bv 22 22,bv 21 21,bv 20 20,bv 19 19,bv 18 18,bv 17 17,bv 16 16,bv 15 15,bv 14 14,bv 13 13,bv 12 12,bv 11 11,bv 10 10,bv 9 9,bv 8 8,bv 7 7,bv 6 6,bv 5 5,bg 4 4,bt 3 (.bcell (tv 124) (tv 126) 3),bt 2 (.icell (tv 124) (tv 126) 2),bt 1 (.icell (tv 124) (tv 126) 1),bt 0 (.icell (tv 124) (tv 126) 0)]
def qoV:Out:=(tn (tl 0) (tv 122) (.inv 0 126 (sg 1000 [bt 1000 (tl 0)]) (.fresh 126 (.hyp 0 126 (.br (.cmp .lss (tv 126) (tv 122))
 (tn (tl 0) (tv 126) (ts (tv 126) (.dlen (tv 124)) (.pre 0 qkK (tb (.fresh 127 (.post 0 0 qkK 127 (.br (tv 127)
 (.ret 0 (sg 126 [bv 126 126]))
 (.back 0 126 (sg 1000 [bt 1000 (.arith .add .i64 (tv 126) (tl 1))])))))))))
 (.ret 0 (sg 126 [bt 126 (.lit (-1))])))))))
theorem quJ:qY Try.prog qg0 [qgI] [qqz] qoV:=qA Try.func88 Try.call88 (by kernel_rfl)
@[simp] def qj5:T:=.dtake (tv 129) (.ife (.minus (tv 122) (tv 127)) (tl 0) (.dlen (tv 129)) (.ife (tv 123) (tv 127) (tl 0) (tv 127)))
@[simp] def qjf:Sg:=sg 0 [bv 125 125,bv 124 124,bv 120 120,bv 119 119,bv 118 118,bv 117 117,bv 116 116,bv 115 115,bv 114 114,bv 113 113,bv 112 112,bv 111 111,bv 110 110,bv 109 109,bv 108 108,bv 107 107,bv 106 106,bv 105 105,bv 104 104,bv 103 103,bv 102 102,bv 101 101,bv 100 100,bv 99 99,bv 98 98,bv 97 97,bv 96 96,bv 95 95,bv 94 94,bv 93 93,bv 92 92,bv 91 91,bv 90 90,bv 89 89,bv 88 88,bv 87 87,bv 86 86,bv 85 85,bv 84 84,bv 83 83,bv 82 82,bv 81 81,bv 80 80,bv 79 79,bv 78 78,bv 77 77,bv 76 76,bv 75 75,bv 74 74,bv 73 73,bv 72 72,bv 71 71,bv 70 70,bv 69 69,bv 68 68,bv 67 67,bv 66 66,bv 65 65,bv 64 64,bv 63 63,bv 62 62,bv 61 61,bv 60 60,bv 59 59,bv 58 58,bv 57 57,bv 56 56,bv 55 55,bv 54 54,bv 53 53,bv 52 52,bv 51 51,bv 50 50,bv 49 49,bv 48 48,bv 47 47,bv 46 46,bv 45 45,bv 44 44,bv 43 43,bv 42 42,bv 41 41,bv 40 40,bv 39 39,bv 38 38,bv 37 37,bv 36 36,bv 35 35,bv 34 34,bv 33 33,bv 32 32,bv 31 31,bv 30 30,bv 29 29,bv 28 28,bv 27 27,bv 26 26,bv 25 25,bv 24 24,bv 23 23,bv 22 22,bv 21 21,bv 20 20,bv 19 19,bv 18 18,bv 17 17,bv 16 16,bv 15 15,bv 14 14,bv 13 13,bv 12 12,bv 11 11,bv 10 10,bv 9 9,bv 8 8,bv 7 7,bv 6 6,bv 5 5,bg 4 4,bv 123 123,bv 122 122,bg 121 121]
@[simp] def qjx:Sg:=sg 0 [bv 120 120,bv 119 119,bv 118 118,bv 117 117,bv 116 116,bv 115 115,bv 114 114,bv 113 113,bv 112 112,bv 111 111,bv 110 110,bv 109 109,bv 108 108,bv 107 107,bv 106 106,bv 105 105,bv 104 104,bv 103 103,bv 102 102,bv 101 101,bv 100 100,bv 99 99,bv 98 98,bv 97 97,bv 96 96,bv 95 95,bv 94 94,bv 93 93,bv 92 92,bv 91 91,bv 90 90,bv 89 89,bv 88 88,bv 87 87,bv 86 86,bv 85 85,bv 84 84,bv 83 83,bv 82 82,bv 81 81,bv 80 80,bv 79 79,bv 78 78,bv 77 77,bv 76 76,bv 75 75,bv 74 74,bv 73 73,bv 72 72,bv 71 71,bv 70 70,bv 69 69,bv 68 68,bv 67 67,bv 66 66,bv 65 65,bv 64 64,bv 63 63,bv 62 62,bv 61 61,bv 60 60,bv 59 59,bv 58 58,bv 57 57,bv 56 56,bv 55 55,bv 54 54,bv 53 53,bv 52 52,bv 51 51,bv 50 50,bv 49 49,bv 48 48,bv 47 47,bv 46 46,bv 45 45,bv 44 44,bv 43 43,bv 42 42,bv 41 41,bv 40 40,bv 39 39,bv 38 38,bv 37 37,bv 36 36,bv 35 35,bv 34 34,bv 33 33,bv 32 32,bv 31 31,bv 30 30,bv 29 29,bv 28 28,bv 27 27,bv 26 26,bv 25 25,bv 24 24,bv 23 23,bv 22 22,bv 21 21,bv 20 20,bv 19 19,bv 18 18,bv 17 17,bv 16 16,bv 15 15,bv 14 14,bv 13 13,bv 12 12,bv 11 11,bv 10 10,bv 9 9,bv 8 8,bv 7 7,bv 6 6,bv 5 5,bg 4 4,bt 3 (.bcell (tv 129) (tv 128) 3),bt 2 (.icell (tv 129) (tv 128) 2),bt 1 (.icell (tv 129) (tv 128) 1),bt 0 (.icell (tv 129) (tv 128) 0)]
def qmd:Out:=(.pre 0 qjf (tb (.fresh 126 (.post 0 0 qjf 126 (.br (.cmp .eql (tv 126) (.lit (-1)))
 (.ret 0 (sg 126 [bv 127 124,bv 126 122]))
 (.inv 0 127 (sg 1000 [bv 1002 124,bt 1001 (.arith .add .i64 (tv 126) (tl 1)),bv 1000 126]) (fr 127 3 (.hyp 0 127 (tn (tl 0) (tv 122) (.br (.cmp .lss (tv 128) (tv 122))
 (tn (tl 0) (tv 128) (ts (tv 128) (.dlen (tv 129)) (.fresh 130 (.pre 1 qjx (tb (.fresh 131 (.post 1 0 qjx 131 (.br (.not (tv 131))
 (tn (tl 0) (tv 127) (ts (tv 127) (tv 122) (ts (tv 127) (.dlen (tv 129)) (.back 0 127 (sg 1000 [bt 1002 (.dput (tv 129) (tv 127) 0 (.rcons (.vint .u64 (.icell (tv 129) (tv 128) 0)) (.rcons (ti (.icell (tv 129) (tv 128) 1)) (.rcons (.vint .u64 (.icell (tv 129) (tv 128) 2)) (.rcons (.vbool (.bcell (tv 129) (tv 128) 3)) .rnil))))),bt 1001 (.arith .add .i64 (tv 128) (tl 1)),bt 1000 (.arith .add .i64 (tv 127) (tl 1))])))))
 (.back 0 127 (sg 1000 [bv 1002 129,bt 1001 (.arith .add .i64 (tv 128) (tl 1)),bv 1000 127]))))))))))
 (.know (.cmp .leq (.dlen (tv 129)) (tv 125)) (tn (tl 0) (tv 123) (tn (tl 0) (tv 127) (tn (tv 127) (tv 122) (tn (tv 122) (tv 123) (tn (tl 0) (.ife (tv 123) (tv 127) (tl 0) (tv 127)) (tn (tl 0) (.minus (tv 122) (tv 127)) (tn (.plus (.ife (tv 123) (tv 127) (tl 0) (tv 127)) (.minus (tv 122) (tv 127))) (.dlen (tv 129)) (.fresh 130 (.know (.cmp .leq (.dlen qj5) (tv 125)) (tn (tv 127) (tv 123) (.ret 0 (sg 126 [bt 127 qj5,bv 126 127])))))))))))))))))))))))
theorem qsc:qY Try.prog qf8 [qg0,qgI] [qoI] qmd:=qA Try.func82 Try.call82 (by kernel_rfl)
@[simp] def qkC:T:=.rcons (ti (tl 0)) (.rcons .vnils (.rcons .vnils (.rcons .vnils (.rcons (ti (tl 0)) (rr 32 (tu (tl 0)) (.rcons .vnils (.rcons (.vbool (.bl false)) (rr 32 (tu (tl 0)) (rr 4 (ti (tl 0)) (rr 32 (tu (tl 0)) (.rcons .vnils (.rcons (ti (tl 0)) (.rcons .vnils (.rcons (ti (tl 0)) .rnil))))))))))))))
@[simp] def qkG:T:=.rcons (.vint .u64 (tv 21)) (.rcons (ti (tv 19)) qkC)
@[simp] def qlq:T:=.rcons (.vint .u64 (tv 21)) (.rcons (ti (tv 22)) qkC)
@[simp] def qfj:Out:=.ret 1 (sg 138 [bg 141 150,bv 140 148,bv 143 144,bv 142 143,bv 144 145,bt 139 (tl 1),bg 138 147])
@[simp] def qli:Out:=.back 0 140 (sg 1000 [bv 1004 148,bv 1003 147,bv 1005 145,bt 1001 (.arith .add .i64 (tv 141) (tl 1)),bg 1000 140])
@[simp] def qk8:Sg:=sg 0 [bt 3 (.icell (tv 143) (tv 141) 1),bt 2 (.icell (tv 143) (tv 141) 0),bt 1 (.icell (tv 27) (tv 141) 1),bt 0 (.icell (tv 27) (tv 141) 0)]
@[simp] def qhm:Sg:=sg 0 [bt 3 (.icell (tv 27) (tv 141) 1),bt 2 (.icell (tv 27) (tv 141) 0),bt 1 (.icell (tv 143) (tv 141) 1),bt 0 (.icell (tv 143) (tv 141) 0)]
@[simp] def qi8:Sg:=sg 0 [bv 17 17,bv 16 16,bt 12 (.vslice 12 (tl 0) (tv 13) (tv 14) 4),bv 11 11,bv 10 10,bv 9 9,bv 7 7,bg 6 6,bv 4 4,bv 3 3,bg 2 2,bv 1 1,bg 0 0]
@[simp] def qm9:Sg:=sg 0 [bv 8 144,bv 5 143,bv 17 17,bv 16 145,bt 12 (.vslice 12 (tl 0) (tv 13) (tv 14) 4),bv 11 11,bv 10 10,bv 9 9,bv 7 7,bg 6 6,bv 4 4,bv 3 3,bg 2 2,bv 1 1,bt 20 (.icell (tv 27) (tv 141) 1),bt 19 (.icell (tv 27) (tv 141) 0),bv 18 141,bg 0 0]
@[simp] def qlX:Sg:=sg 0 [bv 8 144,bv 5 143,bv 17 17,bv 16 145,bt 12 (.vslice 12 (tl 0) (tv 13) (tv 14) 4),bv 11 11,bv 10 10,bv 9 9,bv 7 7,bg 6 6,bv 4 4,bv 3 3,bg 2 2,bv 1 1,bt 20 (.icell (tv 143) (tv 141) 1),bt 19 (.icell (tv 143) (tv 141) 0),bv 18 141,bg 0 0]
@[simp] def qmP:Sg:=sg 0 [bv 120 137,bv 119 136,bv 118 135,bv 117 134,bv 116 133,bv 115 132,bv 114 131,bv 113 130,bv 112 129,bv 111 128,bv 110 127,bv 109 126,bv 108 125,bv 107 124,bv 106 123,bv 105 122,bv 104 121,bv 103 120,bv 102 119,bv 101 118,bv 100 117,bv 99 116,bv 98 115,bv 97 114,bv 96 113,bv 95 112,bv 94 111,bv 93 110,bv 92 109,bv 91 108,bv 90 107,bv 89 106,bv 88 105,bv 87 104,bv 86 103,bv 85 102,bv 84 101,bv 83 100,bv 82 99,bv 81 98,bv 80 97,bv 79 96,bv 78 95,bv 77 94,bv 76 93,bv 75 92,bv 74 91,bv 73 90,bv 72 89,bv 71 88,bv 70 87,bv 69 86,bv 68 85,bv 67 84,bv 66 83,bv 65 82,bv 64 81,bv 63 80,bv 62 79,bv 61 78,bv 60 77,bv 59 76,bv 58 75,bv 57 74,bv 56 73,bv 55 72,bv 54 71,bv 53 70,bv 52 69,bv 51 68,bv 50 67,bv 49 66,bv 48 65,bv 47 64,bv 46 63,bv 45 62,bv 44 61,bv 43 60,bv 42 59,bv 41 58,bv 40 57,bv 39 56,bv 38 55,bv 37 54,bv 36 53,bv 35 52,bv 34 51,bv 33 50,bv 32 49,bv 31 48,bv 30 47,bv 29 46,bv 28 45,bv 27 44,bv 26 43,bv 25 42,bv 24 41,bv 23 40,bv 22 39,bv 21 38,bv 20 37,bv 19 36,bv 18 35,bv 17 34,bv 16 33,bv 15 32,bv 14 31,bv 13 30,bv 12 29,bt 11 (.vslice 24 (tl 0) (tv 25) (tv 26) 2),bv 10 23,bv 9 22,bv 8 21,bv 7 20,bv 6 19,bv 5 18,bv 125 14,bv 124 15,bg 4 140,bv 123 14,bv 122 13,bg 121 12]
@[simp] def qnu:Sg:=sg 0 [bv 28 28,bv 27 27,bv 17 17,bv 16 16,bt 12 (.vslice 12 (tl 0) (tv 13) (tv 14) 4),bv 11 11,bv 10 10,bv 9 9,bv 7 7,bg 6 6,bv 4 4,bv 3 3,bg 2 2,bv 1 1,bv 137 137,bv 136 136,bv 135 135,bv 134 134,bv 133 133,bv 132 132,bv 131 131,bv 130 130,bv 129 129,bv 128 128,bv 127 127,bv 126 126,bv 125 125,bv 124 124,bv 123 123,bv 122 122,bv 121 121,bv 120 120,bv 119 119,bv 118 118,bv 117 117,bv 116 116,bv 115 115,bv 114 114,bv 113 113,bv 112 112,bv 111 111,bv 110 110,bv 109 109,bv 108 108,bv 107 107,bv 106 106,bv 105 105,bv 104 104,bv 103 103,bv 102 102,bv 101 101,bv 100 100,bv 99 99,bv 98 98,bv 97 97,bv 96 96,bv 95 95,bv 94 94,bv 93 93,bv 92 92,bv 91 91,bv 90 90,bv 89 89,bv 88 88,bv 87 87,bv 86 86,bv 85 85,bv 84 84,bv 83 83,bv 82 82,bv 81 81,bv 80 80,bv 79 79,bv 78 78,bv 77 77,bv 76 76,bv 75 75,bv 74 74,bv 73 73,bv 72 72,bv 71 71,bv 70 70,bv 69 69,bv 68 68,bv 67 67,bv 66 66,bv 65 65,bv 64 64,bv 63 63,bv 62 62,bv 61 61,bv 60 60,bv 59 59,bv 58 58,bv 57 57,bv 56 56,bv 55 55,bv 54 54,bv 53 53,bv 52 52,bv 51 51,bv 50 50,bv 49 49,bv 48 48,bv 47 47,bv 46 46,bv 45 45,bv 44 44,bv 43 43,bv 42 42,bv 41 41,bv 40 40,bv 39 39,bv 38 38,bv 37 37,bv 36 36,bv 35 35,bv 34 34,bv 33 33,bv 32 32,bv 31 31,bv 30 30,bv 29 29,bv 26 26,bv 25 25,bg 24 24,bv 23 23,bv 22 22,bv 21 21,bv 20 20,bv 19 19,bv 18 18,bg 0 0]
@[simp] def qml:Sg:=sg 0 [bv 5 143,bv 17 17,bv 16 145,bt 12 (.vslice 12 (tl 0) (tv 13) (tv 14) 4),bv 11 11,bv 10 10,bv 9 9,bv 7 7,bg 6 6,bv 4 4,bv 3 3,bg 2 2,bv 1 1,bt 21 (.rcons (tu (tl 2)) (.rcons (ti (tl 0)) (.rcons (ti (tv 19)) qlq))),bt 20 (tl 1),bt 19 (tl 1),bg 18 147,bg 0 0]
@[simp] def qmv:Sg:=sg 0 [bv 5 143,bv 17 17,bv 16 145,bt 12 (.vslice 12 (tl 0) (tv 13) (tv 14) 4),bv 11 11,bv 10 10,bv 9 9,bv 7 7,bg 6 6,bv 4 4,bv 3 3,bg 2 2,bv 1 1,bt 21 (.rcons (tu (tl 2)) (.rcons (ti (tl 0)) (.rcons (ti (tv 22)) qlq))),bt 20 (tl 1),bt 19 (tl 1),bg 18 147,bg 0 0]
@[simp] def qlZ:Sg:=sg 0 [bv 5 143,bv 17 17,bv 16 145,bt 12 (.vslice 12 (tl 0) (tv 13) (tv 14) 4),bv 11 11,bv 10 10,bv 9 9,bv 7 7,bg 6 6,bv 4 4,bv 3 3,bg 2 2,bv 1 1,bt 21 (.rcons (tu (tl 2)) (.rcons (ti (tl 0)) (.rcons (ti (tv 19)) qkG))),bt 20 (tl 1),bt 19 (tl 1),bg 18 147,bg 0 0]
@[simp] def qnl:Sg:=sg 0 [bv 5 143,bv 17 17,bv 16 145,bt 12 (.vslice 12 (tl 0) (tv 13) (tv 14) 4),bv 11 11,bv 10 10,bv 9 9,bv 7 7,bg 6 6,bv 4 4,bv 3 3,bg 2 2,bv 1 1,bt 21 (.rcons (tu (tl 1)) (.rcons (ti (tl 0)) (.rcons (ti (tv 23)) qkG))),bt 20 (tl 1),bt 19 (tl 1),bg 18 147,bg 0 0]
def qqc:Out:=(.fresh 138 (.pre 0 qi8 (.both (.post 0 0 qi8 139 (.ret 0 (sg 138 [bv 143 15,bv 142 8,bv 141 5,bv 139 16,bv 140 13,bt 138 (tl 30)]))) (tb (.post 0 1 qi8 139 (.pre 1 qnu (tb (.fresh 139 (.post 1 0 qnu 139 (.br (.not (tv 139))
 (.ret 0 (sg 138 [bv 143 15,bv 142 8,bv 141 5,bv 139 16,bv 140 13,bt 138 (tl 2)]))
 (tn (tl 0) (tv 25) (.inv 0 140 (sg 1000 [bv 1004 8,bv 1003 5,bv 1005 16,bt 1001 (tl 0),bg 1000 138]) (fr 140 6 (.hyp 0 140 (.br (.cmp .lss (tv 141) (tv 25))
 (tn (tl 0) (tv 141) (ts (tv 141) (.dlen (tv 27)) (.fresh 146 (.br (.cmp .neq (tv 141) (tv 1))
 (ts (tv 141) (tv 3) (ts (tv 141) (.dlen (tv 143)) (tb (.pre 2 qhm (.both (.post 2 0 qhm 147 (tb (.pre 4 qm9 (tb (fr 147 2 (.post 4 0 qm9 147 qli)))))) (tb (.post 2 1 qhm 147 (tb (.pre 4 qlX (tb (fr 147 2 (.post 4 0 qlX 147 qli))))))))))))
 (ts (tv 141) (tv 3) (ts (tv 141) (.dlen (tv 143)) (tb (.pre 3 qk8 (tb (.post 3 0 qk8 147 (.br (.or (.cmp .gtr (.icell (tv 27) (tv 141) 0) (.icell (tv 143) (tv 141) 0)) (.and (.cmp .eql (.icell (tv 27) (tv 141) 0) (.icell (tv 143) (tv 141) 0)) (.cmp .gtr (.icell (tv 27) (tv 141) 1) (.icell (tv 143) (tv 141) 1))))
 (tb (.back 0 140 (sg 1000 [bv 1004 144,bv 1003 143,bt 1005 (.imax (tv 145) (.icell (tv 27) (tv 141) 0)),bt 1001 (.arith .add .i64 (tv 141) (tl 1)),bg 1000 140])))
 (.back 0 140 (sg 1000 [bv 1004 144,bv 1003 143,bv 1005 145,bt 1001 (.arith .add .i64 (tv 141) (tl 1)),bg 1000 140])))))))))))))
 (.fresh 146 (.br (.cmp .eql (tv 18) (tl 3))
 (.br (.cmp .neq (tv 23) (tv 1))
 (tb (tb (tb (.fresh 147 (.pre 6 qnl (tb (fr 148 2 (.post 6 0 qnl 148 (.pack [.abs 149 2,.cells 146 43 [(tu (tl 1)),(ti (tl 0)),(ti (tv 23)),(.vint .u64 (tv 21)),(ti (tv 19)),(ti (tl 0)),.vnils,.vnils,.vnils,(ti (tl 0)),(tu (tl 0)),(tu (tl 0)),(tu (tl 0)),(tu (tl 0)),(tu (tl 0)),(tu (tl 0)),(tu (tl 0)),(tu (tl 0)),(tu (tl 0)),(tu (tl 0)),(tu (tl 0)),(tu (tl 0)),(tu (tl 0)),(tu (tl 0)),(tu (tl 0)),(tu (tl 0)),(tu (tl 0)),(tu (tl 0)),(tu (tl 0)),(tu (tl 0)),(tu (tl 0)),(tu (tl 0)),(tu (tl 0)),(tu (tl 0)),(tu (tl 0)),(tu (tl 0)),(tu (tl 0)),(tu (tl 0)),(tu (tl 0)),(tu (tl 0)),(tu (tl 0)),(tu (tl 0)),.vnils,(.vbool (.bl false)),(tu (tl 0)),(tu (tl 0)),(tu (tl 0)),(tu (tl 0)),(tu (tl 0)),(tu (tl 0)),(tu (tl 0)),(tu (tl 0)),(tu (tl 0)),(tu (tl 0)),(tu (tl 0)),(tu (tl 0)),(tu (tl 0)),(tu (tl 0)),(tu (tl 0)),(tu (tl 0)),(tu (tl 0)),(tu (tl 0)),(tu (tl 0)),(tu (tl 0)),(tu (tl 0)),(tu (tl 0)),(tu (tl 0)),(tu (tl 0)),(tu (tl 0)),(tu (tl 0)),(tu (tl 0)),(tu (tl 0)),(tu (tl 0)),(tu (tl 0)),(tu (tl 0)),(tu (tl 0)),(ti (tl 0)),(ti (tl 0)),(ti (tl 0)),(ti (tl 0)),(tu (tl 0)),(tu (tl 0)),(tu (tl 0)),(tu (tl 0)),(tu (tl 0)),(tu (tl 0)),(tu (tl 0)),(tu (tl 0)),(tu (tl 0)),(tu (tl 0)),(tu (tl 0)),(tu (tl 0)),(tu (tl 0)),(tu (tl 0)),(tu (tl 0)),(tu (tl 0)),(tu (tl 0)),(tu (tl 0)),(tu (tl 0)),(tu (tl 0)),(tu (tl 0)),(tu (tl 0)),(tu (tl 0)),(tu (tl 0)),(tu (tl 0)),(tu (tl 0)),(tu (tl 0)),(tu (tl 0)),(tu (tl 0)),(tu (tl 0)),(tu (tl 0)),(tu (tl 0)),.vnils,(ti (tl 0)),.vnils,(ti (tl 0))],.cells 140 43 [(tu (tv 18)),(ti (tv 19)),(ti (tv 20)),(.vint .u64 (tv 21)),(ti (tv 22)),(ti (tv 23)),(.vslice 24 (tl 0) (tv 25) (tv 26) 2),(tv 29),(tv 30),(tv 31),(tv 32),(tv 33),(tv 34),(tv 35),(tv 36),(tv 37),(tv 38),(tv 39),(tv 40),(tv 41),(tv 42),(tv 43),(tv 44),(tv 45),(tv 46),(tv 47),(tv 48),(tv 49),(tv 50),(tv 51),(tv 52),(tv 53),(tv 54),(tv 55),(tv 56),(tv 57),(tv 58),(tv 59),(tv 60),(tv 61),(tv 62),(tv 63),(tv 64),(tv 65),(tv 66),(tv 67),(tv 68),(tv 69),(tv 70),(tv 71),(tv 72),(tv 73),(tv 74),(tv 75),(tv 76),(tv 77),(tv 78),(tv 79),(tv 80),(tv 81),(tv 82),(tv 83),(tv 84),(tv 85),(tv 86),(tv 87),(tv 88),(tv 89),(tv 90),(tv 91),(tv 92),(tv 93),(tv 94),(tv 95),(tv 96),(tv 97),(tv 98),(tv 99),(tv 100),(tv 101),(tv 102),(tv 103),(tv 104),(tv 105),(tv 106),(tv 107),(tv 108),(tv 109),(tv 110),(tv 111),(tv 112),(tv 113),(tv 114),(tv 115),(tv 116),(tv 117),(tv 118),(tv 119),(tv 120),(tv 121),(tv 122),(tv 123),(tv 124),(tv 125),(tv 126),(tv 127),(tv 128),(tv 129),(tv 130),(tv 131),(tv 132),(tv 133),(tv 134),(tv 135),(tv 136),(tv 137)]] 150 qfj)))))))))
 (.fresh 147 (.pre 6 qlZ (tb (fr 148 2 (.post 6 0 qlZ 148 (.pack [.abs 149 2,.cells 146 43 [(tu (tl 2)),(ti (tl 0)),(ti (tv 19)),(.vint .u64 (tv 21)),(ti (tv 19)),(ti (tl 0)),.vnils,.vnils,.vnils,(ti (tl 0)),(tu (tl 0)),(tu (tl 0)),(tu (tl 0)),(tu (tl 0)),(tu (tl 0)),(tu (tl 0)),(tu (tl 0)),(tu (tl 0)),(tu (tl 0)),(tu (tl 0)),(tu (tl 0)),(tu (tl 0)),(tu (tl 0)),(tu (tl 0)),(tu (tl 0)),(tu (tl 0)),(tu (tl 0)),(tu (tl 0)),(tu (tl 0)),(tu (tl 0)),(tu (tl 0)),(tu (tl 0)),(tu (tl 0)),(tu (tl 0)),(tu (tl 0)),(tu (tl 0)),(tu (tl 0)),(tu (tl 0)),(tu (tl 0)),(tu (tl 0)),(tu (tl 0)),(tu (tl 0)),.vnils,(.vbool (.bl false)),(tu (tl 0)),(tu (tl 0)),(tu (tl 0)),(tu (tl 0)),(tu (tl 0)),(tu (tl 0)),(tu (tl 0)),(tu (tl 0)),(tu (tl 0)),(tu (tl 0)),(tu (tl 0)),(tu (tl 0)),(tu (tl 0)),(tu (tl 0)),(tu (tl 0)),(tu (tl 0)),(tu (tl 0)),(tu (tl 0)),(tu (tl 0)),(tu (tl 0)),(tu (tl 0)),(tu (tl 0)),(tu (tl 0)),(tu (tl 0)),(tu (tl 0)),(tu (tl 0)),(tu (tl 0)),(tu (tl 0)),(tu (tl 0)),(tu (tl 0)),(tu (tl 0)),(tu (tl 0)),(ti (tl 0)),(ti (tl 0)),(ti (tl 0)),(ti (tl 0)),(tu (tl 0)),(tu (tl 0)),(tu (tl 0)),(tu (tl 0)),(tu (tl 0)),(tu (tl 0)),(tu (tl 0)),(tu (tl 0)),(tu (tl 0)),(tu (tl 0)),(tu (tl 0)),(tu (tl 0)),(tu (tl 0)),(tu (tl 0)),(tu (tl 0)),(tu (tl 0)),(tu (tl 0)),(tu (tl 0)),(tu (tl 0)),(tu (tl 0)),(tu (tl 0)),(tu (tl 0)),(tu (tl 0)),(tu (tl 0)),(tu (tl 0)),(tu (tl 0)),(tu (tl 0)),(tu (tl 0)),(tu (tl 0)),(tu (tl 0)),(tu (tl 0)),(tu (tl 0)),.vnils,(ti (tl 0)),.vnils,(ti (tl 0))],.cells 140 43 [(tu (tv 18)),(ti (tv 19)),(ti (tv 20)),(.vint .u64 (tv 21)),(ti (tv 22)),(ti (tv 23)),(.vslice 24 (tl 0) (tv 25) (tv 26) 2),(tv 29),(tv 30),(tv 31),(tv 32),(tv 33),(tv 34),(tv 35),(tv 36),(tv 37),(tv 38),(tv 39),(tv 40),(tv 41),(tv 42),(tv 43),(tv 44),(tv 45),(tv 46),(tv 47),(tv 48),(tv 49),(tv 50),(tv 51),(tv 52),(tv 53),(tv 54),(tv 55),(tv 56),(tv 57),(tv 58),(tv 59),(tv 60),(tv 61),(tv 62),(tv 63),(tv 64),(tv 65),(tv 66),(tv 67),(tv 68),(tv 69),(tv 70),(tv 71),(tv 72),(tv 73),(tv 74),(tv 75),(tv 76),(tv 77),(tv 78),(tv 79),(tv 80),(tv 81),(tv 82),(tv 83),(tv 84),(tv 85),(tv 86),(tv 87),(tv 88),(tv 89),(tv 90),(tv 91),(tv 92),(tv 93),(tv 94),(tv 95),(tv 96),(tv 97),(tv 98),(tv 99),(tv 100),(tv 101),(tv 102),(tv 103),(tv 104),(tv 105),(tv 106),(tv 107),(tv 108),(tv 109),(tv 110),(tv 111),(tv 112),(tv 113),(tv 114),(tv 115),(tv 116),(tv 117),(tv 118),(tv 119),(tv 120),(tv 121),(tv 122),(tv 123),(tv 124),(tv 125),(tv 126),(tv 127),(tv 128),(tv 129),(tv 130),(tv 131),(tv 132),(tv 133),(tv 134),(tv 135),(tv 136),(tv 137)]] 150 qfj)))))))
 (.br (.cmp .eql (tv 18) (tl 2))
 (.br (.cmp .eql (tv 22) (tv 1))
 (.pre 5 qmP (tb (fr 147 2 (.post 5 0 qmP 147 (.ret 0 (sg 138 [bv 143 148,bv 142 144,bv 141 143,bv 139 145,bv 140 147,bt 138 (tl 0)]))))))
 (.fresh 147 (.pre 6 qmv (tb (fr 148 2 (.post 6 0 qmv 148 (.pack [.abs 149 2,.cells 146 43 [(tu (tl 2)),(ti (tl 0)),(ti (tv 22)),(.vint .u64 (tv 21)),(ti (tv 22)),(ti (tl 0)),.vnils,.vnils,.vnils,(ti (tl 0)),(tu (tl 0)),(tu (tl 0)),(tu (tl 0)),(tu (tl 0)),(tu (tl 0)),(tu (tl 0)),(tu (tl 0)),(tu (tl 0)),(tu (tl 0)),(tu (tl 0)),(tu (tl 0)),(tu (tl 0)),(tu (tl 0)),(tu (tl 0)),(tu (tl 0)),(tu (tl 0)),(tu (tl 0)),(tu (tl 0)),(tu (tl 0)),(tu (tl 0)),(tu (tl 0)),(tu (tl 0)),(tu (tl 0)),(tu (tl 0)),(tu (tl 0)),(tu (tl 0)),(tu (tl 0)),(tu (tl 0)),(tu (tl 0)),(tu (tl 0)),(tu (tl 0)),(tu (tl 0)),.vnils,(.vbool (.bl false)),(tu (tl 0)),(tu (tl 0)),(tu (tl 0)),(tu (tl 0)),(tu (tl 0)),(tu (tl 0)),(tu (tl 0)),(tu (tl 0)),(tu (tl 0)),(tu (tl 0)),(tu (tl 0)),(tu (tl 0)),(tu (tl 0)),(tu (tl 0)),(tu (tl 0)),(tu (tl 0)),(tu (tl 0)),(tu (tl 0)),(tu (tl 0)),(tu (tl 0)),(tu (tl 0)),(tu (tl 0)),(tu (tl 0)),(tu (tl 0)),(tu (tl 0)),(tu (tl 0)),(tu (tl 0)),(tu (tl 0)),(tu (tl 0)),(tu (tl 0)),(tu (tl 0)),(tu (tl 0)),(ti (tl 0)),(ti (tl 0)),(ti (tl 0)),(ti (tl 0)),(tu (tl 0)),(tu (tl 0)),(tu (tl 0)),(tu (tl 0)),(tu (tl 0)),(tu (tl 0)),(tu (tl 0)),(tu (tl 0)),(tu (tl 0)),(tu (tl 0)),(tu (tl 0)),(tu (tl 0)),(tu (tl 0)),(tu (tl 0)),(tu (tl 0)),(tu (tl 0)),(tu (tl 0)),(tu (tl 0)),(tu (tl 0)),(tu (tl 0)),(tu (tl 0)),(tu (tl 0)),(tu (tl 0)),(tu (tl 0)),(tu (tl 0)),(tu (tl 0)),(tu (tl 0)),(tu (tl 0)),(tu (tl 0)),(tu (tl 0)),(tu (tl 0)),(tu (tl 0)),.vnils,(ti (tl 0)),.vnils,(ti (tl 0))],.cells 140 43 [(tu (tv 18)),(ti (tv 19)),(ti (tv 20)),(.vint .u64 (tv 21)),(ti (tv 22)),(ti (tv 23)),(.vslice 24 (tl 0) (tv 25) (tv 26) 2),(tv 29),(tv 30),(tv 31),(tv 32),(tv 33),(tv 34),(tv 35),(tv 36),(tv 37),(tv 38),(tv 39),(tv 40),(tv 41),(tv 42),(tv 43),(tv 44),(tv 45),(tv 46),(tv 47),(tv 48),(tv 49),(tv 50),(tv 51),(tv 52),(tv 53),(tv 54),(tv 55),(tv 56),(tv 57),(tv 58),(tv 59),(tv 60),(tv 61),(tv 62),(tv 63),(tv 64),(tv 65),(tv 66),(tv 67),(tv 68),(tv 69),(tv 70),(tv 71),(tv 72),(tv 73),(tv 74),(tv 75),(tv 76),(tv 77),(tv 78),(tv 79),(tv 80),(tv 81),(tv 82),(tv 83),(tv 84),(tv 85),(tv 86),(tv 87),(tv 88),(tv 89),(tv 90),(tv 91),(tv 92),(tv 93),(tv 94),(tv 95),(tv 96),(tv 97),(tv 98),(tv 99),(tv 100),(tv 101),(tv 102),(tv 103),(tv 104),(tv 105),(tv 106),(tv 107),(tv 108),(tv 109),(tv 110),(tv 111),(tv 112),(tv 113),(tv 114),(tv 115),(tv 116),(tv 117),(tv 118),(tv 119),(tv 120),(tv 121),(tv 122),(tv 123),(tv 124),(tv 125),(tv 126),(tv 127),(tv 128),(tv 129),(tv 130),(tv 131),(tv 132),(tv 133),(tv 134),(tv 135),(tv 136),(tv 137)]] 150 qfj)))))))
 (.fresh 147 (.pre 6 qml (tb (fr 148 2 (.post 6 0 qml 148 (.pack [.abs 149 2,.cells 146 43 [(tu (tl 2)),(ti (tl 0)),(ti (tv 19)),(.vint .u64 (tv 21)),(ti (tv 22)),(ti (tl 0)),.vnils,.vnils,.vnils,(ti (tl 0)),(tu (tl 0)),(tu (tl 0)),(tu (tl 0)),(tu (tl 0)),(tu (tl 0)),(tu (tl 0)),(tu (tl 0)),(tu (tl 0)),(tu (tl 0)),(tu (tl 0)),(tu (tl 0)),(tu (tl 0)),(tu (tl 0)),(tu (tl 0)),(tu (tl 0)),(tu (tl 0)),(tu (tl 0)),(tu (tl 0)),(tu (tl 0)),(tu (tl 0)),(tu (tl 0)),(tu (tl 0)),(tu (tl 0)),(tu (tl 0)),(tu (tl 0)),(tu (tl 0)),(tu (tl 0)),(tu (tl 0)),(tu (tl 0)),(tu (tl 0)),(tu (tl 0)),(tu (tl 0)),.vnils,(.vbool (.bl false)),(tu (tl 0)),(tu (tl 0)),(tu (tl 0)),(tu (tl 0)),(tu (tl 0)),(tu (tl 0)),(tu (tl 0)),(tu (tl 0)),(tu (tl 0)),(tu (tl 0)),(tu (tl 0)),(tu (tl 0)),(tu (tl 0)),(tu (tl 0)),(tu (tl 0)),(tu (tl 0)),(tu (tl 0)),(tu (tl 0)),(tu (tl 0)),(tu (tl 0)),(tu (tl 0)),(tu (tl 0)),(tu (tl 0)),(tu (tl 0)),(tu (tl 0)),(tu (tl 0)),(tu (tl 0)),(tu (tl 0)),(tu (tl 0)),(tu (tl 0)),(tu (tl 0)),(tu (tl 0)),(ti (tl 0)),(ti (tl 0)),(ti (tl 0)),(ti (tl 0)),(tu (tl 0)),(tu (tl 0)),(tu (tl 0)),(tu (tl 0)),(tu (tl 0)),(tu (tl 0)),(tu (tl 0)),(tu (tl 0)),(tu (tl 0)),(tu (tl 0)),(tu (tl 0)),(tu (tl 0)),(tu (tl 0)),(tu (tl 0)),(tu (tl 0)),(tu (tl 0)),(tu (tl 0)),(tu (tl 0)),(tu (tl 0)),(tu (tl 0)),(tu (tl 0)),(tu (tl 0)),(tu (tl 0)),(tu (tl 0)),(tu (tl 0)),(tu (tl 0)),(tu (tl 0)),(tu (tl 0)),(tu (tl 0)),(tu (tl 0)),(tu (tl 0)),(tu (tl 0)),.vnils,(ti (tl 0)),.vnils,(ti (tl 0))],.cells 140 43 [(tu (tv 18)),(ti (tv 19)),(ti (tv 20)),(.vint .u64 (tv 21)),(ti (tv 22)),(ti (tv 23)),(.vslice 24 (tl 0) (tv 25) (tv 26) 2),(tv 29),(tv 30),(tv 31),(tv 32),(tv 33),(tv 34),(tv 35),(tv 36),(tv 37),(tv 38),(tv 39),(tv 40),(tv 41),(tv 42),(tv 43),(tv 44),(tv 45),(tv 46),(tv 47),(tv 48),(tv 49),(tv 50),(tv 51),(tv 52),(tv 53),(tv 54),(tv 55),(tv 56),(tv 57),(tv 58),(tv 59),(tv 60),(tv 61),(tv 62),(tv 63),(tv 64),(tv 65),(tv 66),(tv 67),(tv 68),(tv 69),(tv 70),(tv 71),(tv 72),(tv 73),(tv 74),(tv 75),(tv 76),(tv 77),(tv 78),(tv 79),(tv 80),(tv 81),(tv 82),(tv 83),(tv 84),(tv 85),(tv 86),(tv 87),(tv 88),(tv 89),(tv 90),(tv 91),(tv 92),(tv 93),(tv 94),(tv 95),(tv 96),(tv 97),(tv 98),(tv 99),(tv 100),(tv 101),(tv 102),(tv 103),(tv 104),(tv 105),(tv 106),(tv 107),(tv 108),(tv 109),(tv 110),(tv 111),(tv 112),(tv 113),(tv 114),(tv 115),(tv 116),(tv 117),(tv 118),(tv 119),(tv 120),(tv 121),(tv 122),(tv 123),(tv 124),(tv 125),(tv 126),(tv 127),(tv 128),(tv 129),(tv 130),(tv 131),(tv 132),(tv 133),(tv 134),(tv 135),(tv 136),(tv 137)]] 150 qfj))))))))))))))))))))))))
theorem qvw:qY Try.prog qgl [qbX,qeO,qlU,qg2,qgE,qf8,qcK] [qs0] qqc:=qA Try.func58 Try.call58 (by kernel_rfl)
theorem qv9:qhC.ok Try.prog:=qwo (by simp) fun Z hg hp=>by
 have hp:0 <= (Z 3).i:=hp;simp [qq0,qhC,qk0,hp];exact ⟨fun h=>by simp [h,qS],fun h=>by omega⟩
theorem qrf:qeO.ok Try.prog:=qpU (by simp [qv9,qtR]) fun Z hg hp=>by
 obtain ⟨h0,h1,h2⟩:=hp;simp [qkB,qeO,qhC,qgr,qcs,qcx,qa1,qi];refine ⟨h0,fun u _ hu=>⟨fun h3=>?_,fun h3=>⟨fun h4=>?_,fun h4=>⟨fun h5=>?_,fun h5=>⟨⟨h1,h2⟩,fun v _ hv=>⟨fun h6=>?_,fun h6=>⟨by omega,h0,fun h7=>?_,fun h7=>⟨fun h8=>⟨h0,fun x _ hx=>?_⟩,fun h8=>⟨fun h9=>⟨h0,fun x _ hx=>?_⟩,fun h9=>⟨fun h10=>⟨h0,fun x _ hx=>?_⟩,fun h10=>?_⟩⟩⟩⟩⟩⟩⟩⟩⟩⟩
 all_goals simp only [qgA,qad]
 all_goals (try rw [<- hu])
 all_goals (try rw [<- hv])
 all_goals (try simp only [<- h1])
 all_goals simp_all
theorem qre:qgI.ok Try.prog:=qw3 (by simp) fun Z hg hp=>by
 simp [qsX,qgI,qid,qS]
theorem qvL (d:List (List Value)) (n:Nat):qM (d.take n) = (qM d).take n:=by simp [qM,jcz]
theorem qgn {d:List (List Value)} {i n:Int} (h0:0 <= i) (hn:i < n) (h:n <= (d.length:Int)):((qM d).take n.toNat)[i.toNat]? = some ⟨qc d i 0,qc d i 1,qc d i 2,qcc d i 3⟩:=by
 rw [jbe,jag (by omega)]; exact qmL h0 (by omega)
theorem qji {d:List (List Value)} {n:Int} (h0:0 <= n) (h:n <= (d.length:Int)):((qM d).take n.toNat).length = n.toNat:=by rw [jbc,ql3]; omega
theorem quC:qg0.ok Try.prog:=quJ (by simp [qre]) fun Z hg hp=>by
 obtain ⟨hl,h0,hb⟩:=hp;have hlen:=qji h0 hl;simp [qoV,qg0,qqz,qgI,qi,qnd];refine ⟨h0,fun u _ q0 q1 q2=>⟨fun h3=>⟨q0,by omega,fun u1 _ h4=>⟨fun h5=>?_,fun h5=>⟨?_,?_⟩⟩⟩,fun h3=>.inl ⟨rfl,qom (by omega) q2⟩⟩⟩
 ·exact .inr ⟨q0,by omega,q2,by rw [qgn q0 h3 hl]; simp [<- h4,h5]⟩
 ·rw [qay q0 h3 hb,qaB q0]
  exact ⟨by omega,by omega,qng (qgn q0 h3 hl) q2 (by rw [<- h4,h5])⟩
 ·rw [qay q0 h3 hb]; omega
theorem qrY:qf8.ok Try.prog:=qsc (by simp [quC,qre]) fun Z hg hp=>by
 obtain ⟨hl,hn0,hb,hcap⟩:=hp;have hlen:=qji hn0 hl;simp [qmd,qf8,qoI,qg0,qgI,qi];refine ⟨⟨hl,hn0,hb⟩,fun u _ hu=>⟨fun h1=>?_,fun h1=>?_⟩⟩
 ·refine ⟨hn0,by omega,?_⟩
  rcases hu with ⟨_,h2⟩ | ⟨h2,_⟩
  ·have:=qgF h2
   rw [ja0 (jbj _)] at this;exact this.symm
  ·omega
 ·have h0:0 <= u.i/\u.i < (Z 122).i:=by
   rcases hu with ⟨h2,_⟩ | ⟨h2,h3,_⟩
   ·exact absurd h2 h1
   ·rw [hlen] at h3; omega
  refine ⟨by rw [qay h0.1 h0.2 hb]; exact qmB hu h1,fun ui _ uj _ ud _ g gl=>⟨hn0,fun g1=>?_,fun g1=>?_⟩⟩
  ·have hg':=g
   obtain ⟨k0,k1,k2,k3,k4,k5⟩:=g;rw [hlen] at k2;have hc:=qgn (d:=ud.d) (i:=uj.i) (n:=(Z 122).i) (by omega) g1 (by omega);rw [qay (n:=(Z 122).i) (show 0 <= uj.i by omega) g1 hb];refine ⟨by omega,by omega,fun u3 _ h3=>⟨fun h4=>⟨by omega,by omega,by omega,⟨?_,by rw [qbP]; exact gl⟩,by omega⟩,fun h4=>⟨?_,by omega⟩⟩⟩
   ·rw [qay (n:=(Z 122).i) (show 0 <= ui.i by omega) (by omega) hb,qqE (by omega) (by omega),List.take_set]
    exact qnk hg' (by rw [hlen]; omega) hc (by rw [<- h3,h4])
   ·exact ⟨qnq hg' (by rw [hlen]; omega) hc (by rw [<- h3,h4]),gl⟩
  ·have hg':=g
   obtain ⟨k0,k1,k2,k3,k4,k5⟩:=g;rw [hlen] at k2;intro hkn;have hd:=qmp hg' (by rw [hlen]; omega);rw [jew,show min ui.i.toNat (Z 122).i.toNat = ui.i.toNat by omega] at hd;have hmin:(if (Z 122).i - ui.i = 0 then (ud.d.length:Int) else if (Z 123).i = ui.i then 0 else ui.i).toNat = if (Z 122).i - ui.i = 0 then ud.d.length else ui.i.toNat:=by
    split
    ·simp
    ·rw [jaf (by omega)]
   simp only [hmin];refine ⟨by omega,by omega,by omega,by omega,?_,by omega,?_,fun hk2=>⟨by omega,by omega,?_,by omega,?_⟩⟩
   ·split <;> omega
   ·split <;> omega
   ·split <;> omega
   ·rw [qvL,jew,<- hd]
    congr 1
    split <;> omega
theorem qrB {self:Int} {tab t:List Ent} {i:Nat} {x y:Ent} (h:tab[i]? = some x) (hy:t[i]? = some y):(qc8 self tab t)[i]? = some (if (i:Int) = self then x else qb1 x y):=by
 simp only [qc8,jdc,h,ja9,qd,jai,hy,jbi]
theorem qiS {self clock:Int} {tab t:List Ent} {since:List Int} {i:Nat} {x y:Ent} {s:Int} (h:tab[i]? = some x) (hy:t[i]? = some y) (hs:since[i]? = some s):(qbh self clock tab since t)[i]? = some (if (i:Int) ≠ self/\qb1 x y ≠ x/\(qb1 x y).2 = 2 then clock else s):=by
 simp only [qbh,jdc,hs,ja9,qd,jai,hy,h,jbi]
theorem qct {self:Int} {tab t:List Ent}:(qc8 self tab t).length = tab.length:=by simp [qc8]
theorem qed {self clock:Int} {tab t:List Ent} {since:List Int}:(qbh self clock tab since t).length = since.length:=by simp [qbh]
theorem qpb {α:Type} {old new cur:List α} {i:Int} (h:qdB old new cur i) (ho:(old.length:Int) <= i) (hn:(new.length:Int) <= i):cur = new:=by
 apply jbo;intro j;rw [h j];split
 ·rfl
 ·rw [jap (by omega),jap (by omega)]
theorem qwp {α:Type} {old new cur:List α} {i:Int} (h:qdB old new cur i) (h0:0 <= i):cur[i.toNat]? = old[i.toNat]?:=by
 have:=h i.toNat; rwa [jaf (by omega)] at this
theorem qiq {α:Type} {old new cur:List α} {i:Int} (h:qdB old new cur i) (h0:0 <= i) (hx:new[i.toNat]? = old[i.toNat]?):qdB old new cur (i + 1):=fun j=>by
 rw [h j];by_cases hj:(j:Int) = i
 ·subst hj
  simp only [jbw] at hx;rw [jaf (by omega),jag (by omega),hx]
 ·by_cases hj2:(j:Int) < i
  ·rw [jag hj2,jag (by omega)]
  ·rw [jaf hj2,jaf (by omega)]
theorem qnZ {α:Type} {old new cur:List α} {i:Int} {x:α} (h:qdB old new cur i) (h0:0 <= i) (hi:i.toNat < cur.length) (hx:new[i.toNat]? = some x):qdB old new (cur.set i.toNat x) (i + 1):=fun j=>by
 rw [ja4];by_cases hj:i.toNat = j
 ·subst hj
  rw [jag rfl,jag hi,jag (by omega),hx]
 ·rw [jaf hj,h j]
  by_cases hj2:(j:Int) < i
  ·rw [jag hj2,jag (by omega)]
  ·rw [jaf hj2,jaf (by omega)]
theorem qnz {self clock:Int} {tab t curT:List Ent} {since curS:List Int} {i:Int} {x y:Ent}
  (h:qdB since (qbh self clock tab since t) curS i) (hT:curT[i.toNat]? = some x) (hx:tab[i.toNat]? = some x) (hy:t[i.toNat]? = some y) (h0:0 <= i) (hne:i ≠ self) (hi:i.toNat < curS.length) (hs:i.toNat < since.length) :
  qdB since (qbh self clock tab since t) (qb6 curT curS clock i (qb1 x y)) (i + 1):=by
 have hsg:since[i.toNat]? = some since[i.toNat]:=jae hs;have hg:=qiS (self:=self) (clock:=clock) hx hy hsg;rw [jb9 h0] at hg;unfold qb6;rw [hT];by_cases hc:qb1 x y ≠ x/\(qb1 x y).2 = 2
 ·rw [jag ⟨fun e=>hc.1 (jat e).symm,hc.2⟩]
  rw [jag ⟨hne,hc.1,hc.2⟩] at hg;exact qnZ h h0 hi hg
 ·rw [jaf (fun e=>hc ⟨fun e'=>e.1 (by rw [e']),e.2⟩)]
  rw [jaf (fun e=>hc ⟨e.2.1,e.2.2⟩)] at hg;exact qiq h h0 (by rw [hg,hsg])
theorem qoX {t:List Ent} {i:Nat} {x:Ent} (h:t[i]? = some x):qd t i = x:=by simp [qd,jai,h]
set_option maxRecDepth 20000 in
set_option maxHeartbeats 4000000 in
theorem qoO:qgl.ok Try.prog:=qvw (by simp [qfV,qrf,qyv,qqg,qqr,qrY,qil]) fun Z hg hp=>by
 obtain ⟨⟨⟨a1,a2,a3,a4,a5,a6,a7,a8⟩,h2,h3,h4,h5⟩,h8,h9⟩:=hp;simp only [m0,qaE,qad,qV] at a1 a2 a3 a4 a5 a6 a7 a8;simp [qqc,qgl,qs0,qbX,qeO,qlU,qaC,qg2,qak,qgE,qf8,qcK,qi,mOk,m0,qa1];generalize hM:qaE (Z 1).i (Z 5).d (Z 8).d (Z 9).i (Z 10).i (Z 11).i (Z 13).i (Z 15).d (Z 16).i (Z 17).b = M;generalize hG:(⟨(Z 18).i,(Z 19).i,(Z 20).i,(Z 21).i,(Z 22).i,(Z 23).i⟩:Msg) = G;have hbig:(16:Int) <= big:=by decide
 have hbig2:(1000000:Int) <= big:=by decide
 have hM1:M.left = (Z 17).b:=by subst hM; rfl
 have hM2:M.self = (Z 1).i:=by subst hM; rfl
 have hM3:(M.tab.length:Int) = (Z 3).i:=by subst hM; simp only [qaE,qad]; omega
 intro _ _;refine ⟨fun hL=>?_,fun hL=>⟨⟨by omega,h8,h9⟩,fun ub _ kb=>⟨fun hb=>?_,fun hb=>?_⟩⟩⟩
 ·have hE:qc7 M G (qb (Z 27).d) = 30:=by rw [qc7,hM1,jag hL]
  exact ⟨hE.symm,by rw [qa5,hE]; simp,by rw [qB,hE]; simp,h3,h4⟩
 ·have hE:qc7 M G (qb (Z 27).d) = 2:=by rw [qc7,hM1,jaf (by simp [hL]),hM2,hM3,<- kb,hb]; simp
  exact ⟨hE.symm,by rw [qa5,hE]; simp,by rw [qB,hE]; simp,h3,h4⟩
 rw [hb] at kb;have kb':=kb;have hE:qc7 M G (qb (Z 27).d) = 0:=by rw [qc7,hM1,jaf (by simp [hL]),hM2,hM3,<- kb]; simp
 have hSM:qB M G (qb (Z 27).d) = qaK M G (qb (Z 27).d):=by rw [qB,jag hE]
 have hAn:qa5 M G (qb (Z 27).d) = if qb4 (Z 1).i G = false then [qam (Z 1).i G] else []:=by rw [qa5,hE,hM2]; simp
 rw [hE,hSM,hAn];have hlt:((qb (Z 27).d).length:Int) = (Z 3).i:=by
  have:=kb'.symm; simp only [qgA,jad,jaw] at this; exact this.1.2
 rw [qad] at hlt;refine ⟨by omega,⟨by omega,fun j hj=>by omega,fun j hj=>by omega,fun hj=>by omega⟩,?_⟩;intro ux _ ui _ uy _ uT _ uS _ uc _ g0 g1 g2 g3 g4 g5 g6;have m4:qdB (qb (Z 5).d) (qc8 (Z 1).i (qb (Z 5).d) (qb (Z 27).d)) (qb uT.d) ui.i:=g4;have m5:qdB (qf (Z 8).d) (qbh (Z 1).i (Z 9).i (qb (Z 5).d) (qf (Z 8).d) (qb (Z 27).d)) (qf uS.d) ui.i:=g5;constructor
 ·intro hi
  rw [qay g0 hi h9];have hx:(qb uT.d)[ui.i.toNat]? = some (qc uT.d ui.i 0,qc uT.d ui.i 1):=qbH g0 (by omega);have hx':=(qwp m4 g0).symm.trans hx;have hy:(qb (Z 27).d)[ui.i.toNat]? = some (qc (Z 27).d ui.i 0,qc (Z 27).d ui.i 1):=qbH g0 (by omega);have hrt:=qrB (self:=(Z 1).i) hx' hy;rw [jb9 g0] at hrt;have hchal:ui.i ≠ (Z 1).i->uc.i = if (Z 1).i < ui.i + 1 then qdx (Z 1).i (qb (Z 5).d) (qb (Z 27).d) (Z 16).i else (Z 16).i:=fun hne=>by
   rw [g6];by_cases hc:(Z 1).i < ui.i
   ·rw [jag hc,jag (by omega)]
   ·rw [jaf hc,jaf (by omega)]
  have step:∀ (z:Ent) (v1 v2:U),ui.i ≠ (Z 1).i->qb1 (qc uT.d ui.i 0,qc uT.d ui.i 1) (qc (Z 27).d ui.i 0,qc (Z 27).d ui.i 1) = z->qb v1.d = qcl (qb uT.d) ui.i z->qf v2.d = qb6 (qb uT.d) (qf uS.d) (Z 9).i ui.i z->qdB (qb (Z 5).d) (qc8 (Z 1).i (qb (Z 5).d) (qb (Z 27).d)) (qb v1.d) (ui.i + 1)/\qdB (qf (Z 8).d) (qbh (Z 1).i (Z 9).i (qb (Z 5).d) (qf (Z 8).d) (qb (Z 27).d)) (qf v2.d) (ui.i + 1):=fun z v1 v2 hne hz k1 k2=>by
   rw [jaf hne,hz] at hrt;rw [k1,k2,qcl,<- hz];rw [<- hz] at hrt;exact ⟨qnZ m4 g0 (by rw [qad]; omega) hrt,qnz m5 hx hx' hy g0 hne (by rw [qV]; omega) (by rw [qV]; omega)⟩
  refine ⟨g0,by omega,fun hne=>⟨by omega,by omega,fun hnw=>⟨⟨by omega,by omega,g0,by omega⟩,fun v1 _ v2 _ k1 k2 k3 k4=>?_⟩,fun hnw=>⟨⟨by omega,by omega,g0,by omega⟩,fun v1 _ v2 _ k1 k2 k3 k4=>?_⟩⟩,fun heq=>⟨by omega,by omega,fun hnw=>?_,fun hnw1 hnw2=>?_⟩⟩
  ·obtain ⟨s1,s2⟩:=step _ v1 v2 hne (by simp only [qb1,qbt,hnw,ja5]) k1 k2
   exact ⟨⟨by omega,by omega,by omega,by omega,s1,s2,hchal hne⟩,by omega⟩
  ·obtain ⟨s1,s2⟩:=step _ v1 v2 hne (by simp only [qb1,qbt,hnw]; simp) k1 k2
   exact ⟨⟨by omega,by omega,by omega,by omega,s1,s2,hchal hne⟩,by omega⟩
  all_goals
   have s1:=qiq m4 g0 (by rw [hrt,jag heq,hx']);have s2:qdB (qf (Z 8).d) (qbh (Z 1).i (Z 9).i (qb (Z 5).d) (qf (Z 8).d) (qb (Z 27).d)) (qf uS.d) (ui.i + 1):=qiq m5 g0 (by
    have hsg:(qf (Z 8).d)[ui.i.toNat]? = some _:=jae (by rw [qV]; omega);rw [qiS hx' hy hsg,jaf (fun h=>h.1 (by omega)),hsg])
   have e1:=qoX hx';have e2:=qoX hy;rw [show ui.i.toNat = (Z 1).i.toNat by omega] at e1 e2
  ·have hnw':qbt (qc (Z 27).d ui.i 0,qc (Z 27).d ui.i 1) (qc uT.d ui.i 0,qc uT.d ui.i 1) = true:=by
    simp only [qbt,qdV,jcc,jaw,jad,jdq]; omega
   refine ⟨⟨by omega,by omega,g2,g3,s1,s2,?_⟩,by omega⟩;rw [jag (show (Z 1).i < ui.i + 1 by omega),g6,jaf (show ¬ (Z 1).i < ui.i by omega)];simp only [qdx,e1,e2,hnw',ja5];omega
  ·have hnw':qbt (qc (Z 27).d ui.i 0,qc (Z 27).d ui.i 1) (qc uT.d ui.i 0,qc uT.d ui.i 1) = false:=by
    rw [Bool.eq_false_iff];simp only [qbt,qdV,ne_eq,jcc,jaw,jad,jdq]; omega
   refine ⟨⟨by omega,by omega,g2,g3,s1,s2,?_⟩,by omega⟩;rw [jag (show (Z 1).i < ui.i + 1 by omega),g6,jaf (show ¬ (Z 1).i < ui.i by omega)];simp [qdx,e1,e2,hnw']
 ·intro hge
  have hT:=qpb m4 (by rw [qad]; omega) (by rw [qct,qad]; omega);have hS:=qpb m5 (by rw [qV]; omega) (by rw [qed,qV]; omega);have hC:uc.i = qdx (Z 1).i (qb (Z 5).d) (qb (Z 27).d) (Z 16).i:=by rw [g6,jag (by omega)]
  have hRM:∀ (np:Int) (dP:List (List Value)),(qM dP).take np.toNat = (if qb4 (Z 1).i G then ((qM (Z 15).d).take (Z 13).i.toNat).filter (fun p=>!(p.seq == G.seq)) else (qM (Z 15).d).take (Z 13).i.toNat)->qaE (Z 1).i uT.d uS.d (Z 9).i (Z 10).i (Z 11).i np dP uc.i (Z 17).b = qaK M G (qb (Z 27).d):=fun np dP h=>by
   subst hM;unfold qaE qaK;simp only [hT,hS,hC,h]
  have hTT:(qaK M G (qb (Z 27).d)).tab = qb uT.d:=by rw [hT]; subst hM; rfl
  have hst:∀ (g:Msg) (h:Hp) (d:List (List Value)),qam (Z 1).i G = g->(∀ ms:List Msg,qah [qgG g] ms->qa6 h ms (Z 1).i (qb uT.d) ms.length d)->∀ h',Hp.le h h'->qa6 h' [qam (Z 1).i G] (Z 1).i (qaK M G (qb (Z 27).d)).tab 1 d:=fun g h d hg hs h' hl=>by
   rw [hg,hTT]; exact qeG (hs [g] rfl) hl
  have hle:∀ {Z':Env} {l:List SH} {H h:Hp},qD Z' (SH.abs 149 2 :: l) H->(Z' 149).h = h->Hp.le h H:=fun hs he=>by
   obtain ⟨hb,lb,db⟩:=qel hs (jac ..);subst he;exact Hp.le_trans (by simpa using db.1) lb
  have hok:((Z 3).i = uT.d.length/\2 <= (Z 3).i/\(Z 3).i <= 16/\0 <= (Z 1).i/\(Z 1).i < (Z 3).i/\0 <= (Z 11).i/\(Z 11).i < (Z 3).i):=⟨by omega,by omega,by omega,by omega,by omega,by omega,by omega⟩;intro uz _;refine ⟨fun k3=>⟨fun kt=>?_,fun kt=>?_⟩,fun k3=>⟨fun k2=>⟨fun ko=>?_,fun ko=>?_⟩,fun k2=>?_⟩⟩
  ·have hfm:qb4 (Z 1).i G = false:=by subst hG; simp [qb4, *]
   intro _ _;refine ⟨⟨hok,by omega,[⟨1,0,(Z 23).i,(Z 21).i,(Z 19).i,0⟩],rfl⟩,fun uD _ uH _ ks uF _ kF=>⟨rfl,by rw [jag hfm],hRM _ _ ?_,hst ⟨1,0,(Z 23).i,(Z 21).i,(Z 19).i,0⟩ _ _ ?_ ks _ (hle kF ?_)⟩⟩
   ·subst hG; simp [qb4,k3]
   ·subst hG; simp [qam,k3,kt]
   ·simp
  ·have hfm:qb4 (Z 1).i G = false:=by subst hG; simp [qb4, *]
   intro _ _;refine ⟨⟨hok,by omega,[⟨2,0,(Z 19).i,(Z 21).i,(Z 19).i,0⟩],rfl⟩,fun uD _ uH _ ks uF _ kF=>⟨rfl,by rw [jag hfm],hRM _ _ ?_,hst ⟨2,0,(Z 19).i,(Z 21).i,(Z 19).i,0⟩ _ _ ?_ ks _ (hle kF ?_)⟩⟩
   ·subst hG; simp [qb4,k3]
   ·subst hG; simp [qam,k3,kt]
   ·simp
  ·have hfm:qb4 (Z 1).i G = true:=by subst hG; simp [qb4, *]
   refine ⟨⟨h4,h3,by omega⟩,fun un _ uP _ q1 q2 q3 q4=>⟨rfl,by rw [jaf (by simp [hfm])],hRM _ _ ?_,q1,q2,q3⟩⟩
   ·subst hG; simp only [qb4,k2,ko,q4]; simp [qid]
  ·have hfm:qb4 (Z 1).i G = false:=by subst hG; simp [qb4, *]
   intro _ _;refine ⟨⟨hok,by omega,[⟨2,0,(Z 22).i,(Z 21).i,(Z 22).i,0⟩],rfl⟩,fun uD _ uH _ ks uF _ kF=>⟨rfl,by rw [jag hfm],hRM _ _ ?_,hst ⟨2,0,(Z 22).i,(Z 21).i,(Z 22).i,0⟩ _ _ ?_ ks _ (hle kF ?_)⟩⟩
   ·subst hG; simp [qb4,ko]
   ·subst hG; simp [qam,k2]
   ·simp
  ·have hfm:qb4 (Z 1).i G = false:=by subst hG; simp [qb4, *]
   intro _ _;refine ⟨⟨hok,by omega,[⟨2,0,(Z 19).i,(Z 21).i,(Z 22).i,0⟩],rfl⟩,fun uD _ uH _ ks uF _ kF=>⟨rfl,by rw [jag hfm],hRM _ _ ?_,hst ⟨2,0,(Z 19).i,(Z 21).i,(Z 22).i,0⟩ _ _ ?_ ks _ (hle kF ?_)⟩⟩
   ·subst hG; simp [qb4,k2]
   ·subst hG; simp [qam,k2,k3]
   ·simp
end Go.Proofs
namespace Go.Eng
open Go
abbrev qbp:=List (List Value)
def okM (dT dS dP:qbp) (np n most:Int):Prop:=(dT.length:Int) = n/\(dS.length:Int) = n/\0 <= np/\np <= dP.length/\np <= most
def HL (me n:Int) (t:List Ent) (dL:qbp) (nl:Int):Prop:=qf dL = qbC (qjT me n 1 t).tab/\nl = dL.length/\nl <= n
def HI (me n draw i:Int) (t:List Ent) (m:Mach) (dT dS dP:qbp) (np:Int) (dL:qbp) (nl:Int):Prop :=
 0 <= i/\i <= 5/\okM dT dS dP np n i/\m = qmF draw i.toNat (qjT me n 1 t)/\HL me n t dL nl
def HM (me n draw i:Int) (t:List Ent) (m:Mach) (dT dS dP:qbp) (np:Int) (dL:qbp) (nl:Int) (nm:Int) (dM:qbp) (h:Hp) (nPr:Int) (dPr:qbp):Prop :=
 i = 4/\okM dT dS dP np n 5/\m = qmF draw 5 (qjT me n 1 t)/\HL me n t dL nl/\nm = dM.length/\qa6 h (qas (qmF draw 4 (qjT me n 1 t)) draw) me m.tab (qas (qmF draw 4 (qjT me n 1 t)) draw).length dM/\qM dPr = m.probes/\nPr = dPr.length
end Go.Eng
namespace Go.Proofs
open Go Go.Eng
@[simp] def qkq:T:=.drep (tv 1) (.rcons (.vint .u64 (tl 0)) (.rcons (tu (tl 0)) .rnil))
@[simp] def qpg:T:=.cmp .lss (tv 0) (.dlen qkq)
def qs8:Out:=(.br (.cmp .lss (tv 1) (tl 2))
 (.ret 0 (sg 3 []))
 (.br (.cmp .gtr (tv 1) (tl 16))
 (.ret 0 (sg 3 []))
 (.br (.cmp .lss (tv 0) (tl 0))
 (.ret 0 (sg 3 []))
 (.br (.cmp .geq (tv 0) (tv 1))
 (.ret 0 (sg 3 []))
 (.br (.cmp .eql (tv 2) (tl 0))
 (.ret 0 (sg 3 []))
 (.both (tn (tl 0) (tv 1) (tn (.tims (tl 16) (tv 1)) (tl 281474976710656) (.fresh 3 (tb (tn (.tims (tl 8) (tv 1)) (tl 281474976710656) (.fresh 4 (tb (.fresh 5 (tn (tl 0) (tv 0) (ts (tv 0) (tv 1) (.need qpg (.ret 1 (sg 3 [bt 11 .dnil,bt 7 (.drep (tv 1) (.rcons (.vint .u64 (tl 0)) .rnil)),bt 6 (.dput qkq (tv 0) 0 (.rcons (.vint .u64 (tv 2)) (.rcons (tu (tl 1)) .rnil))),bt 10 (tl 0),bt 9 (tl 0),(8,.nil),bg 5 4,bg 4 3,bg 3 5]))))))))))))) (tb (tn (tl 0) (tv 1) (tn (.tims (tl 8) (tv 1)) (tl 281474976710656) (.fresh 3 (tb (tn (.tims (tl 16) (tv 1)) (tl 281474976710656) (.fresh 4 (tb (.fresh 5 (tn (tl 0) (tv 0) (ts (tv 0) (tv 1) (.need qpg (.ret 1 (sg 3 [bt 11 .dnil,bt 7 (.drep (tv 1) (.rcons (.vint .u64 (tl 0)) .rnil)),bt 6 (.dput qkq (tv 0) 0 (.rcons (.vint .u64 (tv 2)) (.rcons (tu (tl 1)) .rnil))),bt 10 (tl 0),bt 9 (tl 0),(8,.nil),bg 5 3,bg 4 4,bg 3 5]))))))))))))))))))))
theorem qwG:qY Try.prog qmN [] [] qs8:=qA Try.func22 Try.call22 (by kernel_rfl)
def qos:Out:=(.pre 0 (sg 0 [bv 4 4,bv 3 5,bv 2 4,bv 1 3,bg 0 2]) (tb (fr 18 3 (.post 0 0 (sg 0 [bv 4 4,bv 3 5,bv 2 4,bv 1 3,bg 0 2]) 18 (.ret 0 (sg 18 [bv 20 20,bv 19 19,bg 18 18]))))))
theorem quf:qY Try.prog qiO [qeo] [] qos:=qA Try.func28 Try.call28 (by kernel_rfl)
theorem qqL:qmN.ok Try.prog:=qwG (by simp) fun Z hg hp=>by
 have hrep:qb (List.replicate (Z 1).i.toNat [.int .u64 0,.int .u8 0]) = List.replicate (Z 1).i.toNat (0,0):=by simp [qb,qbO,qbK]
 have hrepi:qf (List.replicate (Z 1).i.toNat [.int .u64 0]) = List.replicate (Z 1).i.toNat 0:=by simp [qf,qbO,qbK]
 have htab:∀ h0:0 <= (Z 0).i,∀ h:(Z 0).i < (Z 1).i,qb (qH (List.replicate (Z 1).i.toNat [.int .u64 0,.int .u8 0]) (Z 0).i 0 [.int .u64 (Z 2).i,.int .u8 1]) = (List.replicate (Z 1).i.toNat (0,0)).set (Z 0).i.toNat ((Z 2).i,1):=fun h0 h=>by
  rw [ql9 h0 (by simp; omega),hrep,qcl]
 simp [qs8,qmN,qeD,qcy,qaE,qM,hrepi,qbP];refine ⟨fun h1=>by omega,fun h1=>⟨fun h2=>by omega,fun h2=>⟨fun h3=>by omega,fun h3=>⟨fun h4=>by omega,fun h4=>⟨fun h5=>by omega,fun h5=>⟨⟨by omega,by omega,by omega,by omega,by omega,by omega,⟨by omega,h5⟩,htab h3 h4,by omega⟩,by omega,by omega,by omega,by omega,by omega,by omega,⟨by omega,h5⟩,htab h3 h4,by omega⟩⟩⟩⟩⟩⟩
theorem qmR:qiO.ok Try.prog:=quf (by simp [qlW]) fun Z hg hp=>by
 obtain ⟨h1,h2,h3⟩:=hp;simp [qos,qiO,qeo];exact ⟨h1,h2,h3⟩
def qjc:Out:=(.ret 0 (sg 18 []))
theorem qnR:qY Try.prog qeL [] [] qjc:=qA Try.func50 Try.call50 (by kernel_rfl)
def qq4:Out:=(.pre 0 (sg 0 [bv 4 4,bv 3 5,bv 2 4,bv 1 3,bg 0 2]) (tb (fr 18 4 (.post 0 0 (sg 0 [bv 4 4,bv 3 5,bv 2 4,bv 1 3,bg 0 2]) 18 (.ret 0 (sg 18 [bv 21 20,bv 20 19,bv 19 21,bg 18 18]))))))
theorem qve:qY Try.prog qk1 [qdA] [] qq4:=qA Try.func30 Try.call30 (by kernel_rfl)
@[simp] def qhq:Sg:=sg 0 [bv 17 17,bv 16 16,bv 12 12,bv 11 11,bv 10 10,bv 9 9,bv 7 7,bg 6 6,bv 4 4,bv 3 3,bg 2 2,bv 1 1,bg 0 0]
def qo2:Out:=(.pre 0 qhq (.both (.post 0 0 qhq 19 (.ret 0 (sg 19 [bv 20 5,bv 21 16,bt 19 (tl 30)]))) (tb (.post 0 1 qhq 19 (tn (tl 0) (tv 1) (ts (tv 1) (tv 3) (ts (tv 1) (.dlen (tv 5)) (.br (.cmp .leq (tv 18) (.icell (tv 5) (tv 1) 0))
 (.ret 0 (sg 19 [bv 20 5,bv 21 16,bt 19 (tl 2)]))
 (.br (.cmp .leq (tv 18) (tv 16))
 (.ret 0 (sg 19 [bv 20 5,bv 21 16,bt 19 (tl 2)]))
 (ts (tl 0) (.dlen (tv 5)) (tb (tb (tb (tb (.ret 0 (sg 19 [bt 20 (.dput (tv 5) (tv 1) 0 (.rcons (.vint .u64 (tv 18)) (.rcons (tu (tl 1)) .rnil))),bt 21 (tl 0),bt 19 (tl 0)]))))))))))))))))
theorem quO:qY Try.prog qek [qbX] [] qo2:=qA Try.func43 Try.call43 (by kernel_rfl)
@[simp] def qhz:Sg:=sg 0 [bv 17 17,bv 16 16,bv 12 12,bv 11 11,bv 10 10,bv 9 9,bv 7 7,bg 6 6,bv 4 4,bv 3 3,bg 2 2,bv 1 1,bg 0 0]
@[simp] def qkD:Sg:=sg 0 [bv 5 31,bt 17 (.bl true),bv 16 16,bv 12 12,bv 11 11,bv 10 10,bv 9 9,bv 7 7,bg 6 6,bv 4 4,bv 3 3,bg 2 2,bv 1 1,bv 21 30,bv 20 29,bv 19 28,bg 18 27,bg 0 0]
def qod:Out:=(.pre 0 qhz (.both (.post 0 0 qhz 18 (.ret 0 (sg 18 []))) (tb (.post 0 1 qhz 18 (tn (tl 0) (tv 1) (ts (tv 1) (tv 3) (ts (tl 0) (.dlen (tv 5)) (tb (ts (tv 1) (.dlen (tv 5)) (tb (tb (tb (.pre 1 (sg 0 [bv 4 4,bt 3 (.dput (tv 5) (tv 1) 1 (.rcons (tu (tl 4)) .rnil)),bv 2 4,bv 1 3,bg 0 2]) (tb (fr 18 4 (.post 1 0 (sg 0 [bv 4 4,bt 3 (.dput (tv 5) (tv 1) 1 (.rcons (tu (tl 4)) .rnil)),bv 2 4,bv 1 3,bg 0 2]) 18 (tn (tl 0) (tv 21) (.inv 0 22 (sg 1000 [bt 1008 .dnil,bv 1004 20,bt 1009 (.dput (tv 5) (tv 1) 1 (.rcons (tu (tl 4)) .rnil)),bt 1000 (tl 0),bv 1003 19,bv 1002 21,bg 1001 18,bt 1007 (tl 0),bt 1006 (tl 0),(1005,.nil)]) (fr 22 10 (.hyp 0 22 (.br (.cmp .lss (tv 22) (tv 24))
 (tn (tl 0) (tv 22) (ts (tv 22) (.dlen (tv 26)) (.fresh 32 (.need (.cmp .eql (tv 28) (.dlen (tv 30))) (tn (.tims (tl 352) (.plus (tv 28) (tl 1))) (tl 140737488355328) (fr 33 2 (.back 0 22 (sg 1000 [bt 1008 (.dapp (tv 30) (.rcons (tu (tl 2)) (.rcons (ti (tl 0)) (.rcons (ti (.icell (tv 26) (tv 22) 0)) (.rcons (.vint .u64 (tl 0)) (.rcons (ti (.icell (tv 26) (tv 22) 0)) (.rcons (ti (tl 0)) (.rcons .vnils (.rcons .vnils (.rcons .vnils (.rcons (ti (tl 0)) (rr 32 (tu (tl 0)) (.rcons .vnils (.rcons (.vbool (.bl false)) (rr 32 (tu (tl 0)) (rr 4 (ti (tl 0)) (rr 32 (tu (tl 0)) (.rcons .vnils (.rcons (ti (tl 0)) (.rcons .vnils (.rcons (ti (tl 0)) .rnil))))))))))))))))))))),bv 1004 26,bv 1009 31,bt 1000 (.arith .add .i64 (tv 22) (tl 1)),bv 1003 25,bv 1002 24,bg 1001 23,bv 1007 34,bt 1006 (.plus (tv 28) (tl 1)),bg 1005 33]))))))))
 (.pre 2 qkD (tb (fr 32 2 (.post 2 0 qkD 32 (.pack [.abs 33 2,.arr 23 3 [CK.int .i64] (tv 26) (tv 25)] 34 (.ret 1 (sg 18 [bg 23 34,bv 22 32,bv 21 31,bv 20 29,bv 19 28,bg 18 27]))))))))))))))))))))))))))))
theorem qt6:qY Try.prog qeq [qbX,qdA,qcK] [qrr] qod:=qA Try.func44 Try.call44 (by kernel_rfl)
theorem qhB:qeL.ok Try.prog:=qnR (by simp) fun Z hg hp=>by
 simp [qjc,qeL]
theorem qoS:qk1.ok Try.prog:=qve (by simp [qjW]) fun Z hg hp=>by
 obtain ⟨h1,h2⟩:=hp;simp [qq4,qk1,qdA];exact ⟨h1,h2⟩
theorem quh:qek.ok Try.prog:=quO (by simp [qfV]) fun Z hg hp=>by
 obtain ⟨h1,h2,h3⟩:=hp;have hst:=qif (d:=(Z 5).d) h2 (by omega);have hput:=ql9 (d:=(Z 5).d) (x:=(Z 18).i) (y:=1) h2 (by omega);simp [qo2,qek,qbX,m1,qaE,qch,qdQ,hst,hput,qbP,qcl];refine ⟨fun hL=>by simp [hL],fun hL=>⟨h2,h3,by omega,fun k=>by simp [hL,k],fun k=>⟨fun k'=>by simp [hL,k'],fun k'=>⟨by omega,?_⟩⟩⟩⟩;simp [hL,jd6.2 k,jd6.2 k']
set_option maxRecDepth 20000 in
theorem qu6:qeq.ok Try.prog:=qt6 (by simp [qfV,qjW,qil]) fun Z hg hp=>by
 obtain ⟨⟨h1,h2,h3,h4,h5,h6,h7⟩,h8⟩:=hp;have hst:=qif (d:=(Z 5).d) h4 (by omega);rw [hst] at h8;have hput:=qqQ (d:=(Z 5).d) (y:=4) h4 (by omega) h8;simp [qod,qeq,qrr,qbX,qdA,qcK,qL,mOk,hst,hput,qbP,qi];generalize hT:(qb (Z 5).d).set (Z 1).i.toNat (qc (Z 5).d (Z 1).i 0,4) = T;have hb16:(16:Int) <= big:=by decide
 intro hL;refine ⟨h4,h5,by omega,by omega,⟨h1,by omega⟩,fun _ _ _ _ u2 _ u3 _ k1 k2 k3=>⟨by omega,⟨by omega,k2,k3,k1,rfl⟩,?_⟩⟩;intro ui _ _ _ un _ _ _ uL _ _ _ um _ _ _ uM _ uT _ g0 g1 g2 g3 g4 g5 g6 g7 g8 g9;constructor
 ·intro hi
  have hc:=qcm (d:=uL.d) g0 (by omega);rw [g6] at hc;rw [qay g0 hi (by omega)];have hq:=qiK (m:=qer (qc uL.d ui.i 0)) g9;rw [<- qbU (by rw [jau,hc]; rfl),<- qaB g0] at hq;exact ⟨g0,by omega,g7,by omega,⟨by omega,by omega,g2,g3,g4,g5,g6,g7,by omega,hq⟩,by omega⟩
 ·intro hi
  have hlen:=congrArg List.length g6;rw [qV] at hlen;rw [ja0 (by rw [jaz]; omega)] at g9;refine ⟨⟨⟨by omega,h2,h3,h4,h5,h6,h7⟩,g7,by omega,⟨_,g9⟩⟩,fun uD _ uH _ ks uF _ kF=>⟨hL,g4,g5,?_,?_⟩⟩
  ·have:=qbR (ks _ g9)
   have:=qoD g9;omega
  ·obtain ⟨hb,lb,db⟩:=qjH kF (n:=33) (t:=2) (by simp)
   have:=qeG (ks _ g9) (Hp.le_trans (by simpa using db) lb);rw [g4] at this;exact this
end Go.Proofs
namespace Go.Eng
open Go
def GW (m:Mach):Prop:=qdX m/\(∀ p ∈ m.probes,p.target ≠ m.self)/\∃ x,m.tab[m.self.toNat]? = some x/\1 <= x.2/\x.2 <= 4
def GM (n i:Int) (m:Mach) (dT dS dP:qbp) (np:Int):Prop:=okM dT dS dP np n i/\GW m
def qki (me kind:Int) (a b:List Ent):Prop:=∀ (j:Nat) (x y:Ent),a[j]? = some x->b[j]? = some y->qbt x y = false/\((j:Int) = me->kind <= 2->y = x)
def qyT (n k i:Int) (m:Mach) (dT dS dP:qbp) (np:Int) (dB:qbp):Prop :=
 0 <= i/\i <= k/\k <= 150/\GM n i m dT dS dP np/\(dB.length:Int) = n/\qb dB = qb dT
def qjQ (me n k i0 i j:Int) (m:Mach) (dT dS dP:qbp) (np:Int) (dB box dN:qbp):Prop :=
 0 <= i/\i < k/\k <= 150/\GM n (i + 1) m dT dS dP np/\(dB.length:Int) = n/\(dN.length:Int) = n/\qb dN = qb dT/\qki me (qc box 0 0) (qb dB) (qb dN)/\box.length = 1/\0 <= j/\j <= n/\i = i0
end Go.Eng
namespace Go.Proofs.Ytlmkkphojjodhaa
open Go Go.Eng Go.Proofs Go.ChangeShapes Go.WideShapes Go.ChangeAt Go.RowKit
theorem qsW:Try.prog.cellsOf 22 = 1:=by kernel_rfl
section
variable {H:Type} {enc:TypeId × Value->H} {W:World} {base b:Nat} {sp:Nat->Bool}
theorem qe5 {t u:TypeId} {fs:Array Field} {cs:List Value} {fuel:Nat} {x:DataW H × List MemPlace} {k off:Nat} (ht:Try.prog.underlying t = some (.struct fs)) (h:DataW.trod enc Try.prog W base sp true fuel t cs = some x)
  (hk:(fs[k]?).map (fun f=>(f.type,f.offset)) = some (u,off)):∃ m y,DataW.trod enc Try.prog W base sp true m u ((cs.drop off).take (Try.prog.cellsOf u)) = some y/\∀ n ∈ y.1.weights Try.prog u,n ∈ x.1.weights Try.prog t:=by
 obtain ⟨xs,n,_,hx,_,hxl,hall⟩:=DataW.trod_struct ht h;obtain ⟨f,hf,hf'⟩:=jah.1 hk;simp only [jam] at hf';have h1:=hall k f hf;rw [hf'.1,hf'.2] at h1;have hlt:k < xs.length:=by rw [hxl]; exact (jc8.1 hf).1
 rw [jae hlt] at h1;refine ⟨n,_,h1,fun m hm=>?_⟩;rw [hx];simp only [DataW.weights,ht];exact DataW.weights_mem_each (j:=k) (by rw [jau,Array.getElem?_toList,hf,ja9,hf'.1]) (by simp [hlt]) m hm
end
end Go.Proofs.Ytlmkkphojjodhaa
namespace Go.Proofs
open Go Go.Eng
theorem qri {x:Int} (h1:-1000000 <= x) (h2:x <= 1000000):IntKind.i64.wrap x = x:=by simp [IntKind.wrap,IntKind.bits,IntKind.signed]; omega
end Go.Proofs
