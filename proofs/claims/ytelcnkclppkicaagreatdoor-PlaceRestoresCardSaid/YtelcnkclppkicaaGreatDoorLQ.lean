/- What the statements ask of the program as a whole. -/
import Derived.Test.YtelcnkclppkicaaGreatDoorRows
import Derived.WalkKit
import Derived.ProofKit
import Derived.OpenShut
import Derived.Test.YtelcnkclppkicaaGreatDoorG1
set_option linter.unusedSimpArgs false
set_option linter.unusedVariables false
namespace Go.Proofs.YtelcnkclppkicaaGreatDoor
open Go Go.ChangeShapes Go.WideShapes Go.ChangeAt Go.RowKit
set_option maxRecDepth 100000
def q0P:List Char:=['h','a','r','n','e','s','s',' ','2','6','9','6','f','1','5','2','e','3','f','0','9','8','4','2','6','0','3','3','a','a','0','d','d','7','0','b','8','0','0','4','0','4','4','4','2','d','5','5','c','8','9','d','3','1','2','6','3','b','c','b','6','b','3','8','1','c','2','3','9','6','9','b',' ','c','u','t',' ','a','t',' ','s','t','o','l','o','n','/','s','t','o','l','o','n','l','a','w','0','2','.','D','i','g','e','s','t','A','s','s','e','m','b','l','e','s',' ','s','t','o','l','o','n','/','s','t','o','l','o','n','l','a','w','0','7','.','P','l','a','c','e','R','a','n','k','s',' ','s','t','o','l','o','n','/','s','t','o','l','o','n','l','a','w','0','7','.','P','l','a','c','e','O','r','d','e','r',' ','s','t','o','l','o','n','/','s','t','o','l','o','n','l','a','w','0','7','.','P','l','a','c','e','M','i','n','i','m','a','l',' ','s','t','o','l','o','n','/','s','t','o','l','o','n','l','a','w','0','7','.','P','l','a','c','e','S','e','t','t','l','e','s',' ','s','t','o','l','o','n','/','s','t','o','l','o','n','l','a','w','0','7','.','P','l','a','c','e','S','a','f','e',' ','s','t','o','l','o','n','/','s','t','o','l','o','n','l','a','w','0','7','.','P','l','a','c','e','D','u','t','i','e','s',' ','s','t','o','l','o','n','/','s','t','o','l','o','n','l','a','w','0','7','.','P','l','a','c','e','R','e','s','t','o','r','e','s',' ','s','t','o','l','o','n','/','s','t','o','l','o','n','l','a','w','0','7','.','P','l','a','c','e','G','a','t','h','e','r','s',' ','s','t','o','l','o','n','/','s','t','o','l','o','n','l','a','w','0','7','.','P','l','a','c','e','S','o','u','n','d',' ','s','t','o','l','o','n','/','s','t','o','l','o','n','l','a','w','0','7','.','P','l','a','c','e','C','l','a','i','m','s',' ','s','t','o','l','o','n','/','s','t','o','l','o','n','l','a','w','0','7','.','P','l','a','c','e','L','e','a','s','e',' ','s','t','o','l','o','n','/','s','t','o','l','o','n','l','a','w','0','7','.','P','l','a','c','e','N','o','t','h','i','n','g']
def q0K:List (List Char):=[['c','u','t'],['a','t'],['s','t','o','l','o','n','/','s','t','o','l','o','n','l','a','w','0','2','.','D','i','g','e','s','t','A','s','s','e','m','b','l','e','s'],['s','t','o','l','o','n','/','s','t','o','l','o','n','l','a','w','0','7','.','P','l','a','c','e','R','a','n','k','s'],['s','t','o','l','o','n','/','s','t','o','l','o','n','l','a','w','0','7','.','P','l','a','c','e','O','r','d','e','r'],['s','t','o','l','o','n','/','s','t','o','l','o','n','l','a','w','0','7','.','P','l','a','c','e','M','i','n','i','m','a','l'],['s','t','o','l','o','n','/','s','t','o','l','o','n','l','a','w','0','7','.','P','l','a','c','e','S','e','t','t','l','e','s'],['s','t','o','l','o','n','/','s','t','o','l','o','n','l','a','w','0','7','.','P','l','a','c','e','S','a','f','e'],['s','t','o','l','o','n','/','s','t','o','l','o','n','l','a','w','0','7','.','P','l','a','c','e','D','u','t','i','e','s'],['s','t','o','l','o','n','/','s','t','o','l','o','n','l','a','w','0','7','.','P','l','a','c','e','R','e','s','t','o','r','e','s'],['s','t','o','l','o','n','/','s','t','o','l','o','n','l','a','w','0','7','.','P','l','a','c','e','G','a','t','h','e','r','s'],['s','t','o','l','o','n','/','s','t','o','l','o','n','l','a','w','0','7','.','P','l','a','c','e','S','o','u','n','d'],['s','t','o','l','o','n','/','s','t','o','l','o','n','l','a','w','0','7','.','P','l','a','c','e','C','l','a','i','m','s'],['s','t','o','l','o','n','/','s','t','o','l','o','n','l','a','w','0','7','.','P','l','a','c','e','L','e','a','s','e'],['s','t','o','l','o','n','/','s','t','o','l','o','n','l','a','w','0','7','.','P','l','a','c','e','N','o','t','h','i','n','g']]
theorem qtH:Tryz.pinned.checked.prog.initOrder = String.ofList q0P:=by kernel_rfl
theorem q6e {P:Program} {l:List Char} (h:P.initOrder = String.ofList l):behindMainWord (wordsSigns P.initOrder.toList) = behindMainWord (wordsSigns l):=by rw [h,String.toList_ofList]
theorem qof:behindMainWord (wordsSigns Tryz.pinned.checked.prog.initOrder.toList) = q0K:=(q6e qtH).trans (by kernel_rfl)
theorem q5E {P:Program} {l:List (List Char)} (h:behindMainWord (wordsSigns P.initOrder.toList) = l):P.liftsFinal = ((l.head? == some "carried".toList && l.take 3 != ["carried".toList, "gc".toList, "cut".toList]) || (if (stripLifts liftWords l).2.head? == some "cut".toList then (stripLifts liftWords l).1 else []).contains "finals"):=by
 unfold Program.liftsFinal Program.headLifts
 rw [h]
theorem qqK {P:Program} {c:List Char} {l:List (List Char)} (h:behindMainWord (wordsSigns P.initOrder.toList) = c :: l) (h1:(c == "gc".toList || c == "spec".toList) = false) (h2:(c == "cut".toList) = true):P.make = some .cut:=by
 unfold Program.make
 rw [h]
 simp only [h1,h2,Bool.true_or,jby,jap,ja8]
theorem q5D {P:Program} {c:List Char} {l:List (List Char)} (h:behindMainWord (wordsSigns P.initOrder.toList) = c :: l) (h1:(stripLifts liftWords (c :: l)).2.head? = some "cut".toList) (h2:(stripLifts liftWords (c :: l)).1 = [])
  (h3:P.laysLater = false) (h4:P.bearsReflect = false) (h5:P.doorFits [] = true):P.mayEnter = true:=by
 unfold Program.mayEnter
 rw [h]
 simp only [h1,h2,h3,h4,h5,je5,jfo,Bool.or_true,Bool.not_false,List.contains_nil,jap]
theorem q1q:Tryz.pinned.checked.prog.mayEnter = true:=q5D qof (by kernel_rfl) (by kernel_rfl) (by kernel_rfl) (by kernel_rfl) (by kernel_rfl)
theorem q7X:Tryz.pinned.checked.prog.liftsFinal = Rows.digestAssemblesRow.lifted:=(q5E qof).trans (by kernel_rfl)
theorem q9C:Tryz.pinned.checked.prog.make = some Rows.digestAssemblesRow.make:=(qqK qof (by kernel_rfl) (by kernel_rfl)).trans (by kernel_rfl)
theorem q5n {P:Program} {f:FuncId} {fn:Func} {s:ChangeSpec} {c:OpenClaim}
  (h1:(c.wf (OpenSpec.ofChange s) && laidOutB P && mapsRowed P && fn.params.all (P.readableRec ·) && namedTie P c.named s.vars && (c.stops == []) && (P.stops == []) && (c.knobs == []) && (P.stopKnobs == [])) = true)
  (h2:(c.inPlace == P.inPlace f) = true) (h3:(c.unfollowed == P.unfollowed f) = true) (h4:(c.recurses == P.recurses f) = true) (h5:(c.named == P.varsNamed f) = true)
  (h6:((c.maps == (fn.params.toList ++ s.plain.varTypes P).any (P.mapsRec ·)) && (c.ifaces == (fn.params.toList ++ s.plain.varTypes P).any (P.ifacesRec ·)) && (c.mapsOut == P.mapsAmong fn.resultTypes.toList) &&
   (c.loops == (fn.params.toList ++ s.plain.varTypes P).any (P.loopsFrom ·)) && (c.wideKeys == (fn.params.toList ++ s.plain.varTypes P ++ fn.resultTypes.toList).any (P.wideKeysFrom ·)) &&
   s.vars.all (P.varReadable ·) && fn.resultTypes.all (fun t=>P.readableRec t && decide (t < P.types.size)) && (c.ifacesOut == fn.resultTypes.toList.any (P.ifacesRec ·)) && (c.loopsOut == fn.resultTypes.toList.any (P.loopsFrom ·)) && (c.plainKeys == P.plainKeys) && c.shortTexts.isNone && P.stopsHeard) = true)
  (h7:P.mayEnter = true) (h8:P.liftsFinal = c.lifted) (h9:P.make = some c.make)
  (h10:((c.kinds == (if c.domain.isEmpty then [] else fn.params.toList.map fun t=>match P.underlying t with | some (.int k)=>some k | _=>none)) && (c.pinned == c.pinnedBy) &&
   (c.veiled == (fn.params.toList ++ s.plain.varTypes P ++ fn.resultTypes.toList).any (P.veiledRec ·)) && c.veiledFits P fn.params.toList (fn.params.toList ++ s.plain.varTypes P ++ fn.resultTypes.toList)) = true):joinedFacts P f fn s c = true:=by
 unfold joinedFacts
 simp only [jag] at h1 h6 h10 ⊢
 obtain ⟨⟨⟨⟨⟨⟨⟨⟨⟨⟨⟨a13,a14⟩,a15⟩,a16⟩,a17⟩,a18⟩,a19⟩,a20⟩,a21⟩,a22⟩,a23⟩,a24⟩:=h6
 obtain ⟨⟨⟨a28,a29⟩,a30⟩,a31⟩:=h10
 exact ⟨⟨⟨⟨⟨⟨⟨⟨⟨⟨⟨⟨⟨⟨⟨⟨⟨⟨⟨⟨⟨⟨⟨h1,h2⟩,h3⟩,h4⟩,h5⟩,a13⟩,a14⟩,a15⟩,a16⟩,a17⟩,a18⟩,a19⟩,a20⟩,a21⟩,a22⟩,a23⟩,a24⟩,h7⟩,(by rw [h8]; exact je5 _)⟩,(by rw [h9]; exact je5 _)⟩,a28⟩,a29⟩,a30⟩,a31⟩
end Go.Proofs.YtelcnkclppkicaaGreatDoor
