/-
  A part of the proof.
-/
import Derived.Test.YtijnokbblmbpkaaGreatDoorU14
set_option linter.all false
set_option maxRecDepth 100000
namespace Go.Proofs.YtijnokbblmbpkaaGreatDoor
open Go Go.V Go.ChangeShapes Go.WideShapes Go.Deep
section
theorem WE:(Rows.scopeNamesUptoRow.wf (OpenSpec.ofChange (Rows.OpenSpec.upto Rows.scopeNamesSpec).bare))=true:=by kernel_rfl
theorem WH:(laidOutB Tryz.pinned.checked.prog)=true:=by kernel_rfl
theorem WI:(mapsRowed Tryz.pinned.checked.prog)=true:=by kernel_rfl
theorem WJ:(sZ.params.all (Tryz.pinned.checked.prog.readableRec ·))=true:=by kernel_rfl
theorem WL:(namedTie Tryz.pinned.checked.prog Rows.scopeNamesUptoRow.named (Rows.OpenSpec.upto Rows.scopeNamesSpec).bare.vars)=true:=by kernel_rfl
theorem WQ:((Rows.scopeNamesUptoRow.stops==[]))=true:=by kernel_rfl
theorem WS:((Tryz.pinned.checked.prog.stops==[]))=true:=by kernel_rfl
theorem WT:((Rows.scopeNamesUptoRow.knobs==[]))=true:=by kernel_rfl
theorem WU:((Tryz.pinned.checked.prog.stopKnobs==[]))=true:=by kernel_rfl
theorem WV:((Rows.scopeNamesUptoRow.inPlace==Tryz.pinned.checked.prog.inPlace 7))=true:=by kernel_rfl
theorem Pz:((Rows.scopeNamesUptoRow.unfollowed==Tryz.pinned.checked.prog.unfollowed 7))=true:=by kernel_rfl
theorem PK:((Rows.scopeNamesUptoRow.recurses==Tryz.pinned.checked.prog.recurses 7))=true:=by kernel_rfl
theorem PX:((Rows.scopeNamesUptoRow.named==Tryz.pinned.checked.prog.varsNamed 7))=true:=by kernel_rfl
theorem PY:((Rows.scopeNamesUptoRow.maps==(sZ.params.toList++(Rows.OpenSpec.upto Rows.scopeNamesSpec).bare.plain.varTypes Tryz.pinned.checked.prog).any (Tryz.pinned.checked.prog.mapsRec ·)))=true:=by kernel_rfl
theorem P0:((Rows.scopeNamesUptoRow.ifaces==(sZ.params.toList++(Rows.OpenSpec.upto Rows.scopeNamesSpec).bare.plain.varTypes Tryz.pinned.checked.prog).any (Tryz.pinned.checked.prog.ifacesRec ·)))=true:=by kernel_rfl
theorem P1:((Rows.scopeNamesUptoRow.mapsOut==Tryz.pinned.checked.prog.mapsAmong sZ.resultTypes.toList))=true:=by kernel_rfl
theorem P2:((Rows.scopeNamesUptoRow.loops==(sZ.params.toList++(Rows.OpenSpec.upto Rows.scopeNamesSpec).bare.plain.varTypes Tryz.pinned.checked.prog).any (Tryz.pinned.checked.prog.loopsFrom ·)))=true:=by kernel_rfl
theorem P3:((Rows.scopeNamesUptoRow.wideKeys==(sZ.params.toList++(Rows.OpenSpec.upto Rows.scopeNamesSpec).bare.plain.varTypes Tryz.pinned.checked.prog++sZ.resultTypes.toList).any (Tryz.pinned.checked.prog.wideKeysFrom ·)))=true:=by kernel_rfl
theorem P4:((Rows.OpenSpec.upto Rows.scopeNamesSpec).bare.vars.all (Tryz.pinned.checked.prog.varReadable ·))=true:=by kernel_rfl
theorem P5:(sZ.resultTypes.all (λt=>Tryz.pinned.checked.prog.readableRec t&&decide (t < Tryz.pinned.checked.prog.types.size)))=true:=by kernel_rfl
theorem P6:((Rows.scopeNamesUptoRow.ifacesOut==sZ.resultTypes.toList.any (Tryz.pinned.checked.prog.ifacesRec ·)))=true:=by kernel_rfl
theorem P7:((Rows.scopeNamesUptoRow.loopsOut==sZ.resultTypes.toList.any (Tryz.pinned.checked.prog.loopsFrom ·)))=true:=by kernel_rfl
theorem P8:((Rows.scopeNamesUptoRow.plainKeys==Tryz.pinned.checked.prog.plainKeys))=true:=by kernel_rfl
theorem P9:(Rows.scopeNamesUptoRow.shortTexts.isNone)=true:=by kernel_rfl
theorem Ra:(Tryz.pinned.checked.prog.stopsHeard)=true:=by kernel_rfl
theorem Rc:(Tryz.pinned.checked.prog.mayEnter)=true:=by kernel_rfl
theorem Re:((Rows.scopeNamesUptoRow.lifted==Tryz.pinned.checked.prog.liftsFinal))=true:=by kernel_rfl
theorem Rf:((Tryz.pinned.checked.prog.make==some Rows.scopeNamesUptoRow.make))=true:=by kernel_rfl
theorem Rg:((Rows.scopeNamesUptoRow.kinds==(if Rows.scopeNamesUptoRow.domain.isEmpty then []else sZ.params.toList.map λt=>match Tryz.pinned.checked.prog.underlying t with|some (.int k)=>some k|_=>none)))=true:=by kernel_rfl
theorem Rh:((Rows.scopeNamesUptoRow.pinned==Rows.scopeNamesUptoRow.pinnedBy))=true:=by kernel_rfl
theorem Ri:((Rows.scopeNamesUptoRow.veiled==(sZ.params.toList++(Rows.OpenSpec.upto Rows.scopeNamesSpec).bare.plain.varTypes Tryz.pinned.checked.prog++sZ.resultTypes.toList).any (Tryz.pinned.checked.prog.veiledRec ·)))=true:=by kernel_rfl
theorem Rj:(Rows.scopeNamesUptoRow.veiledFits Tryz.pinned.checked.prog sZ.params.toList (sZ.params.toList++(Rows.OpenSpec.upto Rows.scopeNamesSpec).bare.plain.varTypes Tryz.pinned.checked.prog++sZ.resultTypes.toList))=true:=by kernel_rfl
theorem I7:joinedFacts Tryz.pinned.checked.prog 7 sZ (Rows.OpenSpec.upto Rows.scopeNamesSpec).bare Rows.scopeNamesUptoRow=true:=by
 unfold joinedFacts;exact(vH.2 ⟨(vH.2 ⟨(vH.2 ⟨(vH.2 ⟨(vH.2 ⟨(vH.2 ⟨(vH.2 ⟨(vH.2 ⟨(vH.2 ⟨(vH.2 ⟨(vH.2 ⟨(vH.2 ⟨(vH.2 ⟨(vH.2 ⟨(vH.2 ⟨(vH.2 ⟨(vH.2 ⟨(vH.2 ⟨(vH.2 ⟨(vH.2 ⟨(vH.2 ⟨(vH.2 ⟨(vH.2 ⟨(vH.2 ⟨(vH.2 ⟨(vH.2 ⟨(vH.2 ⟨(vH.2 ⟨(vH.2 ⟨(vH.2 ⟨(vH.2 ⟨WE,WH⟩),WI⟩),WJ⟩),WL⟩),WQ⟩),WS⟩),WT⟩),WU⟩),WV⟩),Pz⟩),PK⟩),PX⟩),PY⟩),P0⟩),P1⟩),P2⟩),P3⟩),P4⟩),P5⟩),P6⟩),P7⟩),P8⟩),P9⟩),Ra⟩),Rc⟩),Re⟩),Rf⟩),Rg⟩),Rh⟩),Ri⟩),Rj⟩)
end
end Go.Proofs.YtijnokbblmbpkaaGreatDoor
