/-
  ScopeMore: facts of the row.
-/
import Derived.Test.YtijnokbblmbpkaaGreatDoorM30
set_option linter.all false
namespace Go.Proofs.YtijnokbblmbpkaaGreatDoor
open Go Go.V Go.ChangeShapes Go.WideShapes Go.Deep
set_option maxRecDepth 100000
section
theorem W5:(Rows.scopeMoreUptoRow.wf (OpenSpec.ofChange (Rows.OpenSpec.upto Rows.scopeMoreSpec).bare))=true:=by kernel_rfl
theorem W6:(laidOutB Tryz.pinned.checked.prog)=true:=by kernel_rfl
theorem W7:(mapsRowed Tryz.pinned.checked.prog)=true:=by kernel_rfl
theorem W8:(cC.params.all (Tryz.pinned.checked.prog.readableRec ·))=true:=by kernel_rfl
theorem W9:(namedTie Tryz.pinned.checked.prog Rows.scopeMoreUptoRow.named (Rows.OpenSpec.upto Rows.scopeMoreSpec).bare.vars)=true:=by kernel_rfl
theorem Xa:((Rows.scopeMoreUptoRow.stops==[]))=true:=by kernel_rfl
theorem Xb:((Tryz.pinned.checked.prog.stops==[]))=true:=by kernel_rfl
theorem Xc:((Rows.scopeMoreUptoRow.knobs==[]))=true:=by kernel_rfl
theorem Xd:((Tryz.pinned.checked.prog.stopKnobs==[]))=true:=by kernel_rfl
theorem Xe:((Rows.scopeMoreUptoRow.inPlace==Tryz.pinned.checked.prog.inPlace 10))=true:=by kernel_rfl
theorem Rv:((Rows.scopeMoreUptoRow.unfollowed==Tryz.pinned.checked.prog.unfollowed 10))=true:=by kernel_rfl
theorem Rw:((Rows.scopeMoreUptoRow.recurses==Tryz.pinned.checked.prog.recurses 10))=true:=by kernel_rfl
theorem Rx:((Rows.scopeMoreUptoRow.named==Tryz.pinned.checked.prog.varsNamed 10))=true:=by kernel_rfl
theorem Ry:((Rows.scopeMoreUptoRow.maps==(cC.params.toList++(Rows.OpenSpec.upto Rows.scopeMoreSpec).bare.plain.varTypes Tryz.pinned.checked.prog).any (Tryz.pinned.checked.prog.mapsRec ·)))=true:=by kernel_rfl
theorem Rz:((Rows.scopeMoreUptoRow.ifaces==(cC.params.toList++(Rows.OpenSpec.upto Rows.scopeMoreSpec).bare.plain.varTypes Tryz.pinned.checked.prog).any (Tryz.pinned.checked.prog.ifacesRec ·)))=true:=by kernel_rfl
theorem RA:((Rows.scopeMoreUptoRow.mapsOut==Tryz.pinned.checked.prog.mapsAmong cC.resultTypes.toList))=true:=by kernel_rfl
theorem RB:((Rows.scopeMoreUptoRow.loops==(cC.params.toList++(Rows.OpenSpec.upto Rows.scopeMoreSpec).bare.plain.varTypes Tryz.pinned.checked.prog).any (Tryz.pinned.checked.prog.loopsFrom ·)))=true:=by kernel_rfl
theorem RC:((Rows.scopeMoreUptoRow.wideKeys==(cC.params.toList++(Rows.OpenSpec.upto Rows.scopeMoreSpec).bare.plain.varTypes Tryz.pinned.checked.prog++cC.resultTypes.toList).any (Tryz.pinned.checked.prog.wideKeysFrom ·)))=true:=by kernel_rfl
theorem RD:((Rows.OpenSpec.upto Rows.scopeMoreSpec).bare.vars.all (Tryz.pinned.checked.prog.varReadable ·))=true:=by kernel_rfl
theorem RE:(cC.resultTypes.all (fun t=>Tryz.pinned.checked.prog.readableRec t&&decide (t < Tryz.pinned.checked.prog.types.size)))=true:=by kernel_rfl
theorem RF:((Rows.scopeMoreUptoRow.ifacesOut==cC.resultTypes.toList.any (Tryz.pinned.checked.prog.ifacesRec ·)))=true:=by kernel_rfl
theorem RG:((Rows.scopeMoreUptoRow.loopsOut==cC.resultTypes.toList.any (Tryz.pinned.checked.prog.loopsFrom ·)))=true:=by kernel_rfl
theorem RH:((Rows.scopeMoreUptoRow.plainKeys==Tryz.pinned.checked.prog.plainKeys))=true:=by kernel_rfl
theorem RI:(Rows.scopeMoreUptoRow.shortTexts.isNone)=true:=by kernel_rfl
theorem RJ:(Tryz.pinned.checked.prog.stopsHeard)=true:=by kernel_rfl
theorem RL:(Tryz.pinned.checked.prog.mayEnter)=true:=by kernel_rfl
theorem RM:((Rows.scopeMoreUptoRow.lifted==Tryz.pinned.checked.prog.liftsFinal))=true:=by kernel_rfl
theorem RN:((Tryz.pinned.checked.prog.make==some Rows.scopeMoreUptoRow.make))=true:=by kernel_rfl
theorem RP:((Rows.scopeMoreUptoRow.kinds==(if Rows.scopeMoreUptoRow.domain.isEmpty then []else cC.params.toList.map fun t=>match Tryz.pinned.checked.prog.underlying t with|some (.int k)=>some k|_=>none)))=true:=by kernel_rfl
theorem RQ:((Rows.scopeMoreUptoRow.pinned==Rows.scopeMoreUptoRow.pinnedBy))=true:=by kernel_rfl
theorem RS:((Rows.scopeMoreUptoRow.veiled==(cC.params.toList++(Rows.OpenSpec.upto Rows.scopeMoreSpec).bare.plain.varTypes Tryz.pinned.checked.prog++cC.resultTypes.toList).any (Tryz.pinned.checked.prog.veiledRec ·)))=true:=by kernel_rfl
theorem RT:(Rows.scopeMoreUptoRow.veiledFits Tryz.pinned.checked.prog cC.params.toList (cC.params.toList++(Rows.OpenSpec.upto Rows.scopeMoreSpec).bare.plain.varTypes Tryz.pinned.checked.prog++cC.resultTypes.toList))=true:=by kernel_rfl
theorem Ju:joinedFacts Tryz.pinned.checked.prog 10 cC (Rows.OpenSpec.upto Rows.scopeMoreSpec).bare Rows.scopeMoreUptoRow=true:=by
 unfold joinedFacts;exact(vG.2 ⟨(vG.2 ⟨(vG.2 ⟨(vG.2 ⟨(vG.2 ⟨(vG.2 ⟨(vG.2 ⟨(vG.2 ⟨(vG.2 ⟨(vG.2 ⟨(vG.2 ⟨(vG.2 ⟨(vG.2 ⟨(vG.2 ⟨(vG.2 ⟨(vG.2 ⟨(vG.2 ⟨(vG.2 ⟨(vG.2 ⟨(vG.2 ⟨(vG.2 ⟨(vG.2 ⟨(vG.2 ⟨(vG.2 ⟨(vG.2 ⟨(vG.2 ⟨(vG.2 ⟨(vG.2 ⟨(vG.2 ⟨(vG.2 ⟨(vG.2 ⟨W5,W6⟩),W7⟩),W8⟩),W9⟩),Xa⟩),Xb⟩),Xc⟩),Xd⟩),Xe⟩),Rv⟩),Rw⟩),Rx⟩),Ry⟩),Rz⟩),RA⟩),RB⟩),RC⟩),RD⟩),RE⟩),RF⟩),RG⟩),RH⟩),RI⟩),RJ⟩),RL⟩),RM⟩),RN⟩),RP⟩),RQ⟩),RS⟩),RT⟩)
end
end Go.Proofs.YtijnokbblmbpkaaGreatDoor
