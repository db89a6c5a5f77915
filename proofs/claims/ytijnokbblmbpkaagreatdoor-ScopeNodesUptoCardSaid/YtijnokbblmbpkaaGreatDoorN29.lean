/-
  ScopeNodes: facts of the row.
-/
import Derived.Test.YtijnokbblmbpkaaGreatDoorN28
set_option linter.all false
namespace Go.Proofs.YtijnokbblmbpkaaGreatDoor
open Go Go.V Go.ChangeShapes Go.WideShapes Go.Deep
set_option maxRecDepth 100000
section
theorem Rg:(Rows.scopeNodesUptoRow.wf (OpenSpec.ofChange (Rows.OpenSpec.upto Rows.scopeNodesSpec).bare))=true:=by kernel_rfl
theorem Rh:(laidOutB Tryz.pinned.checked.prog)=true:=by kernel_rfl
theorem Ri:(mapsRowed Tryz.pinned.checked.prog)=true:=by kernel_rfl
theorem Rj:(qX.params.all (Tryz.pinned.checked.prog.readableRec ·))=true:=by kernel_rfl
theorem Rk:(namedTie Tryz.pinned.checked.prog Rows.scopeNodesUptoRow.named (Rows.OpenSpec.upto Rows.scopeNodesSpec).bare.vars)=true:=by kernel_rfl
theorem Rl:((Rows.scopeNodesUptoRow.stops==[]))=true:=by kernel_rfl
theorem Rm:((Tryz.pinned.checked.prog.stops==[]))=true:=by kernel_rfl
theorem Rn:((Rows.scopeNodesUptoRow.knobs==[]))=true:=by kernel_rfl
theorem Ro:((Tryz.pinned.checked.prog.stopKnobs==[]))=true:=by kernel_rfl
theorem Rp:((Rows.scopeNodesUptoRow.inPlace==Tryz.pinned.checked.prog.inPlace 5))=true:=by kernel_rfl
theorem L0:((Rows.scopeNodesUptoRow.unfollowed==Tryz.pinned.checked.prog.unfollowed 5))=true:=by kernel_rfl
theorem L4:((Rows.scopeNodesUptoRow.recurses==Tryz.pinned.checked.prog.recurses 5))=true:=by kernel_rfl
theorem L5:((Rows.scopeNodesUptoRow.named==Tryz.pinned.checked.prog.varsNamed 5))=true:=by kernel_rfl
theorem L6:((Rows.scopeNodesUptoRow.maps==(qX.params.toList++(Rows.OpenSpec.upto Rows.scopeNodesSpec).bare.plain.varTypes Tryz.pinned.checked.prog).any (Tryz.pinned.checked.prog.mapsRec ·)))=true:=by kernel_rfl
theorem L7:((Rows.scopeNodesUptoRow.ifaces==(qX.params.toList++(Rows.OpenSpec.upto Rows.scopeNodesSpec).bare.plain.varTypes Tryz.pinned.checked.prog).any (Tryz.pinned.checked.prog.ifacesRec ·)))=true:=by kernel_rfl
theorem L8:((Rows.scopeNodesUptoRow.mapsOut==Tryz.pinned.checked.prog.mapsAmong qX.resultTypes.toList))=true:=by kernel_rfl
theorem L9:((Rows.scopeNodesUptoRow.loops==(qX.params.toList++(Rows.OpenSpec.upto Rows.scopeNodesSpec).bare.plain.varTypes Tryz.pinned.checked.prog).any (Tryz.pinned.checked.prog.loopsFrom ·)))=true:=by kernel_rfl
theorem Ma:((Rows.scopeNodesUptoRow.wideKeys==(qX.params.toList++(Rows.OpenSpec.upto Rows.scopeNodesSpec).bare.plain.varTypes Tryz.pinned.checked.prog++qX.resultTypes.toList).any (Tryz.pinned.checked.prog.wideKeysFrom ·)))=true:=by kernel_rfl
theorem Mb:((Rows.OpenSpec.upto Rows.scopeNodesSpec).bare.vars.all (Tryz.pinned.checked.prog.varReadable ·))=true:=by kernel_rfl
theorem Mc:(qX.resultTypes.all (fun t=>Tryz.pinned.checked.prog.readableRec t&&decide (t < Tryz.pinned.checked.prog.types.size)))=true:=by kernel_rfl
theorem Me:((Rows.scopeNodesUptoRow.ifacesOut==qX.resultTypes.toList.any (Tryz.pinned.checked.prog.ifacesRec ·)))=true:=by kernel_rfl
theorem Mf:((Rows.scopeNodesUptoRow.loopsOut==qX.resultTypes.toList.any (Tryz.pinned.checked.prog.loopsFrom ·)))=true:=by kernel_rfl
theorem Mg:((Rows.scopeNodesUptoRow.plainKeys==Tryz.pinned.checked.prog.plainKeys))=true:=by kernel_rfl
theorem Mh:(Rows.scopeNodesUptoRow.shortTexts.isNone)=true:=by kernel_rfl
theorem Mi:(Tryz.pinned.checked.prog.stopsHeard)=true:=by kernel_rfl
theorem Mj:(Tryz.pinned.checked.prog.mayEnter)=true:=by kernel_rfl
theorem Mk:((Rows.scopeNodesUptoRow.lifted==Tryz.pinned.checked.prog.liftsFinal))=true:=by kernel_rfl
theorem Ml:((Tryz.pinned.checked.prog.make==some Rows.scopeNodesUptoRow.make))=true:=by kernel_rfl
theorem Mm:((Rows.scopeNodesUptoRow.kinds==(if Rows.scopeNodesUptoRow.domain.isEmpty then []else qX.params.toList.map fun t=>match Tryz.pinned.checked.prog.underlying t with|some (.int k)=>some k|_=>none)))=true:=by kernel_rfl
theorem Mn:((Rows.scopeNodesUptoRow.pinned==Rows.scopeNodesUptoRow.pinnedBy))=true:=by kernel_rfl
theorem Mo:((Rows.scopeNodesUptoRow.veiled==(qX.params.toList++(Rows.OpenSpec.upto Rows.scopeNodesSpec).bare.plain.varTypes Tryz.pinned.checked.prog++qX.resultTypes.toList).any (Tryz.pinned.checked.prog.veiledRec ·)))=true:=by kernel_rfl
theorem Mq:(Rows.scopeNodesUptoRow.veiledFits Tryz.pinned.checked.prog qX.params.toList (qX.params.toList++(Rows.OpenSpec.upto Rows.scopeNodesSpec).bare.plain.varTypes Tryz.pinned.checked.prog++qX.resultTypes.toList))=true:=by kernel_rfl
theorem Fe:joinedFacts Tryz.pinned.checked.prog 5 qX (Rows.OpenSpec.upto Rows.scopeNodesSpec).bare Rows.scopeNodesUptoRow=true:=by
 unfold joinedFacts;exact(vG.2 ⟨(vG.2 ⟨(vG.2 ⟨(vG.2 ⟨(vG.2 ⟨(vG.2 ⟨(vG.2 ⟨(vG.2 ⟨(vG.2 ⟨(vG.2 ⟨(vG.2 ⟨(vG.2 ⟨(vG.2 ⟨(vG.2 ⟨(vG.2 ⟨(vG.2 ⟨(vG.2 ⟨(vG.2 ⟨(vG.2 ⟨(vG.2 ⟨(vG.2 ⟨(vG.2 ⟨(vG.2 ⟨(vG.2 ⟨(vG.2 ⟨(vG.2 ⟨(vG.2 ⟨(vG.2 ⟨(vG.2 ⟨(vG.2 ⟨(vG.2 ⟨Rg,Rh⟩),Ri⟩),Rj⟩),Rk⟩),Rl⟩),Rm⟩),Rn⟩),Ro⟩),Rp⟩),L0⟩),L4⟩),L5⟩),L6⟩),L7⟩),L8⟩),L9⟩),Ma⟩),Mb⟩),Mc⟩),Me⟩),Mf⟩),Mg⟩),Mh⟩),Mi⟩),Mj⟩),Mk⟩),Ml⟩),Mm⟩),Mn⟩),Mo⟩),Mq⟩)
end
end Go.Proofs.YtijnokbblmbpkaaGreatDoor
