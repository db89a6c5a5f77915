/-
  ScopeOpen: facts of the row.
-/
import Derived.Test.YtijnokbblmbpkaaGreatDoorS28
set_option linter.all false
namespace Go.Proofs.YtijnokbblmbpkaaGreatDoor
open Go Go.V Go.ChangeShapes Go.WideShapes Go.Deep
set_option maxRecDepth 100000
section
theorem UY:(Rows.scopeOpenUptoRow.wf (OpenSpec.ofChange (Rows.OpenSpec.upto Rows.scopeOpenSpec).bare))=true:=by kernel_rfl
theorem UZ:(laidOutB Tryz.pinned.checked.prog)=true:=by kernel_rfl
theorem U0:(mapsRowed Tryz.pinned.checked.prog)=true:=by kernel_rfl
theorem U5:(rh.params.all (Tryz.pinned.checked.prog.readableRec ·))=true:=by kernel_rfl
theorem U6:(namedTie Tryz.pinned.checked.prog Rows.scopeOpenUptoRow.named (Rows.OpenSpec.upto Rows.scopeOpenSpec).bare.vars)=true:=by kernel_rfl
theorem U7:((Rows.scopeOpenUptoRow.stops==[]))=true:=by kernel_rfl
theorem U8:((Tryz.pinned.checked.prog.stops==[]))=true:=by kernel_rfl
theorem U9:((Rows.scopeOpenUptoRow.knobs==[]))=true:=by kernel_rfl
theorem Wa:((Tryz.pinned.checked.prog.stopKnobs==[]))=true:=by kernel_rfl
theorem Wb:((Rows.scopeOpenUptoRow.inPlace==Tryz.pinned.checked.prog.inPlace 9))=true:=by kernel_rfl
theorem Pk:((Rows.scopeOpenUptoRow.unfollowed==Tryz.pinned.checked.prog.unfollowed 9))=true:=by kernel_rfl
theorem Pm:((Rows.scopeOpenUptoRow.recurses==Tryz.pinned.checked.prog.recurses 9))=true:=by kernel_rfl
theorem Pn:((Rows.scopeOpenUptoRow.named==Tryz.pinned.checked.prog.varsNamed 9))=true:=by kernel_rfl
theorem Po:((Rows.scopeOpenUptoRow.maps==(rh.params.toList++(Rows.OpenSpec.upto Rows.scopeOpenSpec).bare.plain.varTypes Tryz.pinned.checked.prog).any (Tryz.pinned.checked.prog.mapsRec ·)))=true:=by kernel_rfl
theorem Pq:((Rows.scopeOpenUptoRow.ifaces==(rh.params.toList++(Rows.OpenSpec.upto Rows.scopeOpenSpec).bare.plain.varTypes Tryz.pinned.checked.prog).any (Tryz.pinned.checked.prog.ifacesRec ·)))=true:=by kernel_rfl
theorem Pr:((Rows.scopeOpenUptoRow.mapsOut==Tryz.pinned.checked.prog.mapsAmong rh.resultTypes.toList))=true:=by kernel_rfl
theorem Ps:((Rows.scopeOpenUptoRow.loops==(rh.params.toList++(Rows.OpenSpec.upto Rows.scopeOpenSpec).bare.plain.varTypes Tryz.pinned.checked.prog).any (Tryz.pinned.checked.prog.loopsFrom ·)))=true:=by kernel_rfl
theorem Pt:((Rows.scopeOpenUptoRow.wideKeys==(rh.params.toList++(Rows.OpenSpec.upto Rows.scopeOpenSpec).bare.plain.varTypes Tryz.pinned.checked.prog++rh.resultTypes.toList).any (Tryz.pinned.checked.prog.wideKeysFrom ·)))=true:=by kernel_rfl
theorem Pu:((Rows.OpenSpec.upto Rows.scopeOpenSpec).bare.vars.all (Tryz.pinned.checked.prog.varReadable ·))=true:=by kernel_rfl
theorem Pv:(rh.resultTypes.all (fun t=>Tryz.pinned.checked.prog.readableRec t&&decide (t < Tryz.pinned.checked.prog.types.size)))=true:=by kernel_rfl
theorem Pw:((Rows.scopeOpenUptoRow.ifacesOut==rh.resultTypes.toList.any (Tryz.pinned.checked.prog.ifacesRec ·)))=true:=by kernel_rfl
theorem Px:((Rows.scopeOpenUptoRow.loopsOut==rh.resultTypes.toList.any (Tryz.pinned.checked.prog.loopsFrom ·)))=true:=by kernel_rfl
theorem Py:((Rows.scopeOpenUptoRow.plainKeys==Tryz.pinned.checked.prog.plainKeys))=true:=by kernel_rfl
theorem Pz:(Rows.scopeOpenUptoRow.shortTexts.isNone)=true:=by kernel_rfl
theorem PK:(Tryz.pinned.checked.prog.stopsHeard)=true:=by kernel_rfl
theorem PS:(Tryz.pinned.checked.prog.mayEnter)=true:=by kernel_rfl
theorem PX:((Rows.scopeOpenUptoRow.lifted==Tryz.pinned.checked.prog.liftsFinal))=true:=by kernel_rfl
theorem PY:((Tryz.pinned.checked.prog.make==some Rows.scopeOpenUptoRow.make))=true:=by kernel_rfl
theorem P0:((Rows.scopeOpenUptoRow.kinds==(if Rows.scopeOpenUptoRow.domain.isEmpty then []else rh.params.toList.map fun t=>match Tryz.pinned.checked.prog.underlying t with|some (.int k)=>some k|_=>none)))=true:=by kernel_rfl
theorem P1:((Rows.scopeOpenUptoRow.pinned==Rows.scopeOpenUptoRow.pinnedBy))=true:=by kernel_rfl
theorem P2:((Rows.scopeOpenUptoRow.veiled==(rh.params.toList++(Rows.OpenSpec.upto Rows.scopeOpenSpec).bare.plain.varTypes Tryz.pinned.checked.prog++rh.resultTypes.toList).any (Tryz.pinned.checked.prog.veiledRec ·)))=true:=by kernel_rfl
theorem P3:(Rows.scopeOpenUptoRow.veiledFits Tryz.pinned.checked.prog rh.params.toList (rh.params.toList++(Rows.OpenSpec.upto Rows.scopeOpenSpec).bare.plain.varTypes Tryz.pinned.checked.prog++rh.resultTypes.toList))=true:=by kernel_rfl
theorem IB:joinedFacts Tryz.pinned.checked.prog 9 rh (Rows.OpenSpec.upto Rows.scopeOpenSpec).bare Rows.scopeOpenUptoRow=true:=by
 unfold joinedFacts;exact(vG.2 ⟨(vG.2 ⟨(vG.2 ⟨(vG.2 ⟨(vG.2 ⟨(vG.2 ⟨(vG.2 ⟨(vG.2 ⟨(vG.2 ⟨(vG.2 ⟨(vG.2 ⟨(vG.2 ⟨(vG.2 ⟨(vG.2 ⟨(vG.2 ⟨(vG.2 ⟨(vG.2 ⟨(vG.2 ⟨(vG.2 ⟨(vG.2 ⟨(vG.2 ⟨(vG.2 ⟨(vG.2 ⟨(vG.2 ⟨(vG.2 ⟨(vG.2 ⟨(vG.2 ⟨(vG.2 ⟨(vG.2 ⟨(vG.2 ⟨(vG.2 ⟨UY,UZ⟩),U0⟩),U5⟩),U6⟩),U7⟩),U8⟩),U9⟩),Wa⟩),Wb⟩),Pk⟩),Pm⟩),Pn⟩),Po⟩),Pq⟩),Pr⟩),Ps⟩),Pt⟩),Pu⟩),Pv⟩),Pw⟩),Px⟩),Py⟩),Pz⟩),PK⟩),PS⟩),PX⟩),PY⟩),P0⟩),P1⟩),P2⟩),P3⟩)
end
end Go.Proofs.YtijnokbblmbpkaaGreatDoor
