/-
  ScopeSound: facts of the row.
-/
import Derived.Test.YtijnokbblmbpkaaGreatDoorS31
set_option linter.unusedSimpArgs false
set_option linter.unusedVariables false
namespace Go.Proofs.YtijnokbblmbpkaaGreatDoor
open Go Go.V Go.ChangeShapes Go.WideShapes Go.Deep
set_option maxRecDepth 100000
section
theorem sound_j0:(Rows.scopeSoundUptoRow.wf (OpenSpec.ofChange (Rows.OpenSpec.upto Rows.scopeSoundSpec).bare))=true:=by kernel_rfl
theorem sound_j1:(laidOutB Tryz.pinned.checked.prog)=true:=by kernel_rfl
theorem sound_j2:(mapsRowed Tryz.pinned.checked.prog)=true:=by kernel_rfl
theorem sound_j3:(fn8.params.all (Tryz.pinned.checked.prog.readableRec ·))=true:=by kernel_rfl
theorem sound_j4:(namedTie Tryz.pinned.checked.prog Rows.scopeSoundUptoRow.named (Rows.OpenSpec.upto Rows.scopeSoundSpec).bare.vars)=true:=by kernel_rfl
theorem sound_j5:((Rows.scopeSoundUptoRow.stops==[]))=true:=by kernel_rfl
theorem sound_j6:((Tryz.pinned.checked.prog.stops==[]))=true:=by kernel_rfl
theorem sound_j7:((Rows.scopeSoundUptoRow.knobs==[]))=true:=by kernel_rfl
theorem sound_j8:((Tryz.pinned.checked.prog.stopKnobs==[]))=true:=by kernel_rfl
theorem sound_j9:((Rows.scopeSoundUptoRow.inPlace==Tryz.pinned.checked.prog.inPlace 8))=true:=by kernel_rfl
theorem sound_j10:((Rows.scopeSoundUptoRow.unfollowed==Tryz.pinned.checked.prog.unfollowed 8))=true:=by kernel_rfl
theorem sound_j11:((Rows.scopeSoundUptoRow.recurses==Tryz.pinned.checked.prog.recurses 8))=true:=by kernel_rfl
theorem sound_j12:((Rows.scopeSoundUptoRow.named==Tryz.pinned.checked.prog.varsNamed 8))=true:=by kernel_rfl
theorem sound_j13:((Rows.scopeSoundUptoRow.maps==(fn8.params.toList++(Rows.OpenSpec.upto Rows.scopeSoundSpec).bare.plain.varTypes Tryz.pinned.checked.prog).any (Tryz.pinned.checked.prog.mapsRec ·)))=true:=by kernel_rfl
theorem sound_j14:((Rows.scopeSoundUptoRow.ifaces==(fn8.params.toList++(Rows.OpenSpec.upto Rows.scopeSoundSpec).bare.plain.varTypes Tryz.pinned.checked.prog).any (Tryz.pinned.checked.prog.ifacesRec ·)))=true:=by kernel_rfl
theorem sound_j15:((Rows.scopeSoundUptoRow.mapsOut==Tryz.pinned.checked.prog.mapsAmong fn8.resultTypes.toList))=true:=by kernel_rfl
theorem sound_j16:((Rows.scopeSoundUptoRow.loops==(fn8.params.toList++(Rows.OpenSpec.upto Rows.scopeSoundSpec).bare.plain.varTypes Tryz.pinned.checked.prog).any (Tryz.pinned.checked.prog.loopsFrom ·)))=true:=by kernel_rfl
theorem sound_j17:((Rows.scopeSoundUptoRow.wideKeys==(fn8.params.toList++(Rows.OpenSpec.upto Rows.scopeSoundSpec).bare.plain.varTypes Tryz.pinned.checked.prog++fn8.resultTypes.toList).any (Tryz.pinned.checked.prog.wideKeysFrom ·)))=true:=by kernel_rfl
theorem sound_j18:((Rows.OpenSpec.upto Rows.scopeSoundSpec).bare.vars.all (Tryz.pinned.checked.prog.varReadable ·))=true:=by kernel_rfl
theorem sound_j19:(fn8.resultTypes.all (fun t=>Tryz.pinned.checked.prog.readableRec t&&decide (t < Tryz.pinned.checked.prog.types.size)))=true:=by kernel_rfl
theorem sound_j20:((Rows.scopeSoundUptoRow.ifacesOut==fn8.resultTypes.toList.any (Tryz.pinned.checked.prog.ifacesRec ·)))=true:=by kernel_rfl
theorem sound_j21:((Rows.scopeSoundUptoRow.loopsOut==fn8.resultTypes.toList.any (Tryz.pinned.checked.prog.loopsFrom ·)))=true:=by kernel_rfl
theorem sound_j22:((Rows.scopeSoundUptoRow.plainKeys==Tryz.pinned.checked.prog.plainKeys))=true:=by kernel_rfl
theorem sound_j23:(Rows.scopeSoundUptoRow.shortTexts.isNone)=true:=by kernel_rfl
theorem sound_j24:(Tryz.pinned.checked.prog.stopsHeard)=true:=by kernel_rfl
theorem sound_j25:(Tryz.pinned.checked.prog.mayEnter)=true:=by kernel_rfl
theorem sound_j26:((Rows.scopeSoundUptoRow.lifted==Tryz.pinned.checked.prog.liftsFinal))=true:=by kernel_rfl
theorem sound_j27:((Tryz.pinned.checked.prog.make==some Rows.scopeSoundUptoRow.make))=true:=by kernel_rfl
theorem sound_j28:((Rows.scopeSoundUptoRow.kinds==(if Rows.scopeSoundUptoRow.domain.isEmpty then []else fn8.params.toList.map fun t=>match Tryz.pinned.checked.prog.underlying t with|some (.int k)=>some k|_=>none)))=true:=by kernel_rfl
theorem sound_j29:((Rows.scopeSoundUptoRow.pinned==Rows.scopeSoundUptoRow.pinnedBy))=true:=by kernel_rfl
theorem sound_j30:((Rows.scopeSoundUptoRow.veiled==(fn8.params.toList++(Rows.OpenSpec.upto Rows.scopeSoundSpec).bare.plain.varTypes Tryz.pinned.checked.prog++fn8.resultTypes.toList).any (Tryz.pinned.checked.prog.veiledRec ·)))=true:=by kernel_rfl
theorem sound_j31:(Rows.scopeSoundUptoRow.veiledFits Tryz.pinned.checked.prog fn8.params.toList (fn8.params.toList++(Rows.OpenSpec.upto Rows.scopeSoundSpec).bare.plain.varTypes Tryz.pinned.checked.prog++fn8.resultTypes.toList))=true:=by kernel_rfl
theorem sound_facts:joinedFacts Tryz.pinned.checked.prog 8 fn8 (Rows.OpenSpec.upto Rows.scopeSoundSpec).bare Rows.scopeSoundUptoRow=true:=by
 unfold joinedFacts;exact(vG.2 ⟨(vG.2 ⟨(vG.2 ⟨(vG.2 ⟨(vG.2 ⟨(vG.2 ⟨(vG.2 ⟨(vG.2 ⟨(vG.2 ⟨(vG.2 ⟨(vG.2 ⟨(vG.2 ⟨(vG.2 ⟨(vG.2 ⟨(vG.2 ⟨(vG.2 ⟨(vG.2 ⟨(vG.2 ⟨(vG.2 ⟨(vG.2 ⟨(vG.2 ⟨(vG.2 ⟨(vG.2 ⟨(vG.2 ⟨(vG.2 ⟨(vG.2 ⟨(vG.2 ⟨(vG.2 ⟨(vG.2 ⟨(vG.2 ⟨(vG.2 ⟨sound_j0,sound_j1⟩),sound_j2⟩),sound_j3⟩),sound_j4⟩),sound_j5⟩),sound_j6⟩),sound_j7⟩),sound_j8⟩),sound_j9⟩),sound_j10⟩),sound_j11⟩),sound_j12⟩),sound_j13⟩),sound_j14⟩),sound_j15⟩),sound_j16⟩),sound_j17⟩),sound_j18⟩),sound_j19⟩),sound_j20⟩),sound_j21⟩),sound_j22⟩),sound_j23⟩),sound_j24⟩),sound_j25⟩),sound_j26⟩),sound_j27⟩),sound_j28⟩),sound_j29⟩),sound_j30⟩),sound_j31⟩)
end
end Go.Proofs.YtijnokbblmbpkaaGreatDoor
