/-
  A part of the proof.
-/
import Derived.Test.YtijnokbblmbpkaaGreatDoorH14
set_option linter.all false
set_option maxRecDepth 100000
namespace Go.Proofs.YtijnokbblmbpkaaGreatDoor
open Go Go.V Go.ChangeShapes Go.WideShapes Go.Deep
section
def O8:(Rows.scopeChainsUptoRow.wf (OpenSpec.ofChange (Rows.OpenSpec.upto Rows.scopeChainsSpec).bare))=true:=by kernel_rfl
def O9:(laidOutB Tryz.pinned.checked.prog)=true:=by kernel_rfl
def Pa:(mapsRowed Tryz.pinned.checked.prog)=true:=by kernel_rfl
def Pb:(tx.params.all (Tryz.pinned.checked.prog.readableRec ·))=true:=by kernel_rfl
def Pc:(namedTie Tryz.pinned.checked.prog Rows.scopeChainsUptoRow.named (Rows.OpenSpec.upto Rows.scopeChainsSpec).bare.vars)=true:=by kernel_rfl
def Pd:((Rows.scopeChainsUptoRow.stops==[]))=true:=by kernel_rfl
def Pe:((Tryz.pinned.checked.prog.stops==[]))=true:=by kernel_rfl
def Pf:((Rows.scopeChainsUptoRow.knobs==[]))=true:=by kernel_rfl
def Pg:((Tryz.pinned.checked.prog.stopKnobs==[]))=true:=by kernel_rfl
def Pj:((Rows.scopeChainsUptoRow.inPlace==Tryz.pinned.checked.prog.inPlace 6))=true:=by kernel_rfl
def Ld:((Rows.scopeChainsUptoRow.unfollowed==Tryz.pinned.checked.prog.unfollowed 6))=true:=by kernel_rfl
def Le:((Rows.scopeChainsUptoRow.recurses==Tryz.pinned.checked.prog.recurses 6))=true:=by kernel_rfl
def Lf:((Rows.scopeChainsUptoRow.named==Tryz.pinned.checked.prog.varsNamed 6))=true:=by kernel_rfl
def Lg:((Rows.scopeChainsUptoRow.maps==(tx.params.toList++(Rows.OpenSpec.upto Rows.scopeChainsSpec).bare.plain.varTypes Tryz.pinned.checked.prog).any (Tryz.pinned.checked.prog.mapsRec ·)))=true:=by kernel_rfl
def Lh:((Rows.scopeChainsUptoRow.ifaces==(tx.params.toList++(Rows.OpenSpec.upto Rows.scopeChainsSpec).bare.plain.varTypes Tryz.pinned.checked.prog).any (Tryz.pinned.checked.prog.ifacesRec ·)))=true:=by kernel_rfl
def Li:((Rows.scopeChainsUptoRow.mapsOut==Tryz.pinned.checked.prog.mapsAmong tx.resultTypes.toList))=true:=by kernel_rfl
def Lj:((Rows.scopeChainsUptoRow.loops==(tx.params.toList++(Rows.OpenSpec.upto Rows.scopeChainsSpec).bare.plain.varTypes Tryz.pinned.checked.prog).any (Tryz.pinned.checked.prog.loopsFrom ·)))=true:=by kernel_rfl
def Lk:((Rows.scopeChainsUptoRow.wideKeys==(tx.params.toList++(Rows.OpenSpec.upto Rows.scopeChainsSpec).bare.plain.varTypes Tryz.pinned.checked.prog++tx.resultTypes.toList).any (Tryz.pinned.checked.prog.wideKeysFrom ·)))=true:=by kernel_rfl
def Ll:((Rows.OpenSpec.upto Rows.scopeChainsSpec).bare.vars.all (Tryz.pinned.checked.prog.varReadable ·))=true:=by kernel_rfl
def Lm:(tx.resultTypes.all (λt=>Tryz.pinned.checked.prog.readableRec t&&decide (t<Tryz.pinned.checked.prog.types.size)))=true:=by kernel_rfl
def Ln:((Rows.scopeChainsUptoRow.ifacesOut==tx.resultTypes.toList.any (Tryz.pinned.checked.prog.ifacesRec ·)))=true:=by kernel_rfl
def Lo:((Rows.scopeChainsUptoRow.loopsOut==tx.resultTypes.toList.any (Tryz.pinned.checked.prog.loopsFrom ·)))=true:=by kernel_rfl
def Lp:((Rows.scopeChainsUptoRow.plainKeys==Tryz.pinned.checked.prog.plainKeys))=true:=by kernel_rfl
def Lq:(Rows.scopeChainsUptoRow.shortTexts.isNone)=true:=by kernel_rfl
def Lr:(Tryz.pinned.checked.prog.stopsHeard)=true:=by kernel_rfl
def Lu:(Tryz.pinned.checked.prog.mayEnter)=true:=by kernel_rfl
def Lv:((Rows.scopeChainsUptoRow.lifted==Tryz.pinned.checked.prog.liftsFinal))=true:=by kernel_rfl
def Lw:((Tryz.pinned.checked.prog.make==some Rows.scopeChainsUptoRow.make))=true:=by kernel_rfl
def Lx:((Rows.scopeChainsUptoRow.kinds==(if Rows.scopeChainsUptoRow.domain.isEmpty then []else tx.params.toList.map λt=>match Tryz.pinned.checked.prog.underlying t with|some (.int k)=>some k|_=>none)))=true:=by kernel_rfl
def Ly:((Rows.scopeChainsUptoRow.pinned==Rows.scopeChainsUptoRow.pinnedBy))=true:=by kernel_rfl
def LB:((Rows.scopeChainsUptoRow.veiled==(tx.params.toList++(Rows.OpenSpec.upto Rows.scopeChainsSpec).bare.plain.varTypes Tryz.pinned.checked.prog++tx.resultTypes.toList).any (Tryz.pinned.checked.prog.veiledRec ·)))=true:=by kernel_rfl
def LC:(Rows.scopeChainsUptoRow.veiledFits Tryz.pinned.checked.prog tx.params.toList (tx.params.toList++(Rows.OpenSpec.upto Rows.scopeChainsSpec).bare.plain.varTypes Tryz.pinned.checked.prog++tx.resultTypes.toList))=true:=by kernel_rfl
def Gf:joinedFacts Tryz.pinned.checked.prog 6 tx (Rows.OpenSpec.upto Rows.scopeChainsSpec).bare Rows.scopeChainsUptoRow=true:=by
 unfold joinedFacts;exact(vH.2 ⟨(vH.2 ⟨(vH.2 ⟨(vH.2 ⟨(vH.2 ⟨(vH.2 ⟨(vH.2 ⟨(vH.2 ⟨(vH.2 ⟨(vH.2 ⟨(vH.2 ⟨(vH.2 ⟨(vH.2 ⟨(vH.2 ⟨(vH.2 ⟨(vH.2 ⟨(vH.2 ⟨(vH.2 ⟨(vH.2 ⟨(vH.2 ⟨(vH.2 ⟨(vH.2 ⟨(vH.2 ⟨(vH.2 ⟨(vH.2 ⟨(vH.2 ⟨(vH.2 ⟨(vH.2 ⟨(vH.2 ⟨(vH.2 ⟨(vH.2 ⟨O8,O9⟩),Pa⟩),Pb⟩),Pc⟩),Pd⟩),Pe⟩),Pf⟩),Pg⟩),Pj⟩),Ld⟩),Le⟩),Lf⟩),Lg⟩),Lh⟩),Li⟩),Lj⟩),Lk⟩),Ll⟩),Lm⟩),Ln⟩),Lo⟩),Lp⟩),Lq⟩),Lr⟩),Lu⟩),Lv⟩),Lw⟩),Lx⟩),Ly⟩),LB⟩),LC⟩)
end
end Go.Proofs.YtijnokbblmbpkaaGreatDoor
