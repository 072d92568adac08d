/-
  ExecStories returns true for every input, and each argument reads behind the call as it read before.
  Conditions: none.
-/
import Derived.Test.YtefbicjgbaaieaaGreatKAU
import Derived.Test.YtefbicjgbaaieaaGreatRows
import Derived.Test.YtefbicjgbaaieaaGreatKAV
import Derived.Test.YtefbicjgbaaieaaGreatKAM
import Derived.HandedShaped
set_option maxHeartbeats 8000000
namespace Go.Proofs.YtefbicjgbaaieaaGreat
open Go Go.Vx Go.Proofs.Tryz
set_option maxRecDepth 100000
theorem yi6:ownKnob Tryz.prog.godebug=none:=kR
theorem yb1:laidOutB prog=true:=kR
theorem yg3(xs:List V)(h:km prog [22] xs):bL prog 3 xs [] λr _=>r=.bool true:=by obtain⟨_,_,rfl,h0,h⟩:=h.cons_inv;obtain rfl:=h.mG;obtain⟨ah,rfl,aa,ab⟩:=h0.tu underlying22;obtain⟨x0,rfl,ad⟩:=kV.mH (f:=(λ(l:List fK)=>[V.sl .ro (l.map fK.row)])) (ok:=λ(y:List fK)=>y.length<=maxLen/\∀yq∈y,yq.ok) (λr hr=>by
  obtain⟨ai,rfl,ae,af⟩:=hr.tu underlying41;obtain⟨z,rfl,ag⟩:=kV.mH (f:=fK.row) (ok:=λ(y:fK)=>y.ok) (λr hr=>by exact fK.DL hr) af;have wz:=And.intro (by simpa using ae:z.length<=maxLen) ag;exact⟨z,rfl,wz⟩) ab;have w0:=And.intro (by simpa using aa:x0.length<=maxLen) ad;rw[Yo (by rw[underlying22])];exact(yv3 x0 w0.1 w0.2).mono λr s h=>h.1
theorem yb0{W:World}(aa:W.ShapedOpen prog):gZ W (ik W):=by
 refine⟨λp hp=>?_,λp hp=>?_⟩;.cases hp
 .obtain rfl:p=(0,.i64):=by simpa[sH]using hp
  obtain⟨m,hm⟩:=Tryz.tP.s1_3 W aa;exact⟨Qu hm,m,hm⟩
theorem zT3 (os:Os) (started:os.Started) (H:Type) (enc:TypeId×Value->H):
  ReturnsInHanded {} checked os 3 .any (Rows.execStoriesSpec.pre6 enc prog f3 Rows.execStoriesRow.domain false) (Rows.execStoriesSpec.post enc prog f3 false true false false):=by
 refine returnsInHanded_of_change_shaped (C:=checked) yi6 started kR func3
  (ChangeSpec.witness6 (enc:=enc) (C:=checked) false ⟨#[], #[.slice none 0 0],[]⟩ 8 kR kR kR kR) ?_
 intro W base args ds gs before aa hW _ _ ab _
 exact Yn (P:=prog) [3,22,41,117] [22] 4 params3 kR underlying4 kR kR kR yb1 rfl
  (λH ds h=>by
   match ds,h with
   | [_],_=>rfl) yg3 H enc W base args ds gs before aa hW (yb0 ab)
theorem execStories_proved:Rows.ExecStoriesSaid:=OpenClaim.holds_of_wide 3 f3 rfl rfl rfl rfl rfl rfl rfl ⟨rfl,rfl,rfl,rfl,rfl⟩ rfl rfl rfl rfl rfl yo4 func3 ya9 (ahP kR) (by unfold Func.isWrapper;first|(rw[ahJ (by decide+kernel)];kernel_rfl)|(rw[ahI (by decide+kernel)];exact⟨rfl,rfl⟩)) (λos started H enc _=>zT3 os started H enc)
#print axioms execStories_proved
end Go.Proofs.YtefbicjgbaaieaaGreat
