/-
  ExecTexts returns true for every input, and each argument reads behind the call as it read before.
  Conditions: none.
-/
import Derived.Test.YtefbicjgbaaieaaGreatLAV
import Derived.Test.YtefbicjgbaaieaaGreatRows
import Derived.Test.YtefbicjgbaaieaaGreatLAW
import Derived.Test.YtefbicjgbaaieaaGreatLAM
import Derived.HandedShaped
set_option maxHeartbeats 8000000
namespace Go.Proofs.YtefbicjgbaaieaaGreat
open Go Go.Vx Go.Proofs.Tryz
set_option maxRecDepth 100000
theorem yu5:ownKnob Tryz.prog.godebug=none:=kR
theorem yk9:laidOutB prog=true:=kR
theorem ys2(xs:List V)(h:km prog [22,9] xs):bL prog 4 xs [] λr _=>r=.bool true:=by obtain⟨_,_,rfl,h0,h⟩:=h.cons_inv;obtain⟨_,_,rfl,h1,h⟩:=h.cons_inv;obtain rfl:=h.mG;obtain⟨ah,rfl,aa,ab⟩:=h0.tu underlying22;obtain⟨x0,rfl,ad⟩:=kV.mH (f:=(λ(l:List fh)=>[V.sl .ro (l.map fh.row)])) (ok:=λ(y:List fh)=>y.length<=maxLen/\∀yq∈y,yq.ok) (λr hr=>by
  obtain⟨ai,rfl,ae,af⟩:=hr.tu underlying41;obtain⟨z,rfl,ag⟩:=kV.mH (f:=fh.row) (ok:=λ(y:fh)=>y.ok) (λr hr=>by exact fh.DN hr) af;have wz:=And.intro (by simpa using ae:z.length<=maxLen) ag;exact⟨z,rfl,wz⟩) ab;have w0:=And.intro (by simpa using aa:x0.length<=maxLen) ad;obtain⟨x1,rfl,w1⟩:=h1.vY underlying9;rw[QF (by rw[underlying22]),QF (by rw[underlying9])];exact(yQ2 x0 w0.2 x1 w1).mono λr s h=>h.1
theorem yk8{W:World}(aa:W.ShapedOpen prog):gZ W (ik W):=by
 refine⟨λp hp=>?_,λp hp=>?_⟩;.cases hp
 .obtain rfl:p=(0,.i64):=by simpa[sH]using hp
  obtain⟨m,hm⟩:=Tryz.tP.s1_3 W aa;exact⟨QC hm,m,hm⟩
theorem ya8 (os:Os) (started:os.Started) (H:Type) (enc:TypeId×Value->H):
  ReturnsInHanded {} checked os 4 .any (Rows.execTextsSpec.pre6 enc prog f4 Rows.execTextsRow.domain false) (Rows.execTextsSpec.post enc prog f4 false true false false):=by
 refine returnsInHanded_of_change_shaped (C:=checked) yu5 started kR func4
  (ChangeSpec.witness6 (enc:=enc) (C:=checked) false ⟨#[], #[.slice none 0 0,.string ⟨#[]⟩],[]⟩ 8 kR kR kR kR) ?_
 intro W base args ds gs before aa hW _ _ ab _
 exact Yu (P:=prog) [3,9,22,41,117] [22,9] 4 params4 kR underlying4 kR kR kR yk9 rfl
  (λH ds h=>by
   match ds,h with
   | [_,_],_=>rfl) ys2 H enc W base args ds gs before aa hW (yk8 ab)
theorem execTexts_proved:Rows.ExecTextsSaid:=OpenClaim.holds_of_wide 4 f4 rfl rfl rfl rfl rfl rfl rfl ⟨rfl,rfl,rfl,rfl,rfl⟩ rfl rfl rfl rfl rfl yF9 func4 yk7 (ahV kR) (by unfold Func.isWrapper;first|(rw[ahP (by decide+kernel)];kernel_rfl)|(rw[ahO (by decide+kernel)];exact⟨rfl,rfl⟩)) (λos started H enc _=>ya8 os started H enc)
#print axioms execTexts_proved
end Go.Proofs.YtefbicjgbaaieaaGreat
