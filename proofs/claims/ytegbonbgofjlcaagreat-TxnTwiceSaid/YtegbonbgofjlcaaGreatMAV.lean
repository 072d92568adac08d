/-
  TxnTwice returns true for every input, and each argument reads behind the call as it read before.
  Conditions: none.
-/
import Derived.Test.YtegbonbgofjlcaaGreatMAT
import Derived.Test.YtegbonbgofjlcaaGreatRows
import Derived.Test.YtegbonbgofjlcaaGreatMAU
import Derived.Test.YtegbonbgofjlcaaGreatMAL
import Derived.HandedShaped
set_option maxHeartbeats 8000000
namespace Go.Proofs.YtegbonbgofjlcaaGreat
open Go Go.Vx Go.Proofs.Tryz
set_option maxRecDepth 100000
theorem yM8:ownKnob Tryz.prog.godebug=none:=kR
theorem yv3:laidOutB prog=true:=kR
theorem yK5(xs:List V)(h:kL prog [22,2,45] xs):bN prog 6 xs [] λr _=>r=.bool true:=by
 obtain⟨_,_,rfl,h0,h⟩:=h.cons_inv;obtain⟨_,_,rfl,h1,h⟩:=h.cons_inv;obtain⟨_,_,rfl,h2,h⟩:=h.cons_inv;obtain rfl:=h.mW;obtain⟨ai,rfl,aa,ab⟩:=h0.uw underlying22;obtain⟨x0,rfl,ad⟩:=lj.mX (f:=gW.row) (ok:=λ(y:gW)=>y.ok) (λr hr=>by exact gW.Fk hr) ab;have w0:=And.intro (by simpa using aa:x0.length<=maxLen) ad;obtain⟨x1,rfl,w1⟩:=h1.iY underlying2;have w1:=G9 w1;obtain⟨aj,rfl,ae,af⟩:=h2.uw underlying45;obtain⟨x2,rfl,ah⟩:=lj.mX (f:=(λn=>[V.int .i64 n])) (ok:=λ(y:Int)=>-9223372036854775808<=y/\y<=9223372036854775807) (λr hr=>by obtain⟨z,rfl,wz⟩:=hr.iY underlying3;have wz:=G9 wz;exact⟨z,rfl,wz⟩) af;have w2:=And.intro (by simpa using ae:x2.length<=maxLen) ah;rw[Ou (by rw[underlying22]),Ou (by rw[underlying2]),Ou (by rw[underlying45])];exact(xK1 x0 w0.1 w0.2 x1 w1 x2 w2.1 w2.2).mono λr s h=>h.1
theorem yv2{W:World}(aa:W.ShapedOpen prog):iJ W (iO W):=by
 refine⟨λp hp=>?_,λp hp=>?_⟩;.cases hp
 .obtain rfl:p=(0,.i64):=by simpa[tM]using hp
  obtain⟨m,hm⟩:=Tryz.uY.s1_3 W aa;exact⟨S0 hm,m,hm⟩
theorem yi4 (os:Os) (started:os.Started) (H:Type) (enc:TypeId×Value->H):
  ReturnsInHanded {} checked os 6 .any (Rows.txnTwiceSpec.pre6 enc prog f6 Rows.txnTwiceRow.domain false) (Rows.txnTwiceSpec.post enc prog f6 false true false false):=by
 refine returnsInHanded_of_change_shaped (C:=checked) yM8 started kR func6
  (ChangeSpec.witness6 (enc:=enc) (C:=checked) false ⟨#[], #[.slice none 0 0,.int .i64 0,.slice none 0 0],[]⟩ 8 kR kR kR kR) ?_
 intro W base args ds gs before aa hW _ _ ab _
 exact xU3 (P:=prog) [2,3,22,45,100] [22,2,45] 4 params6 kR underlying4 kR kR kR yv3 rfl
  (λH ds h=>by
   match ds,h with
   | [_,_,_],_=>rfl) yK5 H enc W base args ds gs before aa hW (yv2 ab)
theorem txnTwice_proved:Rows.TxnTwiceSaid:=OpenClaim.holds_of_wide 6 f6 rfl rfl rfl rfl rfl rfl rfl ⟨rfl,rfl,rfl,rfl,rfl⟩ rfl rfl rfl rfl rfl xd0 func6 yv1 (alA kR) (by unfold Func.isWrapper;first|(rw[alq (by decide+kernel)];kernel_rfl)|(rw[alp (by decide+kernel)];exact⟨rfl,rfl⟩)) (λos started H enc _=>yi4 os started H enc)
#print axioms txnTwice_proved
end Go.Proofs.YtegbonbgofjlcaaGreat
