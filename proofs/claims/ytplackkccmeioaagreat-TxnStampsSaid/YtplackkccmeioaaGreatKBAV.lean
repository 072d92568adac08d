/-
  TxnStamps returns true for every input, and each argument reads behind the call as it read before.
  Conditions: none.
-/
import Derived.Test.YtplackkccmeioaaGreatKBAT
import Derived.Test.YtplackkccmeioaaGreatRows
import Derived.Test.YtplackkccmeioaaGreatKBAU
import Derived.Test.YtplackkccmeioaaGreatKBAL
import Derived.HandedShaped
set_option maxHeartbeats 8000000
namespace Go.Proofs.YtplackkccmeioaaGreat
open Go Go.Vx Go.Proofs.Tryz
set_option maxRecDepth 100000
theorem yr4:ownKnob Tryz.prog.godebug=none:=kR
theorem ym6:laidOutB prog=true:=kR
theorem yp1 (xs:List V) (h:jU prog [22,2,69] xs):bN prog 4 xs [] λr _=>r= .bool true:=by
 obtain⟨_,_,rfl,h0,h⟩:=h.cons_inv
 obtain⟨_,_,rfl,h1,h⟩:=h.cons_inv
 obtain⟨_,_,rfl,h2,h⟩:=h.cons_inv
 obtain rfl:=h.lS
 obtain⟨ai,rfl,aa,ab⟩:=h0.sD underlying22
 obtain⟨x0,rfl,ad⟩:=kz.lT (f:=gz.row) (ok:=λ(y:gz)=>y.ok) (λr hr=>by
  exact gz.CF hr) ab
 have w0:=And.intro (by simpa using aa:x0.length<=maxLen) ad
 obtain⟨x1,rfl,w1⟩:=h1.iw underlying2
 have w1:=E9 w1
 obtain⟨aj,rfl,ae,af⟩:=h2.sD underlying69
 obtain⟨x2,rfl,ah⟩:=kz.lT (f:=(λn=> [V.int .i64 n])) (ok:=λ(y:Int)=> -9223372036854775808<=y/\y<=9223372036854775807) (λr hr=>by
  obtain⟨z,rfl,wz⟩:=hr.iw underlying2
  have wz:=E9 wz
  exact⟨z,rfl,wz⟩) af
 have w2:=And.intro (by simpa using ae:x2.length<=maxLen) ah
 rw[LZ (by rw[underlying22]),LZ (by rw[underlying2]),LZ (by rw[underlying69])]
 exact(xN6 x0 w0.1 w0.2 x1 w1 x2 w2.1).mono λr s h=>h.1
theorem ym5 {W:World} (aa:W.ShapedOpen prog):gX W (ic W):=by
 refine⟨λp hp=> ?_,λp hp=> ?_⟩
 .cases hp
 .obtain rfl:p=(0,.i64):=by simpa[rM]using hp
  obtain⟨m,hm⟩:=Tryz.ta.s1_3 W aa
  exact⟨Qf hm,m,hm⟩
theorem zY9 (os:Os) (started:os.Started) (H:Type) (enc:TypeId×Value->H):
  ReturnsInHanded {} checked os 4 .any (Rows.txnStampsSpec.pre6 enc prog f4 Rows.txnStampsRow.domain false) (Rows.txnStampsSpec.post enc prog f4 false true false false):=by
 refine returnsInHanded_of_change_shaped (C:=checked) yr4 started kR func4
  (ChangeSpec.witness6 (enc:=enc) (C:=checked) false ⟨#[], #[.slice none 0 0,.int .i64 0,.slice none 0 0],[]⟩ 8 kR kR kR kR) ?_
 intro W base args ds gs before aa hW _ _ ab _
 exact Yl (P:=prog) [2,3,22,69,88] [22,2,69] 4 params4 kR underlying4 kR kR kR ym6 rfl
  (λH ds h=>by
   match ds,h with
   | [_,_,_],_=>rfl) yp1 H enc W base args ds gs before aa hW (ym5 ab)
theorem txnStamps_proved:Rows.TxnStampsSaid:=
 OpenClaim.holds_of_wide 4 f4 rfl rfl rfl rfl rfl rfl rfl ⟨rfl,rfl,rfl,rfl,rfl⟩ rfl rfl rfl rfl rfl yG8 func4 ym4
  (ahp kR) (by unfold Func.isWrapper;first|(rw[ahg (by decide+kernel)];kernel_rfl)|(rw[ahf (by decide+kernel)];exact⟨rfl,rfl⟩))
  (λos started H enc _=>zY9 os started H enc)
#print axioms txnStamps_proved
end Go.Proofs.YtplackkccmeioaaGreat
