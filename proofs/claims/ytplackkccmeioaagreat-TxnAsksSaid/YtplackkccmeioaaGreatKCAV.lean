/-
  TxnAsks returns true for every input, and each argument reads behind the call as it read before.
  Conditions: none.
-/
import Derived.Test.YtplackkccmeioaaGreatKCAT
import Derived.Test.YtplackkccmeioaaGreatRows
import Derived.Test.YtplackkccmeioaaGreatKCAU
import Derived.Test.YtplackkccmeioaaGreatKCAL
import Derived.HandedShaped
set_option maxHeartbeats 8000000
namespace Go.Proofs.YtplackkccmeioaaGreat
open Go Go.Vx Go.Proofs.Tryz
set_option maxRecDepth 100000
theorem yV6:ownKnob Tryz.prog.godebug=none:=kR
theorem yF0:laidOutB prog=true:=kR
theorem yT3 (xs:List V) (h:kf prog [22,2,23] xs):bN prog 3 xs [] λr _=>r= .bool true:=by
 obtain⟨_,_,rfl,h0,h⟩:=h.cons_inv
 obtain⟨_,_,rfl,h1,h⟩:=h.cons_inv
 obtain⟨_,_,rfl,h2,h⟩:=h.cons_inv
 obtain rfl:=h.gC
 obtain⟨ai,rfl,aa,ab⟩:=h0.oU underlying22
 obtain⟨x0,rfl,ad⟩:=kb.kA (f:=gF.row) (ok:=λ(y:gF)=>y.ok) (λr hr=>by
  exact gF.gn hr) ab
 have w0:=And.intro (by simpa using aa:x0.length<=maxLen) ad
 obtain⟨x1,rfl,w1⟩:=h1.ef underlying2
 have w1:=ow w1
 obtain⟨aj,rfl,ae,af⟩:=h2.oU underlying23
 obtain⟨x2,rfl,ah⟩:=kb.kA (f:=gM.row) (ok:=λ(y:gM)=>y.ok) (λr hr=>by
  exact gM.gn hr) af
 have w2:=And.intro (by simpa using ae:x2.length<=maxLen) ah
 rw[MP (by rw[underlying22]),MP (by rw[underlying2]),MP (by rw[underlying23])]
 exact(xD2 x0 w0.1 w0.2 x1 w1 x2 w2.1 w2.2).mono λr s h=>h.1
theorem yE9 {W:World} (aa:W.ShapedOpen prog):im W (iy W):=by
 refine⟨λp hp=> ?_,λp hp=> ?_⟩
 .cases hp
 .obtain rfl:p=(0,.i64):=by simpa[su]using hp
  obtain⟨m,hm⟩:=Tryz.tP.s1_3 W aa
  exact⟨Q6 hm,m,hm⟩
theorem yn8 (os:Os) (started:os.Started) (H:Type) (enc:TypeId×Value->H):
  ReturnsInHanded {} checked os 3 .any (Rows.txnAsksSpec.pre6 enc prog f3 Rows.txnAsksRow.domain false) (Rows.txnAsksSpec.post enc prog f3 false true false false):=by
 refine returnsInHanded_of_change_shaped (C:=checked) yV6 started kR func3
  (ChangeSpec.witness6 (enc:=enc) (C:=checked) false ⟨#[], #[.slice none 0 0,.int .i64 0,.slice none 0 0],[]⟩ 8 kR kR kR kR) ?_
 intro W base args ds gs before aa hW _ _ ab _
 exact Zk (P:=prog) [2,3,4,9,22,23,31,36,38,50,52,54,88,96] [22,2,23] 4 params3 kR underlying4 kR kR kR yF0 rfl
  (λH ds h=>by
   match ds,h with
   | [_,_,_],_=>rfl) yT3 H enc W base args ds gs before aa hW (yE9 ab)
theorem txnAsks_proved:Rows.TxnAsksSaid:=
 OpenClaim.holds_of_wide 3 f3 rfl rfl rfl rfl rfl rfl rfl ⟨rfl,rfl,rfl,rfl,rfl⟩ rfl rfl rfl rfl rfl xg7 func3 yE8
  (aiD kR) (by unfold Func.isWrapper;first|(rw[aiv (by decide+kernel)];kernel_rfl)|(rw[aiu (by decide+kernel)];exact⟨rfl,rfl⟩))
  (λos started H enc _=>yn8 os started H enc)
#print axioms txnAsks_proved
end Go.Proofs.YtplackkccmeioaaGreat
