/-
  TxnPushes returns true for every input, and each argument reads behind the call as it read before.
  Conditions: none.
-/
import Derived.Test.YtplackkccmeioaaGreatKAAT
import Derived.Test.YtplackkccmeioaaGreatRows
import Derived.Test.YtplackkccmeioaaGreatKAAU
import Derived.Test.YtplackkccmeioaaGreatKAAL
import Derived.HandedShaped
set_option maxHeartbeats 8000000
namespace Go.Proofs.YtplackkccmeioaaGreat
open Go Go.Vx Go.Proofs.Tryz
set_option maxRecDepth 100000
theorem ys9:ownKnob Tryz.prog.godebug=none:=kR
theorem yo1:laidOutB prog=true:=kR
theorem yq6 (xs:List V) (h:j8 prog [22,2,31,3,4] xs):bN prog 5 xs [] λr _=>r= .bool true:=by
 obtain⟨_,_,rfl,h0,h⟩:=h.cons_inv
 obtain⟨_,_,rfl,h1,h⟩:=h.cons_inv
 obtain⟨_,_,rfl,h2,h⟩:=h.cons_inv
 obtain⟨_,_,rfl,h3,h⟩:=h.cons_inv
 obtain⟨_,_,rfl,h4,h⟩:=h.cons_inv
 obtain rfl:=h.ku
 obtain⟨ae,rfl,aa,ab⟩:=h0.DD underlying22
 obtain⟨x0,rfl,ad⟩:=lx.pU (f:=gH.row) (ok:=λ(y:gH)=>y.ok) (λr hr=>by
  exact gH.oU hr) ab
 have w0:=And.intro (by simpa using aa:x0.length<=maxLen) ad
 obtain⟨x1,rfl,w1⟩:=h1.fO underlying2
 have w1:=uP w1
 obtain⟨x2,rfl,w2⟩:=fq.oU h2
 obtain⟨x3,rfl,w3⟩:=h3.fO underlying3
 have w3:=uP w3
 obtain⟨x4,rfl⟩:=h4.tf underlying4
 have w4:True:=trivial
 rw[JT (by rw[underlying22]),JT (by rw[underlying2]),Y7 underlying31,JT (by rw[underlying3]),JT (by rw[underlying4])]
 exact(xM4 x0 w0.1 w0.2 x1 w1 x2 w2 x3 w3 x4).mono λr s h=>h.1
theorem yo0 {W:World} (aa:W.ShapedOpen prog):il W (iw W):=by
 refine⟨λp hp=> ?_,λp hp=> ?_⟩
 .cases hp
 .obtain rfl:p=(0,.i64):=by simpa[sx]using hp
  obtain⟨m,hm⟩:=Tryz.tT.s1_3 W aa
  exact⟨QU hm,m,hm⟩
theorem ya0 (os:Os) (started:os.Started) (H:Type) (enc:TypeId×Value->H):
  ReturnsInHanded {} checked os 5 .any (Rows.txnPushesSpec.pre6 enc prog f5 Rows.txnPushesRow.domain false) (Rows.txnPushesSpec.post enc prog f5 false true false false):=by
 refine returnsInHanded_of_change_shaped (C:=checked) ys9 started kR func5
  (ChangeSpec.witness6 (enc:=enc) (C:=checked) false ⟨#[], #[.slice none 0 0,.int .i64 0,.agg #[.int .i64 0,.int .i64 0,.int .i64 0,.int .i64 0],.int .i64 0,.bool false],[]⟩ 8 kR kR kR kR) ?_
 intro W base args ds gs before aa hW _ _ ab _
 exact Y6 (P:=prog) [2,3,4,22,31,88] [22,2,31,3,4] 4 params5 kR underlying4 kR kR kR yo1 rfl
  (λH ds h=>by
   match ds,h with
   | [_,_,_,_,_],_=>rfl) yq6 H enc W base args ds gs before aa hW (yo0 ab)
theorem txnPushes_proved:Rows.TxnPushesSaid:=
 OpenClaim.holds_of_wide 5 f5 rfl rfl rfl rfl rfl rfl rfl ⟨rfl,rfl,rfl,rfl,rfl⟩ rfl rfl rfl rfl rfl yI3 func5 yn9
  (aia kR) (by unfold Func.isWrapper;first|(rw[ai2 (by decide+kernel)];kernel_rfl)|(rw[ai1 (by decide+kernel)];exact⟨rfl,rfl⟩))
  (λos started H enc _=>ya0 os started H enc)
#print axioms txnPushes_proved
end Go.Proofs.YtplackkccmeioaaGreat
