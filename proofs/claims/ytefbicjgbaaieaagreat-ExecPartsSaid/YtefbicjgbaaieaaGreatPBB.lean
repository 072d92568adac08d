/-
  ExecParts returns true for every input, and each argument reads behind the call as it read before.
  Conditions: none.
-/
import Derived.Test.YtefbicjgbaaieaaGreatPAZ
import Derived.Test.YtefbicjgbaaieaaGreatRows
import Derived.Test.YtefbicjgbaaieaaGreatPBA
import Derived.Test.YtefbicjgbaaieaaGreatPAQ
import Derived.HandedShaped
set_option maxHeartbeats 8000000
namespace Go.Proofs.YtefbicjgbaaieaaGreat
open Go Go.Vx Go.Proofs.Tryz
set_option maxRecDepth 100000
theorem yl3:ownKnob Tryz.prog.godebug=none:=kR
theorem yc5:laidOutB prog=true:=kR
theorem yj0 (xs:List V) (h:ShpA prog [22,5,5] xs):VCalls prog 10 xs [] fun r _=>r= .bool true:=by
 obtain⟨_,_,rfl,h0,h⟩:=h.cons_inv
 obtain⟨_,_,rfl,h1,h⟩:=h.cons_inv
 obtain⟨_,_,rfl,h2,h⟩:=h.cons_inv
 obtain rfl:=h.nil_inv
 obtain⟨ah,rfl,aa,ab⟩:=h0.sl_inv underlying22
 obtain⟨x0,rfl,ad⟩:=ShpR.map_inv (f:=(fun(l:List GAct)=> [V.sl .ro (l.map GAct.row)])) (ok:=fun(y:List GAct)=>y.length<=maxLen/\ ∀yq∈y,yq.ok) (fun r hr=>by
  obtain⟨ai,rfl,ae,af⟩:=hr.sl_inv underlying41
  obtain⟨z,rfl,ag⟩:=ShpR.map_inv (f:=GAct.row) (ok:=fun(y:GAct)=>y.ok) (fun r hr=>by
   exact GAct.of_shp hr) af
  have wz:=And.intro (by simpa using ae:z.length<=maxLen) ag
  exact⟨z,rfl,wz⟩) ab
 have w0:=And.intro (by simpa using aa:x0.length<=maxLen) ad
 obtain⟨x1,rfl,w1⟩:=h1.int_inv underlying5
 have w1:=xO5 w1
 obtain⟨x2,rfl,w2⟩:=h2.int_inv underlying5
 have w2:=xO5 w2
 rw[zT9 (by rw[underlying22]),zT9 (by rw[underlying5]),zT9 (by rw[underlying5])]
 exact(yD9 x0 w0.2 x1 x2 w1 w2).mono fun r s h=>h.1
theorem yc4 {W:World} (aa:W.ShapedOpen prog):GlobOk W (lims W):=by
 refine⟨fun p hp=> ?_,fun p hp=> ?_⟩
 .cases hp
 .obtain rfl:p=(0,.i64):=by simpa[vints]using hp
  obtain⟨m,hm⟩:=Tryz.laysM144.s1_3 W aa
  exact⟨yY4 hm,m,hm⟩
theorem zS9 (os:Os) (started:os.Started) (H:Type) (enc:TypeId×Value->H):
  ReturnsInHanded {} checked os 10 .any (Rows.execPartsSpec.pre6 enc prog f10 Rows.execPartsRow.domain false) (Rows.execPartsSpec.post enc prog f10 false true false false):=by
 refine returnsInHanded_of_change_shaped (C:=checked) yl3 started kR func10
  (ChangeSpec.witness6 (enc:=enc) (C:=checked) false ⟨#[], #[.slice none 0 0,.int .u8 0,.int .u8 0],[]⟩ 8 kR kR kR kR) ?_
 intro W base args ds gs before aa hW _ _ ab _
 exact xu2 (P:=prog) [3,5,22,41,117] [22,5,5] 4 params10 kR underlying4 kR kR kR yc5 rfl
  (fun H ds h=>by
   match ds,h with
   | [_,_,_],_=>rfl) yj0 H enc W base args ds gs before aa hW (yc4 ab)
theorem execParts_proved:Rows.ExecPartsSaid:=
 OpenClaim.holds_of_wide 10 f10 rfl rfl rfl rfl rfl rfl rfl ⟨rfl,rfl,rfl,rfl,rfl⟩ rfl rfl rfl rfl rfl yu8 func10 yc3
  (of_decide_eq_true kR) (by unfold Func.isWrapper;first|(rw[if_pos (by decide+kernel)];kernel_rfl)|(rw[if_neg (by decide+kernel)];exact⟨rfl,rfl⟩))
  (fun os started H enc _=>zS9 os started H enc)
#print axioms execParts_proved
end Go.Proofs.YtefbicjgbaaieaaGreat
