/-
  ExecNeeds returns true for every input, and each argument reads behind the call as it read before.
  Conditions: none.
-/
import Derived.Test.YtefbicjgbaaieaaGreatKBA
import Derived.Test.YtefbicjgbaaieaaGreatRows
import Derived.Test.YtefbicjgbaaieaaGreatKBB
import Derived.Test.YtefbicjgbaaieaaGreatKAQ
import Derived.HandedShaped
set_option maxHeartbeats 8000000
namespace Go.Proofs.YtefbicjgbaaieaaGreat
open Go Go.Vx Go.Proofs.Tryz
set_option maxRecDepth 100000
theorem yo8:ownKnob Tryz.prog.godebug=none:=kR
theorem yf5:laidOutB prog=true:=kR
theorem ym5 (xs:List V) (h:ShpA prog [22,41] xs):VCalls prog 11 xs [] fun r _=>r= .bool true:=by
 obtain⟨_,_,rfl,h0,h⟩:=h.cons_inv
 obtain⟨_,_,rfl,h1,h⟩:=h.cons_inv
 obtain rfl:=h.nil_inv
 obtain⟨ak,rfl,aa,ab⟩:=h0.sl_inv underlying22
 obtain⟨x0,rfl,ad⟩:=ShpR.map_inv (f:=(fun(l:List GAct)=> [V.sl .ro (l.map GAct.row)])) (ok:=fun(y:List GAct)=>y.length<=maxLen/\ ∀yq∈y,yq.ok) (fun r hr=>by
  obtain⟨an,rfl,ah,ai⟩:=hr.sl_inv underlying41
  obtain⟨z,rfl,aj⟩:=ShpR.map_inv (f:=GAct.row) (ok:=fun(y:GAct)=>y.ok) (fun r hr=>by
   exact GAct.of_shp hr) ai
  have wz:=And.intro (by simpa using ah:z.length<=maxLen) aj
  exact⟨z,rfl,wz⟩) ab
 have w0:=And.intro (by simpa using aa:x0.length<=maxLen) ad
 obtain⟨al,rfl,ae,af⟩:=h1.sl_inv underlying41
 obtain⟨x1,rfl,ag⟩:=ShpR.map_inv (f:=GAct.row) (ok:=fun(y:GAct)=>y.ok) (fun r hr=>by
  exact GAct.of_shp hr) af
 have w1:=And.intro (by simpa using ae:x1.length<=maxLen) ag
 rw[yu1 (by rw[underlying22]),yu1 (by rw[underlying41])]
 exact(yJ7 x0 w0.2 x1 w1.1 w1.2).mono fun r s h=>h.1
theorem yf4 {W:World} (aa:W.ShapedOpen prog):GlobOk W (lims W):=by
 refine⟨fun p hp=> ?_,fun p hp=> ?_⟩
 .cases hp
 .obtain rfl:p=(0,.i64):=by simpa[vints]using hp
  obtain⟨m,hm⟩:=Tryz.laysM144.s1_3 W aa
  exact⟨xf0 hm,m,hm⟩
theorem zV5 (os:Os) (started:os.Started) (H:Type) (enc:TypeId×Value->H):
  ReturnsInHanded {} checked os 11 .any (Rows.execNeedsSpec.pre6 enc prog f11 Rows.execNeedsRow.domain false) (Rows.execNeedsSpec.post enc prog f11 false true false false):=by
 refine returnsInHanded_of_change_shaped (C:=checked) yo8 started kR func11
  (ChangeSpec.witness6 (enc:=enc) (C:=checked) false ⟨#[], #[.slice none 0 0,.slice none 0 0],[]⟩ 8 kR kR kR kR) ?_
 intro W base args ds gs before aa hW _ _ ab _
 exact xB3 (P:=prog) [3,22,41,117] [22,41] 4 params11 kR underlying4 kR kR kR yf5 rfl
  (fun H ds h=>by
   match ds,h with
   | [_,_],_=>rfl) ym5 H enc W base args ds gs before aa hW (yf4 ab)
theorem execNeeds_proved:Rows.ExecNeedsSaid:=
 OpenClaim.holds_of_wide 11 f11 rfl rfl rfl rfl rfl rfl rfl ⟨rfl,rfl,rfl,rfl,rfl⟩ rfl rfl rfl rfl rfl yz5 func11 yf3
  (of_decide_eq_true kR) (by unfold Func.isWrapper;first|(rw[if_pos (by decide+kernel)];kernel_rfl)|(rw[if_neg (by decide+kernel)];exact⟨rfl,rfl⟩))
  (fun os started H enc _=>zV5 os started H enc)
#print axioms execNeeds_proved
end Go.Proofs.YtefbicjgbaaieaaGreat
