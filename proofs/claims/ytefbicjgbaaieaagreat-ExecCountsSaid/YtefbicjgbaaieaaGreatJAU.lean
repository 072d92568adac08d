/-
  ExecCounts returns true for every input, and each argument reads behind the call as it read before.
  Conditions: none.
-/
import Derived.Test.YtefbicjgbaaieaaGreatJAS
import Derived.Test.YtefbicjgbaaieaaGreatRows
import Derived.Test.YtefbicjgbaaieaaGreatJAT
import Derived.Test.YtefbicjgbaaieaaGreatJAL
import Derived.HandedShaped
set_option maxHeartbeats 8000000
namespace Go.Proofs.YtefbicjgbaaieaaGreat
open Go Go.Vx Go.Proofs.Tryz
set_option maxRecDepth 100000
theorem yi0:ownKnob Tryz.prog.godebug=none:=kR
theorem yb7:laidOutB prog=true:=kR
theorem yf7 (xs:List V) (h:ShpA prog [22,5,4] xs):VCalls prog 9 xs [] fun r _=>r= .bool true:=by
 obtain⟨_,_,rfl,h0,h⟩:=h.cons_inv
 obtain⟨_,_,rfl,h1,h⟩:=h.cons_inv
 obtain⟨_,_,rfl,h2,h⟩:=h.cons_inv
 obtain rfl:=h.nil_inv
 obtain⟨ah,rfl,aa,ab⟩:=h0.sl_inv underlying22
 obtain⟨x0,rfl,ad⟩:=ShpR.map_inv (f:=(fun(l:List GAct)=> [V.sl .ro (l.map GAct.row)])) (ok:=fun(y:List GAct)=>y.length<=maxLen/\ ∀yq∈y,yq.ok) (fun r hr=>by
  obtain⟨ai,rfl,ae,af⟩:=hr.sl_inv underlying41
  obtain⟨z,rfl,ag⟩:=ShpR.map_inv (f:=GAct.row) (ok:=fun(y:GAct)=>y.ok) (fun r hr=>by
   exact GAct.of_shp hr) af
  have wz:=And.intro (by simpa using ae:z.length<=maxLen) ag
  exact⟨z,rfl,wz⟩) ab
 have w0:=And.intro (by simpa using aa:x0.length<=maxLen) ad
 obtain⟨x1,rfl,w1⟩:=h1.int_inv underlying5
 have w1:=wh4 w1
 obtain⟨x2,rfl⟩:=h2.bool_inv underlying4
 have w2:True:=trivial
 rw[zW7 (by rw[underlying22]),zW7 (by rw[underlying5]),zW7 (by rw[underlying4])]
 exact(yy8 x0 w0.2 x1 w1 x2).mono fun r s h=>h.1
theorem yb6 {W:World} (aa:W.ShapedOpen prog):GlobOk W (lims W):=by
 refine⟨fun p hp=> ?_,fun p hp=> ?_⟩
 .cases hp
 .obtain rfl:p=(0,.i64):=by simpa[vints]using hp
  obtain⟨m,hm⟩:=Tryz.laysM144.s1_3 W aa
  exact⟨xd5 hm,m,hm⟩
theorem zR1 (os:Os) (started:os.Started) (H:Type) (enc:TypeId×Value->H):
  ReturnsInHanded {} checked os 9 .any (Rows.execCountsSpec.pre6 enc prog f9 Rows.execCountsRow.domain false) (Rows.execCountsSpec.post enc prog f9 false true false false):=by
 refine returnsInHanded_of_change_shaped (C:=checked) yi0 started kR func9
  (ChangeSpec.witness6 (enc:=enc) (C:=checked) false ⟨#[], #[.slice none 0 0,.int .u8 0,.bool false],[]⟩ 8 kR kR kR kR) ?_
 intro W base args ds gs before aa hW _ _ ab _
 exact xA0 (P:=prog) [3,4,5,22,41,117] [22,5,4] 4 params9 kR underlying4 kR kR kR yb7 rfl
  (fun H ds h=>by
   match ds,h with
   | [_,_,_],_=>rfl) yf7 H enc W base args ds gs before aa hW (yb6 ab)
theorem execCounts_proved:Rows.ExecCountsSaid:=
 OpenClaim.holds_of_wide 9 f9 rfl rfl rfl rfl rfl rfl rfl ⟨rfl,rfl,rfl,rfl,rfl⟩ rfl rfl rfl rfl rfl yp8 func9 yb5
  (of_decide_eq_true kR) (by unfold Func.isWrapper;first|(rw[if_pos (by decide+kernel)];kernel_rfl)|(rw[if_neg (by decide+kernel)];exact⟨rfl,rfl⟩))
  (fun os started H enc _=>zR1 os started H enc)
#print axioms execCounts_proved
end Go.Proofs.YtefbicjgbaaieaaGreat
