/-
  ExecOrders returns true for every input, and each argument reads behind the call as it read before.
  Conditions: none.
-/
import Derived.Test.YtkigddpaonhmlaaGreatXBN
import Derived.Test.YtkigddpaonhmlaaGreatRows
import Derived.Test.YtkigddpaonhmlaaGreatXBO
import Derived.Test.YtkigddpaonhmlaaGreatXBA
import Derived.HandedShaped
set_option maxHeartbeats 8000000
namespace Go.Proofs.YtkigddpaonhmlaaGreat
open Go Go.Vx Go.Proofs.Tryz
set_option maxRecDepth 100000
theorem yd9:ownKnob Tryz.prog.godebug=none:=by kernel_rfl
theorem zX9:laidOutB prog=true:=by kernel_rfl
theorem yb6 (xs:List V) (h:ShpA prog [22,4,5] xs):VCalls prog 3 xs [] fun r _=>r= .bool true:=by
 obtain⟨_,_,rfl,h0,h⟩:=h.cons_inv
 obtain⟨_,_,rfl,h1,h⟩:=h.cons_inv
 obtain⟨_,_,rfl,h2,h⟩:=h.cons_inv
 obtain rfl:=h.nil_inv
 obtain⟨x0_r,rfl,x0_l,x0_h⟩:=h0.sl_inv underlying22
 obtain⟨x0,rfl,x0_w⟩:=ShpR.map_inv (f:=(fun(l:List GAct)=> [V.sl .ro (l.map GAct.row)])) (ok:=fun(y:List GAct)=>y.length<=maxLen/\ ∀yq∈y,yq.ok) (fun r hr=>by
  obtain⟨z_r,rfl,z_l,z_h⟩:=hr.sl_inv underlying63
  obtain⟨z,rfl,z_w⟩:=ShpR.map_inv (f:=GAct.row) (ok:=fun(y:GAct)=>y.ok) (fun r hr=>by
   exact GAct.of_shp hr) z_h
  have wz:=And.intro (by simpa using z_l:z.length<=maxLen) z_w
  exact⟨z,rfl,wz⟩) x0_h
 have w0:=And.intro (by simpa using x0_l:x0.length<=maxLen) x0_w
 obtain⟨x1,rfl⟩:=h1.bool_inv underlying4
 have w1:True:=trivial
 obtain⟨x2,rfl,w2⟩:=h2.int_inv underlying5
 have w2:=xX5 w2
 rw[zT2 (by rw[underlying22]),zT2 (by rw[underlying4]),zT2 (by rw[underlying5])]
 exact(yu3 x0 w0.2 x1 x2 w2).mono fun r s h=>h.1
theorem zX8 {W:World} (hsh:W.ShapedOpen prog):GlobOk W (lims W):=by
 refine⟨fun p hp=> ?_,fun p hp=> ?_⟩
 .cases hp
 .obtain rfl:p=(0,.i64):=by simpa[vints]using hp
  obtain⟨m,hm⟩:=Tryz.laysM144.s1_3 W hsh
  exact⟨yX3 hm,m,hm⟩
theorem zO2 (os:Os) (started:os.Started) (H:Type) (enc:TypeId×Value->H):
  ReturnsInHanded {} checked os 3 .any (Rows.execOrdersSpec.pre6 enc prog f3 Rows.execOrdersRow.domain false) (Rows.execOrdersSpec.post enc prog f3 false true false false):=by
 refine returnsInHanded_of_change_shaped (C:=checked) yd9 started (by kernel_rfl) func3
  (ChangeSpec.witness6 (enc:=enc) (C:=checked) false ⟨#[], #[.slice none 0 0,.bool false,.int .u8 0],[]⟩ 8 (by kernel_rfl) (by kernel_rfl) (by kernel_rfl) (by kernel_rfl)) ?_
 intro W base args ds gs before hval hW _ _ hsh _
 exact xs5 (P:=prog) [3,4,5,22,63,96] [22,4,5] 4 params3 (by kernel_rfl) underlying4 (by kernel_rfl) (by kernel_rfl) (by kernel_rfl) zX9 rfl
  (fun H ds h=>by
   match ds,h with
   | [_,_,_],_=>rfl) yb6 H enc W base args ds gs before hval hW (zX8 hsh)
theorem execOrders_proved:Rows.ExecOrdersSaid:=
 OpenClaim.holds_of_wide 3 f3 rfl rfl rfl rfl rfl rfl rfl ⟨rfl,rfl,rfl,rfl,rfl⟩ rfl rfl rfl rfl rfl yl7 func3 zX7
  (of_decide_eq_true (by kernel_rfl)) (by unfold Func.isWrapper;first|(rw[if_pos (by decide+kernel)];kernel_rfl)|(rw[if_neg (by decide+kernel)];exact⟨rfl,rfl⟩))
  (fun os started H enc _=>zO2 os started H enc)
#print axioms execOrders_proved
end Go.Proofs.YtkigddpaonhmlaaGreat
