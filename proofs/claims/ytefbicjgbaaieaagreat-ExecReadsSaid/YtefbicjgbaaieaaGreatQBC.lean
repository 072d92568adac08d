/-
  ExecReads returns true for every input, and each argument reads behind the call as it read before.
  Conditions: none.
-/
import Derived.Test.YtefbicjgbaaieaaGreatQBA
import Derived.Test.YtefbicjgbaaieaaGreatRows
import Derived.Test.YtefbicjgbaaieaaGreatQBB
import Derived.Test.YtefbicjgbaaieaaGreatQAQ
import Derived.HandedShaped
set_option maxHeartbeats 8000000
namespace Go.Proofs.YtefbicjgbaaieaaGreat
open Go Go.Vx Go.Proofs.Tryz
set_option maxRecDepth 100000
theorem yo1:ownKnob Tryz.prog.godebug=none:=kR
theorem yf0:laidOutB prog=true:=kR
theorem yl8(xs:List V)(h:ShpA prog [22,41] xs):VCalls prog 7 xs [] λr _=>r=.bool true:=by
 obtain⟨_,_,rfl,h0,h⟩:=h.cons_inv;obtain⟨_,_,rfl,h1,h⟩:=h.cons_inv;obtain rfl:=h.nil_inv;obtain⟨ak,rfl,aa,ab⟩:=h0.sl_inv underlying22;obtain⟨x0,rfl,ad⟩:=ShpR.map_inv (f:=(λ(l:List GAct)=>[V.sl .ro (l.map GAct.row)])) (ok:=λ(y:List GAct)=>y.length<=maxLen/\∀yq∈y,yq.ok) (λr hr=>by
  obtain⟨an,rfl,ah,ai⟩:=hr.sl_inv underlying41;obtain⟨z,rfl,aj⟩:=ShpR.map_inv (f:=GAct.row) (ok:=λ(y:GAct)=>y.ok) (λr hr=>by exact GAct.of_shp hr) ai;have wz:=And.intro (by simpa using ah:z.length<=maxLen) aj;exact⟨z,rfl,wz⟩) ab;have w0:=And.intro (by simpa using aa:x0.length<=maxLen) ad;obtain⟨al,rfl,ae,af⟩:=h1.sl_inv underlying41;obtain⟨x1,rfl,ag⟩:=ShpR.map_inv (f:=GAct.row) (ok:=λ(y:GAct)=>y.ok) (λr hr=>by exact GAct.of_shp hr) af;have w1:=And.intro (by simpa using ae:x1.length<=maxLen) ag;rw[ys9 (by rw[underlying22]),ys9 (by rw[underlying41])];exact(yH6 x0 w0.2 x1 w1.1 w1.2).mono λr s h=>h.1
theorem ye9{W:World}(aa:W.ShapedOpen prog):GlobOk W (lims W):=by
 refine⟨λp hp=>?_,λp hp=>?_⟩;.cases hp
 .obtain rfl:p=(0,.i64):=by simpa[vints]using hp
  obtain⟨m,hm⟩:=Tryz.laysM144.s1_3 W aa;exact⟨xb8 hm,m,hm⟩
theorem zV1 (os:Os) (started:os.Started) (H:Type) (enc:TypeId×Value->H):
  ReturnsInHanded {} checked os 7 .any (Rows.execReadsSpec.pre6 enc prog f7 Rows.execReadsRow.domain false) (Rows.execReadsSpec.post enc prog f7 false true false false):=by
 refine returnsInHanded_of_change_shaped (C:=checked) yo1 started kR func7
  (ChangeSpec.witness6 (enc:=enc) (C:=checked) false ⟨#[], #[.slice none 0 0,.slice none 0 0],[]⟩ 8 kR kR kR kR) ?_
 intro W base args ds gs before aa hW _ _ ab _
 exact xx0 (P:=prog) [3,22,41,117] [22,41] 4 params7 kR underlying4 kR kR kR yf0 rfl
  (fun H ds h=>by
   match ds,h with
   | [_,_],_=>rfl) yl8 H enc W base args ds gs before aa hW (ye9 ab)
theorem execReads_proved:Rows.ExecReadsSaid:=OpenClaim.holds_of_wide 7 f7 rfl rfl rfl rfl rfl rfl rfl ⟨rfl,rfl,rfl,rfl,rfl⟩ rfl rfl rfl rfl rfl yx7 func7 ye8 (of_decide_eq_true kR) (by unfold Func.isWrapper;first|(rw[if_pos (by decide+kernel)];kernel_rfl)|(rw[if_neg (by decide+kernel)];exact⟨rfl,rfl⟩)) (λos started H enc _=>zV1 os started H enc)
#print axioms execReads_proved
end Go.Proofs.YtefbicjgbaaieaaGreat
