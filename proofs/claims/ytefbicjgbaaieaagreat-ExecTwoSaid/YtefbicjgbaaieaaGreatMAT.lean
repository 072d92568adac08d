/-
  ExecTwo returns true for every input, and each argument reads behind the call as it read before.
  Conditions: none.
-/
import Derived.Test.YtefbicjgbaaieaaGreatMAR
import Derived.Test.YtefbicjgbaaieaaGreatRows
import Derived.Test.YtefbicjgbaaieaaGreatMAS
import Derived.Test.YtefbicjgbaaieaaGreatMAL
import Derived.HandedShaped
set_option maxHeartbeats 8000000
namespace Go.Proofs.YtefbicjgbaaieaaGreat
open Go Go.Vx Go.Proofs.Tryz
set_option maxRecDepth 100000
theorem yG8:ownKnob Tryz.prog.godebug=none:=kR
theorem yu7:laidOutB prog=true:=kR
theorem yE5 (xs:List V) (h:jJ prog [22,41,41] xs):bK prog 6 xs [] λr _=>r= .bool true:=by
 obtain⟨_,_,rfl,h0,h⟩:=h.cons_inv
 obtain⟨_,_,rfl,h1,h⟩:=h.cons_inv
 obtain⟨_,_,rfl,h2,h⟩:=h.cons_inv
 obtain rfl:=h.lD
 obtain⟨ao,rfl,aa,ab⟩:=h0.lE underlying22
 obtain⟨x0,rfl,ad⟩:=jl.iK (f:=(λ(l:List dR)=> [V.sl .ro (l.map dR.row)])) (ok:=λ(y:List dR)=>y.length<=maxLen/\ ∀yq∈y,yq.ok) (λr hr=>by
  obtain⟨au,rfl,ak,al⟩:=hr.lE underlying41
  obtain⟨z,rfl,an⟩:=jl.iK (f:=dR.row) (ok:=λ(y:dR)=>y.ok) (λr hr=>by
   exact dR.nS hr) al
  have wz:=And.intro (by simpa using ak:z.length<=maxLen) an
  exact⟨z,rfl,wz⟩) ab
 have w0:=And.intro (by simpa using aa:x0.length<=maxLen) ad
 obtain⟨aq,rfl,ae,af⟩:=h1.lE underlying41
 obtain⟨x1,rfl,ag⟩:=jl.iK (f:=dR.row) (ok:=λ(y:dR)=>y.ok) (λr hr=>by
  exact dR.nS hr) af
 have w1:=And.intro (by simpa using ae:x1.length<=maxLen) ag
 obtain⟨ar,rfl,ah,ai⟩:=h2.lE underlying41
 obtain⟨x2,rfl,aj⟩:=jl.iK (f:=dR.row) (ok:=λ(y:dR)=>y.ok) (λr hr=>by
  exact dR.nS hr) ai
 have w2:=And.intro (by simpa using ah:x2.length<=maxLen) aj
 rw[Lf (by rw[underlying22]),Lf (by rw[underlying41]),Lf (by rw[underlying41])]
 exact(xl1 x0 w0.2 x1 x2 w1.1 w2.1 w1.2 w2.2).mono λr s h=>h.1
theorem yu6 {W:World} (aa:W.ShapedOpen prog):gH W (gK W):=by
 refine⟨λp hp=> ?_,λp hp=> ?_⟩
 .cases hp
 .obtain rfl:p=(0,.i64):=by simpa[qN]using hp
  obtain⟨m,hm⟩:=Tryz.sj.s1_3 W aa
  exact⟨PC hm,m,hm⟩
theorem ye9 (os:Os) (started:os.Started) (H:Type) (enc:TypeId×Value->H):
  ReturnsInHanded {} checked os 6 .any (Rows.execTwoSpec.pre6 enc prog f6 Rows.execTwoRow.domain false) (Rows.execTwoSpec.post enc prog f6 false true false false):=by
 refine returnsInHanded_of_change_shaped (C:=checked) yG8 started kR func6
  (ChangeSpec.witness6 (enc:=enc) (C:=checked) false ⟨#[], #[.slice none 0 0,.slice none 0 0,.slice none 0 0],[]⟩ 8 kR kR kR kR) ?_
 intro W base args ds gs before aa hW _ _ ab _
 exact WR (P:=prog) [3,22,41,117] [22,41,41] 4 params6 kR underlying4 kR kR kR yu7 rfl
  (λH ds h=>by
   match ds,h with
   | [_,_,_],_=>rfl) yE5 H enc W base args ds gs before aa hW (yu6 ab)
theorem execTwo_proved:Rows.ExecTwoSaid:=
 OpenClaim.holds_of_wide 6 f6 rfl rfl rfl rfl rfl rfl rfl ⟨rfl,rfl,rfl,rfl,rfl⟩ rfl rfl rfl rfl rfl yS9 func6 yu5
  (afk kR) (by unfold Func.isWrapper;first|(rw[afb (by decide+kernel)];kernel_rfl)|(rw[afa (by decide+kernel)];exact⟨rfl,rfl⟩))
  (λos started H enc _=>ye9 os started H enc)
#print axioms execTwo_proved
end Go.Proofs.YtefbicjgbaaieaaGreat
