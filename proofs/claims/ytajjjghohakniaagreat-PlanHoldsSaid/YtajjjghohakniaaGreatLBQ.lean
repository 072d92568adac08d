/-
  PlanHolds returns true for every input, and each argument reads behind the call as it read before.
  Conditions: none.
-/
import Derived.Test.YtajjjghohakniaaGreatLBP
import Derived.Test.YtajjjghohakniaaGreatRows
import Derived.Test.YtajjjghohakniaaGreatLBF
import Derived.HandedShaped
namespace Go.Proofs.YtajjjghohakniaaGreat
open Go Go.Vx R
set_option maxRecDepth 100000
def inSp (key:List UInt8) (x:GSpan):Bool:= !Op.bytesLess key x.lo&&Op.bytesLess key x.hi
def inU (r:Int) (key:List UInt8) (y:Int×List GSpan):Bool:=y.1==r&&y.2.any (inSp key)
set_option maxHeartbeats 16000000 in
theorem ys0 (s:List UInt8) (hs0:s.length≤maxLen) (row:List GValue) (hr:row.length≤maxLen) (hv: ∀v∈row,v.ok):Pure Tryz.prog 5 [.str s,.sl .ro (row.map GValue.row)] (.bool true):=by
 have hbg:=xg3
 have hsc:=yl5
 have hlt:=yR9 s hs0
 have hok:=yr9 s
 generalize (zr8 s).1=l at hlt hok
 have hck:=zB7 l hok
 obtain⟨L,hL⟩: ∃L,l.stmts=L:=⟨_,rfl⟩
 obtain⟨hLl,hLs⟩:=hok.stmts
 have hnd:=yY7 l (by omega) hLs
 have hBd:=yO5 l hLs
 have hone:=fun(h:(zG6 l).2=0) (st:GStmt) (hst:st∈l.stmts) (hk: ¬st.kind=2) (tn:Nat) (T:GTable) (hT:tabsS[tn]? =some T) (ht:wA st.table=tn)=>yW3 hst (hLs st hst) hk hT ht hv
 have htab:=fun(h:(zG6 l).2=0) (st:GStmt) (hst:st∈l.stmts)=>xt9 h hst
 generalize zB5 l=U at hnd hBd hone
 generalize zG6 l=ck at hck hone htab
 rw[hL]at hLl hLs hone htab hBd
 have hUb:U.length≤1000∧ ∀y∈U,y.2.length≤1000:=⟨by have:=hBd.1;omega,fun y hy=>by have:=hBd.2 y hy;omega⟩
 have ret: ∀(σ:St),wret (some (.bool true)) 0 (fun r s=>r= .bool true∧s= []) σ:=fun σ=>zQ (zA rfl) ⟨rfl,rfl⟩
 refine VCalls.introV 0 Tryz.func5 Tryz.ntmps5 Tryz.results5 rfl rfl (Nat.le_of_ble_eq_true rfl) fun c hc hb=> ?_
 refine zC ?_
 simp[go_sem]
 refine zD hbg Tryz.callB8 (zG rfl) rfl ?_
 simp[go_sem]
 refine zD hsc Tryz.callB10 (zG rfl) rfl ?_
 simp[go_sem,schS]
 refine zD hlt Tryz.callB11 (zG rfl) rfl ?_
 simp[go_sem]
 refine zD hck Tryz.callB13 ⟨zs3,zA rfl,trivial⟩ rfl ?_
 simp[go_sem,yN]
 refine yT (fun q=> ?_) (fun q=> ?_)
 rotate_left
 ·simp[go_sem,q]
  exact ret _
 simp[go_sem,q]
 refine yK0 (yv3 row hv hr) Tryz.callB14 (zG rfl) (fun r h=>by obtain⟨b,rfl,_⟩:=h;rfl) ?_
 rintro r ⟨b,rfl,hlight⟩
 cases b
 ·simp[go_sem]
  exact ret _
 clear hlight
 by_cases c1:ck.2=0
 rotate_left
 ·have c1':(ck.2 !=0)=true:=by simpa using c1
  simp[go_sem,c1']
  exact ret _
 have c1':(ck.2 !=0)=false:=by simpa using c1
 have hone:=hone c1
 have htab:=htab c1
 simp[go_sem,c1']
 refine zD hnd Tryz.callB15 ⟨zs3,zA rfl,trivial⟩ rfl ?_
 simp[go_sem]
 refine zN (S:=Nat) [1,5,6,9,10] (fun i=> [.sl .ro (row.map GValue.row),.ptr 0 0,.ptr 1 0,.sl .ro (U.map uRow),.int .i64 (i:Int)]) (fun _=> [.box [.sl .full zf3,.sl .full (tabsS.map GTable.row)],.box l.row]) (fun i=>L.length - i) (fun i=>i≤L.length) hc hb 0 (Nat.zero_le _) ?_ ?_
 ·exact at_n 2 (by simp[go_sem]) rfl (by simp[ltOb,ltC,ltK,GLot.row]) (Nat.zero_le _) (zE (by simp[go_sem]) rfl)
 rintro i hi
 by_cases qi:i<L.length
 rotate_left
 ·refine zC ?_
  simp[go_sem,hL,qi]
  exact ret _
 have ei:=zU qi (by omega)
 obtain⟨st,hst⟩: ∃st,L[i]=st:=⟨_,rfl⟩
 have hstm:st∈L:=hst▸List.getElem_mem qi
 have hs:=hLs st hstm
 obtain⟨tn,T,ht,hT⟩:=htab st hstm
 have hone:=fun hk=>hone st hstm hk tn T hT ht
 obtain⟨htn,hTx⟩:=List.getElem?_eq_some_iff.1 hT
 have hfi:=yP8 tabsS st.table (by decide)
 rw[show xO (fun t:GTable=>t.name==st.table) tabsS 0=wA st.table from rfl,ht]at hfi
 have hkey:=yQ1 tn T hT row hr hv
 have hev:=yP7 T ((by decide: ∀T∈tabsS,T.cols.length≤maxLen) T (hTx▸List.getElem_mem htn)) row hv st.where_ hs.where_
 have htr:=yQ2 (evR T row st.where_).1
 generalize evR T row st.where_=ev at hone hev htr
 generalize keyS tn T row=ks at hone hkey
 obtain⟨rng,key,ke⟩:=ks
 simp only at hone
 refine zC ?_
 simp[go_sem,hL,qi,hst]
 refine zD hfi Tryz.callB16 ⟨zs3,zA rfl,trivial⟩ rfl ?_
 simp[go_sem]
 refine zD hkey Tryz.callB17 ⟨zs3,zA rfl,zW,trivial⟩ rfl ?_
 simp[go_sem,keyV]
 have skip: ∀e σ,At 0 [1,5,6,9,10] [.sl .ro (row.map GValue.row),.ptr 0 0,.ptr 1 0,.sl .ro (U.map uRow),.int .i64 ((i+1:Nat):Int)] [.box [.sl .full zf3,.sl .full (tabsS.map GTable.row)],.box l.row] e σ→
   Vx.Next (fun s':Nat=>L.length - s'<L.length - i∧s'≤L.length∧At 0 [1,5,6,9,10] [.sl .ro (row.map GValue.row),.ptr 0 0,.ptr 1 0,.sl .ro (U.map uRow),.int .i64 (s':Int)] [.box [.sl .full zf3,.sl .full (tabsS.map GTable.row)],.box l.row] e σ) fx:=fun e σ h=>
  zP (i+1) ⟨by omega,by omega,h⟩
 by_cases k1:ke=0
 rotate_left
 ·have k1':(ke !=0)=true:=by simpa using k1
  simp[go_sem,k1',ei]
  exact skip _ _ (at_n 2 (by simp[go_sem,hL]) rfl (by simp[ltOb,ltC,ltK,GLot.row]) (Nat.zero_le _) (zE (by simp[go_sem]) rfl))
 have k1':(ke !=0)=false:=by simpa using k1
 simp[go_sem,k1']
 by_cases k2:st.kind=2
 ·have k2':(st.kind==2)=true:=by simpa using k2
  simp[go_sem,k2',ei]
  exact skip _ _ (at_n 2 (by simp[go_sem,hL]) rfl (by simp[ltOb,ltC,ltK,GLot.row]) (Nat.zero_le _) (zE (by simp[go_sem]) rfl))
 have k2':(st.kind==2)=false:=by simpa using k2
 have hone:=hone k2 k1
 simp[go_sem,k2']
 have hfs:(st.filtered=false∧(U.any (inU rng key))=true)∨st.filtered=true∧(ev.2=0→zn9 ev.1=true→(U.any (inU rng key))=true):=by
  have fin:(∃y,y∈U∧y.1=rng∧ ∃x,x∈y.2∧Op.bytesLess key x.lo=false∧Op.bytesLess key x.hi=true)→U.any (inU rng key)=true:=by
   rintro⟨y,hy,h1,x,hx,h2,h3⟩
   rw[List.any_eq_true]
   refine⟨y,hy, ?_⟩
   unfold inU
   rw[Bool.and_eq_true]
   refine⟨by simpa using h1,List.any_eq_true.2 ⟨x,hx, ?_⟩⟩
   unfold inSp
   rw[h2,h3];rfl
  cases hq:st.filtered with
  |false=>exact .inl ⟨rfl,fin (hone (fun h=>by rw[hq]at h;cases h))⟩
  |true=>exact .inr ⟨rfl,fun h1 h2=>fin (hone (fun _=>⟨h1,h2⟩))⟩
 rcases hfs with ⟨hq,hany⟩|⟨hq,hany⟩
 case' inr=>
  simp[go_sem,hq]
  refine xC [(8,0)] 3 (by simp) (by kernel_rfl) (by kernel_rfl) ?_
  simp[go_sem,htn,hTx]
  refine zT hev Tryz.callB18 (fun _=>⟨zA rfl,zW,yl8 st.where_,trivial⟩) rfl ?_
  simp[go_sem,valP]
  by_cases k3:ev.2=0
  rotate_left
  ·have k3':(ev.2 !=0)=true:=by simpa using k3
   simp[go_sem,k3',ei]
   exact skip _ _ (at_n 2 (by simp[go_sem,hL]) rfl (by simp[ltOb,ltC,ltK,GLot.row]) (Nat.zero_le _) (zE (by simp[go_sem]) rfl))
  have k3':(ev.2 !=0)=false:=by simpa using k3
  have hany:=hany k3
  simp[go_sem,k3']
  refine zD htr Tryz.callB19 (zG rfl) rfl ?_
  by_cases k4:zn9 ev.1=true
  rotate_left
  ·have k4':zn9 ev.1=false:=by simpa using k4
   simp[go_sem,k4',ei]
   exact skip _ _ (at_n 2 (by simp[go_sem,hL]) rfl (by simp[ltOb,ltC,ltK,GLot.row]) (Nat.zero_le _) (zE (by simp[go_sem]) rfl))
  have hany:=hany k4
  simp[go_sem,k4]
 case' inl=>simp[go_sem,hq]
 all_goals
  refine zN (S:=Nat×Bool) [1,5,6,9,10,13,14,18,19] (fun u=> [.sl .ro (row.map GValue.row),.ptr 0 0,.ptr 1 0,.sl .ro (U.map uRow),.int .i64 (i:Int),.int .i64 rng,.str key,.bool u.2,.int .i64 (u.1:Int)]) (fun _=> [.box [.sl .full zf3,.sl .full (tabsS.map GTable.row)],.box l.row]) (fun u=>U.length - u.1)
   (fun u=>u.1≤U.length∧(u.2||(U.drop u.1).any (inU rng key))=true) hc hb (0,false) ⟨Nat.zero_le _,by simpa using hany⟩ ?_ ?_
  ·exact at_n 2 (by simp[go_sem,hL]) rfl (by simp[ltOb,ltC,ltK,GLot.row]) (Nat.zero_le _) (zE (by simp[go_sem]) rfl)
  rintro⟨k,b⟩ ⟨hk,hin⟩
  simp only at hk hin
  by_cases qk:k<U.length
  rotate_left
  ·rw[List.drop_eq_nil_of_le (by omega),List.any_nil,Bool.or_false]at hin
   refine zC ?_
   simp[go_sem,qk,hin,ei]
   exact skip _ _ (at_n 2 (by simp[go_sem,hL]) rfl (by simp[ltOb,ltC,ltK,GLot.row]) (Nat.zero_le _) (zE (by simp[go_sem]) rfl))
  have ek:=zU qk (by omega)
  obtain⟨⟨r,sp⟩,hy⟩: ∃y,U[k]=y:=⟨_,rfl⟩
  have hspl:sp.length≤1000:=by have:=hUb.2 (r,sp) (hy▸List.getElem_mem qk);simpa using this
  rw[List.drop_eq_getElem_cons qk,hy,List.any_cons]at hin
  obtain⟨rest,hrest⟩: ∃rest,(U.drop (k+1)).any (inU rng key)=rest:=⟨_,rfl⟩
  have hin:(b||(r==rng&&sp.any (inSp key)||rest))=true:=by rw[←hrest];exact hin
  refine zC ?_
  simp[go_sem,qk]
  refine zN (S:=Nat×Bool) [1,5,6,9,10,13,14,18,19,20] (fun u=> [.sl .ro (row.map GValue.row),.ptr 0 0,.ptr 1 0,.sl .ro (U.map uRow),.int .i64 (i:Int),.int .i64 rng,.str key,.bool u.2,.int .i64 (k:Int),.int .i64 (u.1:Int)]) (fun _=> [.box [.sl .full zf3,.sl .full (tabsS.map GTable.row)],.box l.row]) (fun u=>sp.length - u.1)
   (fun u=>u.1≤sp.length∧(u.2||(r==rng&&(sp.drop u.1).any (inSp key)||rest))=true) hc hb (0,b) ⟨Nat.zero_le _,by simpa using hin⟩ ?_ ?_
  ·exact at_n 2 (by simp[go_sem,hL]) rfl (by simp[ltOb,ltC,ltK,GLot.row]) (Nat.zero_le _) (zE (by simp[go_sem]) rfl)
  rintro⟨x,b⟩ ⟨hx,hin⟩
  simp only at hx hin
  refine zC ?_
  by_cases hrr:r=rng
  rotate_left
  ·have hrr':(r==rng)=false:=by simpa using hrr
   rw[hrr',Bool.false_and,Bool.false_or]at hin
   simp[go_sem,qk,hy,hrr',ek]
   exact zP (k+1,b) ⟨by simp only;omega,⟨qk,by simp only;rw[hrest];exact hin⟩,at_n 2 (by simp[go_sem,hL]) rfl (by simp[ltOb,ltC,ltK]) (Nat.zero_le _) (zE (by simp[go_sem]) rfl)⟩
  have hrr':(r==rng)=true:=by simpa using hrr
  rw[hrr',Bool.true_and]at hin
  by_cases qx:x<sp.length
  rotate_left
  ·rw[List.drop_eq_nil_of_le (by omega),List.any_nil,Bool.false_or]at hin
   simp[go_sem,qk,hy,hrr',qx,ek]
   exact zP (k+1,b) ⟨by simp only;omega,⟨qk,by simp only;rw[hrest];exact hin⟩,at_n 2 (by simp[go_sem,hL]) rfl (by simp[ltOb,ltC,ltK]) (Nat.zero_le _) (zE (by simp[go_sem]) rfl)⟩
  have ex:=zU qx (by omega)
  obtain⟨⟨lo,hi⟩,hz⟩: ∃z,sp[x]=z:=⟨_,rfl⟩
  rw[List.drop_eq_getElem_cons qx,hz,List.any_cons]at hin
  have go: ∀(b2:Bool) e σ,b2=(b||inSp key ⟨lo,hi⟩)→At 0 [1,5,6,9,10,13,14,18,19,20] [.sl .ro (row.map GValue.row),.ptr 0 0,.ptr 1 0,.sl .ro (U.map uRow),.int .i64 (i:Int),.int .i64 rng,.str key,.bool b2,.int .i64 (k:Int),.int .i64 ((x+1:Nat):Int)] [.box [.sl .full zf3,.sl .full (tabsS.map GTable.row)],.box l.row] e σ→
    Vx.Next (fun s':Nat×Bool=>sp.length - s'.1<sp.length - x∧(s'.1≤sp.length∧(s'.2||(r==rng&&(sp.drop s'.1).any (inSp key)||rest))=true)∧At 0 [1,5,6,9,10,13,14,18,19,20] [.sl .ro (row.map GValue.row),.ptr 0 0,.ptr 1 0,.sl .ro (U.map uRow),.int .i64 (i:Int),.int .i64 rng,.str key,.bool s'.2,.int .i64 (k:Int),.int .i64 (s'.1:Int)] [.box [.sl .full zf3,.sl .full (tabsS.map GTable.row)],.box l.row] e σ) fx:=fun b2 e σ h1 h2=>
   zP (x+1,b2) ⟨by simp only;omega,⟨qx,by simp only;rw[hrr',Bool.true_and,h1,←hin];simp only[Bool.or_assoc]⟩,h2⟩
  unfold inSp at go
  simp only at go
  obtain⟨bl,hlo⟩: ∃bl,Op.bytesLess key lo=bl:=⟨_,rfl⟩
  obtain⟨bh,hhi⟩: ∃bh,Op.bytesLess key hi=bh:=⟨_,rfl⟩
  rw[hlo,hhi]at go
  clear hin hany hev htr hkey hfi hone hbg hsc hlt hck hnd hT hTx
  cases b with
  |true=>
   simp[go_sem,qk,hy,hrr',qx,ex]
   exact go true _ _ (by simp) (at_n 2 (by simp[go_sem,hL]) rfl (by simp[ltOb,ltC,ltK,GLot.row]) (Nat.zero_le _) (zE (by simp[go_sem]) rfl))
  |false=>
   cases bl with
   |true=>
    simp[go_sem,qk,hy,hrr',qx,hz,ex,hlo]
    exact go false _ _ rfl (at_n 2 (by simp[go_sem,hL]) rfl (by simp[ltOb,ltC,ltK,GLot.row]) (Nat.zero_le _) (zE (by simp[go_sem]) rfl))
   |false=>
    simp[go_sem,qk,hy,hrr',qx,hz,ex,hlo,hhi]
    exact go bh _ _ rfl (at_n 2 (by simp[go_sem,hL]) rfl (by simp[ltOb,ltC,ltK,GLot.row]) (Nat.zero_le _) (zE (by simp[go_sem]) rfl))
end Go.Proofs.YtajjjghohakniaaGreat
namespace Go.Proofs.YtajjjghohakniaaGreat
open Go Go.Vx
set_option maxRecDepth 100000
theorem ya2:ownKnob Tryz.prog.godebug=none:=by kernel_rfl
theorem zX3:laidOutB Tryz.prog=true:=by kernel_rfl
theorem ya1 (xs:List V) (h:ShpA Tryz.prog [9,35] xs):VCalls Tryz.prog 5 xs [] fun r _=>r= .bool true:=by
 obtain⟨_,_,rfl,h0,h⟩:=h.cons_inv
 obtain⟨_,_,rfl,h1,h⟩:=h.cons_inv
 obtain rfl:=h.nil_inv
 obtain⟨x0,rfl,w0⟩:=h0.str_inv Tryz.underlying9
 obtain⟨x1_r,rfl,x1_l,x1_h⟩:=h1.sl_inv Tryz.underlying35
 obtain⟨x1,rfl,x1_w⟩:=ShpR.map_inv (f:=GValue.row) (ok:=fun(y:GValue)=>y.ok) (fun r hr=>by
  exact GValue.of_shp hr) x1_h
 have w1:=And.intro (by simpa using x1_l:x1.length≤maxLen) x1_w
 rw[yd8 (by rw[Tryz.underlying9]),yd8 (by rw[Tryz.underlying35])]
 exact(ys0 x0 w0 x1 w1.1 w1.2).mono fun r s h=>h.1
theorem zX2 {W:World} (hsh:W.ShapedOpen Tryz.prog):GlobOk W (lims W):=by
 refine⟨fun p hp=> ?_,fun p hp=> ?_⟩
 ·cases hp
 ·obtain rfl:p=(0,.i64):=by simpa[vints]using hp
  obtain⟨m,hm⟩:=Tryz.laysM144.s1_3 W hsh
  exact⟨yG0 hm,m,hm⟩
theorem zN9 (os:Os) (started:os.Started) (H:Type) (enc:TypeId×Value→H):
  ReturnsInHanded {} Tryz.checked os 5 .any (Rows.planHoldsSpec.pre6 enc Tryz.prog Tryz.f5 Rows.planHoldsRow.domain false) (Rows.planHoldsSpec.post enc Tryz.prog Tryz.f5 false true false false):=by
 refine returnsInHanded_of_change_shaped (C:=Tryz.checked) ya2 started (by kernel_rfl) Tryz.func5
  (ChangeSpec.witness6 (enc:=enc) (C:=Tryz.checked) false ⟨#[], #[.string ⟨#[]⟩,.slice none 0 0],[]⟩ 8 (by kernel_rfl) (by kernel_rfl) (by kernel_rfl) (by kernel_rfl)) ?_
 intro W base args ds gs before hval hW _ _ hsh _
 exact yX4 (P:=Tryz.prog) [2,3,9,35,46] [9,35] 4 Tryz.params5 (by kernel_rfl) Tryz.underlying4 (by kernel_rfl) (by kernel_rfl) (by kernel_rfl) zX3 rfl
  (fun H ds h=>by
   match ds,h with
   | [_,_],_=>rfl) ya1 H enc W base args ds gs before hval hW (zX2 hsh)
theorem planHolds_proved:Rows.PlanHoldsSaid:=
 OpenClaim.holds_of_wide 5 Tryz.f5 rfl rfl rfl rfl rfl rfl rfl ⟨rfl,rfl,rfl,rfl,rfl⟩ rfl rfl rfl rfl rfl (by kernel_rfl) Tryz.func5 (by kernel_rfl)
  (of_decide_eq_true (by kernel_rfl)) (by unfold Func.isWrapper;first|(rw[if_pos (by decide+kernel)];kernel_rfl)|(rw[if_neg (by decide+kernel)];exact⟨rfl,rfl⟩))
  (fun os started H enc _=>zN9 os started H enc)
#print axioms planHolds_proved
end Go.Proofs.YtajjjghohakniaaGreat
