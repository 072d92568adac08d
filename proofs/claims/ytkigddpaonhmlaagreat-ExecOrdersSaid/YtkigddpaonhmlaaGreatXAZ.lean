/-
  The kinds of expressions by the document, over trees (the library Vx); used by the theorem at the end of the claim.
  Conditions: as each theorem states them.
-/
import Derived.Test.YtkigddpaonhmlaaGreatXAW
import Derived.Test.YtkigddpaonhmlaaGreatXAY
set_option maxHeartbeats 8000000
namespace Go.Proofs.YtkigddpaonhmlaaGreat
open Go Go.Vx R Go.Proofs.Tryz
set_option maxRecDepth 100000
def colF (T:GTable) (name:List UInt8):Int:=wN (fun c:GCol=>c.name==name) T.cols 0
def colK (T:GTable) (c:Int):Int:=((T.cols[c.toNat]?).map (·.kind)).getD 0
def zq7 (v:GValue):Bool:=v.kind==0&&(v.n==0&&v.s.isEmpty)
theorem ys8 (v:GValue):(!(v.kind==0)||(!(v.n==0)|| !v.s.isEmpty))= !zq7 v:=by unfold zq7;cases v.kind==0<;>cases v.n==0<;>cases v.s.isEmpty<;>rfl
mutual
def zj3 (T:GTable):GExpr->Int×Int
 | .mk k s v args=>
  if k=1 then(if s.isEmpty=false∨args.isEmpty=false∨mayF v=false then(0,9)else(v.kind,0))
  else if k=2 then(if colF T s<0 then(0,14)else if args.isEmpty=false∨zq7 v=false then(0,9)else(colK T (colF T s),0))
  else if k=3 then(if(wI T args).2≠0 then(0,(wI T args).2)else if zq7 v=false then(0,9)else zu8 s (wI T args).1)
  else(0,9)
def wI (T:GTable):List GExpr->List Int×Int
 | []=>([],0)
 |e::l=>if(zj3 T e).2≠0 then([],(zj3 T e).2)else((zj3 T e).1::(wI T l).1,(wI T l).2)
end
theorem yf3 (T:GTable) (e:GExpr):zj3 T e=
  if e.kind=1 then(if e.s.isEmpty=false∨e.args.isEmpty=false∨mayF e.v=false then(0,9)else(e.v.kind,0))
  else if e.kind=2 then(if colF T e.s<0 then(0,14)else if e.args.isEmpty=false∨zq7 e.v=false then(0,9)else(colK T (colF T e.s),0))
  else if e.kind=3 then(if(wI T e.args).2≠0 then(0,(wI T e.args).2)else if zq7 e.v=false then(0,9)else zu8 e.s (wI T e.args).1)
  else(0,9):=by cases e;rw[zj3];rfl
theorem zu2 {M:Int×Int} {a e:Int} {σ:St} (h:(a,e)=M):wret (some (.tup [.int .i64 a,.int .i64 e])) 0 (fun r s=>r=wA M/\s= []) σ:=by
 subst h
 exact zQ (zC rfl) ⟨rfl,rfl⟩
theorem zN5 (T:GTable) (s:List UInt8) (h: ¬colF T s<0): ∃j:Nat,colF T s=j/\j<T.cols.length:=by
 have:=zt6 (fun c:GCol=>c.name==s) T.cols 0
 unfold colF at h⊢
 refine⟨(wN (fun c:GCol=>c.name==s) T.cols 0).toNat,by omega,by omega⟩
theorem xl6 (l:List GExpr):decide ((0:Int)<l.length)= !l.isEmpty:=by
 cases l with
 |nil=>rfl
 |cons _ _=>exact decide_eq_true (by simp only[Ah];omega)
theorem xc6 (l:List GExpr):decide (0<l.length)= !l.isEmpty:=by
 cases l with
 |nil=>rfl
 |cons _ _=>exact decide_eq_true (by simp only[Ah];omega)
theorem xb1 (T:GTable) (hT:T.cols.length<=maxLen): ∀(n:Nat) (e:GExpr),wB e<=n->Wide e->Good e->Pure prog 165 [.agg T.row,.agg e.row] (wA (zj3 T e))
 |0,e,h,_,_=>by have:=zI6 e;omega
 |n+1,e,h,hw,hg=>by
  have ih:=xb1 T hT n
  have hde:=zj0 e
  have hlen:=hw.len
  have hsub:=hw.sub
  have hgs:=hg.sub
  have hmay:=ym5 e.v
  have hcol:=ym4 T e.s hT
  obtain⟨M,hM⟩:=eX (zj3 T e)
  rw[hM]
  rw[yf3]at hM
  rw[show wN (fun c:GCol=>c.name==e.s) T.cols 0=colF T e.s from rfl]at hcol
  have hz:=ys8 e.v
  have ha1:=xl6 e.args
  have ha2:=xc6 e.args
  have ret: ∀(a b:Int) (σ:St),(a,b)=M->wret (some (.tup [.int .i64 a,.int .i64 b])) 0 (fun r s=>r=wA M/\s= []) σ:=fun a b σ h=>zu2 h
  refine iV 0 func165 ntmps165 results165 fun c hc hb=> ?_
  refine zA ?_
  simp[go_sem]
  by_cases q1:e.kind=1
  .have q1':(e.kind==1)=true:=by simpa using q1
   rw[if_pos q1]at hM
   generalize mayF e.v=b at hmay hM
   generalize e.args.isEmpty=ae at ha1 ha2 hM
   simp[go_sem,q1']
   repeat' (first
    |(refine yZ (fun q=> ?_) (fun q=> ?_)<;>simp[go_sem,q,ha2])
    |(refine zT (fun q=> ?_) (fun q=> ?_)<;>simp[go_sem,q])
    |(refine zD hmay cB (zR (by simp[go_sem]) rfl) rfl ?_;simp[go_sem]))
   all_goals exact ret _ _ _ (by rw[<-hM];simp_all)
  rw[if_neg q1]at hM
  have q1':(e.kind==1)=false:=by simpa using q1
  by_cases q2:e.kind=2
  .have q2':(e.kind==2)=true:=by simpa using q2
   rw[if_pos q2]at hM
   simp[go_sem,q1',q2']
   refine zD hcol cB (zR (by simp[go_sem]) rfl) rfl ?_
   by_cases qc:colF T e.s<0
   .have qc':decide (colF T e.s<0)=true:=decide_eq_true qc
    rw[if_pos qc]at hM
    simp[go_sem,qc']
    exact ret _ _ _ hM
   have qc':decide (colF T e.s<0)=false:=decide_eq_false qc
   rw[if_neg qc]at hM
   obtain⟨j,hj,hjl⟩:=zN5 T e.s qc
   obtain⟨C,hC⟩:=eX (T.cols[j])
   have hck:colK T (colF T e.s)=C.kind:=by
    unfold colK
    rw[hj,Ax,A0 hjl,hC];rfl
   rw[hck]at hM
   rw[hj]at qc'⊢
   generalize zq7 e.v=z at hz hM
   generalize e.args.isEmpty=ae at ha1 ha2 hM
   simp[go_sem,qc',ha2]
   repeat' (first
    |(refine yZ (fun q=> ?_) (fun q=> ?_)<;>simp[go_sem,q,hz])
    |(refine zT (fun q=> ?_) (fun q=> ?_)<;>simp[go_sem,q,hjl,hC]))
   all_goals exact ret _ _ _ (by rw[<-hM];simp_all)
  rw[if_neg q2]at hM
  have q2':(e.kind==2)=false:=by simpa using q2
  by_cases q3:e.kind=3
  rotate_left
  .rw[if_neg q3]at hM
   have q3':(e.kind==3)=false:=by simpa using q3
   simp[go_sem,q1',q2',q3']
   exact ret _ _ _ hM
  have q3':(e.kind==3)=true:=by simpa using q3
  rw[if_pos q3]at hM
  obtain⟨args,hargs⟩:=eX e.args
  rw[hargs]at hde hlen hsub hgs hM
  obtain⟨K,hK⟩:=eX (wI T args)
  rw[hK]at hM
  simp[go_sem,q1',q2',q3',hargs]
  refine zn1 7 1 (by decide) (by simp[go_sem]) ?_
  refine zL (S:=Nat×List Int) [2,3,7,61,62,63] (fun u=> [.ptr 0 0,.ptr 1 0,.sl (.app 2) (u.2.map fun n=> [V.int .i64 n]),.sl .ro (args.map GExpr.row),.int .i64 args.length,.int .i64 (u.1:Int)]) (fun u=> [.box T.row,.box e.row,.app u.2.length 1]) (fun u=>args.length - u.1)
   (fun u=>u.1<=args.length/\u.2.length=u.1/\(wI T (args.drop u.1)).2=K.2/\(K.2=0->u.2++(wI T (args.drop u.1)).1=K.1)) hc hb (0,[])
   ⟨A3 _,rfl,by simp only[Bd];rw[hK],fun _=>by simp only[Bd];rw[hK];rfl⟩ ?_ ?_
  .exact at_n 3 (by simp[go_sem,hargs]) rfl (by simp[ltOb,ltC,ltK,GExpr.row_eq,GTable.row]) (A3 _) (zG (by simp[go_sem]) rfl)
  rintro⟨i,l⟩ ⟨hi,hl,hinv,hinv2⟩
  simp only at hi hl hinv hinv2
  by_cases q:i<args.length
  rotate_left
  .rw[A9 (by omega),wI]at hinv hinv2
   have hK2:K.2=0:=hinv.symm
   have hK1:l=K.1:=by have:=hinv2 hK2;simpa using this
   rw[if_neg (fun h=>h hK2),<-hK1]at hM
   have hop:=yQ0 e.s l (by unfold maxLen;omega)
   generalize zu8 e.s l=o at hop hM
   generalize zq7 e.v=z at hz hM
   refine zA ?_
   simp[go_sem,q,hz]
   refine(A7 z).elim (fun w=> ?_) (fun w=> ?_)
   .rw[if_neg (by rw[w];decide)]at hM
    subst w
    simp[go_sem]
    refine zD hop cB ⟨zC rfl,zX,trivial⟩ rfl ?_
    simp[go_sem,wA]
    exact ret _ _ _ hM
   .rw[if_pos w]at hM
    subst w
    simp[go_sem]
    exact ret _ _ _ hM
  have ei:=zV q (by omega)
  obtain⟨x,hx⟩:=eX (args[i])
  have hxm:x∈args:=hx▸A8 q
  have hdx:=zk9 args x hxm
  rw[A6 q,hx,wI]at hinv hinv2
  have hcall:=ih x (by omega) (hsub x hxm) (hgs x hxm)
  generalize zj3 T x=kx at hcall hinv hinv2
  by_cases q4:kx.2=0
  .rw[if_neg (fun h=>h q4)]at hinv hinv2
   have q4':(kx.2 !=0)=false:=by simpa using q4
   refine zA ?_
   simp[go_sem,q,hx]
   refine zD hcall cB (zR (by simp[go_sem]) (by rw[GExpr.row_eq];rfl)) rfl ?_
   simp[go_sem,wA,q4']
   refine zJ ⟨by omega,yC rfl⟩ ?_
   simp[go_sem,ei]
   refine zI (i+1,l++ [kx.1]) ⟨by simp only;omega,⟨by simp only;omega,by simp;omega,hinv,fun h=>by have:=hinv2 h;simpa using this⟩, ?_⟩
   exact aN 3 (by simp[ltOb,ltC,ltK,GExpr.row_eq])
  .rw[if_pos q4]at hinv
   have q4':(kx.2 !=0)=true:=by simpa using q4
   have hK2:kx.2=K.2:=hinv
   rw[if_pos (by rw[<-hK2];exact q4),<-hK2]at hM
   refine zA ?_
   simp[go_sem,q,hx]
   refine zD hcall cB (zR (by simp[go_sem]) (by rw[GExpr.row_eq];rfl)) rfl ?_
   simp[go_sem,wA,q4']
   exact ret _ _ _ hM
def zb0 (T:GTable) (e:GExpr):Int×Int:=if wB e<=64 then zj3 T e else(0,3)
theorem yn3: ∀(n:Nat) (e:GExpr),zm7 e<=n->wB e<=n
 |0,e,h=>by have:=xi7 e;omega
 |n+1,e,h=>by
  rw[zH1]at h
  rw[zj0]
  have: ∀l:List GExpr,zi7 l<=n->xZ l<=n:=by
   intro l
   induction l with
   |nil=>intro _;exact A3 _
   |cons x l ih=>
    intro hl
    rw[zi7]at hl
    rw[xZ]
    have h1:=yn3 n x (by omega)
    have h2:=ih (by omega)
    omega
  have:=this e.args (by omega)
  omega
theorem yt0 (T:GTable) (hT:T.cols.length<=maxLen) (e:GExpr) (he:EOk e):Pure prog 98 [.agg T.row,.agg e.row] (wA (zb0 T e)):=by
 have hs:=he.size
 have hd:=yn3 4000 e hs
 have hsm:=xa8 4000 e 1 0 hd he.wide (Int.le_refl _) (by omega) (by omega) (by omega)
 have hty:=xb1 T hT 4000 e hd he.wide he.good
 generalize hM:zb0 T e=M
 unfold zb0 at hM
 generalize zj3 T e=k at hty hM
 have ret: ∀(x:Int×Int) (σ:St),x=M->wret (some (.tup [.int .i64 x.1,.int .i64 x.2])) 0 (fun r s=>r=wA M/\s= []) σ:=fun x σ h=>zu2 h
 refine iW 0 func98 ntmps98 results98 fun c hc hb=>zN ?_
 simp[go_sem]
 refine zl2 2 hsm cB rfl (by rfl) ⟨.inl (by simp[go_sem,renS,renA,renC,renK]),zC rfl,.inl rfl,trivial⟩ (fun r σ h=>by
  obtain⟨_,m2,rfl,_⟩:=h
  exact⟨_,rfl,rfl⟩) ?_
 rintro r o2 ⟨rfl,m2,h1,h2,h3⟩
 obtain rfl:o2= .box [.int .i64 m2]:=by simpa using h1
 by_cases q:wB e<=64
 .rw[if_pos q]at hM
  rw[decide_eq_true (show(wB e:Int)+1<=65 by omega)]
  simp[go_sem]
  refine zD hty cB (zR (by simp[go_sem]) (by rw[GExpr.row_eq];rfl)) rfl ?_
  simp[go_sem,wA]
  exact ret _ _ hM
 .rw[if_neg q]at hM
  rw[decide_eq_false (show ¬(wB e:Int)+1<=65 by omega)]
  simp[go_sem]
  exact ret (0,3) _ hM
end Go.Proofs.YtkigddpaonhmlaaGreat
