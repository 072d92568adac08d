/-
  The law's ExecStories and story; used by the theorems at the end of the Exec claims.
  Conditions: as each theorem states them.
-/
import Derived.Test.YtefbicjgbaaieaaGreatLAT
import Derived.Test.YtefbicjgbaaieaaGreatLAP
import Derived.Test.YtefbicjgbaaieaaGreatLAQ
set_option maxHeartbeats 8000000
namespace Go.Proofs.YtefbicjgbaaieaaGreat
open Go Go.Vx R Go.Proofs.Tryz
set_option maxRecDepth 100000
variable{l:List Ln}{q:Pl×aij}{w:Wr}{b:Mp aij}{df:dR}{g:Int}{T:bH}{now:List Ln}{x:Ln}{tn:Nat}{st:bQ}{d:aij}{p:Pl}
theorem xe5{s:List (Pl×aij)×List Ln}(h:(s.1.any λe=>e.1==q.1)):wJ s q=s:=by simp_all[wJ]
theorem xx4{s:List (Pl×aij)×List Ln}(h:(s.1.any λe=>e.1==q.1)=false):wJ s q=(s.1++[q],if lC q.1.1 q.1.2 q.2=true then oc s.2 ⟨q.1.1,q.1.2,(eO bI (dY q.1.1).1 q.2).1⟩else s.2):=by unfold wJ;grind
theorem xx3{s:List (Pl×aij)×List Ln}:(wJ s q).2.length<=s.2.length+1:=by
 unfold wJ;split;.omega
 .show(if lC q.1.1 q.1.2 q.2=true then _ else _:List Ln).length<=_;split;all_goals simp[VE]
theorem VM{g:Nat}(hg:¬(dY (g:Int)).2.2=0):∀(ps:List (aij×aij))(s:List (Pl×aij)×List Ln),((iN g ps).foldl wJ s).2=s.2/\∀e∈((iN g ps).foldl wJ s).1,e∈s.1\/e.1.1=(g:Int)
 |[],s=>⟨rfl,λe he=>.inl he⟩|p::ps,s=>by
  have e:iN g (p::ps)=(((g:Int),p.1),p.2)::iN g ps:=rfl;have hr:lC g p.1 p.2=false:=by simp_all[lC]
  have h1:(wJ s (((g:Int),p.1),p.2)).2=s.2/\∀e∈(wJ s (((g:Int),p.1),p.2)).1,e∈s.1\/e.1.1=(g:Int):=by unfold wJ;grind
  obtain⟨h2,h3⟩:=VM hg ps (wJ s (((g:Int),p.1),p.2));rw[e,Ap];refine⟨h2.trans h1.1,λe he=>?_⟩;rcases h3 e he with h|h;.exact h1.2 e h
  .exact .inr h
theorem rO (K:List aij)(k:aij):V.sl (.app 1) (K.map (λx=>[V.str x])++[[V.str k]])=V.sl (.app 1) ((K++[k]).map λx=>[V.str x]):=sm
theorem xx5 (vs:List Vw)(bg:vs.length<=100000)(a7:(vs.map (·.1)).Nodup)(hv:∀x∈vs,x.2.length<=100000/\∀q∈x.2,q.2.length<=cu)(hN:(zZ vs).length<=7500):Pure prog 65 [cA bI,.sl .ro (vs.map fZ)] (.sl .ro ((yI vs).map Ln.row)):=by
 obtain⟨Q,hQ⟩:=eX ((zZ vs).foldl wJ ([],[]));have aH:yI vs=Q.2:=by unfold yI;rw[hQ]
 rw[aH];refine iV 0 func65 ntmps65 results65 λc hc hb=>?_;refine zN (zA ?_);simp[go_sem,cA];refine zN (zA ?_);simp[go_sem];refine zN (zA ?_);simp[go_sem];refine zG (S:=Nat×Nat×(List (Pl×aij)×List Ln)) [1,2,5,6] (λu=>[.sl .ro (vs.map fZ),.ptr 0 0,.sl .ro (u.2.2.2.map Ln.row),.int .i64 u.1]) (λ_=>[fc]) (λu=>vs.length-u.1) (λu=>u.1<=vs.length/\u.2.2.2.length<=u.2.1/\u.2.1+(zZ (vs.drop u.1)).length=(zZ vs).length/\(∀e∈u.2.2.1,∃x∈vs.take u.1,e.1.1=(x.1:Int))/\(zZ (vs.drop u.1)).foldl wJ u.2.2=Q) hc hb (0,0,([],[])) (by grind) ?_ ?_;.exact bT 1 (by simp[go_sem,fc]) rfl rfl dc ⟨zP,.inl rfl,zP,zD rfl,tV⟩
 rintro⟨i,c0,s⟩⟨hi,a8,an,ar,aa⟩;simp only at hi a8 an ar aa;by_cases q:i<vs.length;rotate_left;.rw[A4 om]at aa;have aa:s=Q:=aa;subst aa;refine zA ?_;simp[go_sem,q];refine zA ?_;simp[go_sem];exact zV zP ⟨rfl,rfl⟩
 have ei:=zR q om;obtain⟨⟨g,ps⟩,hx⟩:∃x,vs[i]=x:=⟨_,rfl⟩;obtain⟨aI,aA⟩:=hv (g,ps) (hx▸A7 q);simp only at aI aA;have au:=xQ3 g;rw[A2 q,hx,EH]at an aa;rw[Bv]at aa;rw[Al]at an;have av:∀k,(s.1.any λe=>e.1==((g:Int),k))=false:=λk=>by
  rw[List.any_eq_false];intro e he aJ;obtain⟨y,hy,aB⟩:=ar e he;have aK:e.1=((g:Int),k):=sU aJ;have aL:y.1=g:=by rw[aK]at aB;simp at aB;omega
  rw[<-Bt i vs,Da,Dc]at a7;exact a7.2.2 y.1 (Aa.2 ⟨y,hy,rfl⟩) g (Aa.2 ⟨(g,ps),by grind[A2],rfl⟩) aL
 by_cases hg:(dY (g:Int)).2.2=0;rotate_left;.obtain⟨⟨ot,og,oe⟩,ho⟩:∃o,dY (g:Int)=o:=⟨_,rfl⟩;have aw:=VM hg ps s;have bf:c0+((iN g ps).length+(zZ (vs.drop (i+1))).length)=(zZ vs).length:=an;rw[ho]at au hg;have aP:(oe !=0)=true:=sU hg;refine zA ?_;simp[go_sem,q,fc];refine yB [(6,0)] 1 rfl kR kR ?_;simp[go_sem,q,hx,fZ];refine yF au cB (λ_=>zK (by simp[go_sem,cA]) rfl) rfl ?_;simp[go_sem,mg,aP,ei];exact zH (i+1,c0+(iN g ps).length,(iN g ps).foldl wJ s) ⟨by show vs.length-(i+1)<vs.length-i;omega,⟨q,by grind,by grind,(λe he=>by
    rcases aw.2 e he with h|h;.obtain⟨x,hx,aQ⟩:=ar e h;grind
    grind[B3]),aa⟩,aM 1 rfl (zC (by simp[go_sem,aw.1]) rfl)⟩
 obtain⟨tn,T,ax,hT⟩:=U4 hg;obtain⟨⟨ot,og,oe⟩,ho⟩:∃o,dY (g:Int)=o:=⟨_,rfl⟩;rw[ho]at au hg ax;simp only at hg ax;subst hg;subst ax;refine zA ?_;simp[go_sem,q,fc];refine yB [(6,0)] 1 rfl kR kR ?_;simp[go_sem,q,hx,fZ];refine yF au cB (λ_=>zK (by simp[go_sem,cA]) rfl) rfl ?_;simp[go_sem,mg];refine wL 10 1 dc sg ?_;refine zG (S:=Nat×Nat×(List (Pl×aij)×List Ln)×List aij) [1,2,5,6,7,10,11] (λu=>[.sl .ro (vs.map fZ),.ptr 0 0,.sl .ro (u.2.2.1.2.map Ln.row),.int .i64 i,.int .i64 tn,.sl (.app 1) (u.2.2.2.map λx=>[V.str x]),.int .i64 u.1]) (λu=>[fc,.app u.2.2.2.length 1]) (λu=>ps.length-u.1) (λu=>u.1<=ps.length/\u.2.2.1.2.length<=u.2.1/\u.2.1+((iN g (ps.drop u.1)).length+(zZ (vs.drop (i+1))).length)=(zZ vs).length/\(∀e∈u.2.2.1.1,∃x∈vs.take (i+1),e.1.1=(x.1:Int))/\u.2.2.2.length<=u.1/\(∀k,(u.2.2.1.1.any λe=>e.1==((g:Int),k))=u.2.2.2.any λx=>x==k)/\(zZ (vs.drop (i+1))).foldl wJ ((iN g (ps.drop u.1)).foldl wJ u.2.2.1)=Q) hc hb (0,c0,s,[]) ⟨A3 _,a8,an,(λe he=>by obtain⟨x,hx,aQ⟩:=ar e he;grind),A6 _,(λk=>by rw[av k];rfl),aa⟩ ?_ ?_;.exact bT 2 (by simp[go_sem,fc]) rfl rfl dc (zC sg rfl)
 rintro⟨j,c1,⟨se,ls⟩,K⟩⟨hj,aC,ao,aq,aR,hK,ad⟩;simp only at hj aC ao aq aR hK ad;by_cases qj:j<ps.length;rotate_left;.have:j=ps.length:=om;subst this;rw[B7]at ao ad;refine zA ?_;simp[go_sem,q,hx,fZ,ei];exact zH (i+1,c1,se,ls) ⟨by show vs.length-(i+1)<vs.length-i;omega,(by grind[iN]),bT 1 (by simp[go_sem,fc]) rfl rfl dc (zC sg rfl)⟩
 have ej:=zR qj om;obtain⟨⟨k,d⟩,hp⟩:∃x,ps[j]=x:=⟨_,rfl⟩;have hd:=aA (k,d) (hp▸A7 qj);simp only at hd;have aD:iN g (ps.drop j)=(((g:Int),k),d)::iN g (ps.drop (j+1)):=by rw[A2 qj,hp];rfl
 rw[aD,Af]at ao;rw[aD,Ap]at ad;have ae:=UA K k (by unfold maxLen;omega);have aE:=hK k;obtain⟨sb,aS⟩:=eX ((K.any λx=>x==k));rw[aS]at ae aE;have aT:=xx3 (s:=(se,ls)) (q:=(((g:Int),k),d));have ag:=xQ8 yL bI tn d hd dc;obtain⟨ay,az⟩:=OM tn d;have af:=Ui tn T hT (eO bI tn d).1 ay az;have aF:lC g k d=(decide ((eO bI tn d).2=0)&&decide (eK tn T (eO bI tn d).1=((g:Int),k,0))):=by unfold lC;grind
 have aU:(dY ((g:Int))).1=tn:=by rw[ho]
 have ab:=xx4 (s:=(se,ls)) (q:=(((g:Int),k),d));have ai:=xe5 (s:=(se,ls)) (q:=(((g:Int),k),d));simp only[aU]at ab ai;rw[aE]at ab ai;rw[aF]at ab;obtain⟨⟨row,re⟩,hR⟩:∃r,eO bI tn d=r:=⟨_,rfl⟩;rw[hR]at ag af ab ay az;simp only at af ab ay az;obtain⟨⟨kr,kk,ke⟩,aV⟩:∃ks,eK tn T row=ks:=⟨_,rfl⟩;rw[aV]at af ab;have aW:=Vu ls ⟨g,k,row⟩ om;have aG:∀k',((se++[(((g:Int),k),d)]).any λe=>e.1==((g:Int),k'))=(K++[k]).any λx=>x==k':=λk'=>by rw[List.any_append,List.any_append,hK k'];grind
 obtain⟨LQ,aX⟩:=eX (wJ (se,ls) (((g:Int),k),d));rw[aX]at ab ai aT ad;have hex:∀e∈se++[(((g:Int),k),d)],∃x∈vs.take (i+1),e.1.1=(x.1:Int):=λe he=>by
  rcases Ak.1 he with h|h;.exact aq e h
  .simp at h;subst h;exact⟨(g,ps),by rw[B3 q,hx];simp,rfl⟩
 have ak:∀(a1:List Ln)(K':List aij)(e:Env)(U:St),LQ.2=a1->(∀k',(LQ.1.any λe=>e.1==((g:Int),k'))=K'.any λx=>x==k')->(∀e∈LQ.1,∃x∈vs.take (i+1),e.1.1=(x.1:Int))->K'.length<=j+1->e 1=.sl .ro (vs.map fZ)->e 2=.ptr 0 0->e 5=.sl .ro (a1.map Ln.row)->e 6=.int .i64 i->e 7=.int .i64 tn->e 10=.sl (.app 1) (K'.map λx=>[V.str x])->e 11=.int .i64 ((j:Int)+1)->U.take 2=[fc,.app K'.length 1]->Vx.Next (λs':Nat×Nat×(List (Pl×aij)×List Ln)×List aij=>ps.length-s'.1<ps.length-j/\(s'.1<=ps.length/\s'.2.2.1.2.length<=s'.2.1/\s'.2.1+((iN g (ps.drop s'.1)).length+(zZ (vs.drop (i+1))).length)=(zZ vs).length/\(∀e∈s'.2.2.1.1,∃x∈vs.take (i+1),e.1.1=(x.1:Int))/\s'.2.2.2.length<=s'.1/\(∀k,(s'.2.2.1.1.any λe=>e.1==((g:Int),k))=s'.2.2.2.any λx=>x==k)/\(zZ (vs.drop (i+1))).foldl wJ ((iN g (ps.drop s'.1)).foldl wJ s'.2.2.1)=Q)/\At 0 [1,2,5,6,7,10,11] [V.sl Tag.ro (vs.map fZ),.ptr 0 0,.sl .ro (s'.2.2.1.2.map Ln.row),.int .i64 i,.int .i64 tn,.sl (.app 1) (s'.2.2.2.map λx=>[V.str x]),.int .i64 s'.1] [fc,.app s'.2.2.2.length 1] e U) fx:=λa1 K' e U h1 h2 h3 h4 e1 e2 e5 e6 e7 rO aY cD=>zH (j+1,c1+1,LQ,K') ⟨by show ps.length-(j+1)<ps.length-j;omega,(by grind),bT 2 cD rfl rfl dc (zC (by simp[e1,e2,e5,e6,e7,rO,aY,h1]) rfl)⟩;refine(A1 sb).elim (λw=>?_) (λw=>?_);.have hl:=ai w;refine zA ?_;simp[go_sem,q,hx,fZ,qj,hp,fJ];refine pC ae ?_;simp[go_sem,w,ej];exact ak ls K _ _ (by rw[hl]) (by rw[hl];exact hK) (by rw[hl];exact aq) om rfl rfl rfl rfl rfl rfl rfl (by simp[go_sem,fc])
 have hl:=ab w;have hF:∀k',(LQ.1.any λe=>e.1==((g:Int),k'))=(K++[k]).any λx=>x==k':=by rw[hl];exact aG
 have hX:∀e∈LQ.1,∃x∈vs.take (i+1),e.1.1=(x.1:Int):=by rw[hl];exact hex
 have aj:(K++[k]).length<=j+1:=by simp;omega
 clear ai ab aG hex;by_cases r0:re=0;rotate_left
 .have al:(re !=0)=true:=sU r0;have ah:LQ.2=ls:=by rw[hl];simp[r0]
  refine zA ?_;simp[go_sem,q,hx,fZ,qj,hp,fJ];refine pC ae ?_;simp[go_sem,w];refine zF ⟨om,zT rfl⟩ ?_;simp[go_sem,fc];refine pC ag ?_;simp[go_sem,jv,al,ej];exact ak ls (K++[k]) _ _ ah hF hX aj rfl rfl rfl rfl rfl (rO K _) rfl (by simp[go_sem,fc])
 have al:(re !=0)=false:=sU r0;have a6:(ke=0/\kr=g/\kk=k)\/ke≠0/\True\/(ke=0/\kr≠g)/\True\/(ke=0/\kr=g/\kk≠k):=by grind
 rcases a6 with h|h|h|h
 .obtain⟨k0,aZ,ba⟩:=h;subst aZ;subst ba;have ah:LQ.2=oc ls ⟨g,kk,row⟩:=by rw[hl];simp[r0,k0]
  refine zA ?_;simp[go_sem,q,hx,fZ,qj,hp,fJ];refine pC ae ?_;simp[go_sem,w];refine zF ⟨om,zT rfl⟩ ?_;simp[go_sem,fc];refine pC ag ?_;simp[go_sem,jv,al];refine zJ af cB (zK (by simp[go_sem,cA]) rfl) rfl ?_;simp[go_sem,k9,k0,q,hx,fZ];refine zJ aW cB ⟨zP,uM ⟨zU rfl,zU rfl,yH,tV⟩,tV⟩ rfl ?_;simp[go_sem,ej];exact ak _ (K++[kk]) _ _ ah hF hX aj rfl rfl rfl rfl rfl (rO K _) rfl (by simp[go_sem,fc])
 .have k0:=h.1;have bb:(ke==0)=false:=sU k0;have ah:LQ.2=ls:=by rw[hl];simp[k0]
  refine zA ?_;simp[go_sem,q,hx,fZ,qj,hp,fJ];refine pC ae ?_;simp[go_sem,w];refine zF ⟨om,zT rfl⟩ ?_;simp[go_sem,fc];refine pC ag ?_;simp[go_sem,jv,al];refine zJ af cB (zK (by simp[go_sem,cA]) rfl) rfl ?_;simp[go_sem,k9,bb,ej];exact ak ls (K++[k]) _ _ ah hF hX aj rfl rfl rfl rfl rfl (rO K _) rfl (by simp[go_sem,fc])
 .have k0:=h.1.1;have k1:=h.1.2;have bc:(kr==(g:Int))=false:=sU k1;have ah:LQ.2=ls:=by rw[hl];simp[k1]
  refine zA ?_;simp[go_sem,q,hx,fZ,qj,hp,fJ];refine pC ae ?_;simp[go_sem,w];refine zF ⟨om,zT rfl⟩ ?_;simp[go_sem,fc];refine pC ag ?_;simp[go_sem,jv,al];refine zJ af cB (zK (by simp[go_sem,cA]) rfl) rfl ?_;simp[go_sem,k9,k0,bc,q,hx,fZ,ej];exact ak ls (K++[k]) _ _ ah hF hX aj rfl rfl rfl rfl rfl (rO K _) rfl (by simp[go_sem,fc])
 .obtain⟨k0,k1,k2⟩:=h;have bd:(kk==k)=false:=sU k2;have ah:LQ.2=ls:=by rw[hl];simp[k2]
  refine zA ?_;simp[go_sem,q,hx,fZ,qj,hp,fJ];refine pC ae ?_;simp[go_sem,w];refine zF ⟨om,zT rfl⟩ ?_;simp[go_sem,fc];refine pC ag ?_;simp[go_sem,jv,al];refine zJ af cB (zK (by simp[go_sem,cA]) rfl) rfl ?_;simp[go_sem,k9,k0,k1,bd,q,hx,fZ,ej];exact ak ls (K++[k]) _ _ ah hF hX aj rfl rfl rfl rfl rfl (rO K _) rfl (by simp[go_sem,fc])
theorem EI (l:List Wr):eM 3 (l.map ji):=vZ λ_=>rfl
def lW (l:List Wr)(k:aij):Nat:=(l.takeWhile (λy=>Op.bytesLess y.p.2 k)).length
def je (l:List Wr)(w:Wr):List Wr:=l.take (lW l w.p.2)++w::l.drop (lW l w.p.2)
theorem VN (l:List Wr)(k:aij):lW l k<=l.length:=by unfold lW;have:=ahU List.length (B5 (p:=λy:Wr=>Op.bytesLess y.p.2 k) (l:=l));rw[Al]at this;omega
theorem VO (l:List Wr)(x:Wr)(hl:l.length<=100000):Pure prog 131 [.sl .ro (l.map ji),.agg (ji x)] (.sl .ro ((je l x).map ji)):=by
 have aa:=VN l x.p.2;unfold je;obtain⟨⟨xr,xk⟩,xd,xb⟩:=x;simp only at aa⊢;obtain⟨k,hk⟩:=eX (lW l xk);rw[hk]at aa⊢;generalize hM:l.take k++(⟨(xr,xk),xd,xb⟩:Wr)::l.drop k=M;have ad:(l.map ji).take l.length=l.map ji:=Ac sm;have ret:∀{g:Tag}{rows:List (List V)}(U:St),rows=M.map ji->bW (some (.sl g rows)) 0 (λr s=>r=.sl .ro (M.map ji)/\s=[]) U:=λU h=>by subst h;exact zV zP ⟨rfl,rfl⟩
 refine iV 0 func131 ntmps131 results131 λc hc hb=>?_;refine zA ?_;simp[go_sem,ji];refine zG (S:=Nat) [0,3,5] (λi=>[.sl .ro (l.map ji),.ptr 0 0,.int .i64 i]) (λ_=>[.box [.str xk,.bool xd,.str xb]]) (λi=>l.length-i) (λi=>i<=l.length/\i+lW (l.drop i) xk=k) hc hb 0 ⟨A3 _,by rw[Au,Ab];exact hk⟩ ?_ ?_;.exact iL rfl sm sg
 rintro i ⟨hi,hinv⟩;by_cases q:i<l.length
 .have ei:=zR q om;obtain⟨⟨⟨yr,yk⟩,yd,yb⟩,hy⟩:∃y,l[i]=y:=⟨_,rfl⟩;have ae:lW (l.drop i) xk=if Op.bytesLess yk xk=true then lW (l.drop (i+1)) xk+1 else 0:=by rw[A2 q,hy];unfold lW;rw[Cy];split<;>simp
  rw[ae]at hinv;refine(A1 (Op.bytesLess yk xk)).elim (λw=>?_) (λw=>?_);.rw[ahP w]at hinv;refine zN (zN ?_);refine yB [] 1 rfl kR kR ?_;simp[go_sem,q,hy,ji,w];refine zA ?_;simp[go_sem];refine zA ?_;simp[go_sem,ei];exact zH (i+1) ⟨by show l.length-(i+1)<l.length-i;omega,⟨q,om⟩,iL rfl sm sg⟩
  .rw[ahO (by rw[w];simp)]at hinv;refine zN (zN ?_);refine yB [] 1 rfl kR kR ?_;simp[go_sem,q,hy,ji,w];refine zA ?_;simp[go_sem];have ab:i=k:=om;subst ab;refine zW [(4,3),(7,3),(11,3)] 1 sm kR kR ?_;simp[go_sem];refine zF ⟨hi,EI l⟩ ?_;simp[go_sem];refine zF ⟨om,(λr hr=>by cases hr),Gs (EI l)⟩ ?_;simp[go_sem];refine zF ⟨om,zT rfl⟩ ?_;simp[go_sem];refine zF ⟨hi,EI l⟩ ?_;simp[go_sem,ad];refine zF ⟨om,K9 (EI l)⟩ ?_;simp[go_sem];exact ret _ (by rw[<-hM];simp[ji,List.map_take])
 .have:i=l.length:=om;subst this;rw[B7]at hinv;refine zN (zN ?_);refine yB [] 1 rfl kR kR ?_;simp[go_sem];refine zA ?_;simp[go_sem];have ab:l.length=k:=hinv;subst ab;refine zW [(4,3),(7,3),(11,3)] 1 sm kR kR ?_;simp[go_sem];refine zF (EI l) ?_;simp[go_sem];refine zF ⟨om,(λr hr=>by cases hr),Gs (EI l)⟩ ?_;simp[go_sem];refine zF ⟨om,zT rfl⟩ ?_;simp[go_sem];refine zF (EI l) ?_;simp[go_sem,ad];refine zF ⟨om,(λr hr=>by cases hr)⟩ ?_;simp[go_sem];exact ret _ (by rw[<-hM];simp[ji])
abbrev Pr:=aij×aij
def jW (acc:List Pr)(q:Pr):List Pr:=if(acc.any λe=>e.1==q.1)=true then acc else acc++[q]
def iB (g:Int):List Vw->List Pr->List Pr |[],acc=>acc|x::vs,acc=>iB g vs (if(x.1:Int)=g then x.2.foldl jW acc else acc)
theorem VP (acc:List Pr)(q:Pr):(jW acc q).length<=acc.length+1:=by unfold jW;split<;>simp
theorem wd8 (vs:List Vw)(g:Int)(al:vs.length<=10000)(hv:∀x∈vs,x.2.length<=10000):Pure prog 69 [.sl .ro (vs.map fZ),.int .i64 g] (.sl .ro ((iB g vs []).map fJ)):=by
 generalize hQ:iB g vs []=Q;have ab:∀acc:List Pr,([.app acc.length 2,.app acc.length 1]:St).all (bO 2)=true:=λacc=>rfl;refine iV 0 func69 ntmps69 results69 λc hc hb=>?_;refine zN (zA ?_);simp[go_sem];refine zN (zA ?_);simp[go_sem];refine wL 5 2 dc sg ?_;refine zN (zA ?_);simp[go_sem];refine wL 6 1 dc sg ?_;refine zN (zA ?_);simp[go_sem];refine zG (S:=Nat×List Pr) [0,1,5,6,7] (λu=>[.sl .ro (vs.map fZ),.int .i64 g,.sl (.app 0) (u.2.map fJ),.sl (.app 1) (u.2.map λq=>[V.str q.1]),.int .i64 u.1]) (λu=>[.app u.2.length 2,.app u.2.length 1]) (λu=>vs.length-u.1) (λu=>u.1<=vs.length/\u.2.length<=10000*u.1/\iB g (vs.drop u.1) u.2=Q) hc hb (0,[]) ⟨A3 _,A6 _,hQ⟩ ?_ ?_;.exact aN 2 (ab [])
 rintro⟨i,acc⟩⟨hi,ag,hinv⟩;simp only at hi ag hinv;by_cases q:i<vs.length;rotate_left;.rw[A4 om,iB]at hinv;subst hinv;refine zA ?_;simp[go_sem,q];refine zA ?_;simp[go_sem];exact zV zP ⟨rfl,rfl⟩
 have ei:=zR q om;obtain⟨⟨n,ps⟩,hx⟩:∃x,vs[i]=x:=⟨_,rfl⟩;have ai:=hv (n,ps) (hx▸A7 q);simp only at ai;rw[A2 q,hx,iB]at hinv;simp only at hinv;by_cases hg:(n:Int)=g;rotate_left
 .have ae:((n:Int)==g)=false:=sU hg;rw[ahO hg]at hinv;refine zA ?_;simp[go_sem,q];refine zG (S:=Unit) [0,1,5,6,7,8] (λ_=>[.sl .ro (vs.map fZ),.int .i64 g,.sl (.app 0) (acc.map fJ),.sl (.app 1) (acc.map λq=>[V.str q.1]),.int .i64 i,.int .i64 0]) (λ_=>[.app acc.length 2,.app acc.length 1]) (λ_=>0) (λ_=>True) hc hb () trivial ?_ ?_;.exact aN 2 (ab acc)
  rintro _ _;refine zA ?_;simp[go_sem,q,hx,fZ,ae,ei];exact zH (i+1,acc) ⟨by show vs.length-(i+1)<vs.length-i;omega,⟨q,by show acc.length<=10000*(i+1);omega,hinv⟩,aN 2 (ab acc)⟩
 have ae:((n:Int)==g)=true:=sU hg;rw[ahP hg]at hinv;refine zA ?_;simp[go_sem,q];refine zG (S:=Nat×List Pr) [0,1,5,6,7,8] (λu=>[.sl .ro (vs.map fZ),.int .i64 g,.sl (.app 0) (u.2.map fJ),.sl (.app 1) (u.2.map λq=>[V.str q.1]),.int .i64 i,.int .i64 u.1]) (λu=>[.app u.2.length 2,.app u.2.length 1]) (λu=>ps.length-u.1) (λu=>u.1<=ps.length/\u.2.length<=10000*i+u.1/\iB g (vs.drop (i+1)) ((ps.drop u.1).foldl jW u.2)=Q) hc hb (0,acc) ⟨A3 _,ag,hinv⟩ ?_ ?_;.exact aN 2 (ab acc)
 rintro⟨j,a1⟩⟨hj,aj,aa⟩;simp only at hj aj aa;by_cases qj:j<ps.length;rotate_left;.have ak:j=ps.length:=om;rw[ak,B7,aid]at aa;refine zA ?_;simp[go_sem,q,hx,fZ,ae,qj,ei];exact zH (i+1,a1) ⟨by show vs.length-(i+1)<vs.length-i;omega,⟨q,by show a1.length<=10000*(i+1);omega,aa⟩,aN 2 (ab a1)⟩
 have ej:=zR qj om;obtain⟨⟨k,d⟩,hp⟩:∃x,ps[j]=x:=⟨_,rfl⟩;rw[A2 qj,hp,Ap]at aa;have ad:=UA (a1.map (·.1)) k (by rw[Bq];unfold maxLen;omega);have ah:((a1.map (·.1)).any λx=>x==k)=a1.any λe=>e.1==k:=by rw[List.any_map];rfl
 rw[ah,B8]at ad;obtain⟨sb,af⟩:=eX ((a1.any λe=>e.1==k));rw[af]at ad;have an:=VP a1 (k,d);refine(A1 sb).elim (λw=>?_) (λw=>?_)
 .have hd:jW a1 (k,d)=a1:=by unfold jW;rw[ahP (af.trans w)]
  rw[hd]at aa;refine zA ?_;simp[go_sem,q,hx,fZ,ae,qj,hp,fJ];refine pC ad ?_;simp[go_sem,w,ej];exact zH (j+1,a1) ⟨by show ps.length-(j+1)<ps.length-j;omega,⟨qj,by show a1.length<=10000*i+(j+1);omega,aa⟩,aN 2 (ab a1)⟩
 .have hd:jW a1 (k,d)=a1++[(k,d)]:=by unfold jW;rw[ahO (by rw[af,w];decide)]
  rw[hd]at aa;refine zA ?_;simp[go_sem,q,hx,fZ,ae,qj,hp,fJ];refine pC ad ?_;simp[go_sem,w,q,hx,fZ,qj,hp,fJ];refine zF ⟨om,zT rfl⟩ ?_;simp[go_sem,q,hx,fZ,qj,hp,fJ];refine zF ⟨om,zT rfl⟩ ?_;simp[go_sem,ej];exact zH (j+1,a1++[(k,d)]) ⟨by show ps.length-(j+1)<ps.length-j;omega,⟨qj,by show(a1++[(k,d)]).length<=10000*i+(j+1);simp;omega,aa⟩,aM 2 (ab _) (zC (by simp[go_sem,fJ]) rfl)⟩
def EJ (raw:List Pr)(x:Ln):Bool:=raw.any λq=>q.1==x.k&&q.2==yK x.v
def uo (g:Int)(now:List Ln):List Ln->List Wr->List Wr |[],out=>out|x::l,out=>uo g now l (if((x.r==g)&&!fT now (g,x.k))=true then je out ⟨(g,x.k),true,[]⟩else out)
def uq (g:Int)(raw:List Pr):List Ln->List Wr->List Wr |[],out=>out|x::l,out=>uq g raw l (if((x.r==g)&&!EJ raw x)=true then je out ⟨(g,x.k),false,yK x.v⟩else out)
theorem VQ (l:List Wr)(w:Wr):(je l w).length=l.length+1:=by have:=VN l w.p.2;unfold je;simp;omega
theorem xk4 (raw:List Pr)(dy now:List Ln)(g:Int)(ax:raw.length<=100000)(ay:dy.length<=10000)(az:now.length<=10000)(cK:∀x∈now,eP x):Pure prog 68 [.sl .ro (raw.map fJ),.sl .ro (dy.map Ln.row),.sl .ro (now.map Ln.row),.int .i64 g] (.sl .ro ((uq g raw now (uo g now dy [])).map ji)):=by
 obtain⟨A,hA⟩:=eX (uo g now dy []);rw[hA];generalize hC:uq g raw now A=C;refine iV 0 func68 ntmps68 results68 λc hc hb=>?_;refine zN (zA ?_);simp[go_sem];refine zN (zA ?_);simp[go_sem];refine zN (zA ?_);simp[go_sem];refine zG (S:=Nat×List Wr) [0,1,2,3,9,10] (λu=>[.sl .ro (raw.map fJ),.sl .ro (dy.map Ln.row),.sl .ro (now.map Ln.row),.int .i64 g,.sl .ro (u.2.map ji),.int .i64 u.1]) (λ_=>[]) (λu=>dy.length-u.1) (λu=>u.1<=dy.length/\u.2.length<=u.1/\uo g now (dy.drop u.1) u.2=A) hc hb (0,[]) ⟨A3 _,A6 _,hA⟩ ?_ ?_;.exact fg rfl ⟨zP,zP,zP,zD rfl,zP,zD rfl,tV⟩
 rintro⟨i,out⟩⟨hi,af,hinv⟩;simp only at hi af hinv;by_cases q:i<dy.length
 .have ei:=zR q om;obtain⟨x,hx⟩:=eX (dy[i]);rw[A2 q,hx,uo]at hinv;have ai:=OK now (g,x.k) (by unfold maxLen;omega);have aj:=Vy (l:=now) (p:=(g,x.k));obtain⟨fa,ar⟩:=eX (xE (uf (g,x.k)) now 0);rw[ar]at ai aj;have ad:=VO out ⟨(g,x.k),true,[]⟩ om;by_cases hg:x.r=g;rotate_left;.have ab:(x.r==g)=false:=sU hg;rw[ahO (by rw[ab];simp)]at hinv;refine zA ?_;simp[go_sem,q,hx,ab,ei];exact zH (i+1,out) ⟨by show dy.length-(i+1)<dy.length-i;omega,⟨q,by show out.length<=i+1;omega,hinv⟩,aO⟩
  have ab:(x.r==g)=true:=sU hg;by_cases a0:0<=fa;.have ak:¬fa<0:=om;rw[ahO (by rw[aj.1 a0];simp)]at hinv;refine zA ?_;simp[go_sem,q,hx,ab];refine pC ai ?_;simp[go_sem,ak,ei];exact zH (i+1,out) ⟨by show dy.length-(i+1)<dy.length-i;omega,⟨q,by show out.length<=i+1;omega,hinv⟩,aO⟩
  .have ak:fa<0:=om;have au:fT now (g,x.k)=false:=Bool.eq_false_iff.2 (λh=>a0 (aj.2 h));rw[ahP (by rw[au,ab];rfl)]at hinv;refine zA ?_;simp[go_sem,q,hx,ab];refine pC ai ?_;simp[go_sem,ak,q,hx];refine pC ad ?_;simp[go_sem,ei];exact zH (i+1,je out ⟨(g,x.k),true,[]⟩) ⟨by show dy.length-(i+1)<dy.length-i;omega,⟨q,by show(je out _).length<=i+1;rw[VQ];omega,hinv⟩,aO⟩
 have ag:i=dy.length:=om;rw[ag,B7,uo]at hinv;subst hinv;refine zA ?_;simp[go_sem,q];have ah:out.length<=10000:=om;clear hA ag hi q af;refine zN (zA ?_);simp[go_sem];refine zG (S:=Nat×List Wr) [0,2,3,9,11] (λu=>[.sl .ro (raw.map fJ),.sl .ro (now.map Ln.row),.int .i64 g,.sl .ro (u.2.map ji),.int .i64 u.1]) (λ_=>[]) (λu=>now.length-u.1) (λu=>u.1<=now.length/\u.2.length<=10000+u.1/\uq g raw (now.drop u.1) u.2=C) hc hb (0,out) ⟨A3 _,ah,hC⟩ ?_ ?_;.exact aO
 clear hC ah;rintro⟨i,o1⟩⟨hi,af,hinv⟩;simp only at hi af hinv;by_cases q:i<now.length;rotate_left;.have ag:i=now.length:=om;rw[ag,B7,uq]at hinv;subst hinv;refine zA ?_;simp[go_sem,q];refine zA ?_;simp[go_sem];exact zV zP ⟨rfl,rfl⟩
 have ei:=zR q om;obtain⟨x,hx⟩:=eX (now[i]);have av:=cK x (hx▸A7 q);rw[A2 q,hx,uq]at hinv;have ae:=xA6 x.v av.BJ;have ad:=VO o1 ⟨(g,x.k),false,yK x.v⟩ om;obtain⟨D,hD⟩:=eX (yK x.v);have an:EJ raw x=raw.any λq=>q.1==x.k&&q.2==D:=by rw[<-hD];rfl
 rw[hD]at ae ad hinv;obtain⟨rh,ao⟩:=eX (EJ raw x);rw[ao]at hinv an;by_cases hg:x.r=g;rotate_left;.have ab:(x.r !=g)=true:=sU hg;have al:(x.r==g)=false:=sU hg;rw[ahO (by rw[al];simp)]at hinv;refine zA ?_;simp[go_sem,q,hx,ab,ei];exact zH (i+1,o1) ⟨by show now.length-(i+1)<now.length-i;omega,⟨q,by show o1.length<=10000+(i+1);omega,hinv⟩,aO⟩
 have ab:(x.r !=g)=false:=sU hg;have al:(x.r==g)=true:=sU hg;rw[al,Ah]at hinv;refine zA ?_;simp[go_sem,q,hx,ab];refine pC ae ?_;simp[go_sem];refine zG (S:=Nat×Bool) [0,2,3,9,11,12,13,14] (λu=>[.sl .ro (raw.map fJ),.sl .ro (now.map Ln.row),.int .i64 g,.sl .ro (o1.map ji),.int .i64 i,.str D,.bool u.2,.int .i64 u.1]) (λ_=>[]) (λu=>raw.length-u.1) (λu=>u.1<=raw.length/\(u.2||(raw.drop u.1).any λq=>q.1==x.k&&q.2==D)=rh) hc hb (0,false) ⟨A3 _,by rw[Au,Bf];exact an.symm⟩ ?_ ?_;.exact aO
 rintro⟨j,aq⟩⟨hj,aa⟩;simp only at hj aa;by_cases qj:j<raw.length;rotate_left
 .have aw:j=raw.length:=om;rw[aw,B7,aii,Dd]at aa;refine(A1 aq).elim (λw=>?_) (λw=>?_);.rw[ahO (by rw[<-aa,w];decide)]at hinv;refine zA ?_;simp[go_sem,qj,w,ei];exact zH (i+1,o1) ⟨by show now.length-(i+1)<now.length-i;omega,⟨q,by show o1.length<=10000+(i+1);omega,hinv⟩,aO⟩
  .rw[ahP (by rw[<-aa,w];decide)]at hinv;refine zA ?_;simp[go_sem,qj,w,q,hx];refine pC ad ?_;simp[go_sem,ei];exact zH (i+1,je o1 ⟨(g,x.k),false,D⟩) ⟨by show now.length-(i+1)<now.length-i;omega,⟨q,by show(je o1 _).length<=10000+(i+1);rw[VQ];omega,hinv⟩,aO⟩
 have ej:=zR qj om;obtain⟨⟨k,d⟩,hp⟩:∃x,raw[j]=x:=⟨_,rfl⟩;rw[A2 qj,hp,Bx]at aa;simp only at aa;have step:∀(b:Bool)(e:Env)(U:St),(b||(raw.drop (j+1)).any λq=>q.1==x.k&&q.2==D)=rh->U.take 0=[]->[0,2,3,9,11,12,13,14].map e=[V.sl .ro (raw.map fJ),.sl .ro (now.map Ln.row),.int .i64 g,.sl .ro (o1.map ji),.int .i64 i,.str D,.bool b,.int .i64 ((j:Int)+1)]->Vx.Next (λs':Nat×Bool=>raw.length-s'.1<raw.length-j/\(s'.1<=raw.length/\(s'.2||(raw.drop s'.1).any λq=>q.1==x.k&&q.2==D)=rh)/\At 0 [0,2,3,9,11,12,13,14] [V.sl Tag.ro (raw.map fJ),.sl .ro (now.map Ln.row),.int .i64 g,.sl .ro (o1.map ji),.int .i64 i,.str D,.bool s'.2,.int .i64 s'.1] [] e U) fx:=λb e U h _ he=>zH (j+1,b) ⟨by show raw.length-(j+1)<raw.length-j;omega,⟨qj,h⟩,fg rfl (by rw[he];exact zK sm rfl)⟩;refine(A1 aq).elim (λw=>?_) (λw=>?_);.refine zA ?_;simp[go_sem,qj];refine yB [] 0 rfl kR kR ?_;simp[go_sem,w,ej];exact step true _ _ (by rw[<-aa,w];simp) rfl sg
 rw[w,Bf]at aa;refine(A1 (k==x.k)).elim (λw2=>?_) (λw2=>?_);rotate_left;.rw[w2,B2]at aa;refine zA ?_;simp[go_sem,qj];refine yB [] 0 rfl kR kR ?_;simp[go_sem,w,qj,hp,fJ,q,hx,w2,ej];exact step false _ _ aa rfl sg
 refine(A1 (d==D)).elim (λw3=>?_) (λw3=>?_);.rw[w2,w3,Ah]at aa;refine zA ?_;simp[go_sem,qj];refine yB [] 0 rfl kR kR ?_;simp[go_sem,w,qj,hp,fJ,q,hx,w2,w3,ej];exact step true _ _ aa rfl sg
 .rw[w2,w3,Ah]at aa;refine zA ?_;simp[go_sem,qj];refine yB [] 0 rfl kR kR ?_;simp[go_sem,w,qj,hp,fJ,q,hx,w2,w3,ej];exact step false _ _ aa rfl sg
def pK (vs:List Vw)(dy now:List Ln)(g:Int):List Wr:=uq g (iB g vs []) now (uo g now dy [])
def vt (vs:List Vw)(dy now:List Ln):aim->List (Int×List Wr) |[]=>[]|g::l=>(if pK vs dy now g=[]then[]else[(g,pK vs dy now g)])++vt vs dy now l
def ye (df:dR)(vs:List Vw):V:=.cm [.agg (fU (ee df (yI vs)).1),.sl .ro ((if(ee df (yI vs)).1.1≠0then[]else vt vs (yI vs) (ee df (yI vs)).2 [0,1,2,3]).map eD)]
theorem VR (g:Int):∀(vs:List Vw)(acc:List Pr),(iB g vs acc).length<=acc.length+(zZ vs).length
 |[],acc=>by rw[iB];simp|x::vs,acc=>by
  have hd:∀(ps acc:List Pr),(ps.foldl jW acc).length<=acc.length+ps.length:=by intro ps;induction ps with |nil=>intro acc;simp|cons p ps ih=>intro acc;rw[Ap];have h1:=ih (jW acc p);have h2:=VP acc p;simp only[Af];omega
  rw[iB,EH,Al];refine Ao (VR g vs _) ?_;have h3:=hd x.2 acc;have h4:(iN x.1 x.2).length=x.2.length:=by simp[iN]
  split<;>omega
theorem xH8 (df:dR)(hl:mO df)(vs:List Vw)(au:vs.length<=10000)(av:(vs.map (·.1)).Nodup)(hv:∀x∈vs,x.2.length<=10000/\∀q∈x.2,q.2.length<=cu)(hN:(zZ vs).length<=7500) (an:∃b,cE b (yI vs))(ao:(yI vs).length<=7500)(aa:(ee df (yI vs)).1.1=0->(ee df (yI vs)).2.length<=10000/\∀x∈(ee df (yI vs)).2,eP x):Pure prog 34 [cA bI,.agg df.row,.sl .ro (vs.map fZ)] (ye df vs):=by
 have ae:=xx5 vs om av (λx hx=>⟨by have:=(hv x hx).1;omega,(hv x hx).2⟩) hN;have ag:=wl6 df hl (yI vs) ao an;have aq:=λg=>wd8 vs g au (λx hx=>(hv x hx).1);have af:=T4;obtain⟨dy,hw⟩:=eX (yI vs);unfold ye;rw[hw]at ae ag aa ao⊢;obtain⟨⟨⟨er,ix,outs⟩,now⟩,hM⟩:∃M,ee df dy=M:=⟨_,rfl⟩;rw[hM]at ag aa⊢;simp only at aa⊢;have ah:=λ(h:er=0)(g:Int)=>xk4 (iB g vs []) dy now g (by have:=VR g vs [];simp at this;omega) om (aa h).1 (aa h).2;obtain⟨ai,ab⟩:=eX (V.cm [.agg (fU (er,ix,outs)),.sl .ro ((if er≠0then[]else vt vs dy now [0,1,2,3]).map eD)]);rw[ab];refine iV 0 func34 ntmps34 results34 λc hc hb=>?_;refine zN (zA ?_);simp[go_sem,cA];refine zN (zA ?_);simp[go_sem];refine zJ ae cB (zK (by simp[go_sem,cA]) rfl) rfl ?_;simp[go_sem];refine zN (zA ?_);simp[go_sem];refine zJ ag cB (zK (by simp[go_sem,cA]) rfl) rfl ?_;simp[go_sem,Ix,fU];by_cases e0:er=0;rotate_left;.have aj:(er !=0)=true:=sU e0;refine zN (zA ?_);simp[go_sem,aj];rw[ahP e0]at ab;exact zV (r:=ai) (by rw[<-ab];exact yJ ⟨xS ⟨zU rfl,zU rfl,yH,tV⟩,lJ,tV⟩) ⟨rfl,rfl⟩
 have aj:(er !=0)=false:=sU e0;have ah:=ah e0;refine zN (zA ?_);simp[go_sem,aj];obtain⟨P,hP⟩:=eX (vt vs dy now [0,1,2,3]);rw[ahO (λq=>q e0),hP]at ab;have ret:∀(g:Tag)(out:List (Int×List Wr))(U:St),out=P->bW (some (.cm [.agg [.int .i64 er,.int .i64 ix,.sl .ro (outs.map Ot.row)],.sl g (out.map eD)])) 0 (λr s=>r=ai/\s=[]) U:=λg out U h=>by exact zV (r:=ai) (by rw[<-ab,<-h];exact yJ ⟨xS ⟨zU rfl,zU rfl,yH,tV⟩,lJ,tV⟩) ⟨rfl,rfl⟩
 have kj:∀(out:List (Int×List Wr)),([.box [.sl .ro yL,.sl .ro (bI.map bH.row)],.box df.row,.box [.int .i64 0,.int .i64 0,.sl .full []],.box [.int .i64 er,.int .i64 ix,.sl .ro (outs.map Ot.row)],.app out.length 2]:St).all (bO 5)=true:=λout=>by simp[bO,cH,cF,dR.row]
 refine zN (zA ?_);simp[go_sem];refine wL 11 2 dc sg ?_;refine zN (zA ?_);simp[go_sem];refine zG (S:=Nat×List (Int×List Wr)) [2,3,6,8,9,10,11,12] (λu=>[.sl .ro (vs.map fZ),.ptr 0 0,.ptr 2 0,.sl .ro (dy.map Ln.row),.ptr 3 0,.sl .ro (now.map Ln.row),.sl (.app 4) (u.2.map eD),.int .i64 u.1]) (λu=>[.box [.sl .ro yL,.sl .ro (bI.map bH.row)],.box df.row,.box [.int .i64 0,.int .i64 0,.sl .full []],.box [.int .i64 er,.int .i64 ix,.sl .ro (outs.map Ot.row)],.app u.2.length 2]) (λu=>4-u.1) (λu=>u.1<=4/\u.2.length<=u.1/\u.2++vt vs dy now (([0,1,2,3]:aim).drop u.1)=P) hc hb (0,[]) ⟨dc,A6 _,hP⟩ ?_ ?_;.exact aN 5 (kj [])
 rintro⟨i,out⟩⟨hi,aw,hinv⟩;simp only at hi aw hinv;by_cases q:i<4;rotate_left
 .have ax:i=4:=om;have q2:¬(i:Int)<4:=om;rw[ax]at hinv;have ar:out=P:=by rw[<-hinv];exact(Ay out).symm
  refine zA ?_;simp[go_sem];refine zJ af cB (zK (by simp[go_sem,cA]) rfl) rfl ?_;simp[go_sem,q2];refine zA ?_;simp[go_sem];exact ret _ out _ ar
 have q2:(i:Int)<4:=om;have ei:IntKind.i64.wrap ((i:Int)+1)=((i+1:Nat):Int):=by rw[bR om om];omega
 have ak:([0,1,2,3]:aim).drop i=(i:Int)::([0,1,2,3]:aim).drop (i+1):=by match i,q with |0,_=>rfl|1,_=>rfl|2,_=>rfl|3,_=>rfl
 rw[ak,vt]at hinv;have ay:=aq (i:Int);have al:=ah (i:Int);rw[show uq (i:Int) (iB i vs []) now (uo i now dy [])=pK vs dy now i from rfl]at al;obtain⟨W,hW⟩:=eX (pK vs dy now (i:Int));rw[hW]at al hinv;refine zA ?_;simp[go_sem];refine zJ af cB (zK (by simp[go_sem,cA]) rfl) rfl ?_;simp[go_sem,q2];refine pC ay ?_;simp[go_sem];refine pC al ?_;simp[go_sem];have key:W=[]\/0<W.length:=by cases W<;>simp
 rcases key with h|h
 .have ad:out++vt vs dy now (([0,1,2,3]:aim).drop (i+1))=P:=by rw[<-hinv,ahP h];rfl
  simp[go_sem,h,ei];exact zH (i+1,out) ⟨by show 4-(i+1)<4-i;omega,⟨by show i+1<=4;omega,by show out.length<=i+1;omega,ad⟩,aN 5 (kj out)⟩
 .have az:W≠[]:=λe=>by rw[e]at h;exact absurd h dc
  have ad:(out++[((i:Int),W)])++vt vs dy now (([0,1,2,3]:aim).drop (i+1))=P:=by rw[<-hinv,ahO az,Cb]
  simp[go_sem,h];refine zF ⟨om,zT rfl⟩ ?_;simp[go_sem,ei];exact zH (i+1,out++[((i:Int),W)]) ⟨by show 4-(i+1)<4-i;omega,⟨by show i+1<=4;omega,by show(out++[_]).length<=i+1;simp;omega,ad⟩,aM 5 (kj _) (zC (by simp[go_sem,eD]) rfl)⟩
theorem VS{l:List Wr}(hl:∀y∈l,y.p.1=g)(hw:w.p.1=g):je l w=gi l w/\∀y∈je l w,y.p.1=g:=by
 have e:∀y∈l,Op.bytesLess y.p.2 w.p.2=yZ y.p w.p:=(by grind[yZ]);have h:=B5 (p:=λy:Wr=>Op.bytesLess y.p.2 w.p.2) (l:=l);have key:∀l':List Wr,(∀y∈l',Op.bytesLess y.p.2 w.p.2=yZ y.p w.p)->l'.takeWhile (λy=>Op.bytesLess y.p.2 w.p.2)=l'.takeWhile (λy=>yZ y.p w.p)/\l'.dropWhile (λy=>Op.bytesLess y.p.2 w.p.2)=l'.dropWhile (λy=>yZ y.p w.p):=by intro l';induction l' with|nil=>simp|cons y l' ih=>intro hy;obtain⟨h1,h2⟩:=ih (by grind);rw[Cy,Cy,aia,aia,hy y sm,h1,h2];simp
 obtain⟨k1,k2⟩:=key l e;have h2:je l w=gi l w:=by grind[je,gi,lW]
 refine⟨h2,λy hy=>?_⟩;unfold je at hy;grind
theorem Ld{g:Int}{now:List Ln}:∀{l:List Ln}{out:List Wr},(∀y∈out,y.p.1=g)->uo g now l out=(l.filter λx=>(x.r==g)&&!fT now x.at).foldl (λl x=>gi l (oq x)) out/\∀y∈uo g now l out,y.p.1=g
 |[],out,h=>⟨rfl,h⟩|x::l,out,h=>by
  rw[uo,C1];by_cases hg:x.r=g
  .have hp:x.at=(g,x.k):=by rw[<-hg];rfl
   rw[hp];by_cases q:((x.r==g)&&!fT now (g,x.k))=true
   .rw[ahP q,ahP q,Ap];have ho:oq x=⟨(g,x.k),true,[]⟩:=by grind[oq]
    rw[ho];obtain⟨h1,h2⟩:=VS (w:=⟨(g,x.k),true,[]⟩) h rfl;rw[<-h1];exact Ld h2
   .rw[ahO q,ahO q];exact Ld h
  .have aa:(x.r==g)=false:=by grind
   rw[aa,B2,B2,ahO dc,ahO dc];exact Ld h
theorem Lf{g:Int}{raw:List Pr}{F:List (Pl×aij)}(hF:∀x:Ln,x.r=g->EJ raw x=vm F x):∀{l:List Ln}{out:List Wr},(∀y∈out,y.p.1=g)->uq g raw l out=(l.filter λx=>(x.r==g)&&!vm F x).foldl (λl x=>gi l (oo x)) out/\∀y∈uq g raw l out,y.p.1=g
 |[],out,h=>⟨rfl,h⟩|x::l,out,h=>by
  rw[uq,C1];by_cases hg:x.r=g
  .have hp:x.at=(g,x.k):=by rw[<-hg];rfl
   rw[hF x hg];by_cases q:((x.r==g)&&!vm F x)=true
   .rw[ahP q,ahP q,Ap];have ho:oo x=⟨(g,x.k),false,yK x.v⟩:=by grind[oo]
    rw[ho];obtain⟨h1,h2⟩:=VS (w:=⟨(g,x.k),false,yK x.v⟩) h rfl;rw[<-h1];exact Lf hF h2
   .rw[ahO q,ahO q];exact Lf hF h
  .have aa:(x.r==g)=false:=by grind
   rw[aa,B2,B2,ahO dc,ahO dc];exact Lf hF h
theorem wd7{vs:List Vw}{dy:List Ln}{F:List (Pl×aij)}(hF:∀x:Ln,x.r=g->EJ (iB g vs []) x=vm F x):pK vs dy now g=EB g F dy now:=by unfold pK EB;obtain⟨h1,h2⟩:=Ld (g:=g) (now:=now) (l:=dy) (out:=[]) sm;obtain⟨h3,_⟩:=Lf hF (l:=now) h2;grind
def jB (g:Int)(F:List (Pl×aij)):List Pr:=(F.filter λe=>e.1.1==g).map λe=>(e.1.2,e.2)
theorem xS2 (g:Int)(F:List (Pl×aij))(k:aij):((jB g F).any λe=>e.1==k)=F.any λe=>e.1==(g,k):=by unfold jB;rw[Cp,C2,C2];simp
theorem xB6 (g:Int)(s:List (Pl×aij)×List Ln)(q:Pl×aij):jB g (wJ s q).1=if q.1.1=g then jW (jB g s.1) (q.1.2,q.2)else jB g s.1:=by
 obtain⟨⟨r,k⟩,d⟩:=q;simp only;by_cases hr:r=g;.subst hr;rw[ahP rfl];unfold jW;simp only[xS2];unfold wJ;simp only;by_cases h:(s.1.any λe=>e.1==(r,k))=true;all_goals simp_all[jB]
 .rw[ahO hr];unfold wJ;simp only;by_cases h:(s.1.any λe=>e.1==(r,k))=true;all_goals simp_all[jB]
theorem VT (g:Int)(n:Nat):∀(ps:List Pr)(s:List (Pl×aij)×List Ln),jB g ((iN n ps).foldl wJ s).1=if(n:Int)=g then ps.foldl jW (jB g s.1)else jB g s.1
 |[],s=>by simp[iN]|p::ps,s=>by
  have e:iN n (p::ps)=(((n:Int),p.1),p.2)::iN n ps:=rfl;rw[e,Ap,VT g n ps,xB6];by_cases h:(n:Int)=g;.rw[ahP h,ahP h,ahP h,Ap]
  .rw[ahO h,ahO h,ahO h]
theorem VU (g:Int):∀(vs:List Vw)(s:List (Pl×aij)×List Ln),jB g ((zZ vs).foldl wJ s).1=iB g vs (jB g s.1)
 |[],s=>rfl|x::vs,s=>by rw[EH,Bv,VU g vs,VT,iB]
theorem xP8{vs:List Vw}(hx:x.r=g):EJ (iB g vs []) x=vm ((zZ vs).foldl wJ ([],[])).1 x:=by
 have h:=VU g vs ([],[]);rw[show jB g ([]:List (Pl×aij))=[]from rfl]at h;rw[<-h];generalize((zZ vs).foldl wJ ([],[])).1=F;unfold EJ vm jB;rw[Cp,C2,C2];constructor
 .rintro⟨y,hy,he⟩;obtain⟨e,aa,rfl⟩:=Aa.1 hy;obtain⟨h1,h2⟩:=Bl.1 aa;have a:e.1.1=g:=by grind
  simp only[A8,ahX]at he;have hp:e.1=x.at:=aih (a.trans hx.symm) he.1;grind
 .rintro⟨e,he,h⟩;simp only[A8,ahS]at h;exact⟨(e.1.2,e.2),Aa.2 ⟨e,Bl.2 ⟨he,by rw[h.1,<-hx];exact beq_self_eq_true _⟩,rfl⟩,by grind[Ln.at]⟩
theorem VV:∀(tn:Nat)(T:bH),bI[tn]?=some T->tn=0->T.place=0:=by intro tn T h h0;subst h0;have e:bI[0]?=some T:=h;exact(by decide:∀T,bI[0]?=some T->T.place=0) T e
theorem xw8 (hT:bI[tn]?=some T){row aa:List bF}(h1:dS T.bP row=0)(h2:dS T.bP aa=0)(hk:aa.getD T.key.toNat zeroV=row.getD T.key.toNat zeroV)(hp:T.place=0->aa.getD 0 zeroV=row.getD 0 zeroV):eK tn T aa=eK tn T row:=by
 have hr:xy tn aa=xy tn row:=by
  unfold xy;by_cases h0:tn=0;.rw[ahP h0,ahP h0,hp (by grind[VV])]
  omega
 unfold eK;rw[ahO om,ahO (show¬dS T.bP row≠0fromλh=>h h1),hr,hk];by_cases h0:tn=0;.grind[VV]
 grind
theorem VX (h:eP x)(aa:(dY x.r).1=(tn:Int))(hT:bI[tn]?=some T)(hk:eK tn T x.v=(x.r,x.k,0)):BI x:=by unfold BI lC;rw[h.read,aa,Ai,show bI.getD tn eC=T by grind,hk,h.err];simp
theorem wb9 (h:eP x)(hK:BI x)(aa:(dY x.r).1=(tn:Int))(hT:bI[tn]?=some T):eK tn T x.v=(x.r,x.k,0):=by unfold BI lC at hK;rw[h.read,aa,Ai,show bI.getD tn eC=T by grind]at hK;grind
theorem xK3{l:List bF}{i j:Nat}{v:bF}(h:i≠j):(l.set i v).getD j zeroV=l.getD j zeroV:=by grind
theorem VY{T:bH}{oM:List bF}{c:Nat}(hc:(c:Int)=T.key\/((c:Int)=0/\T.place=0)):∀{cp p:List bX}{row:List bF},kz T p cp=0->(fH T oM cp row).2=0->(fH T oM cp row).1.getD c zeroV=row.getD c zeroV
 |[],_,row,_,_=>rfl|y::l,p,row,h,h2=>by
  rw[fH]at h2⊢;by_cases q:(fN T oM y.e).2≠0;.grind
  rw[ahO q]at h2⊢;rw[kz]at h;by_cases q1:cq T y.name<0;.omega
  rw[ahO q1]at h;by_cases q2:cq T y.name=T.key\/(cq T y.name=0/\T.place=0);.omega
  rw[ahO q2]at h;by_cases q3:(p.any λz=>z.name==y.name)=true;.grind
  rw[ahO q3]at h;by_cases q4:nX T y.e (iY T (cq T y.name))≠0;.omega
  rw[ahO q4]at h;rw[VY hc h h2];refine xK3 λe=>q2 ?_;have e2:cq T y.name=(c:Int):=om;rw[e2];exact hc
def pL (l:List Ln):Prop:=∀x∈l,eP x/\BI x
theorem VZ{tn:Nat}{T:bH}(hT:bI[tn]?=some T):∀{R:List (List bG)}{l:List Ln},(∀r∈R,∀e∈r,jS e)->pL l->(fy tn T R l).2=0->pL (fy tn T R l).1
 |[],l,_,hn,_=>hn|r::R,l,he,hn,h=>by
  rw[fy]at h⊢;have ab:=Ia r [] (he r (Ax ..)) (λv hv=>by cases hv);by_cases q1:(dJ eC [] r []).2≠0;.grind
  rw[ahO q1]at h⊢;obtain⟨_,ad⟩:=ab om;have aa:=KO tn T hT (dJ eC [] r []).1;obtain⟨⟨kr,kk,ke⟩,ae⟩:∃ks,eK tn T (dJ eC [] r []).1=ks:=⟨_,rfl⟩;rw[ae]at h aa⊢;simp only at h aa⊢;by_cases q2:ke≠0;.grind
  rw[ahO q2]at h⊢;have af:ke=0:=om;obtain⟨ah,ai,ag⟩:=aa af;by_cases q3:fT l (kr,kk)=true;.grind
  rw[ahO q3]at h⊢;have hx:eP ⟨kr,kk,(dJ eC [] r []).1⟩:=⟨(by grind),ag,ad⟩;refine VZ hT (by grind) (λz hz=>?_) h;rcases Ag.1 ((x6 l _).mem_iff.1 hz)with rfl|hz;.grind[VX]
  .exact hn z hz
theorem V0:∀{m l:List Ln},pL l->pL (ja m l)
 |[],l,h=>h|x::m,l,h=>by rw[ja];exact V0 (λy hy=>h y (Bl.1 hy).1)
theorem V1{tn:Nat}{T:bH}(hT:bI[tn]?=some T){st:bQ}(ad:gR st)(hc:kz T [] st.cp=0):∀{m l:List Ln},pL l->(∀x∈m,eP x/\BI x/\(dY x.r).1=(tn:Int))->(gh T st.cp m l).2=0->pL (gh T st.cp m l).1
 |[],_,hn,_,_=>hn|x::m,l,hn,hm,h0=>by
  obtain⟨aa,al,an⟩:=hm x sm;obtain⟨ao,aq⟩:=(by decide:∀T∈bI,0<=T.key/\T.key<T.bP.length) T (by grind);rw[gh]at h0⊢;have ab:=λ(c:Nat)(ah:(c:Int)=T.key\/((c:Int)=0/\T.place=0))=>VY (T:=T) (oM:=x.v) ah (cp:=st.cp) (p:=[]) (row:=x.v) hc;have ae:=KQ (T:=T) aa.ok (cp:=st.cp) (row:=x.v) (λy hy=>(ad.cp.2 y hy).2) aa.ok;obtain⟨E,hE⟩:=eX (fH T x.v st.cp x.v);rw[hE]at h0 ab ae⊢;by_cases q:E.2≠0;.grind
  rw[ahO q]at h0⊢;have q0:E.2=0:=om;by_cases q2:dS T.bP E.1≠0;.grind
  rw[ahO q2]at h0⊢;have m0:dS T.bP E.1=0:=om;obtain⟨af,T',ar,ag,ai⟩:=aa.jl;have:af=tn:=om;subst this;rw[hT]at ag;cases ag;have aj:eP ⟨x.r,x.k,E.1⟩:=⟨(by grind),aa.err,(ae q0).2⟩;have ak:eK af T E.1=(x.r,x.k,0):=by rw[xw8 hT ai m0 (by grind) (by grind)];grind[wb9]
  refine V1 hT ad hc (λz hz=>?_) (by grind) h0;unfold fB at hz;obtain⟨y,hy,rfl⟩:=Aa.1 hz;by_cases e:y.at=x.at;.rw[ahP e];have e1:y.r=x.r:=ahU Prod.fst e;have e2:y.k=x.k:=ahU Prod.snd e;grind[VX]
  .rw[ahO e];exact hn y hy
theorem wt6 (aa:rN st)(hc:oJ st=0)(_hn:cE b l)(hk:pL l)(h:(kM st l).2.2=0):pL (kM st l).2.1:=by
 obtain⟨tn,ab⟩:∃tn:Nat,ir st.table=tn:=⟨(ir st.table).toNat,by have:=aa.jl;omega⟩;have ad:tn<3:=by have h:=xh (λT:bH=>T.name==st.table) bI 0;have h2:bI.length=3:=rfl;grind[ir]
 obtain⟨T,hT⟩:∃T,bI[tn]?=some T:=⟨_,A0 (show tn<bI.length from ad)⟩;unfold oJ at hc;rw[ab,Ai,hT]at hc;simp only at hc;rw[ahO om]at hc;unfold kM at h⊢;simp only[ab,Ai]at h⊢;rw[show bI.getD tn eC=T by grind]at h⊢;by_cases k2:st.kind=2
 .rw[ahP k2]at h⊢;by_cases q:(fy tn T st.rows l).2≠0;.grind
  .rw[ahO q];exact VZ hT (λr hr=>(aa.ok.rows.2 r hr).2) hk om
 rw[ahO k2]at h⊢;by_cases q:(fb tn T st l).2≠0;.grind
 rw[ahO q]at h⊢;by_cases k1:st.kind=1;.grind
 rw[ahO k1]at h⊢;by_cases k3:st.kind=3
 .rw[ahP k3]at h⊢;by_cases q2:(gh T st.cp (fb tn T st l).1 l).2≠0;.grind
  .rw[ahO q2];have ae:kz T [] st.cp=0:=by omega
   refine V1 hT aa.ok ae hk (λx hx=>?_) om;obtain⟨h1,h2⟩:=Ig x hx;exact⟨(hk x h1).1,(hk x h1).2,Gr ad h2⟩
 simp_all[V0]
theorem V2:∀{ss:List bQ}{i:Nat}{acc:List Ot}{b:Mp aij}{l:List Ln},(∀x∈ss,rN x/\oJ x=0)->cE b l->pL l->(kD ss i acc l).1.1=0->(∃b',cE b' (kD ss i acc l).2)/\pL (kD ss i acc l).2/\(kD ss i acc l).2.length<=l.length+20*ss.length
 |[],i,acc,b,l,_,hn,hk,_=>(by grind[kD])|x::ss,i,acc,b,l,hs,hn,hk,h=>by
  rw[kD]at h⊢;obtain⟨hx,ab⟩:=hs x sm;by_cases q:(kM x l).2.2≠0;.grind
  rw[ahO q]at h⊢;have q0:(kM x l).2.2=0:=om;obtain⟨b',aa⟩:=Pm hx hn q0;have hlen:=Lc (st:=x) (l:=l);have hr:=hx.ok.rows.1;obtain⟨h1,h2,h3⟩:=V2 (by grind) aa (by grind[wt6]) h;grind
theorem nr.run:∀(ps:List (Pl×aij)){n:Nat}{s:List (Pl×aij)×List Ln}{m:M3},nr n s m->∃m',nr (n+ps.length) (ps.foldl wJ s) m'
 |[],n,s,m,h=>⟨m,h⟩|p::ps,n,s,m,h=>by obtain⟨m',h'⟩:=nr.run ps (h.step p);grind
theorem Gt (vs:List Vw):∃m,nr (zZ vs).length ((zZ vs).foldl wJ ([],[])) m:=by obtain⟨m,h⟩:=nr.run (zZ vs) U8;grind
theorem V3{l:List Wr}{dy:List Ln}(h1:∀x∈dy,eP x)(h2:∀x∈now,eP x)(hw:gv (dy.map Ln.at))(hn:gv (now.map Ln.at))(hl:l=gj dy now):∀w∈l,w.p.1=0\/w.p.1=1\/w.p.1=2\/w.p.1=3:=λw ab=>by
 rw[hl]at ab;have hr:∀x:Ln,eP x->x.r=0\/x.r=1\/x.r=2\/x.r=3:=λx hx=>by have:=hx.err;unfold dY at this;grind
 rcases((KX hw hn).2 w).1 ab with⟨_,_,⟨x,hx,aa⟩,_⟩|⟨_,x,hx,aa,_,_⟩;.rw[<-aa];exact hr x (h1 x hx)
 .rw[<-aa];exact hr x (h2 x hx)
theorem xA5{vs:List Vw}(hn:cE b now)(hk:pL now):vt vs (yI vs) now [0,1,2,3]=kE (gj (yI vs) now):=by
 obtain⟨m,hT⟩:=Gt vs;have aa:cE m.2.1 (yI vs):=hT.now;have hs:∀x∈now,vm ((zZ vs).foldl wJ ([],[])).1 x=(yI vs).any λy=>decide (y.at=x.at)&&decide (yK y.v=yK x.v):=λx hx=>hT.said (hk x hx).2;have hg:∀g:Int,pK vs (yI vs) now g=(gj (yI vs) now).filter λw=>w.p.1==g:=λg=>by rw[wd7 (F:=((zZ vs).foldl wJ ([],[])).1) (by grind[xP8])];exact wh4 aa.fY hn.fY hs
 rw[yQ9 (KX aa.fY hn.fY).1 (V3 aa.rows hn.rows aa.fY hn.fY rfl)];simp only[vt,hg,oj,Ay]
theorem Lg (hl:mO df)(hn:cE b l)(hk:pL l)(h:(ee df l).1.1=0):(∃b',cE b' (ee df l).2)/\pL (ee df l).2/\(ee df l).2.length<=l.length+240:=by
 unfold ee at h⊢;by_cases q:(mh df).2≠0;.grind
 rw[ahO q]at h⊢;have q0:(mh df).2=0:=om;by_cases q2:(kD df.stmts 0 [] l).1.1≠0;.grind
 rw[ahO q2]at h⊢;obtain⟨h1,h2,h3⟩:=V2 (λx hx=>⟨Lb hl q0 x hx,(Pj q0 x hx).2⟩) hn hk h;have:=hl.stmts.1;grind
theorem xZ5 (hl:mO df)(vs:List Vw):ye df vs=pJ df (yI vs):=by
 unfold ye pJ;by_cases h:(ee df (yI vs)).1.1≠0;.grind
 .rw[ahO h,ahO h];obtain⟨m,hT⟩:=Gt vs;have aa:cE m.2.1 (yI vs):=hT.now;obtain⟨⟨b',ab⟩,h2,_⟩:=Lg hl aa (λx hx=>⟨aa.rows x hx,(hT.lines x hx).1⟩) om;grind[xA5]
theorem xv3 (df:dR)(hl:mO df)(vs:List Vw)(ab:vs.length<=10000)(ad:(vs.map (·.1)).Nodup)(hv:∀x∈vs,x.2.length<=10000/\∀q∈x.2,q.2.length<=cu)(hN:(zZ vs).length<=7500):Pure prog 34 [cA bI,.agg df.row,.sl .ro (vs.map fZ)] (pJ df (yI vs)):=by
 rw[<-xZ5 hl];obtain⟨m,hT⟩:=Gt vs;have aa:cE m.2.1 (yI vs):=hT.now;have hlen:(yI vs).length<=(zZ vs).length:=hT.len;exact xH8 df hl vs ab ad hv hN ⟨_,aa⟩ om λh=>by obtain⟨_,h2,h3⟩:=Lg hl aa (λx hx=>⟨aa.rows x hx,(hT.lines x hx).1⟩) h;exact⟨om,λx hx=>(h2 x hx).1⟩
theorem xS0 (l:List Wr)(hl:l.length<=100000):Pure prog 64 [.sl .ro (l.map ji),.sl .ro (l.map ji)] (.bool true):=by
 refine iV 0 func64 ntmps64 results64 λc hc hb=>?_;refine zA ?_;simp[go_sem];refine zG (S:=Nat) [0,1,5] (λi=>[.sl .ro (l.map ji),.sl .ro (l.map ji),.int .i64 i]) (λ_=>[]) (λi=>l.length-i) (λi=>i<=l.length) hc hb 0 (A3 _) ?_ ?_;.exact aO
 rintro i hi;by_cases q:i<l.length;rotate_left;.refine zA ?_;simp[go_sem,q];exact wR
 have ei:=zR q om;obtain⟨⟨⟨yr,yk⟩,yd,yb⟩,hy⟩:∃y,l[i]=y:=⟨_,rfl⟩;refine zA ?_;simp[go_sem,q];refine yB [] 0 rfl kR kR ?_;simp[go_sem,q,hy,ji];exact zH (i+1) ⟨om,om,fg rfl (zK (by simp[go_sem,ei]) rfl)⟩
theorem xh6 (l:List (Int×List Wr))(hl:l.length<=100000)(hw:∀x∈l,x.2.length<=100000):Pure prog 32 [.sl .ro (l.map eD),.sl .ro (l.map eD)] (.bool true):=by
 refine iV 0 func32 ntmps32 results32 λc hc hb=>?_;refine zA ?_;simp[go_sem];refine zG (S:=Nat) [0,1,5] (λi=>[.sl .ro (l.map eD),.sl .ro (l.map eD),.int .i64 i]) (λ_=>[]) (λi=>l.length-i) (λi=>i<=l.length) hc hb 0 (A3 _) ?_ ?_;.exact aO
 rintro i hi;by_cases q:i<l.length;rotate_left;.refine zA ?_;simp[go_sem,q];exact wR
 have ei:=zR q om;obtain⟨⟨g,ws⟩,hy⟩:∃y,l[i]=y:=⟨_,rfl⟩;have hs:=xS0 ws (hw (g,ws) (hy▸A7 q));refine zA ?_;simp[go_sem,q];refine yB [(22,0)] 0 rfl kR kR ?_;simp[go_sem,q,hy,eD];refine pD hs ?_;simp[go_sem];exact zH (i+1) ⟨om,om,fg rfl (zK (by simp[go_sem,ei]) rfl)⟩
theorem xh7 (l:List (List bF))(hl:l.length<=100000)(hw:∀x∈l,x.length<=100000):Pure prog 29 [.sl .ro (l.map λr=>[V.sl .ro (r.map bF.row)]),.sl .ro (l.map λr=>[V.sl .ro (r.map bF.row)])] (.bool true):=by
 refine iV 0 func29 ntmps29 results29 λc hc hb=>?_;refine zA ?_;simp[go_sem];refine zG (S:=Nat) [0,1,5] (λi=>[.sl .ro (l.map λr=>[V.sl .ro (r.map bF.row)]),.sl .ro (l.map λr=>[V.sl .ro (r.map bF.row)]),.int .i64 i]) (λ_=>[]) (λi=>l.length-i) (λi=>i<=l.length) hc hb 0 (A3 _) ?_ ?_;.exact aO
 rintro i hi;by_cases q:i<l.length;rotate_left;.refine zA ?_;simp[go_sem,q];exact wR
 have ei:=zR q om;obtain⟨r,hy⟩:∃y,l[i]=y:=⟨_,rfl⟩;have hr:=hw r (hy▸A7 q);refine zA ?_;simp[go_sem,q];refine yB [] 0 rfl kR kR ?_;simp[go_sem,q,hy];refine zG (S:=Nat) [0,1,5,6] (λj=>[.sl .ro (l.map λr=>[V.sl .ro (r.map bF.row)]),.sl .ro (l.map λr=>[V.sl .ro (r.map bF.row)]),.int .i64 i,.int .i64 j]) (λ_=>[]) (λj=>r.length-j) (λj=>j<=r.length) hc hb 0 (A3 _) ?_ ?_;.exact aO
 rintro j hj;by_cases qj:j<r.length;rotate_left;.refine zA ?_;simp[go_sem,q,hy,qj,ei];exact zH (i+1) ⟨om,om,aO⟩
 have ej:=zR qj om;obtain⟨⟨vk,vn,vs⟩,hv⟩:∃y,r[j]=y:=⟨_,rfl⟩;refine zA ?_;simp[go_sem,q,hy,qj];refine yB [] 0 rfl kR kR ?_;simp[go_sem,q,hy,qj,hv,bF.row,ej];exact zH (j+1) ⟨om,om,aO⟩
theorem xR9 (er ix:Int)(outs:List Ot)(hl:outs.length<=100000)(hw:∀x∈outs,x.rows.length<=100000/\∀r∈x.rows,r.length<=100000):Pure prog 22 [.agg (fU (er,ix,outs)),.agg (fU (er,ix,outs))] (.bool true):=by
 refine iV 0 func22 ntmps22 results22 λc hc hb=>?_;refine zA ?_;simp[go_sem,fU];refine zG (S:=Nat) [2,3,5] (λi=>[.ptr 0 0,.ptr 1 0,.int .i64 i]) (λ_=>[.box (fU (er,ix,outs)),.box (fU (er,ix,outs))]) (λi=>outs.length-i) (λi=>i<=outs.length) hc hb 0 (A3 _) ?_ ?_;.exact iL (by simp[fU]) sm sg
 rintro i hi;by_cases q:i<outs.length;rotate_left;.refine zA ?_;simp[go_sem,q,fU];exact wR
 have ei:=zR q om;obtain⟨⟨cn,rs⟩,hy⟩:∃y,outs[i]=y:=⟨_,rfl⟩;obtain⟨h1,h2⟩:=hw ⟨cn,rs⟩ (hy▸A7 q);have hs:=xh7 rs h1 h2;refine zA ?_;simp[go_sem,q,fU];refine MG [(12,3),(13,3)] 2 10 sm kR (by rw[hc];exact A3 _) hb kR rfl (by repeat'(first|exact mI.kO|refine mI.fe ?_ (by simp[jZ,l8,cH,cF]))) (by simp only[C3,Df];exact rfl) (by simp only[Cx,Au];exact rfl) ?_;simp[go_sem,q,hy,Ot.row];refine⟨by repeat'(first|exact mI.kO|refine mI.fe ?_ (by simp[jZ,l8,cH,cF])),?_⟩;refine pC hs ?_;simp[go_sem,ei];exact zH (i+1) ⟨om,om,aN 2 (by simp[bO,cH,cF])⟩
theorem wg5 (l:List Vw)(hl:l.length<=100000):Pure prog 35 [.sl .ro (l.map fZ)] (.sl .ro (l.map fZ)):=by
 refine iV 0 func35 ntmps35 results35 λc hc hb=>?_;refine zA ?_;simp[go_sem];refine wL 3 2 dc sg ?_;refine zG (S:=Nat×List Vw) [0,3,4] (λu=>[.sl .ro (l.map fZ),.sl (.app 0) (u.2.map fZ),.int .i64 u.1]) (λu=>[.app u.2.length 2]) (λu=>l.length-u.1) (λu=>u.1<=l.length/\u.2=l.take u.1) hc hb (0,[]) ⟨A3 _,sm⟩ ?_ ?_;.exact aN 1 rfl
 rintro⟨i,out⟩⟨hi,ho⟩;simp only at hi ho;have ab:out.length=i:=by rw[ho,Ct];omega
 by_cases q:i<l.length;rotate_left
 .have h2:out=l:=by rw[ho];exact Ac om
  refine zA ?_;simp[go_sem,q];exact zV (by rw[h2];exact zP) ⟨rfl,rfl⟩
 have ei:=zR q om;obtain⟨⟨g,ps⟩,hy⟩:∃y,l[i]=y:=⟨_,rfl⟩;have aa:out++[(g,ps)]=l.take (i+1):=by rw[ho,B3 q,hy]
 refine zA ?_;simp[go_sem,q];refine zW [(13,3)] 0 sm kR kR ?_;simp[go_sem,q,hy,fZ];refine zF ⟨om,zT rfl⟩ ?_;simp[go_sem,ei];exact zH (i+1,out++[(g,ps)]) ⟨by show l.length-(i+1)<l.length-i;omega,⟨q,aa⟩,aM 1 rfl (zC (by simp[go_sem,fZ]) rfl)⟩
theorem xw9 (l:List (Int×List Wr))(hl:l.length<=100000):Pure prog 33 [.sl .ro (l.map eD)] (.sl .ro (l.map eD)):=by
 refine iV 0 func33 ntmps33 results33 λc hc hb=>?_;refine zA ?_;simp[go_sem];refine wL 3 2 dc sg ?_;refine zG (S:=Nat×List (Int×List Wr)) [0,3,4] (λu=>[.sl .ro (l.map eD),.sl (.app 0) (u.2.map eD),.int .i64 u.1]) (λu=>[.app u.2.length 2]) (λu=>l.length-u.1) (λu=>u.1<=l.length/\u.2=l.take u.1) hc hb (0,[]) ⟨A3 _,sm⟩ ?_ ?_;.exact aN 1 rfl
 rintro⟨i,out⟩⟨hi,ho⟩;simp only at hi ho;have ab:out.length=i:=by rw[ho,Ct];omega
 by_cases q:i<l.length;rotate_left
 .have h2:out=l:=by rw[ho];exact Ac om
  refine zA ?_;simp[go_sem,q];exact zV (by rw[h2];exact zP) ⟨rfl,rfl⟩
 have ei:=zR q om;obtain⟨⟨g,ps⟩,hy⟩:∃y,l[i]=y:=⟨_,rfl⟩;have aa:out++[(g,ps)]=l.take (i+1):=by rw[ho,B3 q,hy]
 refine zA ?_;simp[go_sem,q];refine zW [(13,3)] 0 sm kR kR ?_;simp[go_sem,q,hy,eD];refine zF ⟨om,zT rfl⟩ ?_;simp[go_sem,ei];exact zH (i+1,out++[(g,ps)]) ⟨by show l.length-(i+1)<l.length-i;omega,⟨q,aa⟩,aM 1 rfl (zC (by simp[go_sem,eD]) rfl)⟩
def gJ (k d:aij):Bool->List Pr->List Pr|b,[]=>if b=true then[]else[(k,d)]|b,x::l=>(if(!b&&Op.bytesLess k x.1)=true then[(k,d)]else[])++((if x.1=k then[]else[x])++gJ k d (b||Op.bytesLess k x.1) l)
def rP (l:List Pr):Prop:=l.Pairwise λa b=>Op.bytesLess a.1 b.1=true
theorem Iy (k d:aij):∀l:List Pr,gJ k d true l=l.filter λx=>!decide (x.1=k)
 |[]=>rfl|x::l=>by rw[gJ,Cd,Iy k d l,C1];grind
theorem Pn (k d:aij):∀(b:Bool)(l:List Pr),(gJ k d b l).Perm ((if b=true then[]else[(k,d)])++l.filter λx=>!decide (x.1=k))
 |b,[]=>by rw[gJ];simp|true,x::l=>by grind[Iy]|false,x::l=>by
  rw[gJ];by_cases q:Op.bytesLess k x.1=true;.rw[q,Dz,Iy];grind
  .have q':Op.bytesLess k x.1=false:=by grind
   rw[q',Bf];have ih:=Pn k d false l;by_cases e:x.1=k;.simp[e]at ih⊢;exact ih
   .simp[e]at ih⊢;exact(ih.cons x).trans (List.Perm.swap ..)
theorem jC{k:aij}{b:Bool}{l:List Pr}{x:Pr}:x∈gJ k d b l↔(b=false/\x=(k,d))\/(x∈l/\x.1≠k):=by grind[Pn]
theorem V4 (k d:aij):∀(b:Bool){l:List Pr},rP l->rP (gJ k d b l)
 |true,l,h=>by rw[Iy];exact List.Pairwise.sublist Bo h|false,[],_=>by rw[gJ,ahO dc];exact List.pairwise_singleton ..|false,x::l,h=>by
  have h2:=h;unfold rP at h2;rw[C8]at h2;rw[gJ];by_cases q:Op.bytesLess k x.1=true;.have hx:x.1≠k:=(by grind[vi]);rw[q,Dz,Iy,ahP (by rfl),ahO hx];show rP ((k,d)::x::l.filter _);unfold rP;refine C8.2 ⟨λy hy=>?_,C8.2 (by grind)⟩;rcases Ag.1 hy with rfl|hy;all_goals grind[tY]
  .have q':Op.bytesLess k x.1=false:=by grind
   rw[q',Bf,Bool.and_false,ahO dc,C0];have ih:=V4 k d false h2.2;by_cases e:x.1=k;.grind
   .rw[ahO e];show rP (x::gJ k d false l);unfold rP;refine C8.2 ⟨λy hy=>?_,ih⟩;rcases jC.1 hy with⟨_,rfl⟩|⟨hy,_⟩;all_goals grind[xu]
def Po (w:Wr)(l:List Pr):List Pr:=gJ w.p.2 w.data w.drop l
def mZ (g:Int)(P:List (List Pr))(w:Wr):List (List Pr):=P.set g.toNat (Po w (P.getD g.toNat []))
def Gu (P:List (List Pr))(q:Int×List Wr):List (List Pr):=if q.1<0\/8<=q.1then P else q.2.foldl (mZ q.1) P
def pM (P:List (List Pr))(qs:List (Int×List Wr)):List (List Pr):=qs.foldl Gu P
theorem V5 (g:Int)(P:List (List Pr))(w:Wr):(mZ g P w).length=P.length:=by grind[mZ]
theorem wa4{out:List (Int×List Wr)}(hw:0<=w.p.1/\w.p.1<8)(P:List (List Pr)):pM P (gx out w)=mZ w.p.1 (pM P out) w:=by
 have hq:∀P,Gu P (w.p.1,[w])=mZ w.p.1 P w:=λP=>by unfold Gu;grind
 unfold gx;cases q:out.getLast? with |none=>rw[List.getLast?_eq_none_iff.1 q];exact hq P|some p=>
  have ho:out=out.dropLast++[p]:=by have h:=List.getLast?_eq_some_iff.1 q;grind
  simp only;by_cases e:p.1=w.p.1
  .rw[ahP e];unfold pM;rw[Bv,Ap,aid];conv=>rhs;rw[ho,Bv,Ap,aid]
   unfold Gu;grind
  .rw[ahO e];unfold pM;grind
theorem V6 (P:List (List Pr)):∀(l:List Wr)(out:List (Int×List Wr)),(∀w∈l,0<=w.p.1/\w.p.1<8)->pM P (l.foldl gx out)=l.foldl (λP w=>mZ w.p.1 P w) (pM P out)
 |[],_,_=>rfl|w::l,out,h=>by rw[Ap,Ap,V6 P l _ λx hx=>h x (Bd _ hx),wa4 (h w (Ax ..))]
def pN (P:List (List Pr))(p:Pl)(d:aij):Prop:=0<=p.1/\∃l,P[p.1.toNat]?=some l/\(p.2,d)∈l
theorem xZ4{P:List (List Pr)}(h0:0<=w.p.1)(h8:w.p.1.toNat<P.length):pN (mZ w.p.1 P w) p d↔(p=w.p/\w.drop=false/\d=w.data)\/(p≠w.p/\pN P p d):=by
 obtain⟨g,k⟩:=p;obtain⟨⟨wg,wk⟩,wd,wb⟩:=w;simp only at h0 h8;unfold pN mZ Po;simp only;rw[A9,A0 h8,Option.getD_some];by_cases e:g=wg
 .subst e;rw[Bc h8,A0 h8];constructor;.rintro⟨_,l,hl,hm⟩;cases hl;rcases jC.1 hm with⟨h1,h2⟩|⟨h1,h2⟩;all_goals grind
  .rintro(⟨h1,h2,h3⟩|⟨h1,_,l,hl,hm⟩);.cases h1;exact⟨h0,_,rfl,jC.2 (by grind)⟩
   .cases hl;exact⟨h0,_,rfl,jC.2 (by grind)⟩
 grind
theorem V7{p:Pl}{d:aij}:∀{ws:List Wr}{P:List (List Pr)},(∀w∈ws,0<=w.p.1/\w.p.1.toNat<P.length)->pN (ws.foldl (λP w=>mZ w.p.1 P w) P) p d->(∃w∈ws,w.p=p/\w.drop=false/\d=w.data)\/((∀w∈ws,w.p≠p)/\pN P p d)
 |[],P,_,h=>(by grind)|w::ws,P,hw,h=>by
  have aa:=hw w (Ax ..);rw[Ap]at h;rcases V7 (λx hx=>by rw[V5];exact hw x (Bd _ hx)) h with⟨x,hx,h1⟩|⟨h1,h2⟩;.grind
  .rcases(xZ4 aa.1 aa.2).1 h2 with⟨h3,h4,h5⟩|⟨h3,h4⟩;all_goals grind
theorem xH6{P:List (List Pr)}(h:∀l∈P,rP l):∀l∈mZ g P w,rP l:=λl hl=>by
 unfold mZ at hl;rcases List.mem_or_eq_of_mem_set hl with hl|rfl;.grind
 .refine V4 _ _ _ ?_;rw[A9];cases q:P[g.toNat]?with|none=>exact List.Pairwise.nil|some l=>grind
theorem V8:∀{ws:List Wr}{P:List (List Pr)},(∀l∈P,rP l)->∀l∈ws.foldl (λP w=>mZ w.p.1 P w) P,rP l|[],_,h=>h|w::ws,P,h=>by rw[Ap];exact V8 (xH6 h)
theorem V9:∀(ws:List Wr)(P:List (List Pr)),(ws.foldl (λP w=>mZ w.p.1 P w) P).length=P.length|[],_=>rfl|w::ws,P=>by rw[Ap,V9 ws,V5]
def fm:Nat->List (List Pr)->List Vw|_,[]=>[]|i,l::P=>(i,l)::fm (i+1) P
theorem Lh:∀(i:Nat)(P:List (List Pr)),(fm i P).length=P.length|_,[]=>rfl|i,l::P=>by rw[fm,Af,Af,Lh]
theorem Li:∀{i:Nat}{P:List (List Pr)}{x:Vw},x∈fm i P->i<=x.1/\x.1<i+P.length/\P[x.1-i]?=some x.2
 |_,[],_,h=>by cases h|i,l::P,x,h=>by
  rw[fm]at h;rcases Ag.1 h with rfl|h;.simp
  .obtain⟨h1,h2,h3⟩:=Li h;grind
theorem Wa:∀(i:Nat)(P:List (List Pr)),((fm i P).map (·.1)).Nodup
 |_,[]=>C5|i,l::P=>by rw[fm,Ad,Bk];refine⟨λh=>?_,Wa (i+1) P⟩;obtain⟨x,hx,e⟩:=Aa.1 h;have:=(Li hx).1;simp only at e;omega
theorem Pp:∀(P:List (List Pr))(i j:Nat),(fm i P)[j]?=(P[j]?).map λl=>(i+j,l)
 |[],_,_=>rfl|l::P,i,0=>rfl|l::P,i,j+1=>by rw[fm,Ch,Ch,Pp P (i+1) j];rw[show i+1+j=i+(j+1)by omega]
theorem Wb{i:Nat}{P:List (List Pr)}(h:q∈zZ (fm i P)):(i:Int)<=q.1.1/\P[q.1.1.toNat-i]?≠none/\∀l,P[q.1.1.toNat-i]?=some l->(q.1.2,q.2)∈l:=by unfold zZ at h;obtain⟨x,hx,hq⟩:=List.mem_flatMap.1 h;obtain⟨h1,h2,h3⟩:=Li hx;obtain⟨y,hy,rfl⟩:=Aa.1 hq;grind
theorem xA1{P:List (List Pr)}(h:q∈zZ (fm 0 P)):pN P q.1 q.2:=by obtain⟨h1,h2,h3⟩:=Wb h;rw[Nat.sub_zero]at h2 h3;obtain⟨l,hl⟩:=Option.ne_none_iff_exists'.1 h2;exact⟨om,l,hl,h3 l hl⟩
theorem Wc:∀{P:List (List Pr)}{i g:Nat}{k d:aij}{l:List Pr},P[g]?=some l->(k,d)∈l->((((i+g:Nat):Int),k),d)∈zZ (fm i P)
 |[],_,_,_,_,_,h,_=>by grind|m::P,i,0,k,d,l,h,hm=>by simp at h;subst h;rw[fm,EH];exact List.mem_append_left _ (Aa.2 (by grind))|m::P,i,g+1,k,d,l,h,hm=>by rw[Ch]at h;rw[fm,EH];refine List.mem_append_right _ ?_;rw[show i+(g+1)=i+1+g by omega];exact Wc h hm
theorem xv7{P:List (List Pr)}(h:pN P p d):(p,d)∈zZ (fm 0 P):=by obtain⟨h0,l,hl,hm⟩:=h;have:=Wc (i:=0) hl hm;grind
theorem Pq:∀{P:List (List Pr)}{i:Nat},(∀l∈P,rP l)->gv ((zZ (fm i P)).map (·.1))
 |[],_,_=>List.Pairwise.nil|l::P,i,h=>by
  rw[fm,EH,Da];refine By.2 ⟨?_,Pq (by grind),λa ha b hb=>?_⟩;.unfold iN;rw[B8];refine Cv.2 ((h l (Ax ..)).imp λ{a b}aa=>?_);grind[yZ]
  .obtain⟨x,hx,rfl⟩:=Aa.1 ha;obtain⟨y,hy,rfl⟩:=Aa.1 hb;obtain⟨z,hz,rfl⟩:=Aa.1 hx;have:=(Wb hy).1;simp[yZ];omega
theorem Wd:∀{ps:List (Pl×aij)}{s:List (Pl×aij)×List Ln},((s.1++ps).map (·.1)).Nodup->(ps.foldl wJ s).1=s.1++ps
 |[],s,_=>by simp|q::ps,s,h=>by
  have hq:(s.1.any λe=>e.1==q.1)=false:=by grind
  have hs:(wJ s q).1=s.1++[q]:=by unfold wJ;grind
  rw[Ap,Wd (by rw[hs];simpa using h),hs];simp
structure qn (n:Nat)(P:List (List Pr)):Prop where
 eight:P.length=8fY:∀l∈P,rP l
 rows:∀q∈zZ (fm 0 P),lC q.1.1 q.1.2 q.2=true
 len:(zZ (fm 0 P)).length<=n
theorem xc3{data:aij}(h:lC p.1 p.2 data):data.length<=20000:=by obtain⟨h1,h2⟩:=U5 h;obtain⟨tn,T,_,hT,hm⟩:=h1.jl;have hL:=Gk ((by decide:∀T∈bI,T.bP.length<=20) T (by grind)) h1.ok hm;have:=Km hL (eO bI (dY p.1).1 data).1.length;rw[show pw (eO bI (dY p.1).1 data).1 (eO bI (dY p.1).1 data).1.length=data from h2]at this;omega
theorem wv0:qn 0 [[],[],[],[],[],[],[],[]]:=⟨rfl,λl hl=>by
  have:l=[]:=by simp_all
  subst this;exact List.Pairwise.nil,dc,dc⟩
theorem qn.vs{n:Nat}{P:List (List Pr)}(h:qn n P)(hn:n<=7500):(fm 0 P).length=8/\(∀x∈fm 0 P,x.1<1000/\x.2.length<=7500/\∀q∈x.2,q.2.length<=cu)/\((fm 0 P).map (·.1)).Nodup/\(zZ (fm 0 P)).length<=7500:=by
 refine⟨by rw[Lh];exact h.eight,λx hx=>?_,Wa _ _,Ao h.len hn⟩;obtain⟨h1,h2,h3⟩:=Li hx;rw[h.eight]at h2;refine⟨om,?_,λq hq=>?_⟩
 .have:(iN x.1 x.2).Sublist (zZ (fm 0 P)):=by unfold zZ;obtain⟨A,B,e⟩:=List.append_of_mem hx;grind
  have h4:=this.length_le;have h5:(iN x.1 x.2).length=x.2.length:=by simp[iN]
  have:=h.len;omega
 .have hm:(((x.1:Int),q.1),q.2)∈zZ (fm 0 P):=List.mem_flatMap.2 ⟨x,hx,Aa.2 (by grind)⟩;have:=xc3 (p:=((x.1:Int),q.1)) (h.rows _ hm);grind
theorem qn.step{n:Nat}{P:List (List Pr)}(h:qn n P)(hl:mO df):qn (n+240) (pM P (if(ee df (yI (fm 0 P))).1.1≠0then[]else kE (gj (yI (fm 0 P)) (ee df (yI (fm 0 P))).2))):=by
 by_cases e0:(ee df (yI (fm 0 P))).1.1≠0;.rw[ahP e0];exact⟨h.eight,h.fY,h.rows,by show(zZ (fm 0 P)).length<=_;have:=h.len;omega⟩
 rw[ahO e0];obtain⟨m,hT⟩:=Gt (fm 0 P);have af:((zZ (fm 0 P)).map (·.1)).Nodup:=(Pq h.fY).nodup;have aj:((zZ (fm 0 P)).foldl wJ ([],[])).1=zZ (fm 0 P):=by rw[Wd (sU af)];rfl
 obtain⟨dy,hw⟩:=eX (yI (fm 0 P));have aa:cE m.2.1 dy:=by rw[<-hw];exact hT.now
 have ak:pL dy:=by rw[<-hw];exactλx hx=>⟨hT.now.rows x hx,(hT.lines x hx).1⟩
 have ar:dy.length<=(zZ (fm 0 P)).length:=by rw[<-hw];exact hT.len
 have ad:∀q∈zZ (fm 0 P),∃x∈dy,x.at=q.1/\yK x.v=q.2:=λq hq=>by rw[<-hw];exact hT.rows q (by grind) (h.rows q hq)
 rw[hw]at e0⊢;obtain⟨now,hN⟩:=eX ((ee df dy).2);obtain⟨⟨b',ab⟩,hk,hlen⟩:=Lg hl aa ak (sU e0);rw[hN]at ab hk hlen⊢;have al:=V3 aa.rows ab.rows aa.fY ab.fY rfl;have ae:=(KX aa.fY ab.fY).2;unfold kE;rw[V6 P _ [] (λw hw=>by rcases al w hw with h|h|h|h<;>omega)];show qn (n+240) ((gj dy now).foldl (λP w=>mZ w.p.1 P w) P);have ag:∀q∈zZ (fm 0 ((gj dy now).foldl (λP w=>mZ w.p.1 P w) P)),∃x∈now,(x.at,yK x.v)=q:=λq hq=>by
  rcases V7 (λw hw=>by rw[h.eight];grind) (xA1 hq)with⟨w,an,h1,h2,h3⟩|⟨h1,h2⟩;.rcases(ae w).1 an with⟨g1,_⟩|⟨_,x,hx,g2,g3,_⟩;all_goals grind
  .obtain⟨y,hy,au,av⟩:=ad q (xv7 h2);have ao:fT now q.1:=by cases e:fT now q.1with |true=>rfl|false=>exact absurd rfl (h1 ⟨q.1,true,[]⟩ ((ae _).2 (.inl (by grind))))
   obtain⟨x,hx,aq⟩:=Aa.1 (fj.1 ao);by_cases e:yK x.v=q.2;.grind
   .refine absurd aq (h1 ⟨x.at,false,yK x.v⟩ ((ae _).2 (.inr ⟨rfl,x,hx,rfl,rfl,λz hz aw e2=>e ?_⟩)));have ax:z=y:=by
     have ay:=aa.fY.nodup;obtain⟨i,hi,rfl⟩:=List.getElem_of_mem hz;obtain⟨j,hj,rfl⟩:=List.getElem_of_mem hy;have az:i=j:=by
      have h1:(dy.map Ln.at)[i]'(by grind)=(dy.map Ln.at)[j]'(by grind):=by grind
      grind[List.getElem_inj]
     grind
    grind
 have ah:=V8 (ws:=gj dy now) h.fY;refine⟨by rw[V9];exact h.eight,ah,λq hq=>?_,?_⟩;.obtain⟨x,hx,rfl⟩:=ag q hq;exact(hk x hx).2
 .have ai:(zZ (fm 0 ((gj dy now).foldl (λP w=>mZ w.p.1 P w) P))).Nodup:=(Cv.1 (Pq ah).nodup).imp (by grind);have hle:=ai.length_le_of_subset (l₂:=now.map λx=>(x.at,yK x.v)) (by grind);rw[Bq]at hle;have:=h.len;omega
theorem We{T:bH}{row:List bF}:∀{l:List bG}{acc:List bF},(dJ T row l acc).1.length<=acc.length+l.length
 |[],acc=>by grind[dJ]|e::l,acc=>by
  rw[dJ];split;.simp
  .refine Ao We ?_;simp;omega
theorem Ps{T:bH}{l:List Ln}:∀{xs:List cJ}{acc:List bF},(lB T l xs acc).1.length<=acc.length+xs.length
 |[],acc=>by grind[lB]|x::xs,acc=>by
  rw[lB];split
  .split;.simp
   .refine Ao Ps ?_;simp;omega
  .refine Ao Ps ?_;simp;omega
def lZ (N:Nat)(rs:List (List bF)):Prop:=rs.length<=N/\∀r∈rs,r.length<=100
theorem Wf{T:bH}{items:List cJ}(hi:items.length<=100):∀{l:List Ln}{acc:List (List bF)}{N:Nat},(∀x∈l,x.v.length<=100)->lZ N acc->lZ (N+l.length) (mW T items l acc).1
 |[],acc,N,_,h=>by simpa|x::l,acc,N,hl,h=>by
  have aa:∀y∈l,y.v.length<=100:=(by grind);have step:∀r:List bF,r.length<=100->lZ (N+(x::l).length) (mW T items l (acc++[r])).1:=λr hr=>by
   have h2:lZ (N+1) (acc++[r]):=⟨by have:=h.1;grind,λy hy=>by
    rcases Ak.1 hy with hy|hy;.exact h.2 y hy
    grind⟩;have h3:=Wf hi aa h2 (T:=T);grind
  rw[mW];split;.grind
  .split;.exact⟨sm,sm⟩
   grind[We]
theorem we6 (hi:st.items.length<=100)(hl:∀x∈l,x.v.length<=100):lZ (1+l.length) (jz T st l).1.rows:=by
 have none_:lZ (1+l.length) []:=⟨sm,sm⟩;unfold jz;split
 .split;.omega
  .refine⟨sm,λr hr=>?_⟩;grind[Ps]
 .obtain⟨m,hm⟩:=eX (kC st.cG (if 0<=cq T st.order then nq (cq T st.order).toNat st.down l else l));rw[hm];simp only;have aa:(∀x∈m,x∈l)/\m.length<=l.length:=by
   have h0:∀k:List Ln,(∀x∈k,x∈l)/\k.length<=l.length->(∀x∈kC st.cG k,x∈l)/\(kC st.cG k).length<=l.length:=(by grind[kC]);rw[<-hm];refine h0 _ ?_;split;.exact⟨(by grind[K7]),by rw[(K7 _ _ _).length_eq];omega⟩
   simp
  split;.omega
  .have h:=Wf (T:=T) hi (l:=m) (acc:=[]) (N:=0) (by grind) (by trivial);exact⟨by have:=h.1;grind,h.2⟩
theorem xH7 (aa:gR st)(hl:∀x∈l,x.v.length<=100):lZ (1+l.length) (kM st l).1.rows:=by
 have none_:lZ (1+l.length) []:=⟨sm,sm⟩;unfold kM;simp only;split;.grind
 split;.omega
 split;.have h:=we6 (T:=bI.getD (ir st.table).toNat eC) (st:=st) (l:=(fb (ir st.table).toNat (bI.getD (ir st.table).toNat eC) st l).1) (by have:=aa.items.1;omega) (λx hx=>hl x (Ig x hx).1);have hlen:=Vs (t:=((ir st.table).toNat:Int)) (T:=bI.getD (ir st.table).toNat eC) (st:=st) (l:=l);exact⟨Ao h.1 om,h.2⟩
 grind
theorem Wg:∀{ss:List bQ}{i:Nat}{acc:List Ot}{b:Mp aij}{l:List Ln}{N:Nat},(∀x∈ss,rN x)->cE b l->l.length+20*ss.length<=N->(∀o∈acc,lZ (1+N) o.rows)->(∀o∈(kD ss i acc l).1.2.2,lZ (1+N) o.rows)/\(kD ss i acc l).1.2.2.length<=acc.length+ss.length
 |[],i,acc,b,l,N,_,_,_,ha=>by grind[kD]|x::ss,i,acc,b,l,N,hs,hn,hN,ha=>by
  rw[kD];have hx:=hs x (Ax ..);rw[Af]at hN;by_cases q:(kM x l).2.2≠0;.grind
  rw[ahO q];obtain⟨b',ab⟩:=Pm hx hn om;have hlen:=Lc (st:=x) (l:=l);have hr:=hx.ok.rows.1;have ho:=xH7 hx.ok (l:=l) (λy hy=>by have:=(Iv (hn.rows y hy)).2;omega);obtain⟨h1,h2⟩:=Wg (i:=i+1) (acc:=acc++[(kM x l).1]) (N:=N) (λy hy=>hs y (Bd _ hy)) ab om (λo aa=>by
   rcases Ak.1 aa with aa|aa;.grind
   .rw[Cu]at aa;subst aa;exact⟨by have:=ho.1;omega,ho.2⟩);grind
theorem xx6 (hl:mO df)(hn:cE b l)(hlen:l.length<=7500):(ee df l).1.2.2.length<=100000/\∀x∈(ee df l).1.2.2,x.rows.length<=100000/\∀r∈x.rows,r.length<=100000:=by
 have aa:=hl.stmts.1;unfold ee;by_cases q:(mh df).2≠0;.grind
 rw[ahO q];obtain⟨h1,h2⟩:=Wg (ss:=df.stmts) (i:=0) (acc:=[]) (N:=10000) (by grind[Lb]) hn om sm;have h3:(kD df.stmts 0 [] l).1.2.2.length<=100000/\∀x∈(kD df.stmts 0 [] l).1.2.2,x.rows.length<=100000/\∀r∈x.rows,r.length<=100000:=⟨by grind,λx hx=>⟨by have:=(h1 x hx).1;omega,λr hr=>by have:=(h1 x hx).2 r hr;omega⟩⟩;grind
theorem wa5{N:Nat}{out:List (Int×List Wr)}(h:out.length<=N/\∀q∈out,q.2.length<=N):(gx out w).length<=N+1/\∀q∈gx out w,q.2.length<=N+1:=by grind[gx,List.mem_of_getLast?,List.dropLast_subset]
theorem Wh:∀{l:List Wr}{out:List (Int×List Wr)}{N:Nat},out.length<=N/\(∀q∈out,q.2.length<=N)->(l.foldl gx out).length<=N+l.length/\∀q∈l.foldl gx out,q.2.length<=N+l.length
 |[],out,N,h=>(by grind)|w::l,out,N,h=>by have h2:=Wh (l:=l) (wa5 (w:=w) h);grind
theorem xG3 (dy now:List Ln):(gj dy now).length<=dy.length+now.length:=by
 have hf:∀(f:Ln->Wr)(m:List Ln)(l:List Wr),(m.foldl (λl x=>gi l (f x)) l).length=l.length+m.length:=λf m=>by induction m with |nil=>simp|cons x m ih=>intro l;rw[Ap,ih,(OU _ _).length_eq,Af,Af];omega
 unfold gj;rw[hf (λx=>⟨x.at,false,yK x.v⟩),hf (λx=>⟨x.at,true,[]⟩)];grind
def oP (df:dR)(dy:List Ln):List (Int×List Wr):=if(ee df dy).1.1≠0then[]else kE (gj dy (ee df dy).2)
theorem Wi (hl:mO df)(hn:cE b l)(hk:pL l)(hlen:l.length<=7500):(oP df l).length<=100000/\∀q∈oP df l,q.2.length<=100000:=by
 unfold oP;by_cases q:(ee df l).1.1≠0;.grind
 rw[ahO q];obtain⟨_,_,h⟩:=Lg hl hn hk om;have h2:=xG3 l (ee df l).2;have h3:=Wh (l:=gj l (ee df l).2) (out:=[]) (N:=0) sm;grind[kE]
def ox:Nat->Nat->aij->aij|0,_,acc=>acc|f+1,u,acc=>if u=0then acc else ox f (u/10) ((48+UInt8.ofNat (u%10))::acc)
def oy (n:Nat):aij:=if n=0then[48]else ox 20 n []
theorem xH5 (r:Nat)(h:r<10):((48:UInt8)::List.take r [49,50,51,52,53,54,55,56,57]).drop r=[(48+UInt8.ofNat r)]:=by have:r=0\/r=1\/r=2\/r=3\/r=4\/r=5\/r=6\/r=7\/r=8\/r=9:=om;rcases this with rfl|rfl|rfl|rfl|rfl|rfl|rfl|rfl|rfl|rfl<;>rfl
theorem Wj:∀(f u:Nat)(acc:aij),(ox f u acc).length<=f+acc.length
 |0,u,acc=>by rw[ox];omega|f+1,u,acc=>by
  rw[ox];split;.omega
  .have:=Wj f (u/10) ((48+UInt8.ofNat (u%10))::acc);simp only[Af]at this;omega
theorem Wk (n:Nat):(oy n).length<=20:=by
 unfold oy;split;.decide
 .have:=Wj 20 n [];simpa using this
theorem Wl (n:Nat)(hn:n<=9223372036854775807):Pure prog 27 [.int .i64 n] (.str (oy n)):=by
 generalize hM:oy n=M;unfold oy at hM;have ret:∀(r:aij)(U:St),r=M->bW (some (.str r)) 0 (λr s=>r=.str M/\s=[]) U:=λr U h=>by subst h;exact wR
 refine iV 0 func27 ntmps27 results27 λc hc hb=>?_;refine zA ?_;simp[go_sem];by_cases q0:n=0;.rw[ahP q0]at hM;simp[go_sem,q0];exact ret _ _ hM
 rw[ahO q0]at hM;have ae:((n:Int)==0)=false:=sU q0;have ab:decide ((n:Int)<0)=false:=ahQ om;have eu:IntKind.u64.wrap (n:Int)=(n:Int):=Vx.cC om om;simp[go_sem,ae,ab,eu];refine zG (S:=Nat×aij) [0,3,4] (λu=>[.int .i64 n,.int .u64 (u.1:Int),.str u.2]) (λ_=>[]) (λu=>u.1) (λu=>u.1<=n/\∃f,u.1<10^f/\u.2.length+f<=20/\ox f u.1 u.2=M) hc hb (n,[]) ⟨A6 _,20,by simp only;omega,sm,hM⟩ ?_ ?_;.exact aO
 rintro⟨u,s⟩⟨hu,f,hf,hs,hinv⟩;simp only at hu hf hs hinv;by_cases q:u=0
 .subst q;have hinv:s=M:=by rw[<-hinv];cases f with |zero=>rfl|succ f=>rw[ox,ahP rfl]
  refine zA ?_;simp[go_sem,ab];exact ret _ _ hinv
 obtain⟨f,rfl⟩:∃g,f=g+1:=by cases f with |zero=>simp at hf;omega|succ f=>exact⟨f,rfl⟩
 rw[ox,ahO q]at hinv;have hq:0<u:=om;have er:(u:Int).tmod 10=((u%10:Nat):Int):=by rw[D2 om];omega
 have aa:IntKind.u64.wrap (((u%10:Nat):Int)+1)=((u%10+1:Nat):Int):=by rw[Vx.cC om om];omega
 have af:(u:Int).tdiv 10=((u/10:Nat):Int):=by rw[D1 om];omega
 have ed:IntKind.u64.wrap ((u:Int).tdiv 10)=((u/10:Nat):Int):=by rw[D1 om,Vx.cC om om];omega
 have ad:=xH5 (u%10) (Ci _ dc);obtain⟨r,hr⟩:=eX (u%10);have ah:r<10:=om;rw[hr]at er aa ad hinv;have ag:IntKind.u64.wrap ((u:Int)/10)=(u:Int)/10:=Vx.cC om om;have ai:((r:Int)).toNat=r:=Ai r;have aj:((r+1:Nat):Int).toNat=r+1:=Ai _;refine zA ?_;simp only[Int.natCast_add,Bn]at aa;simp[go_sem,hq,er,aa];refine zF om ?_;simp[go_sem,ad];refine zF om ?_;simp[go_sem,af,ag];refine zH (u/10,(48+UInt8.ofNat r)::s) ⟨by simp only;omega,⟨by simp only;omega,f,by simp only;rw[E0]at hf;omega,by simp;omega,hinv⟩,?_⟩;exact aO
theorem Lj (k n:Int)(hk:dq k)(h1:1<=n)(h2:n<=1000):Pure prog 80 [.int .i64 k,.int .i64 n] (.int .i64 (k%n)):=by
 obtain⟨ae,af⟩:=hk;have q1:decide (n<1)=false:=ahQ om;have q0:¬n<1:=om;have qz:¬n=0:=om;have he:=E4 k (b:=n) om;have hl:=Dw k (b:=n) om;have ht:=Int.tmod_eq_emod (a:=k) (b:=n);obtain⟨r,hr⟩:=eX (k%n);obtain⟨t,ab⟩:=eX (k.tmod n);rw[hr]at he hl ht⊢;rw[ab]at ht;have ag:((n.natAbs:Nat):Int)=n:=om;have ad:t=r\/t=r-n:=by
  split at ht;.left;omega
  .right;omega
 have et:IntKind.i64.wrap t=t:=bR om om;have er:IntKind.i64.wrap r=r:=bR om om;have ret:∀(v:Int)(U:St),v=r->bW (some (.int .i64 v)) 0 (λr' s=>r'=.int .i64 r/\s=[]) U:=λv U h=>by subst h;exact wR
 refine iV 0 func80 ntmps80 results80 λc hc hb=>?_;refine zA ?_;simp[go_sem,q0];refine zF qz ?_;simp[go_sem,ab];rcases ad with e|e;.have q2:decide (t<0)=false:=ahQ om;have aa:¬t<0:=om;simp[go_sem,aa];exact ret _ _ e
 .have q2:decide (t<0)=true:=ahR om;have aa:t<0:=om;have e3:t+n=r:=om;simp[go_sem,aa,e3,er];exact wR
def na (k:Int):aij:=if k.tmod 41=40then[57,50,50,51,51,55,50,48,51,54,56,53,52,55,55,53,56,48,55]else oy (k%12).toNat
theorem Wm (k:Int):(na k).length<=20:=by
 unfold na;split;.decide
 .exact Wk _
def wu1:aij:=[57,50,50,51,51,55,50,48,51,54,56,53,52,55,55,53,56,48,55]
def Iz:List aij:=wu1::(List.range 12).map oy
theorem Wn (k:Int):na k∈Iz:=by
 unfold na;split;.exact Ax ..
 .exact Bd _ (Aa.2 ⟨(k%12).toNat,D4.2 om,rfl⟩)
theorem Wo (k:Int)(hk:dq k):Pure prog 81 [.int .i64 k] (.str (na k)):=by
 have hp:=Lj k 12 hk dc dc;have hd:=Wl (k%12).toNat om;rw[show(((k%12).toNat:Nat):Int)=k%12by omega]at hd;obtain⟨aa,ab⟩:=hk;have ht:=Int.tmod_eq_emod (a:=k) (b:=41);have et:IntKind.i64.wrap (k.tmod 41)=k.tmod 41:=by have:=E4 k (b:=41) dc;have:=Dw k (b:=41) dc;split at ht<;>exact bR om om
 generalize hM:na k=M;unfold na at hM;obtain⟨u,hu⟩:=eX (k.tmod 41);rw[hu]at et hM;clear ht;have ret:∀(v:aij)(U:St),v=M->bW (some (.str v)) 0 (λr' s=>r'=.str M/\s=[]) U:=λv U h=>by subst h;exact wR
 refine iV 0 func81 ntmps81 results81 λc hc hb=>?_;refine zA ?_;by_cases q:u=40;.rw[ahP q]at hM;have q':(u==40)=true:=sU q;simp[go_sem,hu,q'];exact ret _ _ hM
 .rw[ahO q]at hM;have q':(u==40)=false:=sU q;simp[go_sem,hu,q'];refine pC hp ?_;simp[go_sem];refine pC hd ?_;simp[go_sem];exact ret _ _ hM
def Wp:List aij:=[[39,97,39],[39,98,39],[39,99,39],[39,100,39],[39,101,39]]
theorem wn3 (k:Int)(hk:dq k):∃t:aij,t.length<=20/\Pure prog 82 [.int .i64 k] (.str t)/\t∈Wp:=by
 have hp:=Lj k 5 hk dc dc;have h0:=E4 k (b:=5) dc;have h1:=Dw k (b:=5) dc;obtain⟨r,hr⟩:=eX (k%5);rw[hr]at hp h0 h1;have:r=0\/r=1\/r=2\/r=3\/r=4:=om;have walk:∀r:Int,(r=0\/r=1\/r=2\/r=3\/r=4)->Pure prog 80 [.int .i64 k,.int .i64 5] (.int .i64 r)->Pure prog 82 [.int .i64 k] (.str [39,97+UInt8.ofNat r.toNat,39]):=λr aa hp=>by refine iV 0 func82 ntmps82 results82 λc hc hb=>?_;refine zA ?_;simp[go_sem];refine pC hp ?_;rcases aa with rfl|rfl|rfl|rfl|rfl;all_goals simp[go_sem];refine zF (λx hx=>⟨_,Cu.1 hx⟩) ?_;simp[go_sem,pW];exact wR
 exact⟨_,sm,walk r this hp,by rcases this with rfl|rfl|rfl|rfl|rfl<;>decide⟩
def Wq:List aij:=[[84,82,85,69],[70,65,76,83,69]]
theorem xU3 (k:Int)(_hk:dq k):∃t:aij,t.length<=20/\Pure prog 83 [.int .i64 k] (.str t)/\t∈Wq:=by
 have ht:=Int.tmod_eq_emod (a:=k) (b:=2);have et:IntKind.i64.wrap (k.tmod 2)=k.tmod 2:=by have:=E4 k (b:=2) dc;have:=Dw k (b:=2) dc;split at ht<;>exact bR om om
 obtain⟨u,hu⟩:=eX (k.tmod 2);rw[hu]at et;clear ht;by_cases q:u=0;.refine⟨[84,82,85,69],dc,?_,dc⟩;have q':(u==0)=true:=sU q;refine iV 0 func83 ntmps83 results83 λc hc hb=>?_;refine zA ?_;simp[go_sem,hu,q'];exact wR
 .refine⟨[70,65,76,83,69],dc,?_,dc⟩;have q':(u==0)=false:=sU q;refine iV 0 func83 ntmps83 results83 λc hc hb=>?_;refine zA ?_;simp[go_sem,hu,q'];exact wR
def Ws:List aij:= [[48],[49]]
def Gv (r n g v b:aij):Nat->aij|0=>[73,78,83,69,82,84,32,73,78,84,79,32,84,32,86,65,76,85,69,83,32,40]++r++[44,32]++n++[44,32,39,118]++v++[39,44,32]++v++[41]|1=>[73,78,83,69,82,84,32,73,78,84,79,32,84,32,86,65,76,85,69,83,32,40]++r++[44,32]++n++[44,32,39,118]++v++[39,44,32]++v++[41]|2=>[73,78,83,69,82,84,32,73,78,84,79,32,71,32,86,65,76,85,69,83,32,40]++g++[44,32]++v++[44,32,78,85,76,76,41]|3=>[85,80,68,65,84,69,32,84,32,83,69,84,32,78,32,61,32,78,32,43,32]++v++[32,87,72,69,82,69,32,75,32,61,32]++n|4=>[85,80,68,65,84,69,32,84,32,83,69,84,32,78,32,61,32]++v++[44,32,86,32,61,32,39,120,39,32,87,72,69,82,69,32,82,32,61,32]++r++[32,65,78,68,32,75,32,62,61,32]++n|5=>[85,80,68,65,84,69,32,71,32,83,69,84,32,78,32,61,32,78,32,42,32]++v++[32,87,72,69,82,69,32,75,32,61,32]++g|6=>[68,69,76,69,84,69,32,70,82,79,77,32,84,32,87,72,69,82,69,32,75,32,60,32]++v|7=>[68,69,76,69,84,69,32,70,82,79,77,32,71,32,87,72,69,82,69,32,75,32,61,32]++g|8=>[83,69,76,69,67,84,32,42,32,70,82,79,77,32,84]|9=>[83,69,76,69,67,84,32,75,44,32,78,32,43,32,49,32,70,82,79,77,32,84,32,87,72,69,82,69,32,82,32,61,32]++r++[32,79,82,68,69,82,32,66,89,32,78,32,68,69,83,67,32,76,73,77,73,84,32]++v|10=>[83,69,76,69,67,84,32,42,32,70,82,79,77,32,71]|11=>[83,69,76,69,67,84,32,67,79,85,78,84,40,42,41,44,32,83,85,77,40,78,41,32,70,82,79,77,32,84,32,87,72,69,82,69,32,75,32,60,62,32]++n|12=>[83,69,76,69,67,84,32,42,32,70,82,79,77,32,71,32,87,72,69,82,69,32,75,32,61,32]++g|13=>[73,78,83,69,82,84,32,73,78,84,79,32,72,32,86,65,76,85,69,83,32,40]++b++[44,32]++v++[41]|14=>[85,80,68,65,84,69,32,72,32,83,69,84,32,78,32,61,32,78,32,45,32]++v|15=>[83,69,76,69,67,84,32,83,85,77,40,78,32,47,32]++v++[41,32,70,82,79,77,32,72]|16=>[73,78,83,69,82,84,32,73,78,84,79,32,84,32,86,65,76,85,69,83,32,40]++r++[44,32]++n++[44,32,78,85,76,76,44,32]++v++[41,44,32,40,49,44,32]++v++[44,32,39,116,119,111,39,44,32,78,85,76,76,41]|17=>[83,69,76,69,67,84,32,78,32,70,82,79,77,32,84,32,87,72,69,82,69,32,75,32,61,32]++n|18=>[85,80,68,65,84,69,32,71,32,83,69,84,32,78,32,61,32,78,32,43,32,49,44,32,66,32,61,32,78,32,62,32]++v|_=>[83,69,76,69,67,84,32,86,32,70,82,79,77,32,84,32,87,72,69,82,69,32,78,32,73,83,32,78,85,76,76,32,79,82,32,75,32,62,61,32]++n++[32,79,82,68,69,82,32,66,89,32,86]
theorem wf2{r n g v b:aij}(hr:r.length<=20)(hn:n.length<=20)(hg:g.length<=20)(hv:v.length<=20)(hb:b.length<=20)(k:Nat):(Gv r n g v b k).length<=300:=by unfold Gv;split<;>simp<;>omega
def Wt (t:aij):Prop:=∃r∈Ws,∃n∈Iz,∃g∈Wp,∃v∈Iz,∃b∈Wq,∃w<20,t=Gv r n g v b w
theorem Wu (a:fh)(ha:a.ok):∃t:aij,t.length<=300/\Pure prog 37 [.agg a.row] (.str t)/\Wt t:=by
 have hw:=Lj a.lK 20 ha.lK dc dc;have ag:=Lj a.a 2 ha.a dc dc;have ad:=Wl (a.a%2).toNat om;rw[show(((a.a%2).toNat:Nat):Int)=a.a%2by omega]at ad;have ah:=Wo a.b ha.b;have ai:=Wo a.c ha.c;obtain⟨g,au,hg,aj⟩:=wn3 a.b ha.b;obtain⟨tr,av,ht,ak⟩:=xU3 a.a ha.a;have h0:=E4 a.lK (b:=20) dc;have h1:=Dw a.lK (b:=20) dc;obtain⟨w,al⟩:∃w:Nat,a.lK%20=w:=⟨(a.lK%20).toNat,om⟩;have ae:w<20:=om;rw[al]at hw;clear al h0 h1;obtain⟨r,hr⟩:=eX (oy (a.a%2).toNat);have aw:r.length<=20:=by rw[<-hr];exact Wk _
 rw[hr]at ad;have af:r∈Ws:=by have:(a.a%2).toNat=0\/(a.a%2).toNat=1:=om;rcases this with h|h<;>rw[<-hr,h]<;>decide
 obtain⟨rm,an⟩:=eX (a.a%2);rw[an]at ag ad;clear hr an;obtain⟨n,hn⟩:=eX (na a.b);have ax:n.length<=20:=by rw[<-hn];exact Wm _
 rw[hn]at ah;have ao:n∈Iz:=by rw[<-hn];exact Wn _
 clear hn;obtain⟨v,hv⟩:=eX (na a.c);have ay:v.length<=20:=by rw[<-hv];exact Wm _
 rw[hv]at ai;have aq:v∈Iz:=by rw[<-hv];exact Wn _
 clear hv ha;obtain⟨wh,aa,ab,ac⟩:=a;simp only at hw ag ah ai hg ht;refine⟨Gv r n g v tr w,wf2 aw ax au ay av w,?_,r,af,n,ao,g,aj,v,aq,tr,ak,w,ae,rfl⟩;clear af ao aj aq ak;obtain⟨M,hM⟩:=eX (Gv r n g v tr w);rw[hM];have ret:∀(x:aij)(U:St),x=M->bW (some (.str x)) 0 (λr s=>r=.str M/\s=[]) U:=λx U h=>by subst h;exact wR
 refine iV 0 func37 ntmps37 results37 λc hc hb=>?_;refine zA ?_;simp[go_sem];refine yB [(2,0),(3,0),(6,0),(9,0)] 1 rfl kR kR ?_;simp[go_sem];refine pD ag ?_;simp[go_sem];refine pD ad ?_;simp[go_sem];refine pD ah ?_;simp[go_sem];refine pD hg ?_;simp[go_sem];refine pC ai ?_;simp[go_sem];refine pC hw ?_;have ar:w=0\/w=1\/w=2\/w=3\/w=4\/w=5\/w=6\/w=7\/w=8\/w=9\/w=10\/w=11\/w=12\/w=13\/w=14\/w=15\/w=16\/w=17\/w=18\/w=19:=om;clear hw ae;rcases ar with rfl|rfl|rfl|rfl|rfl|rfl|rfl|rfl|rfl|rfl|rfl|rfl|rfl|rfl|rfl|rfl|rfl|rfl|rfl|rfl;all_goals
  simp[go_sem];try(refine pC ht ?_;simp[go_sem])
  repeat(refine zF (by first|omega|(simp;omega)) ?_;simp[go_sem])
  exact ret _ _ (by rw[<-hM];simp[Gv])
end Go.Proofs.YtefbicjgbaaieaaGreat
namespace Go.Proofs.YtefbicjgbaaieaaGreat
open Go Go.Vx R Go.Proofs.Tryz
set_option maxRecDepth 100000
open Classical in
noncomputable def pO (a:fh):aij:=if h:a.ok then Classical.choose (Wu a h)else[]
theorem Wv{a:fh}(h:a.ok):(pO a).length<=300/\Pure prog 37 [.agg a.row] (.str (pO a))/\Wt (pO a):=by unfold pO;rw[dif_pos h];exact Classical.choose_spec (Wu a h)
noncomputable def vu:List fh->Nat->aij->aij |[],_,s=>s|a::l,i,s=>if i<3then vu l (i+1) ((if 0<i then s++[59,32]else s)++pO a)else s
theorem Ww:∀{l:List fh}{i:Nat}{s:aij},(∀a∈l,a.ok)->i<=3->(vu l i s).length<=s.length+302*(3-i)
 |[],i,s,_,_=>by rw[vu];omega|a::l,i,s,h,hi=>by
  rw[vu];split
  .rename_i q;have ha:=(Wv (h a (Ax ..))).1;refine Ao (Ww (λx hx=>h x (Bd _ hx)) om) ?_;rw[Al];have:(if 0<i then s++[59,32]else s).length<=s.length+2:=by split<;>simp
   omega
  .omega
noncomputable def EK (l:List fh):aij:=if vu l 0 []=[]then[83,69,76,69,67,84,32,42,32,70,82,79,77,32,71]else vu l 0 []
theorem xC6{l:List fh}(h:∀a∈l,a.ok):(EK l).length<=2000:=by
 unfold EK;have:=Ww (s:=[]) h (A3 3);split;.decide
 .simp at this;omega
theorem wr2 (l:List fh)(_hl:l.length<=maxLen)(cK:∀a∈l,a.ok):Pure prog 15 [.sl .ro (l.map fh.row),.int .i64 0,.int .i64 0] (.str (EK l)):=by
 obtain⟨M,hM⟩:=eX (EK l);rw[hM];unfold EK at hM;obtain⟨T,hT⟩:=eX (vu l 0 []);rw[hT]at hM;have ret:∀(x:aij)(U:St),x=M->bW (some (.str x)) 0 (λr s=>r=.str M/\s=[]) U:=λx U h=>by subst h;exact wR
 refine iV 0 func15 ntmps15 results15 λc hc hb=>?_;refine zA ?_;simp[go_sem];refine zG (S:=Nat×aij) [0,1,7,8] (λu=>[.sl .ro (l.map fh.row),.int .i64 0,.str u.2,.int .i64 u.1]) (λ_=>[]) (λu=>l.length-u.1) (λu=>u.1<=l.length/\u.1<=3/\u.2.length<=302*u.1/\vu (l.drop u.1) u.1 u.2=T) hc hb (0,[]) ⟨A3 _,A3 _,A3 _,hT⟩ ?_ ?_;.exact aO
 rintro⟨i,s⟩⟨hi,af,hs,hinv⟩;simp only at hi af hs hinv;by_cases q:i<l.length/\i<3;rotate_left
 .have ab:s=T:=by
   by_cases q1:i<l.length;.rw[A2 q1,vu,ahO om]at hinv;exact hinv
   .rw[A4 om]at hinv;exact hinv
  refine zA ?_;by_cases q1:i<l.length
  .have q3:¬i<3:=om;have ad:decide ((i:Int)<3)=false:=ahQ om;simp[go_sem,q1,ad];by_cases q0:s=[];.have aa:s.isEmpty:=sU q0;rw[ahP (by rw[<-ab];exact q0)]at hM;simp[go_sem,aa];exact ret _ _ hM
   .have aa:s.isEmpty=false:=sU q0;rw[ahO (by rw[<-ab];exact q0)]at hM;simp[go_sem,aa];exact ret _ _ (by rw[ab];exact hM)
  .simp[go_sem,q1];by_cases q0:s=[];.have aa:s.isEmpty:=sU q0;rw[ahP (by rw[<-ab];exact q0)]at hM;simp[go_sem,aa];exact ret _ _ hM
   .have aa:s.isEmpty=false:=sU q0;rw[ahO (by rw[<-ab];exact q0)]at hM;simp[go_sem,aa];exact ret _ _ (by rw[ab];exact hM)
 obtain⟨q1,q3⟩:=q;have ei:=zR q3 om;have ad:decide ((i:Int)<3)=true:=ahR om;obtain⟨a,ha⟩:=eX (l[i]);obtain⟨ag,ae,_⟩:=Wv (cK a (ha▸A7 q1));rw[A2 q1,ha,vu,ahP q3]at hinv;by_cases q0:0<i;.have aa:decide (0<(i:Int))=true:=ahR om;rw[ahP q0]at hinv;refine zA ?_;simp[go_sem,q1,ad,q0];refine zF (by first|omega|(simp;omega)) ?_;simp[go_sem,q1,ha];refine pC ae ?_;simp[go_sem];refine zF (by first|omega|(simp;omega)) ?_;simp[go_sem,ei];exact zH (i+1,s++[59,32]++pO a) ⟨by show l.length-(i+1)<l.length-i;omega,⟨q1,q3,by simp;omega,hinv⟩,aO⟩
 .have aa:decide (0<(i:Int))=false:=ahQ om;rw[ahO q0]at hinv;refine zA ?_;simp[go_sem,q1,ad,q0];simp[go_sem,ha];refine pC ae ?_;simp[go_sem];refine zF (by first|omega|(simp;omega)) ?_;simp[go_sem,ei];exact zH (i+1,s++pO a) ⟨by show l.length-(i+1)<l.length-i;omega,⟨q1,q3,by simp;omega,hinv⟩,aO⟩
end Go.Proofs.YtefbicjgbaaieaaGreat
namespace Go.Proofs.YtefbicjgbaaieaaGreat
open Go Go.Vx R Go.Proofs.Tryz
set_option maxRecDepth 100000
variable {P:List (List Pr)}
def xY (P:List (List Pr)):List V:=P.map λl=>.sl .ro (l.map fJ)
theorem Wx{i:Nat}(h:i<P.length):(xY P)[i]?=some (.sl .ro ((P[i]).map fJ)):=by simp[xY,h]
theorem Pt (P:List (List Pr)):(xY P).length=P.length:=by simp[xY]
theorem Wy (P:List (List Pr))(h8:P.length=8):bL prog 16 [.ptr 0 0] [.box (xY P)] (λr s=>r=.sl .ro ((fm 0 P).map fZ)/\s=[.box (xY P)]):=by
 obtain⟨C,hC⟩:=eX (xY P);have ae:C.length=8:=by rw[<-hC,Pt,h8]
 have af:∀i,i<8->C[i]?=some (.sl .ro ((P.getD i []).map fJ)):=λi hi=>by rw[<-hC,Wx om,A9,A0 om];rfl
 have aa:∀n,bO n (.box C):=λn=>by rw[<-hC];simp[bO,cH,cF,xY]
 rw[hC];clear hC;refine iV 1 func16 ntmps16 results16 λc hc hb=>?_;refine zA ?_;simp[go_sem];refine wL 3 2 dc sg ?_;refine zG (S:=Nat×List Vw) [0,3,4] (λu=>[.ptr 0 0,.sl (.app 1) (u.2.map fZ),.int .i64 u.1]) (λu=>[.box C,.app u.2.length 2]) (λu=>8-u.1) (λu=>u.1<=8/\u.2=(fm 0 P).take u.1) hc hb (0,[]) ⟨A3 _,sm⟩ ?_ ?_;.exact aN 2 (by rw[Aq,aa];rfl)
 rintro⟨i,out⟩⟨hi,ho⟩;simp only at hi ho;by_cases q:i<8;rotate_left
 .have h2:out=fm 0 P:=by rw[ho];exact Ac (by rw[Lh];omega)
  have q':¬(i:Int)<8:=om;refine zA ?_;simp[go_sem,q'];exact qI 1 rfl (by simp[aa]) (A6 _) zP ⟨by rw[h2],rfl⟩
 have ag:out.length=i:=by rw[ho,Ct,Lh];omega
 have ei:=zR q om;have q':(i:Int)<8:=om;have ab:(fm 0 P)[i]?=some (i,P.getD i []):=by rw[Pp,A0 om,A9,A0 om];simp
 have ad:out++[(i,P.getD i [])]=(fm 0 P).take (i+1):=by rw[ho,Cn,ab];rfl
 obtain⟨p,hp⟩:=eX (P.getD i []);have hC:=af i q;rw[hp]at hC ad;rw[A0 om]at hC;have hC:=ai6 hC;refine zA ?_;simp[go_sem,q,q',hC,ae];refine zF ⟨om,zT rfl⟩ ?_;simp[go_sem,ei];exact zH (i+1,out++[(i,p)]) ⟨by show 8-(i+1)<8-i;omega,⟨q,ad⟩,aM 2 (by rw[Aq,aa];rfl) (zC (by simp[go_sem,fZ]) rfl)⟩
theorem xP3 (l:List Pr):xB (l.map fJ)=true:=by simp[xB,fJ,oz]
theorem xA3 (l:List Pr):gE (l.map fJ) 0 l.length=l.map fJ:=by unfold gE;rw[Au,Ac sm,B8];exact B6 λ_ _=>rfl
theorem xb4 (id:Nat)(rows:List (List V))(P:List (List Pr)):(xY P).map (iE id rows)=xY P:=by unfold xY;rw[B8];exact B6 λ_ _=>rfl
theorem xb5 (P:List (List Pr))(i:Nat)(l:List Pr)(h:i<P.length):(xY P).take i++.sl .ro (l.map fJ)::(xY P).drop (i+1)=xY (P.set i l):=by have h2:=List.set_eq_take_append_cons_drop (l:=xY P) (i:=i) (a:=V.sl .ro (l.map fJ));rw[ahP (by rw[Pt];exact h)]at h2;rw[<-h2];unfold xY;rw[E1]
theorem xC3 (P:List (List Pr))(h8:P.length=8)(ad:∀l∈P,l.length<=10000)(qs:List (Int×List Wr))(hq:qs.length<=100000)(hw:∀q∈qs,q.2.length<=100000):bL prog 17 [.ptr 0 0,.sl .ro (qs.map eD)] [.box (xY P)] (λr s=>r=.cm []/\s=[.box (xY (pM P qs))]):=by
 obtain⟨F,hF⟩:=eX (pM P qs);rw[hF];have ae:∀n (P:List (List Pr)),bO n (.box (xY P))=true:=λn P=>by simp[bO,cH,cF,xY]
 refine iV 1 func17 ntmps17 results17 λc hc hb=>?_;refine zA ?_;simp[go_sem];refine zG (S:=Nat×List (List Pr)) [0,1,4] (λu=>[.ptr 0 0,.sl .ro (qs.map eD),.int .i64 u.1]) (λu=>[.box (xY u.2)]) (λu=>qs.length-u.1) (λu=>u.1<=qs.length/\u.2.length=8/\(∀l∈u.2,l.length<=10000+100000*u.1)/\pM u.2 (qs.drop u.1)=F) hc hb (0,P) ⟨A3 _,h8,λl hl=>by have:=ad l hl;simp only;omega,hF⟩ ?_ ?_;.exact aN 1 (by rw[Aq,ae];rfl)
 rintro⟨i,P⟩⟨hi,h8,ad,hinv⟩;simp only at hi h8 ad hinv;by_cases q:i<qs.length;rotate_left
 .have h2:P=F:=by rw[A4 om]at hinv;exact hinv
  refine zA ?_;simp[go_sem,q];exact qI 1 rfl (by simp[ae]) (A6 _) (zD rfl) ⟨rfl,by rw[h2];rfl⟩
 have ei:=zR q om;obtain⟨⟨g,ws⟩,hx⟩:∃x,qs[i]=x:=⟨_,rfl⟩;have ak:=hw (g,ws) (hx▸A7 q);simp only at ak;rw[A2 q,hx]at hinv;change pM (Gu P (g,ws)) (qs.drop (i+1))=F at hinv;unfold Gu at hinv;simp only at hinv;by_cases qg:g<0\/8<=g
 .rw[ahP qg]at hinv;have fin:∀l∈P,l.length<=10000+100000*(i+1):=λl hl=>by have:=ad l hl;omega
  rcases Classical.em (g<0)with q0|q0;.have ah:decide (g<0)=true:=ahR q0;refine zA ?_;simp[go_sem,q,hx,eD,q0,ei];exact zH (i+1,P) ⟨by show qs.length-(i+1)<qs.length-i;omega,⟨q,h8,fin,hinv⟩,aN 1 (by rw[Aq,ae];rfl)⟩
  .have ah:decide (g<0)=false:=ahQ q0;have q8:8<=g:=om;have al:decide (8<=g)=true:=ahR q8;refine zA ?_;simp[go_sem,q,hx,eD,q0,q8,ei];exact zH (i+1,P) ⟨by show qs.length-(i+1)<qs.length-i;omega,⟨q,h8,fin,hinv⟩,aN 1 (by rw[Aq,ae];rfl)⟩
 rw[ahO qg]at hinv;obtain⟨gn,rfl⟩:∃gn:Nat,g=gn:=⟨g.toNat,om⟩;have ax:gn<8:=om;have q0:¬(gn:Int)<0:=om;have q8:¬8<=(gn:Int):=om;have ah:decide ((gn:Int)<0)=false:=ahQ q0;have al:decide (8<=(gn:Int))=false:=ahQ q8;refine zA ?_;simp[go_sem,q,hx,eD,ah,q8];refine zG (S:=Nat×List (List Pr)) [0,1,4,5] (λu=>[.ptr 0 0,.sl .ro (qs.map eD),.int .i64 i,.int .i64 u.1]) (λu=>[.box (xY u.2)]) (λu=>ws.length-u.1) (λu=>u.1<=ws.length/\u.2.length=8/\(∀l∈u.2,l.length<=10000+100000*i+u.1)/\pM ((ws.drop u.1).foldl (mZ gn) u.2) (qs.drop (i+1))=F) hc hb (0,P) ⟨A3 _,h8,ad,hinv⟩ ?_ ?_;.exact aN 1 (by rw[Aq,ae];rfl)
 rintro⟨k,P⟩⟨hk,h8,ad,hinv⟩;simp only at hk h8 ad hinv;by_cases qk:k<ws.length;rotate_left;.rw[A4 om,aid]at hinv;refine zA ?_;simp[go_sem,q,hx,eD,qk,ei];exact zH (i+1,P) ⟨by show qs.length-(i+1)<qs.length-i;omega,⟨q,h8,λl hl=>by have:=ad l hl;simp only;omega,hinv⟩,aN 1 (by rw[Aq,ae];rfl)⟩
 have ek:=zR qk om;obtain⟨⟨⟨wr,wk⟩,wd,wb⟩,hy⟩:∃x,ws[k]=x:=⟨_,rfl⟩;rw[A2 qk,hy,Ap]at hinv;obtain⟨p,hp⟩:=eX (P[gn]'om);have ay:=ad p (hp▸A7 _);have an:mZ gn P ⟨(wr,wk),wd,wb⟩=P.set gn (gJ wk wb wd p):=by unfold mZ Po;rw[Ai,A9,A0 om,hp];rfl
 rw[an]at hinv;have ao:(xY P).length=8:=by rw[Pt,h8]
 have aq:(xY P)[gn]'om=.sl .ro (p.map fJ):=by have:=Wx (P:=P) (i:=gn) om;rw[A0 om,hp]at this;exact ai6 this
 have ar:(xY P)[gn]?=some (.sl .ro (p.map fJ)):=by rw[A0 om,aq]
 have az:p.length<40000000000:=om;have af:∀a:List Pr,([.box (xY P),.box [.str wk,.bool wd,.str wb],.cj (a.map fJ) 2]:St).all (bO 3)=true:=λa=>by rw[Aq,ae,Ah];simp[bO,cH,cF,fJ]
 obtain⟨Z,hZ⟩:=eX (gJ wk wb wd p);rw[hZ]at hinv;have a1:Z.length<=p.length+1:=by rw[<-hZ,(Pn wk wb wd p).length_eq,Al];have:=Dk (λx:Pr=>!decide (x.1=wk)) p;split<;>simp<;>omega
 refine zN (zA ?_);simp[go_sem,q,hx,eD,qk];refine zN (pX (zN (zA ?_)));simp[go_sem,q,hx,eD,qk,hy,ji];refine zN (zA ?_);simp[go_sem];refine FH 7 2 dc sg ?_;refine zN (zA ?_);simp[go_sem];refine zN ?_;refine zN ?_;refine yB [] 3 rfl kR kR ?_;simp[go_sem,q,hx,eD];refine zF om ?_;simp[go_sem,ar];refine pX ?_;refine zG (S:=Nat×List Pr×Bool) [0,1,4,5,6,7,8,60,61,62] (λu=>[.ptr 0 0,.sl .ro (qs.map eD),.int .i64 i,.int .i64 k,.ptr 1 0,.cL 2 2 u.2.1.length 0 u.2.1.length,.bool u.2.2,.sl .ro (p.map fJ),.int .i64 p.length,.int .i64 u.1]) (λu=>[.box (xY P),.box [.str wk,.bool wd,.str wb],.cj (u.2.1.map fJ) 2]) (λu=>p.length-u.1) (λu=>u.1<=p.length/\u.2.1.length<=2*u.1/\u.2.1++gJ wk wb u.2.2 (p.drop u.1)=Z) hc hb (0,[],wd) ⟨A3 _,A3 _,hZ⟩ ?_ ?_;.exact aN 3 (by rw[Aq,ae];rfl)
 .rintro⟨j,acc,b⟩⟨hj,au,aa⟩;simp only at hj au aa;by_cases qj:j<p.length;rotate_left
  .rw[A4 om,gJ]at aa;refine zA ?_;simp[go_sem,qj];refine wM (S:=Unit) [0,1,4,5,7] (λ_=>[.ptr 0 0,.sl .ro (qs.map eD),.int .i64 i,.int .i64 k,.cL 2 2 Z.length 0 Z.length]) (λ_=>[.box (xY P),.box [.str wk,.bool wd,.str wb],.cj (Z.map fJ) 2]) (λ_=>True) hc hb ?_ ?_;.cases b with |true=>have hz:acc=Z:=sU aa;refine zA ?_;simp[go_sem];exact zH () ⟨tV,bT 3 (by simp[go_sem,hz]) rfl (af _) dc (zC (by simp[go_sem,hz]) rfl)⟩|false=>
     have hz:acc++[(wk,wb)]=Z:=sU aa;have av:Z.length=acc.length+1:=by rw[<-hz];simp
     refine zA ?_;simp[go_sem,Br];refine zF ⟨zT rfl,om⟩ ?_;simp[go_sem];exact zH () ⟨tV,bT 3 (by simp[go_sem,<-hz,fJ]) rfl (af _) dc (zC (by simp[go_sem,av]) rfl)⟩
   rintro _ _;refine sd 2 2 (Z.map fJ) rfl (xP3 Z) ?_;refine yB [] 3 (by simp[lk]) kR kR ?_;simp[go_sem,fr,iF,iE,ij,lk,sW,q,hx,eD,xA3,xb4];refine zF om ?_;have h7:gn<=7:=om;simp[go_sem,ao,h7,xb5 P gn Z om];have aj:∀l∈P.set gn Z,l.length<=10000+100000*i+(k+1):=λl hl=>by
    rcases List.mem_or_eq_of_mem_set hl with hl|rfl;.have:=ad l hl;omega
    .omega
   refine zA ?_;simp[go_sem,ek];exact zH (k+1,P.set gn Z) ⟨by show ws.length-(k+1)<ws.length-k;omega,⟨qk,by simp[h8],aj,hinv⟩,aN 1 (by rw[Aq,ae];rfl)⟩
  have ej:=zR qj om;obtain⟨⟨xk,xd⟩,ag⟩:∃x,p[j]=x:=⟨_,rfl⟩;rw[A2 qj,ag,gJ]at aa;simp only at aa;have fin:∀(ab:List Pr)(b':Bool),ab.length<=acc.length+2->ab++gJ wk wb b' (p.drop (j+1))=Z->p.length-(j+1)<p.length-j/\(j+1<=p.length/\ab.length<=2*(j+1)/\ab++gJ wk wb b' (p.drop (j+1))=Z):=λab b' h1 h2=>⟨om,qj,om,h2⟩;by_cases e:xk=wk;.subst e;rw[vi]at aa;have hn:(xk !=xk)=false:=sm;have hl:Op.bytesLess xk xk=false:=vi _;obtain⟨g1,g2⟩:=fin acc b om (sU aa);cases b with |true=>refine zA ?_;simp[go_sem,qj,ag,fJ,ej];exact zH (j+1,acc,true) ⟨g1,g2,aN 3 (af _)⟩|false=>refine zA ?_;simp[go_sem,qj,ag,fJ,hl,ej];exact zH (j+1,acc,false) ⟨g1,g2,aN 3 (af _)⟩
  have hn:(xk==wk)=false:=sU e;have a6:¬xk=wk:=e;rw[ahO e]at aa;have a7:∀ab:List Pr,ab.length<=2*p.length+2->(ab.length+1)*32<=140737488355328:=λ_ h=>by omega
  cases b with |true=>obtain⟨g1,g2⟩:=fin (acc++[(xk,xd)]) true sm (sU aa);refine zA ?_;simp[go_sem,qj,ag,fJ,hn,Br];refine zF ⟨zT rfl,om⟩ ?_;simp[go_sem,ej];exact zH (j+1,acc++[(xk,xd)],true) ⟨g1,g2,bT 3 (by simp[go_sem,fJ]) rfl (af _) dc (zC sg rfl)⟩|false=>
   by_cases hl:Op.bytesLess wk xk=true
   .rw[hl]at aa;obtain⟨g1,g2⟩:=fin (acc++[(wk,wb),(xk,xd)]) true sm (sU aa);have ai:Op.bytesLess xk wk=false:=by cases z:Op.bytesLess xk wk with |false=>rfl|true=>have:=tY _ _ _ hl z;rw[vi]at this;cases this
    refine zA ?_;simp[go_sem,qj,ag,fJ,hn,ai,Br];refine zF ⟨zT rfl,om⟩ ?_;simp[go_sem,hn,Br];refine zF ⟨zT rfl,om⟩ ?_;simp[go_sem,ej];exact zH (j+1,acc++[(wk,wb),(xk,xd)],true) ⟨g1,g2,bT 3 (by simp[go_sem,fJ]) rfl (af _) dc (zC sg rfl)⟩
   .have aw:Op.bytesLess wk xk=false:=sU hl;rw[aw]at aa;obtain⟨g1,g2⟩:=fin (acc++[(xk,xd)]) false sm (sU aa);have ai:Op.bytesLess xk wk:=by
     rcases xu xk wk with z|z|z;.exact z
     .exact absurd z e
     .exact absurd z hl
    refine zA ?_;simp[go_sem,qj,ag,fJ,hn,ai,Br];refine zF ⟨zT rfl,om⟩ ?_;simp[go_sem,ej];exact zH (j+1,acc++[(xk,xd)],false) ⟨g1,g2,bT 3 (by simp[go_sem,fJ]) rfl (af _) dc (zC sg rfl)⟩
theorem Pu:Pure prog 20 [] (cA bI):=by have aa:=xE0;refine iV 0 func20 ntmps20 results20 λc hc hb=>?_;refine zA ?_;simp[go_sem];refine pC aa ?_;simp[go_sem,Ev];exact zV (r:=cA bI) xS1 ⟨rfl,rfl⟩
def nb:aij:=[73,78,83,69,82,84,32,73,78,84,79,32,71,32,86,65,76,85,69,83,32,40,39,97,39,44,32,49,44,32,78,85,76,76,41,59,32,83,69,76,69,67,84,32,78,32,70,82,79,77,32,71]
theorem wu8:(ee (oH nb).1 []).1=(0,0,[⟨1,[]⟩,⟨0,[[⟨2,1,[]⟩]]⟩]):=kR
theorem Wz:(oP (oH nb).1 []).map (λq=>q.2.length)=[1]:=kR
theorem Pv (df:dR)(dy:List Ln):pJ df dy=.cm [.agg (fU (ee df dy).1),.sl .ro ((oP df dy).map eD)]:=rfl
theorem xu5:Pure prog 12 [] (.bool true):=by
 have hl:=NF nb dc;have hr:=Ph (oH nb).1 (NI nb) [] dc (λx hx=>by cases hx) dc;rw[Pv,show yI []=[]from rfl,wu8]at hr;obtain⟨q,hq⟩:∃q,oP (oH nb).1 []=[q]:=by have h:=Wz;cases e:oP (oH nb).1 []with |nil=>rw[e]at h;cases h|cons x l=>cases l with |nil=>exact⟨x,rfl⟩|cons y l=>rw[e]at h;simp at h
 have aa:q.2.length=1:=by have h:=Wz;rw[hq]at h;simpa using h
 rw[hq]at hr;obtain⟨L,hL⟩:=eX ((oH nb).1);rw[hL]at hl hr;obtain⟨g,ws⟩:=q;simp only at aa;have ab:=Pu;unfold nb at hl;refine iV 0 func12 ntmps12 results12 λc hc hb=>?_;refine zA ?_;simp[go_sem];refine pC ab ?_;simp[go_sem,cA];refine yB [(1,0),(2,0)] 1 rfl kR kR ?_;simp[go_sem];refine pD hl ?_;simp[go_sem];refine pD hr ?_;simp[go_sem,fU,Ot.row,eD,aa];exact wR
theorem wq7 (df:dR)(hl:mO df)(vs:List Vw)(an:vs.length<=10000)(al:(vs.map (·.1)).Nodup)(hv:∀x∈vs,x.1<1000/\x.2.length<=10000/\∀q∈x.2,q.2.length<=cu)(hN:(zZ vs).length<=7500):Pure prog 13 [.agg df.row,.sl .ro (vs.map fZ)] (.cm [.agg (fU (ee df (yI vs)).1),.sl .ro ((oP df (yI vs)).map eD),.bool true]):=by obtain⟨m,hT⟩:=Gt vs;have hlen:(yI vs).length<=(zZ vs).length:=hT.len;have aa:=Ph df hl vs om (λx hx=>⟨(hv x hx).1,by have:=(hv x hx).2.1;omega,(hv x hx).2.2⟩) hN;have ab:=xv3 df hl vs an al (λx hx=>(hv x hx).2) hN;rw[Pv]at aa ab;have ag:=wg5 vs om;obtain⟨ad,ae⟩:=xx6 hl hT.now (by show(yI vs).length<=7500;omega);obtain⟨af,ah⟩:=Wi hl hT.now (λx hx=>⟨hT.now.rows x hx,(hT.lines x hx).1⟩) (by show(yI vs).length<=7500;omega);change(ee df (yI vs)).1.2.2.length<=100000at ad;change∀x∈(ee df (yI vs)).1.2.2,_ at ae;change(oP df (yI vs)).length<=100000at af;change∀x∈oP df (yI vs),_ at ah;obtain⟨A,hA⟩:=eX ((ee df (yI vs)).1);obtain⟨uU,hU⟩:=eX (oP df (yI vs));rw[hA]at aa ab ad ae⊢;rw[hU]at aa ab af ah⊢;obtain⟨er,ix,outs⟩:=A;simp only at ad ae;have aj:=xR9 er ix outs ad ae;have ak:=xw9 uU af;have ao:=xh6 uU af ah;have aq:=Pu;clear hT hlen hA hU ad ae af ah hv hN al;obtain⟨ar,ai⟩:=eX (V.cm [.agg (fU (er,ix,outs)),.sl .ro (uU.map eD),.bool true]);rw[ai];refine iV 0 func13 ntmps13 results13 λc hc hb=>?_;refine zA ?_;simp[go_sem];refine pC aq ?_;simp[go_sem,cA];refine pC aa ?_;simp[go_sem,fU];refine yB [(3,0),(4,0)] 4 rfl kR kR ?_;simp[go_sem];refine pD ag ?_;simp[go_sem];refine pD ab ?_;simp[go_sem,fU];refine yB [(4,0),(7,0),(9,0)] 5 rfl kR kR ?_;simp[go_sem];refine pD aj ?_;simp[go_sem];refine pD ak ?_;simp[go_sem];refine pD ao ?_;simp[go_sem];exact zV (r:=ar) (by rw[<-ai];exact yJ ⟨xS ⟨zU rfl,zU rfl,yH,tV⟩,lJ,xJ rfl,tV⟩) ⟨rfl,rfl⟩
def IA (x:List fh):List V:=[.sl .ro (x.map fh.row)]
theorem qn.small{n:Nat}(h:qn n P)(hn:n<=7500):∀l∈P,l.length<=10000:=λl hl=>by
 obtain⟨i,hi,rfl⟩:=List.getElem_of_mem hl;have hm:(i,P[i])∈fm 0 P:=by refine B9 (i:=i) ?_;rw[Pp,A0 hi,Ab];rfl
 have:=((h.vs hn).2.1 _ hm).2.1;simp only at this;omega
theorem yY4{n:Nat}(h:qn n P)(hn:n<=7500){df:dR}(hl:mO df):(oP df (yI (fm 0 P))).length<=100000/\(∀q∈oP df (yI (fm 0 P)),q.2.length<=100000)/\qn (n+240) (pM P (oP df (yI (fm 0 P)))):=by obtain⟨m,hT⟩:=Gt (fm 0 P);have h1:=h.len;have hlen:(yI (fm 0 P)).length<=(zZ (fm 0 P)).length:=hT.len;obtain⟨aa,ab⟩:=Wi hl hT.now (λx hx=>⟨hT.now.rows x hx,(hT.lines x hx).1⟩) (by show(yI (fm 0 P)).length<=7500;omega);exact⟨aa,ab,h.step hl⟩
def P0:List (List Pr):=[[],[],[],[],[],[],[],[]]
theorem BP (n:Nat)(P:List (List Pr)):bO n (.box (xY P))=true:=by simp[bO,cH,cF,xY]
def pP (v:V):V:=fr 8 [] (fr 7 [] (fr 6 [] (fr 5 [] (fr 4 [] (fr 3 [] (fr 2 [] (fr 1 [] v)))))))
theorem xJ7 (id:Nat)(rows:List (List V))(k:IntKind)(x:Int):fr id rows (.int k x)=.int k x:=rfl
theorem xJ5 (k:IntKind)(x:Int):pP (.int k x)=.int k x:=by simp only[pP,xJ7]
theorem xJ8 (id:Nat)(rows:List (List V))(i o:Nat):fr id rows (.ptr i o)=.ptr i o:=rfl
theorem xJ6 (i o:Nat):pP (.ptr i o)=.ptr i o:=by simp only[pP,xJ8]
theorem wa1 (id:Nat)(rows:List (List V))(rs:List (List V)):fr id rows (.sl .ro rs)=.sl .ro rs:=rfl
theorem wa0 (rs:List (List V)):pP (.sl .ro rs)=.sl .ro rs:=by simp only[pP,wa1]
theorem xV7{P:Program}{c:Ctx}{nt:Nat}{e:Env}{Q:QT}{y:Code}(hy:ga P c nt y Q fx fx (λt=>pP (e t)) [.box (xY P0),.dead,.dead,.dead,.dead,.dead,.dead,.dead,.dead]):ga P c nt y Q fx fx e [.box [.sl .full [],.sl .full [],.sl .full [],.sl .full [],.sl .full [],.sl .full [],.sl .full [],.sl .full []]]:=by refine BF 0 0 2 _ dc rfl rfl ?_;refine sd 1 2 [] rfl rfl ?_;refine BF 0 1 2 _ dc rfl rfl ?_;refine sd 2 2 [] rfl rfl ?_;refine BF 0 2 2 _ dc rfl rfl ?_;refine sd 3 2 [] rfl rfl ?_;refine BF 0 3 2 _ dc rfl rfl ?_;refine sd 4 2 [] rfl rfl ?_;refine BF 0 4 2 _ dc rfl rfl ?_;refine sd 5 2 [] rfl rfl ?_;refine BF 0 5 2 _ dc rfl rfl ?_;refine sd 6 2 [] rfl rfl ?_;refine BF 0 6 2 _ dc rfl rfl ?_;refine sd 7 2 [] rfl rfl ?_;refine BF 0 7 2 _ dc rfl rfl ?_;refine sd 8 2 [] rfl rfl ?_;exact hy
end Go.Proofs.YtefbicjgbaaieaaGreat
