/-
  The law ExecReads; used by the theorem at the end of the claim.
  Conditions: as the theorem states them.
-/
import Derived.Test.YtefbicjgbaaieaaGreatQAZ
set_option maxHeartbeats 8000000
namespace Go.Proofs.YtefbicjgbaaieaaGreat
open Go Go.Vx R Go.Proofs.Tryz
set_option maxRecDepth 100000
variable {P:List (List Pr)}{c:Ctx}
def xB(P:List (List Pr)):List V:=P.map λl=>.sl .ro (l.map prR)
theorem ye0{i:Nat}(h:i<P.length):(xB P)[i]?=some (.sl .ro ((P[i]).map prR)):=by simp[xB,h]
theorem zO1(P:List (List Pr)):(xB P).length=P.length:=by simp[xB]
theorem yj8(P:List (List Pr))(h8:P.length=8):VCalls prog 16 [.ptr 0 0] [.box (xB P)] (λr s=>r=.sl .ro ((vsG 0 P).map vwR)/\s=[.box (xB P)]):=by
 obtain⟨C,hC⟩:=eX (xB P);have ae:C.length=8:=by rw[<-hC,zO1,h8]
 have af:∀i,i<8->C[i]?=some (.sl .ro ((P.getD i []).map prR)):=λi hi=>by rw[<-hC,ye0 om,A7,A0 om];rfl
 have aa:∀n,ltOb n (.box C)=true:=λn=>by rw[<-hC];simp[ltOb,ltC,ltK,xB]
 rw[hC];clear hC;refine iV 1 func16 ntmps16 results16 λc hc hb=>?_;refine zA ?_;simp[go_sem];refine zk1 3 2 dc sg ?_;refine zH (S:=Nat×List Vw) [0,3,4] (λu=>[.ptr 0 0,.sl (.app 1) (u.2.map vwR),.int .i64 u.1]) (λu=>[.box C,.app u.2.length 2]) (λu=>8-u.1) (λu=>u.1<=8/\u.2=(vsG 0 P).take u.1) hc hb (0,[]) ⟨A2 _,sm⟩ ?_ ?_;.exact aN 2 (by rw[Ap,aa];rfl)
 rintro⟨i,out⟩⟨hi,ho⟩;simp only at hi ho;by_cases q:i<8;rotate_left
 .have h2:out=vsG 0 P:=by rw[ho];exact Av (by rw[yd1];omega)
  have q':¬(i:Int)<8:=om;refine zA ?_;simp[go_sem,q'];exact zx4 1 rfl (by simp[aa]) (A3 _) zQ ⟨by rw[h2],rfl⟩
 have ag:out.length=i:=by rw[ho,Cd,yd1];omega
 have ei:=zS q om;have q':(i:Int)<8:=om;have ab:(vsG 0 P)[i]?=some (i,P.getD i []):=by rw[yC8,A0 om,A7,A0 om];simp
 have ad:out++[(i,P.getD i [])]=(vsG 0 P).take (i+1):=by rw[ho,D9,ab];rfl
 obtain⟨p,hp⟩:=eX (P.getD i []);have hC:=af i q;rw[hp]at hC ad;rw[A0 om]at hC;have hC:=Option.some.inj hC;refine zA ?_;simp[go_sem,q,q',hC,ae];refine zI ⟨om,zV rfl⟩ ?_;simp[go_sem,ei];exact zG (i+1,out++[(i,p)]) ⟨by show 8-(i+1)<8-i;omega,⟨q,ad⟩,aM 2 (by rw[Ap,aa];rfl) (zC (by simp[go_sem,vwR]) rfl)⟩
theorem xz8(l:List Pr):xQ (l.map prR)=true:=by simp[xQ,prR,zh9]
theorem xl9(l:List Pr):za4 (l.map prR) 0 l.length=l.map prR:=by unfold za4;rw[B8,Av sm,Br];exact Bn λ_ _=>rfl
theorem yR0(id:Nat)(rows:List (List V))(P:List (List Pr)):(xB P).map (frzC id rows)=xB P:=by unfold xB;rw[Br];exact Bn λ_ _=>rfl
theorem yR1(P:List (List Pr))(i:Nat)(l:List Pr)(h:i<P.length):(xB P).take i++.sl .ro (l.map prR)::(xB P).drop (i+1)=xB (P.set i l):=by have h2:=List.set_eq_take_append_cons_drop (l:=xB P) (i:=i) (a:=V.sl .ro (l.map prR));rw[if_pos (by rw[zO1];exact h)]at h2;rw[<-h2];unfold xB;rw[List.map_set]
theorem xn6(P:List (List Pr))(h8:P.length=8)(ad:∀l∈P,l.length<=10000)(qs:List (Int×List Wr))(hq:qs.length<=100000)(hw:∀q∈qs,q.2.length<=100000):VCalls prog 17 [.ptr 0 0,.sl .ro (qs.map putR)] [.box (xB P)] (λr s=>r=.tup []/\s=[.box (xB (doP P qs))]):=by
 obtain⟨F,hF⟩:=eX (doP P qs);rw[hF];have ae:∀n(P:List (List Pr)),ltOb n (.box (xB P))=true:=λn P=>by simp[ltOb,ltC,ltK,xB]
 refine iV 1 func17 ntmps17 results17 λc hc hb=>?_;refine zA ?_;simp[go_sem];refine zH (S:=Nat×List (List Pr)) [0,1,4] (λu=>[.ptr 0 0,.sl .ro (qs.map putR),.int .i64 u.1]) (λu=>[.box (xB u.2)]) (λu=>qs.length-u.1) (λu=>u.1<=qs.length/\u.2.length=8/\(∀l∈u.2,l.length<=10000+100000*u.1)/\doP u.2 (qs.drop u.1)=F) hc hb (0,P) ⟨A2 _,h8,λl hl=>by have:=ad l hl;simp only;omega,hF⟩ ?_ ?_;.exact aN 1 (by rw[Ap,ae];rfl)
 rintro⟨i,P⟩⟨hi,h8,ad,hinv⟩;simp only at hi h8 ad hinv;by_cases q:i<qs.length;rotate_left
 .have h2:P=F:=by rw[A9 om]at hinv;exact hinv
  refine zA ?_;simp[go_sem,q];exact zx4 1 rfl (by simp[ae]) (A3 _) (zD rfl) ⟨rfl,by rw[h2];rfl⟩
 have ei:=zS q om;obtain⟨⟨g,ws⟩,hx⟩:∃x,qs[i]=x:=⟨_,rfl⟩;have ak:=hw (g,ws) (hx▸A8 q);simp only at ak;rw[A5 q,hx]at hinv;change doP (doQ P (g,ws)) (qs.drop (i+1))=F at hinv;unfold doQ at hinv;simp only at hinv;by_cases qg:g<0∨8<=g
 .rw[if_pos qg]at hinv;have fin:∀l∈P,l.length<=10000+100000*(i+1):=λl hl=>by have:=ad l hl;omega
  rcases Classical.em (g<0)with q0|q0;.have ah:decide (g<0)=true:=decide_eq_true q0;refine zA ?_;simp[go_sem,q,hx,putR,q0,ei];exact zG (i+1,P) ⟨by show qs.length-(i+1)<qs.length-i;omega,⟨q,h8,fin,hinv⟩,aN 1 (by rw[Ap,ae];rfl)⟩
  .have ah:decide (g<0)=false:=decide_eq_false q0;have q8:8<=g:=om;have al:decide (8<=g)=true:=decide_eq_true q8;refine zA ?_;simp[go_sem,q,hx,putR,q0,q8,ei];exact zG (i+1,P) ⟨by show qs.length-(i+1)<qs.length-i;omega,⟨q,h8,fin,hinv⟩,aN 1 (by rw[Ap,ae];rfl)⟩
 rw[if_neg qg]at hinv;obtain⟨gn,rfl⟩:∃gn:Nat,g=gn:=⟨g.toNat,om⟩;have ax:gn<8:=om;have q0:¬(gn:Int)<0:=om;have q8:¬8<=(gn:Int):=om;have ah:decide ((gn:Int)<0)=false:=decide_eq_false q0;have al:decide (8<=(gn:Int))=false:=decide_eq_false q8;refine zA ?_;simp[go_sem,q,hx,putR,ah,q8];refine zH (S:=Nat×List (List Pr)) [0,1,4,5] (λu=>[.ptr 0 0,.sl .ro (qs.map putR),.int .i64 i,.int .i64 u.1]) (λu=>[.box (xB u.2)]) (λu=>ws.length-u.1) (λu=>u.1<=ws.length/\u.2.length=8/\(∀l∈u.2,l.length<=10000+100000*i+u.1)/\doP ((ws.drop u.1).foldl (doR gn) u.2) (qs.drop (i+1))=F) hc hb (0,P) ⟨A2 _,h8,ad,hinv⟩ ?_ ?_;.exact aN 1 (by rw[Ap,ae];rfl)
 rintro⟨k,P⟩⟨hk,h8,ad,hinv⟩;simp only at hk h8 ad hinv;by_cases qk:k<ws.length;rotate_left;.rw[A9 om,Ep]at hinv;refine zA ?_;simp[go_sem,q,hx,putR,qk,ei];exact zG (i+1,P) ⟨by show qs.length-(i+1)<qs.length-i;omega,⟨q,h8,λl hl=>by have:=ad l hl;simp only;omega,hinv⟩,aN 1 (by rw[Ap,ae];rfl)⟩
 have ek:=zS qk om;obtain⟨⟨⟨wr,wk⟩,wd,wb⟩,hy⟩:∃x,ws[k]=x:=⟨_,rfl⟩;rw[A5 qk,hy,Bf]at hinv;obtain⟨p,hp⟩:=eX (P[gn]'om);have ay:=ad p (hp▸A8 _);have an:doR gn P ⟨(wr,wk),wd,wb⟩=P.set gn (insP wk wb wd p):=by unfold doR xv9;rw[Az,A7,A0 om,hp];rfl
 rw[an]at hinv;have ao:(xB P).length=8:=by rw[zO1,h8]
 have aq:(xB P)[gn]'om=.sl .ro (p.map prR):=by have:=ye0 (P:=P) (i:=gn) om;rw[A0 om,hp]at this;exact Option.some.inj this
 have ar:(xB P)[gn]?=some (.sl .ro (p.map prR)):=by rw[A0 om,aq]
 have az:p.length<40000000000:=om;have af:∀a:List Pr,([.box (xB P),.box [.str wk,.bool wd,.str wb],.lst (a.map prR) 2]:St).all (ltOb 3)=true:=λa=>by rw[Ap,ae,Ar];simp[ltOb,ltC,ltK,prR]
 obtain⟨Z,hZ⟩:=eX (insP wk wb wd p);rw[hZ]at hinv;have a1:Z.length<=p.length+1:=by rw[<-hZ,(zV4 wk wb wd p).length_eq,B2];have:=Bt (λx:Pr=>!decide (x.1=wk)) p;split<;>simp<;>omega
 refine zR (zA ?_);simp[go_sem,q,hx,putR,qk];refine zR (za2 (zR (zA ?_)));simp[go_sem,q,hx,putR,qk,hy,wrR];refine zR (zA ?_);simp[go_sem];refine zM1 7 2 dc sg ?_;refine zR (zA ?_);simp[go_sem];refine zR ?_;refine zR ?_;refine yU [] 3 rfl kR kR ?_;simp[go_sem,q,hx,putR];refine zI om ?_;simp[go_sem,ar];refine za2 ?_;refine zH (S:=Nat×List Pr×Bool) [0,1,4,5,6,7,8,60,61,62] (λu=>[.ptr 0 0,.sl .ro (qs.map putR),.int .i64 i,.int .i64 k,.ptr 1 0,.lsv 2 2 u.2.1.length 0 u.2.1.length,.bool u.2.2,.sl .ro (p.map prR),.int .i64 p.length,.int .i64 u.1]) (λu=>[.box (xB P),.box [.str wk,.bool wd,.str wb],.lst (u.2.1.map prR) 2]) (λu=>p.length-u.1) (λu=>u.1<=p.length/\u.2.1.length<=2*u.1/\u.2.1++insP wk wb u.2.2 (p.drop u.1)=Z) hc hb (0,[],wd) ⟨A2 _,A2 _,hZ⟩ ?_ ?_;.exact aN 3 (by rw[Ap,ae];rfl)
 .rintro⟨j,acc,b⟩⟨hj,au,aa⟩;simp only at hj au aa;by_cases qj:j<p.length;rotate_left
  .rw[A9 om,insP]at aa;refine zA ?_;simp[go_sem,qj];refine xX (S:=Unit) [0,1,4,5,7] (λ_=>[.ptr 0 0,.sl .ro (qs.map putR),.int .i64 i,.int .i64 k,.lsv 2 2 Z.length 0 Z.length]) (λ_=>[.box (xB P),.box [.str wk,.bool wd,.str wb],.lst (Z.map prR) 2]) (λ_=>True) hc hb ?_ ?_;.cases b with
    |true=>
     have hz:acc=Z:=by simpa using aa
     refine zA ?_;simp[go_sem];exact zG () ⟨tV,at_n 3 (by simp[go_sem,hz]) rfl (af _) dc (zC (by simp[go_sem,hz]) rfl)⟩|false=>
     have hz:acc++[(wk,wb)]=Z:=by simpa using aa
     have av:Z.length=acc.length+1:=by rw[<-hz];simp
     refine zA ?_;simp[go_sem,Bw];refine zI ⟨zV rfl,om⟩ ?_;simp[go_sem];exact zG () ⟨tV,at_n 3 (by simp[go_sem,<-hz,prR]) rfl (af _) dc (zC (by simp[go_sem,av]) rfl)⟩
   rintro _ _;refine zq8 2 2 (Z.map prR) rfl (xz8 Z) ?_;refine yU [] 3 (by simp[zn3]) kR kR ?_;simp[go_sem,frzS,frzA,frzC,frzK,zn3,zR0,q,hx,putR,xl9,yR0];refine zI om ?_;have h7:gn<=7:=om;simp[go_sem,ao,h7,yR1 P gn Z om];have aj:∀l∈P.set gn Z,l.length<=10000+100000*i+(k+1):=λl hl=>by
    rcases Ch hl with hl|rfl;.have:=ad l hl;omega
    .omega
   refine zA ?_;simp[go_sem,ek];exact zG (k+1,P.set gn Z) ⟨by show ws.length-(k+1)<ws.length-k;omega,⟨qk,by simp[h8],aj,hinv⟩,aN 1 (by rw[Ap,ae];rfl)⟩
  have ej:=zS qj om;obtain⟨⟨xk,xd⟩,ag⟩:∃x,p[j]=x:=⟨_,rfl⟩;rw[A5 qj,ag,insP]at aa;simp only at aa;have fin:∀(ab:List Pr)(b':Bool),ab.length<=acc.length+2->ab++insP wk wb b' (p.drop (j+1))=Z->p.length-(j+1)<p.length-j/\(j+1<=p.length/\ab.length<=2*(j+1)/\ab++insP wk wb b' (p.drop (j+1))=Z):=λab b' h1 h2=>⟨om,qj,om,h2⟩;by_cases e:xk=wk;.subst e;rw[zh3]at aa;have hn:(xk !=xk)=false:=sm;have hl:Op.bytesLess xk xk=false:=zh3 _;obtain⟨g1,g2⟩:=fin acc b om (by simpa using aa);cases b with |true=>refine zA ?_;simp[go_sem,qj,ag,prR,ej];exact zG (j+1,acc,true) ⟨g1,g2,aN 3 (af _)⟩|false=>refine zA ?_;simp[go_sem,qj,ag,prR,hl,ej];exact zG (j+1,acc,false) ⟨g1,g2,aN 3 (af _)⟩
  have hn:(xk==wk)=false:=by simpa using e
  have a6:¬xk=wk:=e;rw[if_neg e]at aa;have a7:∀ab:List Pr,ab.length<=2*p.length+2->(ab.length+1)*32<=140737488355328:=λ_ h=>by omega
  cases b with |true=>obtain⟨g1,g2⟩:=fin (acc++[(xk,xd)]) true sm (by simpa using aa);refine zA ?_;simp[go_sem,qj,ag,prR,hn,Bw];refine zI ⟨zV rfl,om⟩ ?_;simp[go_sem,ej];exact zG (j+1,acc++[(xk,xd)],true) ⟨g1,g2,at_n 3 (by simp[go_sem,prR]) rfl (af _) dc (zC sg rfl)⟩|false=>
   by_cases hl:Op.bytesLess wk xk=true
   .rw[hl]at aa;obtain⟨g1,g2⟩:=fin (acc++[(wk,wb),(xk,xd)]) true sm (by simpa using aa);have ai:Op.bytesLess xk wk=false:=by cases z:Op.bytesLess xk wk with|false=>rfl|true=>have:=zv5 _ _ _ hl z;rw[zh3]at this;cases this
    refine zA ?_;simp[go_sem,qj,ag,prR,hn,ai,Bw];refine zI ⟨zV rfl,om⟩ ?_;simp[go_sem,hn,Bw];refine zI ⟨zV rfl,om⟩ ?_;simp[go_sem,ej];exact zG (j+1,acc++[(wk,wb),(xk,xd)],true) ⟨g1,g2,at_n 3 (by simp[go_sem,prR]) rfl (af _) dc (zC sg rfl)⟩
   .have aw:Op.bytesLess wk xk=false:=by simpa using hl
    rw[aw]at aa;obtain⟨g1,g2⟩:=fin (acc++[(xk,xd)]) false sm (by simpa using aa);have ai:Op.bytesLess xk wk=true:=by
     rcases zA5 xk wk with z|z|z;.exact z
     .exact absurd z e
     .exact absurd z hl
    refine zA ?_;simp[go_sem,qj,ag,prR,hn,ai,Bw];refine zI ⟨zV rfl,om⟩ ?_;simp[go_sem,ej];exact zG (j+1,acc++[(xk,xd)],false) ⟨g1,g2,at_n 3 (by simp[go_sem,prR]) rfl (af _) dc (zC sg rfl)⟩
theorem zE8:Pure prog 20 [] (schR tabsS):=by have aa:=xp2;refine iV 0 func20 ntmps20 results20 λc hc hb=>?_;refine zA ?_;simp[go_sem];refine pC aa ?_;simp[go_sem,schS];exact wA (r:=schR tabsS) xB9 ⟨rfl,rfl⟩
def tx22:List UInt8:=[73,78,83,69,82,84,32,73,78,84,79,32,71,32,86,65,76,85,69,83,32,40,39,97,39,44,32,49,44,32,78,85,76,76,41,59,32,83,69,76,69,67,84,32,78,32,70,82,79,77,32,71]
theorem wc0:(lotF (zm6 tx22).1 []).1=(0,0,[⟨1,[]⟩,⟨0,[[⟨2,1,[]⟩]]⟩]):=kR
theorem xA2:(zo6 (zm6 tx22).1 []).map (λq=>q.2.length)=[1]:=kR
theorem yB6(lot:GLot)(was:List Ln):runV lot was=.tup [.agg (ansR (lotF lot was).1),.sl .ro ((zo6 lot was).map putR)]:=rfl
theorem xg8:Pure prog 12 [] (.bool true):=by
 have hl:=xp1 tx22 dc;have hr:=xB8 (zm6 tx22).1 (yi2 tx22) [] dc (λx hx=>by cases hx) dc;rw[yB6,show zd0 []=[]from rfl,wc0]at hr;obtain⟨q,hq⟩:∃q,zo6 (zm6 tx22).1 []=[q]:=by have h:=xA2;cases e:zo6 (zm6 tx22).1 []with |nil=>rw[e]at h;cases h|cons x l=>cases l with |nil=>exact⟨x,rfl⟩|cons y l=>rw[e]at h;simp at h
 have aa:q.2.length=1:=by have h:=xA2;rw[hq]at h;simpa using h
 rw[hq]at hr;obtain⟨L,hL⟩:=eX ((zm6 tx22).1);rw[hL]at hl hr;obtain⟨g,ws⟩:=q;simp only at aa;have ab:=zE8;unfold tx22 at hl;refine iV 0 func12 ntmps12 results12 λc hc hb=>?_;refine zA ?_;simp[go_sem];refine pC ab ?_;simp[go_sem,schR];refine yU [(1,0),(2,0)] 1 rfl kR kR ?_;simp[go_sem];refine pD hl ?_;simp[go_sem];refine pD hr ?_;simp[go_sem,ansR,Ot.row,putR,aa];exact wR
def yY3(x:List GAct):List V:=[.sl .ro (x.map GAct.row)]
theorem StI.small{n:Nat}(h:StI n P)(hn:n<=7500):∀l∈P,l.length<=10000:=λl hl=>by
 obtain⟨i,hi,rfl⟩:=List.getElem_of_mem hl;have hm:(i,P[i])∈vsG 0 P:=by refine B7 (i:=i) ?_;rw[yC8,A0 hi,Ab];rfl
 have:=((h.vs hn).2.1 _ hm).2.1;simp only at this;omega
theorem zZ5{n:Nat}(h:StI n P)(hn:n<=7500){lot:GLot}(hl:LOk lot):(zo6 lot (zd0 (vsG 0 P))).length<=100000/\(∀q∈zo6 lot (zd0 (vsG 0 P)),q.2.length<=100000)/\StI (n+240) (doP P (zo6 lot (zd0 (vsG 0 P)))):=by obtain⟨m,hT⟩:=yg6 (vsG 0 P);have h1:=h.len;have hlen:(zd0 (vsG 0 P)).length<=(yP (vsG 0 P)).length:=hT.len;obtain⟨aa,ab⟩:=xA3 hl hT.now (λx hx=>⟨hT.now.rows x hx,(hT.lines x hx).1⟩) (by show(zd0 (vsG 0 P)).length<=7500;omega);exact⟨aa,ab,h.step hl⟩
def P0:List (List Pr):=[[],[],[],[],[],[],[],[]]
theorem zv6(n:Nat)(P:List (List Pr)):ltOb n (.box (xB P))=true:=by simp[ltOb,ltC,ltK,xB]
def frz8(v:V):V:=frzS 8 [] (frzS 7 [] (frzS 6 [] (frzS 5 [] (frzS 4 [] (frzS 3 [] (frzS 2 [] (frzS 1 [] v)))))))
theorem xu7(id:Nat)(rows:List (List V))(k:IntKind)(x:Int):frzS id rows (.int k x)=.int k x:=rfl
theorem xu5(k:IntKind)(x:Int):frz8 (.int k x)=.int k x:=by simp only[frz8,xu7]
theorem xu8(id:Nat)(rows:List (List V))(i o:Nat):frzS id rows (.ptr i o)=.ptr i o:=rfl
theorem xu6(i o:Nat):frz8 (.ptr i o)=.ptr i o:=by simp only[frz8,xu8]
theorem xJ5(id:Nat)(rows:List (List V))(rs:List (List V)):frzS id rows (.sl .ro rs)=.sl .ro rs:=rfl
theorem xJ4(rs:List (List V)):frz8 (.sl .ro rs)=.sl .ro rs:=by simp only[frz8,xJ5]
theorem xF1{P:Program}{nt:Nat}{e:Env}{Q:QT}{y:Code}(hy:wVW P c nt y Q fx fx (λt=>frz8 (e t)) [.box (xB P0),.dead,.dead,.dead,.dead,.dead,.dead,.dead,.dead]):wVW P c nt y Q fx fx e [.box [.sl .full [],.sl .full [],.sl .full [],.sl .full [],.sl .full [],.sl .full [],.sl .full [],.sl .full []]]:=by refine zs6 0 0 2 _ dc rfl rfl ?_;refine zq8 1 2 [] rfl rfl ?_;refine zs6 0 1 2 _ dc rfl rfl ?_;refine zq8 2 2 [] rfl rfl ?_;refine zs6 0 2 2 _ dc rfl rfl ?_;refine zq8 3 2 [] rfl rfl ?_;refine zs6 0 3 2 _ dc rfl rfl ?_;refine zq8 4 2 [] rfl rfl ?_;refine zs6 0 4 2 _ dc rfl rfl ?_;refine zq8 5 2 [] rfl rfl ?_;refine zs6 0 5 2 _ dc rfl rfl ?_;refine zq8 6 2 [] rfl rfl ?_;refine zs6 0 6 2 _ dc rfl rfl ?_;refine zq8 7 2 [] rfl rfl ?_;refine zs6 0 7 2 _ dc rfl rfl ?_;refine zq8 8 2 [] rfl rfl ?_;exact hy
theorem xO3(l:List (List GAct))(hl:l.length<=30)(hok:∀x∈l,x.length<=maxLen/\∀a∈x,a.ok):VCalls prog 18 [.sl .ro (l.map yY3)] [] (λr s=>r=.ptr 0 0/\∃P,StI (240*l.length) P/\s=[.box (xB P)]):=by
 have au:=zE8;refine iV 0 func18 ntmps18 results18 λc hc hb=>?_;refine zA ?_;simp[go_sem];refine xF1 ?_;refine zH (S:=Nat×List (List Pr)) [0,3,4] (λu=>[.sl .ro (l.map yY3),.ptr 0 0,.int .i64 u.1]) (λu=>[.box (xB u.2)]) (λu=>l.length-u.1) (λu=>u.1<=l.length/\StI (240*u.1) u.2) hc hb (0,P0) ⟨A2 _,wc2⟩ ?_ ?_;.exact aM 1 (by rw[Ap,zv6];rfl) (zC (by simp[go_sem,xu5,xu6,xJ4]) rfl)
 rintro⟨i,P⟩⟨hi,hS⟩;simp only at hi hS;by_cases q:i<l.length;rotate_left;.have e:i=l.length:=om;rw[e]at hS;refine zA ?_;simp[go_sem,q];exact zx4 1 rfl (by simp[zv6]) dc (zq2 rfl) ⟨rfl,P,hS,rfl⟩
 have ei:=zS q om;obtain⟨ab,hx⟩:∃x,l[i]=x:=⟨_,rfl⟩;obtain⟨av,aj⟩:=hok ab (hx▸A8 q);have ad:=xD4 ab av aj;have ak:=yu6 aj;obtain⟨tx,al⟩:=eX (yk1 ab);rw[al]at ad ak;have af:=xp1 tx (B3 ak dc);have ae:=yi2 tx;obtain⟨L,hL⟩:=eX ((zm6 tx).1);rw[hL]at af ae;have hn:240*i<=7500:=om;have ag:=yj8 P hS.eight;obtain⟨v1,v2,v3,v4⟩:=hS.vs hn;have aa:=xB8 L ae (vsG 0 P) om (λx hx=>⟨(v2 x hx).1,by have:=(v2 x hx).2.1;omega,(v2 x hx).2.2⟩) v4;rw[yB6]at aa;obtain⟨an,ao,ah⟩:=zZ5 hS hn ae;have ai:=xn6 P hS.eight (hS.small hn) _ an ao;obtain⟨A,hA⟩:=eX ((lotF L (zd0 (vsG 0 P))).1);obtain⟨U,hU⟩:=eX (zo6 L (zd0 (vsG 0 P)));rw[hA,hU]at aa;rw[hU]at ai ah;obtain⟨P2,aq⟩:=eX (doP P U);rw[aq]at ai ah;obtain⟨vs,ar⟩:=eX (vsG 0 P);rw[ar]at ag aa;clear hA hU aq ar an ao v1 v2 v3 v4 hL al;refine zA ?_;simp[go_sem,q];refine yU [(0,0),(5,0),(6,0),(8,1),(9,0)] 1 rfl kR kR ?_;simp[go_sem];refine pD au ?_;simp[go_sem,q,hx,yY3];refine pD ad ?_;simp[go_sem];refine pD af ?_;simp[go_sem];refine yP8 1 ag cB rfl rfl (by rw[Ap,zv6];rfl) rfl (λi hi=>by simp[go_sem];omega) (λ_=>zd5 (n:=1) rfl) ?_;simp[go_sem];refine pD aa ?_;simp[go_sem,ansR];refine zp1 1 ai cB rfl rfl (by rw[Ap,zv6];rfl) (zd5 (n:=1) rfl) ?_ ?_;.rintro r s' ⟨rfl,rfl⟩;exact⟨rfl,by rw[Ap,zv6];rfl,rfl⟩
 rintro r s' ⟨rfl,rfl⟩;simp[go_sem,ei];exact zG (i+1,P2) ⟨by show l.length-(i+1)<l.length-i;omega,⟨q,by rw[show 240*(i+1)=240*i+240by omega];exact ah⟩,aN 1 (by rw[Ap,zv6];rfl)⟩
theorem xP4{P:Program}{σ:St}{f:FuncId}{caps args args':List V}{KV:V->St->Prop}{R:V->St->Prop}(hc:VCalls P f args' [] R)(hb:wG P f=true)(aa:All2 (argS (ren [] σ.length)) args' (args++caps))(hK:∀r s,R r s->KV (renS (ren [] σ.length) r) (σ++s.map (yC (ren [] σ.length)))):wVC P c (.fn f caps) args σ KV fx:=by
 refine VC.of hc hb [] D0 rfl (λi j o h=>by simp at h) aa λr s h _=>?_;have e:xC [] σ s=σ++s.map (yC (ren [] σ.length)):=by simp[xC,mset]
 rw[e];exact hK r s h
theorem xE7{P:Program}{n0:Kp}{σ:St}(i:Nat){o:Ob}{f:FuncId}{v:V}{KV:V->St->Prop}(hc:VCalls P f [.ptr 0 0] [o] (λr s=>r=v/\s=[o]))(hn:n0.has i=true)(hb:wG P f=true)(ho:σ[i]?=some o)(hok:ltOb 0 o=true)(hv:noS v=true)(hk:KV v σ):wVD P c n0 1 (.fn f []) [.ptr i 0] σ KV fx:=by
 refine⟨v,σ,?_,λ_=>rfl,λ_=>KeepN.refl,A3 _,hk⟩;rw[if_neg dc,if_pos rfl];intro s hs;have aa:s[i]?=some o:=by rw[<-ho];exact Kp.get hn hs
 refine zk6 (P:=P) (c:=c) (KV:=λr s'=>r=v/\s'=s) i hc hb aa hok ⟨.inl rfl,tV⟩ (λr s' h=>⟨o,h.2,hok⟩) ?_;rintro r o2 ⟨rfl,h2⟩;obtain rfl:o2=o:=by simpa using h2
 obtain⟨hi,h3⟩:=A1.1 aa;subst h3;exact⟨zz1 hv,List.set_getElem_self hi⟩
theorem xm2{g:Int}{k d:List UInt8}(h:zl0 g k d=true)(h0:0<=g)(h3:g<=3):∃(tn:Nat)(row:List GValue),Pure prog 23 [schR tabsS,.int .i64 tn,.str d] (.tup [.sl .ro (row.map GValue.row),.int .i64 0])/\Pure prog 24 [schR tabsS,.int .i64 tn,.sl .ro (row.map GValue.row)] (.tup [.int .i64 g,.str k,.int .i64 0])/\([[.int .i64 0],[.int .i64 0],[.int .i64 1],[.int .i64 2]]:List (List V))[g.toNat]?=some [.int .i64 tn]:=by
 obtain⟨e1,e2,e3⟩:=yJ0 h;obtain⟨tn,ht,ab,hl⟩:=xL9 h0 h3;have hd:=ye2 (p:=(g,k)) h;rw[ht]at e2 e3;obtain⟨T,hT⟩:∃T,tabsS[tn]?=some T:=⟨tabsS[tn]'ab,A0 ab⟩;have ad:=xB1 yT tabsS tn d (by unfold maxB;omega) dc;obtain⟨ae,af⟩:=yB3 tn d;have aa:=xm6 tn T hT (rowF tabsS tn d).1 ae af;rw[Az,A7,hT,Ea]at e3;rw[e3]at aa;refine⟨tn,(rowF tabsS tn d).1,?_,aa,?_⟩;.rw[show(.tup [.sl .ro ((rowF tabsS tn d).1.map GValue.row),.int .i64 0]:V)=R.rowV (rowF tabsS tn d)by rw[R.rowV,e2]];exact ad
 .have hm:([[.int .i64 0],[.int .i64 0],[.int .i64 1],[.int .i64 2]]:List (List V))=([0,0,1,2]:List Int).map λx=>[.int .i64 x]:=rfl;rw[hm,B0,hl];rfl
theorem yH6(l:List (List GAct))(hok:∀x∈l,x.length<=maxLen/\∀a∈x,a.ok)(la:List GAct)(aT:la.length<=maxLen)(a7:∀a∈la,a.ok):Pure prog 7 [.sl .ro (l.map yY3),.sl .ro (la.map GAct.row)] (.bool true):=by
 have av:=xg8;have aU:=zE8;have ag:=xD4 la aT a7;have a8:=yu6 a7;obtain⟨tx,aA⟩:=eX (yk1 la);rw[aA]at ag a8;have aw:=xp1 tx (B3 a8 dc);have ab:=yi2 tx;obtain⟨L,hL⟩:=eX ((zm6 tx).1);rw[hL]at aw ab;have aB:=yU8 L ab;refine iV 0 func7 ntmps7 results7 λc hc hb=>?_;refine zA ?_;simp[go_sem];refine pC av ?_;simp[go_sem];by_cases bj:l.length<=15;rotate_left;.have q:15<(l.length:Int):=om;simp[go_sem,q];exact wR
 have q:¬15<(l.length:Int):=om;have af:=xO3 l om hok;simp[go_sem,q];refine pC aU ?_;simp[go_sem,schR];refine xP4 af cB ⟨zQ,tV⟩ ?_;rintro r s ⟨rfl,P,hS,rfl⟩;have hn:240*l.length<=7500:=om;have ah:=yj8 P hS.eight;obtain⟨v1,v2,v3,v4⟩:=hS.vs hn;have ae:=xB8 L ab (vsG 0 P) om (λx hx=>⟨(v2 x hx).1,by have:=(v2 x hx).2.1;omega,(v2 x hx).2.2⟩) v4;rw[yB6]at ae;obtain⟨aV,aC,_⟩:=zZ5 hS hn ab;obtain⟨m,hT⟩:=yg6 (vsG 0 P);have ad:PutOk (zo6 L (zd0 (vsG 0 P))):=put_ok ab hT.now λx hx=>⟨hT.now.rows x hx,(hT.lines x hx).1⟩;have ax:=λh=>xA4 (lot:=L) (was:=zd0 (vsG 0 P)) h;have aD:=λh=>xm1 (lot:=L) (was:=zd0 (vsG 0 P)) h;obtain⟨A,hA⟩:=eX ((lotF L (zd0 (vsG 0 P))).1);obtain⟨U,hU⟩:=eX (zo6 L (zd0 (vsG 0 P)));rw[hA,hU]at ae;rw[hU]at aV aC ad ax aD;obtain⟨vs,aE⟩:=eX (vsG 0 P);rw[aE]at ah ae;have ai:∀k,ltOb k (.box (xB P))=true:=λk=>zv6 k P;have e0:yC (ren [] 1) (.box (xB P))=.box (xB P):=wL (n:=0) (λ_ h=>absurd h (Bg _)) (ai 0);have er:ren [] 1 0=1:=rfl;obtain⟨bx,aW⟩:=eX (Ob.box (xB P));rw[aW]at ah ai e0⊢;clear hA hU aE hL aA v1 v2 v3 v4 hT m af av hok;simp[go_sem,e0];refine pC ag ?_;simp[go_sem];refine pC aw ?_;simp[go_sem];refine yU [(3,1),(4,0)] 3 rfl kR kR ?_;simp[go_sem,er];refine xE7 1 ah rfl cB rfl (ai 0) rfl ?_;simp[go_sem];refine pD ae ?_;simp[go_sem,ansR];obtain⟨bk,bm⟩:=ab.stmts;have hB:([.box [.sl .ro yT,.sl .ro (tabsS.map GTable.row)],bx,.box [.int .i64 L.mode,.int .i64 L.n,.sl .ro (L.stmts.map GStmt.row)]]:St).all (ltOb 3)=true:=by show(_&&(ltOb 3 bx&&(_&&true)))=true;rw[ai 3];rfl
 refine zH (S:=Nat×Bool) [5,7,9,10,11] (λu=>[.ptr 0 0,.ptr 2 0,.sl .ro (U.map putR),.bool u.2,.int .i64 u.1]) (λ_=>[.box [.sl .ro yT,.sl .ro (tabsS.map GTable.row)],bx,.box [.int .i64 L.mode,.int .i64 L.n,.sl .ro (L.stmts.map GStmt.row)]]) (λu=>L.stmts.length-u.1) (λu=>u.1<=L.stmts.length/\(u.2=false->∀x∈L.stmts.take u.1,x.kind=1)) hc hb (0,false) ⟨A2 _,λ_ x h=>by simp at h⟩ ?_ ?_;.exact aN 3 hB
 rintro⟨i,b⟩⟨hi,az⟩;simp only at hi az;by_cases q:i<L.stmts.length
 .have ei:=zS q om;obtain⟨st,af⟩:∃x,L.stmts[i]=x:=⟨_,rfl⟩;have aX:L.stmts.take (i+1)=L.stmts.take i++[st]:=by rw[<-af];exact(List.take_append_getElem q).symm
  obtain⟨tb,aY,aZ⟩:∃tb:Bool,(st.kind !=1)=tb/\(tb=false->st.kind=1):=⟨_,rfl,λh=>by simpa using h⟩;refine zA ?_;refine(A4 b).elim (λw=>?_) (λw=>?_);.simp[go_sem,q,af,ei,w];exact zG (i+1,true) ⟨by show L.stmts.length-(i+1)<L.stmts.length-i;omega,⟨q,λh=>by cases h⟩,aN 3 hB⟩
  .simp[go_sem,q,af,ei,w,GStmt.row,aY];exact zG (i+1,tb) ⟨by show L.stmts.length-(i+1)<L.stmts.length-i;omega,⟨q,λh x hx=>by
    rw[aX]at hx;rcases Aq.1 hx with hx|hx;.exact az w x hx
    .rw[Ci.1 hx];exact aZ h⟩,aN 3 hB⟩
 have ba:b=false->U=[]:=λw=>ax λx hx=>az w x (by rw[Av om];exact hx);refine zA ?_;refine(A4 b).elim (λw=>?_) (λw=>?_);rotate_left;all_goals simp[go_sem,q,w]
 refine zN (λh=>by rw[ba w]at h;simp at h) (λ_=>?_);simp[go_sem];all_goals
  refine zH (S:=Nat) [5,7,9,12,13] (λi=>[.ptr 0 0,.ptr 2 0,.sl .ro (U.map putR),.sl .full [[.int .i64 0],[.int .i64 0],[.int .i64 1],[.int .i64 2]],.int .i64 i]) (λ_=>[.box [.sl .ro yT,.sl .ro (tabsS.map GTable.row)],bx,.box [.int .i64 L.mode,.int .i64 L.n,.sl .ro (L.stmts.map GStmt.row)]]) (λi=>U.length-i) (λi=>i<=U.length) hc hb 0 (A2 _) ?_ ?_;.exact aN 3 hB
  rintro i hi;by_cases q:i<U.length;rotate_left
  .refine zA ?_;simp[go_sem,q];refine pC aB ?_;by_cases pe:(zn6 L).2=0;.simp[go_sem,yL,pe];exact wR
   .have bb:((zn6 L).2==0)=false:=beq_eq_false_iff_ne.2 pe;have bc:=aD pe;simp[go_sem,yL,pe,bb,bc];exact wR
  have ei:=zS q om;obtain⟨p,hp⟩:∃x,U[i]=x:=⟨_,rfl⟩;have aq:p∈U:=hp▸A8 q;obtain⟨r0,r3,aF⟩:=ad.rng p aq;have bd:=aC p aq;have aG:∀j(hj:j+1=i),∃p',U[j]?=some p'/\p'.1<p.1:=λj hj=>by have aj:j<U.length:=om;refine⟨U[j],A0 aj,?_⟩;rw[<-hp];exact List.pairwise_iff_getElem.1 ad.up j i aj q om
  obtain⟨g,ws⟩:=p;simp only at r0 r3 aF bd aG;have g0:¬g<0:=om;have g3:¬3<g:=om;have wl:¬(ws.length:Int)=0:=λh=>aF (B6 om);have aH:((ws.length:Int)==0)=false:=beq_eq_false_iff_ne.2 wl;refine zR (zA ?_);simp[go_sem,q];refine xX (S:=Unit) [5,7,9,12,13] (λ_=>[.ptr 0 0,.ptr 2 0,.sl .ro (U.map putR),.sl .full [[.int .i64 0],[.int .i64 0],[.int .i64 1],[.int .i64 2]],.int .i64 i]) (λ_=>[.box [.sl .ro yT,.sl .ro (tabsS.map GTable.row)],bx,.box [.int .i64 L.mode,.int .i64 L.n,.sl .ro (L.stmts.map GStmt.row)]]) (λ_=>True) hc hb ?_ ?_;rotate_left;.rintro _ _;refine zA ?_;simp[go_sem,ei];exact zG (i+1) ⟨by show U.length-(i+1)<U.length-i;omega,q,aN 3 hB⟩
  refine za2 ?_;refine xX (S:=Unit) [5,7,9,12,13] (λ_=>[.ptr 0 0,.ptr 2 0,.sl .ro (U.map putR),.sl .full [[.int .i64 0],[.int .i64 0],[.int .i64 1],[.int .i64 2]],.int .i64 i]) (λ_=>[.box [.sl .ro yT,.sl .ro (tabsS.map GTable.row)],bx,.box [.int .i64 L.mode,.int .i64 L.n,.sl .ro (L.stmts.map GStmt.row)]]) (λ_=>True) hc hb ?_ ?_
  .refine zR ?_;refine yU [] 3 rfl kR kR ?_;rcases Nat.eq_zero_or_pos i with i0|i0;.subst i0;simp[go_sem,q,hp,putR,g0,g3,wl,aH];refine zA ?_;simp[go_sem];exact zG () ⟨tV,aN 3 hB⟩
   .obtain⟨j,hj⟩:∃j,i=j+1:=⟨i-1,om⟩;subst hj;obtain⟨p',ay,bh⟩:=aG j rfl;have es:IntKind.i64.wrap (j:Int)=j:=i64_id om om;have bf:¬g<=p'.1:=om;have ar:(j:Int)<U.length:=om;have ak:j<U.length:=om;have a1:0<=(j:Int)+1:=om;have a2:(j:Int)+1<U.length:=om;have bg:U[j]'ak=p':=by obtain⟨_,h⟩:=A1.1 ay;exact h
    simp[go_sem,q,hp,putR,g0,g3,wl,aH,ay,bg,es,bf,ar,ak,a1,a2];refine zA ?_;simp[go_sem];exact zG () ⟨tV,aN 3 hB⟩
  rintro _ _;have al:=ad.keys _ aq;have aI:=ad.wr _ aq;simp only at al aI;refine zR (zA ?_);simp[go_sem];refine za2 ?_;refine zH (S:=Nat) [5,7,9,12,13,14] (λk=>[.ptr 0 0,.ptr 2 0,.sl .ro (U.map putR),.sl .full [[.int .i64 0],[.int .i64 0],[.int .i64 1],[.int .i64 2]],.int .i64 i,.int .i64 k]) (λ_=>[.box [.sl .ro yT,.sl .ro (tabsS.map GTable.row)],bx,.box [.int .i64 L.mode,.int .i64 L.n,.sl .ro (L.stmts.map GStmt.row)]]) (λk=>ws.length-k) (λk=>k<=ws.length) hc hb 0 (A2 _) ?_ ?_;.exact aN 3 hB
  rintro k hk;by_cases qk:k<ws.length;rotate_left;.refine zA ?_;simp[go_sem,q,hp,putR,qk];exact zG () ⟨tV,aN 3 hB⟩
  have ek:=zS qk om;obtain⟨w,a6⟩:∃x,ws[k]=x:=⟨_,rfl⟩;obtain⟨an,aJ⟩:=aI w (a6▸A8 qk);have aK:∀j,j+1=k->∃(w':Wr)(hj:j<ws.length),ws[j]=w'/\Op.bytesLess w'.p.2 w.p.2=true:=λj hj=>by have aj:j<ws.length:=om;refine⟨_,aj,rfl,?_⟩;rw[<-a6];exact List.pairwise_iff_getElem.1 al j k aj qk om
  obtain⟨⟨wr,wk⟩,dn,wd⟩:=w;simp only at an aJ aK;have au:([.box [.sl .ro yT,.sl .ro (tabsS.map GTable.row)],bx,.box [.int .i64 L.mode,.int .i64 L.n,.sl .ro (L.stmts.map GStmt.row)],.box [.str wk,.bool dn,.str wd]]:St).all (ltOb 4)=true:=by show(_&&(ltOb 4 bx&&(_&&(_&&true))))=true;rw[ai 4];rfl
  refine zR (zA ?_);simp[go_sem,q,hp,putR,qk];refine xX (S:=Unit) [5,7,9,12,13,14] (λ_=>[.ptr 0 0,.ptr 2 0,.sl .ro (U.map putR),.sl .full [[.int .i64 0],[.int .i64 0],[.int .i64 1],[.int .i64 2]],.int .i64 i,.int .i64 k]) (λ_=>[.box [.sl .ro yT,.sl .ro (tabsS.map GTable.row)],bx,.box [.int .i64 L.mode,.int .i64 L.n,.sl .ro (L.stmts.map GStmt.row)]]) (λ_=>True) hc hb ?_ ?_;rotate_left;.rintro _ _;refine zA ?_;simp[go_sem,ek];exact zG (k+1) ⟨by show ws.length-(k+1)<ws.length-k;omega,qk,aN 3 hB⟩
  refine za2 ?_;refine zR (zA ?_);simp[go_sem,q,hp,putR,qk,a6,wrR];refine xX (S:=Unit) [5,7,9,12,13,14,15] (λ_=>[.ptr 0 0,.ptr 2 0,.sl .ro (U.map putR),.sl .full [[.int .i64 0],[.int .i64 0],[.int .i64 1],[.int .i64 2]],.int .i64 i,.int .i64 k,.ptr 3 0]) (λ_=>[.box [.sl .ro yT,.sl .ro (tabsS.map GTable.row)],bx,.box [.int .i64 L.mode,.int .i64 L.n,.sl .ro (L.stmts.map GStmt.row)],.box [.str wk,.bool dn,.str wd]]) (λ_=>True) hc hb ?_ ?_
  .refine zR ?_;refine yU [] 4 rfl kR kR ?_;rcases Nat.eq_zero_or_pos k with k0|k0
   .subst k0;refine(A4 dn).elim (λaa=>?_) (λaa=>?_);.simp[go_sem,q,hp,putR,qk,aa,an aa];refine zA ?_;simp[go_sem];exact zG () ⟨tV,at_n 4 (by simp[go_sem,aa,an aa]) rfl au dc (zC sg rfl)⟩
    .simp[go_sem,q,hp,putR,qk,aa];refine zA ?_;simp[go_sem];exact zG () ⟨tV,at_n 4 (by simp[go_sem,aa]) rfl au dc (zC sg rfl)⟩
   .obtain⟨j,hj⟩:∃j,k=j+1:=⟨k-1,om⟩;subst hj;obtain⟨w',ak,aL,aP⟩:=aK j rfl;have es:IntKind.i64.wrap (j:Int)=j:=i64_id om om;have ar:(j:Int)<ws.length:=om;refine(A4 dn).elim (λaa=>?_) (λaa=>?_);.simp[go_sem,q,hp,putR,qk,aa,an aa,es,ak,ar,aL,aP,wrR];refine zA ?_;simp[go_sem];exact zG () ⟨tV,at_n 4 (by simp[go_sem,aa,an aa]) rfl au dc (zC sg rfl)⟩
    .simp[go_sem,q,hp,putR,qk,aa,es,ak,ar,aL,aP,wrR];refine zA ?_;simp[go_sem];exact zG () ⟨tV,at_n 4 (by simp[go_sem,aa]) rfl au dc (zC sg rfl)⟩
  rintro _ _;refine zA ?_;refine(A4 dn).elim (λaa=>?_) (λaa=>?_);.simp[go_sem,aa];exact zG () ⟨tV,aN 3 hB⟩
  obtain⟨tn,row,aQ,aR,ao⟩:=xm2 (aJ aa) r0 r3;have g4:g<4:=om;obtain⟨_,aS⟩:=A1.1 ao;simp[go_sem,aa];refine yU [(11,0)] 4 rfl kR kR ?_;simp[go_sem,q,hp,putR,ao,aS,r0,g4];refine pD aQ ?_;simp[go_sem];refine yU [(10,0)] 4 rfl kR kR ?_;simp[go_sem,q,hp,putR,ao,aS,r0,g4];refine pD aR ?_;simp[go_sem,q,hp,putR];exact zG () ⟨tV,aN 3 hB⟩
end Go.Proofs.YtefbicjgbaaieaaGreat
