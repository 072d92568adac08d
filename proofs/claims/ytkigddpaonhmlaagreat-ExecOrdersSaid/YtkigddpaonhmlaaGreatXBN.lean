/-
  The law ExecOrders; used by the theorem at the end of the claim.
  Conditions: as the theorem states them.
-/
import Derived.Test.YtkigddpaonhmlaaGreatXBM
set_option maxHeartbeats 8000000
namespace Go.Proofs.YtkigddpaonhmlaaGreat
open Go Go.Vx R Go.Proofs.Tryz
set_option maxRecDepth 100000
def xC (P:List (List Pr)):List V:=P.map fun l=> .sl .ro (l.map prR)
theorem ya8 {P:List (List Pr)} {i:Nat} (h:i<P.length):(xC P)[i]? =some (.sl .ro ((P[i]).map prR)):=by simp[xC,h]
theorem zL5 (P:List (List Pr)):(xC P).length=P.length:=by simp[xC]
theorem yi9 (P:List (List Pr)) (h8:P.length=8):VCalls prog 15 [.ptr 0 0] [.box (xC P)] (fun r s=>r= .sl .ro ((vsG 0 P).map vwR)/\s= [.box (xC P)]):=by
 obtain⟨C,hC⟩:=eX (xC P)
 have hCl:C.length=8:=by rw[<-hC,zL5,h8]
 have hCg: ∀i,i<8->C[i]? =some (.sl .ro ((P.getD i []).map prR)):=fun i hi=>by
  rw[<-hC,ya8 (by omega),A5,A0 (by omega)];rfl
 have hCo: ∀n,ltOb n (.box C)=true:=fun n=>by rw[<-hC];simp[ltOb,ltC,ltK,xC]
 rw[hC]
 clear hC
 refine iV 1 func15 ntmps15 results15 fun c hc hb=> ?_
 refine zA ?_
 simp[go_sem]
 refine zn1 3 2 (by decide) (by simp[go_sem]) ?_
 refine zL (S:=Nat×List Vw) [0,3,4] (fun u=> [.ptr 0 0,.sl (.app 1) (u.2.map vwR),.int .i64 u.1]) (fun u=> [.box C,.app u.2.length 2]) (fun u=>8 - u.1) (fun u=>u.1<=8/\u.2=(vsG 0 P).take u.1) hc hb (0,[]) ⟨A3 _,by simp⟩ ?_ ?_
 .exact aN 2 (by rw[Am,hCo];rfl)
 rintro⟨i,out⟩ ⟨hi,ho⟩
 simp only at hi ho
 by_cases q:i<8
 rotate_left
 .have h2:out=vsG 0 P:=by rw[ho];exact Au (by rw[zZ8];omega)
  have q': ¬(i:Int)<8:=by omega
  refine zA ?_
  simp[go_sem,q']
  exact zr3 1 rfl (by simp[hCo]) (A2 _) zX ⟨by rw[h2],rfl⟩
 have hol:out.length=i:=by rw[ho,C2,zZ8];omega
 have ei:=zV q (by omega)
 have q':(i:Int)<8:=by omega
 have hget:(vsG 0 P)[i]? =some (i,P.getD i []):=by
  rw[yz3,A0 (by omega),A5,A0 (by omega)]
  simp
 have hnx:out++ [(i,P.getD i [])]=(vsG 0 P).take (i+1):=by
  rw[ho,Dg,hget];rfl
 obtain⟨p,hp⟩:=eX (P.getD i [])
 have hC:=hCg i q
 rw[hp]at hC hnx
 rw[A0 (by omega)]at hC
 have hC:=Option.some.inj hC
 refine zA ?_
 simp[go_sem,q,q',hC,hCl]
 refine zJ ⟨by omega,yC rfl⟩ ?_
 simp[go_sem,ei]
 exact zI (i+1,out++ [(i,p)]) ⟨by show 8 - (i+1)<8 - i;omega,⟨q,hnx⟩,aM 2 (by rw[Am,hCo];rfl) (zG (by simp[go_sem,vwR]) rfl)⟩
theorem xv3 (l:List Pr):xW (l.map prR)=true:=by simp[xW,prR,zg3]
theorem xi0 (l:List Pr):za3 (l.map prR) 0 l.length=l.map prR:=by
 unfold za3
 rw[Bd,Au (by simp),Bq]
 exact Bm fun _ _=>rfl
theorem yM8 (id:Nat) (rows:List (List V)) (P:List (List Pr)):(xC P).map (frzC id rows)=xC P:=by
 unfold xC
 rw[Bq]
 exact Bm fun _ _=>rfl
theorem yM9 (P:List (List Pr)) (i:Nat) (l:List Pr) (h:i<P.length):(xC P).take i++ .sl .ro (l.map prR)::(xC P).drop (i+1)=xC (P.set i l):=by
 have h2:=List.set_eq_take_append_cons_drop (l:=xC P) (i:=i) (a:=V.sl .ro (l.map prR))
 rw[if_pos (by rw[zL5];exact h)]at h2
 rw[<-h2]
 unfold xC
 rw[List.map_set]
theorem xj2 (P:List (List Pr)) (h8:P.length=8) (hPl: ∀l∈P,l.length<=10000) (qs:List (Int×List Wr)) (hq:qs.length<=100000) (hw: ∀q∈qs,q.2.length<=100000):VCalls prog 16 [.ptr 0 0,.sl .ro (qs.map putR)] [.box (xC P)] (fun r s=>r= .tup []/\s= [.box (xC (doP P qs))]):=by
 obtain⟨F,hF⟩:=eX (doP P qs)
 rw[hF]
 have hCo: ∀n (P:List (List Pr)),ltOb n (.box (xC P))=true:=fun n P=>by simp[ltOb,ltC,ltK,xC]
 refine iV 1 func16 ntmps16 results16 fun c hc hb=> ?_
 refine zA ?_
 simp[go_sem]
 refine zL (S:=Nat×List (List Pr)) [0,1,4] (fun u=> [.ptr 0 0,.sl .ro (qs.map putR),.int .i64 u.1]) (fun u=> [.box (xC u.2)]) (fun u=>qs.length - u.1) (fun u=>u.1<=qs.length/\u.2.length=8/\(∀l∈u.2,l.length<=10000+100000*u.1)/\doP u.2 (qs.drop u.1)=F) hc hb (0,P) ⟨A3 _,h8,fun l hl=>by have:=hPl l hl;simp only;omega,hF⟩ ?_ ?_
 .exact aN 1 (by rw[Am,hCo];rfl)
 rintro⟨i,P⟩ ⟨hi,h8,hPl,hinv⟩
 simp only at hi h8 hPl hinv
 by_cases q:i<qs.length
 rotate_left
 .have h2:P=F:=by rw[A9 (by omega)]at hinv;exact hinv
  refine zA ?_
  simp[go_sem,q]
  exact zr3 1 rfl (by simp[hCo]) (A2 _) (zC rfl) ⟨rfl,by rw[h2];rfl⟩
 have ei:=zV q (by omega)
 obtain⟨⟨g,ws⟩,hx⟩: ∃x,qs[i]=x:=⟨_,rfl⟩
 have hwl:=hw (g,ws) (hx▸A8 q)
 simp only at hwl
 rw[A6 q,hx]at hinv
 change doP (doQ P (g,ws)) (qs.drop (i+1))=F at hinv
 unfold doQ at hinv
 simp only at hinv
 by_cases qg:g<0∨8<=g
 .rw[if_pos qg]at hinv
  have fin: ∀l∈P,l.length<=10000+100000*(i+1):=fun l hl=>by have:=hPl l hl;omega
  rcases Classical.em (g<0)with q0|q0
  .have q0':decide (g<0)=true:=decide_eq_true q0
   refine zA ?_
   simp[go_sem,q,hx,putR,q0,ei]
   exact zI (i+1,P) ⟨by show qs.length - (i+1)<qs.length - i;omega,⟨q,h8,fin,hinv⟩,aN 1 (by rw[Am,hCo];rfl)⟩
  .have q0':decide (g<0)=false:=decide_eq_false q0
   have q8:8<=g:=by omega
   have q8':decide (8<=g)=true:=decide_eq_true q8
   refine zA ?_
   simp[go_sem,q,hx,putR,q0,q8,ei]
   exact zI (i+1,P) ⟨by show qs.length - (i+1)<qs.length - i;omega,⟨q,h8,fin,hinv⟩,aN 1 (by rw[Am,hCo];rfl)⟩
 rw[if_neg qg]at hinv
 obtain⟨gn,rfl⟩: ∃gn:Nat,g=gn:=⟨g.toNat,by omega⟩
 have hgn:gn<8:=by omega
 have q0: ¬(gn:Int)<0:=by omega
 have q8: ¬8<=(gn:Int):=by omega
 have q0':decide ((gn:Int)<0)=false:=decide_eq_false q0
 have q8':decide (8<=(gn:Int))=false:=decide_eq_false q8
 refine zA ?_
 simp[go_sem,q,hx,putR,q0',q8]
 refine zL (S:=Nat×List (List Pr)) [0,1,4,5] (fun u=> [.ptr 0 0,.sl .ro (qs.map putR),.int .i64 i,.int .i64 u.1]) (fun u=> [.box (xC u.2)]) (fun u=>ws.length - u.1) (fun u=>u.1<=ws.length/\u.2.length=8/\(∀l∈u.2,l.length<=10000+100000*i+u.1)/\doP ((ws.drop u.1).foldl (doR gn) u.2) (qs.drop (i+1))=F) hc hb (0,P) ⟨A3 _,h8,hPl,hinv⟩ ?_ ?_
 .exact aN 1 (by rw[Am,hCo];rfl)
 rintro⟨k,P⟩ ⟨hk,h8,hPl,hinv⟩
 simp only at hk h8 hPl hinv
 by_cases qk:k<ws.length
 rotate_left
 .rw[A9 (by omega),Eh]at hinv
  refine zA ?_
  simp[go_sem,q,hx,putR,qk,ei]
  exact zI (i+1,P) ⟨by show qs.length - (i+1)<qs.length - i;omega,⟨q,h8,fun l hl=>by have:=hPl l hl;simp only;omega,hinv⟩,aN 1 (by rw[Am,hCo];rfl)⟩
 have ek:=zV qk (by omega)
 obtain⟨⟨⟨wr,wk⟩,wd,wb⟩,hy⟩: ∃x,ws[k]=x:=⟨_,rfl⟩
 rw[A6 qk,hy,Be]at hinv
 obtain⟨p,hp⟩:=eX (P[gn]'(by omega))
 have hpl:=hPl p (hp▸A8 _)
 have hdo:doR gn P ⟨(wr,wk),wd,wb⟩=P.set gn (insP wk wb wd p):=by
  unfold doR xr4
  rw[Ax,A5,A0 (by omega),hp];rfl
 rw[hdo]at hinv
 have hCl:(xC P).length=8:=by rw[zL5,h8]
 have hCg:(xC P)[gn]'(by omega)= .sl .ro (p.map prR):=by
  have:=ya8 (P:=P) (i:=gn) (by omega)
  rw[A0 (by omega),hp]at this
  exact Option.some.inj this
 have hCq:(xC P)[gn]? =some (.sl .ro (p.map prR)):=by rw[A0 (by omega),hCg]
 have hpd:p.length<40000000000:=by omega
 have ok3: ∀a:List Pr,([.box (xC P),.box [.str wk,.bool wd,.str wb],.lst (a.map prR) 2]:St).all (ltOb 3)=true:=fun a=>by rw[Am,hCo,B8];simp[ltOb,ltC,ltK,prR]
 obtain⟨Z,hZ⟩:=eX (insP wk wb wd p)
 rw[hZ]at hinv
 have hZl:Z.length<=p.length+1:=by
  rw[<-hZ,(zS4 wk wb wd p).length_eq,Aw]
  have:=Bk (fun x:Pr=> !decide (x.1=wk)) p
  split<;>simp<;>omega
 refine zS (zA ?_)
 simp[go_sem,q,hx,putR,qk]
 refine zS (zg0 (zS (zA ?_)))
 simp[go_sem,q,hx,putR,qk,hy,wrR]
 refine zS (zA ?_)
 simp[go_sem]
 refine zJ9 7 2 (by decide) (by simp[go_sem]) ?_
 refine zS (zA ?_)
 simp[go_sem]
 refine zS ?_
 refine zS ?_
 refine yU [] 3 rfl (by kernel_rfl) (by kernel_rfl) ?_
 simp[go_sem,q,hx,putR]
 refine zJ (by omega) ?_
 simp[go_sem,hCq]
 refine zg0 ?_
 refine zL (S:=Nat×List Pr×Bool) [0,1,4,5,6,7,8,60,61,62] (fun u=> [.ptr 0 0,.sl .ro (qs.map putR),.int .i64 i,.int .i64 k,.ptr 1 0,.lsv 2 2 u.2.1.length 0 u.2.1.length,.bool u.2.2,.sl .ro (p.map prR),.int .i64 p.length,.int .i64 u.1])
   (fun u=> [.box (xC P),.box [.str wk,.bool wd,.str wb],.lst (u.2.1.map prR) 2]) (fun u=>p.length - u.1)
   (fun u=>u.1<=p.length/\u.2.1.length<=2*u.1/\u.2.1++insP wk wb u.2.2 (p.drop u.1)=Z) hc hb (0,[],wd) ⟨A3 _,A3 _,hZ⟩ ?_ ?_
 .exact aN 3 (by rw[Am,hCo];rfl)
 .rintro⟨j,acc,b⟩ ⟨hj,hal,hin⟩
  simp only at hj hal hin
  by_cases qj:j<p.length
  rotate_left
  .rw[A9 (by omega),insP]at hin
   refine zA ?_
   simp[go_sem,qj]
   refine zc0 (S:=Unit) [0,1,4,5,7] (fun _=> [.ptr 0 0,.sl .ro (qs.map putR),.int .i64 i,.int .i64 k,.lsv 2 2 Z.length 0 Z.length]) (fun _=> [.box (xC P),.box [.str wk,.bool wd,.str wb],.lst (Z.map prR) 2]) (fun _=>True) hc hb ?_ ?_
   .cases b with
    |true=>
     have hz:acc=Z:=by simpa using hin
     refine zA ?_
     simp[go_sem]
     exact zI () ⟨trivial,at_n 3 (by simp[go_sem,hz]) rfl (ok3 _) (by decide) (zG (by simp[go_sem,hz]) rfl)⟩
    |false=>
     have hz:acc++ [(wk,wb)]=Z:=by simpa using hin
     have hzl:Z.length=acc.length+1:=by rw[<-hz];simp
     refine zA ?_
     simp[go_sem,Bu]
     refine zJ ⟨yC rfl,by omega⟩ ?_
     simp[go_sem]
     exact zI () ⟨trivial,at_n 3 (by simp[go_sem,<-hz,prR]) rfl (ok3 _) (by decide) (zG (by simp[go_sem,hzl]) rfl)⟩
   rintro _ _
   refine zp0 2 2 (Z.map prR) rfl (xv3 Z) ?_
   refine yU [] 3 (by simp[zl7]) (by kernel_rfl) (by kernel_rfl) ?_
   simp[go_sem,frzS,frzA,frzC,frzK,zl7,zO5,q,hx,putR,xi0,yM8]
   refine zJ (by omega) ?_
   have h7:gn<=7:=by omega
   simp[go_sem,hCl,h7,yM9 P gn Z (by omega)]
   have fin2: ∀l∈P.set gn Z,l.length<=10000+100000*i+(k+1):=fun l hl=>by
    rcases Cc hl with hl|rfl
    .have:=hPl l hl;omega
    .omega
   refine zA ?_
   simp[go_sem,ek]
   exact zI (k+1,P.set gn Z) ⟨by show ws.length - (k+1)<ws.length - k;omega,⟨qk,by simp[h8],fin2,hinv⟩,aN 1 (by rw[Am,hCo];rfl)⟩
  have ej:=zV qj (by omega)
  obtain⟨⟨xk,xd⟩,hp2⟩: ∃x,p[j]=x:=⟨_,rfl⟩
  rw[A6 qj,hp2,insP]at hin
  simp only at hin
  have fin: ∀(acc':List Pr) (b':Bool),acc'.length<=acc.length+2->acc'++insP wk wb b' (p.drop (j+1))=Z->p.length - (j+1)<p.length - j/\(j+1<=p.length/\acc'.length<=2*(j+1)/\acc'++insP wk wb b' (p.drop (j+1))=Z):=fun acc' b' h1 h2=>⟨by omega,qj,by omega,h2⟩
  by_cases e:xk=wk
  .subst e
   rw[zc2]at hin
   have hn:(xk !=xk)=false:=by simp
   have hl:Op.bytesLess xk xk=false:=zc2 _
   obtain⟨g1,g2⟩:=fin acc b (by omega) (by simpa using hin)
   cases b with
   |true=>
    refine zA ?_
    simp[go_sem,qj,hp2,prR,ej]
    exact zI (j+1,acc,true) ⟨g1,g2,aN 3 (ok3 _)⟩
   |false=>
    refine zA ?_
    simp[go_sem,qj,hp2,prR,hl,ej]
    exact zI (j+1,acc,false) ⟨g1,g2,aN 3 (ok3 _)⟩
  have hn:(xk==wk)=false:=by simpa using e
  have hn': ¬xk=wk:=e
  rw[if_neg e]at hin
  have ok4: ∀acc':List Pr,acc'.length<=2*p.length+2->(acc'.length+1)*32<=140737488355328:=fun _ h=>by omega
  cases b with
  |true=>
   obtain⟨g1,g2⟩:=fin (acc++ [(xk,xd)]) true (by simp) (by simpa using hin)
   refine zA ?_
   simp[go_sem,qj,hp2,prR,hn,Bu]
   refine zJ ⟨yC rfl,by omega⟩ ?_
   simp[go_sem,ej]
   exact zI (j+1,acc++ [(xk,xd)],true) ⟨g1,g2,at_n 3 (by simp[go_sem,prR]) rfl (ok3 _) (by decide) (zG (by simp[go_sem]) rfl)⟩
  |false=>
   by_cases hl:Op.bytesLess wk xk=true
   .rw[hl]at hin
    obtain⟨g1,g2⟩:=fin (acc++ [(wk,wb),(xk,xd)]) true (by simp) (by simpa using hin)
    have hl2:Op.bytesLess xk wk=false:=by
     cases z:Op.bytesLess xk wk with
     |false=>rfl
     |true=>have:=zp1 _ _ _ hl z;rw[zc2]at this;cases this
    refine zA ?_
    simp[go_sem,qj,hp2,prR,hn,hl2,Bu]
    refine zJ ⟨yC rfl,by omega⟩ ?_
    simp[go_sem,hn,Bu]
    refine zJ ⟨yC rfl,by omega⟩ ?_
    simp[go_sem,ej]
    exact zI (j+1,acc++ [(wk,wb),(xk,xd)],true) ⟨g1,g2,at_n 3 (by simp[go_sem,prR]) rfl (ok3 _) (by decide) (zG (by simp[go_sem]) rfl)⟩
   .have hl':Op.bytesLess wk xk=false:=by simpa using hl
    rw[hl']at hin
    obtain⟨g1,g2⟩:=fin (acc++ [(xk,xd)]) false (by simp) (by simpa using hin)
    have hl2:Op.bytesLess xk wk=true:=by
     rcases zt5 xk wk with z|z|z
     .exact z
     .exact absurd z e
     .exact absurd z hl
    refine zA ?_
    simp[go_sem,qj,hp2,prR,hn,hl2,Bu]
    refine zJ ⟨yC rfl,by omega⟩ ?_
    simp[go_sem,ej]
    exact zI (j+1,acc++ [(xk,xd)],false) ⟨g1,g2,at_n 3 (by simp[go_sem,prR]) rfl (ok3 _) (by decide) (zG (by simp[go_sem]) rfl)⟩
theorem zC8:Pure prog 11 [] (schR tabsS):=by
 have hsc:=xl0
 refine iV 0 func11 ntmps11 results11 fun c hc hb=> ?_
 refine zA ?_
 simp[go_sem]
 refine zD hsc cB (zH rfl) rfl ?_
 simp[go_sem,schS]
 exact zQ (r:=schR tabsS) xw7 ⟨rfl,rfl⟩
def tx22:List UInt8:= [73,78,83,69,82,84,32,73,78,84,79,32,71,32,86,65,76,85,69,83,32,40,39,97,39,44,32,49,44,32,78,85,76,76,41,59,32,83,69,76,69,67,84,32,78,32,70,82,79,77,32,71]
theorem xW3:(lotF (zd5 tx22).1 []).1=(0,0,[⟨1,[]⟩,⟨0,[[⟨2,1,[]⟩]]⟩]):=by kernel_rfl
theorem xv5:(zA2 (zd5 tx22).1 []).map (fun q=>q.2.length)= [1]:=by kernel_rfl
theorem yy0 (lot:GLot) (was:List Ln):runV lot was= .tup [.agg (ansR (lotF lot was).1),.sl .ro ((zA2 lot was).map putR)]:=rfl
theorem xc8:Pure prog 4 [] (.bool true):=by
 have hl:=xk9 tx22 (by decide)
 have hr:=xw6 (zd5 tx22).1 (yh4 tx22) [] (by decide) (fun x hx=>by cases hx) (by decide)
 rw[yy0,show wW []= [] from rfl,xW3]at hr
 obtain⟨q,hq⟩: ∃q,zA2 (zd5 tx22).1 []= [q]:=by
  have h:=xv5
  cases e:zA2 (zd5 tx22).1 []with
  |nil=>rw[e]at h;cases h
  |cons x l=>cases l with
   |nil=>exact⟨x,rfl⟩
   |cons y l=>rw[e]at h;simp at h
 have hql:q.2.length=1:=by have h:=xv5;rw[hq]at h;simpa using h
 rw[hq]at hr
 obtain⟨L,hL⟩:=eX ((zd5 tx22).1)
 rw[hL]at hl hr
 obtain⟨g,ws⟩:=q
 simp only at hql
 have hsc:=zC8
 unfold tx22 at hl
 refine iV 0 func4 ntmps4 results4 fun c hc hb=> ?_
 refine zA ?_
 simp[go_sem]
 refine zD hsc cB (zH rfl) rfl ?_
 simp[go_sem,schR]
 refine yU [(1,0),(2,0)] 1 rfl (by kernel_rfl) (by kernel_rfl) ?_
 simp[go_sem]
 refine zW hl cB (fun _=>zH rfl) rfl ?_
 simp[go_sem]
 refine zW hr cB (fun _=>⟨zC rfl,zC rfl,zX,trivial⟩) rfl ?_
 simp[go_sem,ansR,Ot.row,putR,hql]
 exact zQ (zC rfl) ⟨rfl,rfl⟩
def yU0 (x:List GAct):List V:= [.sl .ro (x.map GAct.row)]
theorem StI.small {n:Nat} {P:List (List Pr)} (h:StI n P) (hn:n<=7500): ∀l∈P,l.length<=10000:=fun l hl=>by
 obtain⟨i,hi,rfl⟩:=List.getElem_of_mem hl
 have hm:(i,P[i])∈vsG 0 P:=by
  refine B1 (i:=i) ?_
  rw[yz3,A0 hi,Aa];rfl
 have:=((h.vs hn).2.1 _ hm).2.1
 simp only at this
 omega
theorem yK0 {n:Nat} {P:List (List Pr)} (h:StI n P) (hn:n<=7500) {lot:GLot} (hl:LOk lot):
  (zA2 lot (wW (vsG 0 P))).length<=100000/\(∀q∈zA2 lot (wW (vsG 0 P)),q.2.length<=100000)/\StI (n+240) (doP P (zA2 lot (wW (vsG 0 P)))):=by
 obtain⟨m,hT⟩:=yf8 (vsG 0 P)
 have h1:=h.len
 have hlen:(wW (vsG 0 P)).length<=(yP (vsG 0 P)).length:=hT.len
 obtain⟨hp1,hp2⟩:=xv6 hl hT.now (fun x hx=>⟨hT.now.rows x hx,(hT.lines x hx).1⟩) (by show(wW (vsG 0 P)).length<=7500;omega)
 exact⟨hp1,hp2,h.step hl⟩
def P0:List (List Pr):= [[],[],[],[],[],[],[],[]]
theorem zb3 (n:Nat) (P:List (List Pr)):ltOb n (.box (xC P))=true:=by simp[ltOb,ltC,ltK,xC]
def frz8 (v:V):V:=frzS 8 [] (frzS 7 [] (frzS 6 [] (frzS 5 [] (frzS 4 [] (frzS 3 [] (frzS 2 [] (frzS 1 [] v)))))))
theorem xq4 (id:Nat) (rows:List (List V)) (k:IntKind) (x:Int):frzS id rows (.int k x)= .int k x:=rfl
theorem xq2 (k:IntKind) (x:Int):frz8 (.int k x)= .int k x:=by simp only[frz8,xq4]
theorem xq5 (id:Nat) (rows:List (List V)) (i o:Nat):frzS id rows (.ptr i o)= .ptr i o:=rfl
theorem xq3 (i o:Nat):frz8 (.ptr i o)= .ptr i o:=by simp only[frz8,xq5]
theorem xD7 (id:Nat) (rows:List (List V)) (rs:List (List V)):frzS id rows (.sl .ro rs)= .sl .ro rs:=rfl
theorem xD6 (rs:List (List V)):frz8 (.sl .ro rs)= .sl .ro rs:=by simp only[frz8,xD7]
theorem xz7 {P:Program} {c:Ctx} {nt:Nat} {e:Env} {Q:QT} {y:Code} (hy:wVW P c nt y Q fx fx (fun t=>frz8 (e t)) [.box (xC P0),.dead,.dead,.dead,.dead,.dead,.dead,.dead,.dead]):wVW P c nt y Q fx fx e [.box [.sl .full [],.sl .full [],.sl .full [],.sl .full [],.sl .full [],.sl .full [],.sl .full [],.sl .full []]]:=by
 refine zq6 0 0 2 _ (by decide) rfl rfl ?_
 refine zp0 1 2 [] rfl rfl ?_
 refine zq6 0 1 2 _ (by decide) rfl rfl ?_
 refine zp0 2 2 [] rfl rfl ?_
 refine zq6 0 2 2 _ (by decide) rfl rfl ?_
 refine zp0 3 2 [] rfl rfl ?_
 refine zq6 0 3 2 _ (by decide) rfl rfl ?_
 refine zp0 4 2 [] rfl rfl ?_
 refine zq6 0 4 2 _ (by decide) rfl rfl ?_
 refine zp0 5 2 [] rfl rfl ?_
 refine zq6 0 5 2 _ (by decide) rfl rfl ?_
 refine zp0 6 2 [] rfl rfl ?_
 refine zq6 0 6 2 _ (by decide) rfl rfl ?_
 refine zp0 7 2 [] rfl rfl ?_
 refine zq6 0 7 2 _ (by decide) rfl rfl ?_
 refine zp0 8 2 [] rfl rfl ?_
 exact hy
def tblT:GTable:=tabsS.getD 0 noT
def inT (x:Ln):Bool:=([0,1]:List Int).any (fun g=>(wJ 0 g).1==x.r)&&(!Op.bytesLess x.k (allF 3 0).1&&Op.bytesLess x.k (allF 3 0).2)
def chkO (oc:Int) (down:Bool) (lim:Int) (tx:List UInt8):Bool:=
 match (zd5 tx).1.stmts with
 | [s0]=>decide ((zx3 (zd5 tx).1).2=0)&&(decide (s0.kind=1)&&(decide (zd6 s0.table=0)&&(decide ((s0.items.head?.map (·.kind))=some 1)&&(!zD9 s0.items&&(!s0.filtered&&(decide (colF tblT s0.order=oc)&&(s0.down==down&&(decide (s0.limit=lim)&&(decide (za5 0 s0= [0,1])&&decide (zm0 tabsS 0 s0=allF 3 0))))))))))
 |_=>false
def txT:List UInt8:= [83,69,76,69,67,84,32,42,32,70,82,79,77,32,84]
def txN (down:Bool):List UInt8:=txT++ [32,79,82,68,69,82,32,66,89,32,78]++(if down=true then [32,68,69,83,67]else [])
def txL (down:Bool) (k:Nat):List UInt8:=txN down++ [32,76,73,77,73,84,32]++digF k
theorem xU8:chkO (-1) false (-1) txT=true:=by kernel_rfl
theorem xU7:([false,true].all fun d=>chkO 3 d (-1) (txN d))=true:=by kernel_rfl
theorem xU6:([false,true].all fun d=>(List.range 12).all fun k=>chkO 3 d k (txL d k))=true:=by kernel_rfl
theorem yh6 {T:GTable} {items:List GItem} (h:(items.head?.map (·.kind))=some 1): ∀{l:List Ln} {acc:List (List GValue)},zv0 T items l acc=(acc++l.map (·.v),0)
 | [],acc=>by rw[zv0];simp
 |x::l,acc=>by rw[zv0,if_pos h,yh6 h];simp
theorem xd2 (l:List Ln):chgF l l= []:=by
 unfold chgF
 have h1:(l.filter fun x=> !atF l x.at)= []:=by
  rw[List.filter_eq_nil_iff]
  intro x hx
  have:atF l x.at=true:=atF_iff.2 (Ac.2 ⟨x,hx,rfl⟩)
  simp[this]
 have h2:(l.filter fun x=> !(l.any fun y=>decide (y.at=x.at)&&decide (yL y.v=yL x.v)))= []:=by
  rw[List.filter_eq_nil_iff]
  intro x hx
  have:(l.any fun y=>decide (y.at=x.at)&&decide (yL y.v=yL x.v))=true:=Da.2 ⟨x,hx,by simp⟩
  simp[this]
 rw[h1,h2];rfl
theorem xS8 {oc:Int} {down:Bool} {lim:Int} {tx:List UInt8} (h:chkO oc down lim tx=true) (was:List Ln):
  (lotF (zd5 tx).1 was).1=(0,0,[⟨0,(limF lim (if 0<=oc then zg4 oc.toNat down (was.filter inT)else was.filter inT)).map (·.v)⟩])/\zA2 (zd5 tx).1 was= []:=by
 unfold chkO at h
 split at h
 rotate_left
 .cases h
 rename_i st hst
 simp only[A4,Ck,decide_eq_true_eq,beq_iff_eq]at h
 obtain⟨h1,h2,h3,h4,h5,h6,h7,h8,h9,h10,h11⟩:=h
 have hbox:was.filter (zn4 0 st)=was.filter inT:=by
  congr 1
  funext x
  unfold zn4 inT
  rw[h10,h11]
 have hmet:metF 0 tblT st was=(was.filter inT,0):=by
  unfold metF
  rw[h6,if_neg (by decide),hbox]
 have hdo:doS st was=(⟨0,(limF lim (if 0<=oc then zg4 oc.toNat down (was.filter inT)else was.filter inT)).map (·.v)⟩,was,0):=by
  unfold doS
  simp only[h3]
  rw[if_neg (by omega),show((0:Int).toNat:Int)=0 from rfl,show tabsS.getD (0:Int).toNat noT=tblT from rfl,hmet,if_neg (by simp),if_pos h2]
  unfold selF
  rw[h5,if_neg (by decide),h7,h8,h9]
  simp only[yh6 h4,Ce]
  rfl
 have hL:doL [st] 0 [] was=((0,0,[⟨0,(limF lim (if 0<=oc then zg4 oc.toNat down (was.filter inT)else was.filter inT)).map (·.v)⟩]),was):=by
  rw[doL,hdo]
  simp only[ne_eq,not_true_eq_false,if_false,doL,Ce]
 have hlot:lotF (zd5 tx).1 was=((0,0,[⟨0,(limF lim (if 0<=oc then zg4 oc.toNat down (was.filter inT)else was.filter inT)).map (·.v)⟩]),was):=by
  unfold lotF
  rw[if_neg (by rw[h1];decide),hst,hL]
  rfl
 refine⟨by rw[hlot], ?_⟩
 unfold zA2
 rw[hlot,if_neg (by simp),xd2]
 rfl
theorem yR1 {was:List Ln} (hk:LsK was) (hr:Rise (was.map Ln.at)):((was.filter inT).map (·.v)).Nodup:=by
 have h1:(was.filter inT).Pairwise fun x y=>x.at≠y.at:=Cl.1 (List.Nodup.sublist ((C0).map _) hr.nodup)
 refine Cl.2 ?_
 have h2: ∀x∈was.filter inT,keyS 0 tblT x.v=(x.r,x.k,0):=fun x hx=>by
  obtain⟨hx1,hx2⟩:=B9.1 hx
  obtain⟨ho,hK⟩:=hk x hx1
  unfold inT at hx2
  rw[A4]at hx2
  have hr:x.r=0∨x.r=1:=by
   have:=hx2.1
   simp[wJ]at this
   omega
  exact yX4 ho hK (tn:=0) (by rcases hr with e|e<;>rw[e]<;>rfl) (by rfl)
 refine(List.Pairwise.and_mem.1 h1).imp fun{x y} h e=> ?_
 obtain⟨hx,hy,hne⟩:=h
 have:=(h2 x hx).symm.trans (e▸h2 y hy)
 exact hne (by unfold Ln.at;simp only[Prod.mk.injEq]at this⊢;exact⟨this.1,this.2.1⟩)
theorem xx6 (c:Nat) (down:Bool) (l:List Ln) (i:Nat) (h:i+1<(zg4 c down l).length):
  ∃a b:Nat,∃(ha:a<l.length) (hb:b<l.length),(zg4 c down l)[i]'(by omega)=l[a]/\(zg4 c down l)[i+1]=l[b]/\cmpC c down l[a] l[b]<=0/\(cmpC c down l[a] l[b]=0->a<b):=by
 obtain⟨hp,hs⟩:=yi8 (yv9 ln0 c down l) l.length
 have e:=yJ9 ln0 c down l
 obtain⟨I,hI⟩:=eX (zx9 (ltR ln0 c down l) l.length)
 rw[hI]at hp hs e
 have hIl:i+1<I.length:=by rw[e]at h;simpa using h
 have hin: ∀j (hj:j<I.length),I[j]<l.length:=fun j hj=>by
  have:=(hp.mem_iff).1 (A8 hj)
  simpa using this
 refine⟨I[i],I[i+1],hin i (by omega),hin (i+1) hIl, ?_, ?_, ?_⟩
 .simp only[e,Ct]
  rw[A5,A0 (hin i (by omega))];rfl
 .simp only[e,Ct]
  rw[A5,A0 (hin (i+1) hIl)];rfl
 .have ht:=List.pairwise_iff_getElem.1 hs i (i+1) (by omega) hIl (by omega)
  have ga:l.getD I[i] ln0=l[I[i]]'(hin i (by omega)):=by rw[A5,A0 (hin i (by omega))];rfl
  have gb:l.getD I[i+1] ln0=l[I[i+1]]'(hin (i+1) hIl):=by rw[A5,A0 (hin (i+1) hIl)];rfl
  rcases ht with ht|⟨ht,hab⟩
  .rw[yv8,ga,gb]at ht
   have hneg:cmpC c down (l[I[i]]'(hin i (by omega))) (l[I[i+1]]'(hin (i+1) hIl))<0:=by
    unfold cmpC
    cases down with
    |true=>
     simp only[if_true]at ht⊢
     have:=(zI5 ((l[I[i]]'(hin i (by omega))).v.getD c zeroV) ((l[I[i+1]]'(hin (i+1) hIl)).v.getD c zeroV)).2.2 ht
     omega
    |false=>
     simp only[Bf,if_false]at ht⊢
     exact(zI5 _ _).1.2 ht
   exact⟨by omega,fun h0=>by omega⟩
  .unfold ltR at ht
   rw[ga,gb]at ht
   have:=of_decide_eq_false ht
   exact⟨by omega,fun _=>hab⟩
def rowV (r:List GValue):List V:= [.sl .ro (r.map GValue.row)]
theorem yr4 (x y:List GValue) (hx:x.length<=100000):Pure prog 9 [.sl .ro [rowV x],.sl .ro [rowV y]] (.bool (decide (x=y))):=by
 obtain⟨M,hM⟩:=eX (decide (x=y))
 rw[hM]
 have ret: ∀(b:Bool) (σ:St),b=M->wret (some (.bool b)) 0 (fun r s=>r= .bool M/\s= []) σ:=fun b σ h=>by subst h;exact zQ (zC rfl) ⟨rfl,rfl⟩
 have no:x≠y->false=M:=fun h=>by rw[<-hM];exact(decide_eq_false h).symm
 refine iV 0 func9 ntmps9 results9 fun c hc hb=> ?_
 refine zA ?_
 simp[go_sem,rowV]
 refine zL (S:=Nat) [0,1,5] (fun i=> [.sl .ro [[V.sl .ro (x.map GValue.row)]],.sl .ro [[V.sl .ro (y.map GValue.row)]],.int .i64 i]) (fun _=> []) (fun i=>1 - i) (fun i=>i=0∨i=1/\x=y) hc hb 0 (.inl rfl) ?_ ?_
 .exact aO
 rintro i hi
 rcases hi with rfl|⟨rfl,e⟩
 rotate_left
 .refine zA ?_
  simp[go_sem]
  exact ret _ _ (by rw[<-hM];exact(decide_eq_true e).symm)
 by_cases hl:x.length=y.length
 rotate_left
 .have hl2: ¬(x.length:Int)=y.length:=by omega
  have hl':((x.length:Int) !=y.length)=true:=bne_iff_ne.2 hl2
  have hl3:((x.length:Int)==y.length)=false:=beq_eq_false_iff_ne.2 hl2
  refine zA ?_
  simp[go_sem]
  refine yU [] 0 rfl (by kernel_rfl) (by kernel_rfl) ?_
  simp[go_sem,hl,hl2,hl',hl3]
  exact ret _ _ (no fun e=>hl (by rw[e]))
 refine zA ?_
 simp[go_sem]
 refine yU [] 0 rfl (by kernel_rfl) (by kernel_rfl) ?_
 simp[go_sem,hl]
 refine zL (S:=Nat) [0,1,5,6] (fun j=> [.sl .ro [[V.sl .ro (x.map GValue.row)]],.sl .ro [[V.sl .ro (y.map GValue.row)]],.int .i64 0,.int .i64 j]) (fun _=> []) (fun j=>x.length - j) (fun j=>j<=x.length/\x.take j=y.take j) hc hb 0 ⟨A3 _,rfl⟩ ?_ ?_
 .exact aO
 rintro j ⟨hj,htk⟩
 by_cases qj:j<x.length
 rotate_left
 .have e:x=y:=by
   rw[Au (by omega),Au (by omega)]at htk
   exact htk
  have qy: ¬j<y.length:=by omega
  refine zA ?_
  simp[go_sem,qj,qy,hl]
  exact zI 1 ⟨by omega,.inr ⟨rfl,e⟩,aO⟩
 have qy:j<y.length:=by omega
 have ej:=zV qj (by omega)
 obtain⟨⟨vk,vn,vs⟩,hv⟩: ∃z,x[j]=z:=⟨_,rfl⟩
 obtain⟨⟨uk,un,us⟩,hu⟩: ∃z,y[j]=z:=⟨_,rfl⟩
 refine zA ?_
 simp[go_sem,qj,qy,hl]
 refine yU [] 0 rfl (by kernel_rfl) (by kernel_rfl) ?_
 simp[go_sem,qj,qy,hv,hu,GValue.row,ej]
 refine zT (fun h=> ?_) (fun h=> ?_)
 .simp[go_sem]
  refine ret _ _ (no fun e=> ?_)
  subst e
  rw[hv]at hu
  cases hu
  simp at h
 .simp[go_sem,ej]
  have e:(⟨vk,vn,vs⟩:GValue)=⟨uk,un,us⟩:=by simp at h;simp[h]
  exact zI (j+1) ⟨by omega,⟨by omega,by rw[Ci qj,Ci qy,htk,hv,hu,e]⟩,aO⟩
theorem ye3 {A:List (List GValue)} (hn:A.Nodup): ∀{a:Nat} (h:a<A.length) (i:Nat),wN (fun z=>decide (z=A[a])) A i=(i+a:Nat):=by
 induction A with
 |nil=>intro a h;simp at h
 |cons z A ih=>
  intro a h i
  rw[C1]at hn
  cases a with
  |zero=>rw[wN,if_pos (by simp)];simp
  |succ a=>
   have h2:a<A.length:=by simpa using h
   have hz: ¬z=A[a]:=fun e=>hn.1 (e▸A8 h2)
   rw[wN,List.getElem_cons_succ,if_neg (by simpa using hz),ih hn.2 h2 (i+1)]
   congr 1;omega
def allR (was:List Ln):List (List GValue):=(was.filter inT).map (·.v)
def zn5 (down:Bool) (was:List Ln):List (List GValue):=(zg4 3 down (was.filter inT)).map (·.v)
def cmpR (down:Bool) (x y:List GValue):Int:=if down=true then -(cmpV (x.getD 3 zeroV) (y.getD 3 zeroV))else cmpV (x.getD 3 zeroV) (y.getD 3 zeroV)
theorem xi8 (down:Bool) (was:List Ln):(zn5 down was).length=(allR was).length:=by
 unfold zn5 allR
 rw[Aq,Aq,(zD6 _ _ _).length_eq]
theorem yS0 {was:List Ln} (hk:LsK was) (down:Bool): ∀r∈zn5 down was,r.length=4:=fun r hr=>by
 obtain⟨x,hx,rfl⟩:=Ac.1 hr
 have hx2:=(zD6 _ _ _).mem_iff.1 hx
 obtain⟨hx3,hx4⟩:=B9.1 hx2
 obtain⟨tn,T,htn,hT,hm⟩:=(hk x hx3).1.tab
 unfold inT at hx4
 rw[A4]at hx4
 have hr:x.r=0∨x.r=1:=by
  have:=hx4.1
  simp[wJ]at this
  omega
 have h0:(ofS x.r).1=0:=by rcases hr with e|e<;>rw[e]<;>rfl
 have:tn=0:=by omega
 subst this
 have hT2:T=tblT:=by
  have:tabsS[0]? =some tblT:=rfl
  rw[this]at hT;exact(Option.some.inj hT).symm
 subst hT2
 exact zj4 hm
theorem xx2 (down:Bool) (was:List Ln) (i:Nat) (h:i<(zn5 down was).length): ∃a:Nat,∃ha:a<(allR was).length,(zn5 down was)[i]=(allR was)[a]:=by
 have hm:(zn5 down was)[i]∈allR was:=by
  have:=A8 h
  unfold zn5 at this
  exact((zD6 _ _ _).map _).mem_iff.1 this
 obtain⟨a,ha,e⟩:=List.getElem_of_mem hm
 exact⟨a,ha,e.symm⟩
theorem yS1 (down:Bool) (was:List Ln) (i:Nat) (h:i+1<(zn5 down was).length): ∃a b:Nat,∃(ha:a<(allR was).length) (hb:b<(allR was).length),(zn5 down was)[i]'(by omega)=(allR was)[a]/\(zn5 down was)[i+1]=(allR was)[b]/\
  cmpR down ((allR was)[a]) ((allR was)[b])<=0/\(cmpR down ((allR was)[a]) ((allR was)[b])=0->a<b):=by
 have h2:i+1<(zg4 3 down (was.filter inT)).length:=by unfold zn5 at h;simpa using h
 obtain⟨a,b,ha,hb,e1,e2,e3,e4⟩:=xx6 3 down (was.filter inT) i h2
 refine⟨a,b,by unfold allR;simpa using ha,by unfold allR;simpa using hb, ?_, ?_, ?_, ?_⟩
 .simp only[zn5,allR,Ct,e1]
 .simp only[zn5,allR,Ct,e2]
 .simp only[allR,Ct];exact e3
 .simp only[allR,Ct];exact e4
theorem xB8 (was:List Ln):(allR was).length<=was.length:=by unfold allR;rw[Aq];exact Bk _ _
theorem yM4 {was:List Ln} (hk:LsK was): ∀r∈allR was,r.length<=20:=fun r hr=>by
 obtain⟨x,hx,rfl⟩:=Ac.1 hr
 exact(yf9 (hk x (B9.1 hx).1).1).2
theorem xu9 {was:List Ln} (hk:LsK was) (hr:Rise (was.map Ln.at)) (down:Bool): ∃A Z:List (List GValue),allR was=A/\zn5 down was=Z/\A.Nodup/\A.length<=was.length/\(∀r∈A,r.length<=20)/\Z.length=A.length/\(∀r∈Z,r.length=4)/\
  (∀(i:Nat) (h:i<Z.length),∃a:Nat,∃ha:a<A.length,Z[i]=A[a])/\
  (∀(i:Nat) (h:i+1<Z.length),∃a b:Nat,∃(ha:a<A.length) (hb:b<A.length),Z[i]=A[a]/\Z[i+1]=A[b]/\cmpR down A[a] A[b]<=0/\(cmpR down A[a] A[b]=0->a<b)):=
 ⟨allR was,zn5 down was,rfl,rfl,yR1 hk hr,xB8 was,yM4 hk,xi8 down was,yS0 hk down,xx2 down was,yS1 down was⟩
theorem yw8 {A:List (List GValue)} {i:Nat} (h:i<A.length):((A.map rowV).take (i+1)).drop i= [rowV A[i]]:=by
 rw[List.drop_take,A6 (by simpa using h)]
 simp
theorem yi2 (A:List (List GValue)):uni 1 (A.map rowV):=fun r hr=>by
 obtain⟨x,_,rfl⟩:=Ac.1 hr
 rfl
theorem xG6 (A:List (List GValue)) (r:List GValue) (hA:A.length<=100000) (hw: ∀x∈A,x.length<=100000):Pure prog 8 [.sl .ro (A.map rowV),.sl .ro (r.map GValue.row)] (.int .i64 (wN (fun z=>decide (z=r)) A 0)):=by
 obtain⟨M,hM⟩: ∃M,wN (fun z=>decide (z=r)) A 0=M:=⟨_,rfl⟩
 rw[hM]
 have ret: ∀(b:Int) (σ:St),b=M->wret (some (.int .i64 b)) 0 (fun r s=>r= .int .i64 M/\s= []) σ:=fun b σ h=>by subst h;exact zQ (zC rfl) ⟨rfl,rfl⟩
 refine iV 0 func8 ntmps8 results8 fun c hc hb=> ?_
 refine zA ?_
 simp[go_sem]
 refine zL (S:=Nat) [0,1,5] (fun i=> [.sl .ro (A.map rowV),.sl .ro (r.map GValue.row),.int .i64 i]) (fun _=> []) (fun i=>A.length - i) (fun i=>i<=A.length/\wN (fun z=>decide (z=r)) (A.drop i) i=M) hc hb 0 ⟨A3 _,hM⟩ ?_ ?_
 .exact aO
 rintro i ⟨hi,hinv⟩
 by_cases q:i<A.length
 rotate_left
 .rw[A9 (by omega),wN]at hinv
  refine zA ?_
  simp[go_sem,q]
  exact ret _ _ hinv
 have ei:=zV q (by omega)
 have hone:=yw8 q
 obtain⟨x,hx⟩:=eX (A[i])
 have hso:=yr4 x r (hw x (hx▸A8 q))
 rw[A6 q,hx,wN]at hinv
 rw[hx]at hone
 have e1:((i+1:Nat):Int).toNat=i+1:=Ax _
 have e2:((i:Nat):Int).toNat=i:=Ax _
 have e3:i+1 - i=1:=by omega
 refine zA ?_
 simp[go_sem,q,ei]
 refine zJ ⟨by omega,by omega,yi2 A⟩ ?_
 simp[go_sem,q,ei,hone]
 refine zD hso cB ⟨zX,zX,trivial⟩ rfl ?_
 by_cases e:x=r
 .rw[if_pos (by simpa using e)]at hinv
  simp[go_sem,e]
  exact ret _ _ hinv
 .rw[if_neg (by simpa using e)]at hinv
  simp[go_sem,e,ei]
  exact zI (i+1) ⟨by omega,⟨q,hinv⟩,aO⟩
theorem yx9 {n:Nat} {P:List (List Pr)} (hS:StI n P) (hn:n<=7500) {oc:Int} {down:Bool} {lim:Int} {tx:List UInt8} (h:chkO oc down lim tx=true) (htx:tx.length<=maxLen) {R:List (List GValue)}
  (hR:(limF lim (if 0<=oc then zg4 oc.toNat down ((wW (vsG 0 P)).filter inT)else(wW (vsG 0 P)).filter inT)).map (·.v)=R):
  VCalls prog 6 [.ptr 0 0,.str tx] [.box (xC P)] (fun r s=>r= .tup [.sl .ro (R.map rowV),.bool true]/\s= [.box (xC P)]):=by
 have hlot:=xk9 tx htx
 have hlok:=yh4 tx
 obtain⟨ht1,ht2⟩:=xS8 h (wW (vsG 0 P))
 rw[hR]at ht1
 have hall:=yi9 P hS.eight
 obtain⟨v1,v2,v3,v4⟩:=hS.vs hn
 have hrun:=xw6 (zd5 tx).1 hlok (vsG 0 P) (by omega) (fun x hx=>⟨(v2 x hx).1,by have:=(v2 x hx).2.1;omega,(v2 x hx).2.2⟩) v4
 rw[yy0,ht1,ht2]at hrun
 obtain⟨L,hL⟩:=eX ((zd5 tx).1)
 rw[hL]at hlot hrun
 obtain⟨vs,hvs⟩:=eX (vsG 0 P)
 rw[hvs]at hall hrun
 have hsc:=zC8
 clear ht1 ht2 hL hvs v1 v2 v3 v4 hlok hR h
 refine iV 1 func6 ntmps6 results6 fun c hc hb=> ?_
 refine zA ?_
 simp[go_sem]
 refine zD hsc cB (zH rfl) rfl ?_
 simp[go_sem,schR]
 refine zD hlot cB (zH rfl) rfl ?_
 simp[go_sem]
 refine ze9 1 hall cB rfl rfl (by rw[Am,zb3];rfl) (wU (n:=1) rfl) ?_ ?_
 .rintro r s' ⟨rfl,rfl⟩
  exact⟨rfl,by rw[Am,zb3];rfl,rfl⟩
 rintro r s' ⟨rfl,rfl⟩
 simp[go_sem]
 refine zD hrun cB ⟨zC rfl,zC rfl,zX,trivial⟩ rfl ?_
 simp[go_sem,ansR,Ot.row]
 exact zr3 1 (r:= .tup [.sl .ro (R.map rowV),.bool true]) rfl (by simp[zb3]) (A2 _) (xT ⟨zr9,za6 rfl,trivial⟩) ⟨rfl,rfl⟩
theorem xI2 (l:List (List GAct)) (hl:l.length<=30) (hok: ∀x∈l,x.length<=maxLen/\ ∀a∈x,a.ok):VCalls prog 5 [.sl .ro (l.map yU0)] [] (fun r s=>r= .ptr 0 0/\ ∃P,StI (240*l.length) P/\s= [.box (xC P)]):=by
 have hsc:=zC8
 refine iV 0 func5 ntmps5 results5 fun c hc hb=> ?_
 refine zA ?_
 simp[go_sem]
 refine xz7 ?_
 refine zL (S:=Nat×List (List Pr)) [0,3,4] (fun u=> [.sl .ro (l.map yU0),.ptr 0 0,.int .i64 u.1]) (fun u=> [.box (xC u.2)]) (fun u=>l.length - u.1) (fun u=>u.1<=l.length/\StI (240*u.1) u.2) hc hb (0,P0) ⟨A3 _,xW5⟩ ?_ ?_
 .exact aM 1 (by rw[Am,zb3];rfl) (zG (by simp[go_sem,xq2,xq3,xD6]) rfl)
 rintro⟨i,P⟩ ⟨hi,hS⟩
 simp only at hi hS
 by_cases q:i<l.length
 rotate_left
 .have e:i=l.length:=by omega
  rw[e]at hS
  refine zA ?_
  simp[go_sem,q]
  exact zr3 1 rfl (by simp[zb3]) (by decide) (zo4 rfl) ⟨rfl,P,hS,rfl⟩
 have ei:=zV q (by omega)
 obtain⟨acts,hx⟩: ∃x,l[i]=x:=⟨_,rfl⟩
 obtain⟨hal,hao⟩:=hok acts (hx▸A8 q)
 have htext:=xS6 acts hal hao
 have htl:=xj5 hao
 obtain⟨tx,htx⟩:=eX (ys1 acts)
 rw[htx]at htext htl
 have hlot:=xk9 tx (Ay htl (by decide))
 have hlok:=yh4 tx
 obtain⟨L,hL⟩:=eX ((zd5 tx).1)
 rw[hL]at hlot hlok
 have hn:240*i<=7500:=by omega
 have hall:=yi9 P hS.eight
 obtain⟨v1,v2,v3,v4⟩:=hS.vs hn
 have hrun:=xw6 L hlok (vsG 0 P) (by omega) (fun x hx=>⟨(v2 x hx).1,by have:=(v2 x hx).2.1;omega,(v2 x hx).2.2⟩) v4
 rw[yy0]at hrun
 obtain⟨hp1,hp2,hS2⟩:=yK0 hS hn hlok
 have hdo:=xj2 P hS.eight (hS.small hn) _ hp1 hp2
 obtain⟨A,hA⟩:=eX ((lotF L (wW (vsG 0 P))).1)
 obtain⟨U,hU⟩:=eX (zA2 L (wW (vsG 0 P)))
 rw[hA,hU]at hrun
 rw[hU]at hdo hS2
 obtain⟨P2,hP2⟩:=eX (doP P U)
 rw[hP2]at hdo hS2
 obtain⟨vs,hvs⟩:=eX (vsG 0 P)
 rw[hvs]at hall hrun
 clear hA hU hP2 hvs hp1 hp2 v1 v2 v3 v4 hL htx
 refine zA ?_
 simp[go_sem,q]
 refine yU [(0,0),(5,0),(6,0),(8,1),(9,0)] 1 rfl (by kernel_rfl) (by kernel_rfl) ?_
 simp[go_sem]
 refine zW hsc cB (fun _=>zH rfl) rfl ?_
 simp[go_sem,q,hx,yU0]
 refine zW htext cB (fun _=>⟨zX,zC rfl,zC rfl,trivial⟩) rfl ?_
 simp[go_sem]
 refine zW hlot cB (fun _=>zH rfl) rfl ?_
 simp[go_sem]
 refine yL5 1 hall cB rfl rfl (by rw[Am,zb3];rfl) rfl (fun i hi=>by simp[go_sem];omega) (fun _=>wU (n:=1) rfl) ?_
 simp[go_sem]
 refine zW hrun cB (fun _=>⟨zC rfl,zC rfl,zX,trivial⟩) rfl ?_
 simp[go_sem,ansR]
 refine ze9 1 hdo cB rfl rfl (by rw[Am,zb3];rfl) (wU (n:=1) rfl) ?_ ?_
 .rintro r s' ⟨rfl,rfl⟩
  exact⟨rfl,by rw[Am,zb3];rfl,rfl⟩
 rintro r s' ⟨rfl,rfl⟩
 simp[go_sem,ei]
 exact zI (i+1,P2) ⟨by show l.length - (i+1)<l.length - i;omega,⟨q,by rw[show 240*(i+1)=240*i+240 by omega];exact hS2⟩,aN 1 (by rw[Am,zb3];rfl)⟩
theorem xX6: ∀k<256,IntKind.u8.wrap ((k:Nat):Int)=k:=by decide
theorem limN (k:Nat) (l:List Ln):limF k l=l.take k:=by unfold limF;rw[if_pos (by omega),Ax]
theorem yu3 (l:List (List GAct)) (hok: ∀x∈l,x.length<=maxLen/\ ∀a∈x,a.ok) (down:Bool) (k:Int) (hk:0<=k/\k<=255):Pure prog 3 [.sl .ro (l.map yU0),.bool down,.int .u8 k] (.bool true):=by
 have hbeg:=xc8
 refine iV 0 func3 ntmps3 results3 fun c hc hb=> ?_
 refine zA ?_
 simp[go_sem]
 refine zD hbeg cB (zH rfl) rfl ?_
 simp[go_sem]
 by_cases q15:l.length<=15
 rotate_left
 .have q:15<(l.length:Int):=by omega
  simp[go_sem,q]
  exact zQ (zC rfl) ⟨rfl,rfl⟩
 have q: ¬15<(l.length:Int):=by omega
 have hst:=xI2 l (by omega) hok
 simp[go_sem,q]
 refine zH5 hst cB ⟨zX,trivial⟩ ?_
 rintro r s ⟨rfl,P,hS,rfl⟩
 have hn:240*l.length<=7500:=by omega
 obtain⟨km,hkm⟩: ∃km:Nat,k.tmod 12=km/\km<12:=⟨(k%12).toNat,by rw[Int.tmod_eq_emod_of_nonneg hk.1];omega,by omega⟩
 obtain⟨hkm,hk12⟩:=hkm
 have e8:IntKind.u8.wrap (km:Int)=km:=xX6 km (by omega)
 have e64:IntKind.i64.wrap (km:Int)=km:=i64_id (by omega) (by omega)
 have hd:=ya5 km (by omega)
 have hdl:=yb0 km
 have hN:chkO 3 down (-1) (txN down)=true:=Af.1 xU7 down (by cases down<;>simp)
 have hL:chkO 3 down km (txL down km)=true:=Af.1 (Af.1 xU6 down (by cases down<;>simp)) km (C7.2 hk12)
 obtain⟨m,hT⟩:=yf8 (vsG 0 P)
 have hnow:NowOk m.2.1 (wW (vsG 0 P)):=hT.now
 have hwk:LsK (wW (vsG 0 P)):=fun x hx=>⟨hT.now.rows x hx,(hT.lines x hx).1⟩
 have hwl:(wW (vsG 0 P)).length<=(yP (vsG 0 P)).length:=hT.len
 have hpl:=hS.len
 obtain⟨A,Z,hA,hZ,hnod,hAl0,hAs,hSl,hfour,hin,hstep⟩:=xu9 hwk hnow.rise down
 have hAl:A.length<=7500:=by omega
 have hrA:=yx9 hS hn xU8 (by decide) (R:=allR (wW (vsG 0 P))) rfl
 have hrS:=yx9 hS hn hN (by cases down<;>decide) (R:=zn5 down (wW (vsG 0 P))) rfl
 have hrF:=yx9 hS hn hL (by
   unfold txL;rw[Aw];have:(txN down++ [32,76,73,77,73,84,32]).length<=100:=by cases down<;>decide
   unfold maxLen;omega) (R:=(zn5 down (wW (vsG 0 P))).take km) (by rw[limN];unfold zn5;rw[E6];rfl)
 rw[hA]at hrA
 rw[hZ]at hrS hrF
 have hplace:=fun r=>xG6 A r (by omega) (fun x hx=>by have:=hAs x hx;omega)
 clear hN hL hok hst hbeg hwl hpl hA hZ hT hnow hwk m
 simp[go_sem]
 refine ze9 1 hrA cB rfl rfl (by rw[Am,zb3];rfl) (wU (n:=1) rfl) ?_ ?_
 .rintro r s' ⟨rfl,rfl⟩
  exact⟨rfl,by rw[Am,zb3];rfl,rfl⟩
 rintro r s' ⟨rfl,rfl⟩
 have hmin:(((min km A.length:Nat):Int) !=if km<A.length then(km:Int)else(A.length:Int))=false:=by
  by_cases z:km<A.length
  .rw[if_pos z,D8 (by omega)];simp
  .rw[if_neg z,Nat.min_eq_right (by omega)];simp
 obtain⟨dn,hdn⟩:=eX down
 have hst2:=hstep
 rw[hdn]at hst2
 clear hstep
 cases down
 all_goals
  simp[go_sem,hSl]
  refine ze9 1 hrS cB rfl rfl (by rw[Am,zb3];rfl) (wU (n:=1) rfl) ?_ ?_
  .rintro r s' ⟨rfl,rfl⟩
   exact⟨rfl,by rw[Am,zb3];rfl,rfl⟩
  rintro r s' ⟨rfl,rfl⟩
  simp[go_sem,hkm,e8,e64]
  refine zD hd cB (zH rfl) rfl ?_
  simp[go_sem]
  refine zJ (by first|omega|(simp;omega)) ?_
  simp[go_sem]
  refine ze9 1 hrF cB rfl rfl (by rw[Am,zb3];rfl) (zG (by simp[txL,txN,txT]) rfl) ?_ ?_
  .rintro r s' ⟨rfl,rfl⟩
   exact⟨rfl,by rw[Am,zb3];rfl,rfl⟩
  rintro r s' ⟨rfl,rfl⟩
  simp[go_sem,hkm,e8,e64,hSl]
  refine zT (fun h=>by rw[hmin]at h;cases h) (fun _=> ?_)
  simp[go_sem]
  refine zL (S:=Nat) [1,8,11,13,15] (fun i=> [.bool dn,.sl .ro (A.map rowV),.sl .ro (Z.map rowV),.sl .ro ((Z.take km).map rowV),.int .i64 i]) (fun _=> []) (fun i=>Z.length - i) (fun i=>i<=Z.length) hc hb 0 (A3 _) ?_ ?_
  .exact at_0 rfl (zR (by simp[go_sem,<-hdn]) rfl)
  rintro i hi
  by_cases q:i<Z.length
  rotate_left
  .refine zA ?_
   simp[go_sem,q]
   exact zQ (zC rfl) ⟨rfl,rfl⟩
  have ei:=zV q (by omega)
  obtain⟨a,ha,hza⟩:=hin i q
  have hpi:=hplace Z[i]
  rw[show wN (fun z=>decide (z=Z[i])) A 0=((a:Nat):Int) by rw[hza,ye3 hnod ha 0,Aa]]at hpi
  obtain⟨x,hx⟩:=eX (Z[i])
  have hx4:=hfour x (hx▸A8 q)
  have hso:=yr4 x x (by omega)
  rw[decide_eq_true rfl]at hso
  rw[hx]at hpi hza
  have qa: ¬(a:Int)<0:=by omega
  refine zS (zA ?_)
  simp[go_sem,q]
  refine zc0 (S:=Unit) [1,8,11,13,15] (fun _=> [.bool dn,.sl .ro (A.map rowV),.sl .ro (Z.map rowV),.sl .ro ((Z.take km).map rowV),.int .i64 i]) (fun _=> []) (fun _=>True) hc hb ?_ ?_
  .have hone:((Z.map rowV).take (i+1)).drop i= [rowV x]:=by rw[yw8 q,hx]
   refine zg0 ?_
   refine zc0 (S:=Unit) [1,8,11,13,15] (fun _=> [.bool dn,.sl .ro (A.map rowV),.sl .ro (Z.map rowV),.sl .ro ((Z.take km).map rowV),.int .i64 i]) (fun _=> []) (fun _=>True) hc hb ?_ ?_
   .refine zS ?_
    refine yU [(5,0),(23,0)] 0 rfl (by kernel_rfl) (by kernel_rfl) ?_
    simp[go_sem,q,hx,rowV]
    refine zW hpi cB (fun _=>⟨zX,zX,trivial⟩) rfl ?_
    by_cases qf:i<km
    .have hone2:(((Z.map rowV).take km).take (i+1)).drop i= [rowV x]:=by
      rw[<-E6,yw8 (A:=Z.take km) (by rw[C2];omega),Ed,hx]
     have qm:i<min km Z.length:=by omega
     simp[go_sem,qa,q,qm,ei]
     refine zJ ⟨by omega,by omega,by rw[<-E6];exact yi2 _⟩ ?_
     simp[go_sem,hone2,ei]
     refine zJ ⟨by omega,by omega,yi2 Z⟩ ?_
     simp[go_sem,hone]
     refine zW hso cB (fun _=>⟨zX,zX,trivial⟩) rfl ?_
     simp[go_sem]
     refine zA ?_
     simp[go_sem]
     exact zI () ⟨trivial,aO⟩
    .have qm: ¬i<min km Z.length:=by omega
     simp[go_sem,qa,q,qm,ei]
     refine zA ?_
     simp[go_sem]
     exact zI () ⟨trivial,aO⟩
   rintro _ _
   rcases Nat.eq_zero_or_pos i with i0|i0
   .subst i0
    refine zA ?_
    simp[go_sem]
    exact zI () ⟨trivial,aO⟩
   obtain⟨j,hj⟩: ∃j,i=j+1:=⟨i - 1,by omega⟩
   subst hj
   have iz: ¬(j:Int)+1=0:=by omega
   have iz':((j:Int)+1==0)=false:=beq_eq_false_iff_ne.2 iz
   obtain⟨a1,b1,ha1,hb1,hz1,hz2,hc1,hc2⟩:=hst2 j q
   have qj:j<Z.length:=by omega
   have hpY:=hplace Z[j]
   have hpX:=hplace Z[j+1]
   rw[show wN (fun z=>decide (z=Z[j])) A 0=((a1:Nat):Int) by rw[hz1,ye3 hnod ha1 0,Aa]]at hpY
   rw[show wN (fun z=>decide (z=Z[j+1])) A 0=((b1:Nat):Int) by rw[hz2,ye3 hnod hb1 0,Aa]]at hpX
   obtain⟨y,hy⟩:=eX (Z[j])
   have hy4:=hfour y (hy▸A8 qj)
   rw[hy]at hpY hz1
   rw[hx]at hpX hz2
   rw[<-hz1,<-hz2]at hc1 hc2
   have hx3:3<x.length:=by omega
   have hy3:3<y.length:=by omega
   unfold cmpR at hc1 hc2
   rw[zs6 hx3,zs6 hy3]at hc1 hc2
   obtain⟨u,hu⟩:=eX (y[3])
   obtain⟨v,hv⟩:=eX (x[3])
   rw[hu,hv]at hc1 hc2
   have hcmp:=xv9 u v
   obtain⟨k1,k2⟩:=xn2 u v
   obtain⟨K,hK⟩:=eX (cmpV u v)
   rw[hK]at hcmp k1 k2 hc1 hc2
   have es:IntKind.i64.wrap (j:Int)=j:=i64_id (by omega) (by omega)
   have en:IntKind.i64.wrap (-K)= -K:=i64_id (by omega) (by omega)
   clear hst2 hfour hin hplace hpi hso hone hza hnod hz1 hz2
   refine zS (zA ?_)
   simp[go_sem,iz,iz']
   refine zS ?_
   refine yU [(13,0)] 0 rfl (by kernel_rfl) (by kernel_rfl) ?_
   simp[go_sem,es,qj,q,hy,hx,hx3,hy3,hx4,hy4,hu,hv,rowV]
   refine zJ (by omega) ?_
   simp[go_sem,es,qj,q,hy,hx,hx3,hy3,hx4,hy4,hu,hv,rowV]
   refine zW hcmp cB (fun _=>⟨zC rfl,zC rfl,trivial⟩) rfl ?_
   simp[go_sem]
   refine zc0 (S:=Int) [1,8,11,13,15,16] (fun C=> [.bool dn,.sl .ro (A.map rowV),.sl .ro (Z.map rowV),.sl .ro ((Z.take km).map rowV),.int .i64 ((j+1:Nat):Int),.int .i64 C]) (fun _=> []) (fun C=>C<=0/\(C=0->a1<b1)) hc hb ?_ ?_
   .refine(A7 dn).elim (fun w=> ?_) (fun w=> ?_)
    .rw[w]at hc1 hc2
     simp only[if_true]at hc1 hc2
     refine zA ?_
     simp[go_sem,w,en]
     exact zI (-K) ⟨⟨hc1,hc2⟩,at_0 rfl (zR (by simp[go_sem,w,rowV]) rfl)⟩
    .rw[w]at hc1 hc2
     simp only[Bf,if_false]at hc1 hc2
     refine zA ?_
     simp[go_sem,w]
     exact zI K ⟨⟨hc1,hc2⟩,at_0 rfl (zR (by simp[go_sem,w,rowV]) rfl)⟩
   rintro C ⟨g1,g2⟩
   have n1: ¬0<C:=by omega
   have n1':decide (0<C)=false:=decide_eq_false n1
   refine zS ?_
   refine yU [(12,0),(18,0)] 0 rfl (by kernel_rfl) (by kernel_rfl) ?_
   by_cases c0:C=0
   .have hab:=g2 c0
    have nb: ¬(b1:Int)<=a1:=by omega
    have nb2: ¬b1<=a1:=by omega
    subst c0
    simp[go_sem,es,qj,q,hy,hx,rowV]
    refine zW hpY cB (fun _=>⟨zX,zX,trivial⟩) rfl ?_
    simp[go_sem,es,qj,q,hy,hx,rowV]
    refine zJ (by omega) ?_
    simp[go_sem,es,qj,q,hy,hx,rowV]
    refine zW hpX cB (fun _=>⟨zX,zX,trivial⟩) rfl ?_
    simp[go_sem,nb,nb2]
    refine zA ?_
    simp[go_sem]
    exact zI () ⟨trivial,aO⟩
   .have c0':(C==0)=false:=beq_eq_false_iff_ne.2 c0
    simp[go_sem,n1,n1',c0,c0']
    refine zA ?_
    simp[go_sem]
    exact zI () ⟨trivial,aO⟩
  rintro _ _
  refine zA ?_
  simp[go_sem,ei]
  exact zI (i+1) ⟨by omega,q,aO⟩
end Go.Proofs.YtkigddpaonhmlaaGreat
