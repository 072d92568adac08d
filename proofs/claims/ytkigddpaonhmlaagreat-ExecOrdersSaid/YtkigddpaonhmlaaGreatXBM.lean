/-
  antipodeplay: the text of some acts; used by the theorems at the end of the Exec claims.
  Conditions: as each theorem states them.
-/
import Derived.Test.YtkigddpaonhmlaaGreatXBL
import Derived.Test.YtkigddpaonhmlaaGreatXBE
set_option maxHeartbeats 8000000
namespace Go.Proofs.YtkigddpaonhmlaaGreat
open Go Go.Vx R Go.Proofs.Tryz
set_option maxRecDepth 100000
def insP (k d:List UInt8):Bool->List Pr->List Pr
 |b,[]=>if b=true then []else [(k,d)]
 |b,x::l=>(if(!b&&Op.bytesLess k x.1)=true then [(k,d)]else [])++((if x.1=k then []else [x])++insP k d (b||Op.bytesLess k x.1) l)
def zy9 (l:List Pr):Prop:=l.Pairwise fun a b=>Op.bytesLess a.1 b.1=true
theorem zz6 (k d:List UInt8): ∀l:List Pr,insP k d true l=l.filter fun x=> !decide (x.1=k)
 | []=>rfl
 |x::l=>by
  rw[insP,Dl,zz6 k d l,Do]
  by_cases q:x.1=k<;>simp[q]
theorem zS4 (k d:List UInt8): ∀(b:Bool) (l:List Pr),(insP k d b l).Perm ((if b=true then []else [(k,d)])++l.filter fun x=> !decide (x.1=k))
 |b,[]=>by rw[insP];simp
 |true,x::l=>by rw[zz6];simp
 |false,x::l=>by
  rw[insP]
  by_cases q:Op.bytesLess k x.1=true
  .rw[q,Eg,zz6]
   have hx:x.1≠k:=fun e=>by rw[e,zc2]at q;cases q
   simp[hx]
  .have q':Op.bytesLess k x.1=false:=by simpa using q
   rw[q',C8]
   have ih:=zS4 k d false l
   by_cases e:x.1=k
   .simp[e]at ih⊢
    exact ih
   .simp[e]at ih⊢
    exact(ih.cons x).trans (List.Perm.swap ..)
theorem insP_mem {k d:List UInt8} {b:Bool} {l:List Pr} {x:Pr}:x∈insP k d b l↔(b=false/\x=(k,d))∨(x∈l/\x.1≠k):=by
 rw[(zS4 k d b l).mem_iff,B4,B9]
 cases b<;>simp
theorem yp0 (k d:List UInt8): ∀(b:Bool) {l:List Pr},zy9 l->zy9 (insP k d b l)
 |true,l,h=>by rw[zz6];exact List.Pairwise.sublist C0 h
 |false,[],_=>by rw[insP,if_neg (by decide)];exact List.pairwise_singleton ..
 |false,x::l,h=>by
  have h2:=h
  unfold zy9 at h2
  rw[Cr]at h2
  rw[insP]
  by_cases q:Op.bytesLess k x.1=true
  .have hx:x.1≠k:=fun e=>by rw[e,zc2]at q;cases q
   rw[q,Eg,zz6,if_pos (by rfl),if_neg hx]
   show zy9 ((k,d)::x::l.filter _)
   unfold zy9
   refine Cr.2 ⟨fun y hy=> ?_,Cr.2 ⟨fun y hy=>h2.1 y (B9.1 hy).1,List.Pairwise.sublist C0 h2.2⟩⟩
   rcases Ag.1 hy with rfl|hy
   .exact q
   .exact zp1 _ _ _ q (h2.1 y (B9.1 hy).1)
  .have q':Op.bytesLess k x.1=false:=by simpa using q
   rw[q',C8,Bool.and_false,if_neg (by decide),Ce]
   have ih:=yp0 k d false h2.2
   by_cases e:x.1=k
   .rw[if_pos e];exact ih
   .rw[if_neg e]
    show zy9 (x::insP k d false l)
    unfold zy9
    refine Cr.2 ⟨fun y hy=> ?_,ih⟩
    rcases insP_mem.1 hy with ⟨_,rfl⟩|⟨hy,_⟩
    .rcases zt5 x.1 k with r|r|r
     .exact r
     .exact absurd r e
     .rw[q']at r;cases r
    .exact h2.1 y hy
def xr4 (w:Wr) (l:List Pr):List Pr:=insP w.p.2 w.data w.drop l
def doR (g:Int) (P:List (List Pr)) (w:Wr):List (List Pr):=P.set g.toNat (xr4 w (P.getD g.toNat []))
def doQ (P:List (List Pr)) (q:Int×List Wr):List (List Pr):=if q.1<0∨8<=q.1 then P else q.2.foldl (doR q.1) P
def doP (P:List (List Pr)) (qs:List (Int×List Wr)):List (List Pr):=qs.foldl doQ P
theorem yV3 (g:Int) (P:List (List Pr)) (w:Wr):(doR g P w).length=P.length:=by unfold doR;simp
theorem xE0 {out:List (Int×List Wr)} {w:Wr} (hw:0<=w.p.1/\w.p.1<8) (P:List (List Pr)):doP P (grpS out w)=doR w.p.1 (doP P out) w:=by
 have hq: ∀P,doQ P (w.p.1,[w])=doR w.p.1 P w:=fun P=>by unfold doQ;rw[if_neg (by simp only;omega)];rfl
 unfold grpS
 cases q:out.getLast? with
 |none=>
  rw[List.getLast?_eq_none_iff.1 q]
  exact hq P
 |some p=>
  have ho:out=out.dropLast++ [p]:=by
   have h:=List.getLast?_eq_some_iff.1 q
   obtain⟨ys,rfl⟩:=h
   simp
  simp only
  by_cases e:p.1=w.p.1
  .rw[if_pos e]
   unfold doP
   rw[Dh,Be,Eh]
   conv=>rhs;rw[ho,Dh,Be,Eh]
   unfold doQ
   simp only
   rw[if_neg (by omega),if_neg (by omega),Dh,e]
   rfl
  .rw[if_neg e]
   unfold doP
   rw[Dh,Be,Eh]
   exact hq _
theorem yV2 (P:List (List Pr)): ∀(l:List Wr) (out:List (Int×List Wr)),(∀w∈l,0<=w.p.1/\w.p.1<8)->doP P (l.foldl grpS out)=l.foldl (fun P w=>doR w.p.1 P w) (doP P out)
 | [],_,_=>rfl
 |w::l,out,h=>by
  rw[Be,Be,yV2 P l _ fun x hx=>h x (B5 _ hx),xE0 (h w (Bb ..))]
def hasP (P:List (List Pr)) (p:Pl) (d:List UInt8):Prop:=0<=p.1/\ ∃l,P[p.1.toNat]? =some l/\(p.2,d)∈l
theorem xD0 {P:List (List Pr)} {w:Wr} (h0:0<=w.p.1) (h8:w.p.1.toNat<P.length) {p:Pl} {d:List UInt8}:hasP (doR w.p.1 P w) p d↔(p=w.p/\w.drop=false/\d=w.data)∨(p≠w.p/\hasP P p d):=by
 obtain⟨g,k⟩:=p
 obtain⟨⟨wg,wk⟩,wd,wb⟩:=w
 simp only at h0 h8
 unfold hasP doR xr4
 simp only
 rw[A5,A0 h8,Ej]
 by_cases e:g=wg
 .subst e
  rw[Ak h8,A0 h8]
  constructor
  .rintro⟨_,l,hl,hm⟩
   cases hl
   rcases insP_mem.1 hm with ⟨h1,h2⟩|⟨h1,h2⟩
   .cases h2;exact .inl ⟨rfl,h1,rfl⟩
   .exact .inr ⟨fun e=>h2 (by cases e;rfl),h0,_,rfl,h1⟩
  .rintro(⟨h1,h2,h3⟩|⟨h1,_,l,hl,hm⟩)
   .cases h1;exact⟨h0,_,rfl,insP_mem.2 (.inl ⟨h2,by rw[h3]⟩)⟩
   .cases hl
    exact⟨h0,_,rfl,insP_mem.2 (.inr ⟨hm,fun e=>h1 (by simp only at e;rw[e])⟩)⟩
 .constructor
  .rintro⟨hg,l,hl,hm⟩
   rw[Ad (by omega)]at hl
   exact .inr ⟨fun x=>e (by cases x;rfl),hg,l,hl,hm⟩
  .rintro(⟨h1,_⟩|⟨_,hg,l,hl,hm⟩)
   .exact absurd (by cases h1;rfl) e
   .exact⟨hg,l,by rw[Ad (by omega)];exact hl,hm⟩
theorem yE0 {p:Pl} {d:List UInt8}: ∀{ws:List Wr} {P:List (List Pr)},(∀w∈ws,0<=w.p.1/\w.p.1.toNat<P.length)->hasP (ws.foldl (fun P w=>doR w.p.1 P w) P) p d->(∃w∈ws,w.p=p/\w.drop=false/\d=w.data)∨((∀w∈ws,w.p≠p)/\hasP P p d)
 | [],P,_,h=> .inr ⟨fun w hw=>(by cases hw),h⟩
 |w::ws,P,hw,h=>by
  have hw0:=hw w (Bb ..)
  rw[Be]at h
  rcases yE0 (fun x hx=>by rw[yV3];exact hw x (B5 _ hx)) h with ⟨x,hx,h1⟩|⟨h1,h2⟩
  .exact .inl ⟨x,B5 _ hx,h1⟩
  .rcases(xD0 hw0.1 hw0.2).1 h2 with ⟨h3,h4,h5⟩|⟨h3,h4⟩
   .exact .inl ⟨w,Bb ..,h3.symm,h4,h5⟩
   .refine .inr ⟨fun x hx=> ?_,h4⟩
    rcases Ag.1 hx with rfl|hx
    .exact fun e=>h3 e.symm
    .exact h1 x hx
theorem xo0 {g:Int} {P:List (List Pr)} {w:Wr} (h: ∀l∈P,zy9 l): ∀l∈doR g P w,zy9 l:=fun l hl=>by
 unfold doR at hl
 rcases Cc hl with hl|rfl
 .exact h l hl
 .refine yp0 _ _ _ ?_
  rw[A5]
  cases q:P[g.toNat]? with
  |none=>exact List.Pairwise.nil
  |some l=>exact h l (B1 q)
theorem yo6: ∀{ws:List Wr} {P:List (List Pr)},(∀l∈P,zy9 l)-> ∀l∈ws.foldl (fun P w=>doR w.p.1 P w) P,zy9 l
 | [],_,h=>h
 |w::ws,P,h=>by rw[Be];exact yo6 (xo0 h)
theorem yo5: ∀(ws:List Wr) (P:List (List Pr)),(ws.foldl (fun P w=>doR w.p.1 P w) P).length=P.length
 | [],_=>rfl
 |w::ws,P=>by rw[Be,yo5 ws,yV3]
def vsG:Nat->List (List Pr)->List Vw
 |_,[]=> []
 |i,l::P=>(i,l)::vsG (i+1) P
theorem zZ8: ∀(i:Nat) (P:List (List Pr)),(vsG i P).length=P.length
 |_,[]=>rfl
 |i,l::P=>by rw[vsG,Ah,Ah,zZ8]
theorem zZ9: ∀{i:Nat} {P:List (List Pr)} {x:Vw},x∈vsG i P->i<=x.1/\x.1<i+P.length/\P[x.1 - i]? =some x.2
 |_,[],_,h=>by cases h
 |i,l::P,x,h=>by
  rw[vsG]at h
  rcases Ag.1 h with rfl|h
  .refine⟨A2 _,by simp, ?_⟩
   simp
  .obtain⟨h1,h2,h3⟩:=zZ9 h
   refine⟨by omega,by rw[Ah];omega, ?_⟩
   rw[show x.1 - i=(x.1 - (i+1))+1 by omega,Cn]
   exact h3
theorem ys5: ∀(i:Nat) (P:List (List Pr)),((vsG i P).map (·.1)).Nodup
 |_,[]=>D5
 |i,l::P=>by
  rw[vsG,Al,C1]
  refine⟨fun h=> ?_,ys5 (i+1) P⟩
  obtain⟨x,hx,e⟩:=Ac.1 h
  have:=(zZ9 hx).1
  simp only at e
  omega
theorem yz3: ∀(P:List (List Pr)) (i j:Nat),(vsG i P)[j]? =(P[j]?).map fun l=>(i+j,l)
 | [],_,_=>rfl
 |l::P,i,0=>rfl
 |l::P,i,j+1=>by
  rw[vsG,Cn,Cn,yz3 P (i+1) j]
  rw[show i+1+j=i+(j+1) by omega]
theorem yq3 {i:Nat} {P:List (List Pr)} {q:Pl×List UInt8} (h:q∈yP (vsG i P)):(i:Int)<=q.1.1/\P[q.1.1.toNat - i]? ≠none/\ ∀l,P[q.1.1.toNat - i]? =some l->(q.1.2,q.2)∈l:=by
 unfold yP at h
 obtain⟨x,hx,hq⟩:=List.mem_flatMap.1 h
 obtain⟨h1,h2,h3⟩:=zZ9 hx
 obtain⟨y,hy,rfl⟩:=Ac.1 hq
 simp only
 rw[show((x.1:Int)).toNat=x.1 from Ax _,h3]
 exact⟨by omega,by simp,fun l hl=>by cases hl;exact hy⟩
theorem xh8 {P:List (List Pr)} {q:Pl×List UInt8} (h:q∈yP (vsG 0 P)):hasP P q.1 q.2:=by
 obtain⟨h1,h2,h3⟩:=yq3 h
 rw[Nat.sub_zero]at h2 h3
 obtain⟨l,hl⟩:=Option.ne_none_iff_exists'.1 h2
 exact⟨by omega,l,hl,h3 l hl⟩
theorem yp9: ∀{P:List (List Pr)} {i g:Nat} {k d:List UInt8} {l:List Pr},P[g]? =some l->(k,d)∈l->((((i+g:Nat):Int),k),d)∈yP (vsG i P)
 | [],_,_,_,_,_,h,_=>by simp at h
 |m::P,i,0,k,d,l,h,hm=>by
  simp at h
  subst h
  rw[vsG,zx2]
  exact Dd _ (Ac.2 ⟨(k,d),hm,by simp⟩)
 |m::P,i,g+1,k,d,l,h,hm=>by
  rw[Cn]at h
  rw[vsG,zx2]
  refine List.mem_append_right _ ?_
  rw[show i+(g+1)=i+1+g by omega]
  exact yp9 h hm
theorem xe1 {P:List (List Pr)} {p:Pl} {d:List UInt8} (h:hasP P p d):(p,d)∈yP (vsG 0 P):=by
 obtain⟨h0,l,hl,hm⟩:=h
 have:=yp9 (i:=0) hl hm
 rw[Aa,Int.toNat_of_nonneg h0]at this
 exact this
theorem zM3: ∀{P:List (List Pr)} {i:Nat},(∀l∈P,zy9 l)->Rise ((yP (vsG i P)).map (·.1))
 | [],_,_=>List.Pairwise.nil
 |l::P,i,h=>by
  rw[vsG,zx2,Dj]
  refine De.2 ⟨?_,zM3 fun x hx=>h x (B5 _ hx),fun a ha b hb=> ?_⟩
  .unfold onF
   rw[Bq]
   refine Cl.2 ((h l (Bb ..)).imp fun{a b} hab=> ?_)
   simp[xA,hab]
  .obtain⟨x,hx,rfl⟩:=Ac.1 ha
   obtain⟨y,hy,rfl⟩:=Ac.1 hb
   obtain⟨z,hz,rfl⟩:=Ac.1 hx
   have:=(yq3 hy).1
   simp only[xA,Bt,decide_eq_true_eq]
   exact .inl (by omega)
theorem yJ0: ∀{ps:List (Pl×List UInt8)} {s:List (Pl×List UInt8)×List Ln},((s.1++ps).map (·.1)).Nodup->(ps.foldl zw9 s).1=s.1++ps
 | [],s,_=>by simp
 |q::ps,s,h=>by
  have hq:(s.1.any fun e=>e.1==q.1)=false:=by
   cases e:s.1.any fun e=>e.1==q.1 with
   |false=>rfl
   |true=>
    obtain⟨x,hx,hxq⟩:=Da.1 e
    rw[Dj,Df]at h
    exact absurd (by simpa using hxq) (h.2.2 x.1 (Ac.2 ⟨x,hx,rfl⟩) q.1 (by simp))
  have hs:(zw9 s q).1=s.1++ [q]:=by
   unfold zw9
   rw[if_neg (by rw[hq];decide)]
  rw[Be,yJ0 (by rw[hs];simpa using h),hs]
  simp
structure StI (n:Nat) (P:List (List Pr)):Prop where
 eight:P.length=8
 rise: ∀l∈P,zy9 l
 rows: ∀q∈yP (vsG 0 P),zr6 q.1.1 q.1.2 q.2=true
 len:(yP (vsG 0 P)).length<=n
theorem yN5 {p:Pl} {data:List UInt8} (h:zr6 p.1 p.2 data=true):data.length<=20000:=by
 obtain⟨h1,h2⟩:=yI5 h
 obtain⟨tn,T,_,hT,hm⟩:=h1.tab
 have hL:=zz9 ((by decide: ∀T∈tabsS,T.cols.length<=20) T (B1 hT)) h1.ok hm
 have:=zR9 hL (rowF tabsS (ofS p.1).1 data).1.length
 rw[show zE3 (rowF tabsS (ofS p.1).1 data).1 (rowF tabsS (ofS p.1).1 data).1.length=data from h2]at this
 exact this
theorem xW5:StI 0 [[],[],[],[],[],[],[],[]]:=
 ⟨rfl,fun l hl=>by
  have:l= []:=by simpa using hl
  subst this;exact List.Pairwise.nil,fun q hq=>by simp[vsG,yP,onF]at hq,by simp[vsG,yP,onF]⟩
theorem StI.vs {n:Nat} {P:List (List Pr)} (h:StI n P) (hn:n<=7500):(vsG 0 P).length=8/\(∀x∈vsG 0 P,x.1<1000/\x.2.length<=7500/\ ∀q∈x.2,q.2.length<=maxB)/\((vsG 0 P).map (·.1)).Nodup/\(yP (vsG 0 P)).length<=7500:=by
 refine⟨by rw[zZ8];exact h.eight,fun x hx=> ?_,ys5 _ _,Ay h.len hn⟩
 obtain⟨h1,h2,h3⟩:=zZ9 hx
 rw[h.eight]at h2
 refine⟨by omega, ?_,fun q hq=> ?_⟩
 .have:(onF x.1 x.2).Sublist (yP (vsG 0 P)):=by
   unfold yP
   obtain⟨A,B,e⟩:=List.append_of_mem hx
   rw[e,E4,Bl]
   exact(List.sublist_append_left _ _).trans (List.sublist_append_right _ _)
  have h4:=this.length_le
  have h5:(onF x.1 x.2).length=x.2.length:=by simp[onF]
  have:=h.len
  omega
 .have hm:(((x.1:Int),q.1),q.2)∈yP (vsG 0 P):=List.mem_flatMap.2 ⟨x,hx,Ac.2 ⟨q,hq,rfl⟩⟩
  have:=yN5 (p:=((x.1:Int),q.1)) (h.rows _ hm)
  exact Ay this (by decide)
theorem StI.step {n:Nat} {P:List (List Pr)} (h:StI n P) {lot:GLot} (hl:LOk lot):StI (n+240) (doP P (if(lotF lot (wW (vsG 0 P))).1.1≠0 then []else grpF (chgF (wW (vsG 0 P)) (lotF lot (wW (vsG 0 P))).2))):=by
 by_cases e0:(lotF lot (wW (vsG 0 P))).1.1≠0
 .rw[if_pos e0]
  exact⟨h.eight,h.rise,h.rows,by show(yP (vsG 0 P)).length<=_;have:=h.len;omega⟩
 rw[if_neg e0]
 obtain⟨m,hT⟩:=yf8 (vsG 0 P)
 have hnod:((yP (vsG 0 P)).map (·.1)).Nodup:=(zM3 h.rise).nodup
 have hsaid:((yP (vsG 0 P)).foldl zw9 ([],[])).1=yP (vsG 0 P):=by
  rw[yJ0 (by simpa using hnod)];rfl
 obtain⟨was,hw⟩:=eX (wW (vsG 0 P))
 have hwas:NowOk m.2.1 was:=by rw[<-hw];exact hT.now
 have hwk:LsK was:=by rw[<-hw];exact fun x hx=>⟨hT.now.rows x hx,(hT.lines x hx).1⟩
 have hwl:was.length<=(yP (vsG 0 P)).length:=by rw[<-hw];exact hT.len
 have hrows: ∀q∈yP (vsG 0 P),∃x∈was,x.at=q.1/\yL x.v=q.2:=fun q hq=>by
  rw[<-hw]
  exact hT.rows q (by rw[hsaid];exact hq) (h.rows q hq)
 rw[hw]at e0⊢
 obtain⟨now,hN⟩:=eX ((lotF lot was).2)
 obtain⟨⟨b',hb'⟩,hk,hlen⟩:=yX7 hl hwas hwk (by simpa using e0)
 rw[hN]at hb' hk hlen⊢
 have hrg:=xk2 hwas.rows hb'.rows hwas.rise hb'.rise rfl
 have hiw:=(yt7 hwas.rise hb'.rise).2
 unfold grpF
 rw[yV2 P _ [] (fun w hw=>by rcases hrg w hw with h|h|h|h<;>omega)]
 show StI (n+240) ((chgF was now).foldl (fun P w=>doR w.p.1 P w) P)
 have hsub: ∀q∈yP (vsG 0 ((chgF was now).foldl (fun P w=>doR w.p.1 P w) P)),∃x∈now,(x.at,yL x.v)=q:=fun q hq=>by
  rcases yE0 (fun w hw=>by rw[h.eight];rcases hrg w hw with h|h|h|h<;>omega) (xh8 hq)with ⟨w,hw1,h1,h2,h3⟩|⟨h1,h2⟩
  .rcases(hiw w).1 hw1 with ⟨g1,_⟩|⟨_,x,hx,g2,g3,_⟩
   .rw[g1]at h2;cases h2
   .exact⟨x,hx,by rw[g2,h1,g3,<-h3]⟩
  .obtain⟨y,hy,hy1,hy2⟩:=hrows q (xe1 h2)
   have hat:atF now q.1=true:=by
    cases e:atF now q.1 with
    |true=>rfl
    |false=>exact absurd rfl (h1 ⟨q.1,true,[]⟩ ((hiw _).2 (.inl ⟨rfl,rfl,⟨y,hy,hy1⟩,e⟩)))
   obtain⟨x,hx,hxq⟩:=Ac.1 (atF_iff.1 hat)
   by_cases e:yL x.v=q.2
   .exact⟨x,hx,by rw[hxq,e]⟩
   .refine absurd hxq (h1 ⟨x.at,false,yL x.v⟩ ((hiw _).2 (.inr ⟨rfl,x,hx,rfl,rfl,fun z hz hzx e2=>e ?_⟩)))
    have hzy:z=y:=by
     have hnd:=hwas.rise.nodup
     obtain⟨i,hi,rfl⟩:=List.getElem_of_mem hz
     obtain⟨j,hj,rfl⟩:=List.getElem_of_mem hy
     have hij:i=j:=by
      have h1:(was.map Ln.at)[i]'(by simpa using hi)=(was.map Ln.at)[j]'(by simpa using hj):=by
       rw[Ct,Ct,hzx,hxq,hy1]
      exact(List.getElem_inj hnd).1 h1
     subst hij;rfl
    rw[<-e2,hzy,hy2]
 have hr':=yo6 (ws:=chgF was now) h.rise
 refine⟨by rw[yo5];exact h.eight,hr',fun q hq=> ?_, ?_⟩
 .obtain⟨x,hx,rfl⟩:=hsub q hq
  exact(hk x hx).2
 .have hnd2:(yP (vsG 0 ((chgF was now).foldl (fun P w=>doR w.p.1 P w) P))).Nodup:=(Cl.1 (zM3 hr').nodup).imp fun h e=>h (congrArg _ e)
  have hle:=hnd2.length_le_of_subset (l₂:=now.map fun x=>(x.at,yL x.v)) fun q hq=>by
   obtain⟨x,hx,rfl⟩:=hsub q hq
   exact Ac.2 ⟨x,hx,rfl⟩
  rw[Aq]at hle
  have:=h.len
  omega
theorem xE1 {N:Nat} {out:List (Int×List Wr)} {w:Wr} (h:out.length<=N/\ ∀q∈out,q.2.length<=N):(grpS out w).length<=N+1/\ ∀q∈grpS out w,q.2.length<=N+1:=by
 unfold grpS
 cases e:out.getLast? with
 |none=>exact⟨by simp,fun q hq=>by rw[Cq]at hq;rw[hq];simp⟩
 |some p=>
  have hp:=h.2 p (List.mem_of_getLast? e)
  simp only
  split
  .refine⟨by have:=h.1;simp;omega,fun q hq=> ?_⟩
   rcases B4.1 hq with hq|hq
   .have:=h.2 q (List.dropLast_subset _ hq);omega
   .rw[Cq]at hq;rw[hq];simp;exact hp
  .refine⟨by have:=h.1;simp;omega,fun q hq=> ?_⟩
   rcases B4.1 hq with hq|hq
   .have:=h.2 q hq;omega
   .rw[Cq]at hq;rw[hq];simp
theorem yW3: ∀{l:List Wr} {out:List (Int×List Wr)} {N:Nat},out.length<=N/\(∀q∈out,q.2.length<=N)->(l.foldl grpS out).length<=N+l.length/\ ∀q∈l.foldl grpS out,q.2.length<=N+l.length
 | [],out,N,h=>⟨by have:=h.1;simpa using this,fun q hq=>by have:=h.2 q hq;simpa using this⟩
 |w::l,out,N,h=>by
  have h2:=yW3 (l:=l) (xE1 (w:=w) h)
  rw[Be,Ah]
  exact⟨by have:=h2.1;omega,fun q hq=>by have:=h2.2 q hq;omega⟩
theorem xm9 (was now:List Ln):(chgF was now).length<=was.length+now.length:=by
 have hf: ∀(f:Ln->Wr) (m:List Ln) (l:List Wr),(m.foldl (fun l x=>insW l (f x)) l).length=l.length+m.length:=fun f m=>by
  induction m with
  |nil=>intro l;simp
  |cons x m ih=>intro l;rw[Be,ih,(zS5 _ _).length_eq,Ah,Ah];omega
 unfold chgF
 rw[hf (fun x=>⟨x.at,false,yL x.v⟩),hf (fun x=>⟨x.at,true,[]⟩)]
 have h1:=Bk (fun x=> !(was.any fun y=>decide (y.at=x.at)&&decide (yL y.v=yL x.v))) now
 have h2:=Bk (fun x:Ln=> !atF now x.at) was
 simp only[D7]
 omega
def zA2 (lot:GLot) (was:List Ln):List (Int×List Wr):=if(lotF lot was).1.1≠0 then []else grpF (chgF was (lotF lot was).2)
theorem xv6 {lot:GLot} (hl:LOk lot) {b:Mp (List UInt8)} {l:List Ln} (hn:NowOk b l) (hk:LsK l) (hlen:l.length<=7500):(zA2 lot l).length<=100000/\ ∀q∈zA2 lot l,q.2.length<=100000:=by
 unfold zA2
 by_cases q:(lotF lot l).1.1≠0
 .rw[if_pos q];exact⟨A3 _,fun x hx=>by cases hx⟩
 rw[if_neg q]
 obtain⟨_,_,h⟩:=yX7 hl hn hk (by simpa using q)
 have h2:=xm9 l (lotF lot l).2
 have h3:=yW3 (l:=chgF l (lotF lot l).2) (out:= []) (N:=0) ⟨A2 _,fun q hq=>by cases hq⟩
 unfold grpF
 exact⟨by have:=h3.1;omega,fun q hq=>by have:=h3.2 q hq;omega⟩
def digL:Nat->Nat->List UInt8->List UInt8
 |0,_,acc=>acc
 |f+1,u,acc=>if u=0 then acc else digL f (u/10) ((48+UInt8.ofNat (u%10))::acc)
def digF (n:Nat):List UInt8:=if n=0 then [48]else digL 20 n []
theorem xn9 (r:Nat) (h:r<10):((48:UInt8)::List.take r [49,50,51,52,53,54,55,56,57]).drop r= [(48+UInt8.ofNat r)]:=by
 have:r=0∨r=1∨r=2∨r=3∨r=4∨r=5∨r=6∨r=7∨r=8∨r=9:=by omega
 rcases this with rfl|rfl|rfl|rfl|rfl|rfl|rfl|rfl|rfl|rfl<;>rfl
theorem yC9: ∀(f u:Nat) (acc:List UInt8),(digL f u acc).length<=f+acc.length
 |0,u,acc=>by rw[digL];omega
 |f+1,u,acc=>by
  rw[digL]
  split
  .omega
  .have:=yC9 f (u/10) ((48+UInt8.ofNat (u%10))::acc);simp only[Ah]at this;omega
theorem yb0 (n:Nat):(digF n).length<=20:=by
 unfold digF
 split
 .decide
 .have:=yC9 20 n [];simpa using this
theorem ya5 (n:Nat) (hn:n<=9223372036854775807):Pure prog 7 [.int .i64 n] (.str (digF n)):=by
 generalize hM:digF n=M
 unfold digF at hM
 have ret: ∀(r:List UInt8) (σ:St),r=M->wret (some (.str r)) 0 (fun r s=>r= .str M/\s= []) σ:=fun r σ h=>by subst h;exact zQ (zC rfl) ⟨rfl,rfl⟩
 refine iV 0 func7 ntmps7 results7 fun c hc hb=> ?_
 refine zA ?_
 simp[go_sem]
 by_cases q0:n=0
 .rw[if_pos q0]at hM
  simp[go_sem,q0]
  exact ret _ _ hM
 rw[if_neg q0]at hM
 have q0':((n:Int)==0)=false:=by simpa using q0
 have q1':decide ((n:Int)<0)=false:=decide_eq_false (by omega)
 have eu:IntKind.u64.wrap (n:Int)=(n:Int):=Vx.u64_id (by omega) (by omega)
 simp[go_sem,q0',q1',eu]
 refine zL (S:=Nat×List UInt8) [0,3,4] (fun u=> [.int .i64 n,.int .u64 (u.1:Int),.str u.2]) (fun _=> []) (fun u=>u.1)
  (fun u=>u.1<=n/\ ∃f,u.1<10^f/\u.2.length+f<=20/\digL f u.1 u.2=M) hc hb (n,[]) ⟨A2 _,20,by simp only;omega,by simp,hM⟩ ?_ ?_
 .exact aO
 rintro⟨u,s⟩ ⟨hu,f,hf,hs,hinv⟩
 simp only at hu hf hs hinv
 by_cases q:u=0
 .subst q
  have hinv:s=M:=by
   rw[<-hinv]
   cases f with
   |zero=>rfl
   |succ f=>rw[digL,if_pos rfl]
  refine zA ?_
  simp[go_sem,q1']
  exact ret _ _ hinv
 obtain⟨f,rfl⟩: ∃g,f=g+1:=by
  cases f with
  |zero=>simp at hf;omega
  |succ f=>exact⟨f,rfl⟩
 rw[digL,if_neg q]at hinv
 have hq:0<u:=by omega
 have er:(u:Int).tmod 10=((u%10:Nat):Int):=by rw[Int.tmod_eq_emod_of_nonneg (by omega)];omega
 have er1:IntKind.u64.wrap (((u%10:Nat):Int)+1)=((u%10+1:Nat):Int):=by rw[Vx.u64_id (by omega) (by omega)];omega
 have ed0:(u:Int).tdiv 10=((u/10:Nat):Int):=by rw[Int.tdiv_eq_ediv_of_nonneg (by omega)];omega
 have ed:IntKind.u64.wrap ((u:Int).tdiv 10)=((u/10:Nat):Int):=by
  rw[Int.tdiv_eq_ediv_of_nonneg (by omega),Vx.u64_id (by omega) (by omega)];omega
 have hda:=xn9 (u%10) (D1 _ (by decide))
 obtain⟨r,hr⟩:=eX (u%10)
 have hr9:r<10:=by omega
 rw[hr]at er er1 hda hinv
 have ed2:IntKind.u64.wrap ((u:Int)/10)=(u:Int)/10:=Vx.u64_id (by omega) (by omega)
 have et1:((r:Int)).toNat=r:=Ax r
 have et2:((r+1:Nat):Int).toNat=r+1:=Ax _
 refine zA ?_
 simp only[Int.natCast_add,Cd]at er1
 simp[go_sem,hq,er,er1]
 refine zJ (by omega) ?_
 simp[go_sem,hda]
 refine zJ (by omega) ?_
 simp[go_sem,ed0,ed2]
 refine zI (u/10,(48+UInt8.ofNat r)::s) ⟨by simp only;omega,⟨by simp only;omega,f,by simp only;rw[Em]at hf;omega,by simp;omega,hinv⟩, ?_⟩
 exact aO
theorem zY2 (k n:Int) (hk:i64R k) (h1:1<=n) (h2:n<=1000):Pure prog 47 [.int .i64 k,.int .i64 n] (.int .i64 (k%n)):=by
 obtain⟨hk1,hk2⟩:=hk
 have q1:decide (n<1)=false:=decide_eq_false (by omega)
 have q0: ¬n<1:=by omega
 have qz: ¬n=0:=by omega
 have he:=El k (b:=n) (by omega)
 have hl:=Ec k (b:=n) (by omega)
 have ht:=Int.tmod_eq_emod (a:=k) (b:=n)
 obtain⟨r,hr⟩:=eX (k%n)
 obtain⟨t,htm⟩:=eX (k.tmod n)
 rw[hr]at he hl ht⊢
 rw[htm]at ht
 have hab:((n.natAbs:Nat):Int)=n:=by omega
 have ht2:t=r∨t=r - n:=by
  split at ht
  .left;omega
  .right;omega
 have et:IntKind.i64.wrap t=t:=i64_id (by omega) (by omega)
 have er:IntKind.i64.wrap r=r:=i64_id (by omega) (by omega)
 have ret: ∀(v:Int) (σ:St),v=r->wret (some (.int .i64 v)) 0 (fun r' s=>r'= .int .i64 r/\s= []) σ:=fun v σ h=>by subst h;exact zQ (zC rfl) ⟨rfl,rfl⟩
 refine iV 0 func47 ntmps47 results47 fun c hc hb=> ?_
 refine zA ?_
 simp[go_sem,q0]
 refine zJ qz ?_
 simp[go_sem,htm]
 rcases ht2 with e|e
 .have q2:decide (t<0)=false:=decide_eq_false (by omega)
  have q2': ¬t<0:=by omega
  simp[go_sem,q2']
  exact ret _ _ e
 .have q2:decide (t<0)=true:=decide_eq_true (by omega)
  have q2':t<0:=by omega
  have e3:t+n=r:=by omega
  simp[go_sem,q2',e3,er]
  exact zQ (zC rfl) ⟨rfl,rfl⟩
def numP (k:Int):List UInt8:=if k.tmod 41=40 then [57,50,50,51,51,55,50,48,51,54,56,53,52,55,55,53,56,48,55]else digF (k%12).toNat
theorem yH0 (k:Int):(numP k).length<=20:=by
 unfold numP
 split
 .decide
 .exact yb0 _
theorem yg9 (k:Int) (hk:i64R k):Pure prog 48 [.int .i64 k] (.str (numP k)):=by
 have hp:=zY2 k 12 hk (by decide) (by decide)
 have hd:=ya5 (k%12).toNat (by omega)
 rw[show(((k%12).toNat:Nat):Int)=k%12 by omega]at hd
 obtain⟨hk1,hk2⟩:=hk
 have ht:=Int.tmod_eq_emod (a:=k) (b:=41)
 have et:IntKind.i64.wrap (k.tmod 41)=k.tmod 41:=by
  have:=El k (b:=41) (by decide)
  have:=Ec k (b:=41) (by decide)
  split at ht<;>exact i64_id (by omega) (by omega)
 generalize hM:numP k=M
 unfold numP at hM
 obtain⟨u,hu⟩:=eX (k.tmod 41)
 rw[hu]at et hM
 clear ht
 have ret: ∀(v:List UInt8) (σ:St),v=M->wret (some (.str v)) 0 (fun r' s=>r'= .str M/\s= []) σ:=fun v σ h=>by subst h;exact zQ (zC rfl) ⟨rfl,rfl⟩
 refine iV 0 func48 ntmps48 results48 fun c hc hb=> ?_
 refine zA ?_
 by_cases q:u=40
 .rw[if_pos q]at hM
  have q':(u==40)=true:=by simpa using q
  simp[go_sem,hu,q']
  exact ret _ _ hM
 .rw[if_neg q]at hM
  have q':(u==40)=false:=by simpa using q
  simp[go_sem,hu,q']
  refine zD hp cB (zH rfl) rfl ?_
  simp[go_sem]
  refine zD hd cB (zH rfl) rfl ?_
  simp[go_sem]
  exact ret _ _ hM
theorem xP9 (k:Int) (hk:i64R k): ∃t:List UInt8,t.length<=20/\Pure prog 49 [.int .i64 k] (.str t):=by
 have hp:=zY2 k 5 hk (by decide) (by decide)
 have h0:=El k (b:=5) (by decide)
 have h1:=Ec k (b:=5) (by decide)
 obtain⟨r,hr⟩:=eX (k%5)
 rw[hr]at hp h0 h1
 have:r=0∨r=1∨r=2∨r=3∨r=4:=by omega
 have walk: ∀r:Int,(r=0∨r=1∨r=2∨r=3∨r=4)->Pure prog 47 [.int .i64 k,.int .i64 5] (.int .i64 r)->Pure prog 49 [.int .i64 k] (.str [39,97+UInt8.ofNat r.toNat,39]):=fun r hrr hp=>by
  refine iV 0 func49 ntmps49 results49 fun c hc hb=> ?_
  refine zA ?_
  simp[go_sem]
  refine zD hp cB (zH rfl) rfl ?_
  rcases hrr with rfl|rfl|rfl|rfl|rfl
  all_goals
   simp[go_sem]
   refine zJ (fun x hx=>⟨_,Cq.1 hx⟩) ?_
   simp[go_sem,zo7]
   exact zQ (zC rfl) ⟨rfl,rfl⟩
 exact⟨_,by simp,walk r this hp⟩
theorem xy4 (k:Int) (_hk:i64R k): ∃t:List UInt8,t.length<=20/\Pure prog 50 [.int .i64 k] (.str t):=by
 have ht:=Int.tmod_eq_emod (a:=k) (b:=2)
 have et:IntKind.i64.wrap (k.tmod 2)=k.tmod 2:=by
  have:=El k (b:=2) (by decide)
  have:=Ec k (b:=2) (by decide)
  split at ht<;>exact i64_id (by omega) (by omega)
 obtain⟨u,hu⟩:=eX (k.tmod 2)
 rw[hu]at et
 clear ht
 by_cases q:u=0
 .refine⟨[84,82,85,69],by decide, ?_⟩
  have q':(u==0)=true:=by simpa using q
  refine iV 0 func50 ntmps50 results50 fun c hc hb=> ?_
  refine zA ?_
  simp[go_sem,hu,q']
  exact zQ (zC rfl) ⟨rfl,rfl⟩
 .refine⟨[70,65,76,83,69],by decide, ?_⟩
  have q':(u==0)=false:=by simpa using q
  refine iV 0 func50 ntmps50 results50 fun c hc hb=> ?_
  refine zA ?_
  simp[go_sem,hu,q']
  exact zQ (zC rfl) ⟨rfl,rfl⟩
def stF (r n g v b:List UInt8):Nat->List UInt8
 |0=> [73,78,83,69,82,84,32,73,78,84,79,32,84,32,86,65,76,85,69,83,32,40]++r++ [44,32]++n++ [44,32,39,118]++v++ [39,44,32]++v++ [41]
 |1=> [73,78,83,69,82,84,32,73,78,84,79,32,84,32,86,65,76,85,69,83,32,40]++r++ [44,32]++n++ [44,32,39,118]++v++ [39,44,32]++v++ [41]
 |2=> [73,78,83,69,82,84,32,73,78,84,79,32,71,32,86,65,76,85,69,83,32,40]++g++ [44,32]++v++ [44,32,78,85,76,76,41]
 |3=> [85,80,68,65,84,69,32,84,32,83,69,84,32,78,32,61,32,78,32,43,32]++v++ [32,87,72,69,82,69,32,75,32,61,32]++n
 |4=> [85,80,68,65,84,69,32,84,32,83,69,84,32,78,32,61,32]++v++ [44,32,86,32,61,32,39,120,39,32,87,72,69,82,69,32,82,32,61,32]++r++ [32,65,78,68,32,75,32,62,61,32]++n
 |5=> [85,80,68,65,84,69,32,71,32,83,69,84,32,78,32,61,32,78,32,42,32]++v++ [32,87,72,69,82,69,32,75,32,61,32]++g
 |6=> [68,69,76,69,84,69,32,70,82,79,77,32,84,32,87,72,69,82,69,32,75,32,60,32]++v
 |7=> [68,69,76,69,84,69,32,70,82,79,77,32,71,32,87,72,69,82,69,32,75,32,61,32]++g
 |8=> [83,69,76,69,67,84,32,42,32,70,82,79,77,32,84]
 |9=> [83,69,76,69,67,84,32,75,44,32,78,32,43,32,49,32,70,82,79,77,32,84,32,87,72,69,82,69,32,82,32,61,32]++r++ [32,79,82,68,69,82,32,66,89,32,78,32,68,69,83,67,32,76,73,77,73,84,32]++v
 |10=> [83,69,76,69,67,84,32,42,32,70,82,79,77,32,71]
 |11=> [83,69,76,69,67,84,32,67,79,85,78,84,40,42,41,44,32,83,85,77,40,78,41,32,70,82,79,77,32,84,32,87,72,69,82,69,32,75,32,60,62,32]++n
 |12=> [83,69,76,69,67,84,32,42,32,70,82,79,77,32,71,32,87,72,69,82,69,32,75,32,61,32]++g
 |13=> [73,78,83,69,82,84,32,73,78,84,79,32,72,32,86,65,76,85,69,83,32,40]++b++ [44,32]++v++ [41]
 |14=> [85,80,68,65,84,69,32,72,32,83,69,84,32,78,32,61,32,78,32,45,32]++v
 |15=> [83,69,76,69,67,84,32,83,85,77,40,78,32,47,32]++v++ [41,32,70,82,79,77,32,72]
 |16=> [73,78,83,69,82,84,32,73,78,84,79,32,84,32,86,65,76,85,69,83,32,40]++r++ [44,32]++n++ [44,32,78,85,76,76,44,32]++v++ [41,44,32,40,49,44,32]++v++ [44,32,39,116,119,111,39,44,32,78,85,76,76,41]
 |17=> [83,69,76,69,67,84,32,78,32,70,82,79,77,32,84,32,87,72,69,82,69,32,75,32,61,32]++n
 |18=> [85,80,68,65,84,69,32,71,32,83,69,84,32,78,32,61,32,78,32,43,32,49,44,32,66,32,61,32,78,32,62,32]++v
 |_=> [83,69,76,69,67,84,32,86,32,70,82,79,77,32,84,32,87,72,69,82,69,32,78,32,73,83,32,78,85,76,76,32,79,82,32,75,32,62,61,32]++n++ [32,79,82,68,69,82,32,66,89,32,86]
theorem xI0 {r n g v b:List UInt8} (hr:r.length<=20) (hn:n.length<=20) (hg:g.length<=20) (hv:v.length<=20) (hb:b.length<=20) (k:Nat):(stF r n g v b k).length<=300:=by
 unfold stF
 split<;>simp<;>omega
theorem zP8 (a:GAct) (ha:a.ok): ∃t:List UInt8,t.length<=300/\Pure prog 24 [.agg a.row] (.str t):=by
 have hw:=zY2 a.what 20 ha.what (by decide) (by decide)
 have hpr:=zY2 a.a 2 ha.a (by decide) (by decide)
 have hdr:=ya5 (a.a%2).toNat (by omega)
 rw[show(((a.a%2).toNat:Nat):Int)=a.a%2 by omega]at hdr
 have hnb:=yg9 a.b ha.b
 have hnc:=yg9 a.c ha.c
 obtain⟨g,hgl,hg⟩:=xP9 a.b ha.b
 obtain⟨tr,htl,ht⟩:=xy4 a.a ha.a
 have h0:=El a.what (b:=20) (by decide)
 have h1:=Ec a.what (b:=20) (by decide)
 obtain⟨w,hw2⟩: ∃w:Nat,a.what%20=w:=⟨(a.what%20).toNat,by omega⟩
 have hw20:w<20:=by omega
 rw[hw2]at hw
 clear hw2 h0 h1
 obtain⟨r,hr⟩:=eX (digF (a.a%2).toNat)
 have hrl:r.length<=20:=by rw[<-hr];exact yb0 _
 rw[hr]at hdr
 obtain⟨rm,hrm⟩:=eX (a.a%2)
 rw[hrm]at hpr hdr
 clear hr hrm
 obtain⟨n,hn⟩:=eX (numP a.b)
 have hnl:n.length<=20:=by rw[<-hn];exact yH0 _
 rw[hn]at hnb
 clear hn
 obtain⟨v,hv⟩:=eX (numP a.c)
 have hvl:v.length<=20:=by rw[<-hv];exact yH0 _
 rw[hv]at hnc
 clear hv ha
 obtain⟨wh,aa,ab,ac⟩:=a
 simp only at hw hpr hnb hnc hg ht
 refine⟨stF r n g v tr w,xI0 hrl hnl hgl hvl htl w, ?_⟩
 obtain⟨M,hM⟩:=eX (stF r n g v tr w)
 rw[hM]
 have ret: ∀(x:List UInt8) (σ:St),x=M->wret (some (.str x)) 0 (fun r s=>r= .str M/\s= []) σ:=fun x σ h=>by subst h;exact zQ (zC rfl) ⟨rfl,rfl⟩
 refine iV 0 func24 ntmps24 results24 fun c hc hb=> ?_
 refine zA ?_
 simp[go_sem]
 refine yU [(2,0),(3,0),(6,0),(9,0)] 1 rfl (by kernel_rfl) (by kernel_rfl) ?_
 simp[go_sem]
 refine zW hpr cB (fun _=>zH rfl) rfl ?_
 simp[go_sem]
 refine zW hdr cB (fun _=>zH rfl) rfl ?_
 simp[go_sem]
 refine zW hnb cB (fun _=>zH rfl) rfl ?_
 simp[go_sem]
 refine zW hg cB (fun _=>zH rfl) rfl ?_
 simp[go_sem]
 refine zD hnc cB (zH rfl) rfl ?_
 simp[go_sem]
 refine zD hw cB (zH rfl) rfl ?_
 have hc20:w=0∨w=1∨w=2∨w=3∨w=4∨w=5∨w=6∨w=7∨w=8∨w=9∨w=10∨w=11∨w=12∨w=13∨w=14∨w=15∨w=16∨w=17∨w=18∨w=19:=by omega
 clear hw hw20
 rcases hc20 with rfl|rfl|rfl|rfl|rfl|rfl|rfl|rfl|rfl|rfl|rfl|rfl|rfl|rfl|rfl|rfl|rfl|rfl|rfl|rfl
 .simp[go_sem]
  repeat (refine zJ (by first|omega|(simp;omega)) ?_;simp[go_sem])
  exact ret _ _ (by rw[<-hM];simp[stF])
 .simp[go_sem]
  repeat (refine zJ (by first|omega|(simp;omega)) ?_;simp[go_sem])
  exact ret _ _ (by rw[<-hM];simp[stF])
 .simp[go_sem]
  repeat (refine zJ (by first|omega|(simp;omega)) ?_;simp[go_sem])
  exact ret _ _ (by rw[<-hM];simp[stF])
 .simp[go_sem]
  repeat (refine zJ (by first|omega|(simp;omega)) ?_;simp[go_sem])
  exact ret _ _ (by rw[<-hM];simp[stF])
 .simp[go_sem]
  repeat (refine zJ (by first|omega|(simp;omega)) ?_;simp[go_sem])
  exact ret _ _ (by rw[<-hM];simp[stF])
 .simp[go_sem]
  repeat (refine zJ (by first|omega|(simp;omega)) ?_;simp[go_sem])
  exact ret _ _ (by rw[<-hM];simp[stF])
 .simp[go_sem]
  repeat (refine zJ (by first|omega|(simp;omega)) ?_;simp[go_sem])
  exact ret _ _ (by rw[<-hM];simp[stF])
 .simp[go_sem]
  repeat (refine zJ (by first|omega|(simp;omega)) ?_;simp[go_sem])
  exact ret _ _ (by rw[<-hM];simp[stF])
 .simp[go_sem]
  repeat (refine zJ (by first|omega|(simp;omega)) ?_;simp[go_sem])
  exact ret _ _ (by rw[<-hM];simp[stF])
 .simp[go_sem]
  repeat (refine zJ (by first|omega|(simp;omega)) ?_;simp[go_sem])
  exact ret _ _ (by rw[<-hM];simp[stF])
 .simp[go_sem]
  repeat (refine zJ (by first|omega|(simp;omega)) ?_;simp[go_sem])
  exact ret _ _ (by rw[<-hM];simp[stF])
 .simp[go_sem]
  repeat (refine zJ (by first|omega|(simp;omega)) ?_;simp[go_sem])
  exact ret _ _ (by rw[<-hM];simp[stF])
 .simp[go_sem]
  repeat (refine zJ (by first|omega|(simp;omega)) ?_;simp[go_sem])
  exact ret _ _ (by rw[<-hM];simp[stF])
 .simp[go_sem]
  refine zD ht cB (zH rfl) rfl ?_
  simp[go_sem]
  repeat (refine zJ (by first|omega|(simp;omega)) ?_;simp[go_sem])
  exact ret _ _ (by rw[<-hM];simp[stF])
 .simp[go_sem]
  repeat (refine zJ (by first|omega|(simp;omega)) ?_;simp[go_sem])
  exact ret _ _ (by rw[<-hM];simp[stF])
 .simp[go_sem]
  repeat (refine zJ (by first|omega|(simp;omega)) ?_;simp[go_sem])
  exact ret _ _ (by rw[<-hM];simp[stF])
 .simp[go_sem]
  repeat (refine zJ (by first|omega|(simp;omega)) ?_;simp[go_sem])
  exact ret _ _ (by rw[<-hM];simp[stF])
 .simp[go_sem]
  repeat (refine zJ (by first|omega|(simp;omega)) ?_;simp[go_sem])
  exact ret _ _ (by rw[<-hM];simp[stF])
 .simp[go_sem]
  repeat (refine zJ (by first|omega|(simp;omega)) ?_;simp[go_sem])
  exact ret _ _ (by rw[<-hM];simp[stF])
 .simp[go_sem]
  repeat (refine zJ (by first|omega|(simp;omega)) ?_;simp[go_sem])
  exact ret _ _ (by rw[<-hM];simp[stF])
end Go.Proofs.YtkigddpaonhmlaaGreat
namespace Go.Proofs.YtkigddpaonhmlaaGreat
open Go Go.Vx R Go.Proofs.Tryz
set_option maxRecDepth 100000
open Classical in
noncomputable def actT (a:GAct):List UInt8:=if h:a.ok then Classical.choose (zP8 a h)else []
theorem xl2 {a:GAct} (h:a.ok):(actT a).length<=300/\Pure prog 24 [.agg a.row] (.str (actT a)):=by
 unfold actT
 rw[dif_pos h]
 exact Classical.choose_spec (zP8 a h)
noncomputable def txF:List GAct->Nat->List UInt8->List UInt8
 | [],_,s=>s
 |a::l,i,s=>if i<3 then txF l (i+1) ((if 0<i then s++ [59,32]else s)++actT a)else s
theorem xb0: ∀{l:List GAct} {i:Nat} {s:List UInt8},(∀a∈l,a.ok)->i<=3->(txF l i s).length<=s.length+302*(3 - i)
 | [],i,s,_,_=>by rw[txF];omega
 |a::l,i,s,h,hi=>by
  rw[txF]
  split
  .rename_i q
   have ha:=(xl2 (h a (Bb ..))).1
   refine Ay (xb0 (fun x hx=>h x (B5 _ hx)) (by omega)) ?_
   rw[Aw]
   have:(if 0<i then s++ [59,32]else s).length<=s.length+2:=by split<;>simp
   omega
  .omega
noncomputable def ys1 (l:List GAct):List UInt8:=if txF l 0 []= []then [83,69,76,69,67,84,32,42,32,70,82,79,77,32,71]else txF l 0 []
theorem xj5 {l:List GAct} (h: ∀a∈l,a.ok):(ys1 l).length<=2000:=by
 unfold ys1
 have:=xb0 (s:= []) h (A3 3)
 split
 .decide
 .simp at this;omega
theorem xS6 (l:List GAct) (_hl:l.length<=maxLen) (hok: ∀a∈l,a.ok):Pure prog 14 [.sl .ro (l.map GAct.row),.int .i64 0,.int .i64 0] (.str (ys1 l)):=by
 obtain⟨M,hM⟩:=eX (ys1 l)
 rw[hM]
 unfold ys1 at hM
 obtain⟨T,hT⟩:=eX (txF l 0 [])
 rw[hT]at hM
 have ret: ∀(x:List UInt8) (σ:St),x=M->wret (some (.str x)) 0 (fun r s=>r= .str M/\s= []) σ:=fun x σ h=>by subst h;exact zQ (zC rfl) ⟨rfl,rfl⟩
 refine iV 0 func14 ntmps14 results14 fun c hc hb=> ?_
 refine zA ?_
 simp[go_sem]
 refine zL (S:=Nat×List UInt8) [0,1,7,8] (fun u=> [.sl .ro (l.map GAct.row),.int .i64 0,.str u.2,.int .i64 u.1]) (fun _=> []) (fun u=>l.length - u.1) (fun u=>u.1<=l.length/\u.1<=3/\u.2.length<=302*u.1/\txF (l.drop u.1) u.1 u.2=T) hc hb (0,[]) ⟨A3 _,A3 _,A3 _,hT⟩ ?_ ?_
 .exact aO
 rintro⟨i,s⟩ ⟨hi,hi3,hs,hinv⟩
 simp only at hi hi3 hs hinv
 by_cases q:i<l.length/\i<3
 rotate_left
 .have hsT:s=T:=by
   by_cases q1:i<l.length
   .rw[A6 q1,txF,if_neg (by omega)]at hinv
    exact hinv
   .rw[A9 (by omega)]at hinv
    exact hinv
  refine zA ?_
  by_cases q1:i<l.length
  .have q3: ¬i<3:=by omega
   have q3':decide ((i:Int)<3)=false:=decide_eq_false (by omega)
   simp[go_sem,q1,q3']
   by_cases q0:s= []
   .have q0':s.isEmpty=true:=by simpa using q0
    rw[if_pos (by rw[<-hsT];exact q0)]at hM
    simp[go_sem,q0']
    exact ret _ _ hM
   .have q0':s.isEmpty=false:=by simpa using q0
    rw[if_neg (by rw[<-hsT];exact q0)]at hM
    simp[go_sem,q0']
    exact ret _ _ (by rw[hsT];exact hM)
  .simp[go_sem,q1]
   by_cases q0:s= []
   .have q0':s.isEmpty=true:=by simpa using q0
    rw[if_pos (by rw[<-hsT];exact q0)]at hM
    simp[go_sem,q0']
    exact ret _ _ hM
   .have q0':s.isEmpty=false:=by simpa using q0
    rw[if_neg (by rw[<-hsT];exact q0)]at hM
    simp[go_sem,q0']
    exact ret _ _ (by rw[hsT];exact hM)
 obtain⟨q1,q3⟩:=q
 have ei:=zV q3 (by omega)
 have q3':decide ((i:Int)<3)=true:=decide_eq_true (by omega)
 obtain⟨a,ha⟩:=eX (l[i])
 obtain⟨hal,haw⟩:=xl2 (hok a (ha▸A8 q1))
 rw[A6 q1,ha,txF,if_pos q3]at hinv
 by_cases q0:0<i
 .have q0':decide (0<(i:Int))=true:=decide_eq_true (by omega)
  rw[if_pos q0]at hinv
  refine zA ?_
  simp[go_sem,q1,q3',q0]
  refine zJ (by first|omega|(simp;omega)) ?_
  simp[go_sem,q1,ha]
  refine zD haw cB (zH rfl) rfl ?_
  simp[go_sem]
  refine zJ (by first|omega|(simp;omega)) ?_
  simp[go_sem,ei]
  exact zI (i+1,s++ [59,32]++actT a) ⟨by show l.length - (i+1)<l.length - i;omega,⟨q1,q3,by simp;omega,hinv⟩,aO⟩
 .have q0':decide (0<(i:Int))=false:=decide_eq_false (by omega)
  rw[if_neg q0]at hinv
  refine zA ?_
  simp[go_sem,q1,q3',q0]
  simp[go_sem,ha]
  refine zD haw cB (zH rfl) rfl ?_
  simp[go_sem]
  refine zJ (by first|omega|(simp;omega)) ?_
  simp[go_sem,ei]
  exact zI (i+1,s++actT a) ⟨by show l.length - (i+1)<l.length - i;omega,⟨q1,q3,by simp;omega,hinv⟩,aO⟩
end Go.Proofs.YtkigddpaonhmlaaGreat
