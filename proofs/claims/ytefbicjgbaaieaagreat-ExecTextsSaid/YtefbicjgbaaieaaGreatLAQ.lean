/-
  What the document lays of one range is that range's part of what is otherwise now. Used by the walk of the document's Run.
  Conditions: as each theorem states them.
-/
import Derived.Test.YtefbicjgbaaieaaGreatLAP
import Derived.Test.YtefbicjgbaaieaaGreatLAO
set_option maxHeartbeats 8000000
namespace Go.Proofs.YtefbicjgbaaieaaGreat
open Go Go.Vx R
set_option maxRecDepth 100000
variable{l:List Wr}{n:Nat}{dy:List Ln}{now:List Ln}{r:Int}
theorem OS(c:UInt8):UInt8.ofNat c.toNat=c:=sm
theorem UX:∀(l:aij)(i v u n:Nat),xW l i v=(u,n,0)->∃w k,u=v+w*128^i/\n=i+k/\l.take k=eJ w/\k<=l.length/\(0<i->0<w)
 |[],i,v,u,n,h=>by grind[xW]|c::rest,i,v,u,n,h=>by
  rw[xW]at h;split at h;.grind
  .split at h
   .rename_i h2;split at h;.grind
    .rename_i h3;simp only[ai1]at h;obtain⟨h4,h5,_⟩:=h;refine⟨c.toNat,1,?_,h5.symm,?_,sm,λhi=>?_⟩;.grind
     .rw[F1 h2,OS];rfl
     omega
   .rename_i h2;obtain⟨w,k,h4,h5,h6,h7,h8⟩:=UX rest (i+1) _ u n h;have hw:=om;have hc:=c.toNat_lt;have e1:(c.toNat%128+128*w)%128=c.toNat%128:=om;have e2:(c.toNat%128+128*w)/128=w:=om;refine⟨c.toNat%128+128*w,k+1,?_,om,?_,by grind,om⟩;.grind
    .rw[HN om,e1,e2,C3,h6];grind[OS]
theorem wh9(u:Nat):gA (ju u)=u:=by grind[gA,ju]
theorem OT{l:aij}{u:Nat}(h:xW l 0 0=(u,n,0)):l.take n=eJ u/\n<=l.length:=by grind[UX]
theorem yY7:∀{b:aij},(kJ b).e=0->b.take (kJ b).n=wX (kJ b).v/\(kJ b).n<=b.length/\0<(kJ b).n
 |[],h=>by trivial|c::rest,h=>by
  have hc:=OS c;rw[kJ]at h⊢;revert h;unfold jh;split;.grind[wX,dw,v0]
  .split;.rename_i _ h1;rw[h1]at hc;unfold pz;cases rest with |nil=>simp|cons d rest=>
     simp only[Af,List.getD_cons_succ,List.getD_cons_zero];rw[ahO om];split;.simp
     .intro _;rename_i hd;refine⟨?_,sm,sm⟩;have hm:dw ⟨1,(d.toNat:Int),[]⟩=true:=by grind[dw]
      simp_all[wX]
   .split;.rename_i _ _ h2;rw[h2]at hc;obtain⟨⟨u,n,e⟩,hg⟩:∃g,xW rest 0 0=g:=⟨_,rfl⟩;rw[hg];simp only;split;all_goals simp_all[OT,wX,dw,Dx,wh9]
    .split
     .rename_i _ _ _ h3;rw[h3]at hc;obtain⟨⟨u,n,e⟩,hg⟩:∃g,xW rest 0 0=g:=⟨_,rfl⟩;unfold px yP;rw[hg];by_cases he:e=0;rotate_left;.grind
      subst he;by_cases h5:1048576<u;.grind
      by_cases h6:rest.length-n<u;.grind
      obtain⟨h7,h8⟩:=OT hg;have aa:((rest.take (n+u)).drop n).length=u:=by grind
      simp only[h5,h6,ai3,ne_eq,ai7,aa];by_cases hl:64<u;.grind
      rw[ahO hl];intro _;refine⟨?_,by grind,by grind⟩;have hm:dw ⟨3,0,(rest.take (n+u)).drop n⟩=true:=by grind[dw]
      unfold wX;rw[ahP hm];simp only;rw[ahO dc,ahO dc,ahP True.intro,aa,<-h7];rw[Dx 1 (n+u),C3];show c::_=UInt8.ofNat 3::_;rw[hc];congr 1;grind[Bt]
     simp
theorem UY:∀(n:Nat)(b:aij)(l:List bF),fX n b=some l->l.flatMap wX=b/\l.length=n
 |0,b,l,h=>by rw[fX]at h;grind|n+1,b,l,h=>by
  rw[fX]at h;split at h;.rename_i he;rw[Ar]at h;obtain⟨l',h1,rfl⟩:=h;obtain⟨h2,h3⟩:=UY n _ l' h1;obtain⟨h4,_,_⟩:=yY7 he;refine⟨?_,by simp[h3]⟩;rw[Bu,h2,<-h4,Bt]
  grind
theorem xh4{nc:Nat}{data:aij}(h:(R.iU nc data).2=0):yK (R.iU nc data).1=data:=by
 revert h;unfold R.iU;split;.rename_i h0;intro h;obtain⟨⟨u,n,e⟩,hg⟩:∃g,xW data 0 0=g:=⟨_,rfl⟩;rw[hg]at h h0⊢;obtain⟨h1,h2⟩:=h0;simp only at h1 h2 h⊢;rw[h1]at hg;subst h2;obtain⟨h3,_⟩:=OT hg;cases hr:fX u (data.drop n)with |none=>grind[rD]|some l=>obtain⟨h5,h6⟩:=UY _ _ _ hr;show yK l=data;unfold yK pw;grind[Bt]
 omega
theorem eP.read{x:Ln}(h:eP x):eO bI (dY x.r).1 (yK x.v)=(x.v,0):=by obtain⟨tn,T,e,hT,hm⟩:=h.jl;obtain⟨aa,ab⟩:=A5.1 hT;have hL:=Gk ((by decide:∀T∈bI,T.bP.length<=20) T (by grind)) h.ok hm;simp_all[eO,xR5]
def vl(t:Int)(e:Pl×aij):Ln:=⟨e.1.1,e.1.2,(eO bI t e.2).1⟩
def qf(gU:Int)(lo hi:aij)(e:Pl×aij):Bool:=(e.1.1==gU)&&(!Op.bytesLess e.1.2 lo&&Op.bytesLess e.1.2 hi)
def Ih(gU:Int)(lo hi:aij)(x:Ln):Bool:=(gU==x.r)&&(!Op.bytesLess x.k lo&&Op.bytesLess x.k hi)
theorem yW2{b:Mp aij}{l:List Ln}(h:cE b l){D:List (Pl×aij)}(hD:D.Perm b.W){t gU:Int}(hr:(dY gU).1=t)(lo hi:aij):((D.filter (qf gU lo hi)).map (vl t)).Perm (l.filter (Ih gU lo hi)):=by
 have h1:=((hD.trans h.perm).filter (qf gU lo hi)).map (vl t);refine h1.trans (aib ?_);rw[List.filter_map,B8];have e1:l.filter (qf gU lo hi∘λx=>(x.at,yK x.v))=l.filter (Ih gU lo hi):=aie λx _=>by show((x.r==gU)&&_)=((gU==x.r)&&_);rw[Bool.beq_comm];rfl
 rw[e1];refine(B6 λx hx=>?_).trans (List.map_id _);obtain⟨ad,aa⟩:=Bl.1 hx;unfold Ih at aa;rw[A8,ahX]at aa;have ab:=(h.rows x ad).read;rw[<-aa.1,hr]at ab;show vl t (x.at,yK x.v)=x;unfold vl;rw[ab];rfl
theorem xh1(j:Nat)(hj:j<3)(st:bQ):((wE (j:Int) st).map λg=>(wY j g).1).Nodup:=by match j,hj with |0,_=>have e:wE ((0:Nat):Int) st=ku (lQ st) [0,1]:=rfl;rw[e,KH];exact ahY ((Bo).map _) (by decide:([0,1].map λg=>(wY ((0:Nat):Int) g).1).Nodup)|1,_=>exact(by decide:([-1].map λg=>(wY ((1:Nat):Int) g).1).Nodup)|2,_=>exact(by decide:([1].map λg=>(wY ((2:Nat):Int) g).1).Nodup)
theorem KW(j:Nat)(hj:j<3){st:bQ}{g:Int}(hg:g∈wE (j:Int) st):(g=-1\/g=0\/g=1)/\(wY j g).2=0/\dY (wY j g).1=((j:Int),g,0):=by match j,hj with |0,_=>have e:wE ((0:Nat):Int) st=ku (lQ st) [0,1]:=rfl;rw[e,KH]at hg;have:=(Bl.1 hg).1;simp at this;rcases this with rfl|rfl;all_goals decide|1,_=>have e:wE ((1:Nat):Int) st=[-1]:=rfl;rw[e]at hg;simp at hg;subst hg;decide|2,_=>have e:wE ((2:Nat):Int) st=[1]:=rfl;rw[e]at hg;simp at hg;subst hg;decide
theorem yJ1(j:Nat)(hj:j<3)(st:bQ)(l:List Ln):((wE (j:Int) st).flatMap λg=>l.filter (Ih (wY j g).1 (mR bI j st).1 (mR bI j st).2)).Perm (l.filter (mn j st)):=UW (l:=l) (c:=λx=>!Op.bytesLess x.k (mR bI j st).1&&Op.bytesLess x.k (mR bI j st).2) (rg:=λg=>(wY j g).1) (xh1 j hj st)
theorem xf0{j:Nat}{st:bQ}{l m:List Ln}(hr:gv (l.map Ln.at))(hp:m.Perm (l.filter (mn j st)))(hs:m.Pairwise λa b=>¬lh b.at a.at<0):m=l.filter (mn j st):=by refine xC1 (List.Pairwise.sublist ((Bo).map _) hr) hp (hs.imp λ{a b}h=>?_);rw[<-OR];grind
def oi(l:List Wr):Prop:=l.Pairwise λa b=>yZ a.p b.p=true
theorem OU(l:List Wr)(x:Wr):(gi l x).Perm (x::l):=by unfold gi;refine Dg.trans (List.Perm.cons _ (aib ?_));simp
theorem UZ{x:Wr}:∀{l:List Wr},oi l->(∀y∈l,y.p≠x.p)->∀y∈l.dropWhile (λy=>yZ y.p x.p),yZ x.p y.p=true
 |[],_,_,y,hy=>by simp_all|z::l,hr,hn,y,hy=>by
  rw[oi,C8]at hr;rw[aia]at hy;by_cases q:yZ z.p x.p=true;.rw[ahP q]at hy;exact UZ hr.2 (by grind) y hy
  .rw[ahO q]at hy;have hz:yZ x.p z.p:=by grind[H9]
   rcases Ag.1 hy with rfl|hy;all_goals grind[H8]
theorem xv8{x:Wr}(h:oi l)(hn:∀y∈l,y.p≠x.p):oi (gi l x):=by have hd:=UZ h hn;have ht:∀y∈l.takeWhile (λy=>yZ y.p x.p),yZ y.p x.p:=ON;unfold oi at h;rw[<-B5 (p:=λy:Wr=>yZ y.p x.p) (l:=l),By]at h;unfold gi oi;rw[By,C8];grind
theorem Ii{f:Ln->Wr}(hf:∀x,(f x).p=x.at):∀{m:List Ln}{l:List Wr},oi l->(l.map (·.p)++m.map Ln.at).Nodup->oi (m.foldl (λl x=>gi l (f x)) l)/\(m.foldl (λl x=>gi l (f x)) l).Perm (l++m.map f)
 |[],l,h,_=>(by simp_all)|x::m,l,h,hn=>by
  have hx:∀y∈l,y.p≠(f x).p:=(by grind);have h2:((gi l (f x)).map (·.p)++m.map Ln.at).Nodup:=by
   have hp:((gi l (f x)).map (·.p)++m.map Ln.at).Perm (l.map (·.p)++(x::m).map Ln.at):=by refine(((OU l (f x)).map (·.p)).append_right _).trans ?_;rw[Ad,Ad,hf];exact Dg.symm
   exact hp.nodup_iff.2 hn
  obtain⟨h3,h4⟩:=Ii hf (m:=m) (xv8 h hx) h2;refine⟨h3,h4.trans ?_⟩;refine((OU l (f x)).append_right _).trans ?_;rw[Ad];exact Dg.symm
theorem OV{m:List Wr}(h:oi l)(g:oi m)(e:∀x,x∈l↔x∈m):l=m:=by have nd:∀{l:List Wr},oi l->l.Nodup:=λh=>h.imp (by grind[KN]);exact((List.perm_ext_iff_of_nodup (nd h) (nd g)).2 om).eq_of_pairwise (by grind[Uz]) h g
def isW(dy now:List Ln)(w:Wr):Prop:=(w.drop=true/\w.data=[]/\(∃x∈dy,x.at=w.p)/\fT now w.p=false)\/(w.drop=false/\∃x∈now,x.at=w.p/\yK x.v=w.data/\∀y∈dy,y.at=x.at->yK y.v≠yK x.v)
theorem KX(hw:gv (dy.map Ln.at))(hn:gv (now.map Ln.at)):oi (gj dy now)/\∀w,w∈gj dy now↔isW dy now w:=by
 obtain⟨h1,h2⟩:=Ii (f:=λx=>⟨x.at,true,[]⟩) sm (m:=dy.filter λx=>!fT now x.at) (l:=[]) List.Pairwise.nil (by simp only[Bp,C0];exact ahY ((Bo).map _) hw.nodup);rw[C0]at h2;obtain⟨h3,h4⟩:=Ii (f:=λx=>⟨x.at,false,yK x.v⟩) sm (m:=now.filter λx=>!(dy.any λy=>decide (y.at=x.at)&&decide (yK y.v=yK x.v))) h1 (by have hp:=(h2.map (·.p)).append_right ((now.filter λx=>!(dy.any λy=>decide (y.at=x.at)&&decide (yK y.v=yK x.v))).map Ln.at);refine hp.nodup_iff.2 ?_;rw[B8,Dc];refine⟨ahY ((Bo).map _) hw.nodup,ahY ((Bo).map _) hn.nodup,λa ha b hb e=>?_⟩;obtain⟨x,hx,rfl⟩:=Aa.1 ha;obtain⟨y,hy,rfl⟩:=Aa.1 hb;grind[fT]);refine⟨h3,λw=>?_⟩;have h5:=(h4.trans (h2.append_right _)).mem_iff (a:=w);rw[Ak,Aa,Aa]at h5;refine h5.trans (or_congr ⟨?_,?_⟩ ⟨?_,?_⟩);.grind
 .rintro⟨e1,e2,⟨x,hx,e3⟩,e4⟩;refine⟨x,(by grind),?_⟩;obtain⟨p,d,b⟩:=w;grind
 .grind
 .rintro⟨e1,x,hx,e2,e3,e4⟩;refine⟨x,Bl.2 ⟨hx,?_⟩,?_⟩;.grind
  .obtain⟨p,d,b⟩:=w;grind
def gx(out:List (Int×List Wr))(w:Wr):List (Int×List Wr):=match out.getLast? with |some q=>if q.1=w.p.1then out.dropLast++[(q.1,q.2++[w])]else out++[(w.p.1,[w])]|none=>[(w.p.1,[w])]
def kE(l:List Wr):List (Int×List Wr):=l.foldl gx []
theorem U0{r:Int}:∀{B C:List Wr}{out:List (Int×List Wr)},(∀w∈B,w.p.1=r)->B.foldl gx (out++[(r,C)])=out++[(r,C++B)]
 |[],C,out,_=>by simp|w::B,C,out,h=>by
  have hw:=h w (Ax ..);have e:gx (out++[(r,C)]) w=out++[(r,C++[w])]:=by unfold gx;rw[List.getLast?_append];simp[hw]
  rw[Ap,e,U0 λy hy=>h y (Bd _ hy)];simp
theorem KY{B:List Wr}{out:List (Int×List Wr)}(h:∀w∈B,w.p.1=r)(ho:∀q∈out,q.1≠r):B.foldl gx out=out++(if B=[]then[]else[(r,B)]):=by cases B with|nil=>simp|cons w B=>
  have hw:=h w (Ax ..);have e:gx out w=out++[(r,[w])]:=by unfold gx;cases q:out.getLast? with|none=>simp_all|some p=>grind
  grind[U0]
theorem yW5(h:oi l)(hr:∀w∈l,w.p.1=0\/w.p.1=1\/w.p.1=2\/w.p.1=3):l=l.filter (λw=>w.p.1==0)++(l.filter (λw=>w.p.1==1)++(l.filter (λw=>w.p.1==2)++l.filter (λw=>w.p.1==3))):=by
 have hl:∀{a b:Wr},a.p.1<b.p.1->yZ a.p b.p=true:=(by grind[yZ]);refine OV h ?_ λw=>?_
 .unfold oi at h⊢;rw[By,By,By];refine⟨h.filter _,⟨h.filter _,⟨h.filter _,h.filter _,?_⟩,?_⟩,?_⟩;.grind
  .grind
  .intro a ha b hb;have h1:=(Bl.1 ha).2;rw[Ak,Ak]at hb;grind
 grind
def oj(l:List Wr)(r:Int):List (Int×List Wr):=if l.filter (λw=>w.p.1==r)=[]then[]else[(r,l.filter (λw=>w.p.1==r))]
theorem KZ:∀q∈oj l r,q.1=r:=(by grind[oj])
theorem yQ9(h:oi l)(hr:∀w∈l,w.p.1=0\/w.p.1=1\/w.p.1=2\/w.p.1=3):kE l=oj l 0++(oj l 1++(oj l 2++oj l 3)):=by
 have hb:∀r:Int,∀w∈l.filter (λw=>w.p.1==r),w.p.1=r:=sm;have e:=yW5 h hr;unfold kE;rw[e,Bv,Bv,Bv,KY (hb 0) sm];have e0:∀r,(if l.filter (λw=>w.p.1==r)=[]then[]else[(r,l.filter (λw=>w.p.1==r))])=oj l r:=λ_=>rfl;rw[<-e,e0,C0,KY (hb 1) (λq hq=>by rw[KZ q hq];decide),e0,KY (hb 2) (λq hq=>by rcases Ak.1 hq with hq|hq<;>rw[KZ q hq]<;>decide),e0,KY (hb 3) (λq hq=>by
   rcases Ak.1 hq with hq|hq;.rcases Ak.1 hq with hq|hq<;>rw[KZ q hq]<;>decide
   .rw[KZ q hq];decide),e0];simp
theorem U4{g:Int}(he:(dY g).2.2=0):∃(tn:Nat)(T:bH),(dY g).1=(tn:Int)/\bI[tn]?=some T:=by
 unfold dY at he⊢;split at he<;>rename_i q0;.rw[ahP q0];exact⟨0,_,rfl,rfl⟩
 .rw[ahO q0];split at he<;>rename_i q1;.rw[ahP q1];exact⟨0,_,rfl,rfl⟩
  .rw[ahO q1];split at he<;>rename_i q2;.rw[ahP q2];exact⟨1,_,rfl,rfl⟩
   .rw[ahO q2];split at he<;>rename_i q3;.rw[ahP q3];exact⟨2,_,rfl,rfl⟩
    grind
def BI(x:Ln):Prop:=lC x.r x.k (yK x.v)=true
theorem U5{p:Pl}{data:aij}(h:lC p.1 p.2 data):eP ⟨p.1,p.2,(eO bI (dY p.1).1 data).1⟩/\yK (eO bI (dY p.1).1 data).1=data:=by
 unfold lC at h;simp only[A8,ahS]at h;obtain⟨h1,h2,h3⟩:=h;obtain⟨tn,T,aa,hT⟩:=U4 h1;have ab:bI.getD tn eC=T:=by grind
 have cK:=OM tn data;rw[aa]at h2 h3⊢;rw[Ai,ab]at h3;have hk:=KO tn T hT (eO bI tn data).1 (by rw[h3]);rw[h3]at hk;refine⟨⟨(by grind),h1,cK.2⟩,?_⟩;obtain⟨hl,ad⟩:=A5.1 hT;simp_all[eO,xh4]
theorem U6{J:Type}{p q:Pl}{v:J}(h:q≠p):∀{W:List (Pl×J)},dI p (W++[(q,v)])=dI p W
 |[]=>by grind[dI]|e::W=>by rw[Bg,dI,dI,U6 h]
theorem U7{J:Type}{p q:Pl}{v:J}:∀{W:List (Pl×J)}{i:Nat}{u:J},dI p W=some (i,u)->(dI q (W.set i (p,v))).map (·.2)=if q=p then some v else(dI q W).map (·.2)
 |[],i,u,h=>by trivial|e::W,i,u,h=>by
  rw[dI]at h;by_cases c:e.1=p;.rw[ahP c]at h;simp only[ahT,ai1]at h;obtain⟨rfl,rfl⟩:=h;rw[Cg,dI,dI];grind
  .rw[ahO c,Ar]at h;obtain⟨⟨j,w⟩,h1,h2⟩:=h;simp only[ai1]at h2;obtain⟨rfl,rfl⟩:=h2;rw[Bz,dI,dI];by_cases d:e.1=q;.grind
   .rw[ahO d,ahO d,Option.map_map,Option.map_map];exact U7 h1
theorem OW{J:Type}(m:Mp J)(p q:Pl)(v:J):(m.put p v).get q=if q=p then some v else m.get q:=by unfold Mp.get Mp.put Mp.at;cases h:dI p m.W with
 |none=>
  simp only;by_cases d:q=p;.subst d;rw[KK h,ahP rfl];rfl
  .rw[U6 (by grind),ahO d]|some w=>grind[U7]
theorem lj{J:Type}{m:Mp J}{p:Pl}:m.get p=none↔m.at p=none:=by grind[Mp.get,Option.map_eq_none_iff]
def wJ(s:List (Pl×aij)×List Ln)(q:Pl×aij):List (Pl×aij)×List Ln:=if(s.1.any λe=>e.1==q.1)=true then s else(s.1++[q],if lC q.1.1 q.1.2 q.2=true then oc s.2 ⟨q.1.1,q.1.2,(eO bI (dY q.1.1).1 q.2).1⟩else s.2)
structure nr(n:Nat)(s:List (Pl×aij)×List Ln)(m:M3):Prop where
 same:m.1=m.2.1now:cE m.2.1 s.2sn:m.2.2.ok
 seen:∀p,m.2.2.get p=none↔(s.1.any λe=>e.1==p)=false
 OO:∀p v,m.2.2.get p=some v->1<=v/\v<=n
 lines:∀x∈s.2,BI x/\(x.at,yK x.v)∈s.1rows:∀q∈s.1,lC q.1.1 q.1.2 q.2=true->∃x∈s.2,x.at=q.1/\yK x.v=q.2len:s.2.length<=n
theorem nr.step{s:List (Pl×aij)×List Ln}{m:M3}(h:nr n s m)(q:Pl×aij):nr (n+1) (wJ s q) (BH q.1 q.2 m):=by obtain⟨p,data⟩:=q;obtain⟨a,b,c⟩:=m;obtain⟨se,out⟩:=s;obtain⟨h1,h2,h3,h4,h6,h5,h7,h8⟩:=h;simp only at h1 h2 h3 h4 h5 h6 h7 h8;subst h1;have aa:∀w:Int,1<=w->w<=(n:Int)+1->∀q v,(c.put p w).get q=some v->1<=v/\v<=((n+1:Nat):Int):=(by grind[OW]);unfold wJ BH;simp only;cases hs:se.any λe=>e.1==p with
 |true=>
  have hc:c.get p≠none:=(by grind);obtain⟨v,hv⟩:=Option.ne_none_iff_exists'.1 hc;have ad:lT c p=v:=by unfold lT;grind
  have af:=h6 p v hv;rw[ahP rfl,ahO om,ad];refine⟨rfl,h2,Mp.lg h3 _ _,λq=>?_,aa _ om om,h5,h7,by grind⟩;grind[OW]|false=>
  have hg:=(h4 p).2 hs;have ad:lT c p=0:=by unfold lT;grind
  have ab:∀q,(c.put p (0+1)).get q=none↔((se++[(p,data)]).any λe=>e.1==q)=false:=(by grind[OW]);rw[ahO sm,ad];by_cases hr:lC p.1 p.2 data=true
  .rw[ahP hr,ahP (by grind)];obtain⟨hl,hd⟩:=U5 hr;have ha:fT out p=false:=by cases e:fT out p with|false=>rfl|true=>obtain⟨x,hx,ag⟩:=Aa.1 (fj.1 e);grind
   have hn:=h2.ins hl ha;rw[show(Ln.mk p.1 p.2 (eO bI (dY p.1).1 data).1).at=p from rfl,hd]at hn;refine⟨rfl,hn,Mp.lg h3 _ _,ab,aa _ om om,λx hx=>?_,λq hq ae=>?_,?_⟩
   .rcases Ag.1 ((x6 _ _).mem_iff.1 hx)with rfl|hx
    .refine⟨?_,List.mem_append_right _ (Cu.2 ?_)⟩;.show lC p.1 p.2 (yK _)=true;grind
     .show(p,yK _)=(p,data);rw[hd]
    grind
   .rcases Ak.1 hq with hq|hq;.grind[x6]
    .rw[Cu]at hq;subst hq;exact⟨_,(x6 _ _).mem_iff.2 (Ax ..),rfl,hd⟩
   .rw[(x6 _ _).length_eq];grind
  .rw[ahO hr,ahO (by grind)];refine⟨rfl,h2,Mp.lg h3 _ _,ab,aa _ om om,(by grind),λq hq ae=>?_,by grind⟩;grind
theorem U8:nr 0 ([],[]) (vj _,vj _,vj _):=by
 refine⟨rfl,⟨Uj _,List.Pairwise.nil,List.Perm.nil,sm⟩,Uj _,λp=>?_,λp v h=>?_,sm,sm,sm⟩;.exact⟨λ_=>rfl,λ_=>rfl⟩
 trivial
theorem nr.said{s:List (Pl×aij)×List Ln}{m:M3}(h:nr n s m){x:Ln}(hx:BI x):(s.1.any λq=>decide (q.1=x.at)&&decide (q.2=yK x.v))=s.2.any λy=>decide (y.at=x.at)&&decide (yK y.v=yK x.v):=by
 rw[Cp,C2,C2];constructor;.rintro⟨q,hq,e⟩;simp only[A8,ahS]at e;obtain⟨y,hy,h1,h2⟩:=h.rows q hq (by rw[e.1,e.2];exact hx);grind
 .rintro⟨y,hy,e⟩;simp only[A8,ahS]at e;exact⟨_,(h.lines y hy).2,by grind⟩
def oo(x:Ln):Wr:=⟨x.at,false,yK x.v⟩
def oq (x:Ln):Wr:=⟨x.at,true,[]⟩
theorem U9{A B:List Ln}(hA:(A.map Ln.at).Nodup)(hB:(B.map Ln.at).Nodup)(aa:∀x∈A,∀y∈B,x.at≠y.at):oi (B.foldl (λl x=>gi l (oo x)) (A.foldl (λl x=>gi l (oq x)) []))/\(B.foldl (λl x=>gi l (oo x)) (A.foldl (λl x=>gi l (oq x)) [])).Perm (A.map oq++B.map oo):=by
 obtain⟨h1,h2⟩:=Ii (f:=oq) (λ_=>rfl) (m:=A) (l:=[]) List.Pairwise.nil (by grind);rw[C0]at h2;obtain⟨h3,h4⟩:=Ii (f:=oo) (λ_=>rfl) (m:=B) h1 (by refine(((h2.map (·.p)).append_right (B.map Ln.at)).nodup_iff).2 ?_;rw[B8,Dc];refine⟨hA,hB,λa ha b hb e=>?_⟩;obtain⟨x,hx,rfl⟩:=Aa.1 ha;obtain⟨y,hy,rfl⟩:=Aa.1 hb;exact aa x hx y hy e);exact⟨h3,h4.trans (h2.append_right _)⟩
def vm(F:List (Pl×aij))(x:Ln):Bool:=F.any λq=>decide (q.1=x.at)&&decide (q.2=yK x.v)
def EB(r:Int)(F:List (Pl×aij))(dy now:List Ln):List Wr:=(now.filter λx=>(x.r==r)&&!vm F x).foldl (λl x=>gi l (oo x)) ((dy.filter λx=>(x.r==r)&&!fT now x.at).foldl (λl x=>gi l (oq x)) [])
theorem K0{l:List Ln}(h:gv (l.map Ln.at))(p:Ln->Bool):((l.filter p).map Ln.at).Nodup:=ahY ((Bo).map _) h.nodup
theorem Va(p q:Ln->Bool)(hp:∀x,p x=true->fT now x.at=false):∀x∈dy.filter p,∀y∈now.filter q,x.at≠y.at:=(by grind[fT])
theorem wh4{F:List (Pl×aij)}(hw:gv (dy.map Ln.at))(hn:gv (now.map Ln.at))(hs:∀x∈now,vm F x=dy.any λy=>decide (y.at=x.at)&&decide (yK y.v=yK x.v)):EB r F dy now=(gj dy now).filter λw=>w.p.1==r:=by
 obtain⟨h1,h2⟩:=U9 (K0 hw λx=>(x.r==r)&&!fT now x.at) (K0 hn λx=>(x.r==r)&&!vm F x) (by grind[Va]);obtain⟨h3,h4⟩:=U9 (K0 hw λx=>!fT now x.at) (K0 hn λx=>!(dy.any λy=>decide (y.at=x.at)&&decide (yK y.v=yK x.v))) (by grind[Va]);refine OV h1 (List.Pairwise.filter _ h3) λw=>?_;have h5:=h2.mem_iff (a:=w);have h6:=h4.mem_iff (a:=w);show w∈_↔w∈(gj dy now).filter _;rw[Bl];refine h5.trans (Iff.trans ?_ (and_congr_left λ_=>h6.symm));simp only[Ak,Aa,Bl];constructor
 .rintro(⟨x,⟨hx,hc⟩,rfl⟩|⟨x,⟨hx,hc⟩,rfl⟩);.simp only[A8]at hc;exact⟨(by grind),hc.1⟩
  .simp only[A8]at hc;exact⟨(by grind),hc.1⟩
 .rintro⟨⟨x,⟨hx,hc⟩,rfl⟩|⟨x,⟨hx,hc⟩,rfl⟩,hr⟩;.exact .inl ⟨x,⟨hx,by rw[A8];trivial⟩,rfl⟩
  .exact .inr ⟨x,⟨hx,by rw[A8,hs x hx];trivial⟩,rfl⟩
end Go.Proofs.YtefbicjgbaaieaaGreat
