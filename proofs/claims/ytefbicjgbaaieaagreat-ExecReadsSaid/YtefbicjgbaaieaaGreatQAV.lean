/-
  What the document lays of one range is that range's part of what is otherwise now. Used by the walk of the document's Run.
  Conditions: as each theorem states them.
-/
import Derived.Test.YtefbicjgbaaieaaGreatQAU
set_option maxHeartbeats 8000000
namespace Go.Proofs.YtefbicjgbaaieaaGreat
open Go Go.Vx R
set_option maxRecDepth 100000
theorem xW5{g:Int}(he:(ofS g).2.2=0):∃(tn:Nat)(T:GTable),(ofS g).1=(tn:Int)/\tabsS[tn]?=some T:=by
 unfold ofS at he⊢;split at he<;>rename_i q0;.rw[if_pos q0];exact⟨0,_,rfl,rfl⟩
 .rw[if_neg q0];split at he<;>rename_i q1;.rw[if_pos q1];exact⟨0,_,rfl,rfl⟩
  .rw[if_neg q1];split at he<;>rename_i q2;.rw[if_pos q2];exact⟨1,_,rfl,rfl⟩
   .rw[if_neg q2];split at he<;>rename_i q3;.rw[if_pos q3];exact⟨2,_,rfl,rfl⟩
    .exact absurd he dc
def LnK(x:Ln):Prop:=zl0 x.r x.k (yN x.v)=true
theorem yM9{p:Pl}{data:List UInt8}(h:zl0 p.1 p.2 data=true):LnOk ⟨p.1,p.2,(rowF tabsS (ofS p.1).1 data).1⟩/\yN (rowF tabsS (ofS p.1).1 data).1=data:=by
 unfold zl0 at h;simp only[A6,decide_eq_true_eq]at h;obtain⟨h1,h2,h3⟩:=h;obtain⟨tn,T,aa,hT⟩:=xW5 h1;have ab:tabsS.getD tn noT=T:=by rw[A7,hT];rfl
 have hok:=yB3 tn data;rw[aa]at h2 h3⊢;rw[Az,ab]at h3;have hk:=yb6 tn T hT (rowF tabsS tn data).1 (by rw[h3]);rw[h3]at hk;refine⟨⟨⟨tn,T,aa,hT,hk.1⟩,h1,hok.2⟩,?_⟩;obtain⟨hl,ad⟩:=A1.1 hT;unfold rowF at h2⊢;rw[dif_pos ⟨om,om⟩]at h2⊢;exact yV5 h2
theorem yg0{α:Type}{p q:Pl}{v:α}(h:q≠p):∀{W:List (Pl×α)},idxW p (W++[(q,v)])=idxW p W
 |[]=>by simp[idxW,h]|e::W=>by rw[Bo,idxW,idxW,yg0 h]
theorem yI3{α:Type}{p q:Pl}{v:α}:∀{W:List (Pl×α)}{i:Nat}{u:α},idxW p W=some (i,u)->(idxW q (W.set i (p,v))).map (·.2)=if q=p then some v else(idxW q W).map (·.2)
 |[],i,u,h=>by simp[idxW]at h|e::W,i,u,h=>by
  rw[idxW]at h;by_cases c:e.1=p
  .rw[if_pos c]at h;simp only[Option.some.injEq,Prod.mk.injEq]at h;obtain⟨rfl,rfl⟩:=h;rw[Dd,idxW,idxW];by_cases d:q=p;.subst d;simp
   .rw[if_neg (λx=>d x.symm),if_neg (λx:e.1=q=>d (x.symm.trans c)),if_neg d]
  .rw[if_neg c,Ba]at h;obtain⟨⟨j,w⟩,h1,h2⟩:=h;simp only[Prod.mk.injEq]at h2;obtain⟨rfl,rfl⟩:=h2;rw[Ca,idxW,idxW];by_cases d:e.1=q;.rw[if_pos d,if_pos d,if_neg (λx=>c (d.trans x))]
   .rw[if_neg d,if_neg d,Option.map_map,Option.map_map];exact yI3 h1
theorem yy0{α:Type}(m:Mp α)(p q:Pl)(v:α):(m.put p v).get q=if q=p then some v else m.get q:=by unfold Mp.get Mp.put Mp.at;cases h:idxW p m.W with
 |none=>
  simp only;by_cases d:q=p;.subst d;rw[zy3 h,if_pos rfl];rfl
  .rw[yg0 (λx=>d x.symm),if_neg d]|some w=>exact yI3 (i:=w.1) (u:=w.2) h
theorem get_isNone{α:Type}{m:Mp α}{p:Pl}:m.get p=none↔m.at p=none:=by unfold Mp.get;rw[Option.map_eq_none_iff]
def zy4(s:List (Pl×List UInt8)×List Ln)(q:Pl×List UInt8):List (Pl×List UInt8)×List Ln:=if(s.1.any λe=>e.1==q.1)=true then s else(s.1++[q],if zl0 q.1.1 q.1.2 q.2=true then zT9 s.2 ⟨q.1.1,q.1.2,(rowF tabsS (ofS q.1.1).1 q.2).1⟩else s.2)
structure TkI(n:Nat)(s:List (Pl×List UInt8)×List Ln)(m:M3):Prop where
 same:m.1=m.2.1now:NowOk m.2.1 s.2sn:m.2.2.ok
 seen:∀p,m.2.2.get p=none↔(s.1.any λe=>e.1==p)=false
 cnt:∀p v,m.2.2.get p=some v->1<=v/\v<=n
 lines:∀x∈s.2,LnK x/\(x.at,yN x.v)∈s.1rows:∀q∈s.1,zl0 q.1.1 q.1.2 q.2=true->∃x∈s.2,x.at=q.1/\yN x.v=q.2len:s.2.length<=n
theorem TkI.step{n:Nat}{s:List (Pl×List UInt8)×List Ln}{m:M3}(h:TkI n s m)(q:Pl×List UInt8):TkI (n+1) (zy4 s q) (zZ7 q.1 q.2 m):=by
 obtain⟨p,data⟩:=q;obtain⟨a,b,c⟩:=m;obtain⟨se,out⟩:=s;obtain⟨h1,h2,h3,h4,h6,h5,h7,h8⟩:=h;simp only at h1 h2 h3 h4 h5 h6 h7 h8;subst h1;have aa:∀w:Int,1<=w->w<=(n:Int)+1->∀q v,(c.put p w).get q=some v->1<=v/\v<=((n+1:Nat):Int):=λw ah ai q v hv=>by
  rw[yy0]at hv;split at hv;.cases hv;omega
  .have:=h6 q v hv;omega
 unfold zy4 zZ7;simp only;cases hs:se.any λe=>e.1==p with
 |true=>
  have hc:c.get p≠none:=λe=>by rw[(h4 p).1 e]at hs;cases hs
  obtain⟨v,hv⟩:=Option.ne_none_iff_exists'.1 hc;have ad:cntP c p=v:=by unfold cntP;rw[hv];rfl
  have aj:=h6 p v hv;rw[if_pos rfl,if_neg (λe=>by rw[ad]at e;omega),ad];refine⟨rfl,h2,Mp.put_ok h3 _ _,λq=>?_,aa _ om om,h5,h7,by show out.length<=_;omega⟩;rw[yy0];split;.rename_i e;subst e;simp[hs]
  .exact h4 q|false=>
  have hg:=(h4 p).2 hs;have ad:cntP c p=0:=by unfold cntP;rw[hg];rfl
  have ab:∀q,(c.put p (0+1)).get q=none↔((se++[(p,data)]).any λe=>e.1==q)=false:=λq=>by
   rw[yy0,List.any_append];split;.rename_i e;subst e;simp
   .rename_i e;have e':((p,data).1==q)=false:=beq_eq_false_iff_ne.2 λx=>e x.symm;rw[h4 q];simp[e']
  rw[if_neg sm,ad];by_cases hr:zl0 p.1 p.2 data=true
  .rw[if_pos hr,if_pos ⟨rfl,hr⟩];obtain⟨hl,hd⟩:=yM9 hr;have ha:atF out p=false:=by cases e:atF out p with|false=>rfl|true=>obtain⟨x,hx,af⟩:=Ac.1 (atF_iff.1 e);have:(se.any λe=>e.1==p)=true:=D6.2 ⟨_,(h5 x hx).2,by simp[af]⟩;rw[this]at hs;cases hs
   have hn:=h2.ins hl ha;rw[show(Ln.mk p.1 p.2 (rowF tabsS (ofS p.1).1 data).1).at=p from rfl,hd]at hn;refine⟨rfl,hn,Mp.put_ok h3 _ _,ab,aa _ om om,λx hx=>?_,λq hq ae=>?_,?_⟩
   .rcases Ag.1 ((zj3 _ _).mem_iff.1 hx)with rfl|hx
    .refine⟨?_,List.mem_append_right _ (Ci.2 ?_)⟩;.show zl0 p.1 p.2 (yN _)=true;rw[hd];exact hr
     .show(p,yN _)=(p,data);rw[hd]
    .exact⟨(h5 x hx).1,Di _ (h5 x hx).2⟩
   .rcases Aq.1 hq with hq|hq;.obtain⟨x,hx,ag⟩:=h7 q hq ae;exact⟨x,(zj3 _ _).mem_iff.2 (B4 _ hx),ag⟩
    .rw[Ci]at hq;subst hq;exact⟨_,(zj3 _ _).mem_iff.2 (Bb ..),rfl,hd⟩
   .rw[(zj3 _ _).length_eq];show out.length+1<=n+1;omega
  .rw[if_neg hr,if_neg (λe=>hr e.2)];refine⟨rfl,h2,Mp.put_ok h3 _ _,ab,aa _ om om,λx hx=>⟨(h5 x hx).1,Di _ (h5 x hx).2⟩,λq hq ae=>?_,by show out.length<=_;omega⟩;rcases Aq.1 hq with hq|hq;.exact h7 q hq ae
   .rw[Ci]at hq;subst hq;exact absurd ae hr
theorem xS6:TkI 0 ([],[]) (mp0 _,mp0 _,mp0 _):=by
 refine⟨rfl,⟨xx7 _,List.Pairwise.nil,List.Perm.nil,λx hx=>(by cases hx)⟩,xx7 _,λp=>?_,λp v h=>?_,λx hx=>(by cases hx),λx hx=>(by cases hx),A3 _⟩;.exact⟨λ_=>rfl,λ_=>rfl⟩
 .cases h
end Go.Proofs.YtefbicjgbaaieaaGreat
