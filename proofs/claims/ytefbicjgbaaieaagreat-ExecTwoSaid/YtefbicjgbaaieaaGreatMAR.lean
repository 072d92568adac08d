/-
  The law ExecTwo, walked; used by the theorem at the end of the claim.
  Conditions: as the theorem states them.
-/
import Derived.Test.YtefbicjgbaaieaaGreatMAQ
import Derived.Test.YtefbicjgbaaieaaGreatMAH
set_option maxHeartbeats 8000000
namespace Go.Proofs.YtefbicjgbaaieaaGreat
open Go Go.Vx R Go.Proofs.Tryz
set_option maxRecDepth 100000
section
variable {r:afE}
theorem N8 {p:UInt8->Bool} (h:p 59=false): ∀l:afE,(l++59::r).takeWhile p=l.takeWhile p
 | []=>by simp[h]
 |c::l=>by
  rw[Ap,afx,afx,N8 h l]
theorem UB {p:UInt8->Bool} (h:p 59=false): ∀l:afE,(l++59::r).dropWhile p=l.dropWhile p++59::r
 | []=>by simp[h]
 |c::l=>by
  rw[Ap,afy,afy,UB h l]
  split<;>rfl
theorem UC: ∀(l:afE) (v:Int),jq v (l++59::r)=jq v l
 | [],v=>by
  simp[jq,show xN 59=false by decide]
 |c::l,v=>by
  rw[Ap,jq,jq]
  split
  .split
   .rfl
   .exact UC l _
  .rfl
theorem N9: ∀(n:Nat) (l:afE) (i:Nat) (w:afE),l.length<=n->(xS i w l).2.2=0->xS i w (l++59::r)=xS i w l
 |_,[],i,w,_,h=>by simp[xS]at h
 |_,[c],i,w,_,h=>by
  rw[xS]at h
  by_cases q:c.toNat=39
  .rw[List.singleton_append,xS,xS,afb q,afb q,afa dc]
  .rw[afa q]at h;cases h
 |0,_::_::_,_,_,hn,_=>by simp at hn
 |n+1,c::d::l,i,w,hn,h=>by
  simp only[Ab]at hn
  rw[xS]at h
  rw[Ap,Ap,xS,xS]
  by_cases q:c.toNat=39
  .rw[afb q]at h⊢
   rw[afb q]
   by_cases q2:d.toNat=39
   .rw[afb q2]at h⊢
    rw[afb q2]
    exact N9 n l _ _ om h
   .rw[afa q2,afa q2]
  .rw[afa q]at h⊢
   rw[afa q]
   exact N9 n (d::l) _ _ (by simp only[Ab];omega) h
theorem xB6 (a:Nat) (l:afE):kf a (l++59::r)=kf a l:=by
 unfold kf
 rw[UC,UB dc,N8 dc]
 have e:wM ((l.dropWhile xN++59::r).headD 0)=wM ((l.dropWhile xN).headD 0):=by
  cases l.dropWhile xN with
  |nil=>rfl
  |cons c l=>rfl
 rw[e]
theorem xD0 {a:Nat} {c:UInt8} {l:afE} (h:(dT a (c::l)).2.2=0):dT a (c::l++59::r)=dT a (c::l):=by
 unfold dT at h⊢
 rw[N8 dc,xB6]
 simp only[Ap,List.headD_cons,Br,Az]at h⊢
 by_cases q1:wM c=true
 .rw[afb q1,afb q1]
 rw[afa q1]at h⊢
 rw[afa q1]
 by_cases q2:xN c=true
 .rw[afb q2,afb q2]
 rw[afa q2]at h⊢
 rw[afa q2]
 by_cases q3:c.toNat=39
 .rw[afb q3]at h⊢
  rw[afb q3]
  exact N9 _ l _ _ (A3 _) h
 rw[afa q3]at h⊢
 rw[afa q3]
 cases l with
 |nil=>simp
 |cons d l=>simp
end
def Fg (t:bJ):bJ:={t with place:=0}
def fg:Nat->afE->Option (List bJ)
 |0,_=>none
 |_+1,[]=>some []
 |n+1,c::l=>
  if tF c=true then fg n l
  else if(dT 0 (c::l)).2.2=0 then(fg n ((c::l).drop (dT 0 (c::l)).2.1)).map λT=>Fg (dT 0 (c::l)).1::T
  else none
theorem Oa (a:Nat): ∀(n:Nat) (l:afE) (i:Nat) (w:afE),l.length<=n->(xS (a+i) w l).1=(xS i w l).1/\(xS (a+i) w l).2.2=(xS i w l).2.2/\((xS i w l).2.2=0->(xS (a+i) w l).2.1=a+(xS i w l).2.1)
 |_,[],_,_,_=>by simp[xS]
 |_,[c],i,w,_=>by
  rw[xS,xS]
  split
  .unfold yh;split
   .exact⟨rfl,rfl,λh=>by cases h⟩
   .exact⟨rfl,rfl,λ_=>rfl⟩
  .exact⟨rfl,rfl,λh=>by cases h⟩
 |0,_::_::_,_,_,hn=>by simp at hn
 |n+1,c::d::l,i,w,hn=>by
  simp only[Ab]at hn
  rw[xS,xS]
  split
  .split
   .exact Oa a n l (i+2) _ om
   .unfold yh;split
    .exact⟨rfl,rfl,λh=>by cases h⟩
    .exact⟨rfl,rfl,λ_=>rfl⟩
  .exact Oa a n (d::l) (i+1) _ (by simp only[Ab];omega)
theorem xP6 (a:Nat) (l:afE):(dT a l).1=(dT 0 l).1/\(dT a l).2.2=(dT 0 l).2.2/\((dT 0 l).2.2=0->(dT a l).2.1=a+(dT 0 l).2.1):=by
 unfold dT
 split
 .exact⟨rfl,rfl,λ_=>sm⟩
 split
 .unfold kf
  split
  .exact⟨rfl,rfl,λh=>by cases h⟩
  .split
   .exact⟨rfl,rfl,λh=>by cases h⟩
   .exact⟨rfl,rfl,λ_=>sm⟩
 split
 .exact Oa a _ _ 1 _ (A3 _)
 split
 .exact⟨rfl,rfl,λ_=>sm⟩
 split
 .exact⟨rfl,rfl,λ_=>sm⟩
 .exact⟨rfl,rfl,λh=>by cases h⟩
theorem J9: ∀{n:Nat} {t:afE} {T:List bJ},fg n t=some T-> ∀{m:Nat},n<=m->fg m t=some T
 |0,_,_,h,_,_=>by cases h
 |n+1,t,T,h,m,hm=>by
  obtain⟨k,rfl⟩: ∃k,m=k+1:=⟨m - 1,om⟩
  cases t with
  |nil=>exact h
  |cons c l=>
   rw[fg]at h⊢
   split at h
   .rename_i q;rw[afb q];exact J9 h om
   rename_i q
   rw[afa q]
   split at h
   .rename_i q2
    rw[afb q2]
    obtain⟨uU,hU,e⟩:=Al.1 h
    rw[J9 hU (m:=k) om]
    exact aff some e
   .cases h
theorem Oc {r:afE} {Q:List bJ}: ∀{n:Nat} {t:afE} {T:List bJ},fg n t=some T-> ∀{m:Nat},fg m (59::r)=some Q->fg (n+m) (t++59::r)=some (T++Q)
 |0,_,_,h,_,_=>by cases h
 |n+1,[],T,h,m,hm=>by
  cases h
  exact J9 hm om
 |n+1,c::l,T,h,m,hm=>by
  rw[show n+1+m=n+m+1 by omega,Ap,fg]
  rw[fg]at h
  split at h
  .rename_i q;rw[afb q];exact Oc h hm
  rename_i q
  rw[afa q]
  split at h
  .rename_i q2
   have e:dT 0 (c::(l++59::r))=dT 0 (c::l):=xD0 q2
   have ho:=N6 q2
   rw[e,afb q2]
   obtain⟨uU,hU,rfl⟩:=Al.1 h
   have hd:(c::(l++59::r)).drop (dT 0 (c::l)).2.1=(c::l).drop (dT 0 (c::l)).2.1++59::r:=by
    rw[<-Ap,List.drop_append_of_le_length (by simp only[Ab];omega)]
   rw[hd,Oc hU hm]
   rfl
  .cases h
theorem Od: ∀{n:Nat} {t:afE} {T:List bJ},fg n t=some T-> ∀(a:Nat) (acc:List bJ),∃T',T'.map Fg=T/\iX n a t acc=(acc++T'++ [⟨0,((a+t.length:Nat):Int),[],0⟩],0)
 |0,_,_,h,_,_=>by cases h
 |n+1,[],T,h,a,acc=>by
  cases h
  exact⟨[],rfl,by rw[iX,B6];rfl⟩
 |n+1,c::l,T,h,a,acc=>by
  rw[fg]at h
  rw[iX]
  split at h
  .rename_i q
   obtain⟨T',h1,h2⟩:=Od h (a+1) acc
   rw[afb q,h2]
   exact⟨T',h1,by rw[Ab,show a+1+l.length=a+(l.length+1) by omega]⟩
  rename_i q
  rw[afa q]
  split at h
  .rename_i q2
   obtain⟨s1,s2,s3⟩:=xP6 a (c::l)
   have ho:=N6 q2
   obtain⟨uU,hU,rfl⟩:=Al.1 h
   rw[afb (by rw[s2];exact q2),s3 q2,show a+(dT 0 (c::l)).2.1 - a=(dT 0 (c::l)).2.1 by omega]
   obtain⟨T',h1,h2⟩:=Od hU (a+(dT 0 (c::l)).2.1) (acc++ [{(dT a (c::l)).1 with place:=a}])
   refine⟨{(dT a (c::l)).1 with place:=a}::T',by rw[Ai,h1,s1];rfl,h2.trans ?_⟩
   rw[C7,show a+(dT 0 (c::l)).2.1+((c::l).length - (dT 0 (c::l)).2.1)=a+(c::l).length by simp only[Ab];omega]
   simp
  .cases h
theorem xZ4 {t:afE} {T:List bJ} {n:Nat} (h:fg n t=some T) (hl:t.length<=2000): ∃L,iu t=(L,0)/\L.map Fg=T++ [⟨0,0,[],0⟩]:=by
 obtain⟨T',h1,h2⟩:=Od (J9 h (m:=n+t.length+1) om) 0 []
 refine⟨T'++ [⟨0,((0+t.length:Nat):Int),[],0⟩], ?_,by rw[Cr,h1];rfl⟩
 unfold iu
 rw[afa om,N5 t _ 0 [] (A5 _),Az,N7 _ (n+t.length+1) _ _ _ om om,h2]
 simp
structure Rd (q:List bJ×bQ):Prop where
 rd:iN (q.1++ [⟨0,0,[],0⟩]) oR=(q.2,⟨q.1.length,0,0,0⟩)
 hd:(q.1.getD 0 xA).kind=1
 as_:(q.1.getD 0 xA).s≠qE
def sL:bJ:=⟨4,0,[59],0⟩
def qM:List (List bJ×bQ)->List bJ
 | []=> []
 | [q]=>q.1
 |q::x::l=>q.1++sL::qM (x::l)
theorem Ka {L Q:List bJ} {k i:Nat} (h:(L.drop k).map Fg=Q) (hi:i<Q.length):(L.getD (k+i) xA).kind=(Q.getD i xA).kind/\(L.getD (k+i) xA).s=(Q.getD i xA).s/\(L.getD (k+i) xA).n=(Q.getD i xA).n:=by
 subst h
 rw[Bb]at hi
 rw[C7]at hi
 rw[A9,A9,B3,Bw,A0 om]
 exact⟨rfl,rfl,rfl⟩
theorem UD {L:List bJ}: ∀(qs:List (List bJ×bQ)) {n:Nat} {k:Nat} {acc:List bQ} {p:Int},qs≠ []->(∀q∈qs,Rd q)->(L.drop k).map Fg=qM qs++ [⟨0,0,[],0⟩]->acc.length+qs.length<=8->qs.length<=n->
  (mh L n acc ⟨k,0,0,p⟩).1=acc++qs.map (·.2)/\(mh L n acc ⟨k,0,0,p⟩).2.err=0/\(bV L (mh L n acc ⟨k,0,0,p⟩).2).kind=0
 | [],_,_,_,_,h,_,_,_,_=>absurd rfl h
 |q::l,n,k,acc,p,_,hq,hL,ha,hn=>by
  simp only[Ab]at ha hn
  obtain⟨n,rfl⟩: ∃m,n=m+1:=⟨n - 1,om⟩
  obtain⟨T,st⟩:=q
  have hR:=hq _ (B1 ..)
  have af:=hR.rd
  simp only at af
  have hQ: ∃Q,qM ((T,st)::l)++ [⟨0,0,[],0⟩]=T++Q/\(l= []->Q= [⟨0,0,[],0⟩])/\(l≠ []->Q=sL::(qM l++ [⟨0,0,[],0⟩])):=by
   cases l with
   |nil=>exact⟨[⟨0,0,[],0⟩],rfl,λ_=>rfl,λh=>absurd rfl h⟩
   |cons x l=>exact⟨sL::(qM (x::l)++ [⟨0,0,[],0⟩]),by rw[qM];simp,λh=>(by cases h),λ_=>rfl⟩
  obtain⟨Q,e,ag,ah⟩:=hQ
  rw[e]at hL
  have al:0<Q.length/\Hp (Q.getD 0 xA):=by
   by_cases h:l= []
   .rw[ag h];exact⟨dc,.inl rfl⟩
   .rw[ah h];exact⟨sm,.inr ⟨rfl,rfl⟩⟩
  have hlen:=aff List.length hL
  rw[Bb,C7,Ah]at hlen
  have ai: ∀i,(T++Q).getD (T.length+i) xA=Q.getD i xA:=λi=>by
   rw[A9,Ay om,Nat.add_sub_cancel_left,<-A9]
  have an:Ag L (T++ [⟨0,0,[],0⟩]) k T.length:=by
   refine⟨λi hi=> ?_, ?_, ?_,om,sm⟩
   .have h:=Ka hL (i:=i) (by rw[Ah];omega)
    have e2:(T++Q).getD i xA=(T++ [(⟨0,0,[],0⟩:bJ)]).getD i xA:=by
     rw[A9,A9,Ak hi,Ak hi]
    rw[e2]at h
    exact h
   .have h:=Ka hL (i:=T.length) (by rw[Ah];omega)
    rw[show(T++Q).getD T.length xA=Q.getD 0 xA from ai 0]at h
    unfold Hp
    rw[h.1,h.2.1]
    exact al.2
   .rw[A9,Ay (A3 _),Nat.sub_self];exact .inl rfl
  have ab:=xG2 an (s:=⟨k,0,0,p⟩) (u:=oR) ⟨rfl,A5 _,rfl,rfl⟩
  rw[af]at ab
  have h1:=ab.eq
  have h2:=ab.rl
  simp only at h1 h2
  clear ab
  obtain⟨z,hs⟩: ∃x,(iN L ⟨k,0,0,p⟩).2=x:=⟨_,rfl⟩
  obtain⟨sa,so,se,sp⟩:=z
  rw[hs]at h2
  have r1:sa=k+T.length:=h2.at_
  have r2:so=0:=h2.bS
  have r3:se=0:=h2.err
  subst r1 r2 r3
  have hm:ir L acc.length 8 (nZ L ⟨k,0,0,p⟩) ⟨k,0,0,p⟩=⟨k,0,0,p⟩:=by
   unfold ir
   rw[afa om]
  have aa:=Ka hL (i:=T.length) (by rw[Ah];omega)
  rw[show(T++Q).getD T.length xA=Q.getD 0 xA from ai 0]at aa
  rw[mh,afb rfl,hm,afb rfl,hs,h1]
  by_cases hl:l= []
  .subst hl
   rw[ag rfl]at aa
   have hk:(bV L ⟨k+T.length,0,0,sp⟩).kind=0:=aa.1
   have hi:cC L [59] ⟨k+T.length,0,0,sp⟩=false:=by unfold cC;rw[hk];rfl
   rw[hi,afa dc]
   exact⟨rfl,rfl,hk⟩
  .have aj:=ah hl
   rw[aj]at aa
   have hk:(bV L ⟨k+T.length,0,0,sp⟩).kind=4:=aa.1
   have ao:(bV L ⟨k+T.length,0,0,sp⟩).s= [59]:=aa.2.1
   have hi:cC L [59] ⟨k+T.length,0,0,sp⟩:=by unfold cC;rw[hk,ao];rfl
   have ak:(L.drop (k+T.length+1)).map Fg=qM l++ [⟨0,0,[],0⟩]:=by
    have:=aff (List.drop (T.length+1)) hL
    rw[<-List.map_drop,Cn,Dz,A8 (show T.length<=T.length+1 by omega),aj,show T.length+1 - T.length=1 by omega]at this
    rw[show k+T.length+1=k+(T.length+1) by omega]
    exact this
   obtain⟨x,l2,hx⟩: ∃x l2,l=x::l2:=Bs hl
   have ad:=hq x (by rw[hx];simp)
   have aq:x.1≠ []:=λh=>by have:=ad.hd;rw[h]at this;exact absurd this dc
   have hj:(qM l++ [(⟨0,0,[],0⟩:bJ)]).getD 0 xA=x.1.getD 0 xA:=by
    obtain⟨y,ys,hy⟩:=Bs aq
    rw[hx]
    cases l2 with
    |nil=>rw[qM,hy];rfl
    |cons z l3=>rw[qM,hy];rfl
   have ae:=Ka ak (i:=0) (by rw[Ah];simp)
   rw[hj]at ae
   have ar:(bV L (zJ ⟨k+T.length,0,0,sp⟩)).kind=1:=ae.1.trans ad.hd
   have au:(bV L (zJ ⟨k+T.length,0,0,sp⟩)).s≠qE:=λh=>ad.as_ (ae.2.1.symm.trans h)
   have av: ¬(cC L qE (zJ ⟨k+T.length,0,0,sp⟩)=true\/(bV L (zJ ⟨k+T.length,0,0,sp⟩)).kind=0):=by
    rintro(h|h)
    .unfold cC at h
     simp only[A6,afh]at h
     exact au h.2.2
    .rw[ar]at h;cases h
   rw[hi,afb rfl,afa av]
   obtain⟨a1,a2,a3⟩:=UD l (n:=n) (k:=k+T.length+1) (acc:=acc++ [st]) (p:=sp) hl (λy hy=>hq y (B7 _ hy)) ak (by simp;omega) om
   exact⟨by rw[show zJ ⟨k+T.length,0,0,sp⟩=⟨k+T.length+1,0,0,sp⟩ from rfl,a1];simp,a2,a3⟩
theorem yV9 {t:afE} {n:Nat} {qs:List (List bJ×bQ)} (h:fg n t=some (qM qs)) (hl:t.length<=2000) (hq: ∀q∈qs,Rd q) (h0:qs≠ []) (h8:qs.length<=8):lR t=(⟨0,0,qs.map (·.2)⟩,0,0):=by
 obtain⟨L,h1,h2⟩:=xZ4 h hl
 obtain⟨a1,a2,a3⟩:=UD (L:=L) qs (n:=9) (k:=0) (acc:= []) (p:=0) h0 hq (by rw[Az];exact h2) (sU h8) om
 rw[Bp]at a1
 unfold lR
 rw[h1,afb rfl]
 unfold GD
 simp only
 obtain⟨⟨X,s⟩,hX⟩: ∃x,mh L 9 [] oR=x:=⟨_,rfl⟩
 rw[show mh L 9 [] ⟨0,0,0,0⟩=(X,s) from hX]at a1 a2 a3
 rw[hX]
 simp only at a1 a2 a3⊢
 have hi:cC L qE s=false:=by unfold cC;rw[a3];simp
 have ha:pO L s=((0,0),s):=by unfold pO;rw[hi,afa dc]
 have he:lQ L s=s:=by unfold lQ;rw[afa (λh=>h.2 a3)]
 rw[ha]
 simp only
 rw[he,afb a2,a1]
theorem Kb (k n:Int) (hk:db k) (h1:1<=n) (h2:n<=1000):Pure prog 80 [.int .i64 k,.int .i64 n] (.int .i64 (k%n)):=by
 obtain⟨ae,af⟩:=hk
 have q1:decide (n<1)=false:=afc om
 have q0: ¬n<1:=om
 have qz: ¬n=0:=om
 have he:=E5 k (b:=n) om
 have hl:=Dt k (b:=n) om
 have ht:=Int.tmod_eq_emod (a:=k) (b:=n)
 obtain⟨r,hr⟩:=eX (k%n)
 obtain⟨t,ab⟩:=eX (k.tmod n)
 rw[hr]at he hl ht⊢
 rw[ab]at ht
 have ag:((n.natAbs:Nat):Int)=n:=om
 have ad:t=r\/t=r - n:=by
  split at ht
  .left;omega
  .right;omega
 have et:IntKind.i64.wrap t=t:=bR om om
 have er:IntKind.i64.wrap r=r:=bR om om
 have ret: ∀(v:Int) (U:St),v=r->cj (some (.int .i64 v)) 0 (λr' s=>r'= .int .i64 r/\s= []) U:=λv U h=>by subst h;exact wR
 refine iV 0 func80 ntmps80 results80 λc hc hb=> ?_
 refine zA ?_
 simp[go_sem,q0]
 refine zI qz ?_
 simp[go_sem,ab]
 rcases ad with e|e
 .have q2:decide (t<0)=false:=afc om
  have aa: ¬t<0:=om
  simp[go_sem,aa]
  exact ret _ _ e
 .have q2:decide (t<0)=true:=afd om
  have aa:t<0:=om
  have e3:t+n=r:=om
  simp[go_sem,aa,e3,er]
  exact wR
def l8 (k:Int):afE:=if k.tmod 41=40 then [57,50,50,51,51,55,50,48,51,54,56,53,52,55,55,53,56,48,55]else mZ (k%12).toNat
theorem UE (k:Int):(l8 k).length<=20:=by
 unfold l8
 split
 .decide
 .exact Uy _
def Oe:afE:= [57,50,50,51,51,55,50,48,51,54,56,53,52,55,55,53,56,48,55]
def sM:List afE:=Oe::(List.range 12).map mZ
theorem UF (k:Int):l8 k∈sM:=by
 unfold l8
 split
 .exact B1 ..
 .exact B7 _ (Ac.2 ⟨(k%12).toNat,Bz.2 om,rfl⟩)
theorem UG (k:Int) (hk:db k):Pure prog 81 [.int .i64 k] (.str (l8 k)):=by
 have hp:=Kb k 12 hk dc dc
 have hd:=Uz (k%12).toNat om
 rw[show(((k%12).toNat:Nat):Int)=k%12 by omega]at hd
 obtain⟨aa,ab⟩:=hk
 have ht:=Int.tmod_eq_emod (a:=k) (b:=41)
 have et:IntKind.i64.wrap (k.tmod 41)=k.tmod 41:=by
  have:=E5 k (b:=41) dc
  have:=Dt k (b:=41) dc
  split at ht<;>exact bR om om
 generalize hM:l8 k=M
 unfold l8 at hM
 obtain⟨u,hu⟩:=eX (k.tmod 41)
 rw[hu]at et hM
 clear ht
 have ret: ∀(v:afE) (U:St),v=M->cj (some (.str v)) 0 (λr' s=>r'= .str M/\s= []) U:=λv U h=>by subst h;exact wR
 refine iV 0 func81 ntmps81 results81 λc hc hb=> ?_
 refine zA ?_
 by_cases q:u=40
 .rw[afb q]at hM
  have q':(u==40)=true:=sU q
  simp[go_sem,hu,q']
  exact ret _ _ hM
 .rw[afa q]at hM
  have q':(u==40)=false:=sU q
  simp[go_sem,hu,q']
  refine pC hp ?_
  simp[go_sem]
  refine pC hd ?_
  simp[go_sem]
  exact ret _ _ hM
def Kc:List afE:= [[39,97,39],[39,98,39],[39,99,39],[39,100,39],[39,101,39]]
theorem xZ2 (k:Int) (hk:db k): ∃t:afE,t.length<=20/\Pure prog 82 [.int .i64 k] (.str t)/\t∈Kc:=by
 have hp:=Kb k 5 hk dc dc
 have h0:=E5 k (b:=5) dc
 have h1:=Dt k (b:=5) dc
 obtain⟨r,hr⟩:=eX (k%5)
 rw[hr]at hp h0 h1
 have:r=0\/r=1\/r=2\/r=3\/r=4:=om
 have walk: ∀r:Int,(r=0\/r=1\/r=2\/r=3\/r=4)->Pure prog 80 [.int .i64 k,.int .i64 5] (.int .i64 r)->Pure prog 82 [.int .i64 k] (.str [39,97+UInt8.ofNat r.toNat,39]):=λr aa hp=>by
  refine iV 0 func82 ntmps82 results82 λc hc hb=> ?_
  refine zA ?_
  simp[go_sem]
  refine pC hp ?_
  rcases aa with rfl|rfl|rfl|rfl|rfl
  all_goals
   simp[go_sem]
   refine zI (λx hx=>⟨_,C4.1 hx⟩) ?_
   simp[go_sem,sS]
   exact wR
 exact⟨_,sm,walk r this hp,by rcases this with rfl|rfl|rfl|rfl|rfl<;>decide⟩
def Of:List afE:= [[84,82,85,69],[70,65,76,83,69]]
theorem xG9 (k:Int) (_hk:db k): ∃t:afE,t.length<=20/\Pure prog 83 [.int .i64 k] (.str t)/\t∈Of:=by
 have ht:=Int.tmod_eq_emod (a:=k) (b:=2)
 have et:IntKind.i64.wrap (k.tmod 2)=k.tmod 2:=by
  have:=E5 k (b:=2) dc
  have:=Dt k (b:=2) dc
  split at ht<;>exact bR om om
 obtain⟨u,hu⟩:=eX (k.tmod 2)
 rw[hu]at et
 clear ht
 by_cases q:u=0
 .refine⟨[84,82,85,69],dc, ?_,dc⟩
  have q':(u==0)=true:=sU q
  refine iV 0 func83 ntmps83 results83 λc hc hb=> ?_
  refine zA ?_
  simp[go_sem,hu,q']
  exact wR
 .refine⟨[70,65,76,83,69],dc, ?_,dc⟩
  have q':(u==0)=false:=sU q
  refine iV 0 func83 ntmps83 results83 λc hc hb=> ?_
  refine zA ?_
  simp[go_sem,hu,q']
  exact wR
def y8:List afE:= [[48],[49]]
def ky (r n g v b:afE):Nat->afE
 |0=> [73,78,83,69,82,84,32,73,78,84,79,32,84,32,86,65,76,85,69,83,32,40]++r++ [44,32]++n++ [44,32,39,118]++v++ [39,44,32]++v++ [41]
 |1=> [73,78,83,69,82,84,32,73,78,84,79,32,84,32,86,65,76,85,69,83,32,40]++r++ [44,32]++n++ [44,32,39,118]++v++ [39,44,32]++v++ [41]
 |2=> [73,78,83,69,82,84,32,73,78,84,79,32,71,32,86,65,76,85,69,83,32,40]++g++ [44,32]++v++ [44,32,78,85,76,76,41]
 |3=> [85,80,68,65,84,69,32,84,32,83,69,84,32,78,32,61,32,78,32,43,32]++v++ [32,87,72,69,82,69,32,75,32,61,32]++n
 |4=> [85,80,68,65,84,69,32,84,32,83,69,84,32,78,32,61,32]++v++ [44,32,86,32,61,32,39,120,39,32,87,72,69,82,69,32,82,32,61,32]++r++ [32,65,78,68,32,75,32,62,61,32]++n
 |5=> [85,80,68,65,84,69,32,71,32,83,69,84,32,78,32,61,32,78,32,42,32]++v++ [32,87,72,69,82,69,32,75,32,61,32]++g
 |6=> [68,69,76,69,84,69,32,70,82,79,77,32,84,32,87,72,69,82,69,32,75,32,60,32]++v
 |7=> [68,69,76,69,84,69,32,70,82,79,77,32,71,32,87,72,69,82,69,32,75,32,61,32]++g
 |8=> [83,69,76,69,67,84,32,42,32,70,82,79,77,32,84]
 |9=> [83,69,76,69,67,84,32,75,44,32,78,32,43,32,49,32,70,82,79,77,32,84,32,87,72,69,82,69,32,82,32,61,32]++r++ [32,79,82,68,69,82,32,66,89,32,78,32,68,69,83,67,32,76,73,77,73,84,32]++v
 |10=> [83,69,76,69,67,84,32,42,32,70,82,79,77,32,71]
 |11=> [83,69,76,69,67,84,32,67,79,85,78,84,40,42,41,44,32,83,85,77,40,78,41,32,70,82,79,77,32,84,32,87,72,69,82,69,32,75,32,60,62,32]++n
 |12=> [83,69,76,69,67,84,32,42,32,70,82,79,77,32,71,32,87,72,69,82,69,32,75,32,61,32]++g
 |13=> [73,78,83,69,82,84,32,73,78,84,79,32,72,32,86,65,76,85,69,83,32,40]++b++ [44,32]++v++ [41]
 |14=> [85,80,68,65,84,69,32,72,32,83,69,84,32,78,32,61,32,78,32,45,32]++v
 |15=> [83,69,76,69,67,84,32,83,85,77,40,78,32,47,32]++v++ [41,32,70,82,79,77,32,72]
 |16=> [73,78,83,69,82,84,32,73,78,84,79,32,84,32,86,65,76,85,69,83,32,40]++r++ [44,32]++n++ [44,32,78,85,76,76,44,32]++v++ [41,44,32,40,49,44,32]++v++ [44,32,39,116,119,111,39,44,32,78,85,76,76,41]
 |17=> [83,69,76,69,67,84,32,78,32,70,82,79,77,32,84,32,87,72,69,82,69,32,75,32,61,32]++n
 |18=> [85,80,68,65,84,69,32,71,32,83,69,84,32,78,32,61,32,78,32,43,32,49,44,32,66,32,61,32,78,32,62,32]++v
 |_=> [83,69,76,69,67,84,32,86,32,70,82,79,77,32,84,32,87,72,69,82,69,32,78,32,73,83,32,78,85,76,76,32,79,82,32,75,32,62,61,32]++n++ [32,79,82,68,69,82,32,66,89,32,86]
theorem xR2 {r n g v b:afE} (hr:r.length<=20) (hn:n.length<=20) (hg:g.length<=20) (hv:v.length<=20) (hb:b.length<=20) (k:Nat):(ky r n g v b k).length<=300:=by
 unfold ky
 split<;>simp<;>omega
def y9 (t:afE):Prop:= ∃r∈y8,∃n∈sM,∃g∈Kc,∃v∈sM,∃b∈Of,∃w<20,t=ky r n g v b w
theorem UH (a:dR) (ha:a.ok): ∃t:afE,t.length<=300/\Pure prog 37 [.agg a.row] (.str t)/\y9 t:=by
 have hw:=Kb a.kO 20 ha.kO dc dc
 have ag:=Kb a.a 2 ha.a dc dc
 have ad:=Uz (a.a%2).toNat om
 rw[show(((a.a%2).toNat:Nat):Int)=a.a%2 by omega]at ad
 have ah:=UG a.b ha.b
 have ai:=UG a.c ha.c
 obtain⟨g,au,hg,aj⟩:=xZ2 a.b ha.b
 obtain⟨tr,av,ht,ak⟩:=xG9 a.a ha.a
 have h0:=E5 a.kO (b:=20) dc
 have h1:=Dt a.kO (b:=20) dc
 obtain⟨w,al⟩: ∃w:Nat,a.kO%20=w:=⟨(a.kO%20).toNat,om⟩
 have ae:w<20:=om
 rw[al]at hw
 clear al h0 h1
 obtain⟨r,hr⟩:=eX (mZ (a.a%2).toNat)
 have aw:r.length<=20:=by rw[<-hr];exact Uy _
 rw[hr]at ad
 have af:r∈y8:=by
  have:(a.a%2).toNat=0\/(a.a%2).toNat=1:=om
  rcases this with h|h<;>rw[<-hr,h]<;>decide
 obtain⟨rm,an⟩:=eX (a.a%2)
 rw[an]at ag ad
 clear hr an
 obtain⟨n,hn⟩:=eX (l8 a.b)
 have ax:n.length<=20:=by rw[<-hn];exact UE _
 rw[hn]at ah
 have ao:n∈sM:=by rw[<-hn];exact UF _
 clear hn
 obtain⟨v,hv⟩:=eX (l8 a.c)
 have ay:v.length<=20:=by rw[<-hv];exact UE _
 rw[hv]at ai
 have aq:v∈sM:=by rw[<-hv];exact UF _
 clear hv ha
 obtain⟨wh,aa,ab,ac⟩:=a
 simp only at hw ag ah ai hg ht
 refine⟨ky r n g v tr w,xR2 aw ax au ay av w, ?_,r,af,n,ao,g,aj,v,aq,tr,ak,w,ae,rfl⟩
 clear af ao aj aq ak
 obtain⟨M,hM⟩:=eX (ky r n g v tr w)
 rw[hM]
 have ret: ∀(x:afE) (U:St),x=M->cj (some (.str x)) 0 (λr s=>r= .str M/\s= []) U:=λx U h=>by subst h;exact wR
 refine iV 0 func37 ntmps37 results37 λc hc hb=> ?_
 refine zA ?_
 simp[go_sem]
 refine yV [(2,0),(3,0),(6,0),(9,0)] 1 rfl kR kR ?_
 simp[go_sem]
 refine pD ag ?_
 simp[go_sem]
 refine pD ad ?_
 simp[go_sem]
 refine pD ah ?_
 simp[go_sem]
 refine pD hg ?_
 simp[go_sem]
 refine pC ai ?_
 simp[go_sem]
 refine pC hw ?_
 have ar:w=0\/w=1\/w=2\/w=3\/w=4\/w=5\/w=6\/w=7\/w=8\/w=9\/w=10\/w=11\/w=12\/w=13\/w=14\/w=15\/w=16\/w=17\/w=18\/w=19:=om
 clear hw ae
 rcases ar with rfl|rfl|rfl|rfl|rfl|rfl|rfl|rfl|rfl|rfl|rfl|rfl|rfl|rfl|rfl|rfl|rfl|rfl|rfl|rfl
 all_goals
  simp[go_sem]
  try (refine pC ht ?_;simp[go_sem])
  repeat (refine zI (by first|omega|(simp;omega)) ?_;simp[go_sem])
  exact ret _ _ (by rw[<-hM];simp[ky])
end Go.Proofs.YtefbicjgbaaieaaGreat
namespace Go.Proofs.YtefbicjgbaaieaaGreat
open Go Go.Vx R Go.Proofs.Tryz
set_option maxRecDepth 100000
open Classical in
noncomputable def gh (a:dR):afE:=if h:a.ok then Classical.choose (UH a h)else []
theorem Og {a:dR} (h:a.ok):(gh a).length<=300/\Pure prog 37 [.agg a.row] (.str (gh a))/\y9 (gh a):=by
 unfold gh
 rw[dif_pos h]
 exact Classical.choose_spec (UH a h)
noncomputable def kz:List dR->Nat->afE->afE
 | [],_,s=>s
 |a::l,i,s=>if i<3 then kz l (i+1) ((if 0<i then s++ [59,32]else s)++gh a)else s
theorem UJ: ∀{l:List dR} {i:Nat} {s:afE},(∀a∈l,a.ok)->i<=3->(kz l i s).length<=s.length+302*(3 - i)
 | [],i,s,_,_=>by rw[kz];omega
 |a::l,i,s,h,hi=>by
  rw[kz]
  split
  .rename_i q
   have ha:=(Og (h a (B1 ..))).1
   refine An (UJ (λx hx=>h x (B7 _ hx)) om) ?_
   rw[Ah]
   have:(if 0<i then s++ [59,32]else s).length<=s.length+2:=by split<;>simp
   omega
  .omega
noncomputable def sN (l:List dR):afE:=if kz l 0 []= []then [83,69,76,69,67,84,32,42,32,70,82,79,77,32,71]else kz l 0 []
theorem Ke {l:List dR} (h: ∀a∈l,a.ok):(sN l).length<=2000:=by
 unfold sN
 have:=UJ (s:= []) h (A5 3)
 split
 .decide
 .simp at this;omega
theorem Oh (l:List dR) (_hl:l.length<=maxLen) (cH: ∀a∈l,a.ok):Pure prog 15 [.sl .ro (l.map dR.row),.int .i64 0,.int .i64 0] (.str (sN l)):=by
 obtain⟨M,hM⟩:=eX (sN l)
 rw[hM]
 unfold sN at hM
 obtain⟨T,hT⟩:=eX (kz l 0 [])
 rw[hT]at hM
 have ret: ∀(x:afE) (U:St),x=M->cj (some (.str x)) 0 (λr s=>r= .str M/\s= []) U:=λx U h=>by subst h;exact wR
 refine iV 0 func15 ntmps15 results15 λc hc hb=> ?_
 refine zA ?_
 simp[go_sem]
 refine zH (S:=Nat×afE) [0,1,7,8] (λu=> [.sl .ro (l.map dR.row),.int .i64 0,.str u.2,.int .i64 u.1]) (λ_=> []) (λu=>l.length - u.1) (λu=>u.1<=l.length/\u.1<=3/\u.2.length<=302*u.1/\kz (l.drop u.1) u.1 u.2=T) hc hb (0,[]) ⟨A5 _,A5 _,A5 _,hT⟩ ?_ ?_
 .exact aO
 rintro⟨i,s⟩ ⟨hi,af,hs,hinv⟩
 simp only at hi af hs hinv
 by_cases q:i<l.length/\i<3
 rotate_left
 .have ab:s=T:=by
   by_cases q1:i<l.length
   .rw[A2 q1,kz,afa om]at hinv
    exact hinv
   .rw[A8 om]at hinv
    exact hinv
  refine zA ?_
  by_cases q1:i<l.length
  .have q3: ¬i<3:=om
   have ad:decide ((i:Int)<3)=false:=afc om
   simp[go_sem,q1,ad]
   by_cases q0:s= []
   .have aa:s.isEmpty:=sU q0
    rw[afb (by rw[<-ab];exact q0)]at hM
    simp[go_sem,aa]
    exact ret _ _ hM
   .have aa:s.isEmpty=false:=sU q0
    rw[afa (by rw[<-ab];exact q0)]at hM
    simp[go_sem,aa]
    exact ret _ _ (by rw[ab];exact hM)
  .simp[go_sem,q1]
   by_cases q0:s= []
   .have aa:s.isEmpty:=sU q0
    rw[afb (by rw[<-ab];exact q0)]at hM
    simp[go_sem,aa]
    exact ret _ _ hM
   .have aa:s.isEmpty=false:=sU q0
    rw[afa (by rw[<-ab];exact q0)]at hM
    simp[go_sem,aa]
    exact ret _ _ (by rw[ab];exact hM)
 obtain⟨q1,q3⟩:=q
 have ei:=zR q3 om
 have ad:decide ((i:Int)<3)=true:=afd om
 obtain⟨a,ha⟩:=eX (l[i])
 obtain⟨ag,ae,_⟩:=Og (cH a (ha▸Aa q1))
 rw[A2 q1,ha,kz,afb q3]at hinv
 by_cases q0:0<i
 .have aa:decide (0<(i:Int))=true:=afd om
  rw[afb q0]at hinv
  refine zA ?_
  simp[go_sem,q1,ad,q0]
  refine zI (by first|omega|(simp;omega)) ?_
  simp[go_sem,q1,ha]
  refine pC ae ?_
  simp[go_sem]
  refine zI (by first|omega|(simp;omega)) ?_
  simp[go_sem,ei]
  exact zG (i+1,s++ [59,32]++gh a) ⟨by show l.length - (i+1)<l.length - i;omega,⟨q1,q3,by simp;omega,hinv⟩,aO⟩
 .have aa:decide (0<(i:Int))=false:=afc om
  rw[afa q0]at hinv
  refine zA ?_
  simp[go_sem,q1,ad,q0]
  simp[go_sem,ha]
  refine pC ae ?_
  simp[go_sem]
  refine zI (by first|omega|(simp;omega)) ?_
  simp[go_sem,ei]
  exact zG (i+1,s++gh a) ⟨by show l.length - (i+1)<l.length - i;omega,⟨q1,q3,by simp;omega,hinv⟩,aO⟩
end Go.Proofs.YtefbicjgbaaieaaGreat
namespace Go.Proofs.YtefbicjgbaaieaaGreat
open Go Go.Vx R Go.Proofs.Tryz
set_option maxRecDepth 100000
variable {n:Nat}{P:List (List Pr)}{t:afE}{dz:fj}{c:Ctx}
def CN:bJ:=⟨0,0,[],0⟩
def oD (t:afE):List bJ:=(fg 200 t).getD []
def CO (t:afE):bQ:=(iN (oD t++ [CN]) oR).1
def jt (f:bQ->Bool) (t:afE):Bool:=
 match fg 200 t with
 |none=>false
 |some T=>match iN (T++ [CN]) oR with
  |(x,s)=>(decide (s=⟨T.length,0,0,0⟩)&&((T.getD 0 xA).kind==1&& !((T.getD 0 xA).s==qE)))&&f x
theorem xL3 {f:bQ->Bool} (h:jt f t):fg 200 t=some (oD t)/\Rd (oD t,CO t)/\f (CO t)=true:=by
 unfold jt at h
 unfold CO oD
 cases e:fg 200 t with
 |none=>rw[e]at h;cases h
 |some T=>
  rw[e]at h
  simp only[Option.getD_some]at h⊢
  obtain⟨y,hx⟩: ∃x,iN (T++ [CN]) oR=x:=⟨_,rfl⟩
  obtain⟨x,s⟩:=y
  rw[hx]at h⊢
  simp only[A6,afe,afh,Bt,beq_eq_false_iff_ne]at h
  obtain⟨⟨h1,h2,h3⟩,h4⟩:=h
  exact⟨tV,⟨by rw[<-h1];exact hx,h2,h3⟩,h4⟩
def ju (f:afE->Bool) (r:afE) (w:Nat):Bool:=sM.all λv=>sM.all λn=>f (ky r n [] v [] w)
def CP (f:afE->Bool):Bool:=
 sM.all λv=>f (ky [] [] [] v [] 6)&&(f (ky [] [] [] v [] 14)&&(f (ky [] [] [] v [] 15)&&(f (ky [] [] [] v [] 18)&&((Kc.all λg=>f (ky [] [] g v [] 2)&&f (ky [] [] g v [] 5))&&((Of.all λb=>f (ky [] [] [] v b 13))&&y8.all λr=>f (ky r [] [] v [] 9))))))
def CQ (f:afE->Bool):Bool:=
 (Kc.all λg=>f (ky [] [] g [] [] 7)&&f (ky [] [] g [] [] 12))&&(f (ky [] [] [] [] [] 8)&&(f (ky [] [] [] [] [] 10)&&(sM.all λn=>f (ky [] n [] [] [] 11)&&(f (ky [] n [] [] [] 17)&&f (ky [] n [] [] [] 19)))))
structure CR (f:afE->Bool):Prop where
 n3:ju f [] 3=true
 n0: ∀r∈y8,ju f r 0=true
 n4: ∀r∈y8,ju f r 4=true
 n16: ∀r∈y8,ju f r 16=true
 v:CP f=true
 g:CQ f=true
theorem Hw {f:afE->Bool} {r:afE} {w:Nat} (h:ju f r w) {n v:afE} (hn:n∈sM) (hv:v∈sM):f (ky r n [] v [] w)=true:=by
 simp only[ju,Ad]at h
 exact h v hv n hn
theorem xK4 {f:afE->Bool} (h:CR f) (ht:y9 t):f t=true:=by
 obtain⟨r,hr,n,hn,g,hg,v,hv,b,hb,w,hw,rfl⟩:=ht
 have aa:=h.v
 have ab:=h.g
 simp only[CP,CQ,A6,Ad]at aa ab
 obtain⟨h3,h4,h5,h6⟩:=ab
 obtain⟨b1,b2,b3,b4,b5,b6,b7⟩:=aa v hv
 match w,hw with
 |0,_=>exact Hw (h.n0 r hr) hn hv
 |1,_=>exact Hw (h.n0 r hr) hn hv
 |2,_=>exact(b5 g hg).1
 |3,_=>exact Hw h.n3 hn hv
 |4,_=>exact Hw (h.n4 r hr) hn hv
 |5,_=>exact(b5 g hg).2
 |6,_=>exact b1
 |7,_=>exact(h3 g hg).1
 |8,_=>exact h4
 |9,_=>exact b7 r hr
 |10,_=>exact h5
 |11,_=>exact(h6 n hn).1
 |12,_=>exact(h3 g hg).2
 |13,_=>exact b6 b hb
 |14,_=>exact b2
 |15,_=>exact b3
 |16,_=>exact Hw (h.n16 r hr) hn hv
 |17,_=>exact(h6 n hn).2.1
 |18,_=>exact b4
 |19,_=>exact(h6 n hn).2.2
 |w+20,hw=>omega
theorem xm6 {T:List bJ} (h:fg n t=some T):fg (n+2) (59::32::t)=some (sL::T):=by
 have e:dT 0 (59::32::t)=(⟨4,0,[59],0⟩,1,0):=by
  unfold dT
  rw[List.headD_cons,afa dc,afa dc,afa dc,afa (λh=>absurd h.2 sm),afb dc]
 rw[fg,afa dc,e,afb rfl,Br,Az,fg,afb dc,h]
 rfl
theorem Oi {m:Nat} {u:afE} {T uU:List bJ} (h:fg n t=some T) (g:fg m u=some uU):fg (n+(m+2)) (t++([59,32]++u))=some (T++sL::uU):=Oc h (xm6 g)
theorem UK {f:bQ->Bool} (hf:CR (jt f)) {l:List dR} (cH: ∀a∈l,a.ok): ∃aa:List bQ,aa≠ []/\aa.length<=3/\(∀st∈aa,f st=true)/\lR (sN l)=(⟨0,0,aa⟩,0,0):=by
 have hQ: ∀{t},y9 t->fg 200 t=some (oD t)/\Rd (oD t,CO t)/\f (CO t):=λht=>xL3 (xK4 hf ht)
 have hA: ∀a∈l,y9 (gh a):=λa ha=>(Og (cH a ha)).2.2
 have ab: ∀{t},y9 t->t≠ []:=fun{t} ht e=>by
  have h:=(hQ ht).2.1.hd
  rw[e]at h
  exact absurd h dc
 have fin: ∀(ts:List afE) (n:Nat) (t:afE),ts≠ []->ts.length<=3->(∀x∈ts,y9 x)->t.length<=2000->fg n t=some (qM (ts.map λx=>(oD x,CO x)))-> ∃aa:List bQ,aa≠ []/\aa.length<=3/\(∀st∈aa,f st=true)/\lR t=(⟨0,0,aa⟩,0,0):=λts n t h0 h3 hs hl hx=>by
  have:=yV9 hx hl (λq hq=>by
   obtain⟨x,hx,rfl⟩:=Ac.1 hq
   exact(hQ (hs x hx)).2.1) (sU h0) (by rw[Bb];omega)
  refine⟨ts.map CO,by simpa using h0,by rw[Bb];exact h3,λst ad=> ?_,by rw[this,Be];rfl⟩
  obtain⟨x,hx,rfl⟩:=Ac.1 ad
  exact(hQ (hs x hx)).2.2
 have hlen:=Ke cH
 unfold sN at hlen⊢
 match l,hA with
 | [],_=>
  rw[kz,afb rfl]at hlen⊢
  have hs:y9 [83,69,76,69,67,84,32,42,32,70,82,79,77,32,71]:=⟨[48],dc,Oe,dc,[39,97,39],dc,Oe,dc,[84,82,85,69],dc,10,dc,rfl⟩
  exact fin [[83,69,76,69,67,84,32,42,32,70,82,79,77,32,71]] 200 _ sm sm (λx hx=>by rw[C4.1 hx];exact hs) hlen (hQ hs).1
 | [a],hA=>
  have h1:=hA a sm
  have e:kz [a] 0 []=gh a:=by rw[kz,afb dc,afa dc,kz];rfl
  rw[e,afa (ab h1)]at hlen⊢
  exact fin [gh a] 200 _ sm sm (λx hx=>by rw[C4.1 hx];exact h1) hlen (hQ h1).1
 | [a,b],hA=>
  have h1:=hA a sm
  have h2:=hA b sm
  have e:kz [a,b] 0 []=gh a++([59,32]++gh b):=by
   rw[kz,afb dc,afa dc,kz,afb dc,afb dc,kz,Bp,Bu]
  rw[e,afa sm]at hlen⊢
  exact fin [gh a,gh b] _ _ sm sm (λx hx=>by
   simp only[Ae,B4,afn]at hx
   rcases hx with rfl|rfl
   .exact h1
   .exact h2) hlen (Oi (hQ h1).1 (hQ h2).1)
 |a::b::d::l,hA=>
  have h1:=hA a sm
  have h2:=hA b sm
  have h3:=hA d sm
  have e:kz (a::b::d::l) 0 []=gh a++([59,32]++(gh b++([59,32]++gh d))):=by
   rw[kz,afb dc,afa dc,kz,afb dc,afb dc,kz,afb dc,afb dc]
   have: ∀(l:List dR) s,kz l 3 s=s:=λl s=>by cases l<;>rfl
   rw[this]
   simp
  rw[e,afa sm]at hlen⊢
  exact fin [gh a,gh b,gh d] _ _ sm sm (λx hx=>by
   simp only[Ae,B4,afn]at hx
   rcases hx with rfl|rfl|rfl
   .exact h1
   .exact h2
   .exact h3) hlen (Oi (hQ h1).1 (Oi (hQ h2).1 (hQ h3).1))
def fT:bQ->Bool:=λ_=>true
theorem wf6:ju (jt fT) [48] 0=true:=kR
theorem wf7:ju (jt fT) [49] 0=true:=kR
theorem wf8:ju (jt fT) [48] 4=true:=kR
theorem wf9:ju (jt fT) [49] 4=true:=kR
theorem wb4:ju (jt fT) [48] 16=true:=kR
theorem wb5:ju (jt fT) [49] 16=true:=kR
theorem rd3:ju (jt fT) [] 3=true:=kR
theorem rdV:CP (jt fT)=true:=kR
theorem rdG:CQ (jt fT)=true:=kR
theorem Oj {p:afE->Prop} (h0:p [48]) (h1:p [49]): ∀r∈y8,p r:=λr hr=>by
 simp only[y8,Ae,B4,afn]at hr
 rcases hr with rfl|rfl
 .exact h0
 .exact h1
theorem UL:CR (jt fT):=⟨rd3,Oj wf6 wf7,Oj wf8 wf9,Oj wb4 wb5,rdV,rdG⟩
def yB (P:List (List Pr)):List V:=P.map λl=> .sl .ro (l.map ic)
theorem Ol {i:Nat} (h:i<P.length):(yB P)[i]? =some (.sl .ro ((P[i]).map ic)):=by simp[yB,h]
theorem Kf (P:List (List Pr)):(yB P).length=P.length:=by simp[yB]
theorem Om (P:List (List Pr)) (h8:P.length=8):bK prog 16 [.ptr 0 0] [.box (yB P)] (λr s=>r= .sl .ro ((dN 0 P).map oZ)/\s= [.box (yB P)]):=by
 obtain⟨C,hC⟩:=eX (yB P)
 have ae:C.length=8:=by rw[<-hC,Kf,h8]
 have af: ∀i,i<8->C[i]? =some (.sl .ro ((P.getD i []).map ic)):=λi hi=>by
  rw[<-hC,Ol om,A9,A0 om];rfl
 have aa: ∀n,bP n (.box C):=λn=>by rw[<-hC];simp[bP,cK,cG,yB]
 rw[hC]
 clear hC
 refine iV 1 func16 ntmps16 results16 λc hc hb=> ?_
 refine zA ?_
 simp[go_sem]
 refine rL 3 2 dc sg ?_
 refine zH (S:=Nat×List Vw) [0,3,4] (λu=> [.ptr 0 0,.sl (.app 1) (u.2.map oZ),.int .i64 u.1]) (λu=> [.box C,.app u.2.length 2]) (λu=>8 - u.1) (λu=>u.1<=8/\u.2=(dN 0 P).take u.1) hc hb (0,[]) ⟨A5 _,sm⟩ ?_ ?_
 .exact aN 2 (by rw[Aq,aa];rfl)
 rintro⟨i,out⟩ ⟨hi,ho⟩
 simp only at hi ho
 by_cases q:i<8
 rotate_left
 .have h2:out=dN 0 P:=by rw[ho];exact Aj (by rw[J2];omega)
  have q': ¬(i:Int)<8:=om
  refine zA ?_
  simp[go_sem,q']
  exact rC 1 rfl (by simp[aa]) (A3 _) zK ⟨by rw[h2],rfl⟩
 have ag:out.length=i:=by rw[ho,Cx,J2];omega
 have ei:=zR q om
 have q':(i:Int)<8:=om
 have ab:(dN 0 P)[i]? =some (i,P.getD i []):=by
  rw[NX,A0 om,A9,A0 om]
  simp
 have ad:out++ [(i,P.getD i [])]=(dN 0 P).take (i+1):=by
  rw[ho,Cp,ab];rfl
 obtain⟨p,hp⟩:=eX (P.getD i [])
 have hC:=af i q
 rw[hp]at hC ad
 rw[A0 om]at hC
 have hC:=afp hC
 refine zA ?_
 simp[go_sem,q,q',hC,ae]
 refine zI ⟨om,zX rfl⟩ ?_
 simp[go_sem,ei]
 exact zG (i+1,out++ [(i,p)]) ⟨by show 8 - (i+1)<8 - i;omega,⟨q,ad⟩,aM 2 (by rw[Aq,aa];rfl) (zD (by simp[go_sem,oZ]) rfl)⟩
theorem xD8 (l:List Pr):wF (l.map ic)=true:=by simp[wF,ic,o8]
theorem xp7 (l:List Pr):ij (l.map ic) 0 l.length=l.map ic:=by
 unfold ij
 rw[Az,Aj sm,Be]
 exact Bq λ_ _=>rfl
theorem yQ7 (id:Nat) (rows:List (List V)) (P:List (List Pr)):(yB P).map (jg id rows)=yB P:=by
 unfold yB
 rw[Be]
 exact Bq λ_ _=>rfl
theorem yQ8 (P:List (List Pr)) (i:Nat) (l:List Pr) (h:i<P.length):(yB P).take i++ .sl .ro (l.map ic)::(yB P).drop (i+1)=yB (P.set i l):=by
 have h2:=List.set_eq_take_append_cons_drop (l:=yB P) (i:=i) (a:=V.sl .ro (l.map ic))
 rw[afb (by rw[Kf];exact h)]at h2
 rw[<-h2]
 unfold yB
 rw[afD]
theorem Kg (P:List (List Pr)) (h8:P.length=8) (ad: ∀l∈P,l.length<=10000) (qs:List (Int×List Wr)) (hq:qs.length<=100000) (hw: ∀q∈qs,q.2.length<=100000):bK prog 17 [.ptr 0 0,.sl .ro (qs.map ff)] [.box (yB P)] (λr s=>r= .cm []/\s= [.box (yB (mm P qs))]):=by
 obtain⟨F,hF⟩:=eX (mm P qs)
 rw[hF]
 have ae: ∀n (P:List (List Pr)),bP n (.box (yB P))=true:=λn P=>by simp[bP,cK,cG,yB]
 refine iV 1 func17 ntmps17 results17 λc hc hb=> ?_
 refine zA ?_
 simp[go_sem]
 refine zH (S:=Nat×List (List Pr)) [0,1,4] (λu=> [.ptr 0 0,.sl .ro (qs.map ff),.int .i64 u.1]) (λu=> [.box (yB u.2)]) (λu=>qs.length - u.1) (λu=>u.1<=qs.length/\u.2.length=8/\(∀l∈u.2,l.length<=10000+100000*u.1)/\mm u.2 (qs.drop u.1)=F) hc hb (0,P) ⟨A5 _,h8,λl hl=>by have:=ad l hl;simp only;omega,hF⟩ ?_ ?_
 .exact aN 1 (by rw[Aq,ae];rfl)
 rintro⟨i,P⟩ ⟨hi,h8,ad,hinv⟩
 simp only at hi h8 ad hinv
 by_cases q:i<qs.length
 rotate_left
 .have h2:P=F:=by rw[A8 om]at hinv;exact hinv
  refine zA ?_
  simp[go_sem,q]
  exact rC 1 rfl (by simp[ae]) (A3 _) (zC rfl) ⟨rfl,by rw[h2];rfl⟩
 have ei:=zR q om
 obtain⟨⟨g,ws⟩,hx⟩: ∃x,qs[i]=x:=⟨_,rfl⟩
 have ak:=hw (g,ws) (hx▸Aa q)
 simp only at ak
 rw[A2 q,hx]at hinv
 change mm (Fb P (g,ws)) (qs.drop (i+1))=F at hinv
 unfold Fb at hinv
 simp only at hinv
 by_cases qg:g<0\/8<=g
 .rw[afb qg]at hinv
  have fin: ∀l∈P,l.length<=10000+100000*(i+1):=λl hl=>by have:=ad l hl;omega
  rcases Classical.em (g<0)with q0|q0
  .have ah:decide (g<0)=true:=afd q0
   refine zA ?_
   simp[go_sem,q,hx,ff,q0,ei]
   exact zG (i+1,P) ⟨by show qs.length - (i+1)<qs.length - i;omega,⟨q,h8,fin,hinv⟩,aN 1 (by rw[Aq,ae];rfl)⟩
  .have ah:decide (g<0)=false:=afc q0
   have q8:8<=g:=om
   have al:decide (8<=g)=true:=afd q8
   refine zA ?_
   simp[go_sem,q,hx,ff,q0,q8,ei]
   exact zG (i+1,P) ⟨by show qs.length - (i+1)<qs.length - i;omega,⟨q,h8,fin,hinv⟩,aN 1 (by rw[Aq,ae];rfl)⟩
 rw[afa qg]at hinv
 obtain⟨gn,rfl⟩: ∃gn:Nat,g=gn:=⟨g.toNat,om⟩
 have ax:gn<8:=om
 have q0: ¬(gn:Int)<0:=om
 have q8: ¬8<=(gn:Int):=om
 have ah:decide ((gn:Int)<0)=false:=afc q0
 have al:decide (8<=(gn:Int))=false:=afc q8
 refine zA ?_
 simp[go_sem,q,hx,ff,ah,q8]
 refine zH (S:=Nat×List (List Pr)) [0,1,4,5] (λu=> [.ptr 0 0,.sl .ro (qs.map ff),.int .i64 i,.int .i64 u.1]) (λu=> [.box (yB u.2)]) (λu=>ws.length - u.1) (λu=>u.1<=ws.length/\u.2.length=8/\(∀l∈u.2,l.length<=10000+100000*i+u.1)/\mm ((ws.drop u.1).foldl (lf gn) u.2) (qs.drop (i+1))=F) hc hb (0,P) ⟨A5 _,h8,ad,hinv⟩ ?_ ?_
 .exact aN 1 (by rw[Aq,ae];rfl)
 rintro⟨k,P⟩ ⟨hk,h8,ad,hinv⟩
 simp only at hk h8 ad hinv
 by_cases qk:k<ws.length
 rotate_left
 .rw[A8 om,List.foldl_nil]at hinv
  refine zA ?_
  simp[go_sem,q,hx,ff,qk,ei]
  exact zG (i+1,P) ⟨by show qs.length - (i+1)<qs.length - i;omega,⟨q,h8,λl hl=>by have:=ad l hl;simp only;omega,hinv⟩,aN 1 (by rw[Aq,ae];rfl)⟩
 have ek:=zR qk om
 obtain⟨⟨⟨wr,wk⟩,wd,wb⟩,hy⟩: ∃x,ws[k]=x:=⟨_,rfl⟩
 rw[A2 qk,hy,B8]at hinv
 obtain⟨p,hp⟩:=eX (P[gn]'om)
 have ay:=ad p (hp▸Aa _)
 have an:lf gn P ⟨(wr,wk),wd,wb⟩=P.set gn (gv wk wb wd p):=by
  unfold lf NS
  rw[Ax,A9,A0 om,hp];rfl
 rw[an]at hinv
 have ao:(yB P).length=8:=by rw[Kf,h8]
 have aq:(yB P)[gn]'om= .sl .ro (p.map ic):=by
  have:=Ol (P:=P) (i:=gn) om
  rw[A0 om,hp]at this
  exact afp this
 have ar:(yB P)[gn]? =some (.sl .ro (p.map ic)):=by rw[A0 om,aq]
 have az:p.length<40000000000:=om
 have af: ∀a:List Pr,([.box (yB P),.box [.str wk,.bool wd,.str wb],.cc (a.map ic) 2]:St).all (bP 3)=true:=λa=>by rw[Aq,ae,B2];simp[bP,cK,cG,ic]
 obtain⟨Z,hZ⟩:=eX (gv wk wb wd p)
 rw[hZ]at hinv
 have a1:Z.length<=p.length+1:=by
  rw[<-hZ,(NR wk wb wd p).length_eq,Ah]
  have:=De (λx:Pr=> !decide (x.1=wk)) p
  split<;>simp<;>omega
 refine zO (zA ?_)
 simp[go_sem,q,hx,ff,qk]
 refine zO (qp (zO (zA ?_)))
 simp[go_sem,q,hx,ff,qk,hy,Hl]
 refine zO (zA ?_)
 simp[go_sem]
 refine Er 7 2 dc sg ?_
 refine zO (zA ?_)
 simp[go_sem]
 refine zO ?_
 refine zO ?_
 refine yV [] 3 rfl kR kR ?_
 simp[go_sem,q,hx,ff]
 refine zI om ?_
 simp[go_sem,ar]
 refine qp ?_
 refine zH (S:=Nat×List Pr×Bool) [0,1,4,5,6,7,8,60,61,62] (λu=> [.ptr 0 0,.sl .ro (qs.map ff),.int .i64 i,.int .i64 k,.ptr 1 0,.cJ 2 2 u.2.1.length 0 u.2.1.length,.bool u.2.2,.sl .ro (p.map ic),.int .i64 p.length,.int .i64 u.1])
   (λu=> [.box (yB P),.box [.str wk,.bool wd,.str wb],.cc (u.2.1.map ic) 2]) (λu=>p.length - u.1)
   (λu=>u.1<=p.length/\u.2.1.length<=2*u.1/\u.2.1++gv wk wb u.2.2 (p.drop u.1)=Z) hc hb (0,[],wd) ⟨A5 _,A5 _,hZ⟩ ?_ ?_
 .exact aN 3 (by rw[Aq,ae];rfl)
 .rintro⟨j,acc,b⟩ ⟨hj,au,aa⟩
  simp only at hj au aa
  by_cases qj:j<p.length
  rotate_left
  .rw[A8 om,gv]at aa
   refine zA ?_
   simp[go_sem,qj]
   refine nM (S:=Unit) [0,1,4,5,7] (λ_=> [.ptr 0 0,.sl .ro (qs.map ff),.int .i64 i,.int .i64 k,.cJ 2 2 Z.length 0 Z.length]) (λ_=> [.box (yB P),.box [.str wk,.bool wd,.str wb],.cc (Z.map ic) 2]) (λ_=>True) hc hb ?_ ?_
   .cases b with
    |true=>
     have hz:acc=Z:=sU aa
     refine zA ?_
     simp[go_sem]
     exact zG () ⟨tV,ca 3 (by simp[go_sem,hz]) rfl (af _) dc (zD (by simp[go_sem,hz]) rfl)⟩
    |false=>
     have hz:acc++ [(wk,wb)]=Z:=sU aa
     have av:Z.length=acc.length+1:=by rw[<-hz];simp
     refine zA ?_
     simp[go_sem,Bi]
     refine zI ⟨zX rfl,om⟩ ?_
     simp[go_sem]
     exact zG () ⟨tV,ca 3 (by simp[go_sem,<-hz,ic]) rfl (af _) dc (zD (by simp[go_sem,av]) rfl)⟩
   rintro _ _
   refine tc 2 2 (Z.map ic) rfl (xD8 Z) ?_
   refine yV [] 3 (by simp[lj]) kR kR ?_
   simp[go_sem,fB,jh,jg,iI,lj,uh,q,hx,ff,xp7,yQ7]
   refine zI om ?_
   have h7:gn<=7:=om
   simp[go_sem,ao,h7,yQ8 P gn Z om]
   have aj: ∀l∈P.set gn Z,l.length<=10000+100000*i+(k+1):=λl hl=>by
    rcases Dj hl with hl|rfl
    .have:=ad l hl;omega
    .omega
   refine zA ?_
   simp[go_sem,ek]
   exact zG (k+1,P.set gn Z) ⟨by show ws.length - (k+1)<ws.length - k;omega,⟨qk,by simp[h8],aj,hinv⟩,aN 1 (by rw[Aq,ae];rfl)⟩
  have ej:=zR qj om
  obtain⟨⟨xk,xd⟩,ag⟩: ∃x,p[j]=x:=⟨_,rfl⟩
  rw[A2 qj,ag,gv]at aa
  simp only at aa
  have fin: ∀(ab:List Pr) (b':Bool),ab.length<=acc.length+2->ab++gv wk wb b' (p.drop (j+1))=Z->p.length - (j+1)<p.length - j/\(j+1<=p.length/\ab.length<=2*(j+1)/\ab++gv wk wb b' (p.drop (j+1))=Z):=λab b' h1 h2=>⟨om,qj,om,h2⟩
  by_cases e:xk=wk
  .subst e
   rw[tO]at aa
   have hn:(xk !=xk)=false:=sm
   have hl:Op.bytesLess xk xk=false:=tO _
   obtain⟨g1,g2⟩:=fin acc b om (sU aa)
   cases b with
   |true=>
    refine zA ?_
    simp[go_sem,qj,ag,ic,ej]
    exact zG (j+1,acc,true) ⟨g1,g2,aN 3 (af _)⟩
   |false=>
    refine zA ?_
    simp[go_sem,qj,ag,ic,hl,ej]
    exact zG (j+1,acc,false) ⟨g1,g2,aN 3 (af _)⟩
  have hn:(xk==wk)=false:=sU e
  have a6: ¬xk=wk:=e
  rw[afa e]at aa
  have a7: ∀ab:List Pr,ab.length<=2*p.length+2->(ab.length+1)*32<=140737488355328:=λ_ h=>by omega
  cases b with
  |true=>
   obtain⟨g1,g2⟩:=fin (acc++ [(xk,xd)]) true sm (sU aa)
   refine zA ?_
   simp[go_sem,qj,ag,ic,hn,Bi]
   refine zI ⟨zX rfl,om⟩ ?_
   simp[go_sem,ej]
   exact zG (j+1,acc++ [(xk,xd)],true) ⟨g1,g2,ca 3 (by simp[go_sem,ic]) rfl (af _) dc (zD sg rfl)⟩
  |false=>
   by_cases hl:Op.bytesLess wk xk=true
   .rw[hl]at aa
    obtain⟨g1,g2⟩:=fin (acc++ [(wk,wb),(xk,xd)]) true sm (sU aa)
    have ai:Op.bytesLess xk wk=false:=by
     cases z:Op.bytesLess xk wk with
     |false=>rfl
     |true=>have:=yw _ _ _ hl z;rw[tO]at this;cases this
    refine zA ?_
    simp[go_sem,qj,ag,ic,hn,ai,Bi]
    refine zI ⟨zX rfl,om⟩ ?_
    simp[go_sem,hn,Bi]
    refine zI ⟨zX rfl,om⟩ ?_
    simp[go_sem,ej]
    exact zG (j+1,acc++ [(wk,wb),(xk,xd)],true) ⟨g1,g2,ca 3 (by simp[go_sem,ic]) rfl (af _) dc (zD sg rfl)⟩
   .have aw:Op.bytesLess wk xk=false:=sU hl
    rw[aw]at aa
    obtain⟨g1,g2⟩:=fin (acc++ [(xk,xd)]) false sm (sU aa)
    have ai:Op.bytesLess xk wk:=by
     rcases GZ xk wk with z|z|z
     .exact z
     .exact absurd z e
     .exact absurd z hl
    refine zA ?_
    simp[go_sem,qj,ag,ic,hn,ai,Bi]
    refine zI ⟨zX rfl,om⟩ ?_
    simp[go_sem,ej]
    exact zG (j+1,acc++ [(xk,xd)],false) ⟨g1,g2,ca 3 (by simp[go_sem,ic]) rfl (af _) dc (zD sg rfl)⟩
theorem On:Pure prog 20 [] (dS bM):=by
 have aa:=Z9
 refine iV 0 func20 ntmps20 results20 λc hc hb=> ?_
 refine zA ?_
 simp[go_sem]
 refine pC aa ?_
 simp[go_sem,BY]
 exact yL (r:=dS bM) xF1 ⟨rfl,rfl⟩
def l9:afE:= [73,78,83,69,82,84,32,73,78,84,79,32,71,32,86,65,76,85,69,83,32,40,39,97,39,44,32,49,44,32,78,85,76,76,41,59,32,83,69,76,69,67,84,32,78,32,70,82,79,77,32,71]
theorem wg1:(dd (lR l9).1 []).1=(0,0,[⟨1,[]⟩,⟨0,[[⟨2,1,[]⟩]]⟩]):=kR
theorem UM:(l6 (lR l9).1 []).map (λq=>q.2.length)= [1]:=kR
theorem Oo (dz:fj) (aa:List Ln):vu dz aa= .cm [.agg (fo (dd dz aa).1),.sl .ro ((l6 dz aa).map ff)]:=rfl
theorem xk0:Pure prog 12 [] (.bool true):=by
 have hl:=Ji l9 dc
 have hr:=NP (lR l9).1 (Jj l9) [] dc (λx hx=>by cases hx) dc
 rw[Oo,show yZ []= [] from rfl,wg1]at hr
 obtain⟨q,hq⟩: ∃q,l6 (lR l9).1 []= [q]:=by
  have h:=UM
  cases e:l6 (lR l9).1 []with
  |nil=>rw[e]at h;cases h
  |cons x l=>cases l with
   |nil=>exact⟨x,rfl⟩
   |cons y l=>rw[e]at h;simp at h
 have aa:q.2.length=1:=by have h:=UM;rw[hq]at h;simpa using h
 rw[hq]at hr
 obtain⟨L,hL⟩:=eX ((lR l9).1)
 rw[hL]at hl hr
 obtain⟨g,ws⟩:=q
 simp only at aa
 have ab:=On
 unfold l9 at hl
 refine iV 0 func12 ntmps12 results12 λc hc hb=> ?_
 refine zA ?_
 simp[go_sem]
 refine pC ab ?_
 simp[go_sem,dS]
 refine yV [(1,0),(2,0)] 1 rfl kR kR ?_
 simp[go_sem]
 refine pD hl ?_
 simp[go_sem]
 refine pD hr ?_
 simp[go_sem,fo,Ot.row,ff,aa]
 exact wR
def Kh (x:List dR):List V:= [.sl .ro (x.map dR.row)]
theorem mn.small (h:mn n P) (hn:n<=7500): ∀l∈P,l.length<=10000:=λl hl=>by
 obtain⟨i,hi,rfl⟩:=Ct hl
 have hm:(i,P[i])∈dN 0 P:=by
  refine Bh (i:=i) ?_
  rw[NX,A0 hi,A7];rfl
 have:=((h.vs hn).2.1 _ hm).2.1
 simp only at this
 omega
theorem Ki (h:mn n P) (hn:n<=7500) (hl:nu dz):
  (l6 dz (yZ (dN 0 P))).length<=100000/\(∀q∈l6 dz (yZ (dN 0 P)),q.2.length<=100000)/\mn (n+240) (mm P (l6 dz (yZ (dN 0 P)))):=by
 obtain⟨m,hT⟩:=Hm (dN 0 P)
 have h1:=h.len
 have hlen:(yZ (dN 0 P)).length<=(yJ (dN 0 P)).length:=hT.len
 obtain⟨aa,ab⟩:=xE1 hl hT.now (λx hx=>⟨hT.now.rows x hx,(hT.lines x hx).1⟩) (by show(yZ (dN 0 P)).length<=7500;omega)
 exact⟨aa,ab,h.step hl⟩
def P0:List (List Pr):= [[],[],[],[],[],[],[],[]]
theorem CS (n:Nat) (P:List (List Pr)):bP n (.box (yB P))=true:=by simp[bP,cK,cG,yB]
def oE (v:V):V:=fB 8 [] (fB 7 [] (fB 6 [] (fB 5 [] (fB 4 [] (fB 3 [] (fB 2 [] (fB 1 [] v)))))))
theorem xy4 (id:Nat) (rows:List (List V)) (k:IntKind) (x:Int):fB id rows (.int k x)= .int k x:=rfl
theorem xy2 (k:IntKind) (x:Int):oE (.int k x)= .int k x:=by simp only[oE,xy4]
theorem xy5 (id:Nat) (rows:List (List V)) (i o:Nat):fB id rows (.ptr i o)= .ptr i o:=rfl
theorem xy3 (i o:Nat):oE (.ptr i o)= .ptr i o:=by simp only[oE,xy5]
theorem xM6 (id:Nat) (rows:List (List V)) (rs:List (List V)):fB id rows (.sl .ro rs)= .sl .ro rs:=rfl
theorem xM5 (rs:List (List V)):oE (.sl .ro rs)= .sl .ro rs:=by simp only[oE,xM6]
theorem xI2 {P:Program} {nt:Nat} {e:Env} {Q:QT} {y:Code} (hy:fw P c nt y Q fx fx (λt=>oE (e t)) [.box (yB P0),.dead,.dead,.dead,.dead,.dead,.dead,.dead,.dead]):fw P c nt y Q fx fx e [.box [.sl .full [],.sl .full [],.sl .full [],.sl .full [],.sl .full [],.sl .full [],.sl .full [],.sl .full []]]:=by
 refine yo 0 0 2 _ dc rfl rfl ?_
 refine tc 1 2 [] rfl rfl ?_
 refine yo 0 1 2 _ dc rfl rfl ?_
 refine tc 2 2 [] rfl rfl ?_
 refine yo 0 2 2 _ dc rfl rfl ?_
 refine tc 3 2 [] rfl rfl ?_
 refine yo 0 3 2 _ dc rfl rfl ?_
 refine tc 4 2 [] rfl rfl ?_
 refine yo 0 4 2 _ dc rfl rfl ?_
 refine tc 5 2 [] rfl rfl ?_
 refine yo 0 5 2 _ dc rfl rfl ?_
 refine tc 6 2 [] rfl rfl ?_
 refine yo 0 6 2 _ dc rfl rfl ?_
 refine tc 7 2 [] rfl rfl ?_
 refine yo 0 7 2 _ dc rfl rfl ?_
 refine tc 8 2 [] rfl rfl ?_
 exact hy
noncomputable def UN (P:List (List Pr)) (Oq:List dR):List (List Pr):=mm P (l6 (lR (sN Oq)).1 (yZ (dN 0 P)))
noncomputable def Hx (l:List (List dR)):List (List Pr):=l.foldl UN P0
theorem xR5 (l:List (List dR)) (hl:l.length<=30) (cH: ∀x∈l,x.length<=maxLen/\ ∀a∈x,a.ok):bK prog 18 [.sl .ro (l.map Kh)] [] (λr s=>r= .ptr 0 0/\ ∃P,(mn (240*l.length) P/\P=Hx l)/\s= [.box (yB P)]):=by
 have av:=On
 refine iV 0 func18 ntmps18 results18 λc hc hb=> ?_
 refine zA ?_
 simp[go_sem]
 refine xI2 ?_
 refine zH (S:=Nat×List (List Pr)) [0,3,4] (λu=> [.sl .ro (l.map Kh),.ptr 0 0,.int .i64 u.1]) (λu=> [.box (yB u.2)]) (λu=>l.length - u.1) (λu=>u.1<=l.length/\mn (240*u.1) u.2/\u.2=Hx (l.take u.1)) hc hb (0,P0) ⟨A5 _,wg4,rfl⟩ ?_ ?_
 .exact aM 1 (by rw[Aq,CS];rfl) (zD (by simp[go_sem,xy2,xy3,xM5]) rfl)
 rintro⟨i,P⟩ ⟨hi,hS,hP⟩
 simp only at hi hS hP
 by_cases q:i<l.length
 rotate_left
 .have e:i=l.length:=om
  rw[e]at hS
  rw[Aj om]at hP
  refine zA ?_
  simp[go_sem,q]
  exact rC 1 rfl (by simp[CS]) dc (s8 rfl) ⟨rfl,P,⟨hS,hP⟩,rfl⟩
 have ei:=zR q om
 obtain⟨aa,hx⟩: ∃x,l[i]=x:=⟨_,rfl⟩
 obtain⟨aw,al⟩:=cH aa (hx▸Aa q)
 have ad:=Oh aa aw al
 have an:=Ke al
 obtain⟨tx,ah⟩:=eX (sN aa)
 rw[ah]at ad an
 have af:=Ji tx (An an dc)
 have ae:=Jj tx
 obtain⟨L,hL⟩:=eX ((lR tx).1)
 rw[hL]at af ae
 have hn:240*i<=7500:=om
 have ag:=Om P hS.eight
 obtain⟨v1,v2,v3,v4⟩:=hS.vs hn
 have ab:=NP L ae (dN 0 P) om (λx hx=>⟨(v2 x hx).1,by have:=(v2 x hx).2.1;omega,(v2 x hx).2.2⟩) v4
 rw[Oo]at ab
 obtain⟨ao,aq,ai⟩:=Ki hS hn ae
 have aj:=Kg P hS.eight (hS.small hn) _ ao aq
 obtain⟨A,hA⟩:=eX ((dd L (yZ (dN 0 P))).1)
 obtain⟨uU,hU⟩:=eX (l6 L (yZ (dN 0 P)))
 rw[hA,hU]at ab
 rw[hU]at aj ai
 obtain⟨P2,ak⟩:=eX (mm P uU)
 rw[ak]at aj ai
 have ar:P2=Hx (l.take (i+1)):=by
  unfold Hx
  rw[Ce q,hx,D8,<-ak,<-hU,<-hL,<-ah]
  show _=UN (Hx (l.take i)) aa
  rw[<-hP];rfl
 obtain⟨vs,au⟩:=eX (dN 0 P)
 rw[au]at ag ab
 clear hA hU ak au ao aq v1 v2 v3 v4 hL ah
 refine zA ?_
 simp[go_sem,q]
 refine yV [(0,0),(5,0),(6,0),(8,1),(9,0)] 1 rfl kR kR ?_
 simp[go_sem]
 refine pD av ?_
 simp[go_sem,q,hx,Kh]
 refine pD ad ?_
 simp[go_sem]
 refine pD af ?_
 simp[go_sem]
 refine TT 1 ag cB rfl rfl (by rw[Aq,CS];rfl) rfl (λi hi=>by simp[go_sem];omega) (λ_=>oJ (n:=1) rfl) ?_
 simp[go_sem]
 refine pD ab ?_
 simp[go_sem,fo]
 refine rK 1 aj cB rfl rfl (by rw[Aq,CS];rfl) (oJ (n:=1) rfl) ?_ ?_
 .rintro r s' ⟨rfl,rfl⟩
  exact⟨rfl,by rw[Aq,CS];rfl,rfl⟩
 rintro r s' ⟨rfl,rfl⟩
 simp[go_sem,ei]
 exact zG (i+1,P2) ⟨by show l.length - (i+1)<l.length - i;omega,⟨q,by rw[show 240*(i+1)=240*i+240 by omega];exact ai,ar⟩,aN 1 (by rw[Aq,CS];rfl)⟩
theorem UO {P:Program} {U:St} {f:FuncId} {bU args bZ:List V} {KV:V->St->Prop} {R:V->St->Prop} (hc:bK P f bZ [] R) (hb:wE P f)
  (aa:bL (cF (cz [] U.length)) bZ (args++bU)) (hK: ∀r s,R r s->KV (dy (cz [] U.length) r) (U++s.map (yF (cz [] U.length)))):iZ P c (.fn f bU) args U KV fx:=by
 refine VC.of hc hb [] Ca rfl (λi j o h=>by simp at h) aa λr s h _=> ?_
 have e:xQ [] U s=U++s.map (yF (cz [] U.length)):=by simp[xQ,fQ]
 rw[e]
 exact hK r s h
theorem Ou {P:Program} {n0:Kp} {U:St} (i:Nat) {o:Ob} {f:FuncId} {v:V} {KV:V->St->Prop} (hc:bK P f [.ptr 0 0] [o] (λr s=>r=v/\s= [o])) (hn:n0.has i) (hb:wE P f) (ho:U[i]? =some o) (cH:bP 0 o) (hv:gR v) (hk:KV v U):
  pz P c n0 1 (.fn f []) [.ptr i 0] U KV fx:=by
 refine⟨v,U, ?_,λ_=>rfl,λ_=>fY.refl,A3 _,hk⟩
 rw[afa dc,afb rfl]
 intro s hs
 have aa:s[i]? =some o:=by rw[<-ho];exact Kp.get hn hs
 refine lF (P:=P) (c:=c) (KV:=λr s'=>r=v/\s'=s) i hc hb aa cH ⟨.inl rfl,tV⟩ (λr s' h=>⟨o,h.2,cH⟩) ?_
 rintro r o2 ⟨rfl,h2⟩
 obtain rfl:o2=o:=sU h2
 obtain⟨hi,h3⟩:=A1.1 aa
 subst h3
 exact⟨xg hv,List.set_getElem_self hi⟩
theorem Ov (hS:mn n P) (hn:n<=7500) (hl:nu dz):Pure prog 21 [dS bM,.agg dz.row,.sl .ro ((dN 0 P).map oZ)] (.cm [.agg (fo (dd dz (yZ (dN 0 P))).1),.sl .ro ((l6 dz (yZ (dN 0 P))).map ff)]):=by
 obtain⟨v1,v2,v3,v4⟩:=hS.vs hn
 have aa:=NP dz hl (dN 0 P) om (λx hx=>⟨(v2 x hx).1,by have:=(v2 x hx).2.1;omega,(v2 x hx).2.2⟩) v4
 rw[Oo]at aa
 exact aa
theorem UP (P:List (List Pr)): ∃b,cw b (yZ (dN 0 P)):=by
 obtain⟨m,hT⟩:=Hm (dN 0 P)
 exact⟨_,hT.now⟩
theorem UQ (hS:mn n P) (hn:n<=7500) (hl:nu dz):(dd dz (yZ (dN 0 P))).1.2.2.length<=100000/\ ∀x∈(dd dz (yZ (dN 0 P))).1.2.2,x.rows.length<=100000/\ ∀r∈x.rows,r.length<=100000:=by
 obtain⟨m,hT⟩:=Hm (dN 0 P)
 have hlen:(yZ (dN 0 P)).length<=(yJ (dN 0 P)).length:=hT.len
 have:=hS.len
 exact xn0 hl hT.now (by show(yZ (dN 0 P)).length<=7500;omega)
theorem Kj {l:List Ln} (h:(dd dz l).1.1≠0):l6 dz l= []:=by unfold l6;rw[afb h]
theorem Ow {xs:List bQ} (h:xs.length<=12) (hs: ∀st∈xs,kg st):nu (ec xs):=⟨by show db 0;unfold db;decide,by show db 0;unfold db;decide,h,hs⟩
structure Ox (P P1 P2:List (List Pr)) (X Y B:fj) (E1 E2 E3:Int×Int×List Ot) (m n k:List (Int×List Wr)):Prop where
 r1:Pure prog 21 [dS bM,.agg X.row,.sl .ro ((dN 0 P).map oZ)] (.cm [.agg (fo E1),.sl .ro (m.map ff)])
 r2:Pure prog 21 [dS bM,.agg Y.row,.sl .ro ((dN 0 P1).map oZ)] (.cm [.agg (fo E2),.sl .ro (n.map ff)])
 r3:Pure prog 21 [dS bM,.agg B.row,.sl .ro ((dN 0 P).map oZ)] (.cm [.agg (fo E3),.sl .ro (k.map ff)])
 d1:bK prog 17 [.ptr 0 0,.sl .ro (m.map ff)] [.box (yB P)] (λr s=>r= .cm []/\s= [.box (yB P1)])
 d2:bK prog 17 [.ptr 0 0,.sl .ro (n.map ff)] [.box (yB P1)] (λr s=>r= .cm []/\s= [.box (yB P2)])
 d3:E1.1=0->E2.1=0->bK prog 17 [.ptr 0 0,.sl .ro (k.map ff)] [.box (yB P)] (λr s=>r= .cm []/\s= [.box (yB P2)])
 m0:E1.1≠0->m= []
 n0:E2.1≠0->n= []
 k0:E1.1≠0\/E2.1≠0->E3.1≠0/\k= []
 ok:E1.1=0->E2.1=0-> ∃A B,E1=(0,0,A)/\E2=(0,0,B)/\E3=(0,0,A++B)/\
  Pure prog 22 [.agg (fo (0,0,A)),.agg (fo (0,0,A))] (.bool true)/\Pure prog 22 [.agg (fo (0,0,B)),.agg (fo (0,0,B))] (.bool true)/\A.length<=100000/\B.length<=100000
 e1:P1.length=8
 e2:P2.length=8
 s2: ∀l∈P2,l.length<=10000
theorem xS2 (hS:mn n P) (hn:n<=2400) {xs ys:List bQ} (hx:xs≠ []/\xs.length<=3) (hy:ys≠ []/\ys.length<=3) (af: ∀st∈xs,kg st) (ag: ∀st∈ys,kg st):
  ∃P1 P2 E1 E2 E3 m n k,Ox P P1 P2 (ec xs) (ec ys) (ec (xs++ys)) E1 E2 E3 m n k:=by
 have hX:=Ow om af
 have hY:=Ow om ag
 have hB:=Ow (xs:=xs++ys) (by rw[Ah];omega) λst ai=>(Ar.1 ai).elim (af st) (ag st)
 obtain⟨q1,q2,aa⟩:=Ki hS om hX
 obtain⟨P1,ab⟩:=eX (mm P (l6 (ec xs) (yZ (dN 0 P))))
 rw[ab]at aa
 obtain⟨q3,q4,ad⟩:=Ki aa om hY
 obtain⟨P2,ae⟩:=eX (mm P1 (l6 (ec ys) (yZ (dN 0 P1))))
 rw[ae]at ad
 obtain⟨q5,q6,ak⟩:=Ki hS om hB
 have d1:=Kg P hS.eight (hS.small om) _ q1 q2
 have d2:=Kg P1 aa.eight (aa.small om) _ q3 q4
 have d3:=Kg P hS.eight (hS.small om) _ q5 q6
 rw[ab]at d1
 rw[ae]at d2
 have hT:=hS.tl
 have ah:=aa.tl
 obtain⟨b,hb⟩:=UP P
 obtain⟨b1,aj⟩:=UP P1
 obtain⟨t1,t2⟩:=xH1 hx hy (yZ (dN 0 P))
 have hw:(dd (ec xs) (yZ (dN 0 P))).1.1=0->yZ (dN 0 P1)=(dd (ec xs) (yZ (dN 0 P))).2:=λh=>by
  have:=hT.step hb hX h
  rw[ab]at this
  exact ah.uniq this
 have al:(dd (ec xs) (yZ (dN 0 P))).1.1≠0->P1=P:=λh=>by rw[<-ab,Kj h];rfl
 have o1:=UQ hS om hX
 have o2:=UQ aa om hY
 refine⟨P1,P2,_,_,_,_,_,_,Ov hS om hX,Ov aa om hY,Ov hS om hB,d1,d2,λe1 e2=> ?_,Kj,Kj,λh=> ?_,λe1 e2=> ?_,aa.eight,ad.eight,ad.small om⟩
 .have h3:(dd (ec (xs++ys)) (yZ (dN 0 P))).1.1=0:=t1.2 ⟨e1,by rw[<-hw e1];exact e2⟩
  have a1:=hT.step hb hB h3
  have a2:=ah.step aj hY e2
  obtain⟨A,B,_,_,e3⟩:=t2 h3
  rw[e3]at a1
  rw[ae,hw e1]at a2
  rw[a1.same a2]at d3
  exact d3
 .have h3:(dd (ec (xs++ys)) (yZ (dN 0 P))).1.1≠0:=λh3=>by
   obtain⟨g1,g2⟩:=t1.1 h3
   rcases h with h|h
   .exact h g1
   .exact h (by rw[hw g1];exact g2)
  exact⟨h3,Kj h3⟩
 .have h3:(dd (ec (xs++ys)) (yZ (dN 0 P))).1.1=0:=t1.2 ⟨e1,by rw[<-hw e1];exact e2⟩
  obtain⟨A,B,f1,f2,f3⟩:=t2 h3
  rw[<-hw e1]at f2
  rw[f1]at o1
  rw[f2]at o2
  exact⟨A,B,f1,f2,by rw[f3],T7 0 0 A o1.1 o1.2,T7 0 0 B o2.1 o2.2,o1.1,o2.1⟩
theorem wg3 {A B:Prop} (a:A) (f:A->B):B:=f a
theorem xl1 (l:List (List dR)) (cH: ∀x∈l,x.length<=maxLen/\ ∀a∈x,a.ok) (la lb:List dR) (aB:la.length<=maxLen) (aC:lb.length<=maxLen) (ae: ∀a∈la,a.ok) (af: ∀a∈lb,a.ok):Pure prog 6 [.sl .ro (l.map Kh),.sl .ro (la.map dR.row),.sl .ro (lb.map dR.row)] (.bool true):=by
 have ai:=xk0
 have ay:=On
 have an:=Oh la aB ae
 have ao:=Oh lb aC af
 have aj:=Ke ae
 have ak:=Ke af
 obtain⟨xs,aD,aE,_,aq⟩:=UK UL ae
 obtain⟨ys,aF,aG,_,hyp⟩:=UK UL af
 obtain⟨tx,az⟩:=eX (sN la)
 obtain⟨ty,a1⟩:=eX (sN lb)
 rw[az]at an aj aq
 rw[a1]at ao ak hyp
 have ar:=Ji tx (An aj dc)
 have au:=Ji ty (An ak dc)
 have av:=Jj tx
 have aw:=Jj ty
 rw[aq]at ar av
 rw[hyp]at au aw
 have a6: ∀st∈xs,kg st:=av.stmts.2
 have a7: ∀st∈ys,kg st:=aw.stmts.2
 clear aq hyp az a1 av aw
 refine iV 0 func6 ntmps6 results6 λc hc hb=> ?_
 refine zA ?_
 simp[go_sem]
 refine pC ai ?_
 simp[go_sem]
 by_cases aR:l.length<=10
 rotate_left
 .have q:10<(l.length:Int):=om
  simp[go_sem,q]
  exact wR
 have q: ¬10<(l.length:Int):=om
 have ax:=xR5 l om cH
 simp[go_sem,q]
 refine pC ay ?_
 simp[go_sem,dS]
 refine UO ax cB ⟨zK,tV⟩ ?_
 rintro r s ⟨rfl,P,⟨hS,hP⟩,rfl⟩
 have aa: ∀(P:List (List Pr)) k,bP k (.box (yB P))=true:=λP k=>CS k P
 have e0: ∀k (P:List (List Pr)),yF (cz [] k) (.box (yB P))= .box (yB P):=λk P=>xH (n:=0) (λ_ h=>absurd h (Nat.not_lt_zero _)) (aa P 0)
 obtain⟨P1,P2,E1,E2,E3,m,n,k,r1,r2,r3,d1,d2,d3,m0,n0,k0,hE,g1,g2,g3⟩:=xS2 hS om ⟨aD,aE⟩ ⟨aF,aG⟩ a6 a7
 obtain⟨e1,i1,o1⟩:=E1
 obtain⟨e2,i2,o2⟩:=E2
 obtain⟨e3,i3,o3⟩:=E3
 simp only at m0 n0 k0 d3 hE
 have al:=Om P hS.eight
 have a8:=Om P1 g1
 have aH:cz [] 1 0=1:=rfl
 have aI:cz [] 2 0=2:=rfl
 simp[go_sem,e0,aH]
 refine UO ax cB ⟨zK,tV⟩ ?_
 rintro r s ⟨rfl,P',⟨_,aA⟩,rfl⟩
 rw[<-hP]at aA
 have aJ:P=P':=aA.symm
 subst aJ
 simp[go_sem,e0,aI]
 refine pC an ?_
 simp[go_sem]
 refine pC ar ?_
 simp[go_sem]
 refine pC ao ?_
 simp[go_sem]
 refine pC au ?_
 simp[go_sem]
 clear cH ax ay ai an ao ar au ae af a6 a7
 refine yV [(3,1),(4,0)] 5 rfl kR kR ?_
 simp[go_sem]
 refine Ou 1 al rfl cB rfl (aa P 0) rfl ?_
 simp[go_sem]
 refine pD r1 ?_
 simp[go_sem,fo]
 refine lF 1 d1 cB rfl (aa P 0) ⟨.inl rfl,zK,tV⟩ (by rintro r s ⟨rfl,rfl⟩;exact⟨_,rfl,aa P1 0⟩) ?_
 rintro r ob ⟨rfl,h2⟩
 obtain rfl:ob= .box (yB P1):=sU h2
 simp[go_sem]
 refine yV [(3,1),(4,0)] 6 rfl kR kR ?_
 simp[go_sem]
 refine Ou 1 a8 rfl cB rfl (aa P1 0) rfl ?_
 simp[go_sem]
 refine pD r2 ?_
 simp[go_sem,fo]
 refine lF 1 d2 cB rfl (aa P1 0) ⟨.inl rfl,zK,tV⟩ (by rintro r s ⟨rfl,rfl⟩;exact⟨_,rfl,aa P2 0⟩) ?_
 rintro r ob ⟨rfl,h2⟩
 obtain rfl:ob= .box (yB P2):=sU h2
 simp[go_sem]
 have aK:(ec (xs++ys)).row= [.int .i64 0,.int .i64 0,.sl .ro (xs.map bQ.row++ys.map bQ.row)]:=by
  show [V.int .i64 0,V.int .i64 0,V.sl .ro ((xs++ys).map bQ.row)]=_
  rw[Cr]
 rw[aK]at r3
 have u1:e1≠0->m= []:=m0
 have u2:e2≠0->n= []:=n0
 obtain⟨s7,ab⟩: ∃s7:St,[Ob.box [V.sl .ro xZ,V.sl .ro (bM.map bI.row)],Ob.box (yB P2),Ob.box (yB P),Ob.box [V.int .i64 0,V.int .i64 0,V.sl .ro (xs.map bQ.row)],Ob.box [V.int .i64 0,V.int .i64 0,V.sl .ro (ys.map bQ.row)],Ob.box [V.int .i64 e1,V.int .i64 i1,V.sl .ro (o1.map Ot.row)],Ob.box [V.int .i64 e2,V.int .i64 i2,V.sl .ro (o2.map Ot.row)]]=s7:=⟨_,rfl⟩
 have l7:s7.all (bP 7):=by
  rw[<-ab]
  simp only[Aq,D6,aa];rfl
 have n7:s7.length=7:=by rw[<-ab];rfl
 have fin: ∀{e:Env} {y:Code} {Q:QT},[7,8,9,10,11,12,14].map e= [.ptr 0 0,.ptr 1 0,.ptr 2 0,.ptr 3 0,.ptr 4 0,.ptr 5 0,.ptr 6 0]->fw prog c 216 y Q fx fx (kM ([7,8,9,10,11,12,14].zip [.ptr 0 0,.ptr 1 0,.ptr 2 0,.ptr 3 0,.ptr 4 0,.ptr 5 0,.ptr 6 0])) s7->fw prog c 216 y Q fx fx e s7:=λh k=>Yq 0 hc hb (ca 7 (Aj om) n7 l7 dc (zD h.symm rfl)) k
 apply wg3
 case f=>
  intro key
  refine(A4 (e1 !=0)).elim (λw1=> ?_) (λw1=> ?_)<;>refine(A4 (e2 !=0)).elim (λw2=> ?_) (λw2=> ?_)
  .simp[go_sem,w1,w2,u1 (sU w1),u2 (sU w2)]
   rw[ab]
   refine fin ?_ key
   simp[go_sem]
  .simp[go_sem,w1,w2,u1 (sU w1)]
   rw[ab]
   refine fin ?_ key
   simp[go_sem]
  .simp[go_sem,w1,w2,u2 (sU w2)]
   rw[ab]
   refine fin ?_ key
   simp[go_sem]
  .simp[go_sem,w1,w2]
   rw[ab]
   refine fin ?_ key
   simp[go_sem]
 rw[<-ab]
 simp[go_sem]
 refine Yr [(3,3),(6,3)] 7 (k1:=3) (k2:=6) (p:=8) (z:= [.int .i64 0,.int .i64 0,.sl .full []]) sm kR (by rw[hc];exact A5 _) hb (by simp only[Bl,Cy];exact rfl) (by simp only[Br,Az,Nat.reduceSub,Bl,Cy];exact rfl) (by simp only[Br,Az,Nat.reduceSub,Bl,Cy];exact rfl) (by simp only[Br,Az];exact rfl) rfl rfl rfl kR kR (by rw[ab,n7];exact l7) (by repeat' (first|exact jS.jC|refine jS.dK ?_ (by simp[fW,j6,cK,cG]))) ?_
 simp[go_sem]
 refine⟨by repeat' (first|exact jS.jC|refine jS.dK ?_ (by simp[fW,j6,cK,cG])), ?_⟩
 refine zI ⟨om,(λr hr=>by cases hr),AT λ_=>rfl⟩ ?_
 simp[go_sem]
 refine⟨by repeat' (first|exact yb.own (by repeat' (first|exact jS.jC|refine jS.dK ?_ (by simp[fW,j6,cK,cG])))|refine yb.dK ?_ (by simp[fW,j6,cK,cG])), ?_⟩
 refine zI ⟨om,AT λ_=>rfl⟩ ?_
 simp[go_sem]
 refine yV [(3,1),(4,0)] 9 rfl kR kR ?_
 simp[go_sem]
 refine Ou 2 al rfl cB rfl (aa P 0) rfl ?_
 simp[go_sem]
 refine qo r3 cB (λ_=>⟨zC rfl,xx ⟨zU rfl,zU rfl,yX,tV⟩,zK,tV⟩) rfl ?_
 simp[go_sem,fo]
 have u3:e1≠0\/e2≠0->e3≠0/\k= []:=k0
 refine(A4 (e1 !=0)).elim (λw1=> ?_) (λw1=> ?_)
 .obtain⟨h3,h4⟩:=u3 (.inl (sU w1))
  have w3:(e3 !=0)=true:=sU h3
  simp[go_sem,w1,w3,h4]
  exact wR
 refine(A4 (e2 !=0)).elim (λw2=> ?_) (λw2=> ?_)
 .obtain⟨h3,h4⟩:=u3 (.inr (sU w2))
  have w3:(e3 !=0)=true:=sU h3
  simp[go_sem,w1,w2,w3,h4]
  exact wR
 simp[go_sem,w1,w2]
 obtain⟨A,B,hA,aL,hC,sa,sb,aS,aT⟩:=hE (sU w1) (sU w2)
 have d4:=d3 (sU w1) (sU w2)
 refine lF 2 d4 cB rfl (aa P 0) ⟨.inl rfl,zK,tV⟩ (by rintro r s ⟨rfl,rfl⟩;exact⟨_,rfl,aa P2 0⟩) ?_
 rintro r ob ⟨rfl,h3⟩
 obtain rfl:ob= .box (yB P2):=sU h3
 clear hE d3 d4 d1 d2 r1 r2 r3 fin l7 n7 ab u1 u2 u3 m0 n0 k0
 obtain⟨rfl,rfl,rfl⟩:e1=0/\i1=0/\o1=A:=sU hA
 obtain⟨rfl,rfl,rfl⟩:e2=0/\i2=0/\o2=B:=sU aL
 obtain⟨rfl,rfl,rfl⟩:e3=0/\i3=0/\o3=o1++o2:=sU hC
 simp[go_sem]
 obtain⟨s5,h5⟩: ∃s5:St,[Ob.box (yB P2),Ob.box (yB P2),Ob.box [V.int .i64 0,V.int .i64 0,V.sl .ro (o1.map Ot.row)],Ob.box [V.int .i64 0,V.int .i64 0,V.sl .ro (o2.map Ot.row)],Ob.box [V.int .i64 0,V.int .i64 0,V.sl .ro (o1.map Ot.row++o2.map Ot.row)]]=s5:=⟨_,rfl⟩
 have l5:s5.all (bP 5):=by
  rw[<-h5]
  simp only[Aq,D6,aa];rfl
 refine zH (S:=Nat) [8,9,12,14,17,19] (λi=> [.ptr 0 0,.ptr 1 0,.ptr 2 0,.ptr 3 0,.ptr 4 0,.int .i64 i]) (λ_=>s5) (λi=>8 - i) (λi=>i<=8) hc hb 0 (A5 _) ?_ ?_
 .have e5: ∀k,yF (cz [1,2,5,6,9] k) (.box (yB P2))= .box (yB P2):=λk=>xH (n:=0) (λ_ h=>absurd h (Nat.not_lt_zero _)) (aa P2 0)
  rw[<-h5]
  exact AQ [1,2,5,6,9] dc rfl ⟨aff some (e5 _).symm,aff some (e5 _).symm,rfl,rfl,rfl,tV⟩ ⟨.inl rfl,.inl rfl,.inl rfl,.inl rfl,.inl rfl,.inl rfl,tV⟩
 intro i hi
 rw[<-h5]
 by_cases q:i<8
 rotate_left
 .refine zA ?_
  have g8: ¬(i:Int)<8:=om
  have es:IntKind.i64.wrap ((o1.length:Int)+(o2.length:Int))=(o1.length:Int)+(o2.length:Int):=bR om om
  simp[go_sem,g8]
  refine yV [(25,0),(36,0)] 5 rfl kR kR ?_
  simp[go_sem,es]
  have eu:eS 2 (o1.map Ot.row++o2.map Ot.row):=by rw[<-Cr];exact AT λ_=>rfl
  refine zI ⟨om,eu⟩ ?_
  simp[go_sem]
  refine pD sa ?_
  simp[go_sem]
  refine zI ⟨om,eu⟩ ?_
  have ed:List.drop o1.length (List.take ((o1.length:Int)+(o2.length:Int)).toNat (o1.map Ot.row++o2.map Ot.row))=o2.map Ot.row:=by
   rw[Aj (by simp only[Ah,Bb];omega)]
   exact List.drop_left' sm
  simp[go_sem,ed]
  refine pD sb ?_
  simp[go_sem]
  exact wR
 obtain⟨p,hp⟩:=eX (P2[i])
 have aP:i<P2.length:=om
 have ad:(yB P2)[i]? =some (.sl .ro (p.map ic)):=by rw[Ol aP,hp]
 have ag:(yB P2).length=8:=by rw[Kf,g2]
 have ah:(yB P2)[i]'om= .sl .ro (p.map ic):=by
  have:=ad
  rw[A0 om]at this
  exact afp this
 have g8:(i:Int)<8:=om
 have aU:=g3 p (hp▸Aa _)
 have ei:=zR q om
 refine zO (zA ?_)
 simp[go_sem,g8]
 refine zO (qp ?_)
 repeat refine zO ?_
 refine yV [] 5 rfl kR kR ?_
 simp[go_sem,ah,ag,g8,q]
 refine zA ?_
 simp[go_sem]
 refine zO (zA ?_)
 simp[go_sem]
 refine qp ?_
 rw[h5]
 refine zH (S:=Nat) [8,9,12,14,17,19,20] (λj=> [.ptr 0 0,.ptr 1 0,.ptr 2 0,.ptr 3 0,.ptr 4 0,.int .i64 i,.int .i64 j]) (λ_=>s5) (λj=>p.length - j) (λj=>j<=p.length) hc hb 0 (A5 _) ?_ ?_
 .exact ca 5 (Aj (by rw[<-h5];exact A3 _)) (by rw[<-h5];rfl) l5 dc (zD sg rfl)
 intro j hj
 rw[<-h5]
 by_cases qj:j<p.length
 rotate_left
 .refine zA ?_
  simp[go_sem,ah,ag,g8,q,qj]
  refine zA ?_
  simp[go_sem,ei]
  exact zG (i+1) ⟨om,om,ca 5 (Aj (by exact A3 _)) rfl (h5▸l5) dc (zD sg rfl)⟩
 have ej:=zR qj om
 refine zO (zA ?_)
 simp[go_sem,ah,ag,g8,q,qj]
 refine zO (qp ?_)
 repeat refine zO ?_
 refine yV [] 5 rfl kR kR ?_
 obtain⟨⟨a,d⟩,aQ⟩: ∃x,p[j]=x:=⟨_,rfl⟩
 simp[go_sem,ah,ag,g8,q,qj,aQ,ic]
 refine zA ?_
 simp[go_sem]
 refine zA ?_
 simp[go_sem,ej]
 exact zG (j+1) ⟨om,om,ca 5 (Aj (by exact A3 _)) rfl (h5▸l5) dc (zD sg rfl)⟩
end Go.Proofs.YtefbicjgbaaieaaGreat
