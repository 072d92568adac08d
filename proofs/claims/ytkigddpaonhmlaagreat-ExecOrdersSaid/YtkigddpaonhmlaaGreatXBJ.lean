/-
  sort.SliceStable over the rows that a SELECT meets: they stand in the stable order of a column; used by the walk of exec.choose.
  Conditions: as the theorem states them.
-/
import Derived.Test.YtkigddpaonhmlaaGreatXBI
import Derived.Test.YtkigddpaonhmlaaGreatXBE
import Derived.Test.YtkigddpaonhmlaaGreatXBD
import Derived.Test.YtkigddpaonhmlaaGreatXBF
import Derived.Test.YtkigddpaonhmlaaGreatXAQ
set_option maxHeartbeats 8000000
namespace Go.Proofs.YtkigddpaonhmlaaGreat
open Go Go.Vx Go.Proofs.Tryz
set_option maxRecDepth 100000
section
variable {lt:Nat->Nat->Bool}
theorem xV5 (o:Ord lt) {x h a:Nat} (t:TO lt x h) (g:lt h a=true):lt x a=true:=by
 rcases t with t|⟨t,_⟩
 .exact o.tr _ _ _ t g
 .cases q:lt x a with
  |true=>rfl
  |false=>have:=o.nt _ _ _ t q;rw[g]at this;cases this
theorem xQ4 (o:Ord lt) {x h a:Nat} (t:TO lt h x) (g:lt h a=false):lt x a=false:=by
 cases q:lt x a with
 |false=>rfl
 |true=>
  rcases t with t|⟨t,_⟩
  .have:=o.tr _ _ _ t q;rw[g]at this;cases this
  .have:=o.nt _ _ _ t g;rw[q]at this;cases this
theorem xX1 (o:Ord lt) {x h a:Nat} (t:TO lt h x) (g:lt a h=true):lt a x=true:=by
 rcases t with t|⟨t,_⟩
 .exact o.tr _ _ _ g t
 .cases q:lt a x with
  |true=>rfl
  |false=>have:=o.nt _ _ _ q t;rw[g]at this;cases this
theorem xS7 (o:Ord lt) {x h a:Nat} (t:TO lt x h) (g:lt a h=false):lt a x=false:=by
 cases q:lt a x with
 |false=>rfl
 |true=>
  rcases t with t|⟨t,_⟩
  .have:=o.tr _ _ _ q t;rw[g]at this;cases this
  .have:=o.nt _ _ _ g t;rw[q]at this;cases this
end
theorem yu9 {i j:Nat} (h:i+j<4000000000):IntKind.i64.wrap ((IntKind.u64.wrap (IntKind.i64.wrap ((i:Int)+j))).fdiv 2)=(((i+j)/2:Nat):Int):=by
 have e1:IntKind.i64.wrap ((i:Int)+j)=(i:Int)+j:=i64_id (by omega) (by omega)
 have e2:IntKind.u64.wrap ((i:Int)+j)=(i:Int)+j:=u64_id (by omega) (by omega)
 rw[e1,e2,Co _ (by omega),i64_id (by omega) (by omega)]
 omega
section
variable {gl gs:FuncId} {cl cs:List V} {σ0:St} {id s n:Nat} {row:Nat->List V} {lt:Nat->Nat->Bool}
theorem ym3 (S:SC prog gl gs cl cs σ0 id s n row lt) (o:Ord lt) (f:Nat->Nat) (a m b:Nat) (h1:a<m) (h2:m<b) (h3:b<=n) (hs1:Srt lt f a m) (hs2:Srt lt f m b) (hgrp:Grp f a m b)
  (ih: ∀f a' m b',b' - a'<b - a->a'<m->m<b'->b'<=n->Srt lt f a' m->Srt lt f m b'->Grp f a' m b'->VCalls prog 199 [.agg [.fn gl cl,.fn gs cs],.int .i64 (a':Nat),.int .i64 (m:Nat),.int .i64 (b':Nat)] (lsF σ0 id s n row f) (fun r t=>r= .tup []/\ ∃g,t=lsF σ0 id s n row g/\Mrg lt f g a' b')):
  VCalls prog 199 [.agg [.fn gl cl,.fn gs cs],.int .i64 a,.int .i64 m,.int .i64 b] (lsF σ0 id s n row f) (fun r t=>r= .tup []/\ ∃g,t=lsF σ0 id s n row g/\Mrg lt f g a b):=by
 have hn:=S.nn
 refine VCalls.introV (lsF σ0 id s n row f).length func199 ntmps199 results199 rfl rfl (Cy rfl) fun c hc hb=> ?_
 have hl: ∀g,(lsF σ0 id s n row g).length=σ0.length:=fun g=>zx0 ..
 have hd:=yv7 (σ0:=σ0) (id:=id) (s:=s) (n:=n) (row:=row) (gl:=gl) (gs:=gs) (cl:=cl) (cs:=cs)
 have e1:IntKind.i64.wrap ((m:Int) - a)=((m - a:Nat):Int):=by rw[i64_id (by omega) (by omega)];omega
 have e2:IntKind.i64.wrap ((b:Int) - m)=((b - m:Nat):Int):=by rw[i64_id (by omega) (by omega)];omega
 by_cases c1:m - a=1
 .have c1':(((m - a:Nat):Int)==1)=true:=by simp;omega
  refine zA ?_
  simp[go_sem,hl,e1,c1']
  refine zL (S:=Nat×Nat) [1,2,3,4,8,9] (fun u=> [.int .i64 a,.int .i64 m,.int .i64 b,.ptr σ0.length 0,.int .i64 u.1,.int .i64 u.2]) (fun _=>lsF σ0 id s n row f++ [datB gl gs cl cs]) (fun u=>u.2 - u.1)
   (fun u=>m<=u.1/\u.1<=u.2/\u.2<=b/\(∀x,m<=x->x<u.1->lt (f x) (f a)=true)/\ ∀x,u.2<=x->x<b->lt (f x) (f a)=false) (hc.trans (hl f)) hb (m,b) ⟨A2 _,by show m<=b;omega,A2 _,fun x q1 q2=>by omega,fun x q1 q2=>by omega⟩ ?_ ?_
  .exact yB (by simp[hl]) (by simp[go_sem])
  rintro⟨i,j⟩ ⟨hi,hij,hj,hL,hR⟩
  simp only at hi hij hj hL hR
  by_cases q:i<j
  .obtain⟨h,hh⟩:=eX ((i+j)/2)
   have eh:=yu9 (i:=i) (j:=j) (by omega)
   rw[hh]at eh
   have ei:=zV (show h<j by omega) (by omega)
   have hle:=fun K=>S.less c [datB gl gs cl cs] f h a K (by omega) (by omega) (by omega)
   refine zA ?_
   simp[go_sem,q,hd,eh]
   refine hle _ ?_
   cases hb1:lt (f h) (f a)with
   |true=>
    simp[go_sem,ei]
    exact zI (h+1,j) ⟨by show j - (h+1)<j - i;omega,⟨by show m<=h+1;omega,by show h+1<=j;omega,hj,fun x q1 q2=>by
     by_cases c2:x=h
     .rw[c2];exact hb1
     .exact xV5 o (hs2 x h q1 (by have:x<h+1:=q2;omega) (by omega)) hb1,hR⟩,yB (by simp[hl]) (by simp[go_sem])⟩
   |false=>
    simp[go_sem]
    exact zI (i,h) ⟨by show h - i<j - i;omega,⟨hi,by show i<=h;omega,by show h<=b;omega,hL,fun x q1 q2=>by
     by_cases c2:x=h
     .rw[c2];exact hb1
     .exact xQ4 o (hs2 h x (by omega) (by have:h<=x:=q1;omega) q2) hb1⟩,yB (by simp[hl]) (by simp[go_sem])⟩
  .have e3:IntKind.i64.wrap ((i:Int) - 1)=((i - 1:Nat):Int):=by rw[i64_id (by omega) (by omega)];omega
   have hij':i=j:=by omega
   have hma:m=a+1:=by omega
   refine zA ?_
   simp[go_sem,q]
   refine zL (S:=Nat) [1,2,3,4,8,11] (fun k=> [.int .i64 a,.int .i64 m,.int .i64 b,.ptr σ0.length 0,.int .i64 i,.int .i64 k]) (fun k=>lsF σ0 id s n row (rotF f a (a+1) (k+1))++ [datB gl gs cl cs]) (fun k=>i - k)
    (fun k=>a<=k/\k+1<=i) (hc.trans (hl f)) hb a ⟨A2 _,by omega⟩ ?_ ?_
   .rw[yI4]
    exact yB (by simp[hl]) (by simp[go_sem])
   rintro k ⟨k1,k2⟩
   by_cases q2:k<i - 1
   .have q2':(k:Int)<((i - 1:Nat):Int):=by omega
    have ek:IntKind.i64.wrap ((k:Int)+1)=((k+1:Nat):Int):=by rw[i64_id (by omega) (by omega)];omega
    have hsw:=fun K=>S.swap c [datB gl gs cl cs] (rotF f a (a+1) (k+1)) k (k+1) K (by omega) (by omega) (by omega)
    rw[xW8 f k1]at hsw
    refine zA ?_
    simp[go_sem,e3,q2,hd,ek]
    refine hsw _ ?_
    simp[go_sem,ek]
    exact zI (k+1) ⟨by omega,⟨by omega,by omega⟩,yB (by simp[hl]) (by simp[go_sem])⟩
   .have q2': ¬(k:Int)<((i - 1:Nat):Int):=by omega
    have hk:k+1=i:=by omega
    refine zA ?_
    simp[go_sem,e3,q2]
    refine xJ σ0.length (Cs (hl _)) (hl _) (S.lt_ok _) (Cg (hl f)) (zC rfl) ⟨rfl,_,rfl, ?_, ?_⟩
    .rw[hk]
     exact(Mv.rot f (by omega) (by omega)).mono (A2 _) (by omega)
    .rw[hk]
     rw[hma]at hs2 hL
     refine xF5 hs2 (by omega) (by omega) (fun x x1 x2=> .inl (hL x x1 x2)) (fun x x1 x2=> ?_)
     exact(TO.fore o (hgrp a x (A2 _) h1 (by omega) x2)).2 (hR x (by omega) x2)
 .have c1':(((m - a:Nat):Int)==1)=false:=by simp;omega
  refine zS (zA ?_)
  simp[go_sem,hl]
  refine zS (zA ?_)
  simp[go_sem,e1,c1']
  by_cases c2:b - m=1
  .have c2':(((b - m:Nat):Int)==1)=true:=by simp;omega
   have hbm:b=m+1:=by omega
   refine zA ?_
   simp[go_sem,e2,c2']
   refine zL (S:=Nat×Nat) [1,2,3,4,12,13] (fun u=> [.int .i64 a,.int .i64 m,.int .i64 b,.ptr σ0.length 0,.int .i64 u.1,.int .i64 u.2]) (fun _=>lsF σ0 id s n row f++ [datB gl gs cl cs]) (fun u=>u.2 - u.1)
    (fun u=>a<=u.1/\u.1<=u.2/\u.2<=m/\(∀x,a<=x->x<u.1->lt (f m) (f x)=false)/\ ∀x,u.2<=x->x<m->lt (f m) (f x)=true) (hc.trans (hl f)) hb (a,m) ⟨A2 _,by show a<=m;omega,A2 _,fun x q1 q2=>by omega,fun x q1 q2=>by omega⟩ ?_ ?_
   .exact yB (by simp[hl]) (by simp[go_sem])
   rintro⟨i,j⟩ ⟨hi,hij,hj,hL,hR⟩
   simp only at hi hij hj hL hR
   by_cases q:i<j
   .obtain⟨h,hh⟩:=eX ((i+j)/2)
    have eh:=yu9 (i:=i) (j:=j) (by omega)
    rw[hh]at eh
    have ei:=zV (show h<j by omega) (by omega)
    have hle:=fun K=>S.less c [datB gl gs cl cs] f m h K (by omega) (by omega) (by omega)
    refine zA ?_
    simp[go_sem,q,hd,eh]
    refine hle _ ?_
    cases hb1:lt (f m) (f h)with
    |false=>
     simp[go_sem,ei]
     exact zI (h+1,j) ⟨by show j - (h+1)<j - i;omega,⟨by show a<=h+1;omega,by show h+1<=j;omega,hj,fun x q1 q2=>by
      by_cases c2:x=h
      .rw[c2];exact hb1
      .exact xS7 o (hs1 x h q1 (by have:x<h+1:=q2;omega) (by omega)) hb1,hR⟩,yB (by simp[hl]) (by simp[go_sem])⟩
    |true=>
     simp[go_sem]
     exact zI (i,h) ⟨by show h - i<j - i;omega,⟨hi,by show i<=h;omega,by show h<=m;omega,hL,fun x q1 q2=>by
      by_cases c2:x=h
      .rw[c2];exact hb1
      .exact xX1 o (hs1 h x (by omega) (by have:h<=x:=q1;omega) q2) hb1⟩,yB (by simp[hl]) (by simp[go_sem])⟩
   .have hij':i=j:=by omega
    refine zA ?_
    simp[go_sem,q]
    refine zL (S:=Nat) [1,2,3,4,12,15] (fun k=> [.int .i64 a,.int .i64 m,.int .i64 b,.ptr σ0.length 0,.int .i64 i,.int .i64 k]) (fun k=>lsF σ0 id s n row (rotF f k m (m+1))++ [datB gl gs cl cs]) (fun k=>k)
     (fun k=>i<=k/\k<=m) (hc.trans (hl f)) hb m ⟨by omega,A2 _⟩ ?_ ?_
    .rw[yi0]
     exact yB (by simp[hl]) (by simp[go_sem])
    rintro k ⟨k1,k2⟩
    by_cases q2:i<k
    .have ek:IntKind.i64.wrap ((k:Int) - 1)=((k - 1:Nat):Int):=by rw[i64_id (by omega) (by omega)];omega
     have hsw:=fun K=>S.swap c [datB gl gs cl cs] (rotF f k m (m+1)) k (k - 1) K (by omega) (by omega) (by omega)
     rw[xM4 f k2 (by omega)]at hsw
     refine zA ?_
     simp[go_sem,q2,hd,ek]
     refine hsw _ ?_
     simp[go_sem,ek]
     exact zI (k - 1) ⟨by omega,⟨by omega,by omega⟩,yB (by simp[hl]) (by simp[go_sem])⟩
    .have hk:k=i:=by omega
     refine zA ?_
     simp[go_sem,q2]
     refine xJ σ0.length (Cs (hl _)) (hl _) (S.lt_ok _) (Cg (hl f)) (zC rfl) ⟨rfl,_,rfl, ?_, ?_⟩
     .rw[hk]
      exact(Mv.rot f (by omega) (by omega)).mono hi (by omega)
     .rw[hk,hbm]
      refine yY1 hs1 hi (by omega) (fun x x1 x2=> ?_) (fun x x1 x2=> .inl (hR x (by omega) x2))
      exact(TO.fore o (hgrp x m x1 (by omega) (A2 _) h2)).2 (hL x x1 x2)
  .have c2':(((b - m:Nat):Int)==1)=false:=by simp;omega
   refine zS (zA ?_)
   simp[go_sem,e2,c2']
   obtain⟨mid,hmid⟩:=eX ((a+b)/2)
   have eh:=yu9 (i:=a) (j:=b) (by omega)
   rw[hmid]at eh
   have en:IntKind.i64.wrap ((mid:Int)+m)=(mid:Int)+m:=i64_id (by omega) (by omega)
   refine zS (zA ?_)
   simp[go_sem,eh]
   refine zS (zA ?_)
   simp[go_sem,en]
   refine zS (zA ?_)
   simp[go_sem]
   obtain⟨lo,hlo⟩:=eX ((if mid<m then mid+m - b else a))
   obtain⟨hi,hhi⟩:=eX ((if mid<m then mid else m))
   have hb2:mid*2<=a+b/\a+b<=mid*2+1:=by omega
   have hlh:a<=lo/\lo<=hi/\hi<=m/\hi<=mid/\mid+m<=lo+b:=by
    split at hlo<;>split at hhi<;>omega
   obtain⟨l1,l2,l3,l4,l5⟩:=hlh
   refine zc0 (S:=Unit) [1,2,3,4,16,17,18,19] (fun _=> [.int .i64 a,.int .i64 m,.int .i64 b,.ptr σ0.length 0,.int .i64 mid,.int .i64 ((mid:Int)+m),.int .i64 lo,.int .i64 hi]) (fun _=>lsF σ0 id s n row f++ [datB gl gs cl cs]) (fun _=>True) (hc.trans (hl f)) hb ?_ ?_
   .by_cases c3:mid<m
    .rw[if_pos c3]at hlo hhi
     have e4:IntKind.i64.wrap ((mid:Int)+m - b)=(lo:Int):=by rw[i64_id (by omega) (by omega)];omega
     refine zA ?_
     simp[go_sem,c3,e4]
     exact zI () ⟨trivial,yB (by simp[hl]) (by simp[go_sem,hhi])⟩
    .rw[if_neg c3]at hlo hhi
     refine zA ?_
     simp[go_sem,c3]
     exact zI () ⟨trivial,yB (by simp[hl]) (by simp[go_sem,hlo,hhi])⟩
   rintro _ _
   obtain⟨p,hp⟩:=eX (mid+m - 1)
   have e5:IntKind.i64.wrap ((mid:Int)+m - 1)=(p:Int):=by rw[i64_id (by omega) (by omega)];omega
   refine zS (zA ?_)
   simp[go_sem,e5]
   refine zS (zA ?_)
   simp[go_sem]
   refine zL (S:=Nat×Nat) [1,2,3,4,16,17,18,19,20] (fun u=> [.int .i64 a,.int .i64 m,.int .i64 b,.ptr σ0.length 0,.int .i64 mid,.int .i64 ((mid:Int)+m),.int .i64 u.1,.int .i64 u.2,.int .i64 p]) (fun _=>lsF σ0 id s n row f++ [datB gl gs cl cs]) (fun u=>u.2 - u.1)
    (fun u=>lo<=u.1/\u.1<=u.2/\u.2<=hi/\(∀x,lo<=x->x<u.1->TO lt (f x) (f (p - x)))/\ ∀x,u.2<=x->x<hi->TO lt (f (p - x)) (f x)) (hc.trans (hl f)) hb (lo,hi) ⟨A2 _,l2,A2 _,fun x q1 q2=>by omega,fun x q1 q2=>by omega⟩ ?_ ?_
   .exact yB (by simp[hl]) (by simp[go_sem])
   rintro⟨i,j⟩ ⟨hi1,hij,hj,hL,hR⟩
   simp only at hi1 hij hj hL hR
   by_cases q:i<j
   .obtain⟨h,hh⟩:=eX ((i+j)/2)
    have eh:=yu9 (i:=i) (j:=j) (by omega)
    rw[hh]at eh
    have ei:=zV (show h<j by omega) (by omega)
    have e6:IntKind.i64.wrap ((p:Int) - h)=((p - h:Nat):Int):=by rw[i64_id (by omega) (by omega)];omega
    have hle:=fun K=>S.less c [datB gl gs cl cs] f (p - h) h K (by omega) (by omega) (by omega)
    refine zA ?_
    simp[go_sem,q,hd,eh,e6]
    refine hle _ ?_
    cases hb1:lt (f (p - h)) (f h)with
    |false=>
     simp[go_sem,ei]
     exact zI (h+1,j) ⟨by show j - (h+1)<j - i;omega,⟨by show lo<=h+1;omega,by show h+1<=j;omega,hj,fun x q1 q2=>by
      have q2:x<h+1:=q2
      have t1:TO lt (f h) (f (p - h)):=(TO.fore o (hgrp h (p - h) (by omega) (by omega) (by omega) (by omega))).2 hb1
      by_cases c2:x=h
      .rw[c2];exact t1
      .exact((hs1 x h (by omega) (by omega) (by omega)).trans o t1).trans o (hs2 (p - h) (p - x) (by omega) (by omega) (by omega)),hR⟩,yB (by simp[hl]) (by simp[go_sem])⟩
    |true=>
     simp[go_sem]
     exact zI (i,h) ⟨by show h - i<j - i;omega,⟨hi1,by show i<=h;omega,by show h<=hi;omega,hL,fun x q1 q2=>by
      have q1:h<=x:=q1
      by_cases c2:x=h
      .rw[c2];exact .inl hb1
      .exact((hs2 (p - x) (p - h) (by omega) (by omega) (by omega)).trans o (.inl hb1)).trans o (hs1 h x (by omega) (by omega) (by omega))⟩,yB (by simp[hl]) (by simp[go_sem])⟩
   .have hij':i=j:=by omega
    subst hij'
    obtain⟨e,he⟩:=eX (mid+m - i)
    have e7:IntKind.i64.wrap ((mid:Int)+m - i)=(e:Int):=by rw[i64_id (by omega) (by omega)];omega
    obtain⟨⟨r1,r2,r3,r4,r5,r6,r7⟩,hcross,t1,t2,t3,t4⟩:=xg3 o (f:=f) (lo:=lo) (hi:=hi) (s:=i) (e:=e) h1 h2 hmid.symm hs1 hs2 hlo.symm hhi.symm hi1 hj he.symm (fun x q1 q2=>by rw[hp];exact hL x q1 q2) (fun x q1 q2=>by rw[hp];exact hR x q1 q2)
    have g1':=hgrp.rot_l r3 r4 r6 r7
    have g2':=hgrp.rot_r r1 r3 r4 r7
    have hmv:Mv f (rotF f i m e) a b:=(Mv.rot f r3 r4).mono r1 r6
    have hrot: ¬(i<m/\m<e)->rotF f i m e=f:=fun hn=>by
     rcases Cf i m with c|c
     .have:e=m:=by omega
      rw[this];exact yI4 f i m
     .have:i=m:=by omega
      rw[this];exact yi0 f m e
    have hrw:=fun c1 c2=>xw3 S f i m e c1 c2 (by omega)
    generalize rotF f i m e=g0 at*
    refine zA ?_
    simp[go_sem]
    refine zS (zA ?_)
    simp[go_sem,e7]
    refine zc0 (S:=Unit) [1,2,3,4,16,18,22] (fun _=> [.int .i64 a,.int .i64 m,.int .i64 b,.ptr σ0.length 0,.int .i64 mid,.int .i64 i,.int .i64 e]) (fun _=>lsF σ0 id s n row g0++ [datB gl gs cl cs]) (fun _=>True) (hc.trans (hl f)) hb ?_ ?_
    .by_cases k1:i<m
     .by_cases k2:m<e
      .have hcall:=hrw k1 k2
       refine zA ?_
       simp[go_sem,k1,k2,hd]
       refine S.call hcall cB rfl ?_
       rintro g' rfl
       simp[go_sem]
       exact zI () ⟨trivial,yB (by simp[hl]) (by simp[go_sem])⟩
      .rw[hrot fun h=>k2 h.2]
       refine zA ?_
       simp[go_sem,k1,k2]
       exact zI () ⟨trivial,yB (by simp[hl]) (by simp[go_sem])⟩
     .rw[hrot fun h=>k1 h.1]
      refine zA ?_
      simp[go_sem,k1]
      exact zI () ⟨trivial,yB (by simp[hl]) (by simp[go_sem])⟩
    rintro _ _
    clear hrw hrot hL hR
    refine zc0 (S:=Nat->Nat) [1,2,3,4,16,22] (fun _=> [.int .i64 a,.int .i64 m,.int .i64 b,.ptr σ0.length 0,.int .i64 mid,.int .i64 e]) (fun g=>lsF σ0 id s n row g++ [datB gl gs cl cs]) (fun g=>Mrg lt g0 g a mid) (hc.trans (hl f)) hb ?_ ?_
    .by_cases k1:a<i
     .by_cases k2:i<mid
      .have hcall:=ih g0 a i mid (by omega) k1 k2 (by omega) t1 t2 g1'
       refine zA ?_
       simp[go_sem,k1,k2,hd]
       refine S.call hcall cB rfl ?_
       rintro g' hg'
       simp[go_sem]
       exact zI g' ⟨hg',yB (by simp[hl]) (by simp[go_sem])⟩
      .have hq:Srt lt g0 a mid:=by rw[show mid=i by omega];exact t1
       refine zA ?_
       simp[go_sem,k1,k2]
       exact zI g0 ⟨Mrg.id hq,yB (by simp[hl]) (by simp[go_sem])⟩
     .have hq:Srt lt g0 a mid:=by rw[show a=i by omega];exact t2
      refine zA ?_
      simp[go_sem,k1]
      exact zI g0 ⟨Mrg.id hq,yB (by simp[hl]) (by simp[go_sem])⟩
    rintro h1' q1
    have same: ∀k,mid<=k->h1' k=g0 k:=fun k hk=>q1.1.out (.inr hk)
    have t3':Srt lt h1' mid e:=fun x y x1 x2 x3=>by rw[same x x1,same y (by omega)];exact t3 x y x1 x2 x3
    have t4':Srt lt h1' e b:=fun x y x1 x2 x3=>by rw[same x (by omega),same y (by omega)];exact t4 x y x1 x2 x3
    have g2'':Grp h1' mid e b:=fun x y x1 x2 x3 x4=>by rw[same x x1,same y (by omega)];exact g2' x y x1 x2 x3 x4
    have fin: ∀g2,Mrg lt h1' g2 mid b->Mrg lt f g2 a b:=fun g2 q2=>Mrg.both hmv hcross ⟨by omega,by omega⟩ q1 q2
    by_cases k1:mid<e
    .by_cases k2:e<b
     .have hcall:=ih h1' mid e b (by omega) k1 k2 (by omega) t3' t4' g2''
      refine zA ?_
      simp[go_sem,k1,k2,hd]
      refine S.call hcall cB rfl ?_
      rintro g' hg'
      simp[go_sem]
      exact xJ σ0.length (Cs (hl _)) (hl _) (S.lt_ok _) (Cg (hl f)) (zC rfl) ⟨rfl,_,rfl,fin g' hg'⟩
     .have hq:Srt lt h1' mid b:=by rw[show b=e by omega];exact t3'
      refine zA ?_
      simp[go_sem,k1,k2]
      exact xJ σ0.length (Cs (hl _)) (hl _) (S.lt_ok _) (Cg (hl f)) (zC rfl) ⟨rfl,_,rfl,fin h1' (Mrg.id hq)⟩
    .have hq:Srt lt h1' mid b:=by rw[show mid=e by omega];exact t4'
     refine zA ?_
     simp[go_sem,k1]
     exact xJ σ0.length (Cs (hl _)) (hl _) (S.lt_ok _) (Cg (hl f)) (zC rfl) ⟨rfl,_,rfl,fin h1' (Mrg.id hq)⟩
theorem zN0 (S:SC prog gl gs cl cs σ0 id s n row lt) (o:Ord lt): ∀(d:Nat) (f:Nat->Nat) (a m b:Nat),b - a<d->a<m->m<b->b<=n->Srt lt f a m->Srt lt f m b->Grp f a m b->
  VCalls prog 199 [.agg [.fn gl cl,.fn gs cs],.int .i64 a,.int .i64 m,.int .i64 b] (lsF σ0 id s n row f) (fun r t=>r= .tup []/\ ∃g,t=lsF σ0 id s n row g/\Mrg lt f g a b)
 |0,_,_,_,_,h,_,_,_,_,_,_=>absurd h (Bg _)
 |d+1,f,a,m,b,h,h1,h2,h3,hs1,hs2,hg=>ym3 S o f a m b h1 h2 h3 hs1 hs2 hg fun f' a' m' b' h' q1 q2 q3 q4 q5 q6=>zN0 S o d f' a' m' b' (by omega) q1 q2 q3 q4 q5 q6
end
section
variable {gl gs:FuncId} {cl cs:List V} {σ0:St} {id s n:Nat} {row:Nat->List V} {lt:Nat->Nat->Bool}
theorem xx7 (S:SC prog gl gs cl cs σ0 id s n row lt) (o:Ord lt):
  VCalls prog 130 [.agg [.fn gl cl,.fn gs cs],.int .i64 n] (lsF σ0 id s n row fun k=>k) (fun r t=>r= .tup []/\ ∃g,t=lsF σ0 id s n row g/\Mrg lt (fun k=>k) g 0 n):=by
 have hn:=S.nn
 refine VCalls.introV (lsF σ0 id s n row fun k=>k).length func130 ntmps130 results130 rfl rfl (Cy rfl) fun c hc hb=> ?_
 have hl: ∀g,(lsF σ0 id s n row g).length=σ0.length:=fun g=>zx0 ..
 have hd:=yv7 (σ0:=σ0) (id:=id) (s:=s) (n:=n) (row:=row) (gl:=gl) (gs:=gs) (cl:=cl) (cs:=cs)
 refine zS (zA ?_)
 simp[go_sem,hl]
 refine zS (zA ?_)
 simp[go_sem]
 refine zS (zA ?_)
 simp[go_sem]
 refine zS (zA ?_)
 simp[go_sem]
 refine zL (S:=Nat×Nat×(Nat->Nat)) [1,2,4,5,6] (fun u=> [.int .i64 n,.ptr σ0.length 0,.int .i64 20,.int .i64 u.2.1,.int .i64 ((u.2.1+20:Nat):Int)]) (fun u=>lsF σ0 id s n row u.2.2++ [datB gl gs cl cs]) (fun u=>n - u.2.1)
  (fun u=>u.2.1=u.1*20/\u.2.1<=n/\(∀q,q<u.1->Blk lt u.2.2 (q*20) (q*20+20))/\(∀k,u.2.1<=k->u.2.2 k=k)/\Mv (fun k=>k) u.2.2 0 n) (hc.trans (hl _)) hb (0,0,fun k=>k) ⟨rfl,A3 _,fun q hq=>absurd hq (Bg _),fun _ _=>rfl,Mv.refl _ _ _⟩ ?_ ?_
 .exact yB (by simp[hl]) (by simp[go_sem])
 rintro⟨t,A,g⟩ ⟨hA,hAn,hbk,hid,hmv⟩
 simp only at hA hAn hbk hid hmv
 have hinc: ∀b,∀x y,A<=x->x<y->y<b->g x<g y:=fun b x y x1 x2 x3=>by rw[hid x x1,hid y (by omega)];exact x2
 by_cases q:A+20<=n
 .have q':(A:Int)+20<=n:=by omega
  have e1:IntKind.i64.wrap ((A:Int)+20+20)=(A:Int)+20+20:=i64_id (by omega) (by omega)
  have hcall:=zV9 S o g A (A+20) (by omega) q (hinc _)
  refine zA ?_
  simp[go_sem,q',hd]
  refine S.call hcall cB rfl ?_
  rintro g' hg'
  rw[hA]at hg'
  rw[hA]at hid
  obtain⟨f1,f2⟩:=xc9 hbk hid hg'
  simp[go_sem,e1]
  exact zI (t+1,A+20,g') ⟨by show n - (A+20)<n - A;omega,⟨by show A+20=(t+1)*20;omega,q,f1,fun k hk=>f2 k (by have:A+20<=k:=hk;omega),hmv.trans (hg'.1.mono (A3 _) (by omega))⟩,yB (by simp[hl]) (by simp[go_sem])⟩
 .have q': ¬(A:Int)+20<=n:=by omega
  have hcall:=zV9 S o g A n hAn (A2 _) (hinc _)
  refine zA ?_
  simp[go_sem,q']
  refine zS (zA ?_)
  simp[go_sem,hd]
  refine S.call hcall cB rfl ?_
  rintro g' hg'
  rw[hA]at hg' hid
  have hB:=yM7 hbk hid (by omega) (by omega) hg'
  have hmv':=hmv.trans (hg'.1.mono (A3 _) (A2 _))
  clear hcall hg' hinc hid hbk hmv
  simp[go_sem]
  refine zA ?_
  simp[go_sem]
  refine zL (S:=Nat×(Nat->Nat)) [1,2,4] (fun u=> [.int .i64 n,.ptr σ0.length 0,.int .i64 u.1]) (fun u=>lsF σ0 id s n row u.2++ [datB gl gs cl cs]) (fun u=>n - u.1)
   (fun u=>20<=u.1/\u.1<=2000020/\Blks lt u.2 u.1 n/\Mv (fun k=>k) u.2 0 n) (hc.trans (hl _)) hb (20,g') ⟨A2 _,by show 20<=2000020;omega,hB,hmv'⟩ ?_ ?_
  .exact yB (by simp[hl]) (by simp[go_sem])
  clear hB hmv' q q' hA hAn g' g t A
  rintro⟨w,g⟩ ⟨hw,hw2,hB,hmv⟩
  simp only at hw hw2 hB hmv
  by_cases q:w<n
  rotate_left
  .refine zA ?_
   simp[go_sem,q]
   exact xJ σ0.length (Cs (hl _)) (hl _) (S.lt_ok _) (Cg (hl _)) (zC rfl) ⟨rfl,g,rfl,hmv,(hB.all (by omega)).2⟩
  have e2:IntKind.i64.wrap (2*(w:Int))=2*(w:Int):=i64_id (by omega) (by omega)
  have e3:IntKind.i64.wrap ((w:Int)*2)=(w:Int)*2:=i64_id (by omega) (by omega)
  refine zA ?_
  simp[go_sem,q,e2]
  refine zL (S:=Nat×Nat×(Nat->Nat)) [1,2,4,5,6] (fun u=> [.int .i64 n,.ptr σ0.length 0,.int .i64 w,.int .i64 u.2.1,.int .i64 ((u.2.1+2*w:Nat):Int)]) (fun u=>lsF σ0 id s n row u.2.2++ [datB gl gs cl cs]) (fun u=>n - u.2.1)
   (fun u=>u.2.1=u.1*(2*w)/\u.2.1<=n/\BlkM lt u.2.2 w n u.1/\Mv (fun k=>k) u.2.2 0 n) (hc.trans (hl _)) hb (0,0,g) ⟨by simp,A3 _,BlkM.start hB,hmv⟩ ?_ ?_
  .exact yB (by simp[hl]) (by simp[go_sem])
  clear hB hmv g
  rintro⟨t,A,g⟩ ⟨hA,hAn,hM,hmv⟩
  simp only at hA hAn hM hmv
  have e4:IntKind.i64.wrap ((A:Int)+w)=(A:Int)+w:=i64_id (by omega) (by omega)
  by_cases p:A+2*w<=n
  .have p':(A:Int)+2*w<=n:=by omega
   have e5:IntKind.i64.wrap ((A:Int)+2*w+2*w)=(A:Int)+2*w+2*w:=i64_id (by omega) (by omega)
   have hpr:=hM.pair (by omega) (by rw[<-hA];omega)
   rw[<-hA,D8 p]at hpr
   have hcall:=zN0 S o (2*w+1) g A (A+w) (A+2*w) (by omega) (by omega) (by omega) p hpr.1.2 hpr.2.2 (hpr.1.grp hpr.2)
   refine zA ?_
   simp[go_sem,p',hd,e4]
   refine S.call hcall cB rfl ?_
   rintro g' hg'
   have hN:=hM.next (by omega) (by rw[<-hA];exact p) (hA▸hg')
   have em:(t+1)*(2*w)=t*(2*w)+2*w:=by rw[An,Bj]
   simp[go_sem,e2,e5]
   exact zI (t+1,A+2*w,g') ⟨by show n - (A+2*w)<n - A;omega,⟨by show A+2*w=(t+1)*(2*w);rw[em,hA],p,hN,hmv.trans (hg'.1.mono (A3 _) p)⟩,yB (by simp[hl]) (by simp[go_sem])⟩
  .have p': ¬(A:Int)+2*w<=n:=by omega
   by_cases p2:A+w<n
   .have p2':(A:Int)+w<n:=by omega
    have hpr:=hM.pair (by omega) (by rw[<-hA];exact p2)
    rw[<-hA,Nat.min_eq_right (by omega)]at hpr
    have hcall:=zN0 S o (2*w+1) g A (A+w) n (by omega) (by omega) p2 (A2 _) hpr.1.2 hpr.2.2 (hpr.1.grp hpr.2)
    refine zA ?_
    simp[go_sem,p',p2',hd,e4]
    refine S.call hcall cB rfl ?_
    rintro g' hg'
    have hN:=hM.last (by omega) (by rw[<-hA];exact p2) (by rw[<-hA];omega) (hA▸hg')
    simp[go_sem,e3]
    exact zI (w*2,g') ⟨by show n - w*2<n - w;omega,⟨by show 20<=w*2;omega,by show w*2<=2000020;omega,by show Blks lt g' (w*2) n;rw[Bw];exact hN,hmv.trans (hg'.1.mono (A3 _) (A2 _))⟩,yB (by simp[hl]) (by simp[go_sem])⟩
   .have p2': ¬(A:Int)+w<n:=by omega
    have hN:=hM.none (by rw[<-hA];exact hAn) (by rw[<-hA];omega)
    refine zA ?_
    simp[go_sem,p',p2',e4,e3]
    exact zI (w*2,g) ⟨by show n - w*2<n - w;omega,⟨by show 20<=w*2;omega,by show w*2<=2000020;omega,by show Blks lt g (w*2) n;rw[Bw];exact hN,hmv⟩,yB (by simp[hl]) (by simp[go_sem])⟩
end
end Go.Proofs.YtkigddpaonhmlaaGreat
namespace Go.Proofs.YtkigddpaonhmlaaGreat
open Go Go.Vx R Go.Proofs.Tryz
set_option maxRecDepth 100000
def insG {α:Type} (gt:α->Bool) (out:List α) (x:α):List α:=(out.reverse.dropWhile gt).reverse++x::(out.reverse.takeWhile gt).reverse
theorem yo9 {α:Type} (gt:α->Bool) (out:List α) (x:α):(insG gt out x).Perm (x::out):=by
 unfold insG
 refine Du.trans (List.Perm.cons _ ?_)
 rw[<-List.reverse_append,Cm,List.reverse_reverse]
theorem xr3 {α β:Type} (h:α->β) (gt:β->Bool) (out:List α) (x:α):(insG (fun y=>gt (h y)) out x).map h=insG gt (out.map h) (h x):=by
 unfold insG
 rw[Dj,Al,List.map_reverse,List.map_reverse,<-List.map_reverse (l:=out),List.dropWhile_map,List.takeWhile_map]
 rfl
theorem yE6 {lt:Nat->Nat->Bool} (o:Ord lt) {out:List Nat} {x:Nat} (hs:out.Pairwise (TO lt)) (hx: ∀y∈out,y<x):(insG (fun y=>lt x y) out x).Pairwise (TO lt):=by
 have hl:out=(out.reverse.dropWhile (fun y=>lt x y)).reverse++(out.reverse.takeWhile (fun y=>lt x y)).reverse:=by
  rw[<-List.reverse_append,Cm,List.reverse_reverse]
 have htk: ∀y∈out.reverse.takeWhile (fun y=>lt x y),lt x y=true:=by
  intro y hy
  exact Af.1 List.all_takeWhile y hy
 have hdr: ∀y∈out.reverse.dropWhile (fun y=>lt x y),lt x y=false:=by
  cases hd:out.reverse.dropWhile (fun y=>lt x y)with
  |nil=>intro y hy;cases hy
  |cons z d=>
   have hz:lt x z=false:=by
    have:=List.head?_dropWhile_not (fun y=>lt x y) out.reverse
    rw[hd]at this
    simpa using this
   intro y hy
   rcases Ag.1 hy with rfl|hy
   .exact hz
   .have hp:(out.reverse).Pairwise (fun a b=>TO lt b a):=List.pairwise_reverse.2 hs
    have hp2:(z::d).Pairwise (fun a b=>TO lt b a):=hd▸hp.sublist (List.dropWhile_sublist _)
    have h3:=(Cr.1 hp2).1 y hy
    cases q:lt x y with
    |false=>rfl
    |true=>
     rcases h3 with h3|⟨h3,_⟩
     .rw[o.tr _ _ _ q h3]at hz;cases hz
     .have:=o.nt _ _ _ hz h3;rw[q]at this;cases this
 unfold insG
 rw[hl,De]at hs
 have hm1: ∀y∈out.reverse.dropWhile (fun y=>lt x y),y∈out:=fun y hy=>List.mem_reverse.1 ((List.dropWhile_sublist _).subset hy)
 rw[De,Cr]
 refine⟨hs.1,⟨fun y hy=> .inl (htk y (List.mem_reverse.1 hy)),hs.2.1⟩,fun y hy z hz=> ?_⟩
 rcases Ag.1 hz with rfl|hz
 .exact .inr ⟨hdr y (List.mem_reverse.1 hy),hx y (hm1 y (List.mem_reverse.1 hy))⟩
 .exact hs.2.2 y hy z hz
def zx9 (lt:Nat->Nat->Bool) (n:Nat):List Nat:=(List.range n).foldl (fun out x=>insG (fun y=>lt x y) out x) []
theorem yi8 {lt:Nat->Nat->Bool} (o:Ord lt): ∀n,(zx9 lt n).Perm (List.range n)/\(zx9 lt n).Pairwise (TO lt)
 |0=>⟨List.Perm.nil,List.Pairwise.nil⟩
 |n+1=>by
  obtain⟨h1,h2⟩:=yi8 o n
  have e:zx9 lt (n+1)=insG (fun y=>lt n y) (zx9 lt n) n:=by
   unfold zx9;rw[List.range_succ,Dh];rfl
  rw[e]
  refine⟨(yo9 _ _ _).trans ?_,yE6 o h2 fun y hy=>C7.1 (h1.mem_iff.1 hy)⟩
  rw[List.range_succ]
  exact(h1.cons n).trans (List.perm_append_singleton _ _).symm
theorem xj1 {lt:Nat->Nat->Bool} (o:Ord lt) {f:Nat->Nat} {n:Nat} (hm:Mv id f 0 n) (hs:Srt lt f 0 n):(List.range n).map f=zx9 lt n:=by
 obtain⟨hp,hq⟩:=yi8 o n
 obtain⟨π,p1,p2,p3,p4⟩:=hm
 have hf: ∀k,f k=π k:=p4
 have hnd:((List.range n).map f).Nodup:=by
  rw[List.Nodup,Cl]
  exact(C3 (n:=n)).imp fun{a b} h e=>h (p3 _ _ (by rw[<-hf,<-hf];exact e))
 have hperm:((List.range n).map f).Perm (List.range n):=by
  rw[List.perm_ext_iff_of_nodup hnd C3]
  have hsub: ∀y∈(List.range n).map f,y∈List.range n:=fun y hy=>by
   obtain⟨k,hk,rfl⟩:=Ac.1 hy
   rw[C7]at hk⊢
   rw[hf];exact(p1 k (A3 _) hk).2
  intro y
  refine⟨hsub y,fun hy=>Classical.byContradiction fun hn=> ?_⟩
  have h1:(y::(List.range n).map f).Nodup:=C1.2 ⟨hn,hnd⟩
  have:=h1.length_le_of_subset (l₂:=List.range n) fun z hz=>by
   rcases Ag.1 hz with rfl|hz
   .exact hy
   .exact hsub z hz
  simp at this
  omega
 have hpw:((List.range n).map f).Pairwise (TO lt):=by
  rw[Cl]
  have:=List.pairwise_lt_range (n:=n)
  refine List.Pairwise.imp_of_mem (fun{a b} ha hb hab=> ?_) this
  exact hs a b (A3 _) hab (C7.1 hb)
 exact(hperm.trans hp.symm).eq_of_pairwise (fun a b _ _ h1 h2=>absurd (h1.trans o h2) (fun h=>h.irr o)) hpw hq
theorem yO1 {α:Type} (gt:α->α->Bool) (l:List α) (d:α):l.foldl (fun out x=>insG (fun y=>gt x y) out x) []=(zx9 (fun i j=>gt (l.getD i d) (l.getD j d)) l.length).map fun i=>l.getD i d:=by
 have key: ∀n,n<=l.length->(l.take n).foldl (fun out x=>insG (fun y=>gt x y) out x) []=(zx9 (fun i j=>gt (l.getD i d) (l.getD j d)) n).map fun i=>l.getD i d:=by
  intro n
  induction n with
  |zero=>intro _;simp[zx9]
  |succ n ih=>
   intro h
   have hn:n<l.length:=h
   rw[Ci hn,Dh,ih (by omega)]
   have e:zx9 (fun i j=>gt (l.getD i d) (l.getD j d)) (n+1)=insG (fun y=>gt (l.getD n d) (l.getD y d)) (zx9 (fun i j=>gt (l.getD i d) (l.getD j d)) n) n:=by
    unfold zx9;rw[List.range_succ,Dh];rfl
   rw[e,xr3 (fun i=>l.getD i d) (fun y=>gt (l.getD n d) y)]
   have e2:l.getD n d=l[n]:=by rw[A5,A0 hn];rfl
   simp only[Be,Eh]
   rw[e2]
 have:=key l.length (A2 _)
 rwa [Dp]at this
def LTv (a b:GValue):Prop:=a.kind<b.kind∨a.kind=b.kind/\(a.n<b.n∨a.n=b.n/\Op.bytesLess a.s b.s=true)
theorem xK9 {a b:List UInt8} (h:Op.bytesLess a b=true):Op.bytesLess b a=false:=by
 cases q:Op.bytesLess b a
 .rfl
 .have:=zp1 _ _ _ h q;rw[zc2]at this;cases this
theorem zI5 (a b:GValue):(cmpV a b<0↔LTv a b)/\(0<cmpV a b↔LTv b a):=by
 unfold cmpV LTv
 simp only[orL,cmpI,cmpS]
 rcases Dy a.kind b.kind with h|h|h
 .have h2: ¬b.kind<a.kind:=by omega
  have h3: ¬b.kind=a.kind:=by omega
  simp[h,h2,h3]
 .rw[h]
  rcases Dy a.n b.n with g|g|g
  .have h2: ¬b.n<a.n:=by omega
   have h3: ¬b.n=a.n:=by omega
   simp[g,h2,h3]
  .rw[g]
   rcases zt5 a.s b.s with f|f|f
   .simp[f,xK9 f]
   .rw[f];simp[zc2]
   .simp[f,xK9 f]
  .have h2: ¬a.n<b.n:=by omega
   have h3: ¬a.n=b.n:=by omega
   simp[g,h2,h3]
 .have h2: ¬a.kind<b.kind:=by omega
  have h3: ¬a.kind=b.kind:=by omega
  simp[h,h2,h3]
theorem LTv.irr (a:GValue): ¬LTv a a:=by
 intro h
 rcases h with h|⟨_,h|⟨_,h⟩⟩
 .omega
 .omega
 .rw[zc2]at h;cases h
theorem LTv.trans {a b c:GValue} (h:LTv a b) (g:LTv b c):LTv a c:=by
 rcases h with h|⟨h,h|⟨h',h⟩⟩<;>rcases g with g|⟨g,g|⟨g',g⟩⟩
 .exact .inl (by omega)
 .exact .inl (by omega)
 .exact .inl (by omega)
 .exact .inl (by omega)
 .exact .inr ⟨by omega,.inl (by omega)⟩
 .exact .inr ⟨by omega,.inl (by omega)⟩
 .exact .inl (by omega)
 .exact .inr ⟨by omega,.inl (by omega)⟩
 .exact .inr ⟨by omega,.inr ⟨by omega,zp1 _ _ _ h g⟩⟩
theorem LTv.some {a c:GValue} (b:GValue) (h:LTv a c):LTv a b∨LTv b c:=by
 rcases Dy a.kind b.kind with k|k|k
 .exact .inl (.inl k)
 .rcases h with h|⟨h,h⟩
  .exact .inr (.inl (by omega))
  .rcases Dy a.n b.n with m|m|m
   .exact .inl (.inr ⟨k,.inl m⟩)
   .rcases h with h|⟨h',h⟩
    .exact .inr (.inr ⟨by omega,.inl (by omega)⟩)
    .rcases zt5 a.s b.s with f|f|f
     .exact .inl (.inr ⟨k,.inr ⟨m,f⟩⟩)
     .exact .inr (.inr ⟨by omega,.inr ⟨by omega,f▸h⟩⟩)
     .exact .inr (.inr ⟨by omega,.inr ⟨by omega,zp1 _ _ _ f h⟩⟩)
   .rcases h with h|⟨h',h⟩
    .exact .inr (.inr ⟨by omega,.inl (by omega)⟩)
    .exact .inr (.inr ⟨by omega,.inl (by omega)⟩)
 .rcases h with h|⟨h,_⟩
  .exact .inr (.inl (by omega))
  .exact .inr (.inl (by omega))
def ln0:Ln:=⟨0,[],[]⟩
def ltR (d:Ln) (c:Nat) (down:Bool) (l:List Ln) (i j:Nat):Bool:=decide (0<cmpC c down (l.getD j d) (l.getD i d))
theorem yv8 (d:Ln) (c:Nat) (down:Bool) (l:List Ln) (i j:Nat):ltR d c down l i j=true↔if down=true then LTv ((l.getD j d).v.getD c zeroV) ((l.getD i d).v.getD c zeroV)else LTv ((l.getD i d).v.getD c zeroV) ((l.getD j d).v.getD c zeroV):=by
 unfold ltR cmpC
 rw[decide_eq_true_eq]
 cases down with
 |true=>
  simp only[if_true]
  rw[<-(zI5 _ _).1]
  omega
 |false=>
  simp only[Bf,if_false]
  exact(zI5 _ _).2
theorem yv9 (d:Ln) (c:Nat) (down:Bool) (l:List Ln):Ord (ltR d c down l):=by
 refine⟨fun i=> ?_,fun i j k h g=> ?_,fun i j k h g=> ?_⟩
 .cases q:ltR d c down l i i with
  |false=>rfl
  |true=>
   rw[yv8]at q
   split at q
   .exact absurd q (LTv.irr _)
   .exact absurd q (LTv.irr _)
 .rw[yv8]at h g⊢
  split at h
  .rename_i e0
   rw[if_pos e0]at g⊢
   exact g.trans h
  .rename_i e0
   rw[if_neg e0]at g⊢
   exact h.trans g
 .cases q:ltR d c down l i k with
  |false=>rfl
  |true=>
   exfalso
   have h': ¬ltR d c down l i j=true:=by rw[h];decide
   have g': ¬ltR d c down l j k=true:=by rw[g];decide
   rw[yv8]at h' g' q
   split at q
   .rename_i e0
    rw[if_pos e0]at h' g'
    exact(q.some ((l.getD j d).v.getD c zeroV)).elim g' h'
   .rename_i e0
    rw[if_neg e0]at h' g'
    exact(q.some ((l.getD j d).v.getD c zeroV)).elim h' g'
theorem yJ9 (d:Ln) (c:Nat) (down:Bool) (l:List Ln):zg4 c down l=(zx9 (ltR d c down l) l.length).map fun i=>l.getD i d:=yO1 (fun x y=>decide (0<cmpC c down y x)) l d
theorem yS3 {d:Ln} {c:Nat} {down:Bool} {l:List Ln} {f:Nat->Nat} (hm:Mv id f 0 l.length) (hs:Srt (ltR d c down l) f 0 l.length):((List.range l.length).map fun k=>l.getD (f k) d)=zg4 c down l:=by
 rw[yJ9 d,<-xj1 (yv9 d c down l) hm hs,Bq]
 rfl
def chS (T:GTable) (st:GStmt) (c:Int) (rows:List (List V)) (n:Nat):St:= [.lst rows 3,.box T.row,.box st.row,.box [.lsv 0 3 n 0 n],.box out0,.box [.int .i64 c]]
theorem zF2 (T:GTable) (st:GStmt) (c:Int) (l:List Ln) (n:Nat):(chS T st c (l.map Ln.row) n).all (ltOb 6)=true:=by simp[chS,out0,ltOb,ltC,ltK,Ln.row,GTable.row,GStmt.row]
theorem zs6 {α:Type} {l:List α} {i:Nat} (h:i<l.length) (d:α):l.getD i d=l[i]:=by rw[A5,A0 h];rfl
theorem xQ0 (d:Ln) (T:GTable) (st:GStmt) (col:Nat) (_hc0:col<=10000) (l:List Ln) (hcl: ∀x∈l,col<x.v.length) (i j:Nat) (hi:i<l.length) (hj:j<l.length):
  VCalls prog 77 [.int .i64 i,.int .i64 j,.ptr 3 0,.ptr 5 0,.ptr 2 0] (chS T st col (l.map Ln.row) l.length) (fun r s=>r= .bool (ltR d col st.down l i j)/\s=chS T st col (l.map Ln.row) l.length):=by
 obtain⟨x,hx⟩:=eX (l[i])
 obtain⟨y,hy⟩:=eX (l[j])
 have hxc:=hcl x (hx▸A8 hi)
 have hyc:=hcl y (hy▸A8 hj)
 obtain⟨v,hv⟩:=eX (x.v[col])
 obtain⟨u,hu⟩:=eX (y.v[col])
 have hcmp:=yn0 v u
 obtain⟨a1,a2,a3,a4,a5,a6,a7,a8,dn,a9⟩:=st
 have hM:ltR d col dn l i j=(if dn=true then decide (0<cmpV v u)else decide (cmpV v u<0)):=by
  unfold ltR cmpC
  rw[zs6 hi,zs6 hj,hx,hy,zs6 hxc,zs6 hyc,hv,hu]
  obtain⟨h1,h2⟩:=zI5 v u
  obtain⟨h3,h4⟩:=zI5 u v
  split
  .rw[decide_eq_decide]
   exact⟨fun h=>h2.2 (h3.1 (by omega)),fun h=>by have:=h3.2 (h2.1 h);omega⟩
  .rw[decide_eq_decide]
   exact⟨fun h=>h1.2 (h4.1 h),fun h=>h4.2 (h1.1 h)⟩
 show VCalls _ _ _ _ (fun r s=>r= .bool (ltR d col dn l i j)/\_)
 rw[hM]
 clear hM
 generalize cmpV v u=k at hcmp
 have hok:=zF2 T ⟨a1,a2,a3,a4,a5,a6,a7,a8,dn,a9⟩ col l l.length
 generalize hB:(if dn=true then decide (0<k)else decide (k<0))=B
 have ret: ∀(r:Bool) (σl:St),r=B->wret (some (.bool r)) 6 (fun r s=>r= .bool B/\s=chS T ⟨a1,a2,a3,a4,a5,a6,a7,a8,dn,a9⟩ col (l.map Ln.row) l.length) (chS T ⟨a1,a2,a3,a4,a5,a6,a7,a8,dn,a9⟩ col (l.map Ln.row) l.length++σl):=fun r σl h=>by
  subst h
  exact xJ 6 (Cs rfl) rfl hok (A2 _) (zC rfl) ⟨rfl,rfl⟩
 clear hok hcl
 have hk:=Dy k 0
 cases dn<;>(
  refine iV 6 func77 ntmps77 results77 fun c hc hb=> ?_
  refine zA ?_
  simp[go_sem,chS]
  refine yU [(16,0)] 6 rfl (by kernel_rfl) (by kernel_rfl) ?_
  simp[go_sem,hi,hj,hx,hy,hxc,hyc,hv,hu]
  refine zW hcmp cB (fun _=>⟨zC rfl,zC rfl,trivial⟩) rfl ?_
  simp[go_sem]
  rcases hk with q|q|q
  .have q2: ¬0<k:=by omega
   simp[go_sem,q,q2]
   exact ret _ _ (by rw[<-hB];simp[q,q2])
  .subst q
   simp[go_sem]
   exact ret _ _ (by rw[<-hB];simp)
  .have q2: ¬k<0:=by omega
   simp[go_sem,q,q2]
   exact ret _ _ (by rw[<-hB];simp[q,q2]))
theorem yG4:(Tryz.prog.info? 123).map (fun i=>(i.size,i.hasPointers,i.bytes))=some (3,true,48):=by kernel_rfl
theorem xg6:(Tryz.prog.info? 118).map (fun i=>i.desc)=some (.slice 123):=by kernel_rfl
theorem xs9 (w:World):(Extern.Rtype.kind 123).run prog w= .ok 25 w:=by kernel_rfl
theorem xI4 {n:Nat} {ie:TypeInfo} (hn:2<=n) (h1:ie.hasPointers=true) (h2:ie.bytes=48):Lib.swapperK n ie 25=9:=by
 unfold Lib.swapperK
 have e1:(n==0)=false:=by simp;omega
 have e2:(n==1)=false:=by simp;omega
 rw[e1,e2,h1,h2]
 rfl
theorem xW9 (args:Array Value) (w:World):(callFunc 197 args).run prog w=((Extern.ReflectliteSwapper.swap false args).run prog w).andThen fun v w'=> .ok (.value v) w':=
 run_callFunc_extern func197 (by kernel_rfl) (by kernel_rfl) (by kernel_rfl) (e:=Extern.ReflectliteSwapper.swap false) (by kernel_rfl) args w
def lnD (col:Nat):Ln:=⟨0,[],List.replicate (col+1) zeroV⟩
noncomputable def ssS (T:GTable) (st:GStmt) (col:Int) (rows:List (List V)) (n:Nat):St:=chS T st col rows n++ [.box [.lsv 0 3 n 0 n],.box [.raw (typeHandle prog 118),.ptr 6 0,.int .u64 151]]
noncomputable def ssC (n:Nat):List V:=if n<=1 then []else [.lsv 0 3 n 0 n,.raw (typeHandle prog 123)]
theorem xM0 {T:GTable} {st:GStmt} {col:Nat} {l:List Ln} (f:Nat->Nat):lsF (ssS T st col (l.map Ln.row) l.length) 0 3 l.length (fun k=>(l.getD k (lnD col)).row) f=ssS T st col (((List.range l.length).map fun k=>l.getD (f k) (lnD col)).map Ln.row) l.length:=by
 unfold lsF ssS chS
 rw[Bq]
 rfl
theorem xH8 {l:List Ln} {d:Ln} (f:Nat->Nat):((List.range l.length).map fun k=>l.getD (f k) d).length=l.length:=by simp
theorem xU2 (G:FuncId) (T:GTable) (st:GStmt) (col:Nat) (hc0:col<=10000) (l:List Ln) (hl:l.length<=10000) (hcl: ∀x∈l,col<x.v.length) (hG:2<=l.length->G=197):
  SC prog 77 G [.ptr 3 0,.ptr 5 0,.ptr 2 0] (ssC l.length) (ssS T st col (l.map Ln.row) l.length) 0 3 l.length (fun k=>(l.getD k (lnD col)).row) (ltR (lnD col) col st.down l):=by
 have hcl2: ∀k,col<(l.getD k (lnD col)).v.length:=fun k=>by
  by_cases q:k<l.length
  .rw[zs6 q];exact hcl _ (A8 q)
  .rw[A5,Bc (by omega)];simp[lnD]
 have hchl: ∀rows n,(chS T st col rows n).length=6:=fun _ _=>rfl
 refine⟨by simp[ssS,chS],by omega,rfl, ?_, ?_,fun k=> ?_,fun c τ f i j K hi hj hij hk=> ?_,fun c τ f i j K hi hj hij hk=> ?_⟩
 .unfold ssC
  split
  .rfl
  .simp[ssS,chS,ltK]
 .have h:=zF2 T st col l l.length
  unfold ssS
  rw[Ea,A4]
  refine⟨?_,by simp[chS,ltOb,ltC,ltK]⟩
  rw[Af]at h⊢
  exact fun o ho=>yp7 (by simp[chS]) (h o ho)
 .simp[Ln.row,ltC,ltK]
 .rw[xM0]at hk⊢
  obtain⟨l',hl'⟩: ∃l',((List.range l.length).map fun k=>l.getD (f k) (lnD col))=l':=⟨_,rfl⟩
  have hll:l'.length=l.length:=by rw[<-hl',xH8]
  have hg: ∀k,k<l.length->l'.getD k (lnD col)=l.getD (f k) (lnD col):=fun k hk=>by
   rw[<-hl',zs6 (by simpa using hk)];simp
  have hlw:=xQ0 (lnD col) T st col hc0 l' (fun x hx=>by
   rw[<-hl']at hx
   obtain⟨k,_,rfl⟩:=Ac.1 hx
   exact hcl2 _) i j (by omega) (by omega)
  have hlt:ltR (lnD col) col st.down l' i j=ltR (lnD col) col st.down l (f i) (f j):=by
   unfold ltR
   rw[hg i hi,hg j hj]
  rw[hlt,hll]at hlw
  rw[hl']at hk⊢
  refine ze9 6 hlw cB ?_ rfl (by have:=zF2 T st col l' l.length;exact this) ?_ ?_ ?_
  .show(chS _ _ _ _ _++_++τ).take 6=_
   rw[C5]
   exact Cs rfl
  .exact wU rfl
  .rintro r s ⟨rfl,rfl⟩
   exact⟨rfl,zF2 T st col l' l.length,rfl⟩
  .rintro r s ⟨rfl,rfl⟩
   have e:chS T st col (l'.map Ln.row) l.length++(ssS T st col (l'.map Ln.row) l.length++τ).drop 6=ssS T st col (l'.map Ln.row) l.length++τ:=rfl
   rw[e]
   exact hk
 .have h2:2<=l.length:=by omega
  rw[hG h2]
  obtain⟨ie,hie,hie2⟩:=B6.1 yG4
  simp only[Prod.mk.injEq]at hie2
  obtain⟨hs3,_,_⟩:=hie2
  have e0:ssC l.length= [.lsv 0 3 l.length 0 l.length,.raw (typeHandle prog 123)]:=by unfold ssC;rw[if_neg (by omega)]
  rw[e0]
  refine xj9 xW9 hie isAgg123 hs3 (by simp) (rows:=(List.range l.length).map fun k=>(l.getD (f k) (lnD col)).row) (R:=(List.range l.length).map fun k=>(l.getD (sw f i j k) (lnD col)).row) rfl hi hj ?_ hk
  have gd: ∀q,q<l.length->((List.range l.length).map fun k=>(l.getD (f k) (lnD col)).row).getD q []=(l.getD (f q) (lnD col)).row:=fun q hq=>by
   rw[zs6 (by simpa using hq)];simp
  rw[gd i hi,gd j hj]
  refine List.ext_getElem (by simp) fun k h1 h2=> ?_
  rw[List.getElem_set,List.getElem_set]
  simp only[Ct,List.getElem_range,sw]
  split
  .rename_i q;subst q
   rw[if_neg (by omega),if_pos rfl]
  .split
   .rename_i q;subst q
    rw[if_pos rfl]
   .rename_i q1 q2
    rw[if_neg (by omega),if_neg (by omega)]
theorem valF (args:Array Value) (w:World):(callFunc 128 args).run prog w=((Extern.ReflectliteValue.unpack (args.getD 0 (.tuple #[]))).run prog w).andThen fun v w'=> .ok (.value v) w':=
 run_callFunc_extern func128 (by kernel_rfl) (by kernel_rfl) (by kernel_rfl) (e:=fun args=>Extern.ReflectliteValue.unpack (args.getD 0 (.tuple #[]))) (by kernel_rfl) args w
theorem xX0 (args:Array Value) (w:World):(callFunc 129 args).run prog w=((Extern.ReflectliteSwapper.swapper "internal/reflectlite" (Extern.ReflectliteValue.valueError "Swapper") args).run prog w).andThen fun v w'=> .ok (.value v) w':=
 run_callFunc_extern func129 (by kernel_rfl) (by kernel_rfl) (by kernel_rfl) (e:=Extern.ReflectliteSwapper.swapper "internal/reflectlite" (Extern.ReflectliteValue.valueError "Swapper")) (by kernel_rfl) args w
theorem xX4 (args:Array Value) (w:World):(callFunc 131 args).run prog w=((Extern.ReflectliteValue.method (Extern.ReflectliteValue.valueError "reflectlite.Value.Len" 0) Extern.ReflectliteValue.len args).run prog w).andThen fun v w'=> .ok (.value v) w':=
 run_callFunc_extern func131 (by kernel_rfl) (by kernel_rfl) (by kernel_rfl) (e:=Extern.ReflectliteValue.method (Extern.ReflectliteValue.valueError "reflectlite.Value.Len" 0) Extern.ReflectliteValue.len) (by kernel_rfl) args w
theorem xD5:(Tryz.prog.funcs.findIdx? (·.name== "internal/reflectlite" ++ ".Swapper$" ++toString 1),Tryz.prog.funcs.findIdx? (·.name== "internal/reflectlite" ++ ".Swapper$" ++toString 2),Tryz.prog.funcs.findIdx? (·.name== "internal/reflectlite" ++ ".Swapper$" ++toString 9))=(some 189,some 190,some 197):=by kernel_rfl
@[go_sem] theorem zeroT_val:za1 prog 226=some [.nilp,.nilp,.int .u64 0]:=by kernel_rfl
@[go_sem] theorem szT_val:szT prog 226=some 3:=by kernel_rfl
@[go_sem] theorem aggT_val:aggT prog 226=some true:=by kernel_rfl
theorem ym2 (T:GTable) (st:GStmt) (col:Nat) (hc0:col<=10000) (l:List Ln) (hl:l.length<=10000) (hcl: ∀x∈l,col<x.v.length):
  VCalls prog 76 [.ifc 118 [.lsv 0 3 l.length 0 l.length],.fn 77 [.ptr 3 0,.ptr 5 0,.ptr 2 0]] (chS T st col (l.map Ln.row) l.length) (fun r s=>r= .tup []/\s=chS T st col ((zg4 col st.down l).map Ln.row) l.length):=by
 obtain⟨ti,hti,htd⟩:=B6.1 xg6
 obtain⟨ie,hie,hie2⟩:=B6.1 yG4
 simp only[Prod.mk.injEq]at hie2
 obtain⟨hs3,hp,hby⟩:=hie2
 obtain⟨G,hG,hG2,hsel⟩: ∃G,Tryz.prog.funcs.findIdx? (·.name== "internal/reflectlite" ++ ".Swapper$" ++toString (Lib.swapperK l.length ie 25))=some G/\(2<=l.length->G=197)/\(Lib.swapperK l.length ie 25<=2↔l.length<=1):=by
  have h:=xD5
  simp only[Prod.mk.injEq]at h
  obtain⟨f1,f2,f3⟩:=h
  by_cases q:2<=l.length
  .rw[xI4 q hp hby]
   exact⟨_,f3,fun _=>rfl,by omega⟩
  .rcases(by omega:l.length=0∨l.length=1)with e|e
   .rw[e];exact⟨_,f1,fun h=>(by omega),⟨fun _=>(by decide),fun _=>(by show 1<=2;decide)⟩⟩
   .rw[e];exact⟨_,f2,fun h=>(by omega),⟨fun _=>(by decide),fun _=>(by show 2<=2;decide)⟩⟩
 have S:=xU2 G T st col hc0 l hl hcl hG2
 have hst:=xx7 S (yv9 (lnD col) col st.down l)
 have hls: ∀f,lsF (ssS T st col (l.map Ln.row) l.length) 0 3 l.length (fun k=>(l.getD k (lnD col)).row) f=ssS T st col (((List.range l.length).map fun k=>l.getD (f k) (lnD col)).map Ln.row) l.length:=fun f=>xM0 f
 have hidl:((List.range l.length).map fun k=>l.getD k (lnD col))=l:=by
  refine List.ext_getElem (by simp) fun k h1 h2=> ?_
  simp[h2]
 have hst2:VCalls prog 130 [.agg [.fn 77 [.ptr 3 0,.ptr 5 0,.ptr 2 0],.fn G (ssC l.length)],.int .i64 l.length] (ssS T st col (l.map Ln.row) l.length) (fun r t=>r= .tup []/\t=ssS T st col ((zg4 col st.down l).map Ln.row) l.length):=by
  rw[hls,hidl]at hst
  refine hst.mono fun r t h=> ?_
  obtain⟨h1,g,h2,h3⟩:=h
  refine⟨h1, ?_⟩
  rw[h2,hls]
  congr 2
  exact yS3 h3.1 h3.2
 have hok: ∀m:List Ln,(ssS T st col (m.map Ln.row) l.length).all (ltOb 8)=true:=fun m=>by
  have h:=zF2 T st col m l.length
  unfold ssS
  rw[Ea,A4]
  refine⟨?_,by simp[ltOb,ltC,ltK]⟩
  rw[Af]at h⊢
  exact fun o ho=>yp7 (by decide) (h o ho)
 have hsc:ssC l.length=(if Lib.swapperK l.length ie 25<=2 then []else [.lsv 0 3 l.length 0 l.length,.raw (typeHandle prog 123)]):=by
  unfold ssC
  by_cases q:l.length<=1
  .rw[if_pos q,if_pos (hsel.2 q)]
  .rw[if_neg q,if_neg fun h=>q (hsel.1 h)]
 refine iV 6 func76 ntmps76 results76 fun c hc hb=> ?_
 refine zS (zA ?_)
 simp[go_sem]
 refine yL3 valF hti htd ?_
 simp[go_sem]
 have e6:(chS T st col (l.map Ln.row) l.length).length=6:=rfl
 rw[e6]
 refine zS (zA ?_)
 simp[go_sem]
 refine yL2 xX0 hti htd hie xs9 hG ?_
 rw[<-hsc]
 simp[go_sem]
 have h7:(chS T st col (l.map Ln.row) l.length++ [.box [.lsv 0 3 l.length 0 l.length],.box [.raw (typeHandle prog 118),.ptr 6 0,.int .u64 151]])[7]? =some (.box [.raw (typeHandle prog 118),.ptr 6 0,.int .u64 151]):=rfl
 refine zA ?_
 simp[go_sem,h7]
 refine yz4 xX4 hti htd (by kernel_rfl) (id:=0) (s:=3) (n:=l.length) (m:=l.length) (k:=6) rfl ?_
 simp[go_sem]
 have hσ:chS T st col (l.map Ln.row) l.length++ [.box [.lsv 0 3 l.length 0 l.length],.box [.raw (typeHandle prog 118),.ptr 6 0,.int .u64 151]]=ssS T st col (l.map Ln.row) l.length:=rfl
 rw[hσ]
 refine ze9 8 hst2 cB (Au (A2 8)) rfl (hok l) ?_ ?_ ?_
 .rw[B7]
  refine wU ?_
  have:=S.cs_ok
  have e8:(ssS T st (col:Int) (l.map Ln.row) l.length).length=8:=rfl
  rw[e8]at this
  simp[ltS,ltA,ltC,this,ltK]
 .rintro r s ⟨rfl,rfl⟩
  exact⟨rfl,hok _,rfl⟩
 .rintro r s ⟨rfl,rfl⟩
  have hd8:(ssS T st (col:Int) (l.map Ln.row) l.length).drop 8= []:=rfl
  rw[hd8]
  simp[go_sem]
  exact xJ 6 (s:=chS T st col ((zg4 col st.down l).map Ln.row) l.length) rfl rfl (zF2 T st col _ _) (A2 _) (zC rfl) ⟨rfl,rfl⟩
end Go.Proofs.YtkigddpaonhmlaaGreat
