/-
  The document's cuts of a statement: its conjuncts that hold a column against a value, over trees (the library Vx); used by the theorem at the end of the claim.
  Conditions: as each theorem states them.
-/
import Derived.Test.YtefbicjgbaaieaaGreatLAN
import Derived.Test.YtefbicjgbaaieaaGreatLAL
import Derived.Lib.Bytealg
import Derived.Test.YtefbicjgbaaieaaGreatLAJ
import Derived.Test.YtefbicjgbaaieaaGreatLAK
set_option maxHeartbeats 8000000
namespace Go.Proofs.YtefbicjgbaaieaaGreat
open Go Go.Vx R Go.Proofs.Tryz
set_option maxRecDepth 100000
variable {a:Int}{U:St}
theorem yV8(l:dR)(hl:mO l):Pure prog 51 [.agg l.row] (.bool (iZ l)):=by
 obtain⟨L,hL⟩:=eX l.stmts;obtain⟨m,hm⟩:=eX l.mode;obtain⟨n,hn⟩:=eX l.n;obtain⟨ag,ae⟩:=hl.stmts;rw[hL]at ag ae;generalize hM:iZ l=M;unfold iZ N6 at hM;rw[hL,hm,hn]at hM;have no:∀h:Bool,(h&&L.all fG)=M->h=false->false=M:=λh q w=>by rw[w]at q;exact q
 refine iV 0 func51 ntmps51 results51 λc hc hb=>?_;refine zN (zA ?_);simp[go_sem];refine wM (S:=Unit) [1] (λ_=>[.ptr 0 0]) (λ_=>[.box l.row]) (λ_=>L.all fG=M) hc hb ?_ ?_
 .have d1:decide (m<0)=!decide (0<=m):=by
   by_cases h:0<=m;.rw[ahR h,ahQ om];rfl
   .rw[ahQ h,ahR om];rfl
  have d2:decide (2<m)=!decide (m<=2):=by
   by_cases h:m<=2;.rw[ahR h,ahQ om];rfl
   .rw[ahQ h,ahR om];rfl
  have d3:decide (n<0)=!decide (0<=n):=by
   by_cases h:0<=n;.rw[ahR h,ahQ om];rfl
   .rw[ahQ h,ahR om];rfl
  have d4:decide ((L.length:Int)<1)=!decide (1<=L.length):=by
   by_cases h:1<=L.length;.rw[ahR h,ahQ om];rfl
   .rw[ahQ h,ahR om];rfl
  have d5:decide ((8:Int)<L.length)=!decide (L.length<=8):=by
   by_cases h:L.length<=8;.rw[ahR h,ahQ om];rfl
   .rw[ahQ h,ahR om];rfl
  have d6:(n !=0)=!(n==0):=rfl;generalize decide (0<=m)=b1 at d1 hM;generalize decide (m<=2)=b2 at d2 hM;generalize decide (0<=n)=b3 at d3 hM;generalize decide (1<=L.length)=b4 at d4 hM;generalize decide (L.length<=8)=b5 at d5 hM;generalize(n==0)=b6 at d6 hM;have af:=no _ hM;have ab:((b1&&(b2&&(b3&&(!(m==0&&!b6)))))&&(b4&&b5))=true->L.all fG=M:=λh=>by rw[h,Ah]at hM;exact hM
  generalize ah:(m==0)=b7 at af ab;clear hM no;refine zA ?_;simp[go_sem,hm,hn,hL,d1];repeat'(first |(refine yA (λw=>?_) (λw=>?_)<;>simp[go_sem,w,ah,d2,d3,d4,d5,d6])|(refine zO (λw=>?_) (λw=>?_)<;>simp[go_sem,w]))
  all_goals first |exact dg (af (by simp_all))|exact zH () ⟨ab (by simp_all),bT 1 (by simp[go_sem,hm,hn,hL]) rfl (by simp[bO,cH,cF]) (A3 _) (zC sg rfl)⟩
 .rintro _ hM;refine zA ?_;simp[go_sem,hL];refine zG (S:=Nat) [1,3] (λi=>[.ptr 0 0,.int .i64 (i:Int)]) (λ_=>[.box l.row]) (λi=>L.length-i) (λi=>i<=L.length/\(L.drop i).all fG=M) hc hb 0 ⟨A3 _,by rw[Au];exact hM⟩ ?_ ?_;.exact bT 1 (by simp[go_sem,hm,hn,hL]) rfl (by simp[bO,cH,cF,dR.row]) (A3 _) (zC sg rfl)
  rintro i⟨hi,hinv⟩;by_cases q:i<L.length;rotate_left;.rw[A4 om]at hinv;refine zA ?_;simp[go_sem,hL,q];exact dg hinv
  have ei:=zR q om;rw[rG _ _ _ q]at hinv;obtain⟨st,ad⟩:=eX (L[i]);have aa:=yI6 st (ae st (ad▸A7 q));rw[ad]at hinv;generalize fG st=b at aa hinv;refine zA ?_;simp[go_sem,hL,q,ad];refine zJ aa cB (zK sg rfl) rfl ?_;refine(A1 b).elim (λp=>?_) (λp=>?_);.rw[p,Ah]at hinv;simp[go_sem,p,ei];exact zH (i+1) ⟨om,⟨om,hinv⟩,bT 1 (by simp[go_sem,hL]) rfl (by simp[bO,cH,cF]) (A3 _) (zC sg rfl)⟩
  .rw[p,B2]at hinv;simp[go_sem,p];exact dg hinv
theorem xM8{st:bQ}(h:fG st)(k:st.kind=1):∀x∈st.items,x.kind=1\/x.kind=2\/x.kind=3\/x.kind=4:=λx hx=>by
 unfold fG Ey at h;rw[ahP k]at h;simp only[A8]at h;have h1:=h.2.2.1;unfold xj at h1;rw[A8]at h1;have h2:=Aj.1 h1.1 x hx;unfold jy at h2;split at h2;.exact .inl (by assumption)
 split at h2;.exact .inr (.inr (.inl (by assumption)))
 split at h2;.rename_i h3;exact h3.elim (λh=>.inr (.inl h)) (λh=>.inr (.inr (.inr h)))
 .cases h2
theorem xg4(l:dR)(hl:mO l):Pure prog 25 [cA bI,.agg l.row] (yN (mh l)):=by
 have aj:=yV8 l hl;obtain⟨L,hL⟩:=eX l.stmts;obtain⟨av,aq⟩:=hl.stmts;rw[hL]at av aq;obtain⟨m,hm⟩:=eX l.mode;have ag:iZ l=true->∀st∈L,fG st:=λh st ad=>by unfold iZ at h;rw[hL,A8]at h;exact Aj.1 h.2 st ad
 generalize hM:mh l=M;unfold mh at hM;rw[hL,hm]at hM;generalize iZ l=b at aj hM ag;refine iV 0 func25 ntmps25 results25 λc hc hb=>?_;refine zA ?_;simp[go_sem,cA];refine zJ aj cB (zK sg rfl) rfl ?_;refine(A1 b).elim (λp=>?_) (λp=>?_);rotate_left;.rw[ahO (by rw[p];decide)]at hM;simp[go_sem,p];exact wT hM
 rw[ahP p]at hM;have ag:=ag p;simp[go_sem,p,hL];refine zG (S:=Nat) [2,3,6] (λi=>[.ptr 0 0,.ptr 1 0,.int .i64 (i:Int)]) (λ_=>[.box [.sl .ro yL,.sl .ro (bI.map bH.row)],.box l.row]) (λi=>L.length-i) (λi=>i<=L.length/\tR m (L.drop i) i=M) hc hb 0 ⟨A3 _,hM⟩ ?_ ?_;.exact bT 2 (by simp[go_sem,hL]) rfl (by simp[bO,cH,cF,dR.row]) (A3 _) (zC sg rfl)
 rintro i⟨hi,hinv⟩;by_cases q:i<L.length;rotate_left;.rw[A4 om,tR]at hinv;refine zA ?_;simp[go_sem,hL,q];exact wT hinv
 have ei:=zR q om;obtain⟨st,ad⟩:=eX (L[i]);have ar:st∈L:=ad▸A7 q;have hs:=aq st ar;have aw:=ag st ar;rw[A2 q,ad,tR]at hinv;obtain⟨ce,aa⟩:=eX (oJ st);rw[aa]at hinv;unfold oJ at aa;have al:=S3 bI st.table dc;rw[show xE (λt:bH=>t.name==st.table) bI 0=ir st.table from rfl]at al;have ax:=N8 st.table;generalize ir st.table=t at al ax aa;have go:∀(e U),ce=0->At 0 [2,3,6] [.ptr 0 0,.ptr 1 0,.int .i64 ((i+1:Nat):Int)] [.box [.sl .ro yL,.sl .ro (bI.map bH.row)],.box l.row] e U->¬(m≠0/\st.kind≠1)->Vx.Next (λs':Nat=>L.length-s'<L.length-i/\(s'<=L.length/\tR m (L.drop s') s'=M)/\At 0 [2,3,6] [.ptr 0 0,.ptr 1 0,.int .i64 (s':Int)] [.box [.sl .ro yL,.sl .ro (bI.map bH.row)],.box l.row] e U) fx:=λe U h1 h2 h3=>by rw[ahO h3,ahO (λg=>g h1)]at hinv;exact zH (i+1) ⟨om,⟨om,hinv⟩,h2⟩
 have bad:ce≠0->¬(m≠0/\st.kind≠1)->((i:Int),ce)=M:=λh1 h3=>by rw[ahO h3,ahP h1]at hinv;exact hinv
 refine zA ?_;simp[go_sem,hL,q,ad,hm];by_cases q1:m≠0/\st.kind≠1;.rw[ahP q1]at hinv;have ay:(m !=0)=true:=sU q1.1;have az:(st.kind !=1)=true:=sU q1.2;simp[go_sem,ay,az];exact wT hinv
 have key:(m !=0)=false\/((m !=0)=true/\(st.kind !=1)=false):=by
  by_cases h:m=0;.exact .inl (sU h)
  .refine .inr ⟨by simpa using h,?_⟩;simp only[bne_eq_false_iff_eq];exact Classical.byContradiction λg=>q1 ⟨h,g⟩
 clear hinv;have calls:¬t=-1->∃(j:Nat)(T:bH),t=j/\j<3/\bI[j]?=some T/\(st.kind=1->Pure prog 53 [.agg T.row,.agg st.row] (.int .i64 ce))/\(st.kind=2->Pure prog 54 [.agg T.row,.agg st.row] (.int .i64 ce))/\(st.kind=3->Pure prog 55 [.agg T.row,.agg st.row] (.int .i64 ce))/\(¬st.kind=1->¬st.kind=2->¬st.kind=3->Pure prog 56 [.agg T.row,.agg st.row] (.int .i64 ce)):=λah=>by
  have a7:¬t<0:=om;obtain⟨j,hj⟩:∃j:Nat,t=j:=⟨t.toNat,om⟩;have ae:j<bI.length:=by show j<3;omega
  obtain⟨T,hT⟩:=eX (bI[j]);have au:T.bP.length<=1000:=by rw[<-hT];match j,ae with |0,_=>exact(by decide:kY.bP.length<=1000)|1,_=>exact(by decide:rE.bP.length<=1000)|2,_=>exact(by decide:rF.bP.length<=1000)
  rw[hj,Ai,A0 ae,hT]at aa;simp only at aa;rw[ahO om]at aa;refine⟨j,T,hj,ae,by rw[A0 ae,hT],λk=>?_,λk=>?_,λk=>?_,λk1 k2 k3=>?_⟩;.rw[ahP k]at aa;rw[<-aa];exact yI8 T (by unfold maxLen;omega) st hs (xM8 aw k)
  .rw[ahO om,ahP k]at aa;rw[<-aa];exact yI5 T au st hs
  .rw[ahO om,ahO om,ahP k]at aa;rw[<-aa];exact yJ0 T au st hs
  .rw[ahO k1,ahO k2,ahO k3]at aa;rw[<-aa];exact Oa T (by unfold maxLen;omega) st hs
 rcases key with a1|⟨a1,a2⟩;case' inl=>simp[go_sem,a1]
 case' inr=>simp[go_sem,a1,a2]
 all_goals
  refine zJ al cB (zK (by simp[go_sem,cA]) rfl) rfl ?_;by_cases ah:t=-1
  .have aa:14=ce:=by rw[<-aa,ah];rfl
   simp[go_sem,ah];exact wT (by rw[aa];exact bad om q1)
  obtain⟨j,T,hj,ae,an,c1,c2,c3,c4⟩:=calls ah;obtain⟨a6,an⟩:=A5.1 an;have ak:decide (t<0)=false:=ahQ om;rw[hj]at ak;simp[go_sem,hj,ak,a6,an];by_cases k1:st.kind=1
  .have af:(st.kind==1)=true:=sU k1;simp[go_sem,af];refine zJ (c1 k1) cB (zK sg rfl) rfl ?_;by_cases qe:ce=0;.have ab:(ce !=0)=false:=sU qe;simp[go_sem,ab,ei];exact go _ _ qe (bT 2 (by simp[go_sem,hL,hm]) rfl (by simp[bO,cH,cF,dR.row]) (A3 _) (zC sg rfl)) q1
   .have ab:(ce !=0)=true:=sU qe;simp[go_sem,ab];exact wT (bad qe q1)
  have af:(st.kind==1)=false:=sU k1;by_cases k2:st.kind=2
  .have ai:(st.kind==2)=true:=sU k2;simp[go_sem,af,ai];refine zJ (c2 k2) cB (zK sg rfl) rfl ?_;by_cases qe:ce=0;.have ab:(ce !=0)=false:=sU qe;simp[go_sem,ab,ei];exact go _ _ qe (bT 2 (by simp[go_sem,hL,hm]) rfl (by simp[bO,cH,cF,dR.row]) (A3 _) (zC sg rfl)) q1
   .have ab:(ce !=0)=true:=sU qe;simp[go_sem,ab];exact wT (bad qe q1)
  have ai:(st.kind==2)=false:=sU k2;by_cases k3:st.kind=3
  .have ao:(st.kind==3)=true:=sU k3;simp[go_sem,af,ai,ao];refine zJ (c3 k3) cB (zK sg rfl) rfl ?_;by_cases qe:ce=0;.have ab:(ce !=0)=false:=sU qe;simp[go_sem,ab,ei];exact go _ _ qe (bT 2 (by simp[go_sem,hL,hm]) rfl (by simp[bO,cH,cF,dR.row]) (A3 _) (zC sg rfl)) q1
   .have ab:(ce !=0)=true:=sU qe;simp[go_sem,ab];exact wT (bad qe q1)
  have ao:(st.kind==3)=false:=sU k3;simp[go_sem,af,ai,ao];refine zJ (c4 k1 k2 k3) cB (zK sg rfl) rfl ?_;by_cases qe:ce=0;.have ab:(ce !=0)=false:=sU qe;simp[go_sem,ab,ei];exact go _ _ qe (bT 2 (by simp[go_sem,hL,hm]) rfl (by simp[bO,cH,cF,dR.row]) (A3 _) (zC sg rfl)) q1
  .have ab:(ce !=0)=true:=sU qe;simp[go_sem,ab];exact wT (bad qe q1)
abbrev eY(n:Int):Prop:=-9223372036854775808<=n/\n<=9223372036854775807
def dL(n:Int):Int×Int:=if eY n then(n,0)else(0,5)
theorem ly{n:Int}(h:eY n):IntKind.i64.wrap n=n:=Vx.bR h.1 h.2
theorem Od(a b:Int)(ha:eY a)(aa:eY b):Pure prog 291 [.int .i64 a,.int .i64 b] (yN (dL (a+b))):=by
 generalize hM:dL (a+b)=M;unfold dL at hM;have q:(0<b/\decide (0<b)=true/\decide (b<0)=false)\/(b<0/\decide (0<b)=false/\decide (b<0)=true)\/(b=0/\decide (0<b)=false/\decide (b<0)=false):=by simp only[ahS,ahZ];omega
 unfold eY at ha aa hM;refine iW 0 func291 ntmps291 results291 λc hc hb=>zM ?_;rcases q with⟨q,q1,q2⟩|⟨q,q1,q2⟩|⟨q,q1,q2⟩
 .have w1:IntKind.i64.wrap (9223372036854775807-b)=9223372036854775807-b:=ly ⟨om,om⟩;by_cases r:9223372036854775807-b<a;.have r':decide (9223372036854775807-b<a)=true:=ahR r;simp[go_sem,q1,w1,r'];exact xA (by rw[<-hM,ahO om])
  .have r':decide (9223372036854775807-b<a)=false:=ahQ r;have w2:IntKind.i64.wrap (a+b)=a+b:=ly ⟨om,om⟩;simp[go_sem,q1,q2,w1,r',w2];exact xA (by rw[<-hM,ahP om])
 .have w1:IntKind.i64.wrap (-9223372036854775808-b)=-9223372036854775808-b:=ly ⟨om,om⟩;by_cases r:a< -9223372036854775808-b;.have r':decide (a< -9223372036854775808-b)=true:=ahR r;simp[go_sem,q1,q2,w1,r'];exact xA (by rw[<-hM,ahO om])
  .have r':decide (a< -9223372036854775808-b)=false:=ahQ r;have w2:IntKind.i64.wrap (a+b)=a+b:=ly ⟨om,om⟩;simp[go_sem,q1,q2,w1,r',w2];exact xA (by rw[<-hM,ahP om])
 .have w2:IntKind.i64.wrap (a+b)=a+b:=ly ⟨om,om⟩;simp[go_sem,q1,q2,w2];exact xA (by rw[<-hM,ahP om])
theorem Oe(a b:Int)(ha:eY a)(aa:eY b):Pure prog 264 [.int .i64 a,.int .i64 b] (yN (dL (a+b))):=by
 generalize hM:dL (a+b)=M;unfold dL at hM;have q:(0<a/\decide (0<a)=true/\decide (a<0)=false)\/(a<0/\decide (0<a)=false/\decide (a<0)=true)\/(a=0/\decide (0<a)=false/\decide (a<0)=false):=by simp only[ahS,ahZ];omega
 unfold eY at ha aa hM;refine iW 0 func264 ntmps264 results264 λc hc hb=>zM ?_;rcases q with⟨q,q1,q2⟩|⟨q,q1,q2⟩|⟨q,q1,q2⟩
 .have w1:IntKind.i64.wrap (9223372036854775807-a)=9223372036854775807-a:=ly ⟨om,om⟩;by_cases r:9223372036854775807-a<b;.have r':decide (9223372036854775807-a<b)=true:=ahR r;simp[go_sem,q1,w1,r'];exact xA (by rw[<-hM,ahO om])
  .have r':decide (9223372036854775807-a<b)=false:=ahQ r;have w2:IntKind.i64.wrap (a+b)=a+b:=ly ⟨om,om⟩;simp[go_sem,q1,q2,w1,r',w2];exact xA (by rw[<-hM,ahP om])
 .have w1:IntKind.i64.wrap (-9223372036854775808-a)=-9223372036854775808-a:=ly ⟨om,om⟩;by_cases r:b< -9223372036854775808-a;.have r':decide (b< -9223372036854775808-a)=true:=ahR r;simp[go_sem,q1,q2,w1,r'];exact xA (by rw[<-hM,ahO om])
  .have r':decide (b< -9223372036854775808-a)=false:=ahQ r;have w2:IntKind.i64.wrap (a+b)=a+b:=ly ⟨om,om⟩;simp[go_sem,q1,q2,w1,r',w2];exact xA (by rw[<-hM,ahP om])
 .have w2:IntKind.i64.wrap (a+b)=a+b:=ly ⟨om,om⟩;simp[go_sem,q1,q2,w2];exact xA (by rw[<-hM,ahP om])
theorem Og(x:Nat)(hx:x<18446744073709551616):jX .and .u64 (x:Int) 4294967295=((x%4294967296:Nat):Int):=by
 unfold jX;have h1:(BitVec.ofInt IntKind.u64.bits (x:Int)).toNat=x:=by rw[BitVec.toNat_ofInt];show((x:Int)%(18446744073709551616:Nat)).toNat=x;omega
 have h2:(BitVec.ofInt IntKind.u64.bits 4294967295).toNat=4294967295:=dc;simp only[BitVec.toNat_and,h1,h2];have h3:=Nat.and_two_pow_sub_one_eq_mod x 32;have h4:(2:Nat)^32-1=4294967295:=dc;have h5:(2:Nat)^32=4294967296:=dc;rw[h4,h5]at h3;rw[h3];exact Vx.cC om om
theorem HY(x:Nat):(x:Int).fdiv 4294967296=((x/4294967296:Nat):Int):=by rw[Int.fdiv_eq_ediv_of_nonneg _ dc];rfl
theorem ww0(n:Nat):IntKind.u64.wrap (n:Int)=((n%18446744073709551616:Nat):Int):=by unfold IntKind.wrap;simp[IntKind.bits,IntKind.signed]
theorem nZ{n:Nat}(h:n<18446744073709551616):IntKind.u64.wrap (n:Int)=(n:Int):=Vx.cC om om
theorem xz0(a b c d:Nat)(ha:a<4294967296)(hb:b<4294967296)(hc:c<4294967296)(hd:d<4294967296):a*d<=18446744065119617025/\b*c<=18446744065119617025/\a*c<=18446744065119617025/\b*d<=18446744065119617025/\(a*4294967296+b)*(c*4294967296+d)=(a*c)*18446744073709551616+(a*d)*4294967296+(b*c)*4294967296+b*d:=by
 have m:∀x y:Nat,x<4294967296->y<4294967296->x*y<=18446744065119617025:=λx y hx hy=>by have:=Nat.mul_le_mul (show x<=4294967295by omega) (show y<=4294967295by omega);simpa using this
 refine⟨m _ _ ha hd,m _ _ hb hc,m _ _ ha hc,m _ _ hb hd,?_⟩;rw[B0,Nat.mul_add,Nat.mul_add];have e1:a*4294967296*(c*4294967296)=(a*c)*18446744073709551616:=by rw[Nat.mul_mul_mul_comm]
 have e2:a*4294967296*d=(a*d)*4294967296:=by rw[Nat.mul_right_comm]
 have e3:b*(c*4294967296)=(b*c)*4294967296:=by rw[Nat.mul_assoc]
 rw[e1,e2,e3];omega
theorem xp(x y:Nat):(x:Int)*(y:Int)=((x*y:Nat):Int):=sm
theorem Kz(x y:Nat):(x:Int)+(y:Int)=((x+y:Nat):Int):=sm
theorem xX7(x y:Nat)(hx:x<18446744073709551616)(hy:y<18446744073709551616):Pure prog 360 [.int .u64 x,.int .u64 y] (.cm [.int .u64 ((x*y/18446744073709551616:Nat):Int),.int .u64 ((x*y%18446744073709551616:Nat):Int)]):=by
 obtain⟨m1,m2,m3,m4,m5⟩:=xz0 (x/4294967296) (x%4294967296) (y/4294967296) (y%4294967296) om om om om;have ex:x/4294967296*4294967296+x%4294967296=x:=Nat.div_add_mod' x 4294967296;have ey:y/4294967296*4294967296+y%4294967296=y:=Nat.div_add_mod' y 4294967296;rw[ex,ey]at m5;have a1:=Og x hx;have a2:=Og y hy;have a3:=HY x;have a4:=HY y;generalize aa:x/4294967296=x1 at*;generalize ab:x%4294967296=x0 at*;generalize ad:y/4294967296=y1 at*;generalize ae:y%4294967296=y0 at*;obtain⟨p,hp⟩:∃p,p=x1*y1:=⟨_,rfl⟩;obtain⟨q,hq⟩:∃q,q=x1*y0:=⟨_,rfl⟩;obtain⟨r,hr⟩:∃r,r=x0*y1:=⟨_,rfl⟩;obtain⟨s,hs⟩:∃s,s=x0*y0:=⟨_,rfl⟩;rw[<-hq]at m1 m5;rw[<-hr]at m2 m5;rw[<-hp]at m3 m5;rw[<-hs]at m4 m5;refine iW 0 func360 ntmps360 results360 λc hc hb=>zM ?_;simp[go_sem,a1,a2,a3,a4];refine zV (zD rfl) ⟨?_,rfl⟩;rw[xp x1 y1,<-hp,xp x1 y0,<-hq,xp x0 y1,<-hr,xp x0 y0,<-hs,nZ (n:=s) om,nZ (n:=p) om,nZ (n:=q) om,nZ (n:=r) om,HY s,Kz,nZ (n:=q+s/4294967296) om,HY,Og _ om,Kz,Kz,nZ (n:=p+(q+s/4294967296)/4294967296) om,nZ (n:=(q+s/4294967296)%4294967296+r) om,HY,Kz,nZ om,xp,ww0];have e:p+(q+s/4294967296)/4294967296+((q+s/4294967296)%4294967296+r)/4294967296=x*y/18446744073709551616:=by rw[m5];omega
 rw[e];rfl
theorem xW7(h:a<0)(h2:-9223372036854775808<=a):IntKind.u64.wrap (-IntKind.u64.wrap a)=(a.natAbs:Int):=by
 have e:IntKind.u64.wrap a=a+18446744073709551616:=by unfold IntKind.wrap;simp[IntKind.bits,IntKind.signed];omega
 rw[e];unfold IntKind.wrap;simp[IntKind.bits,IntKind.signed];omega
theorem Tw(a:Int)(ha:eY a):Pure prog 361 [.int .i64 a] (.int .u64 (a.natAbs:Int)):=by
 unfold eY at ha;refine iW 0 func361 ntmps361 results361 λc hc hb=>zM ?_;simp[go_sem];by_cases q:a<0;.have q1:decide (a<0)=true:=ahR q;simp[go_sem,q1];refine zV (zD rfl) ⟨?_,rfl⟩;rw[xW7 q ha.1]
 .have q1:decide (a<0)=false:=ahQ q;simp[go_sem,q1];refine zV (zD rfl) ⟨?_,rfl⟩;rw[Vx.cC om om];congr 1;omega
theorem Tx(a:Int)(ha:eY a):Pure prog 363 [.int .i64 a] (.int .u64 (a.natAbs:Int)):=by
 unfold eY at ha;refine iW 0 func363 ntmps363 results363 λc hc hb=>zM ?_;simp[go_sem];by_cases q:a<0;.have q1:decide (a<0)=true:=ahR q;simp[go_sem,q1];refine zV (zD rfl) ⟨?_,rfl⟩;rw[Vx.bR (n:=a+1) om om,Vx.bR (n:=-(a+1)) om om,Vx.cC (n:=-(a+1)) om om,Vx.cC om om];congr 1;omega
 .have q1:decide (a<0)=false:=ahQ q;simp[go_sem,q1];refine zV (zD rfl) ⟨?_,rfl⟩;rw[Vx.cC om om];congr 1;omega
def vf(a b:Int):Nat:=if decide (a<0)=decide (b<0)then 9223372036854775807 else 9223372036854775808
theorem Ty(a b:Int):eY (a*b)↔a.natAbs*b.natAbs<=vf a b:=by
 obtain⟨n,hn⟩:=Int.eq_nat_or_neg a;obtain⟨m,hm⟩:=Int.eq_nat_or_neg b;have e:a.natAbs=n/\b.natAbs=m:=⟨om,om⟩;rw[e.1,e.2];have z1:n=0->n*m=0:=λh=>by subst h;exact Cz m
 have z2:m=0->n*m=0:=λh=>by subst h;exact Nat.mul_zero n
 unfold vf eY;rcases hn with rfl|rfl<;>rcases hm with rfl|rfl;.rw[xp,ahQ om,ahQ om,ahP rfl];generalize n*m=p at*;omega
 .rw[Int.mul_neg,xp];generalize n*m=p at*;rw[ahQ om];by_cases q:-(m:Int)<0;.rw[ahR q,ahO sm];omega
  .rw[ahQ q,ahP rfl];have:=z2 om;omega
 .rw[Int.neg_mul,xp];generalize n*m=p at*;rw[ahQ (p:=(m:Int)<0) om];by_cases q:-(n:Int)<0;.rw[ahR q,ahO sm];omega
  .rw[ahQ q,ahP rfl];have:=z1 om;omega
 .rw[Int.neg_mul_neg,xp];generalize n*m=p at*;by_cases q:-(n:Int)<0<;>by_cases q2:-(m:Int)<0;.rw[ahR q,ahR q2,ahP rfl];omega
  .have:=z2 om;rw[ahR q,ahQ q2,ahO sm];omega
  .have:=z1 om;rw[ahQ q,ahR q2,ahO sm];omega
  .have:=z1 om;rw[ahQ q,ahQ q2,ahP rfl];omega
theorem Tz(a b:Int):((!(decide (a<0)==decide (b<0)))=true->vf a b=9223372036854775808)/\((!(decide (a<0)==decide (b<0)))=false->vf a b=9223372036854775807):=by unfold vf;generalize decide (a<0)=x;generalize decide (b<0)=y;cases x<;>cases y<;>simp
theorem ws5(a b:Int)(ha:eY a)(ab:eY b):Pure prog 349 [.int .i64 a,.int .i64 b] (yN (dL (a*b))):=by
 have af:=Tw a ha;have ag:=Tw b ab;have ad:a.natAbs<18446744073709551616/\b.natAbs<18446744073709551616:=by unfold eY at ha ab;omega
 have hm:=xX7 a.natAbs b.natAbs ad.1 ad.2;have cK:=Ty a b;have ah:vf a b<=9223372036854775808:=by unfold vf;split<;>omega
 have ae:=Tz a b;generalize hP:a.natAbs*b.natAbs=p at*;have ai:p/18446744073709551616*18446744073709551616+p%18446744073709551616=p:=Nat.div_add_mod' _ _;have aj:p%18446744073709551616<18446744073709551616:=Ci _ dc;generalize p/18446744073709551616=hi at*;generalize p%18446744073709551616=lo at*;generalize hM:dL (a*b)=M;unfold dL at hM;refine iW 0 func349 ntmps349 results349 λc hc hb=>zM ?_;simp[go_sem];refine pC af ?_;simp[go_sem];refine pC ag ?_;simp[go_sem];refine pC hm ?_;simp[go_sem];have u1:IntKind.u64.wrap 9223372036854775808=9223372036854775808:=dc;refine zO (λv2=>?_) (λv2=>?_)
 .rw[ae.1 v2]at cK;by_cases q:p<=9223372036854775808;.have f1:decide (0<hi)=false:=ahQ om;have f3:decide ((9223372036854775808:Int)<(lo:Int))=false:=ahQ om;have w:=ly (cK.2 q);simp[go_sem,f1,f3,w,u1];exact xA (by rw[<-hM,ahP (cK.2 q)])
  .have aa:¬eY (a*b):=λh=>q (cK.1 h);have f4:decide (0<hi)=true\/(decide (0<hi)=false/\decide ((9223372036854775808:Int)<(lo:Int))=true):=by simp only[ahS,ahZ];omega
   rcases f4 with f4|⟨f4,f5⟩;.simp[go_sem,f4];exact xA (by rw[<-hM,ahO aa])
   .simp[go_sem,f4,f5,u1];exact xA (by rw[<-hM,ahO aa])
 .rw[ae.2 v2]at cK;by_cases q:p<=9223372036854775807;.have f1:decide (0<hi)=false:=ahQ om;have f3:decide ((9223372036854775807:Int)<(lo:Int))=false:=ahQ om;have w:=ly (cK.2 q);simp[go_sem,f1,f3,w];exact xA (by rw[<-hM,ahP (cK.2 q)])
  .have aa:¬eY (a*b):=λh=>q (cK.1 h);have f4:decide (0<hi)=true\/(decide (0<hi)=false/\decide ((9223372036854775807:Int)<(lo:Int))=true):=by simp only[ahS,ahZ];omega
   rcases f4 with f4|⟨f4,f5⟩;.simp[go_sem,f4];exact xA (by rw[<-hM,ahO aa])
   .simp[go_sem,f4,f5];exact xA (by rw[<-hM,ahO aa])
theorem Oh(a b:Int)(ha:eY a)(ab:eY b):Pure prog 317 [.int .i64 a,.int .i64 b] (yN (dL (a-b))):=by
 by_cases q:b=-9223372036854775808
 .generalize hM:dL (a-b)=M;unfold dL at hM;unfold eY at ha;have q1:(b !=-9223372036854775808)=false:=sU q;refine iW 0 func317 ntmps317 results317 λc hc hb=>zM ?_;simp[go_sem,q1];by_cases r:0<=a;.have r1:decide (0<=a)=true:=ahR r;simp[go_sem,r1];exact xA (by rw[<-hM,ahO om])
  .have r1:decide (0<=a)=false:=ahQ r;have w:IntKind.i64.wrap (a-b)=a-b:=ly ⟨om,om⟩;simp[go_sem,r1,w];exact xA (by rw[<-hM,ahP (by unfold eY;omega)])
 .have hn:eY (-b):=by unfold eY at*;omega
  have w:IntKind.i64.wrap (-b)=-b:=ly hn;have q1:(b !=-9223372036854775808)=true:=sU q;have aa:=Od a (-b) ha hn;have e:a+-b=a-b:=om;rw[e]at aa;generalize dL (a-b)=M at*;refine iW 0 func317 ntmps317 results317 λc hc hb=>zM ?_;simp[go_sem,q1,w];refine pC aa ?_;simp[go_sem,yN];exact wR
def xq(s:aij)(a b:Int):Int×Int:=if s=[43]then dL (a+b)else if s=[45]then dL (a-b)else if s=[42]then dL (a*b)else if b=0then(0,17)else if s=[37]then(a.tmod b,0)else dL (a.tdiv b)
theorem wf9{b:Int}(ha:eY a)(hb:eY b):eY (a.tmod b):=by
 unfold eY at*;by_cases q:b=0;.subst q;rw[Int.tmod_zero];exact ha
 .have h2:(a.tmod b).natAbs=a.natAbs%b.natAbs:=Int.natAbs_tmod a b;have h3:a.natAbs%b.natAbs<=a.natAbs:=Nat.mod_le _ _;have h4:(a.tmod b).natAbs<b.natAbs:=by rw[h2];exact Ci _ om
  omega
theorem Oi{b:Int}(ha:eY a)(_hb:eY b)(h:b≠-1):eY (a.tdiv b):=by
 unfold eY at*;have h2:(a.tdiv b).natAbs=a.natAbs/b.natAbs:=Int.natAbs_tdiv a b;by_cases q:b.natAbs<=1
 .have:b=0\/b=1:=om;rcases this with rfl|rfl;.rw[Int.tdiv_zero];omega
  .rw[Int.tdiv_one];exact ha
 .have h3:a.natAbs/b.natAbs<=a.natAbs/2:=Nat.div_le_div_left om om;omega
theorem xQ0(s:aij)(a b:Int)(ha:eY a)(aa:eY b):Pure prog 319 [.str s,.int .i64 a,.int .i64 b] (yN (xq s a b)):=by
 have c1:=Od a b ha aa;have c2:=Oh a b ha aa;have c3:=ws5 a b ha aa;have c4:=Oh 0 a dc ha;have e4:dL (0-a)=dL (-a):=by congr 1;omega
 rw[e4]at c4;have wr:∀{x:Int×Int}{M:Int×Int}{U:St},x=M->bW (some (.cm [.int .i64 x.1,.int .i64 x.2])) 0 (λv s=>v=yN M/\s=[]) U:=λh=>xA h.symm;generalize hM:xq s a b=M;unfold xq at hM;refine iW 0 func319 ntmps319 results319 λc hc hb=>zM ?_;simp[go_sem];by_cases s1:s=[43];.simp only[s1,ahP]at hM;simp[go_sem,s1];refine pC c1 ?_;simp[go_sem,yN];exact wr hM
 by_cases s2:s=[45];.rw[ahO s1,ahP s2]at hM;simp[go_sem,s2];refine pC c2 ?_;simp[go_sem,yN];exact wr hM
 by_cases s3:s=[42];.rw[ahO s1,ahO s2,ahP s3]at hM;simp[go_sem,s3];refine pC c3 ?_;simp[go_sem,yN];exact wr hM
 rw[ahO s1,ahO s2,ahO s3]at hM;have af:(s==[43])=false:=sU s1;have ag:(s==[45])=false:=sU s2;have ah:(s==[42])=false:=sU s3;simp[go_sem,af,ag,ah];by_cases b0:b=0;.rw[ahP b0]at hM;have ab:(b==0)=true:=sU b0;simp[go_sem,ab];exact xA hM.symm
 rw[ahO b0]at hM;have ab:(b==0)=false:=sU b0;simp[go_sem,ab];by_cases s4:s=[37];.rw[ahP s4]at hM;have ad:(s==[37])=true:=sU s4;simp[go_sem,ad];refine zF b0 ?_;simp[go_sem];exact xA hM.symm
 rw[ahO s4]at hM;have ad:(s==[37])=false:=sU s4;simp[go_sem,ad];by_cases b1:b=-1;.rw[b1,Int.tdiv_neg,Int.tdiv_one]at hM;have ae:(b==-1)=true:=sU b1;simp[go_sem,ae];refine pC c4 ?_;simp[go_sem,yN];exact wr hM
 have ae:(b==-1)=false:=sU b1;have ok:=Oi ha aa b1;unfold dL at hM;rw[ahP ok]at hM;simp[go_sem,ae,ly ok];refine zF b0 ?_;simp[go_sem];exact xA hM.symm
def gH(a b:aij):Int:=if Op.bytesLess a b=true then-1 else if Op.bytesLess b a=true then 1 else 0
theorem TA:∀a b:aij,Lib.compareBytes a b=gH a b
 |[],[]=>rfl|[],_::_=>rfl|_::_,[]=>rfl|x::a,y::b=>by
  have ih:=TA a b;rw[Lib.compareBytes];unfold gH at ih⊢;rw[SH,SH];have h1:(x<y)↔x.toNat<y.toNat:=UInt8.lt_iff_toNat_lt;have h2:(y<x)↔y.toNat<x.toNat:=UInt8.lt_iff_toNat_lt;by_cases q:x<y;.have:=h1.1 q;rw[ahP q,ahP this];rfl
  by_cases q2:y<x;.have:=h2.1 q2;have n1:¬x.toNat<y.toNat:=λh=>q (h1.2 h);rw[ahO q,ahP q2,ahO n1,ahP this,ahP this];rfl
  .have n1:=λh=>q (h1.2 h);have n2:=λh=>q2 (h2.2 h);rw[ahO q,ahO q2,ahO n1,ahO n2,ahO n2,ahO n1];exact ih
theorem yO6{a b:aij}{c:Ctx}{K:V->St->Prop}{e:Fx K}(hk:K (.int .i64 (gH a b)) U):jE prog c (.fn 309 []) [.str a,.str b] U K e:=by refine⟨_,[],rfl,.inr λw L I aa hm ha=>?_⟩;match aa,ha with |[v1,v2],⟨h1,h2,_⟩=>rw[lF h1,lF h2];refine⟨.int .i64 (gH a b),.int .i64 (gH a b),w,L,U,I,?_,hk,hm,Le.refl _ _,Ext.refl _ _,cy.int _ _⟩;rw[run_callFunc_extern func309 kR kR kR (e:=Extern.BytealgCompare.compare) kR,Lib.run_compareString];rw[List.toList_toArray,List.toList_toArray,TA];rfl
theorem xv1(a b:aij):Pure prog 247 [.str a,.str b] (.int .i64 (gH a b)):=by refine iW 0 func247 ntmps247 results247 λc hc hb=>zM ?_;simp[go_sem];refine yO6 ?_;simp[go_sem];exact wR
theorem TB(a b:aij):Pure prog 164 [.str a,.str b] (.int .i64 (gH a b)):=by refine iW 0 func164 ntmps164 results164 λc hc hb=>zM ?_;simp[go_sem];refine pC (xv1 a b) ?_;simp[go_sem];exact wR
theorem TC(x:Int):Pure prog 303 [.int .i64 x] (.bool false):=by refine iW 0 func303 ntmps303 results303 λc hc hb=>zM ?_;simp[go_sem];exact wR
theorem xb9(x y:Int):Pure prog 236 [.int .i64 x,.int .i64 y] (.int .i64 (fR x y)):=by
 generalize hM:fR x y=M;have ret:∀(r:Int)(U:St),r=M->bW (some (.int .i64 r)) 0 (λr s=>r=.int .i64 M/\s=[]) U:=λr U h=>by subst h;exact wR
 unfold fR at hM;refine iW 0 func236 ntmps236 results236 λc hc hb=>zM ?_;simp[go_sem];refine pC (TC x) ?_;simp[go_sem];refine pC (TC y) ?_;simp[go_sem];repeat'(first|(refine zO (λq=>?_) (λq=>?_)<;>simp[go_sem,q]))
 all_goals exact ret _ _ (by rw[<-hM];simp only[ahS,ahZ]at*;(repeat' split)<;>omega)
def oK:aim->Int |[]=>0|x::l=>if x=0then oK l else x
theorem HZ(l:aim)(hl:l.length<=maxLen):Pure prog 163 [.sl .ro (l.map λn=>[V.int .i64 n])] (.int .i64 (oK l)):=by
 generalize hM:oK l=M;have ret:∀(r:Int)(U:St),r=M->bW (some (.int .i64 r)) 0 (λr s=>r=.int .i64 M/\s=[]) U:=λr U h=>by subst h;exact wR
 refine iV 0 func163 ntmps163 results163 λc hc hb=>?_;refine zA ?_;simp[go_sem];refine zG (S:=Nat) [3,6,7,8] (λi=>[.int .i64 0,.sl .ro (l.map λn=>[V.int .i64 n]),.int .i64 l.length,.int .i64 i]) (λ_=>[]) (λi=>l.length-i) (λi=>i<=l.length/\oK (l.drop i)=M) hc hb 0 ⟨A3 _,hM⟩ ?_ ?_;.exact aO
 rintro i⟨hi,hinv⟩;by_cases q:i<l.length;rotate_left;.have e:l.drop i=[]:=A4 om;rw[e]at hinv;refine zA ?_;simp[go_sem,q];exact ret _ _ hinv
 have ei:=zR q (by unfold maxLen at hl;omega);obtain⟨r,hr⟩:=eX (l[i]);rw[A2 q,oK,hr]at hinv;refine zA ?_;simp[go_sem,q,hr];by_cases w1:r=0
 .rw[ahP w1]at hinv;have aa:(r !=0)=false:=by simp[w1]
  simp[go_sem,aa,ei];exact zH (i+1) ⟨om,⟨q,hinv⟩,aO⟩
 rw[ahO w1]at hinv;have aa:(r !=0)=true:=sU w1;simp[go_sem,aa];exact ret _ _ hinv
def fw(a b:bF):Int:=oK [fR a.kind b.kind,fR a.n b.n,gH a.s b.s]
theorem TD(a b:bF):Pure prog 159 [.agg a.row,.agg b.row] (.int .i64 (fw a b)):=by have h:=HZ [fR a.kind b.kind,fR a.n b.n,gH a.s b.s] (by simp[maxLen]);have h1:=Tp a.kind b.kind;have h2:=xb9 a.n b.n;have h3:=TB a.s b.s;unfold fw;generalize oK [fR a.kind b.kind,fR a.n b.n,gH a.s b.s]=M at*;refine iW 0 func159 ntmps159 results159 λc hc hb=>zM ?_;simp[go_sem];refine yB [(4,0),(9,0),(14,0),(16,0)] 2 rfl kR kR ?_;simp[go_sem];refine pD h1 ?_;simp[go_sem];refine pD h2 ?_;simp[go_sem];refine pD h3 ?_;simp[go_sem];refine pD h ?_;simp[go_sem];exact wR
def dP(x:bF×Int):V:=.cm [.agg x.1.row,.int .i64 x.2]
def zeroV:bF:=⟨0,0,[]⟩
def k8(r:Int×Int):bF×Int:=if r.2=0then(⟨2,r.1,[]⟩,0)else(zeroV,r.2)
theorem KA{x:bF×Int}{k n e:Int}{s:aij}(h:x=(⟨k,n,s⟩,e)):bW (some (.cm [.agg [.int .i64 k,.int .i64 n,.str s],.int .i64 e])) 0 (λv s=>v=dP x/\s=[]) U:=by subst h;exact wR
theorem TE(r:Int×Int):Pure prog 316 [.int .i64 r.1,.int .i64 r.2] (dP (k8 r)):=by
 generalize hM:k8 r=M;unfold k8 at hM;refine iW 0 func316 ntmps316 results316 λc hc hb=>zM ?_;simp[go_sem];by_cases q:r.2=0;.rw[ahP q]at hM;have q1:(r.2!=0)=false:=sU q;simp[go_sem,q1];exact KA hM.symm
 .rw[ahO q]at hM;have q1:(r.2!=0)=true:=sU q;simp[go_sem,q1];exact KA hM.symm
def rH(s:aij)(c:Int):Bool:=if s=[61]then c==0 else if s=[60,62]then c !=0 else if s=[60]then decide (c<0)else if s=[60,61]then decide (c<=0)else if s=[62]then decide (0<c)else decide (0<=c)
theorem wa8(s:aij)(x:Int):Pure prog 318 [.str s,.int .i64 x] (.bool (rH s x)):=by
 generalize hM:rH s x=M;have ret:∀(r:Bool)(U:St),r=M->bW (some (.bool r)) 0 (λr s=>r=.bool M/\s=[]) U:=λr U h=>by subst h;exact wR
 unfold rH at hM;refine iW 0 func318 ntmps318 results318 λc hc hb=>zM ?_;simp[go_sem];repeat'(first|(refine zO (λq=>?_) (λq=>?_)<;>simp[go_sem,q]))
 all_goals exact ret _ _ (by rw[<-hM];simp only[ahX,beq_eq_false_iff_ne,ne_eq]at*;simp_all)
def vg(v:bF):Bool:=v.kind==1&&(v.n==1&&v.s.isEmpty)
theorem TF(v:bF):Pure prog 153 [.agg v.row] (.bool (vg v)):=by have h:=FN true;refine iW 0 func153 ntmps153 results153 λc hc hb=>zM ?_;simp[go_sem];refine yB [(1,0)] 1 rfl kR kR ?_;simp[go_sem];refine pD h ?_;simp[go_sem,xX];exact wR
def p8(xt:Int):List bF->Bool->bF |[],b=>if b=true then zeroV else xX (xt==0)|v::l,b=>if v.kind=0then p8 xt l true else if v.n=xt then v else p8 xt l b
theorem TG(l:List bF)(aa:Int)(hl:l.length<=maxLen):Pure prog 315 [.sl .ro (l.map bF.row),.int .i64 aa] (.agg (p8 aa l false).row):=by
 generalize hM:p8 aa l false=M;have ret:∀(v:bF)(U:St),v=M->bW (some (.agg v.row)) 0 (λr s=>r=.agg M.row/\s=[]) U:=λv U h=>by subst h;exact wR
 refine iV 0 func315 ntmps315 results315 λc hc hb=>?_;refine zA ?_;simp[go_sem];refine zG (S:=Nat×Bool) [1,4,5,8,9,10] (λu=>[.int .i64 aa,.ptr 0 0,.bool u.2,.sl .ro (l.map bF.row),.int .i64 l.length,.int .i64 u.1]) (λ_=>[.box [.int .i64 0,.int .i64 0,.str []]]) (λu=>l.length-u.1) (λu=>u.1<=l.length/\p8 aa (l.drop u.1) u.2=M) hc hb (0,false) ⟨A3 _,hM⟩ ?_ ?_;.exact aN 1 (by simp[bO,cH,cF])
 rintro⟨i,b⟩⟨hi,hinv⟩;simp only at hi hinv;by_cases q:i<l.length;rotate_left
 .have e:l.drop i=[]:=A4 om;rw[e,p8]at hinv;refine zA ?_;simp[go_sem,q];by_cases w1:b=true;.rw[ahP w1]at hinv;simp[go_sem,w1];exact ret zeroV _ hinv
  .rw[ahO w1]at hinv;have ab:b=false:=sU w1;simp[go_sem,ab];refine pC (FN (aa==0)) ?_;simp[go_sem];exact ret _ _ hinv
 have ei:=zR q (by unfold maxLen at hl;omega);obtain⟨r,hr⟩:=eX (l[i]);rw[A2 q,p8,hr]at hinv;refine zA ?_;simp[go_sem,q,hr];refine pC (JT r) ?_;simp[go_sem];by_cases w1:r.kind=0;.rw[ahP w1]at hinv;have ab:(r.kind==0)=true:=sU w1;simp[go_sem,ab,ei];exact zH (i+1,true) ⟨by simp only;omega,⟨q,hinv⟩,aN 1 (by simp[bO,cH,cF])⟩
 rw[ahO w1]at hinv;have ab:(r.kind==0)=false:=sU w1;by_cases w2:r.n=aa;.rw[ahP w2]at hinv;have ad:(r.n==aa)=true:=sU w2;simp[go_sem,ab,ad];exact ret r _ hinv
 rw[ahO w2]at hinv;have ad:(r.n==aa)=false:=sU w2;simp[go_sem,ab,ad,ei];exact zH (i+1,b) ⟨by simp only;omega,⟨q,hinv⟩,aN 1 (by simp[bO,cH,cF])⟩
def mU:List aij:=[[61],[60,62],[60],[60,61],[62],[62,61]]
def lz(s:aij)(l:List bF):bF×Int:=let x:=l.getD 0 zeroV
 let y:=l.getD 1 zeroV
 if s=[73,83,78,85,76,76]then(xX (x.kind==0),0)else if s=[78,79,84,78,85,76,76]then(xX (!(x.kind==0)),0)else if s=[65,78,68]then(p8 0 l false,0)else if s=[79,82]then(p8 1 l false,0)else if(l.any λv=>v.kind==0)=true then(zeroV,0)else if s=[78,79,84]then(xX (!vg x),0)else if s=[78,69,71]then k8 (dL (-x.n))else if mU.contains s=true then(xX (rH s (fw x y)),0)else k8 (xq s x.n y.n)
theorem sF{x:bF×Int}{M:bF×Int}(h:x=M):bW (some (.cm [.agg x.1.row,.int .i64 x.2])) 0 (λv s=>v=dP M/\s=[]) U:=by subst h;exact wR
theorem wl7(s:aij)(l:List bF)(h1:1<=l.length)(h2:l.length<=2)(hn:∀v∈l,eY v.n)(hs:l.length=1->s=[73,83,78,85,76,76]\/s=[78,79,84,78,85,76,76]\/s=[78,79,84]\/s=[78,69,71]):Pure prog 254 [.str s,.sl .ro (l.map bF.row)] (dP (lz s l)):=by
 obtain⟨x,hx⟩:=eX (l[0]'h1);have ag:l.getD 0 zeroV=x:=by rw[A9,A0 h1,hx];rfl
 have an:l[0]?=some x:=by rw[A0 h1,hx]
 have aa:0<l.length:=h1;have ad:eY x.n:=hn x (hx▸A7 h1);generalize hM:lz s l=M;have ret:∀(v:bF)(e:Int)(U:St),(v,e)=M->bW (some (.cm [.agg v.row,.int .i64 e])) 0 (λr s=>r=dP M/\s=[]) U:=λv e U h=>sF h;unfold lz at hM;simp only[ag]at hM;refine iV 0 func254 ntmps254 results254 λc hc hb=>?_;by_cases a1:s=[73,83,78,85,76,76];.rw[ahP a1]at hM;refine zA ?_;simp[go_sem,a1,aa,hx];refine pC (JT x) ?_;simp[go_sem];refine pC (FN (x.kind==0)) ?_;simp[go_sem];exact ret _ _ _ hM
 by_cases a2:s=[78,79,84,78,85,76,76];.rw[ahO a1,ahP a2]at hM;refine zA ?_;simp[go_sem,a2,aa,hx];refine pC (JT x) ?_;simp[go_sem];refine pC (FN (!(x.kind==0))) ?_;simp[go_sem];exact ret _ _ _ hM
 by_cases a3:s=[65,78,68];.rw[ahO a1,ahO a2,ahP a3]at hM;refine zA ?_;simp[go_sem,a3];refine pC (TG l 0 (by unfold maxLen;omega)) ?_;simp[go_sem];exact ret _ _ _ hM
 by_cases a4:s=[79,82];.rw[ahO a1,ahO a2,ahO a3,ahP a4]at hM;refine zA ?_;simp[go_sem,a4];refine pC (TG l 1 (by unfold maxLen;omega)) ?_;simp[go_sem];exact ret _ _ _ hM
 rw[ahO a1,ahO a2,ahO a3,ahO a4]at hM;have b1:(s==[73,83,78,85,76,76])=false:=sU a1;have b2:(s==[78,79,84,78,85,76,76])=false:=sU a2;have b3:(s==[65,78,68])=false:=sU a3;have b4:(s==[79,82])=false:=sU a4;refine zA ?_;simp[go_sem,b1,b2,b3,b4];refine zG (S:=Nat) [0,1,4,5,32,33,34] (λi=>[.str s,.sl .ro (l.map bF.row),.ptr 0 0,.int .i64 0,.sl .ro (l.map bF.row),.int .i64 l.length,.int .i64 i]) (λ_=>[.box [.int .i64 0,.int .i64 0,.str []]]) (λi=>l.length-i) (λi=>i<=l.length/\((l.drop i).any λv=>v.kind==0)=(l.any λv=>v.kind==0)) hc hb 0 ⟨A3 _,rfl⟩ ?_ ?_;.exact aN 1 (by simp[bO,cH,cF])
 rintro i⟨hi,hinv⟩;by_cases q:i<l.length
 .have ei:=zR q om;obtain⟨r,hr⟩:=eX (l[i]);rw[A2 q,Bx,hr]at hinv;refine zA ?_;simp[go_sem,q,hr];refine pC (JT r) ?_;simp[go_sem];by_cases w1:r.kind=0;.have ab:(r.kind==0)=true:=sU w1;rw[ab,Cd]at hinv;rw[ahP hinv.symm]at hM;simp[go_sem,ab];exact ret zeroV 0 _ hM
  .have ab:(r.kind==0)=false:=sU w1;rw[ab,Bf]at hinv;simp[go_sem,ab,ei];exact zH (i+1) ⟨om,⟨q,hinv⟩,aN 1 (by simp[bO,cH,cF])⟩
 have e:l.drop i=[]:=A4 om;rw[e,aii]at hinv;rw[ahO (by rw[<-hinv];exact Bool.false_ne_true)]at hM;by_cases a5:s=[78,79,84];.rw[ahP a5]at hM;refine zA ?_;simp[go_sem,q,a5,aa,hx];refine pC (TF x) ?_;simp[go_sem];refine pC (FN (!vg x)) ?_;simp[go_sem];exact ret _ _ _ hM
 by_cases a6:s=[78,69,71];.rw[ahO a5,ahP a6]at hM;refine zA ?_;simp[go_sem,q,a6,aa,hx];refine pC (Oh 0 x.n dc ad) ?_;simp[go_sem,yN];refine pC (TE (dL (-x.n))) ?_;simp[go_sem,dP];exact sF hM
 rw[ahO a5,ahO a6]at hM;have h3:1<l.length:=by
  by_cases q:1<l.length;.exact q
  .rcases hs om with h|h|h|h;.exact absurd h a1
   .exact absurd h a2
   .exact absurd h a5
   .exact absurd h a6
 obtain⟨y,hy⟩:=eX (l[1]'h3);have ah:l.getD 1 zeroV=y:=by rw[A9,A0 h3,hy];rfl
 have ai:eY y.n:=hn y (hy▸A7 h3);rw[ah]at hM;have b5:(s==[78,79,84])=false:=sU a5;have b6:(s==[78,69,71])=false:=sU a6;have aj:=TD x y;have ae:=wa8 s (fw x y);have af:=FN (rH s (fw x y));have ak:=xQ0 s x.n y.n ad ai;have al:=TE (xq s x.n y.n);by_cases a7:mU.contains s=true
 .rw[ahP a7]at hM;have a8:s=[61]\/s=[60,62]\/s=[60]\/s=[60,61]\/s=[62]\/s=[62,61]:=by simpa[mU]using a7
  rcases a8 with a8|a8|a8|a8|a8|a8;all_goals rw[a8]at ae af hM;refine zA ?_;simp[go_sem,q,a8];refine yB [(7,0),(8,0),(9,0)] 1 rfl kR kR ?_;simp[go_sem,aa,hx,h3,hy];refine zF om ?_;simp[go_sem];refine pD aj ?_;simp[go_sem];refine pD ae ?_;simp[go_sem];refine pD af ?_;simp[go_sem];exact ret _ _ _ hM
 rw[ahO a7]at hM;have a8:¬s=[61]/\¬s=[60,62]/\¬s=[60]/\¬s=[60,61]/\¬s=[62]/\¬s=[62,61]:=by simpa[mU]using a7
 have c1:(s==[61])=false:=sU a8.1;have c2:(s==[60,62])=false:=sU a8.2.1;have c3:(s==[60])=false:=sU a8.2.2.1;have c4:(s==[60,61])=false:=sU a8.2.2.2.1;have c5:(s==[62])=false:=sU a8.2.2.2.2.1;have c6:(s==[62,61])=false:=sU a8.2.2.2.2.2;refine zA ?_;simp[go_sem,q,b5,b6,c1,c2,c3,c4,c5,c6];refine yB [(9,0),(12,0)] 1 rfl kR kR ?_;simp[go_sem,aa,hx,h3,hy];refine zF om ?_;simp[go_sem];refine pD ak ?_;simp[go_sem,yN];refine pD al ?_;simp[go_sem,dP];exact sF hM
mutual
def lS(T:bH)(row:List bF):bG->bF×Int |.mk k s v args=>if k=1then(v,0)else if k=2then(row.getD (cq T s).toNat zeroV,0)else if(eW T row args).2≠0then(zeroV,(eW T row args).2)else lz s (eW T row args).1def eW(T:bH)(row:List bF):List bG->List bF×Int|[]=>([],0)|e::l=>if(lS T row e).2≠0then([],(lS T row e).2)else((lS T row e).1::(eW T row l).1,(eW T row l).2)end
theorem Oj(T:bH)(row:List bF)(e:bG):lS T row e=if e.kind=1then(e.v,0)else if e.kind=2then(row.getD (cq T e.s).toNat zeroV,0)else if(eW T row e.args).2≠0then(zeroV,(eW T row e.args).2)else lz e.s (eW T row e.args).1:=by cases e;rfl
structure VK(v:bF)(k:Int):Prop where
 may:dw v=true
 n:eY v.n
 kind:v.kind=k\/v.kind=0
theorem Gg(k:Int):VK zeroV k:=⟨dc,dc,.inr rfl⟩
theorem KB(b:Bool):VK (xX b) 1:=by cases b<;>exact⟨dc,dc,.inl rfl⟩
theorem KC(n:Int):eY (dL n).1:=by grind[dL]
theorem xg2{s:aij}{a b:Int}(ha:eY a)(hb:eY b):eY (xq s a b).1:=by
 unfold xq;repeat' split
 all_goals first|exact KC _|exact wf9 ha hb|decide
theorem TH{r:Int×Int}(h:eY r.1):VK (k8 r).1 2:=by
 unfold k8;split;.exact⟨rfl,h,.inl rfl⟩
 grind[Gg]
theorem KD(w:Int):∀(l:List bF)(b:Bool),(∀v∈l,VK v 1)->VK (p8 w l b) 1
 |[],b,_=>by grind[p8,Gg,KB]|v::l,b,h=>by
  rw[p8];split;.exact KD w l true λx hx=>h x (Bd _ hx)
  .split;.exact h v (Ax ..)
   .exact KD w l b λx hx=>h x (Bd _ hx)
theorem Gh{m s:Bool}{k k':Int}(h:uO m s k=(k',0)):m=true/\s=true/\k'=k:=by unfold uO at h;grind
inductive OpK(s:aij)(ks:aim)(k:Int):Prop|null(hs:s=[73,83,78,85,76,76]\/s=[78,79,84,78,85,76,76])(hl:ks.length=1)(hk:k=1)|not(hs:s=[78,79,84])(hl:ks.length=1)(ha:gu ks 1)(hk:k=1)|neg(hs:s=[78,69,71])(hl:ks.length=1)(ha:gu ks 2)(hk:k=2)|both(hs:s=[79,82]\/s=[65,78,68])(hl:ks.length=2)(ha:gu ks 1)(hk:k=1)|sum(hs:s=[43]\/s=[45]\/s=[42]\/s=[47]\/s=[37])(hl:ks.length=2)(ha:gu ks 2)(hk:k=2)|cmp(hs:s=[61]\/s=[60,62]\/s=[60]\/s=[60,61]\/s=[62]\/s=[62,61])(hl:ks.length=2)(hk:k=1)
theorem TI{s:aij}{ks:aim}{k:Int}(h:mb s ks=(k,0)):OpK s ks k:=by
 have one:((ks.length:Int)==1)=true->ks.length=1:=(by grind);have two:((ks.length:Int)==2)=true->ks.length=2:=(by grind);unfold mb at h;split at h;.obtain⟨h1,_,h3⟩:=Gh h;exact .null om (one h1) h3
 split at h;.obtain⟨h1,h2,h3⟩:=Gh h;exact .not om (one h1) h2 h3
 split at h;.obtain⟨h1,h2,h3⟩:=Gh h;exact .neg om (one h1) h2 h3
 split at h;.obtain⟨h1,h2,h3⟩:=Gh h;exact .both om (two h1) h2 h3
 split at h;.obtain⟨h1,h2,h3⟩:=Gh h;exact .sum om (two h1) h2 h3
 split at h;.obtain⟨h1,_,h3⟩:=Gh h;exact .cmp om (two h1) h3
 grind
theorem Ol{R:bF->Int->Prop}:∀{l:List bF}{ks:aim},bM R l ks->l.length=ks.length|[],[],_=>rfl|_::_,_::_,⟨_,h⟩=>by rw[Af,Af,Ol h]
theorem H0{k:Int}:∀{l:List bF}{ks:aim},bM VK l ks->gu ks k=true->∀v∈l,VK v k
 |[],[],_,_,v,hv=>by cases hv|x::l,y::ks,⟨h1,h2⟩,ha,v,hv=>by
  unfold gu at ha;rw[Aq,A8,Ce,ahX,ahX]at ha;rcases Ag.1 hv with rfl|hv;.exact⟨h1.may,h1.n,by rcases h1.kind with q|q;all_goals omega⟩
  .exact H0 h2 ha.2 v hv
theorem TJ{R:bF->Int->Prop}(hR:∀v k,R v k->eY v.n):∀{l:List bF}{ks:aim},bM R l ks->∀v∈l,eY v.n
 |[],[],_,v,hv=>by cases hv|x::l,y::ks,⟨h1,h2⟩,v,hv=>by
  rcases Ag.1 hv with rfl|hv;.grind
  .exact TJ hR h2 v hv
theorem Om(l:List bF):lz [78,79,84] l=if(l.any λv=>v.kind==0)=true then(zeroV,0)else(xX (!vg (l.getD 0 zeroV)),0):=rfl
theorem On(l:List bF):lz [78,69,71] l=if(l.any λv=>v.kind==0)=true then(zeroV,0)else k8 (dL (-(l.getD 0 zeroV).n)):=rfl
theorem Oo{s:aij}(hs:s=[61]\/s=[60,62]\/s=[60]\/s=[60,61]\/s=[62]\/s=[62,61])(l:List bF):lz s l=if(l.any λv=>v.kind==0)=true then(zeroV,0)else(xX (rH s (fw (l.getD 0 zeroV) (l.getD 1 zeroV))),0):=by rcases hs with rfl|rfl|rfl|rfl|rfl|rfl<;>rfl
theorem TK{s:aij}(hs:s=[43]\/s=[45]\/s=[42]\/s=[47]\/s=[37])(l:List bF):lz s l=if(l.any λv=>v.kind==0)=true then(zeroV,0)else k8 (xq s (l.getD 0 zeroV).n (l.getD 1 zeroV).n):=by rcases hs with rfl|rfl|rfl|rfl|rfl<;>rfl
theorem Oq{s:aij}{l:List bF}{ks:aim}{k:Int}(ho:mb s ks=(k,0))(ha:bM VK l ks):VK (lz s l).1 k/\1<=l.length/\l.length<=2/\(∀v∈l,eY v.n)/\(l.length=1->s=[73,83,78,85,76,76]\/s=[78,79,84,78,85,76,76]\/s=[78,79,84]\/s=[78,69,71]):=by
 have hlen:=Ol ha;have hn:=TJ (λ_ _ h=>VK.n h) ha;have hx:∀j,eY (l.getD j zeroV).n:=λj=>by rw[A9];cases hj:l[j]?with|none=>decide|some v=>grind
 have ab:∀n:Int,eY (dL n).1:=KC;cases TI ho with
 |null hs hl hk=>subst hk;refine⟨?_,om,om,hn,(by grind)⟩;rcases hs with rfl|rfl<;>exact KB _|not hs hl aa hk=>grind[Om,Gg,KB]|neg hs hl aa hk=>grind[On,Gg,TH]|both hs hl aa hk=>
  subst hk;refine⟨?_,om,om,hn,om⟩;rcases hs with rfl|rfl;.exact KD 1 l false (H0 ha aa)
  .exact KD 0 l false (H0 ha aa)|sum hs hl aa hk=>grind[TK,Gg,TH,xg2]|cmp hs hl hk=>grind[Oo,Gg,KB]
structure mj(T:bH)(row:List bF):Prop where
 len:row.length=T.bP.length
 cell:∀(j:Nat)(C:eG)(v:bF),T.bP[j]?=some C->row[j]?=some v->VK v C.kind
theorem KE{T:bH}{row:List bF}(hr:mj T row):∀(n:Nat)(e:bG),xG e<=n->Good e->(jx T e).2=0->(lS T row e).2=0->VK (lS T row e).1 (jx T e).1
 |0,e,h,_,_,_=>by grind[u9]|n+1,e,h,hg,hk,he=>by
  have ih:=KE hr n;have ad:=nH e;rw[Oj]at he⊢;rw[Gb]at hk⊢;by_cases q1:e.kind=1
  .rw[ahP q1]at hk⊢;rw[ahP q1];by_cases w:e.s.isEmpty=false\/e.args.isEmpty=false\/dw e.v=false;.grind
   .rw[ahO w];refine⟨by grind,⟨hg.v.n.1,hg.v.n.2⟩,.inl rfl⟩
  rw[ahO q1]at hk he⊢;rw[ahO q1];by_cases q2:e.kind=2
  .rw[ahP q2]at hk⊢;rw[ahP q2];by_cases w:cq T e.s<0;.grind
   rw[ahO w]at hk⊢;by_cases w2:e.args.isEmpty=false\/k5 e.v=false;.grind
   rw[ahO w2];obtain⟨j,hj,aa⟩:=Ex T e.s w;have ab:j<row.length:=by rw[hr.len];omega
   simp only;rw[hj,Ai,A9,A0 ab];unfold iY;rw[Ai,A0 aa];exact hr.cell j _ _ sm sm
  rw[ahO q2]at hk he⊢;rw[ahO q2];by_cases q3:e.kind=3;rotate_left;.grind
  rw[ahP q3]at hk⊢;have ae:=hg.sub;have list:∀args:List bG,(∀x∈args,x∈e.args)->(xK T args).2=0->(eW T row args).2=0->bM VK (eW T row args).1 (xK T args).1:=by intro args;induction args with |nil=>intro _ _ _;trivial|cons x l af=>
    intro hm hk he;rw[xK]at hk⊢;rw[eW]at he⊢;by_cases w1:(jx T x).2=0;rotate_left;.grind
    by_cases w2:(lS T row x).2=0;rotate_left;.grind
    have n1:¬(jx T x).2≠0:=om;have n2:¬(lS T row x).2≠0:=om;rw[ahO n1]at hk⊢;rw[ahO n2]at he⊢;have hx:=hm x (Ax ..);have ag:=wF e.args x hx;exact⟨(by grind),(by grind)⟩
  by_cases w1:(xK T e.args).2=0;rotate_left;.grind
  by_cases w2:(eW T row e.args).2=0;rotate_left;.grind
  have n1:¬(xK T e.args).2≠0:=om;have n2:¬(eW T row e.args).2≠0:=om;rw[ahO n1]at hk⊢;rw[ahO n2]at he⊢;by_cases w3:k5 e.v=false;.grind
  rw[ahO w3]at hk⊢;exact(Oq (aih rfl hk) (by grind)).1
theorem Ou{T:bH}:∀{args:List bG},(xK T args).2=0->∀x∈args,(jx T x).2=0
 |[],_,x,hx=>by cases hx|y::l,h,x,hx=>by
  rw[xK]at h;by_cases w:(jx T y).2=0
  .have n1:¬(jx T y).2≠0:=λh=>h w;rw[ahO n1]at h;rcases Ag.1 hx with rfl|hx;.exact w
   .exact Ou h x hx
  .rw[ahP w]at h;exact absurd h w
theorem Ov{T:bH}{row:List bF}(hr:mj T row)(n:Nat):∀{args:List bG},(∀x∈args,xG x<=n/\Good x)->(xK T args).2=0->(eW T row args).2=0->bM VK (eW T row args).1 (xK T args).1
 |[],_,_,_=>trivial|x::l,hm,hk,he=>by
  rw[xK]at hk⊢;rw[eW]at he⊢;by_cases w1:(jx T x).2=0;rotate_left;.rw[ahP w1]at hk;exact absurd hk w1
  by_cases w2:(lS T row x).2=0;rotate_left;.rw[ahP w2]at he;exact absurd he w2
  have n1:¬(jx T x).2≠0:=λh=>h w1;have n2:¬(lS T row x).2≠0:=λh=>h w2;rw[ahO n1]at hk⊢;rw[ahO n2]at he⊢;have hx:=hm x (Ax ..);exact⟨KE hr n x hx.1 hx.2 w1 w2,Ov hr n (λy hy=>hm y (Bd _ hy)) hk he⟩
theorem Ow{T:bH}{row:List bF}(hr:mj T row)(hT:T.bP.length<=maxLen):∀(n:Nat)(e:bG),xG e<=n->eN e->Good e->(jx T e).2=0->Pure prog 178 [.agg T.row,.sl .ro (row.map bF.row),.agg e.row] (dP (lS T row e))
 |0,e,h,_,_,_=>by have:=u9 e;omega|n+1,e,h,hw,hg,hk=>by
  have ih:=Ow hr hT n;have cK:=@Ov _ _ hr n;have av:=nH e;have hlen:=hw.len;have ai:=hw.sub;have ak:=hg.sub;have af:=F9 T e.s hT;rw[show xE (λc:eG=>c.name==e.s) T.bP 0=cq T e.s from rfl]at af;obtain⟨M,hM⟩:=eX (lS T row e);rw[hM];rw[Oj]at hM;rw[Gb]at hk;have ret:∀(v:bF)(e:Int)(U:St),(v,e)=M->bW (some (.cm [.agg v.row,.int .i64 e])) 0 (λr s=>r=dP M/\s=[]) U:=λv e U h=>sF h;refine iV 0 func178 ntmps178 results178 λc hc hb=>?_;refine zA ?_;simp[go_sem];by_cases q1:e.kind=1;.have ag:(e.kind==1)=true:=sU q1;rw[ahP q1]at hM;simp[go_sem,ag];exact ret _ _ _ hM
  rw[ahO q1]at hM hk;have ag:(e.kind==1)=false:=sU q1;by_cases q2:e.kind=2
  .have al:(e.kind==2)=true:=sU q2;rw[ahP q2]at hM hk;by_cases w:cq T e.s<0;.rw[ahP w]at hk;cases hk
   obtain⟨j,hj,aw⟩:=Ex T e.s w;have ao:j<row.length:=by rw[hr.len];exact aw
   obtain⟨v,hv⟩:=eX (row[j]);rw[hj,Ai,A9,A0 ao,hv]at hM;rw[hj]at af;simp[go_sem,ag,al];refine zJ af cB (zK sg rfl) rfl ?_;simp[go_sem,ao,hv];exact ret _ _ _ hM
  rw[ahO q2]at hM hk;have al:(e.kind==2)=false:=sU q2;by_cases q3:e.kind=3;rotate_left;.rw[ahO q3]at hk;cases hk
  rw[ahP q3]at hk;obtain⟨args,ab⟩:=eX e.args;rw[ab]at av hlen ai ak hM hk;by_cases w1:(xK T args).2=0;rotate_left;.rw[ahP w1]at hk;exact absurd hk w1
  have n1:¬(xK T args).2≠0:=λh=>h w1;rw[ahO n1]at hk;by_cases w3:k5 e.v=false;.rw[ahP w3]at hk;cases hk
  rw[ahO w3]at hk;have ax:mb e.s (xK T args).1=((mb e.s (xK T args).1).1,0):=aih rfl hk;have aq:=Ou w1;have aj:(eW T row args).2=0->bM VK (eW T row args).1 (xK T args).1:=λh=>cK (λx hx=>⟨by have:=wF args x hx;omega,ak x hx⟩) w1 h;obtain⟨K,hK⟩:=eX (eW T row args);rw[hK]at hM aj;simp[go_sem,ag,al,ab];refine wL 8 3 dc sg ?_;refine zG (S:=Nat×List bF) [1,3,5,6,8,29,30,31] (λu=>[.sl .ro (row.map bF.row),.ptr 0 0,.ptr 1 0,.ptr 2 0,.sl (.app 3) (u.2.map bF.row),.sl .ro (args.map bG.row),.int .i64 args.length,.int .i64 (u.1:Int)]) (λu=>[.box T.row,.box e.row,.box [.int .i64 0,.int .i64 0,.str []],.app u.2.length 3]) (λu=>args.length-u.1) (λu=>u.1<=args.length/\u.2.length=u.1/\(eW T row (args.drop u.1)).2=K.2/\(K.2=0->u.2++(eW T row (args.drop u.1)).1=K.1)) hc hb (0,[]) ⟨A3 _,rfl,by simp only[Au];rw[hK],λ_=>by simp only[Au];rw[hK];rfl⟩ ?_ ?_;.exact bT 4 (by simp[go_sem,ab]) rfl (by simp[bO,cH,cF,bG.bK,bH.row]) (A3 _) (zC sg rfl)
  rintro⟨i,l⟩⟨hi,hl,hinv,aa⟩;simp only at hi hl hinv aa;by_cases q:i<args.length;rotate_left
  .rw[A4 om,eW]at hinv aa;have ae:K.2=0:=hinv.symm;have ar:l=K.1:=by have:=aa ae;simpa using this
   have n2:¬K.2≠0:=λh=>h ae;rw[ahO n2,<-ar]at hM;have hA:=aj ae;rw[<-ar]at hA;obtain⟨_,d1,d2,d3,d4⟩:=Oq ax hA;have au:=wl7 e.s l d1 d2 d3 d4;generalize lz e.s l=o at au hM;refine zA ?_;simp[go_sem,q];refine pC au ?_;simp[go_sem,dP];exact sF hM
  have ei:=zR q om;obtain⟨x,hx⟩:=eX (args[i]);have ah:x∈args:=hx▸A7 q;have ay:=wF args x ah;rw[A2 q,hx,eW]at hinv aa;have ad:=ih x om (ai x ah) (ak x ah) (aq x ah);generalize lS T row x=kx at ad hinv aa;by_cases q4:kx.2=0;.have n3:¬kx.2≠0:=λh=>h q4;rw[ahO n3]at hinv aa;have an:(kx.2!=0)=false:=sU q4;refine zA ?_;simp[go_sem,q,hx];refine zJ ad cB (zK sg (by rw[bG.bK];rfl)) rfl ?_;simp[go_sem,dP,an];refine zF ⟨om,by unfold eM;simp⟩ ?_;simp[go_sem,ei];refine zH (i+1,l++[kx.1]) ⟨by simp only;omega,⟨by simp only;omega,by simp;omega,hinv,λh=>by have:=aa h;simpa using this⟩,?_⟩;exact aN 4 (by simp[bO,cH,cF,bG.bK])
  .rw[ahP q4]at hinv;have an:(kx.2!=0)=true:=sU q4;have ae:kx.2=K.2:=hinv;rw[ahP (by rw[<-ae];exact q4),<-ae]at hM;refine zA ?_;simp[go_sem,q,hx];refine zJ ad cB (zK sg (by rw[bG.bK];rfl)) rfl ?_;simp[go_sem,dP,an];exact ret zeroV _ _ hM
theorem xQ2(a b:Int)(ha:eY a)(ad:eY b):Pure prog 353 [.int .i64 a,.int .i64 b] (yN (dL (a*b))):=by
 have af:=Tx a ha;have ag:=Tx b ad;have cK:=Ty a b;have ah:vf a b<=9223372036854775808:=by unfold vf;split<;>omega
 have ae:=Tz a b;have ai:a.natAbs<18446744073709551616/\b.natAbs<18446744073709551616:=by unfold eY at ha ad;omega
 generalize hM:dL (a*b)=M;unfold dL at hM;refine iW 0 func353 ntmps353 results353 λc hc hb=>zM ?_;simp[go_sem];by_cases a0:a=0;.have aa:(a==0)=true:=sU a0;simp[go_sem,aa];exact xA (by rw[<-hM,a0,Int.zero_mul];rfl)
 have aa:(a==0)=false:=sU a0;by_cases b0:b=0;.have ab:(b==0)=true:=sU b0;simp[go_sem,aa,ab];exact xA (by rw[<-hM,b0,Int.mul_zero];rfl)
 have ab:(b==0)=false:=sU b0;simp[go_sem,aa,ab];refine pC af ?_;simp[go_sem];refine pC ag ?_;simp[go_sem];have hyp:0<b.natAbs:=om;have aj:((b.natAbs:Int))≠0:=om;have fits:∀m:Nat,(a.natAbs*b.natAbs<=m↔¬m/b.natAbs<a.natAbs):=λm=>by rw[Nat.not_lt,Nat.le_div_iff_mul_le hyp]
 have u1:IntKind.u64.wrap 9223372036854775808=9223372036854775808:=dc;have fin:∀m:Nat,vf a b=m->m<=9223372036854775808->(eY (a*b)/\decide ((m:Int).tdiv (b.natAbs:Int)<(a.natAbs:Int))=false/\IntKind.u64.wrap ((m:Int).tdiv (b.natAbs:Int))=(m:Int).tdiv (b.natAbs:Int))\/(¬eY (a*b)/\decide ((m:Int).tdiv (b.natAbs:Int)<(a.natAbs:Int))=true/\IntKind.u64.wrap ((m:Int).tdiv (b.natAbs:Int))=(m:Int).tdiv (b.natAbs:Int)):=λm hm ak=>by
  have e:(m:Int).tdiv (b.natAbs:Int)=((m/b.natAbs:Nat):Int):=rfl;have hle:m/b.natAbs<=m:=Nat.div_le_self _ _;rw[e,cK,hm,fits];generalize m/b.natAbs=d at hle;have hw:IntKind.u64.wrap (d:Int)=(d:Int):=Vx.cC om om;by_cases q:d<a.natAbs;.exact .inr ⟨λh=>h q,ahR om,hw⟩
  .exact .inl ⟨q,ahQ om,hw⟩
 refine zO (λv2=>?_) (λv2=>?_)
 .have hf:=fin 9223372036854775808 (ae.1 v2) (A6 _);simp only[Bn]at hf;simp[go_sem,u1];refine zF om ?_;rcases hf with⟨f1,f2,f3⟩|⟨f1,f2,f3⟩;.have w:=ly f1;simp[go_sem,f2,f3,w];exact xA (by rw[<-hM,ahP f1])
  .simp[go_sem,f2,f3];exact xA (by rw[<-hM,ahO f1])
 .have hf:=fin 9223372036854775807 (ae.2 v2) dc;simp only[Bn]at hf;simp[go_sem];refine zF om ?_;rcases hf with⟨f1,f2,f3⟩|⟨f1,f2,f3⟩;.have w:=ly f1;simp[go_sem,f2,f3,w];exact xA (by rw[<-hM,ahP f1])
  .simp[go_sem,f2,f3];exact xA (by rw[<-hM,ahO f1])
def Ez(s:aij)(a b:Int):bF:=let w:Int:=if s=[79,82]then 1 else 0
 if a=w\/b=w then xX (w==1)else if a=2\/b=2then zeroV else xX (w==0)
theorem TL(s:aij)(a b:Int):Pure prog 330 [.str s,.int .i64 a,.int .i64 b] (.agg (Ez s a b).row):=by
 generalize hM:Ez s a b=M;have ret:∀(v:bF)(U:St),v=M->bW (some (.agg v.row)) 0 (λr s=>r=.agg M.row/\s=[]) U:=λv U h=>by subst h;exact wR
 unfold Ez at hM;refine iW 0 func330 ntmps330 results330 λc hc hb=>zM ?_;simp[go_sem];repeat'(first |(refine yA (λq=>?_) (λq=>?_)<;>simp[go_sem,q])|(refine zO (λq=>?_) (λq=>?_)<;>simp[go_sem,q])|(refine pC (tF true) ?_;simp[go_sem])|(refine pC (tF false) ?_;simp[go_sem]))
 all_goals first |exact ret zeroV _ (by rw[<-hM];simp_all)|exact ret (xX true) _ (by rw[<-hM];simp_all)|exact ret (xX false) _ (by rw[<-hM];simp_all)
def tT(s:aij)(x y:bF):bF×Int:=if s=[78,69,71]then k8 (dL (-x.n))else k8 (xq s x.n y.n)
theorem xc7(s:aij)(l:List bF)(h1:1<=l.length)(hs:s=[78,69,71]\/(2<=l.length/\(s=[43]\/s=[45]\/s=[42]\/s=[47]\/s=[37])))(hn:∀v∈l,eY v.n):Pure prog 332 [.str s,.sl .ro (l.map bF.row)] (dP (tT s (l.getD 0 zeroV) (l.getD 1 zeroV))):=by
 obtain⟨x,hx⟩:=eX (l[0]'h1);have ag:l.getD 0 zeroV=x:=by rw[A9,A0 h1,hx];rfl
 have ad:0<l.length:=h1;have aa:eY x.n:=hn x (hx▸A7 h1);rw[ag];generalize hM:tT s x (l.getD 1 zeroV)=M;unfold tT at hM;have ok:∀{n:Int}(U:St),k8 (n,0)=M->bW (some (.cm [.agg [.int .i64 2,.int .i64 n,.str []],.int .i64 0])) 0 (λv s=>v=dP M/\s=[]) U:=λ{n}U h=>by refine KA ?_;rw[<-h];rfl
 have no:∀{e:Int}(U:St),e≠0->k8 (0,e)=M->bW (some (.cm [.agg [.int .i64 0,.int .i64 0,.str []],.int .i64 e])) 0 (λv s=>v=dP M/\s=[]) U:=λ{e}U he h=>by refine KA ?_;rw[<-h];unfold k8;rw[ahO he];rfl
 have ends:∀(r:Int×Int),k8 r=M->((r.2!=0)=false/\k8 (r.1,0)=M)\/((r.2!=0)=true/\r.2≠0/\k8 (0,r.2)=M):=λr h=>by
  by_cases q:r.2=0;.refine .inl ⟨by simpa using q,?_⟩;rw[<-h,<-q]
  .refine .inr ⟨by simpa using q,q,?_⟩;rw[<-h];unfold k8;rw[ahO q,ahO q]
 refine iW 0 func332 ntmps332 results332 λc hc hb=>zM ?_;simp[go_sem,ad,hx];by_cases q:s=[78,69,71]
 .rw[ahP q]at hM;simp[go_sem,q];unfold eY at aa;by_cases w:x.n=-9223372036854775808;.have w':(x.n==-9223372036854775808)=true:=sU w;simp[go_sem,w'];exact no _ dc (by rw[<-hM,w];rfl)
  .have w':(x.n==-9223372036854775808)=false:=sU w;have e1:IntKind.i64.wrap (-x.n)=-x.n:=ly ⟨om,om⟩;simp[go_sem,w',e1];exact ok _ (by rw[<-hM,dL,ahP ⟨om,om⟩])
 rw[ahO q]at hM;obtain⟨h2,h3⟩:=hs.resolve_left q;obtain⟨y,hy⟩:=eX (l[1]'h2);have ah:l.getD 1 zeroV=y:=by rw[A9,A0 h2,hy];rfl
 have ab:eY y.n:=hn y (hy▸A7 h2);have ai:1<l.length:=h2;rw[ah]at hM;have q':(s==[78,69,71])=false:=sU q;simp[go_sem,q',ai,hy];refine zF om ?_;have ha:=Oe x.n y.n aa ab;have hm:=xQ2 x.n y.n aa ab;have ae:=ab;have af:=aa;unfold eY at ae af;rcases h3 with h3|h3|h3|h3|h3
 .have hM:k8 (dL (x.n+y.n))=M:=by rw[<-hM,h3];rfl
  simp[go_sem,h3];refine pC ha ?_;simp[go_sem,yN];rcases ends _ hM with⟨e1,e2⟩|⟨e1,e2,e3⟩;.simp[go_sem,e1];exact ok _ e2
  .simp[go_sem,e1];exact no _ e2 e3
 .have hM:k8 (dL (x.n-y.n))=M:=by rw[<-hM,h3];rfl
  simp[go_sem,h3];by_cases w:y.n=-9223372036854775808
  .have w':(y.n==-9223372036854775808)=true:=sU w;by_cases p:0<=x.n;.have p':decide (0<=x.n)=true:=ahR p;simp[go_sem,w',p'];exact no _ dc (by rw[<-hM,dL,ahO (by unfold eY;omega)])
   .have p':decide (0<=x.n)=false:=ahQ p;have e1:IntKind.i64.wrap (x.n-y.n)=x.n-y.n:=ly ⟨om,om⟩;simp[go_sem,w',p',e1];exact ok _ (by rw[<-hM,dL,ahP ⟨om,om⟩])
  .have w':(y.n==-9223372036854775808)=false:=sU w;have e1:IntKind.i64.wrap (-y.n)=-y.n:=ly ⟨om,om⟩;have ha:=Oe x.n (-y.n) aa ⟨om,om⟩;rw[<-Int.sub_eq_add_neg]at ha;simp[go_sem,w',e1];refine pC ha ?_;simp[go_sem,yN];rcases ends _ hM with⟨e1,e2⟩|⟨e1,e2,e3⟩;.simp[go_sem,e1];exact ok _ e2
   .simp[go_sem,e1];exact no _ e2 e3
 .have hM:k8 (dL (x.n*y.n))=M:=by rw[<-hM,h3];rfl
  simp[go_sem,h3];refine pC hm ?_;simp[go_sem,yN];rcases ends _ hM with⟨e1,e2⟩|⟨e1,e2,e3⟩;.simp[go_sem,e1];exact ok _ e2
  .simp[go_sem,e1];exact no _ e2 e3
 .have hM:k8 (if y.n=0then(0,17)else dL (x.n.tdiv y.n))=M:=by rw[<-hM,h3];rfl
  by_cases z:y.n=0;.have z':(y.n==0)=true:=sU z;rw[ahP z]at hM;simp[go_sem,h3,z'];exact no _ dc hM
  have z':(y.n==0)=false:=sU z;rw[ahO z]at hM;simp[go_sem,h3,z'];by_cases w:x.n=-9223372036854775808
  .have w':(x.n==-9223372036854775808)=true:=sU w;by_cases p:y.n=-1;.have p':(y.n==-1)=true:=sU p;simp[go_sem,w',p'];exact no _ dc (by rw[<-hM,w,p];rfl)
   .have p':(y.n==-1)=false:=sU p;have e0:=Oi aa ab p;have e1:=ly e0;simp[go_sem,w',p',e1];refine zF z ?_;simp[go_sem];exact ok _ (by rw[<-hM,dL,ahP e0])
  .have w':(x.n==-9223372036854775808)=false:=sU w;have e0:eY (x.n.tdiv y.n):=by
    by_cases p:y.n=-1;.rw[p,Int.tdiv_neg,Int.tdiv_one];exact⟨om,om⟩
    .exact Oi aa ab p
   have e1:=ly e0;simp[go_sem,w',e1];refine zF z ?_;simp[go_sem];exact ok _ (by rw[<-hM,dL,ahP e0])
 .have hM:k8 (if y.n=0then(0,17)else(x.n.tmod y.n,0))=M:=by rw[<-hM,h3];rfl
  by_cases z:y.n=0;.have z':(y.n==0)=true:=sU z;rw[ahP z]at hM;simp[go_sem,h3,z'];exact no _ dc hM
  have z':(y.n==0)=false:=sU z;rw[ahO z]at hM;simp[go_sem,h3,z'];by_cases p:y.n=-1;.have p':(y.n !=-1)=false:=sU p;simp[go_sem,p'];exact ok _ (by rw[<-hM,p,Int.tmod_neg,Int.tmod_one])
  .have p':(y.n !=-1)=true:=sU p;simp[go_sem,p'];refine zF z ?_;simp[go_sem];exact ok _ hM
def eC:bH:=⟨[],[],0,0,0,⟨[],[],[],0,0,0⟩⟩
theorem TM:mj eC []:=⟨rfl,λj C v h=>by simp[eC]at h⟩
theorem xN4:eC.bP= []:=rfl
def BG(e:bG):bF×Int:=if(xO eC e).2≠0then(zeroV,(xO eC e).2)else lS eC [] e
theorem wm1{e:bG}(he:jS e)(h:(BG e).2=0):VK (BG e).1 (xO eC e).1:=by
 unfold BG at h⊢;by_cases q:(xO eC e).2=0;rotate_left;.rw[ahP q]at h;exact absurd h q
 have n1:¬(xO eC e).2≠0:=λh=>h q;rw[ahO n1]at h⊢;have hs:=he.size;unfold xO at q⊢;by_cases d:xG e<=64;.rw[ahP d]at q⊢;exact KE TM 64 e d he.cN q h
 .rw[ahO d]at q;cases q
theorem xX5(e:bG)(he:jS e):Pure prog 106 [.agg eC.row,.sl .ro [],.agg e.row] (dP (BG e)):=by
 have ab:=Ks eC (by simp[eC,maxLen]) e he;have ad:=λ(d:xG e<=64)(k:(jx eC e).2=0)=>Ow TM (by simp[eC,maxLen]) 64 e d he.wide he.cN k;generalize hM:BG e=M;unfold BG at hM;have ret:∀(v:bF)(e:Int)(U:St),(v,e)=M->bW (some (.cm [.agg v.row,.int .i64 e])) 0 (λr s=>r=dP M/\s=[]) U:=λv e U h=>sF h;refine iV 0 func106 ntmps106 results106 λc hc hb=>?_;refine zA ?_;simp[go_sem];refine zJ ab cB (zK sg (by rw[bG.bK];rfl)) rfl ?_;simp[go_sem,yN];by_cases q:(xO eC e).2=0;rotate_left;.have q':((xO eC e).2!=0)=true:=sU q;rw[ahP q]at hM;simp[go_sem,q'];exact ret zeroV _ _ hM
 have q':((xO eC e).2!=0)=false:=sU q;have n1:¬(xO eC e).2≠0:=λh=>h q;rw[ahO n1]at hM;have aa:Pure prog 178 [.agg eC.row,.sl .ro [],.agg e.row] (dP (lS eC [] e)):=by
  unfold xO at q;by_cases d:xG e<=64;.rw[ahP d]at q;exact ad d q
  .rw[ahO d]at q;cases q
 rw[hM]at aa;simp[go_sem,q',xN4];refine zG (S:=Unit) [1,3,5,6,29,30,31] (λ_=>[.sl .ro [],.ptr 0 0,.ptr 1 0,.ptr 2 0,.sl .ro [],.int .i64 0,.int .i64 0]) (λ_=>[.box eC.row,.box e.row,.box [.int .i64 0,.int .i64 0,.str []]]) (λ_=>0) (λ_=>True) hc hb () trivial ?_ ?_;.exact bT 3 (by simp[go_sem,eC]) rfl (by simp[bO,cH,cF,bG.bK,bH.row]) (A3 _) (zC sg rfl)
 rintro u _;refine zA ?_;simp[go_sem];refine zJ aa cB (zK sg (by rw[bG.bK];rfl)) rfl ?_;simp[go_sem,dP];exact sF rfl
end Go.Proofs.YtefbicjgbaaieaaGreat
namespace Go.Proofs.YtefbicjgbaaieaaGreat.R
open Go Go.Vx Go.Proofs.Tryz
set_option maxRecDepth 100000
variable {bP:List eG}
def tU:List eG->List bF->Int |c::cs,v::vs=>if dw v=false then 9 else if v.kind=0/\c.null=false then 16 else if v.kind≠0/\v.kind≠c.kind then 15 else tU cs vs|_,_=>0
def dS(bP:List eG)(row:List bF):Int:=if row.length≠bP.length then 9 else tU bP row
theorem TN(t:bH)(row:List bF)(hr:row.length<=maxLen):Pure prog 149 [.agg t.row,.sl .ro (row.map bF.row)] (.int .i64 (dS t.bP row)):=by
 obtain⟨name,bP,key,place,region,kW⟩:=t;refine iV 0 func149 ntmps149 results149 λc hc hb=>?_;refine zA ?_;have ret:∀(r:Int)(U:St),r=dS bP row->bW (some (.int .i64 r)) 0 (λr s=>r=.int .i64 (dS bP row)/\s=[]) U:=λr U h=>by subst h;exact wR
 simp[go_sem];refine zO (λh=>?_) (λh=>?_)
 .have h:row.length≠bP.length:=by simp at h;omega
  simp[go_sem];exact ret _ _ (by rw[dS,ahP h])
 have h:row.length=bP.length:=by simp at h;omega
 rw[dS,ahO om]at ret⊢;simp[go_sem];refine zG (S:=Nat) [2,13,14,15] (λi=>[.ptr 0 0,.sl .ro (row.map bF.row),.int .i64 row.length,.int .i64 i]) (λ_=>[.box (bH.row ⟨name,bP,key,place,region,kW⟩)]) (λi=>row.length-i) (λi=>i<=row.length/\tU (bP.drop i) (row.drop i)=tU bP row) hc hb 0 ⟨A3 _,rfl⟩ ?_ ?_;.exact aN 1 rfl
 rintro i⟨hi,hinv⟩;refine zA ?_;simp[go_sem];refine zO (λq=>?_) (λq=>?_)
 .have q:i<row.length:=sU q;have q2:i<bP.length:=om;have ei:=zR q (by unfold maxLen at hr;omega);rw[A2 q,A2 q2]at hinv;obtain⟨⟨k,n,s⟩,hv⟩:∃v,row[i]=v:=⟨_,rfl⟩;obtain⟨⟨cn,ck,cb⟩,ab⟩:∃v,bP[i]=v:=⟨_,rfl⟩;rw[hv,ab,tU]at hinv;simp only at hinv;simp[go_sem,q,hv];refine pC (F3 ⟨k,n,s⟩) ?_;simp[go_sem];refine zO (λh1=>?_) (λh1=>?_);.have h1:dw ⟨k,n,s⟩=false:=sU h1;rw[ahP h1]at hinv;simp[go_sem];exact ret _ _ hinv
  have h1:¬dw ⟨k,n,s⟩=false:=sU h1;rw[ahO h1]at hinv;simp[go_sem];refine yA (λh2=>?_) (λh2=>?_)
  .have aa:k=0:=sU h2;simp[go_sem,h2,q2,ab];refine zO (λh3=>?_) (λh3=>?_);.have h3:cb=false:=sU h3;rw[ahP ⟨aa,h3⟩]at hinv;simp[go_sem];exact ret _ _ hinv
   have h3:¬cb=false:=sU h3;rw[ahO (λw=>h3 w.2),ahO (λw=>w.1 aa)]at hinv;simp[go_sem];refine yB [] 2 rfl kR kR ?_;simp[go_sem,aa,ei];exact zH (i+1) ⟨om,⟨q,hinv⟩,aM 1 rfl (zC (by simp[go_sem]) rfl)⟩
  .have aa:¬k=0:=sU h2;rw[ahO (λw=>aa w.1)]at hinv;simp[go_sem,h2];refine yB [] 2 rfl kR kR ?_;have ad:(k !=0)=true:=sU aa;simp[go_sem,ad,q2,ab];refine zO (λh4=>?_) (λh4=>?_);.have h4:¬k=ck:=sU h4;rw[ahP ⟨aa,h4⟩]at hinv;simp[go_sem];exact ret _ _ hinv
   have h4:k=ck:=sU h4;rw[ahO (λw=>w.2 h4)]at hinv;simp[go_sem,ei];exact zH (i+1) ⟨om,⟨q,hinv⟩,aM 1 rfl (zC (by simp[go_sem]) rfl)⟩
 .have q:i=row.length:=by have:¬i<row.length:=sU q;omega
  subst q;rw[B7,h,B7]at hinv;simp[go_sem];exact ret _ _ hinv
def tW(n j:Nat)(t:bH)(row:List bF)(rg:Int->Int×Int):Int×aij×Int:=if dS t.bP row≠0then(0,[],dS t.bP row)else let r:=rg (if t.place=0then min (max (row.headD v0).n (-1)) 4 else 0)
  if r.2≠0then(0,[],r.2)else(r.1,np n j (row.getD t.key.toNat v0),0)
def k9(r:Int×aij×Int):V:=.cm [.int .i64 r.1,.str r.2.1,.int .i64 r.2.2]
theorem tX{r:Int×aij×Int}{a e:Int}{s:aij}{U:St}(h:r=(a,s,e)):bW (some (.cm [.int .i64 a,.str s,.int .i64 e])) 0 (λv s=>v=k9 r/\s=[]) U:=by subst h;exact wR
theorem vh{row:List bF}(h:dS bP row=0):row.length=bP.length:=by
 unfold dS at h;split at h;.cases h
 .rename_i h2;omega
theorem xD8(ae:List (List V))(ts:List bH)(j:Nat)(hj:j<ts.length)(t:bH)(ht:ts[j]=t)(row:List bF)(hr:row.length<=maxLen)(hL:dS t.bP row=0->il row)(hn:ts.length<=cu)(hk:0<=t.key/\t.key<t.bP.length)(rg:Int->Int×Int) (ag:∀r,-1<=r->r<=4->(t.place≠0->r=0)->Pure prog 62 [.agg [.sl .ro ae,.sl .ro (ts.map bH.row)],.int .i64 j,.int .i64 r] (.cm [.int .i64 (rg r).1,.int .i64 (rg r).2])):Pure prog 88 [.agg [.sl .ro ae,.sl .ro (ts.map bH.row)],.int .i64 j,.sl .ro (row.map bF.row)] (k9 (tW ts.length j t row rg)):=by
 have af:=TN t row hr;have hbound:∀v:bF,v.ok->v.s.length<=500->_:=λv h1 h2=>xX3 ae (ts.map bH.row) j v (sU hn) h1 h2;simp only[Bq]at hbound;generalize aa:tW ts.length j t row rg=res;unfold tW at aa;obtain⟨m,hm⟩:=eX (dS t.bP row);have hlen:m=0->row.length=t.bP.length:=λh=>vh (hm.trans h);rw[hm]at af hL aa;obtain⟨name,bP,key,place,region,kW⟩:=t;simp only at hk hlen aa;obtain⟨q,rfl⟩:∃q:Nat,key=q:=⟨key.toNat,om⟩;refine iV 0 func88 ntmps88 results88 λc hc hb=>?_;refine zA ?_;simp[go_sem];refine pC (js ae (ts.map bH.row) j) ?_;simp[go_sem,hj,ht];refine zJ af cB (zK sg rfl) rfl ?_;simp[go_sem];refine zO (λh=>?_) (λh=>?_);.have h:m≠0:=sU h;simp[go_sem];exact tX (by rw[<-aa,ahP h])
 have h:m=0:=sU h;have hl:=hlen h;have hq:q<row.length:=om;have h0:0<row.length:=om;have ah:=hL h;obtain⟨v,hv⟩:=eX (row[q]);obtain⟨v1,ai⟩:∃v,row[0]=v:=⟨_,rfl⟩;have aj:v∈row:=hv▸A7 hq;have e1:row.headD v0=v1:=by rw[<-ai];cases row with |nil=>simp at h0|cons a l=>rfl
 have e2:row.getD q v0=v:=by rw[A9,A0 hq,hv];rfl
 rw[ahO om,e1,Ai,e2]at aa;have ak:=hbound v (ah.ok v aj) (ah.s v aj);have fin:∀(x:Int)(U:St),(if place=0then min (max v1.n (-1)) 4 else 0)=x->((rg x).2≠0->res=(0,[],(rg x).2))/\((rg x).2=0->res=((rg x).1,np ts.length j v,0)):=λx U hx=>by rw[hx]at aa;exact⟨λw=>by rw[<-aa];exact ahP w,λw=>by rw[<-aa];exact ahO (λq=>q w)⟩
 simp[go_sem];refine zO (λhp=>?_) (λhp=>?_)
 .have hp:place=0:=sU hp;simp[go_sem,h0,ai];obtain⟨x,hx⟩:=eX ((if 4<if v1.n< -1then-1 else v1.n then 4 else if v1.n< -1then-1 else v1.n));have al:x=min (max v1.n (-1)) 4:=by rw[<-hx];split<;>split<;>omega
  rw[hx];have ab:=fin x [] (by rw[ahP hp,al]);have ad:=ag x om om (λw=>absurd hp w);revert ab ad;generalize rg x=o;obtain⟨oa,oe⟩:=o;intro ab ad;simp only at ab ad;refine pC ad ?_;simp[go_sem];refine zO (λw=>?_) (λw=>?_);.have w:oe≠0:=sU w;simp[go_sem];exact tX (ab.1 w)
  have w:oe=0:=sU w;simp[go_sem];refine yB [(8,0)] 2 rfl kR kR ?_;simp[go_sem,hq,hv];refine pD ak ?_;simp[go_sem];exact tX (ab.2 w)
 .have hp:¬place=0:=sU hp;have ab:=fin 0 [] (by rw[ahO hp]);have ad:=ag 0 om om (λ_=>rfl);revert ab ad;generalize rg 0=o;obtain⟨oa,oe⟩:=o;intro ab ad;simp only at ab ad;simp[go_sem];refine pC ad ?_;simp[go_sem];refine zO (λw=>?_) (λw=>?_);.have w:oe≠0:=sU w;simp[go_sem];exact tX (ab.1 w)
  have w:oe=0:=sU w;simp[go_sem];refine yB [(8,0)] 2 rfl kR kR ?_;simp[go_sem,hq,hv];refine pD ak ?_;simp[go_sem];exact tX (ab.2 w)
theorem TP{n:Nat}(h:n<256):(UInt8.ofNat n).toNat=n:=by simp_all
theorem vi:∀a:aij,Op.bytesLess a a=false|[]=>rfl|a::l=>by simp[Op.bytesLess,vi l]
theorem tY:∀a b c:aij,Op.bytesLess a b=true->Op.bytesLess b c=true->Op.bytesLess a c=true
 |_,[],_,h,_=>by grind[Op.bytesLess]|_,_::_,[],_,h=>by trivial|[],_::_,_::_,_,_=>rfl|a::l,b::m,d::n,h1,h2=>by
  simp only[Op.bytesLess,Ce,ahS,A8,ahX]at*;rcases h1 with h1|⟨rfl,h1⟩;.grind
  .rcases h2 with h2|⟨rfl,h2⟩;.grind
   .exact .inr ⟨rfl,tY l m n h1 h2⟩
theorem xu:∀a b:aij,Op.bytesLess a b=true\/a=b\/Op.bytesLess b a=true
 |[],[]=>sm|[],_::_=>.inl rfl|_::_,[]=>.inr (.inr rfl)|a::l,b::m=>by
  simp only[Op.bytesLess,Ce,ahS,A8,ahX,List.cons.injEq];by_cases h:a<b;.grind
  .by_cases h2:b<a;.grind
   .have he:a=b:=(by grind);subst he;rcases xu l m with q|rfl|q;all_goals grind
theorem Ox:∀(n i v:Nat)(rest:aij),n<18446744073709551616->(n*128^i<18446744073709551616)->(0<i->0<n)->xW (eJ n++rest) i v=(v+n*128^i,i+(eJ n).length,0):=by intro n;induction n using Nat.strongRecOn with|_ n ih=>
  intro i v rest hn hb h0;have h9:i=9->n<=1:=(by grind);by_cases h:n<128;.have e:(UInt8.ofNat n).toNat=n:=TP om;rw[F1 h];show xW (UInt8.ofNat n::rest) i v=_;rw[xW,e,ahO om,ahP h,ahO om,Cr h];rfl
  .have e:(UInt8.ofNat (n%128+128)).toNat=n%128+128:=TP om;rw[HN h];show xW (UInt8.ofNat (n%128+128)::(eJ (n/128)++rest)) i v=_;rw[xW,e,ahO om,ahO om];have hdiv:n/128*128^(i+1)<=n*128^i:=by rw[E0,Dp (128^i) 128,<-Nat.mul_assoc];simp[Ae,Nat.div_mul_le_self]
   rw[ih (n/128) om (i+1) _ rest om om om];have e2:(n%128+128)%128=n%128:=om;rw[e2,Af];have e3:n%128*128^i+n/128*128^(i+1)=n*128^i:=by rw[E0,Dp (128^i) 128,<-Nat.mul_assoc,<-B0];grind
   grind
theorem wh8(n:Int):ju (gA n)=n:=by unfold ju gA;grind
theorem Oy{v:bF}(h:dw v):(v.kind=0/\v.n=0/\v.s=[])\/(v.kind=1/\(v.n=0\/v.n=1)/\v.s=[])\/(v.kind=2/\v.s=[])\/(v.kind=3/\v.n=0/\v.s.length<=64):=by grind[dw]
theorem yY9{v:bF}(h:dw v)(ho:v.ok)(rest:aij):kJ (wX v++rest)=⟨v,(wX v).length,0⟩:=by
 have hp:=Oy h;have hi:=ho.n;obtain⟨k,n,s⟩:=v;simp only at hp hi;unfold wX;rw[ahP h];simp only;rcases hp with⟨rfl,rfl,rfl⟩|⟨rfl,hn,rfl⟩|⟨rfl,rfl⟩|⟨rfl,rfl,hl⟩;.rfl
 .rcases hn with rfl|rfl<;>simp[kJ,jh,pz]
 .grind[Ox,gA,kJ,jh,wh8]
 .have ht:=Ox s.length 0 0 (s++rest) om om (λh=>om);have aa:px (eJ s.length++(s++rest))=(s,(eJ s.length).length+s.length,0):=by
   unfold px;rw[ht];have e1:(eJ s.length++(s++rest)).take ((eJ s.length).length+s.length)=eJ s.length++s:=by grind
   simp_all[yP,ahO];omega
  grind[kJ,jh]
theorem TQ:∀(l:List bF),(∀v∈l,dw v=true)->(∀v∈l,v.ok)->fX l.length (l.flatMap wX)=some l
 |[],_,_=>by rfl|v::l,h,ho=>by have h1:=yY9 (h v sm) (ho v sm) (l.flatMap wX);have h2:=TQ l (λx hx=>h x (by simp[hx])) (λx hx=>ho x (by simp[hx]));rw[Af,fX,Bu,h1];simp[h2]
theorem TS:∀(cs:List eG)(vs:List bF),vs.length=cs.length->tU cs vs=0->∀i(hi:i<cs.length)(hj:i<vs.length),dw vs[i]=true/\(cs[i].null=false->vs[i].kind=cs[i].kind)
 |[],[],_,_,i,hi,_=>by grind|c::cs,v::vs,hl,h,i,hi,hj=>by
  unfold tU at h;split at h;.cases h
  .rename_i h1;split at h;.cases h
   .rename_i h2;split at h;.cases h
    .rename_i h3;cases i with |zero=>refine⟨by simpa using h1,λhn=>?_⟩;have hn:c.null=false:=hn;have:v.kind≠0:=λq=>h2 ⟨q,hn⟩;exact Decidable.not_not.1 λq=>h3 ⟨this,q⟩|succ i=>exact TS cs vs (sU hl) h i (sU hi) (sU hj)
 |[],_::_,hl,_,_,_,_=>by grind|_::_,[],hl,_,_,_,_=>by grind
theorem xy1{row:List bF}(h:dS bP row=0):tU bP row=0:=by grind[dS]
theorem TT{row:List bF}(h:dS bP row=0):∀v∈row,dw v=true:=λv hv=>by obtain⟨i,hi,rfl⟩:=List.mem_iff_getElem.1 hv;exact(TS bP row (vh h) (xy1 h) i (by grind[vh]) hi).1
theorem xR5{row:List bF}(h:dS bP row=0)(hL:il row):iU bP.length (yK row)=(row,0):=by
 have hl:=vh h;have aa:=hL.len;have ht:=Ox row.length 0 0 (row.flatMap wX) om om (λh=>om);have hd:yK row=eJ row.length++row.flatMap wX:=by grind[yK,pw]
 unfold iU;rw[hd,ht];simp[<-hl,TQ row (TT h) hL.ok,rD]
end Go.Proofs.YtefbicjgbaaieaaGreat.R
namespace Go.Proofs.YtefbicjgbaaieaaGreat
open Go Go.Vx R Go.Proofs.Tryz
set_option maxRecDepth 100000
def rI(v:bF):Int:=if v.kind=0then 2 else v.n
theorem H2{x:bF}(h:VK x 1):x=zeroV\/x=xX true\/x=xX false:=by
 obtain⟨k,n,s⟩:=x;have hm:=h.may;unfold dw at hm;simp only at hm;rcases h.kind with q|q
 .simp only at q;subst q;simp at hm;obtain⟨h1,h2⟩:=hm;subst h2;rcases h1 with h1|h1;.subst h1;decide
  .subst h1;decide
 .simp only at q;subst q;simp at hm;obtain⟨h1,h2⟩:=hm;subst h2 h1;decide
theorem xF6{x y:bF}(hx:VK x 1)(hy:VK y 1):Ez [65,78,68] (rI x) (rI y)=p8 0 [x,y] false:=by rcases H2 hx with rfl|rfl|rfl<;>rcases H2 hy with rfl|rfl|rfl<;>rfl
theorem xY6{x y:bF}(hx:VK x 1)(hy:VK y 1):Ez [79,82] (rI x) (rI y)=p8 1 [x,y] false:=by rcases H2 hx with rfl|rfl|rfl<;>rcases H2 hy with rfl|rfl|rfl<;>rfl
theorem wo3{x:bF}(hx:VK x 1)(h:(x.kind==0)=false):xX (x.n==0)=xX (!vg x):=by rcases H2 hx with rfl|rfl|rfl;all_goals rfl
theorem xG7(a b:bF):F7 a b=fw a b:=by
 unfold F7 fw oK oK oK oK fR gH;by_cases h1:a.kind=b.kind
 .rw[ahO om,h1];by_cases h2:a.n=b.n
  .rw[ahO om,h2];by_cases h3:a.s=b.s;.simp_all[vi]
   .rw[ahP h3];rcases xu a.s b.s with h|h|h;all_goals grind
  omega
 omega
theorem xB2(v:bF):Pure prog 197 [.agg v.row] (.bool (vg v)):=by refine iW 0 func197 ntmps197 results197 λc hc hb=>zM ?_;simp[go_sem];exact zV (zD rfl) (by trivial)
theorem TU(a b:bF):Pure prog 30 [.agg a.row,.agg b.row] (.int .i64 (fw a b)):=by grind[xG7,xu0]
theorem KF(v:bF):Pure prog 331 [.agg v.row] (.int .i64 (rI v)):=ZT v
structure n5(s:aij):Prop where
 n1:(s==[73,83,78,85,76,76])=false
 n2:(s==[78,79,84,78,85,76,76])=false
 n3:(s==[65,78,68])=false
 n4:(s==[79,82])=false
def j7(l:List bF):Bool:=l.any λv=>v.kind==0
theorem TV{J:Type}{l:List J}(h:l.length=1):∃x,l=[x]:=by match l,h with|[x],_=>simp
theorem Oz{J:Type}{l:List J}(h:l.length=2):∃x y,l=[x,y]:=by match l,h with|[x,y],_=>simp
theorem xc4{s:aij}{l:List bF}{ks:aim}{k:Int}(ho:mb s ks=(k,0))(ha:bM VK l ks):(s=[73,83,78,85,76,76]/\lz s l=(xX (j7 l),0))\/(s=[78,79,84,78,85,76,76]/\lz s l=(xX (!j7 l),0))\/(s=[65,78,68]/\∃x y,l=[x,y]/\lz s l=(Ez [65,78,68] (rI x) (rI y),0))\/(s=[79,82]/\∃x y,l=[x,y]/\lz s l=(Ez [79,82] (rI x) (rI y),0))\/(n5 s/\j7 l=true/\lz s l=(zeroV,0))\/(n5 s/\j7 l=false/\s=[78,79,84]/\∃x,l=[x]/\lz s l=(xX (x.n==0),0))\/(n5 s/\j7 l=false/\(s==[78,79,84])=false/\nh s=true/\(s=[78,69,71]\/(2<=l.length/\(s=[43]\/s=[45]\/s=[42]\/s=[47]\/s=[37])))/\lz s l=tT s (l.getD 0 zeroV) (l.getD 1 zeroV))\/(n5 s/\j7 l=false/\(s==[78,79,84])=false/\nh s=false/\∃x y,l=[x,y]/\(s=[61]\/s=[60,62]\/s=[60]\/s=[60,61]\/s=[62]\/s=[62,61])/\lz s l=(xX (rH s (fw x y)),0)):=by have hlen:=Ol ha;cases TI ho with
 |null hs hl hk=>
  obtain⟨x,rfl⟩:=TV (hlen.trans hl);rcases hs with rfl|rfl;.exact .inl ⟨rfl,by simp[lz,j7]⟩
  .exact .inr (.inl ⟨rfl,by simp[lz,j7]⟩)|not hs hl ab hk=>
  obtain⟨x,rfl⟩:=TV (hlen.trans hl);have hx:=H0 ha ab x (Ax ..);subst hs;have aa:n5 [78,79,84]:=⟨dc,dc,dc,dc⟩;by_cases q:j7 [x]=true;.exact .inr (.inr (.inr (.inr (.inl ⟨aa,q,by rw[Om];exact ahP q⟩))))
  .have q2:j7 [x]=false:=sU q;refine .inr (.inr (.inr (.inr (.inr (.inl ⟨aa,q2,rfl,x,rfl,?_⟩)))));rw[Om];refine(ahO q).trans ?_;have:(x.kind==0)=false:=by simpa[j7]using q2
   rw[wo3 hx this];rfl|neg hs hl ab hk=>
  subst hs;have aa:n5 [78,69,71]:=⟨dc,dc,dc,dc⟩;by_cases q:j7 l=true;.exact .inr (.inr (.inr (.inr (.inl ⟨aa,q,by rw[On];exact ahP q⟩))))
  .have q2:j7 l=false:=sU q;refine .inr (.inr (.inr (.inr (.inr (.inr (.inl ⟨aa,q2,dc,dc,.inl rfl,?_⟩))))));rw[On];exact ahO q|both hs hl ab hk=>
  obtain⟨x,y,rfl⟩:=Oz (hlen.trans hl);have hv:=H0 ha ab;have hx:=hv x sm;have hy:=hv y sm;rcases hs with rfl|rfl;.exact .inr (.inr (.inr (.inl ⟨rfl,x,y,rfl,by rw[xY6 hx hy];rfl⟩)))
  .exact .inr (.inr (.inl ⟨rfl,x,y,rfl,by rw[xF6 hx hy];rfl⟩))|sum hs hl ab hk=>
  have aa:n5 s:=by rcases hs with rfl|rfl|rfl|rfl|rfl<;>exact⟨dc,dc,dc,dc⟩
  have h1:(s==[78,79,84])=false:=by rcases hs with rfl|rfl|rfl|rfl|rfl<;>decide
  have h2:nh s:=by rcases hs with rfl|rfl|rfl|rfl|rfl<;>decide
  have h3:¬s=[78,69,71]:=by rcases hs with rfl|rfl|rfl|rfl|rfl<;>decide
  by_cases q:j7 l=true;all_goals simp_all[TK,j7,tT]|cmp hs hl hk=>
  obtain⟨x,y,rfl⟩:=Oz (hlen.trans hl);have aa:n5 s:=by rcases hs with rfl|rfl|rfl|rfl|rfl|rfl<;>exact⟨dc,dc,dc,dc⟩
  have h1:(s==[78,79,84])=false:=by grind
  have h2:nh s=false:=by rcases hs with rfl|rfl|rfl|rfl|rfl|rfl<;>decide
  by_cases q:j7 [x,y]=true;.exact .inr (.inr (.inr (.inr (.inl ⟨aa,q,by rw[Oo hs];exact ahP q⟩))))
  .have q2:j7 [x,y]=false:=sU q;refine .inr (.inr (.inr (.inr (.inr (.inr (.inr ⟨aa,q2,h1,h2,x,y,rfl,hs,?_⟩))))));rw[Oo hs];exact ahO q
theorem TW{T:bH}{row:List bF}(hr:mj T row)(hT:T.bP.length<=maxLen):∀(n:Nat)(e:bG),xG e<=n->eN e->Good e->(jx T e).2=0->Pure prog 260 [.agg T.row,.sl .ro (row.map bF.row),.agg e.row] (dP (lS T row e))
 |0,e,h,_,_,_=>by grind[u9]|n+1,e,h,hw,hg,hk=>by
  have ih:=TW hr hT n;have cK:=@Ov _ _ hr n;have az:=nH e;have hlen:=hw.len;have aj:=hw.sub;have al:=hg.sub;have ae:=Ga T e.s hT;rw[show xE (λc:eG=>c.name==e.s) T.bP 0=cq T e.s from rfl]at ae;obtain⟨M,hM⟩:=eX (lS T row e);rw[hM];rw[Oj]at hM;rw[Gb]at hk;have ret:∀(v:bF)(e:Int)(U:St),(v,e)=M->bW (some (.cm [.agg v.row,.int .i64 e])) 0 (λr s=>r=dP M/\s=[]) U:=λv e U h=>sF h;refine iV 0 func260 ntmps260 results260 λc hc hb=>?_;refine zA ?_;simp[go_sem];by_cases q1:e.kind=1
  .have ah:(e.kind==1)=true:=by grind
   rw[ahP q1]at hM;simp[go_sem,ah];exact ret _ _ _ hM
  rw[ahO q1]at hM hk;have ah:(e.kind==1)=false:=by grind
  by_cases q2:e.kind=2
  .have an:(e.kind==2)=true:=by grind
   rw[ahP q2]at hM hk;by_cases w:cq T e.s<0;.rw[ahP w]at hk;cases hk
   obtain⟨j,hj,a1⟩:=Ex T e.s w;have ar:j<row.length:=by rw[hr.len];omega
   obtain⟨v,hv⟩:=eX (row[j]);rw[hj,Ai,A9,A0 ar,hv]at hM;rw[hj]at ae;simp[go_sem,ah,an];refine zJ ae cB (zK (by rfl) rfl) rfl ?_;simp[go_sem,ar,hv];exact ret _ _ _ hM
  rw[ahO q2]at hM hk;have an:(e.kind==2)=false:=by grind
  by_cases q3:e.kind=3;rotate_left;.rw[ahO q3]at hk;cases hk
  rw[ahP q3]at hk;obtain⟨args,aa⟩:=eX e.args;rw[aa]at az hlen aj al hM hk;by_cases w1:(xK T args).2=0;rotate_left;.rw[ahP w1]at hk;exact absurd hk w1
  have n1:¬(xK T args).2≠0:=om;rw[ahO n1]at hk;by_cases w3:k5 e.v=false;.rw[ahP w3]at hk;cases hk
  rw[ahO w3]at hk;have au:mb e.s (xK T args).1=((mb e.s (xK T args).1).1,0):=(by grind);have av:=Ou w1;have ak:(eW T row args).2=0->bM VK (eW T row args).1 (xK T args).1:=λh=>cK (λx hx=>⟨by have:=wF args x hx;omega,al x hx⟩) w1 h;obtain⟨K,hK⟩:=eX (eW T row args);rw[hK]at hM ak;simp[go_sem,ah,an,aa];refine wL 8 3 dc (by rfl) ?_;refine zG (S:=Nat×List bF) [1,3,5,6,8,9,10] (λu=>[.sl .ro (row.map bF.row),.ptr 0 0,.ptr 1 0,.ptr 2 0,.sl (.app 3) (u.2.map bF.row),.bool (j7 u.2),.int .i64 (u.1:Int)]) (λu=>[.box T.row,.box e.row,.box [.int .i64 0,.int .i64 0,.str []],.app u.2.length 3]) (λu=>args.length-u.1) (λu=>u.1<=args.length/\u.2.length=u.1/\(eW T row (args.drop u.1)).2=K.2/\(K.2=0->u.2++(eW T row (args.drop u.1)).1=K.1)) hc hb (0,[]) (by grind) ?_ ?_;.exact bT 4 (by simp[go_sem,aa]) rfl (by simp[bO,cH,cF,bG.bK,bH.row]) om (zC (by rfl) rfl)
  rintro⟨i,l⟩⟨hi,hl,hinv,ab⟩;simp only at hi hl hinv ab;by_cases q:i<args.length;rotate_left
  .rw[A4 om,eW]at hinv ab;have ao:K.2=0:=hinv.symm;have aw:l=K.1:=by grind
   have n2:¬K.2≠0:=om;rw[ahO n2,<-aw]at hM;have hA:=ak ao;rw[<-aw]at hA;obtain⟨_,d1,d2,d3,d4⟩:=Oq au hA;have ax:=xc4 au hA;have a6:0<l.length:=d1;obtain⟨o,ho⟩:=eX (lz e.s l);rw[ho]at hM ax;subst hM;clear ho;rcases ax with⟨h1,h2⟩|⟨h1,h2⟩|⟨h1,x,y,af,h2⟩|⟨h1,x,y,af,h2⟩|⟨h1,h3,h2⟩|⟨h1,h3,h4,x,hx,h2⟩|⟨h1,h3,h4,h5,h6,h2⟩|⟨h1,h3,h4,h5,x,y,af,h6,h2⟩;.have hc:=tF (j7 l);refine zA ?_;simp[go_sem,aa,q,h1];refine pC hc ?_;simp[go_sem];exact ret _ _ _ h2.symm
   .have hc:=tF (!j7 l);refine zA ?_;simp[go_sem,aa,q,h1];refine pC hc ?_;simp[go_sem];exact ret _ _ _ h2.symm
   .have hc:=TL [65,78,68] (rI x) (rI y);have hx:=KF x;have hy:=KF y;refine zA ?_;simp[go_sem,aa,q,h1,af];refine zW [(5,0),(9,0),(10,0)] 2 sm (by rfl) kR ?_;simp[go_sem];refine pD hx ?_;simp[go_sem];refine pD hy ?_;simp[go_sem];refine pD hc ?_;simp[go_sem];exact ret _ _ _ h2.symm
   .have hc:=TL [79,82] (rI x) (rI y);have hx:=KF x;have hy:=KF y;refine zA ?_;simp[go_sem,aa,q,h1,af];refine zW [(5,0),(9,0),(10,0)] 2 sm (by rfl) kR ?_;simp[go_sem];refine pD hx ?_;simp[go_sem];refine pD hy ?_;simp[go_sem];refine pD hc ?_;simp[go_sem];exact ret _ _ _ h2.symm
   .refine zA ?_;simp[go_sem,aa,q,h1.n1,h1.n2,h1.n3,h1.n4,h3];exact ret zeroV 0 _ h2.symm
   .subst hx;have hc:=tF (x.n==0);refine zA ?_;simp[go_sem,aa,q,h3,h4];refine pC hc ?_;simp[go_sem];exact ret _ _ _ h2.symm
   .have hc:=xc7 e.s l d1 h6 d3;have ha:=Nb e.s;rw[h5]at ha;rw[<-h2]at hc;refine zA ?_;simp[go_sem,aa,q,h1.n1,h1.n2,h1.n3,h1.n4,h3,h4];refine pC ha ?_;simp[go_sem];refine pC hc ?_;simp[go_sem,dP];exact ret _ _ _ rfl
   .have ha:=Nb e.s;rw[h5]at ha;have hc:=TU x y;generalize fw x y=cv at hc h2;have e1:e.s=[61]->xX (rH e.s cv)=xX (cv==0):=λh=>by rw[h];rfl
    have e2:e.s=[60,62]->xX (rH e.s cv)=xX (cv !=0):=λh=>by rw[h];rfl
    have e3:e.s=[60]->xX (rH e.s cv)=xX (decide (cv<0)):=λh=>by rw[h];rfl
    have e4:e.s=[60,61]->xX (rH e.s cv)=xX (decide (cv<=0)):=λh=>by rw[h];rfl
    have e5:e.s=[62]->xX (rH e.s cv)=xX (decide (0<cv)):=λh=>by rw[h];rfl
    have e6:e.s=[62,61]->xX (rH e.s cv)=xX (decide (0<=cv)):=λh=>by rw[h];rfl
    refine zA ?_;simp[go_sem,aa,q,h1.n1,h1.n2,h1.n3,h1.n4,h3,h4];refine pC ha ?_;simp[go_sem,af];refine zW [(6,0)] 2 sm (by rfl) kR ?_;simp[go_sem];refine pD hc ?_;rcases h6 with h6|h6|h6|h6|h6|h6;.rw[e1 h6]at h2;simp[go_sem,h6];refine pC (tF (cv==0)) ?_;simp[go_sem];exact ret _ _ _ h2.symm
    .rw[e2 h6]at h2;simp[go_sem,h6];refine pC (tF (cv !=0)) ?_;simp[go_sem];exact ret _ _ _ h2.symm
    .rw[e3 h6]at h2;simp[go_sem,h6];refine pC (tF (decide (cv<0))) ?_;simp[go_sem];exact ret _ _ _ h2.symm
    .rw[e4 h6]at h2;simp[go_sem,h6];refine pC (tF (decide (cv<=0))) ?_;simp[go_sem];exact ret _ _ _ h2.symm
    .rw[e5 h6]at h2;simp[go_sem,h6];refine pC (tF (decide (0<cv))) ?_;simp[go_sem];exact ret _ _ _ h2.symm
    .rw[e6 h6]at h2;simp[go_sem,h6];refine pC (tF (decide (0<=cv))) ?_;simp[go_sem];exact ret _ _ _ h2.symm
  have ei:=zR q om;obtain⟨x,hx⟩:=eX (args[i]);have ai:x∈args:=(by grind);have a7:=wF args x ai;rw[A2 q,hx,eW]at hinv ab;have ad:=ih x om (aj x ai) (al x ai) (av x ai);generalize lS T row x=kx at ad hinv ab;by_cases q4:kx.2=0
  .have n3:¬kx.2≠0:=om;rw[ahO n3]at hinv ab;have aq:(kx.2!=0)=false:=by grind
   have fin:∀e' U',At 0 [1,3,5,6,8,9,10] [.sl .ro (row.map bF.row),.ptr 0 0,.ptr 1 0,.ptr 2 0,.sl (.app 3) ((l++[kx.1]).map bF.row),.bool (j7 (l++[kx.1])),.int .i64 ((i+1:Nat):Int)] [.box T.row,.box e.row,.box [.int .i64 0,.int .i64 0,.str []],.app (l++[kx.1]).length 3] e' U'->Vx.Next (λs':Nat×List bF=>args.length-s'.1<args.length-i/\(s'.1<=args.length/\s'.2.length=s'.1/\(eW T row (args.drop s'.1)).2=K.2/\(K.2=0->s'.2++(eW T row (args.drop s'.1)).1=K.1))/\At 0 [1,3,5,6,8,9,10] [.sl .ro (row.map bF.row),.ptr 0 0,.ptr 1 0,.ptr 2 0,.sl (.app 3) (s'.2.map bF.row),.bool (j7 s'.2),.int .i64 (s'.1:Int)] [.box T.row,.box e.row,.box [.int .i64 0,.int .i64 0,.str []],.app s'.2.length 3] e' U') fx:=λe' U' h=>zH (i+1,l++[kx.1]) ⟨om,(by grind),h⟩;have ay:(j7 (l++[kx.1]))=(j7 l||(kx.1.kind==0)):=by unfold j7;simp
   rw[ay]at fin;obtain⟨b0,ag⟩:=eX (j7 l);rw[ag]at fin;refine zA ?_;simp[go_sem,aa,q];refine zW [(7,0)] 2 sm (by rfl) kR ?_;simp[go_sem,q,hx];refine yF ad cB (λ_=>zK sg (by rw[bG.bK];rfl)) rfl ?_;simp[go_sem,dP,aq];refine zF ⟨om,zT rfl⟩ ?_;refine(A1 b0).elim (λp=>?_) (λp=>?_);.rw[p,Cd]at fin;rw[p]at ag;simp[go_sem,ag,ei];exact fin _ _ (bT 4 (by simp[go_sem,aa]) rfl (by simp[bO,cH,cF,bG.bK,bH.row]) om (zC sg rfl))
   .rw[p,Bf]at fin;rw[p]at ag;simp[go_sem,ag,ei];exact fin _ _ (bT 4 (by simp[go_sem,aa]) rfl (by simp[bO,cH,cF,bG.bK,bH.row]) om (zC sg rfl))
  .rw[ahP q4]at hinv;have aq:(kx.2!=0)=true:=by grind
   have ao:kx.2=K.2:=hinv;rw[ahP om,<-ao]at hM;refine zA ?_;simp[go_sem,aa,q];refine zW [(7,0)] 2 sm (by rfl) kR ?_;simp[go_sem,q,hx];refine yF ad cB (λ_=>zK sg (by rw[bG.bK];rfl)) rfl ?_;simp[go_sem,dP,aq];exact ret zeroV _ _ hM
end Go.Proofs.YtefbicjgbaaieaaGreat
namespace Go.Vx
open Go
theorem xD2(s:Nat){n0:Nat}{R:V->St->Prop}{U:St}(hs:0<s)(h:bW (some (.cL U.length s 0 0 0)) n0 R (U++[.cj [] s])):bW (some (.sl .full [])) n0 R U:=by obtain⟨x,e,v1,U1,pick,U',r,hf,hp,ha,hr⟩:=h;cases e;exact⟨_,rfl,v1,U1,pick,U',r,.GN 0 s hs rfl hf,hp,ha,hr⟩
end Go.Vx
namespace Go.Proofs.YtefbicjgbaaieaaGreat
open Go Go.Vx R Go.Proofs.Tryz
set_option maxRecDepth 100000
structure dW where
 name:aij
 sign:aij
 v:bF
def dW.row(c:dW):List V:=[.str c.name,.str c.sign,.int .i64 c.v.kind,.int .i64 c.v.n,.str c.v.s]
def eU:List aij:=[[61],[60],[60,61],[62],[62,61]]
def ml(e:bG):List dW:=match e.args with |[a,b]=>if¬e.kind=3\/eU.contains e.s=false then[]else if a.kind=2/\b.kind=1/\¬b.v.kind=0then[⟨a.s,e.s,b.v⟩]else if b.kind=2/\a.kind=1/\¬a.v.kind=0then[⟨b.s,uN e.s,a.v⟩]else[]|_=>[]
def lA:Nat->bG->List bG |0,e=>[e]|n+1,e=>if nj e=true then e.args.flatMap (lA n)else[e]
def mm(n:Nat)(e:bG):List dW:=(lA n e).flatMap ml
theorem KG(e:bG):(ml e).length<=1:=by
 unfold ml;repeat' split
 all_goals simp
theorem TX{n:Nat}{e a b:bG}(h:nj e)(aa:e.args=[a,b]):mm (n+1) e=mm n a++mm n b:=by unfold mm;rw[lA,ahP h,aa];simp
theorem xE5{e:bG}(h:nj e):∃a b,e.args=[a,b]:=by unfold nj at h;rw[A8]at h;exact Oz (sU h.2)
theorem H3:∀(n:Nat)(e:bG),(mm n e).length<=jP e
 |0,e=>by have:=KG e;have:=F0 e;simp[mm,lA];omega|n+1,e=>by
  by_cases h:nj e=true;.obtain⟨a,b,aa⟩:=xE5 h;have h1:=H3 n a;have h2:=H3 n b;rw[TX h aa,Al,wy e,aa,Kb];omega
  .have:=KG e;have:=F0 e;unfold mm;rw[lA,ahO h];simp;omega
theorem xG8(l:List dW):eM 5 (l.map dW.row):=vZ λ_=>rfl
theorem TY(l:List dW):xB (l.map dW.row)=true:=by simp[xB,dW.row,oz]
theorem TZ(l:List dW):gE (l.map dW.row) 0 l.length=l.map dW.row:=by unfold gE;rw[Au,Ac sm,B8];exact B6 λc _=>rfl
theorem OA(ρ:Nat->Nat)(l:List dW):List.map ((λr=>List.map (dz ρ) r)∘dW.row) l=l.map dW.row:=B6 λ_c _=>rfl
theorem T0:∀(n:Nat)(e:bG),xG e<=n->jP e<=4000->bL prog 333 [.agg e.row] [] (λr U=>r=.cL 0 5 (mm n e).length 0 (mm n e).length/\U=[.cj ((mm n e).map dW.row) 5])
 |0,e,h,_=>by have:=u9 e;omega|n+1,e,h,hz=>by
  have ih:=T0 n;have al:=nH e;have aj:=wy e;obtain⟨L,hL⟩:=eX (mm (n+1) e);rw[hL];unfold mm at hL;rw[lA]at hL;have nil:∀(τ:St),L=[]->bW (some (.sl .full [])) 0 (λr U=>r=.cL 0 5 L.length 0 L.length/\U=[.cj (L.map dW.row) 5]) τ:=λτ h=>by
   refine xD2 5 dc (JH [τ.length] (s:=[.cj [] 5]) (r:=.cL 0 5 0 0 0) sm (λi hi=>om) rfl ?_ (.inl (by simp[dG,dQ,dz,dE,cO])) ?_);.intro i j o h1 h2;cases i with |zero=>simp at h1 h2;subst h1 h2;simp[yO]|succ i=>simp at h1
   .rw[h];exact⟨rfl,rfl⟩
  refine iV 0 func333 ntmps333 results333 λc hc hb=>?_;refine qQ 74 dc ?_;refine qQ 97 dc ?_;refine zA ?_;simp[go_sem];by_cases q1:e.kind=3;rotate_left;.have ag:(e.kind !=3)=true:=sU q1;simp[go_sem,ag];refine nil _ ?_;rw[<-hL,ahO (by unfold nj;simp[q1])];simp[ml,q1];split<;>rfl
  have ag:(e.kind !=3)=false:=sU q1;simp[go_sem,ag];by_cases q2:e.args.length=2;rotate_left
  .have ah:((e.args.length:Int)!=2)=true:=by simpa using(show¬(e.args.length:Int)=2by omega)
   simp[go_sem,ah];refine nil _ ?_;rw[<-hL,ahO (by unfold nj;simp[q2])];simp[ml];split;.rename_i h;rw[h]at q2;exact absurd rfl q2
   .rfl
  have ah:((e.args.length:Int)!=2)=false:=by simpa using(show(e.args.length:Int)=2by omega)
  simp[go_sem,ah];obtain⟨a,b,ad⟩:∃a b,e.args=[a,b]:=by match e.args,q2 with|[a,b],_=>exact⟨a,b,rfl⟩
  refine MG [(10,3),(11,3)] 1 8 sm kR (by rw[hc];exact A3 _) hb kR rfl (by repeat'(first|exact mI.kO|refine mI.fe ?_ (by simp[jZ,l8,cH,cF]))) (by simp only[C3,Df];exact rfl) (by simp only[Cx,Au];exact rfl) ?_;simp[go_sem,ad];refine⟨by repeat'(first|exact mI.kO|refine mI.fe ?_ (by simp[jZ,l8,cH,cF])),?_⟩;rw[ad]at aj al;rw[Kb]at aj;by_cases q3:e.s=[65,78,68]
  .have hand:nj e:=by unfold nj;simp[q1,q2,q3]
   have aa:mm n a++mm n b=L:=by rw[<-TX hand ad];unfold mm;rw[lA];exact hL
   have ia:=ih a (by have:=wF [a,b] a sm;omega) om;have ib:=ih b (by have:=wF [a,b] b sm;omega) om;have la:=H3 n a;have lb:=H3 n b;generalize mm n a=ca at ia la aa;generalize mm n b=cb at ib lb aa;have ai:(e.s==[65,78,68])=true:=sU q3;simp[go_sem,ai];refine zW [(1,3),(3,3)] 3 sm kR kR ?_;simp[go_sem];refine QA ia cB (zK sg (by rw[bG.bK];rfl)) ?_;simp[go_sem,dG,dQ,dz,dE,cO,yO];refine QA ib cB (zK sg (by rw[bG.bK];rfl)) ?_;simp[go_sem,dG,dQ,dz,dE,cO,yO,OA,TZ];have hp:xB (List.take cb.length (List.map dW.row cb)):=by rw[<-List.map_take];exact TY _
   have fin:∀(τ:St),τ[3]?=some (.cj (L.map dW.row) 5)->bW (some (.cL 3 5 L.length 0 L.length)) 0 (λr U=>r=.cL 0 5 L.length 0 L.length/\U=[.cj (L.map dW.row) 5]) τ:=λτ h=>by refine JH [3] (s:=[.cj (L.map dW.row) 5]) (r:=.cL 0 5 L.length 0 L.length) sm (λi hi=>om) rfl ?_ (.inl (by simp[dG,dQ,dz,dE,cO])) ⟨rfl,rfl⟩;intro i j o h1 h2;cases i with |zero=>simp at h1 h2;subst h1 h2;rw[h];simp[yO,OA]|succ i=>simp at h1
   have key:cb=[]\/0<cb.length:=by cases cb<;>simp
   rcases key with h0|h0;.rw[h0,Ay]at aa;subst aa;simp[go_sem,h0];refine zF ⟨rfl,by unfold eM;simp⟩ ?_;simp[go_sem];exact fin _ sm
   .have an:ca.length+cb.length=L.length:=by rw[<-aa,Al]
    have ao:List.map dW.row ca++List.map dW.row cb=L.map dW.row:=by rw[<-aa,Da]
    rw[ahO om,an,ao];simp[go_sem];refine zF ⟨hp,xG8 _,om⟩ ?_;simp[go_sem];exact fin _ rfl
  have ai:(e.s==[65,78,68])=false:=sU q3;simp[go_sem,ai];have aa:ml e=L:=by rw[<-hL,ahO (by unfold nj;simp[q3])];simp
  unfold ml at aa;rw[ad]at aa;simp only[q1,not_true,false_or]at aa;have fin:∀(x:dW)(τ:St),[x]=L->τ[3]?=some (.cj [x.row] 5)->bW (some (.cL 3 5 1 0 1)) 0 (λr U=>r=.cL 0 5 L.length 0 L.length/\U=[.cj (L.map dW.row) 5]) τ:=λx τ hx h=>by subst hx;refine JH [3] (s:=[.cj [x.row] 5]) (r:=.cL 0 5 1 0 1) sm (λi hi=>om) rfl ?_ (.inl (by simp[dG,dQ,dz,dE,cO])) ⟨rfl,rfl⟩;intro i j o h1 h2;cases i with |zero=>simp at h1 h2;subst h1 h2;rw[h];rfl|succ i=>simp at h1
  by_cases ab:eU.contains e.s=true;rotate_left
  .have ab:eU.contains e.s=false:=sU ab;rw[ahP ab]at aa;have ab:(e.s==[61])=false/\(e.s==[60])=false/\(e.s==[60,61])=false/\(e.s==[62])=false/\(e.s==[62,61])=false:=by simpa[eU]using ab
   simp[go_sem,ab.1,ab.2.1,ab.2.2.1,ab.2.2.2.1,ab.2.2.2.2];exact nil _ aa.symm
  rw[ahO (by rw[ab];decide)]at aa;have hs:e.s=[61]\/e.s=[60]\/e.s=[60,61]\/e.s=[62]\/e.s=[62,61]:=by simpa[eU]using ab
  clear ab;have ak:=ZR e.s;have ae:(a.kind=2/\b.kind=1/\¬b.v.kind=0)\/((a.kind==2)=false)\/((a.kind==2)=true/\(b.kind==1)=false)\/((a.kind==2)=true/\(b.kind==1)=true/\(b.v.kind !=0)=false):=by by_cases k1:a.kind=2<;>by_cases k2:b.kind=1<;>by_cases k3:b.v.kind=0<;>simp[k1,k2,k3]
  have af:(b.kind=2/\a.kind=1/\¬a.v.kind=0)\/((b.kind==2)=false)\/((b.kind==2)=true/\(a.kind==1)=false)\/((b.kind==2)=true/\(a.kind==1)=true/\(a.v.kind !=0)=false):=by by_cases k1:b.kind=2<;>by_cases k2:a.kind=1<;>by_cases k3:a.v.kind=0<;>simp[k1,k2,k3]
  rcases hs with hs|hs|hs|hs|hs;all_goals
   rw[hs]at ak aa;simp[go_sem,hs];by_cases c1:a.kind=2/\b.kind=1/\¬b.v.kind=0;.rw[ahP c1]at aa;have k1:(a.kind==2)=true:=sU c1.1;have k2:(b.kind==1)=true:=sU c1.2.1;have k3:(b.v.kind !=0)=true:=sU c1.2.2;simp[go_sem,k1,k2,k3];exact fin _ _ aa rfl
   rw[ahO c1]at aa;rcases ae.resolve_left c1 with k1|⟨k1,k2⟩|⟨k1,k2,k3⟩;all_goals
    first|simp[go_sem,k1,k2,k3]|simp[go_sem,k1,k2]|simp[go_sem,k1]
    by_cases c2:b.kind=2/\a.kind=1/\¬a.v.kind=0;.rw[ahP c2]at aa;have j1:(b.kind==2)=true:=sU c2.1;have j2:(a.kind==1)=true:=sU c2.2.1;have j3:(a.v.kind !=0)=true:=sU c2.2.2;simp[go_sem,j1,j2,j3];refine zW [(4,0),(8,3)] 3 sm kR kR ?_;simp[go_sem];refine pD ak ?_;simp[go_sem];exact fin _ _ aa rfl
    rw[ahO c2]at aa;rcases af.resolve_left c2 with j1|⟨j1,j2⟩|⟨j1,j2,j3⟩;.simp[go_sem,j1];exact nil _ aa.symm
    .simp[go_sem,j1,j2];exact nil _ aa.symm
    .simp[go_sem,j1,j2,j3];exact nil _ aa.symm
def n9(n:Nat)(st:bQ):List dW:=if st.cz=true then mm n st.bU else[]
theorem H4(n:Nat)(st:bQ)(hd:xG st.bU<=n)(hz:jP st.bU<=4000):Pure prog 262 [.agg st.row] (.sl .ro ((n9 n st).map dW.row)):=by
 have h:=T0 n st.bU hd hz;obtain⟨L,hL⟩:=eX (n9 n st);rw[hL];unfold n9 at hL;generalize mm n st.bU=C at h hL;have aa:=TZ L;have ab:=TY L;refine iW 0 func262 ntmps262 results262 λc hc hb=>zM ?_;simp[go_sem];refine(A1 st.cz).elim (λw=>?_) (λw=>?_);.rw[ahP w]at hL;subst hL;simp[go_sem,w];refine Ye h cB [] C5 rfl (λi j o h=>by simp at h) (zK sg (by rw[bG.bK];rfl)) ?_;rintro r s⟨rfl,rfl⟩_;simp[go_sem,dG,dQ,dz,dE,cO,yO,OA,wD,gr];refine L6 1 5 (C.map dW.row) rfl ab ?_;simp[fr,iF,iE,ij];rw[aa];exact zV zP ⟨rfl,rfl⟩
 .rw[ahO (by rw[w];decide)]at hL;subst hL;simp[go_sem,w];exact zV (zP) ⟨rfl,rfl⟩
end Go.Proofs.YtefbicjgbaaieaaGreat
