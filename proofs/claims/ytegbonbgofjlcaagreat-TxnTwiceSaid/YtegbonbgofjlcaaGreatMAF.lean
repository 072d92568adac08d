/-
  Rules of the walk for maps: an entry that is laid for `m[k] op= v`, looked at and laid in regions whose order is open.
  No condition: a library text; nothing of the program is named.
-/
import Derived.Test.YtegbonbgofjlcaaGreatMAE
set_option maxHeartbeats 8000000
namespace Go.Vx
open Go
structure lk(k:Nat)(τ s I':St)(pick:alX):Prop where
 fB:gT 0 pick I' (s++τ)first:∀i,i<k->pick[i]?=some i
 rest:∀i,i<τ.length->pick[s.length+i]?=some (k+i)
variable{P:Program}{I:St}{I':St}{n:Nat}{e:Env}{k:Nat}{c:Ctx}{l:List V}{τ:St}{nt:Nat}{d:Option Tmp}{m:Nat}{ρ:Nat->Nat}{DC:Nat->Nat}{f:FuncId}{K:KT}{op:Op}{ms:alX}{i:Nat}{o:Ob}{cd:List V}{H:FuncId->alX}
theorem lk.IT{s:St}{pick:alX}(h:lk k τ s I' pick){M:Nat}(hi:i<k):cO pick M i=i:=by have h1:=h.first i hi;obtain⟨hl,e⟩:=A3.1 h1;simp_all[cO]
theorem lk.IU{s:St}{pick:alX}(h:lk k τ s I' pick){M:Nat}(hi:i<τ.length):cO pick M (s.length+i)=k+i:=by have h1:=h.rest i hi;obtain⟨hl,e⟩:=A3.1 h1;simp_all[cO]
theorem xV1(h:n<=m){v:V}(hv:cR n v):cR m v=true:=by cases v with |sl g rows=>cases g<;>simp_all[cR]<;>omega|_=>simp_all[cR]<;>omega
theorem OV(h:n<=m){v:V}(hv:cV n v):cV m v=true:=by cases v<;>grind[cV,xV1]
theorem Tn(h:n<=m){v:V}(hv:iu n v):iu m v=true:=by cases v<;>grind[iu,OV]
theorem LD(h:n<=m)(ho:bS n o):bS m o=true:=by cases o with
 |box cells=>grind[bS,OV]|cv rows s=>grind[bS,OV]|mp dZ gH dm=>grind[bS,Tn]|it m' since seen last=>cases m' with |none=>rfl|some i=>simp_all[bS];omega
 |_=>rfl
theorem OW{v:V}(h:∀i,i<n->ρ i=DC i)(hv:cR n v):dv ρ v=dv DC v:=by cases v with|sl g rows=>cases g<;>simp_all[dv,cR]|_=>simp_all[dv,cR]
theorem LF{v:V}(h:∀i,i<n->ρ i=DC i)(hv:cV n v):du ρ v=du DC v:=by cases v with |fn f cd=>simp only[cV,Am]at hv;simp only[du];congr 1;grind[Bb,OW]|iw t v=>simp only[cV,Am]at hv;simp only[du];congr 1;grind[Bb,OW]|_=>simp only[du];exact(by grind[OW,cV])
theorem xl5{v:V}(h:∀i,i<n->ρ i=DC i)(hv:iu n v):dQ ρ v=dQ DC v:=by cases v with |agg cs=>simp only[iu,Am]at hv;simp only[dQ];congr 1;grind[Bb,LF]|_=>simp only[dQ];exact(by grind[LF,iu])
theorem To(h:∀i,i<n->ρ i=DC i)(ho:bS n o):yC ρ o=yC DC o:=by cases o with
 |box cells=>simp only[bS,Am]at ho;simp only[yC];congr 1;grind[Bb,LF]|cv rows s=>simp only[bS,Am]at ho;simp only[yC];congr 1;grind[Bb,LF]|mp dZ gH dm=>simp only[bS,Am]at ho;simp only[yC];congr 1;grind[Bb,xl5]|it m since seen last=>cases m with |none=>rfl|some i=>simp_all[bS,yC]
 |_=>rfl
theorem LG{args ct:List V}{fM:St}{KV:V->St->Prop}{R:V->St->Prop}(hc:bN P f ct fM R)(hb:xI P f)(aq:fM.all (bS fM.length))(hτ:τ.all (bS 0))(aj:bP (cW (cO (List.range fM.length) (fM.length+τ.length))) ct (args++cd))(hR:∀r s,R r s->gY r=true/\s.all (bS s.length))(hk:∀r s,R r s->fM.length<=s.length->∀I' pick,lk fM.length τ s I' pick->KV r I'):jn P c (.fn f cd) args (fM++τ) KV fx:=by
 have ar:(fM++τ).length=fM.length+τ.length:=Al;refine VC.of hc hb (List.range fM.length) Be sM (λi j o h1 h2=>?_) (by grind) λr s hr hl=>?_
 .obtain⟨h3,h4⟩:=A3.1 h1;simp at h3 h4;subst h4;rw[Ap h3,h2];have ho:bS fM.length o:=by grind
  grind[yV,rL]
 .obtain⟨ak,hs⟩:=hR r s hr;rw[CI ak];rw[List.length_range]at hl;obtain⟨k,ah⟩:=eX fM.length;rw[ah]at hl hk⊢;obtain⟨I',ab⟩:∃I',yY (List.range k) (fM++τ) s=I':=⟨_,rfl⟩;rw[ab];have al:(fM++τ).length=k+τ.length:=om;have ao:I'.length=s.length+τ.length:=by grind[G6]
  have hold:∀i o,s[i]?=some o->I'[if i<k then i else i+τ.length]?=some (yC (cO (List.range k) (k+τ.length)) o):=λi o ho=>by
   have:=Ev (dz:=List.range k) (Ic:=fM++τ) (I':=s) Be (λq hq=>by have:=Cs.1 hq;omega) (sU hl) ho;rw[ab,al]at this;by_cases hi:i<k;.simp_all[rL]
   .rw[alp hi];grind[rG]
  have ad:∀i,i<τ.length->I'[k+i]?=τ[i]?:=λi hi=>by rw[<-ab];unfold yY;rw[Ap (by grind[n4]),ua _ _ _ _ sM,Ar om,ah];simp
  refine hk r s hr hl I' (List.range k++(List.range (s.length-k)).map (k+τ.length+·)++(List.range τ.length).map (k+·)) ?_;obtain⟨pick,hp⟩:=eX (List.range k++(List.range (s.length-k)).map (k+τ.length+·)++(List.range τ.length).map (k+·));rw[hp];have au:pick.length=s.length+τ.length:=by grind
  have an:∀i,i<k->pick[i]?=some i:=(by grind);have av:∀i,k<=i->i<s.length->pick[i]?=some (i+τ.length):=λi h1 h2=>by rw[<-hp,Ap (by grind),Ar (by grind),List.length_range,B9,Dh om,Bf];congr 1;omega
  have ai:∀i,i<τ.length->pick[s.length+i]?=some (k+i):=λi hi=>by rw[<-hp,Ar (by grind)];simp only[Al,List.length_range,Au];grind
  have jo:∀i,i<s.length->cO pick I'.length i=cO (List.range k) (k+τ.length) i:=λi hi=>by have ae:i<pick.length:=om;unfold cO;grind
  refine⟨⟨by grind,?_,λi j o aa ho=>?_,om⟩,an,ai⟩
  .rw[<-hp];refine Ct.2 ⟨Ct.2 ⟨Be,?_,λa ha b hb=>?_⟩,?_,λa ha b hb=>?_⟩;.exact List.Pairwise.map _ om (Be (n:=_))
   .grind
   .exact List.Pairwise.map _ om (Be (n:=_))
   .simp only[Ai,Cs,Ab]at ha hb;omega
  .by_cases hi:i<s.length
   .rw[Ap hi]at ho;have h1:=hold i o ho;have h2:pick[i]?=some (if i<k then i else i+τ.length):=by grind
    rw[h2]at aa;cases aa;rw[h1];congr 1;have af:bS s.length o:=by grind
    exact(To jo af).symm
   .rw[Ar om]at ho;have ae:=(A3.1 ho).1;have h2:=ai (i-s.length) ae;rw[show s.length+(i-s.length)=i by omega]at h2;rw[h2]at aa;cases aa;rw[ad _ ae,ho];have af:bS 0 o:=by grind
    rw[yV (n:=0) om af]
theorem Tp{s:St}{pick keep:alX}{vs:List V}(h:lk k τ s I' pick)(ha:bP (cW (cO pick I'.length)) vs (keep.map e)):At 0 keep vs (s++τ) e I':=⟨pick,h.fB,ha⟩
theorem Tq{n0:Nat}{s:St}{pick:alX}{R:V->St->Prop}{v:V}(h:lk k τ s I' pick)(hn:n0<=k)(hs:s.all (bS s.length))(ad:k<=s.length)(hv:gY v)(hR:R v s):cz (some v) n0 R I':=by
 have ae:pick.length=s.length+τ.length:=by rw[<-h.fB.len,Al]
 refine OU (pick.take s.length) ?_ (λi hi=>?_) (by grind) (λi j o aa ho=>?_) (zC hv) hR;.exact h.fB.nodup.sublist (by grind)
 .rw[An,alq om];exact h.first i om
 .have hi:=(A3.1 ho).1;rw[An,alq hi]at aa;rw[h.fB.ob i j o aa (by grind)];congr 1;have ab:bS s.length o:=by grind
  refine To (λq hq=>?_) ab;unfold cO;grind
theorem wr2{args ct:List V}{o2:Ob}{v:V}{KV:V->St->Prop}(hc:bN P f ct [o] (λr s=>r=v/\s=[o2]))(hb:xI P f)(ho:I[0]?=some o)(ad:bS 0 o)(ab:bS 0 o2)(aa:bP (cW (cO [0] I.length)) ct (args++cd))(hn:gY v)(hk:KV v (I.set 0 o2)):qS P c ⟨1,n,[],none⟩ 3 (.fn f cd) args I KV fx:=by
 have ae:∀q:Ob,bS 0 q=true->yC (cO [0] I.length) q=q:=λq h=>yV (n:=0) om h;have e:yY [0] I [o2]=I.set 0 o2:=by grind[yY,fW]
 refine G7 hc hb [0] sM rfl (λi j q h1 h2=>?_) aa (.inr ?_) ?_;.grind
 .rw[e];exact Kp.jq sM
 grind[CI]
def yT(b:Bool):R->Prop |.eP p _=>b=true->p|.dR p _ _=>b=true->p|_=>True
def l8(s:Nat)(rows:List (List V)):Bool:=rows.all λr=>r.length==s
theorem yx{s:Nat}{rows:List (List V)}(h:l8 s rows):eU s rows:=λr hr=>by have:=Am.1 h r hr;grind
def OX:List V->Bool |[.int .u8 _]=>true|_=>false
theorem xN9{rows:List (List V)}(h:rows.all OX):Ie rows:=λr hr=>by have:=Am.1 h r hr;unfold OX at this;grind
def LH(op:BinOp)(y:Int):Bool:=match op with |.quo|.rem=>decide (y≠0)|.shl|.shr=>decide (0<=y)|_=>true
def OY(op:BinOp)(x y:alW):Bool:=match op with |.add=>decide (x.length+y.length<=9223372036854775807)|_=>true
def Fl(op:BinOp)(x y:V):Bool:=match x,y with |.int _ _,.int _ b=>LH op b|.str a,.str b=>OY op a b|_,_=>true
theorem yT9(op:BinOp)(k:IntKind)(x y:Int):yT (LH op y) (El op k x y):=by cases op<;>simp[El,LH,yT]
theorem xb3(op:BinOp)(x y:alW):yT (OY op x y) (Em op x y):=by cases op<;>simp[Em,OY,yT]
theorem xN2(op:BinOp)(ek:Nat)(es:Option (List Pk))(x y:V):yT (Fl op x y) (nG op ek es x y):=by
 unfold nG;split;.grind[Fl,yT9,LH,yT]
 .exact xb3 ..
 all_goals(repeat' split)<;>trivial
theorem xj7(op:BinOp)(ek:Nat)(x:V)(b:Bool):yT b (xu op ek x):=by unfold xu H7;(repeat' split)<;>trivial
def OZ(sl:am2)(ar:Option (Nat×Nat×Bool))(x i:V):Bool:=match x,i with |.sl _ rows,.int _ k=>(match sl with|some s=>decide (0<=k/\k<rows.length/\(rows.getD k.toNat []).length=s)|none=>true)|.ptr _ _,.int _ k=>(match ar with|some (n,_,_)=>decide (0<=k/\k<n)|none=>true)|.pG _ _,.int _ k=>(match ar with|some (n,_,_)=>decide (0<=k/\k<n)|none=>true)|.cS _ _ _ _ m,.int _ k=>decide (0<=k/\k<m)|.kF _ _ _ n,.int _ k=>decide (0<=k/\k<n)|_,_=>true
theorem yG5(sl:am2)(ar:Option (Nat×Nat×Bool))(x i:V):yT (OZ sl ar x i) (xw sl ar x i):=by
 unfold xw;split;all_goals first|trivial|simp only[OZ]
 all_goals split<;>first|trivial|simp only[yT,alw,imp_self]
def yy(x i:V)(ar:Option (Nat×Nat×Bool)):Bool:=match x,i with |.str b,.int _ k=>decide (0<=k/\k<b.length)|.agg cs,.int _ k=>(match ar with|some (n,s,false)=>decide (0<=k/\k<n/\(k.toNat*s)<cs.length)|_=>true)|_,_=>true
theorem xT1(x i:V)(str:Bool)(ar:Option (Nat×Nat×Bool)):yT (yy x i ar) (xx x i str ar):=by
 unfold xx;split;.simp only[yy];split<;>first|trivial|simp only[yT,alw,imp_self]
 .split;all_goals simp[yy,yT]
 trivial
def IV(es:am2)(x:V)(lo hi:Option V):Bool:=match x with |.cS _ s n l0 m=>(match o9 lo 0,o9 hi m,es with|some l,some h,some z=>decide (0<=l/\l<=h/\(h<=m\/(l0:Int)+h<=n)/\z=s)|_,_,_=>true)|.str s=>(match o9 lo 0,o9 hi s.length with|some l,some h=>decide (0<=l/\l<=h/\h<=s.length)|_,_=>true)|.sl _ rows=>(match o9 lo 0,o9 hi rows.length,es with|some l,some h,some z=>decide (0<=l/\l<=h/\h<=rows.length)&&l8 z rows|_,_,_=>true)|_=>true
theorem xn2(ar:Option (Nat×Nat×Bool))(k:Nat)(es:am2)(x:V)(lo hi:Option V):yT (IV es x lo hi) (tW ar k es x lo hi):=by
 unfold tW;split
 .split;.rename_i h1 h2;split;all_goals simp_all[IV,yT]
  trivial
 .split<;>trivial
 .split;.rename_i h1 h2;split;all_goals simp_all[IV,yT]
  trivial
 .split;.rename_i h1 h2;split;all_goals simp_all[IV,yT,yx]
  trivial
 trivial
def O0(es:am2)(x lo hi mx:V):Bool:=match x,lo,hi,mx,es with |.sl _ rows,.int _ l,.int _ h,.int _ m,some z=>decide (0<=l/\l<=h/\h<=rows.length/\m=h)&&l8 z rows|.cS _ s _ _ n,.int _ l,.int _ h,.int _ m,some z=>decide (0<=l/\l<=h/\h<=m/\m<=n/\z=s)|_,_,_,_,_=>true
theorem xa9(es:am2)(x lo hi mx:V):yT (O0 es x lo hi mx) (AZ es x lo hi mx):=by unfold AZ;split;all_goals simp_all[O0,yT,yx]
def Tr(x:V):Bool:=match x with|.sl _ rows=>rows.all OX|_=>true
theorem xB9(ks kd:Option Kd)(x:V):yT (Tr x) (xz ks kd x):=by
 unfold xz;split;.split<;>trivial
 .split<;>trivial
 .split<;>trivial
 .split;.exact xN9
  trivial
 trivial
def IW(el:Option (Nat×Nat))(l m:V):Bool:=match el,l,m with |some (_,lW),.int .i64 n,.int .i64 k=>decide (0<=n/\n<=k/\k.toNat*lW<=140737488355328)|_,_,_=>false
theorem xE9(el:Option (Nat×Nat))(zs:Option (List V))(I:St)(l m:V):yT (IW el l m) (x5 el zs I l m):=by unfold x5;split;all_goals simp[IW,yT]
theorem xj0(el:Option (Nat×Nat))(zs:Option (List V))(I:St)(l m:V):yT (IW el l m) (x6 el zs I l m):=by unfold x6;split;all_goals simp[IW,yT]
def O1(sl:am2)(I:St)(x:V):Bool:=match x with |.cS id s n lo m=>(match I[id]?with|some (.cv rows s')=>decide (sl=some s/\s'=s/\rows.length=n/\lo+m<=n)|_=>true)|_=>true
theorem xg2(sl:am2)(zs:Option (List V))(I:St)(x:V):yT (O1 sl I x) (x7 sl zs I x):=by
 unfold x7;split;.split;all_goals simp_all[O1,yT]
 trivial
def rR(I:St):V->Bool |.cS id s n lo m=>(match I[id]?with|some (.cv rows s')=>decide (s'=s/\rows.length=n/\lo+m<=n)&&xB ((rows.drop lo).take m)|_=>false)|_=>true
theorem IX{y:V}(h:rR I y):tR I y:=by
 unfold tR;split
 .simp only[rR]at h;split at h;.rename_i h1;rw[h1];simp only[Aa,alw]at h;exact⟨h.1.1,h.1.2.1,h.1.2.2,h.2⟩
  grind
 simp
def Hg(el:Option (Nat×Nat))(k2:Nat)(I:St)(x y:V):Bool:=match el,Eo k2 I y with |some (s,lW),some r2=>(match x with |.sl .full r1=>rR I y&&decide ((r1.length+r2.length)*lW<=140737488355328)&&l8 s r1&&l8 s r2|.sl (.app id) r1=>(match I[id]?with |some (.app n s')=>rR I y&&decide (r1.length=n/\s'=s/\(r1.length+r2.length)*lW<=140737488355328)&&l8 s r2|_=>true)|.cS id s1 n lo m=>(match I[id]?with |some (.cv rows s')=>rR I y&&decide (s1=s/\s'=s/\rows.length=n)&&l8 s r2&&(decide (lo+m+r2.length<=n)||decide (lo=0/\m=n/\(n+r2.length)*lW<=140737488355328))|_=>true)|_=>true)|_,_=>true
theorem yO8(el:Option (Nat×Nat))(k2:Nat)(I:St)(x y:V):yT (Hg el k2 I x y) (tS el k2 I x y):=by
 unfold tS;split
 .rename_i h2;split;.simp_all[Hg,yT,IX,yx]
  .split;all_goals simp_all[Hg,yT,IX,yx]
  .split
   .rename_i h3;split;.simp_all[Hg,yT,IX,yx]
    simp_all[Hg,yT,IX,yx];omega
   trivial
  trivial
 trivial
def O2(I:St):V->Bool |.cS id s n lo m=>(match I[id]?with|some (.cv rows s')=>decide (s'=s/\rows.length=n/\lo+m<=n)|_=>false)|_=>true
theorem Ts{y:V}(h:O2 I y):Ep I y:=by
 unfold Ep;split;.simp only[O2]at h;grind
 simp
def IY(el:Option (Nat×Nat))(k2:Nat)(I:St)(x y:V):Bool:=match x with |.cS id s1 n lo m=>(match el,H9 k2 I y with |some (s,lW),some r2=>(match I[id]?with |some (.cv rows s')=>O2 I y&&decide (s1=s/\s'=s/\rows.length=n)&&l8 s r2&&(decide (lo+m+r2.length<=n)||decide (lo=0/\m=n/\(n+r2.length)*lW<=140737488355328))|_=>true)|_,_=>true)|x=>match el,Eo k2 I y with
 |some (s,lW),some r2=>(match x with |.sl .full r1=>rR I y&&decide ((r1.length+r2.length)*lW<=140737488355328)&&l8 s r1&&l8 s r2&&(!r2.isEmpty||r1.isEmpty)|_=>true)|_,_=>true
theorem yD8(el:Option (Nat×Nat))(k2:Nat)(I:St)(x y:V):yT (IY el k2 I x y) (tT el k2 I x y):=by
 unfold tT;split
 .split
  .rename_i h2;split
   .rename_i h3;split;.simp_all[IY,yT,Ts,yx]
    simp_all[IY,yT,Ts,yx];omega
   trivial
  trivial
 .split
  .rename_i h2;split;.simp only[IY,h2,yT,Aa,alw];grind[IX,yx]
   trivial
  trivial
def IZ(L:Bool)(es:am2)(len:Nat)(parts:List (Nat×V)):Bool:=match es with |some s=>(parts.all λp=>(L||o8 p.2)&&(xT p.2).length==s)&&decide (len*s<=16777216/\0<s)|none=>true
theorem yi1(es:am2)(len:Nat)(parts:List (Nat×V)):yT (IZ false es len parts) (xy es len parts):=by
 unfold xy;split;.split;all_goals simp[IZ,yT]
 trivial
theorem yb1(es:am2)(len:Nat)(I:St)(parts:List (Nat×V)):yT (IZ true es len parts) (x8 es len I parts):=by
 unfold x8;split;.split;all_goals simp[IZ,yT]
 trivial
def Fm(P:Program)(L:Bool)(e:Env)(I:St):Op->Bool |.buildSlice t n ps=>IZ L ((eV P t).map (·.1)) n (ps.toList.map λp=>(p.1,zI e p.2))|.binOp op _ x y _=>Fl op (zI e x) (zI e y)|.convert _ _ x=>Tr (zI e x)|.slice t x lo hi none=>if L then false else IV ((eV P t).map (·.1)) (zI e x) (lo.map (zI e)) (hi.map (zI e))|.slice t x (some lo) (some hi) (some mx)=>O0 ((eV P t).map (·.1)) (zI e x) (zI e lo) (zI e hi) (zI e mx)|.indexAddr t x i=>OZ (fm P t) (ja P t) (zI e x) (zI e i)|.index t x i=>yy (zI e x) (zI e i) (ja P t)|.makeSlice t l m=>IW (eV P t) (zI e l) (zI e m)|.call ⟨.builtin .append,⟨[x,y]⟩,⟨[t,t']⟩⟩=>if L then IY (eV P t) (dU P t') I (zI e x) (zI e y)else Hg (eV P t) (dU P t') I (zI e x) (zI e y)|.call ⟨.builtin .clear,⟨[x]⟩,⟨[t]⟩⟩=>O1 ((eV P t).map (·.1)) I (zI e x)|_=>true
def wF9:R->Bool|.eP _ _|.dR _ _ _=>false|_=>true
theorem yZ{b:Bool}{r:R}(h:wF9 r):yT b r:=by cases r<;>first|trivial|cases h
theorem O3(op:Op):yT (Fm P false e I op) (cx P e I op):=by
 unfold cx;split;.trivial
 .trivial
 .refine yZ ?_;unfold AR;(repeat' split)<;>rfl
 .refine yZ ?_;unfold sW;(repeat' split)<;>rfl
 .refine yZ ?_;unfold xv;(repeat' split)<;>rfl
 .refine yZ ?_;unfold AX;(repeat' split)<;>rfl
 .exact yi1 ..
 .refine yZ ?_;unfold nW;(repeat' split)<;>first|rfl|(unfold sV;(repeat' split)<;>rfl)
 .refine yZ ?_;unfold vI;(repeat' split)<;>rfl
 .refine yZ ?_;unfold AS;(repeat' split)<;>rfl
 .split;.grind[xj7]
  .split;.refine yZ ?_;unfold BK;(repeat' split)<;>rfl
   .exact xN2 ..
 .refine yZ ?_;unfold nV;(repeat' split)<;>rfl
 .exact xB9 ..
 .exact xn2 ..
 .exact xa9 ..
 .refine yZ ?_;unfold AU;(repeat' split)<;>rfl
 .refine yZ ?_;unfold BB;(repeat' split)<;>rfl
 .exact yG5 ..
 .exact xT1 ..
 .refine yZ ?_;unfold AT;(repeat' split)<;>rfl
 .refine yZ ?_;unfold BC;(repeat' split)<;>rfl
 .exact xE9 ..
 .refine yZ ?_;unfold AW;(repeat' split)<;>rfl
 .exact yO8 ..
 .exact xg2 ..
 .refine yZ ?_;unfold rC;(repeat' split)<;>rfl
 .refine yZ ?_;unfold rC;(repeat' split)<;>rfl
 .refine yZ ?_;unfold BJ;(repeat' split)<;>rfl
 .refine yZ ?_;unfold BH;(repeat' split)<;>rfl
 .refine yZ ?_;unfold wI;(repeat' split)<;>rfl
 .refine yZ ?_;unfold wC;(repeat' split)<;>rfl
 .refine yZ ?_;unfold wC;(repeat' split)<;>rfl
 .refine yZ ?_;unfold wL;(repeat' split)<;>rfl
 .refine yZ ?_;unfold xZ;(repeat' split)<;>rfl
 .refine yZ ?_;unfold BM;(repeat' split)<;>rfl
 .refine yZ ?_;unfold rF;(repeat' split)<;>rfl
 .refine yZ ?_;unfold BO;(repeat' split)<;>rfl
 .refine yZ ?_;unfold nZ;(repeat' split)<;>rfl
 .trivial
theorem xh2(op:Op):yT (Fm P false e I op&&Fm P true e I op) (iM P e I op):=by
 have lT:∀{b c:Bool}{r:R},yT b r->yT (c&&b) r:=by intro b c r h;cases r with |eP p v=>exactλq=>h (by grind)|dR p v s=>exactλq=>h (by grind)|_=>trivial
 have aa:∀{b c:Bool}{r:R},yT b r->yT (b&&c) r:=by simp_all
 unfold iM;split;.exact lT (yb1 ..)
 .exact lT (xj0 ..)
 .refine yZ ?_;unfold BD;(repeat' split)<;>rfl
 .refine lT (b:=false) ?_;unfold AY;(repeat' split)<;>first|trivial|exactλq=>by cases q
 .exact lT (yD8 ..)
 .refine yZ ?_;unfold nZ;(repeat' split)<;>rfl
 grind[O3]
def rS(b:Bool)(I:St):R->Option (V×St) |.ok v=>some (v,I)|.eP _ v=>if b then some (v,I)else none|.st v I'=>some (v,I')|.dR _ v I'=>if b then some (v,I')else none|_=>none
def O4(P:Program)(d:Option Tmp)(e:Env)(I:St)(op:Op):Option (V×St):=if mD e d then rS (Fm P false e I op&&Fm P true e I op) I (iM P e I op)else rS (Fm P false e I op) I (cx P e I op)
theorem O5{b:Bool}{r:R}{v:V}(hn:yT b r)(h:rS b I r=some (v,I'))(hk:fy nt d v K e I'):mQ nt d r K e I:=by cases r with
 |fail=>cases h|ok v'=>cases h;exact hk|eP p v'=>
  simp only[rS]at h;split at h;.rename_i hb;cases h;exact⟨hn hb,hk⟩
  grind|st v' s=>cases h;exact hk|dR p v' s=>
  simp only[rS]at h;split at h;.rename_i hb;cases h;exact⟨hn hb,hk⟩
  grind|all f=>cases h|any l=>cases h
theorem wr7{v:V}(h:O4 P d e I op=some (v,I'))(hk:fy nt d v K e I'):mQ nt d (wD P d e I op) K e I:=by
 unfold O4 at h;unfold wD;split at h;.rename_i hh;rw[alq hh];grind[O5,xh2]
 .rename_i hh;rw[alp hh];grind[O5,O3]
def fi(ms:alX)(l:List V):Env:=λt=>if t<100000then l.getD t .u else if ms.contains (t-100000)then .cC []else .u
theorem xQ1{t:Nat}{v:V}(h:t<l.length)(hl:l.length<=100000):ft (fi ms l) t v=fi ms (l.set t v):=by funext k;simp only[ft,fi];grind
def rT(d:Option Tmp)(v:V)(l:List V):Option (List V):=match d with |some t=>if t<l.length then some (l.set t v)else none|none=>some l
theorem LI{v:V}{l':List V}(h:rT d v l=some l')(hl:l.length<=100000):l'.length=l.length/\∀(K:KT)(I:St),K (fi ms l') I->fy l.length d v K (fi ms l) I:=by
 unfold rT at h;unfold fy;split at h;.grind[xQ1]
 grind
def LJ(g:Option (Nat×Bool))(ops:List Oper)(e:Env):Option Bool:=match g with |none=>some true|some (j,want)=>(match kH ops j with|some t=>(match e t with|.bool b=>some (b==want)|.cC []=>some false|_=>none)|none=>none)
theorem LK{g:Option (Nat×Bool)}{ops:List Oper}{A B:Prop}{r:Bool}(h:LJ g ops e=some r)(ha:r=true->A)(hb:r=false->B):vN g ops e A B:=by
 unfold LJ at h;unfold vN;split at h;.grind
 .split at h;.rename_i t ht;simp only[ht];unfold lg;grind
  grind
abbrev lL:=V->List V->St->Option (V×St)
def th(P:Program)(call:lL):Prop:=∀fv az I v I',call fv az I=some (v,I')->∀c,VC P c fv az I (λr s=>r=v/\s=I')
def Fo(P:Program)(call:lL)(d:Option Tmp)(e:Env)(I:St)(op:Op):Option (V×St):=match op with |.call ⟨.value f,args,_⟩=>call (zI e f) (args.toList.map (zI e)) I|op=>O4 P d e I op
theorem wr8{call:lL}(hc:th P call){v:V}(h:Fo P call d e I op=some (v,I'))(hk:fy nt d v K e I'):jX P c nt d op K e I:=by
 unfold Fo at h;unfold jX;split at h;.refine(hc _ _ _ _ _ h c).mono ?_;grind
 .rename_i aa;split;.grind
  grind[wr7]
def I0(P:Program)(call:lL)(ms:alX)(ops:List Oper):List Oper->List V->St->Option (List V×St) |[],l,I=>some (l,I)|o::rest,l,I=>match LJ o.guard ops (fi ms l)with
  |none=>none|some true=>(match Fo P call o.dst (fi ms l) I o.op with |some (v,I')=>(match rT o.dst v l with|some l'=>I0 P call ms ops rest l' I'|none=>none)|none=>none)|some false=>(match rT o.dst (.cC []) l with|some l'=>I0 P call ms ops rest l' I|none=>none)
theorem LL{P:Program}{call:lL}(hc:th P call){ms:alX}{ops:List Oper}{c:Ctx}:∀(rest:List Oper)(l:List V)(I:St)(l':List V)(I':St),I0 P call ms ops rest l I=some (l',I')->l.length<=100000->l'.length=l.length/\∀K:KT,K (fi ms l') I'->kI P c l.length ops rest K (fi ms l) I
 |[],l,I,l',I',h,hl=>by cases h;exact⟨rfl,λK hk=>hk⟩|o::rest,l,I,l',I',h,hl=>by
  unfold I0 at h;split at h;.cases h
  .rename_i hg;split at h
   .rename_i v s1 ho;split at h;.rename_i l1 hp;obtain⟨e1,e2⟩:=LI (ms:=ms) hp hl;obtain⟨e3,e4⟩:=LL hc (c:=c) rest l1 s1 l' I' h om;refine⟨om,λK hk=>?_⟩;refine LK hg (λ_=>?_) sM;grind[wr8]
    grind
   grind
  .rename_i hg;split at h;.rename_i l1 hp;obtain⟨e1,e2⟩:=LI (ms:=ms) hp hl;obtain⟨e3,e4⟩:=LL hc (c:=c) rest l1 I l' I' h om;refine⟨om,λK hk=>?_⟩;refine LK hg sM (λ_=>?_);grind
   grind
def I4:Op->Bool|.buildSlice ..|.makeSlice ..|.convert ..|.call _|.next ..|.slice ..=>false|_=>true
theorem wl9(h:I4 op):∀e I,iM P e I op=cx P e I op:=by intro e I;cases op<;>first|rfl|cases h
def Tt(n0:Kp)(e:Env):Op->Bool |.load _ x=>EW n0 (zI e x)|_=>false
def wF1:Op->Bool|.alloc _|.box ..=>true|_=>false
def Tu(P:Program)(n0:Kp)(k:Nat)(d:Option Tmp)(e:Env)(I:St)(op:Op):Bool:=(!mD e d||I4 op)&&(k !=0||mE op==0)&&(k !=1||Tt n0 e op)&&(!rO (cx P e I op)||decide (3<=k))&&(k==4||(k==3&&wF1 op)||!rO (cx P e I op))
def Fp(P:Program)(call:lL)(n0:Kp)(k:Nat)(d:Option Tmp)(e:Env)(I:St)(op:Op):Option (V×St):=match op with |.call ⟨.value f,args,_⟩=>if k=0then(match call (zI e f) (args.toList.map (zI e)) []with|some (v,_)=>if gY v&&gY (zI e f)&&(args.toList.map (zI e)).all gY then some (v,I)else none|none=>none)else if k=4then(match call (zI e f) (args.toList.map (zI e)) I with|some (v,I')=>if I.length<=I'.length then some (v,I')else none|none=>none)else none|op=>if Tu P n0 k d e I op then rS (Fm P false e I op) I (cx P e I op)else none
def Fq(P:Program)(call:lL):Prop:=∀fv az v I',call fv az []=some (v,I')->gY v=true->gY fv=true->az.all gY=true->∀c s,VC P c fv az s (λr s'=>r=v/\s'=s)
theorem wr9{call:lL}(hc:th P call)(hp:Fq P call){n0:Kp}{v:V}(h:Fp P call n0 k d e I op=some (v,I'))(hk:fy nt d v K e I'):gx P c nt n0 k d op K e I:=by
 unfold Fp at h;unfold gx;split at h
 .split at h
  .rename_i ab;split at h
   .rename_i v' s' aa;split at h;.rename_i hn;cases h;simp only[Aa]at hn;subst ab;refine⟨v,I,?_,λ_=>rfl,om,om,hk⟩;rw[alq rfl];exactλs=>hp _ _ _ _ aa hn.1.1 hn.1.2 hn.2 c s
    grind
   grind
  .split at h
   .rename_i ab ad;split at h
    .rename_i v' s' aa;split at h;.rename_i hle;cases h;subst ad;refine⟨v,I',?_,om,om,hle,hk⟩;rw[alp dC,alp dC];exact hc _ _ _ _ _ aa c
     grind
    grind
   grind
 .rename_i ae;split;.grind
  .split at h
   .rename_i ht;simp only[Tu,Aa,Ch,Du,bne_iff_ne,alx,alw]at ht;obtain⟨⟨⟨⟨t1,t2⟩,t3⟩,t4⟩,t5⟩:=ht;have hh:cZ P d e op:=by
     rcases t1 with t1|t1;.exact .inl t1
     .exact .inr (wl9 t1)
    rw[rM hh];refine⟨λ_=>hh,?_,om,λq=>?_,(by grind),?_,O5 (O3 op) h hk⟩;.cases hr:cx P e I op with |all f=>rw[hr]at h;cases h|any l=>rw[hr]at h;cases h|_=>rfl
    .have:=t3.resolve_left (λw=>w q);unfold Tt at this;grind
    .rcases t5 with(t5|t5)|t5;.grind[Oj]
     .obtain⟨t5,t6⟩:=t5;subst t5;cases op with
      |alloc t=>simp only[cx];unfold sW;split<;>first|trivial|exact⟨sM,λ_=>.inl ⟨_,rfl⟩⟩
      |box t x=>simp only[cx];unfold xv;split<;>first|trivial|exact⟨sM,λ_=>.inl ⟨_,rfl⟩⟩
      |_=>cases t6
     grind[CS]
   grind
def Hh(P:Program)(call:lL)(n0:Kp)(ms:alX)(ops:List Oper)(q:List (Nat×Nat)):Nat->List Oper->List V->St->Option (List V×St) |_,[],l,I=>some (l,I)|i,o::rest,l,I=>match LJ o.guard ops (fi ms l)with
  |none=>none|some true=>(match Fp P call n0 (yB q i o) o.dst (fi ms l) I o.op with |some (v,I')=>(match rT o.dst v l with|some l'=>Hh P call n0 ms ops q (i+1) rest l' I'|none=>none)|none=>none)|some false=>(match rT o.dst (.cC []) l with|some l'=>Hh P call n0 ms ops q (i+1) rest l' I|none=>none)
theorem O6{P:Program}{call:lL}(hc:th P call)(aa:Fq P call){n0:Kp}{ms:alX}{ops:List Oper}{q:List (Nat×Nat)}{c:Ctx}:∀(rest:List Oper)(i:Nat)(l:List V)(I:St)(l':List V)(I':St),Hh P call n0 ms ops q i rest l I=some (l',I')->l.length<=100000->l'.length=l.length/\∀K:KT,K (fi ms l') I'->ta P c l.length n0 ops q i rest K (fi ms l) I
 |[],i,l,I,l',I',h,hl=>by cases h;exact⟨rfl,λK hk=>hk⟩|o::rest,i,l,I,l',I',h,hl=>by
  unfold Hh at h;split at h;.cases h
  .rename_i hg;split at h
   .rename_i v s1 ho;split at h;.rename_i l1 hp;obtain⟨e1,e2⟩:=LI (ms:=ms) hp hl;obtain⟨e3,e4⟩:=O6 hc aa (c:=c) rest (i+1) l1 s1 l' I' h om;refine⟨om,λK hk=>?_⟩;refine LK hg (λ_=>?_) sM;grind[wr9]
    grind
   grind
  .rename_i hg;split at h;.rename_i l1 hp;obtain⟨e1,e2⟩:=LI (ms:=ms) hp hl;obtain⟨e3,e4⟩:=O6 hc aa (c:=c) rest (i+1) l1 I l' I' h om;refine⟨om,λK hk=>?_⟩;refine LK hg sM (λ_=>?_);grind
   grind
def O7:Nat->List Oper->List (Nat×Nat) |_,[]=>[]|i,o::os=>(match o.op with|.call ⟨.value _,_,_⟩=>[(i,0)]|_=>[])++O7 (i+1) os
def O8:Nat->List Oper->List (Nat×Nat) |_,[]=>[]|i,o::os=>(match o.op with|.store ..=>[(i,4)]|.call ⟨.builtin .append,_,_⟩=>[(i,4)]|_=>[])++O8 (i+1) os
def Tw:Nat->List Oper->List (Nat×Nat) |_,[]=>[]|i,o::os=>(match o.op with|.store ..=>[(i,4)]|.call ⟨.builtin .append,_,_⟩=>[(i,4)]|.call ⟨.value _,_,_⟩=>[(i,4)]|_=>[])++Tw (i+1) os
def Ty:Nat->List Oper->List (Nat×Nat) |_,[]=>[]|i,o::os=>(match o.op with|.store ..=>[(i,4)]|.load ..=>[(i,4)]|.alloc _=>[(i,4)]|.call ⟨.builtin .append,_,_⟩=>[(i,4)]|.call ⟨.value _,_,_⟩=>[(i,4)]|_=>[])++Ty (i+1) os
def Tz(ops:List Oper):List (List (Nat×Nat)):=[[],O7 0 ops,O8 0 ops,O7 0 ops++O8 0 ops,Tw 0 ops,Ty 0 ops]
def LM(P:Program)(call:lL)(ms:alX)(ops:List Oper)(l:List V)(I:St):List (List (Nat×Nat))->Option (List V×St) |[]=>none|q::qs=>if vT ops q then(match Hh P call (Kp.pre I.length) ms ops q 0 ops l I with|some r=>some r|none=>LM P call ms ops l I qs)else LM P call ms ops l I qs
def O9(P:Program)(call:lL)(ms:alX)(ops:List Oper)(l:List V)(I:St):Option (List V×St):=if s8 ops then LM P call ms ops l I (Tz ops)else none
theorem TA{call:lL}(hc:th P call)(aa:Fq P call)(hm:P.follows .mixedOrders){ops:List Oper}{id:Nat}{l':List V}(h:O9 P call ms ops l I=some (l',I'))(hl:l.length<=100000):l'.length=l.length/\∀Q:QT,Q .normal (fi ms l') I'->VW P c l.length (.region id ops.toArray true) Q (fi ms l) I:=by
 unfold O9 at h;split at h
 .rename_i he;have go:∀q,vT ops q=true->Hh P call (Kp.pre I.length) ms ops q 0 ops l I=some (l',I')->l'.length=l.length/\∀Q:QT,Q .normal (fi ms l') I'->VW P c l.length (.region id ops.toArray true) Q (fi ms l) I:=by intro q hd hx;obtain⟨e1,e2⟩:=O6 hc aa (c:=c) ops 0 l I l' I' hx hl;exact⟨e1,λQ hq=>yA q I.length rfl hm (by grind) (e2 (Q .normal) hq)⟩
  generalize Tz ops=qs at h;induction qs<;>grind[LM]
 grind
abbrev RunT:=alX->Code->List V->St->Option (Exit×List V×St)
def TB:Exit->Bool|.normal|.ret=>true|_=>false
def vW(P:Program)(H:FuncId->alX)(run:RunT):lL:=λfv az I=>match fv with |.fn f cd=>(match P.funcs[f]?with |some fn=>(match fn.body with |some code=>if decide ((az++cd).length<=fn.ntmps)&&decide (fn.ntmps<=100000)then(match run (H f) code ((az++cd)++List.replicate (fn.ntmps-(az++cd).length) .u) I with |some (x,l',I')=>if TB x&&decide (I.length<=I'.length)then(match mS P fn.results.toList (fi (H f) l') I' with|some v=>some (v,I')|none=>none)else none|none=>none)else none|none=>none)|none=>none)|_=>none
def DD(T call:lL):lL:=λfv az I=>match T fv az I with|some r=>some r|none=>call fv az I
theorem wA0{T call:lL}(hT:th P T)(hc:th P call):th P (DD T call):=by
 intro fv az I v I' h c;unfold DD at h;split at h;.rename_i r hr;cases h;exact hT _ _ _ _ _ hr c
 .exact hc _ _ _ _ _ h c
theorem xX8{T call:lL}(hT:∀fv az,T fv az []=none)(hc:Fq P call):Fq P (DD T call):=by intro fv az v I' h;unfold DD at h;rw[hT]at h;exact hc fv az v I' h
def fj:lL:=λ_ _ _=>none
theorem TC:th P fj:=λ_ _ _ _ _ h=>by cases h
def qU(P:Program)(T:lL)(H:FuncId->alX)(run:RunT):RunT:=λms code l I=>match code with
 |.skip=>some (.normal,l,I)|.label _=>some (.normal,l,I)|.exit id=>some (.exit id,l,I)|.ret=>some (.ret,l,I)|.seq x y=>(match run ms x l I with |some (.normal,l',I')=>run ms y l' I'|r=>r)|.cond x t f=>(match zI (fi ms l) x with|.bool true=>run ms t l I|.bool false=>run ms f l I|_=>none)|.block id b=>(match run ms b l I with |some (.exit ug,l',I')=>if ug=id then some (.normal,l',I')else some (.exit ug,l',I')|r=>r)|.region _ ops draw=>if draw then(match O9 P (DD T (vW P H run)) ms ops.toList l I with|some (l',I')=>some (.normal,l',I')|none=>none)else(match I0 P (DD T (vW P H run)) ms ops.toList ops.toList l I with|some (l',I')=>some (.normal,l',I')|none=>none)|.loop b=>(match run ms b l I with |some (.normal,l',I')=>run ms (.loop b) l' I'|r=>r)|_=>none
def uy(P:Program)(T:lL)(H:FuncId->alX):Nat->RunT |0=>λ_ _ _ _=>none|n+1=>qU P T H (uy P T H n)
def TD:Exit->Bool|.normal|.ret|.exit _=>true|_=>false
def I5(P:Program)(run:RunT):Prop:=∀ms code l I x l' I',run ms code l I=some (x,l',I')->l.length<=100000->l'.length=l.length/\TD x=true/\∀(c:Ctx)(Q:QT),Q x (fi ms l') I'->VW P c l.length code Q (fi ms l) I
theorem xQ0(hl:l.length<=100000)(n:Nat):fi [] (l++List.replicate n .u)=kJ 0 l:=by funext t;have e1:=N3 l 0 t;rw[Ae]at e1;rw[e1];unfold fi;grind
theorem xC7{t:Nat}:ft (fi ms l) (100000+t) (.cC [])=fi (t::ms) l:=by
 funext k;unfold ft fi;by_cases hk:k=100000+t;.simp_all;omega
 .rw[alp hk];by_cases h0:k<100000;.rw[alq h0,alq h0]
  .have h2:(k-100000==t)=false:=by simp;omega
   rw[alp h0,alp h0,Dl,h2,Bv]
theorem VW.marks{code:Code}{Q:QT}(hn:nt<=100000)(ms:alX)(h:VW P c nt code Q (fi ms l) I):VW P c nt code Q (fi [] l) I:=by induction ms with|nil=>exact h|cons t ms ih=>refine ih ?_;have h2:=tg (P:=P) (c:=c) (nt:=nt) (Q:=Q) (e:=fi ms l) (I:=I) t (y:=code) hn;rw[xC7]at h2;exact h2 h
theorem Fs:cO (List.range k) k i=i:=by grind[rL,rG]
theorem xH5{n0:Nat}(h:n0<=I.length):gT n0 (List.range I.length) I I:=by refine⟨sM,Be,λi j o hi ho=>?_,(by grind)⟩;grind[CZ,Fs]
theorem LN{run:RunT}(hr:I5 P run){az:List V}{v:V}(h:vW P H run (.fn f cd) az I=some (v,I')):bN P f (az++cd) I (λr s=>r=v/\s=I')/\(P.funcs[f]?.bind (·.body)).isSome=true/\(I=[]->gY v=true->bN P f (az++cd) I (λr s=>r=v/\s=[])):=by
 unfold vW at h;simp only at h;split at h
 .rename_i fn hf;split at h
  .rename_i code hb;split at h
   .rename_i hlen;simp only[Aa,alw]at hlen;split at h
    .rename_i x l' s1 hx;split at h
     .rename_i aa;simp only[Aa,alw]at aa;split at h
      .rename_i v' hv;cases h;have ab:((az++cd)++List.replicate (fn.ntmps-(az++cd).length) V.u).length=fn.ntmps:=by grind
       obtain⟨e1,e2,e3⟩:=hr _ _ _ _ _ _ _ hx om;have key:∀R:V->St->Prop,rI I.length R v I'->bN P f (az++cd) I R:=by intro R hR;refine bN.pM (rs:=fn.results.toList) I.length hf rfl sM hb rfl hlen.1 λc _ _=>?_;rw[<-xQ0 om (fn.ntmps-(az++cd).length)];refine VW.marks hlen.2 (H f) ?_;have:=e3 c (mT P fn.results.toList I.length R);rw[ab]at this;refine this ?_;have hq:∃v,mS P fn.results.toList (fi (H f) l') I'=some v/\rI I.length R v I':=(by grind);cases x with |normal=>exact hq|ret=>exact hq|_=>simp[TB]at aa
       refine⟨key _ ⟨v,I',List.range I'.length,I',v,.refl _ _,xH5 aa.2,.inl (by grind[CY,Fs]),rfl,rfl⟩,?_,λh0 hn=>?_⟩;.grind
       .subst h0;refine key _ ⟨v,I',[],[],v,.refl _ _,⟨rfl,Bo,sM,sM⟩,zC hn,rfl,rfl⟩
      grind
     grind
    grind
   grind
  grind
 grind
theorem xF6{s:St}(h:I.length<=s.length):yY (List.range I.length) I s=s:=by
 have hid:yC (cO (List.range I.length) I.length)=λo=>o:=funext (by grind[CZ,Fs]);apply Bi;intro i;by_cases hi:i<s.length;.have:=Ev (dz:=List.range I.length) (Ic:=I) (I':=s) Be (λq hq=>Cs.1 hq) (sU h) (A0 hi);grind[Fs]
 grind[G6]
theorem TE(hN:(P.funcs.all λfn=>!(fn.name=="runtime.NumGoroutine"))=true)(h:(P.funcs[f]?.bind (·.body)).isSome):xI P f=true:=by grind[xI]
theorem xB5{run:RunT}(hr:I5 P run)(hN:(P.funcs.all λfn=>!(fn.name=="runtime.NumGoroutine"))=true):th P (vW P H run):=by intro fv az I v I' h c;cases fv with
 |fn f cd=>
  obtain⟨h1,h2,_⟩:=LN hr h;refine VC.of h1 (TE hN h2) (List.range I.length) Be sM (λi j o hi ho=>?_) ?_ ?_;.grind[CZ,Fs]
  .have:∀l:List V,bP (cW (cO (List.range I.length) I.length)) l l:=by intro l;induction l with |nil=>trivial|cons a l ih=>exact⟨.inl (by grind[CY,Fs]),ih⟩
   grind
  .rintro r s ⟨rfl,rfl⟩hl;rw[CY (λi=>Fs),xF6 (by grind)];simp|_=>cases h
theorem yP8{run:RunT}(hr:I5 P run)(hN:(P.funcs.all λfn=>!(fn.name=="runtime.NumGoroutine"))=true):Fq P (vW P H run):=by intro fv az v I' h hn hf ha c s;cases fv with
 |fn f cd=>
  obtain⟨_,h2,h3⟩:=LN hr h;have hcn:cd.all gY:=by simp only[gY,ym,mV]at hf;rw[Am]at hf⊢;intro x hx;have:=hf x hx;cases x<;>first|exact this|cases this
  refine zL (P:=P) (c:=c) (KV:=λr s'=>r=v/\s'=s) (h3 rfl hn) (TE hN h2) (yD (by grind)) hn sM|_=>cases h
section
variable{P:Program}{T:lL}{H:FuncId->alX}
theorem TF{ms:alX}{b:Code}{x:Exit}{l':List V}{I':St}{N nt:Nat}(hk:∀k,k<=N->I5 P (uy P T H k))(ab:nt<=100000){c:Ctx}{Q:QT}(hx:TD x)(hQ:Q x (fi ms l') I'){l:List V}{I:St}(h:uy P T H (N+1) ms (.loop b) l I=some (x,l',I'))(hl:l.length=nt):VW P c nt (.loop b) Q (fi ms l) I:=by intro a w L J hs;refine SN (λm a w=>∃l I L J,m<=N+1/\l.length=nt/\uy P T H m ms (.loop b) l I=some (x,l',I')/\ez c nt (fi ms l) I a w L J) (N+1) (by grind) ?_;rintro m a w ⟨l,I,L,J,hm,hl,h,hs⟩;cases m with|zero=>cases h|succ k=>
  have h:qU P T H (uy P T H k) ms (.loop b) l I=some (x,l',I'):=h;simp only[qU]at h;split at h;.rename_i l1 I1 hb;obtain⟨e1,e2,e3⟩:=hk k om _ _ _ _ _ _ _ hb om;have e4:=e3 c (λex e s=>ex=.normal/\e=fi ms l1/\s=I1) ⟨rfl,rfl,rfl⟩;rw[hl]at e4;refine wp_mono (e4 a w L J hs) λex a' w' q=>?_;cases ex with |normal=>obtain⟨e',s',L',J',aa,_,rfl,rfl⟩:=q;exact⟨k,om,l1,s',L',J',om,om,h,aa⟩|exit id=>obtain⟨_,_,_,_,_,q,_⟩:=q;cases q|ret=>obtain⟨_,_,_,_,_,q,_⟩:=q;cases q|goto _=>simpa|panic _=>simpa|outgrown=>simpa
  .rename_i ad;obtain⟨e1,e2,e3⟩:=hk k om _ _ _ _ _ _ _ h om;have e4:=e3 c (λex e s=>ex=x/\e=fi ms l'/\s=I') ⟨rfl,rfl,rfl⟩;rw[hl]at e4;refine wp_mono (e4 a w L J hs) λex a' w' q=>?_;cases ex with|normal=>obtain⟨e',s',L',J',aa,q,_,_⟩:=q;simp_all|exit id=>obtain⟨e',s',L',J',aa,rfl,rfl,rfl⟩:=q;exact⟨_,_,L',J',aa,hQ⟩|ret=>obtain⟨e',s',L',J',aa,rfl,rfl,rfl⟩:=q;exact⟨_,_,L',J',aa,hQ⟩|goto _=>simpa|panic _=>simpa|outgrown=>simpa
theorem TG(hT:th P T)(hT0:∀fv az,T fv az []=none)(hN:(P.funcs.all λfn=>!(fn.name=="runtime.NumGoroutine"))=true)(hm:P.follows .mixedOrders):∀n k,k<=n->I5 P (uy P T H k):=by intro n;induction n with |zero=>intro k hk;have:k=0:=om;subst this;intro ms code l I x l' I' h;cases h|succ n ih=>
  intro k hk;rcases C3 k (n+1)with Sh|hge;.grind
  have:k=n+1:=om;subst this;have uz:=ih n (A7 n);have hc:th P (DD T (vW P H (uy P T H n))):=wA0 hT (xB5 uz hN);have TH:Fq P (DD T (vW P H (uy P T H n))):=(by grind[xX8,yP8]);intro ms code l I x l' I' h0 hl;have h:qU P T H (uy P T H n) ms code l I=some (x,l',I'):=h0;cases code with
  |skip=>simp only[qU]at h;cases h;exact⟨rfl,rfl,λc Q hQ=>sZ .skip Q _ _ hQ⟩|label s=>simp only[qU]at h;cases h;exact⟨rfl,rfl,λc Q hQ=>sZ (.label s) Q _ _ hQ⟩|exit id=>simp only[qU]at h;cases h;exact⟨rfl,rfl,λc Q hQ=>sZ (.exit id) Q _ _ hQ⟩|ret=>simp only[qU]at h;cases h;exact⟨rfl,rfl,λc Q hQ=>sZ .ret Q _ _ hQ⟩|seq x1 y1=>
   simp only[qU]at h;split at h;.rename_i l1 I1 hb;obtain⟨e1,e2,e3⟩:=uz _ _ _ _ _ _ _ hb hl;obtain⟨f1,f2,f3⟩:=uz _ _ _ _ _ _ _ h om;refine⟨om,f2,λc Q hQ=>?_⟩;refine Lv (K:=λe s=>e=fi ms l1/\s=I1) (e3 c _ (by trivial)) ?_;rintro e' s' ⟨rfl,rfl⟩;have:=f3 c Q hQ;rwa[e1]at this
   .rename_i hno;obtain⟨e1,e2,e3⟩:=uz _ _ _ _ _ _ _ h hl;refine⟨e1,e2,λc Q hQ=>?_⟩;refine Lv (K:=λ_ _=>False) (e3 c _ ?_) sM;show N0 _ Q x _ _;cases x with |normal=>grind|_=>exact hQ
  |cond y t f=>
   simp only[qU]at h;split at h;.rename_i hy;obtain⟨e1,e2,e3⟩:=uz _ _ _ _ _ _ _ h hl;exact⟨e1,e2,λc Q hQ=>Lw hy (λ_=>e3 c Q hQ) sM⟩
   .rename_i hy;obtain⟨e1,e2,e3⟩:=uz _ _ _ _ _ _ _ h hl;exact⟨e1,e2,λc Q hQ=>Lw hy sM (λ_=>e3 c Q hQ)⟩
   grind|block id b=>
   simp only[qU]at h;split at h
   .rename_i ug l1 I1 hb;obtain⟨e1,e2,e3⟩:=uz _ _ _ _ _ _ _ hb hl;split at h;.rename_i hid;cases h;refine⟨e1,rfl,λc Q hQ=>yt (e3 c _ ?_)⟩;show(if ug=id then Q .normal _ _ else Q (.exit ug) _ _);grind
    .rename_i hid;cases h;refine⟨e1,rfl,λc Q hQ=>yt (e3 c _ ?_)⟩;show(if ug=id then Q .normal _ _ else Q (.exit ug) _ _);grind
   .rename_i hno;obtain⟨e1,e2,e3⟩:=uz _ _ _ _ _ _ _ h hl;refine⟨e1,e2,λc Q hQ=>yt (e3 c _ ?_)⟩;show Ey id Q x _ _;cases x with|exit ug=>grind|_=>exact hQ
  |region id ops draw=>cases draw with
   |true=>
    simp only[qU,alB]at h;split at h;.rename_i l1 I1 hx;cases h;refine⟨(TA hc TH hm (c:=⟨default,λ_=>0,[],[],[]⟩) (id:=id) hx hl).1,rfl,λc Q hQ=>?_⟩;have:=(TA hc TH hm (c:=c) (id:=id) hx hl).2 Q hQ;omega
    grind|false=>
    simp only[qU,Ci,alH]at h;split at h;.rename_i l1 I1 hx;cases h;refine⟨(LL hc (c:=⟨default,λ_=>0,[],[],[]⟩) _ _ _ _ _ hx hl).1,rfl,λc Q hQ=>?_⟩;have:=(LL hc (c:=c) _ _ _ _ _ hx hl).2 (Q .normal) hQ;grind[sZ,rH]
    grind
  |loop b=>
   have hh:=h;simp only[qU]at h;split at h;.rename_i l1 I1 hb;obtain⟨e1,e2,e3⟩:=uz _ _ _ _ _ _ _ hb hl;obtain⟨f1,f2,f3⟩:=uz _ _ _ _ _ _ _ h om;exact⟨om,f2,λc Q hQ=>TF ih hl f2 hQ h0 rfl⟩
   .obtain⟨e1,e2,e3⟩:=uz _ _ _ _ _ _ _ h hl;exact⟨e1,e2,λc Q hQ=>TF ih hl e2 hQ h0 rfl⟩|rangeFunc _ _ _ _=>trivial|scope _=>trivial|goto _=>trivial|refuse _=>trivial
theorem xB6(hN:(P.funcs.all λfn=>!(fn.name=="runtime.NumGoroutine"))=true)(hm:P.follows .mixedOrders)(H:FuncId->alX)(n:Nat){f:FuncId}{az:List V}{I I':St}{v:V}(h:vW P H (uy P fj H n) (.fn f []) az I=some (v,I')):bN P f az I (λr s=>r=v/\s=I'):=by have:=(LN (TG TC (λ_ _=>rfl) hN hm n n om) h).1;grind
def TI(P:Program)(H:FuncId->alX)(n:Nat)(f:FuncId)(az:List V):Option V:=match vW P H (uy P fj H n) (.fn f []) az []with |some (v,_)=>if gY v then some v else none|none=>none
theorem yz(hN:(P.funcs.all λfn=>!(fn.name=="runtime.NumGoroutine"))=true)(hm:P.follows .mixedOrders)(H:FuncId->alX)(n:Nat){f:FuncId}{az:List V}{v:V}(h:TI P H n f az=some v):Pure P f az v:=by
 unfold TI at h;split at h
 .rename_i v' s hx;split at h;.rename_i hn;cases h;have:=(LN (TG TC (λ_ _=>rfl) hN hm n n om) hx).2.2 rfl hn;grind
  grind
 grind
end
section
variable{P:Program}{c:Ctx}{nt:Nat}{n0:Kp}{K:KT}{e:Env}{I:St}{d:Option Tmp}
variable{x:Operand}{t:TypeId}{k:Operand}
@[go_sem]theorem y4:fe P c nt d (.mapEntry t x k) K fx fx e I=eC nt d (wL (gU P t) I (zI e x) (zI e k)) K fx e I:=(xE rfl rfl).trans rfl
@[go_sem]theorem uA{s v:Operand}:fe P c nt d (.entryStore t x s v) K fx fx e I=eC nt d (xZ I (zI e x) (zI e s) (zI e v)) K fx e I:=(xE rfl rfl).trans rfl
@[go_sem]theorem Hi:fe P c nt d (.entry x) K fx fx e I=eC nt d (rF I (zI e x)) K fx e I:=(xE rfl rfl).trans rfl
@[go_sem]theorem LO:fe P c nt d (.makeInterface t x) K fx fx e I=eC nt d (BO (Gq P t) t (zI e x)) K fx e I:=(xE rfl rfl).trans rfl
@[go_sem]theorem DE{ok:Bool}:ff P c nt n0 4 d (.lookup t x k ok) K fx fx e I=fe P c nt d (.lookup t x k ok) K fx fx e I:=Lr (λ_ _ _ _ _ h=>by cases h) (λ_ _ h=>by cases h) (λ_ _=>rfl) (λ_ _ _ h=>by cases h)
@[go_sem]theorem uB{v:Operand}:ff P c nt n0 4 d (.mapUpdate t x k v) K fx fx e I=fe P c nt d (.mapUpdate t x k v) K fx fx e I:=Lr (λ_ _ _ _ _ h=>by cases h) (λ_ _ h=>by cases h) (λ_ _=>rfl) (λ_ _ _ h=>by cases h)
@[go_sem]theorem tj{s v:Operand}:ff P c nt n0 4 d (.entryStore t x s v) K fx fx e I=fe P c nt d (.entryStore t x s v) K fx fx e I:=Lr (λ_ _ _ _ _ h=>by cases h) (λ_ _ h=>by cases h) (λ_ _=>rfl) (λ_ _ _ h=>by cases h)
theorem LP(h2:kf n0 3 I (wL (gU P t) I (zI e x) (zI e k)))(h:fe P c nt d (.mapEntry t x k) K fx fx e I):ff P c nt n0 3 d (.mapEntry t x k) K fx fx e I:=by rw[II (λ_ _ _ _ _ h=>by cases h) (λ_ _=>rfl) h2 (λ_ _ _ h=>by cases h)];exact h
theorem TJ{s v:Operand}(h2:kf n0 3 I (xZ I (zI e x) (zI e s) (zI e v)))(h:fe P c nt d (.entryStore t x s v) K fx fx e I):ff P c nt n0 3 d (.entryStore t x s v) K fx fx e I:=by rw[II (λ_ _ _ _ _ h=>by cases h) (λ_ _=>rfl) h2 (λ_ _ _ h=>by cases h)];exact h
theorem TK{m:Option (Kk×V)}{id:Nat}{kv:V}{ok:Bool}{g:Ob->R}(hg:g=λo=>wI m [o] (.mp 0) kv ok)(s:St):wI m s (.mp id) kv ok=match s[id]?.map g with|some r=>r|none=>wI m [] (.mp 0) kv ok:=by subst hg;unfold wI;cases m with |none=>cases s[id]?<;>rfl|some p=>
  obtain⟨kd,z⟩:=p;by_cases hk:nH kd kv=true;.cases h:s[id]?<;>simp[hk,h]
  .cases h:s[id]?<;>simp[hk]
theorem TL{ok:Bool}{id:Nat}{kv:V}{m:Option (Kk×V)}{g:Ob->R}(hx:zI e x=.mp id)(hk:zI e k=kv)(hm:gU P t=m)(hg:g=λo=>wI m [o] (.mp 0) kv ok)(ad:n0.ob=some (id,g))(hn:id<n0.n){v:V}(hv:wI m I (.mp id) kv ok=.ok v)(h:jd nt d v K fx e I):ff P c nt n0 1 d (.lookup t x k ok) K fx fx e I:=by
 have aa:∀s,cx P e s (.lookup t x k ok)=wI m s (.mp id) kv ok:=λs=>by simp only[cx,hx,hk,hm]
 have ab:∀s,n0.of s=n0.of I->cx P e s (.lookup t x k ok)=cx P e I (.lookup t x k ok):=λs hs=>by rw[aa s,aa I,TK hg s,TK hg I];have h2:=alv Prod.snd hs;unfold Kp.of at h2;simp only[ad,Av,An,alq hn]at h2;rw[h2]
 show gx P c nt n0 1 d (.lookup t x k ok) K e I;have h1:=yo (P:=P) (e:=e) (I:=I) (.lookup t x k ok) (λ_ _ _ _ _ h=>by cases h);have h0:rO (cx P e I (.lookup t x k ok))=false:=by simp only[cx];unfold wI;(repeat' split)<;>rfl
 have hh:cZ P d e (.lookup t x k ok):=.inr λ_ _=>rfl;unfold gx;refine⟨λ_=>hh,by rw[rM hh];exact h1,λq=>by simp at q,λ_=>.inr ⟨λ_ _ h=>(by cases h),ab⟩,λq=>absurd q (by rw[rM hh,h0];decide),by rw[rM hh];exact CS h0,?_⟩;rw[rM hh,aa I,hv];exact h
@[go_sem]theorem Kp.Pa{n id:Nat}{ex:alX}{ob:Option (Nat×(Ob->R))}:(Kp.mk 0 n ex ob).has id=(decide (id<n)&&!ex.contains id):=by simp[Kp.has]
theorem yI{n0:Nat}{keep:alX}{vs:List V}{e:Env}{I:St}(hn:n0<=I.length)(h:keep.map e=vs):At n0 keep vs I e I:=by
 have ra:∀i,cO (List.range I.length) I.length i=i:=λi=>by
  by_cases h:i<I.length;.exact rL h
  .rw[rG (by simp;omega)];simp;omega
 refine⟨List.range I.length,⟨sM,Be,λi j o hi ho=>?_,λi hi=>by rw[Dh om]⟩,?_⟩;.obtain⟨h1,h2⟩:=A3.1 hi;simp at h1 h2;subst h2;rw[CZ ra];exact ho
 .rw[h];have:∀l:List V,bP (cW (cO (List.range I.length) I.length)) l l:=by intro l;induction l with|nil=>trivial|cons a l ih=>exact⟨.inl (CY ra a).symm,ih⟩
  exact this _
theorem uC{id:Nat}{ops:List Oper}{Q:QT}(q:List (Nat×Nat))(k:Kp)(hn:k.n<=I.length)(hm:P.follows .mixedOrders)(hd:(vT ops q&&s8 ops))(h:tc P c nt k ops q 0 ops (Q .normal) fx fx fx e I):gV P c nt (.region id ops.toArray true) Q fx fx e I:=by simp only[Aa]at hd;obtain⟨tr,ht,hK⟩:=EZ ops 0 (Q .normal) e I h;exact VW.draw (n0:=k) hm hn hd.1 hd.2 ht hK
end
end Go.Vx
