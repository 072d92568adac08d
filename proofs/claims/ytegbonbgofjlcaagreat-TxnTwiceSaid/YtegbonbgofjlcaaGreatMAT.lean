/-
  TxnTwice: a reply that comes twice is passed over the second time; used by the theorem at the end of the claim.
  Conditions: as each theorem states them.
-/
import Derived.Test.YtegbonbgofjlcaaGreatMAS
import Derived.Test.YtegbonbgofjlcaaGreatMAN
import Derived.Test.YtegbonbgofjlcaaGreatMAR
set_option maxHeartbeats 8000000
namespace Go.Proofs.YtegbonbgofjlcaaGreat
open Go Go.Vx R Go.Proofs.Tryz
set_option maxRecDepth 100000
variable{n:Nat}{cells:List bW}{m:Nat}{k:fL}
def Nv(l:List bW)(at_:cT):List dM:=l.filterMap λx=>(AI x at_).map λd=>⟨x.key,d⟩
theorem xH2(l:List dM):eU 2 (l.map dM.row):=λr hr=>by obtain⟨x,_,rfl⟩:=Ab.1 hr;rfl
def qG(l:List bW)(s:ca)(at_:cT):List dM:=Nv (l.filter λx=>tK x.key s) at_
theorem xH8(cells:List bW)(s:ca)(at_:cT)(eE:Int)(hl:cells.length<=1000000)(ho:∀x∈cells,x.cF.length<=maxLen):Pure prog 159 [.sl .ro (cells.map bW.row),.agg s.row,.agg at_.row,.int .i64 eE] (if((qG cells s at_).length:Int)>max eE 0then .cC [.sl .ro [],.int .i64 3]else .cC [.sl .ro ((qG cells s at_).map dM.row),.int .i64 0]):=by
 obtain⟨M,hM⟩:∃M,(if((qG cells s at_).length:Int)>max eE 0then V.cC [.sl .ro [],.int .i64 3]else .cC [.sl .ro ((qG cells s at_).map dM.row),.int .i64 0])=M:=⟨_,rfl⟩;rw[hM];refine iV 0 func159 ntmps159 results159 λc hc hb=>?_;refine zA ?_;simp[go_sem];refine wQ 10 2 dC (by rfl) ?_;refine zG (S:=Nat×List dM) [0,3,5,6,10,11] (λu=>[.sl .ro (cells.map bW.row),.int .i64 eE,.ptr 0 0,.ptr 1 0,.sl (.app 2) (u.2.map dM.row),.int .i64 u.1]) (λu=>[.box s.row,.box at_.row,.app u.2.length 2]) (λu=>cells.length-u.1) (λu=>u.1<=cells.length/\u.2.length<=u.1/\u.2=qG (cells.take u.1) s at_) hc hb (0,[]) (by simp[qG,Nv]) ?_ ?_;.exact bU 3 (by rfl) rfl rfl dC (zD (by rfl) rfl)
 rintro⟨i,out⟩⟨hi,ai,aa⟩;simp only at hi ai aa;by_cases h:i<cells.length;rotate_left
 .rw[Ad om]at aa;rw[<-aa]at hM;have ae:(if eE<0then 0 else eE)=max eE 0:=om;by_cases h2:(out.length:Int)>max eE 0
  .rw[alq h2]at hM;have ad:decide (max eE 0<(out.length:Int))=true:=by grind
   refine zA ?_;simp[go_sem,h,ae,ad];exact zQ (r:=M) (by rw[<-hM];exact yO ⟨rP,xD rfl,tV⟩) sM
  .rw[alp h2]at hM;have ad:decide (max eE 0<(out.length:Int))=false:=by grind
   refine zA ?_;simp[go_sem,h,ae,ad];exact zQ (r:=M) (by rw[<-hM];exact yO ⟨rP,xD rfl,tV⟩) sM
 have ei:=zO h om;obtain⟨x,hg⟩:=eX (cells[i]);have aj:=ho x (hg▸A9 h);have ab:qG (cells.take (i+1)) s at_=out++(if tK x.key s=true then(match AI x at_ with|some d=>[⟨x.key,d⟩]|none=>[])else[]):=by grind[Ac,qG,Nv]
 have af:=Y5 x.key s;have ah:=wF6 x at_ aj;obtain⟨b0,ak⟩:∃b,tK x.key s=b:=⟨_,rfl⟩;obtain⟨t0,al⟩:∃t,AI x at_=t:=⟨_,rfl⟩;rw[ak]at af ab;rw[al]at ah ab;clear hM;refine zA ?_;simp[go_sem,h];refine yA [(6,0)] 3 rfl (by rfl) kR ?_;simp[go_sem,h,hg];refine pD af ?_;cases b0 with |false=>simp[go_sem,ei];exact zH (i+1,out) ⟨om,(by grind),bU 3 (by rfl) rfl rfl dC (zD (by rfl) rfl)⟩|true=>simp[go_sem];refine yA [(5,0)] 3 rfl (by rfl) kR ?_;simp[go_sem,h,hg];refine pD ah ?_;cases t0 with |none=>simp[go_sem,ei];exact zH (i+1,out) ⟨om,(by grind),bU 3 (by rfl) rfl rfl dC (zD (by rfl) rfl)⟩|some d=>simp[go_sem,h,hg];refine zJ ⟨om,zZ rfl⟩ ?_;simp[go_sem,ei];exact zH (i+1,out++[⟨x.key,d⟩]) ⟨om,(by grind),bU 3 sM rfl rfl dC (zD sg rfl)⟩
def Ee:db:=⟨⟨0,0,0,0⟩,⟨0,0⟩,false⟩
def nD(a b:eZ):Bool:=a.node==b.node&&(a.dY==b.dY&&(a.seq==b.seq&&a.attempt==b.attempt))
theorem RB(l:List db)(b:eZ)(hl:l.length<=maxLen):Pure prog 89 [.sl .ro (l.map db.row),.agg b.row] (.cC [.agg ((l.find? λo=>nD o.dh b).getD Ee).row,.bool (l.find? λo=>nD o.dh b).isSome]):=by
 have ad:maxLen=9223372036854775807:=rfl;refine iW 0 func89 ntmps89 results89 λc hc hb=>zM ?_;generalize hq:(λo:db=>nD o.dh b)=q;have ab:∀x,q x=nD x.dh b:=(by grind);simp[go_sem];refine zG (S:=Nat) [0,3,4,5,6] (λi=>[.sl .ro (l.map db.row),.ptr 0 0,.ptr 1 0,.bool false,.int .i64 i]) (λ_=>[.box b.row,.box Ee.row]) (λi=>l.length-i) (λi=>i<=l.length/\l.find? q=(l.drop i).find? q) hc hb 0 sM ?_ ?_;.exact bU 2 rfl rfl rfl om (zD (by rfl) rfl)
 rintro i⟨hi,hf⟩;refine zA ?_;simp[go_sem];refine zX (λh=>?_) (λh=>?_)
 .have h:i<l.length:=by grind
  have hg:∃x,l[i]=x:=⟨_,rfl⟩;obtain⟨x,hg⟩:=hg;have aa:(l.drop i).find? q=if q x=true then some x else(l.drop (i+1)).find? q:=by rw[A4 h,List.find?_cons,hg];grind
  rw[aa,ab]at hf;simp[go_sem,h];refine yA [] 2 rfl (by rfl) kR ?_;simp[go_sem,h,hg];refine zX (λh2=>?_) (λh2=>?_)
  .have hs:nD x.dh b:=by simpa
   rw[alq hs]at hf;simp[go_sem,h,hg];exact zQ (zC rfl) (by grind)
  .have hs:¬nD x.dh b:=by simpa
   rw[alp hs]at hf;simp[go_sem,zO h om];exact zH (i+1) ⟨om,⟨h,hf⟩,bU 2 rfl rfl rfl om (zD (by rfl) rfl)⟩
 .have h:l.length<=i:=by grind
  rw[A8 h]at hf;simp[go_sem];exact zQ (zC rfl) ⟨by rw[hf];rfl,rfl⟩
theorem Y6(x:fL):Pure prog 158 [.agg x.row] (.agg (AJ x).row):=by refine iW 0 func158 ntmps158 results158 λc hc hb=>zM ?_;simp[go_sem];exact zQ (r:=.agg (AJ x).row) (xM ⟨zF rfl,zY,zF rfl,zF rfl,zF rfl,zF rfl,zF rfl,zF rfl,zF rfl,zF rfl,zF rfl,tV⟩) (by trivial)
def qH(Ps:ca->List dM):List ca->List dM->Option (List dM) |[],acc=>some acc|s::l,acc=>if((Ps s).length:Int)>max (512-(acc.length:Int)) 0then none else qH Ps l (acc++Ps s)
theorem Y7(Ps:ca->List dM):∀(l:List ca)(s:ca)(acc:List dM),qH Ps (l++[s]) acc=(qH Ps l acc).bind λa=>if((Ps s).length:Int)>max (512-(a.length:Int)) 0then none else some (a++Ps s)
 |[],s,acc=>by rfl|t::l,s,acc=>by
  simp only[Bk,qH];split;.rfl
  .exact Y7 Ps l s _
theorem Y8(Ps:ca->List dM)(m:List ca):∀(l:List ca)(acc:List dM),qH Ps (l++m) acc=(qH Ps l acc).bind λa=>qH Ps m a
 |[],acc=>rfl|t::l,acc=>by
  simp only[Bk,qH];split;.rfl
  .exact Y8 Ps m l _
def vD(cells:List bW)(at_:cT)(cj:List ca):List dM×cU:=match cj.findSome? (Gb cells at_)with|some k=>([],AJ k)|none=>match qH (λs=>qG cells s at_) cj []with|some l=>(l,ee)|none=>([],{ee with err:=3})
theorem RC{U J:Type}{f:U->Option J}{l:List U}(h:∀a∈l,f a=none):l.findSome? f=none:=(by grind)
theorem Y9{U J:Type}{f:U->Option J}{l:List U}{i:Nat}(hi:i<l.length)(h:∀a∈l.take i,f a=none){b:J}(hb:f l[i]=some b):l.findSome? f=some b:=by rw[<-B0 i l,List.findSome?_append,RC h,A4 hi,List.findSome?_cons,hb];rfl
def jT:List V:=[.int .i64 0,.sl .full [],.int .i64 0,.int .i64 0,.int .i64 0,.int .i64 0,.int .i64 0,.int .i64 0,.int .i64 0,.int .i64 0,.bool false]
def vE(x:List dM×cU):V:=.cC [.sl .ro (x.1.map dM.row),.agg x.2.row]
theorem sP{ρ:Nat->Nat}(r:cU)(e:r.dK=[]):jb ρ (.agg r.row) (.agg [.int .i64 r.err,.sl .full [],.int .i64 r.dh.node,.int .i64 r.dh.dY,.int .i64 r.dh.seq,.int .i64 r.dh.attempt,.int .i64 r.home,.int .i64 r.at_.wall,.int .i64 r.at_.tie,.int .i64 r.wall,.bool r.yes]):=by obtain⟨a,b,c,d,e1,f,g⟩:=r;cases e;exact wH ⟨zF rfl,zY,zF rfl,zF rfl,zF rfl,zF rfl,zF rfl,zF rfl,zF rfl,zF rfl,zF rfl,tV⟩
theorem xl1(p:dj)(at_:cT)(cj:List ca)(ar:p.cells.length<=1000000)(au:∀x∈p.cells,x.cF.length<=maxLen)(ay:cj.length<=maxLen):Pure prog 86 [.agg p.row,.agg at_.row,.sl .ro (cj.map ca.row)] (vE (vD p.cells at_ cj)):=by
 have az:maxLen=9223372036854775807:=rfl;have hblk:∀s,Pure prog 157 [.sl .ro (p.cells.map bW.row),.agg s.row,.agg at_.row] (.cC [.agg ((Gb p.cells at_ s).getD ik).row,.bool (Gb p.cells at_ s).isSome]):=λs=>by have h:=yY8 p.cells s at_ om;unfold Gb;rw[Option.isSome_map];exact h
 have ad:∀s eE,Pure prog 159 [.sl .ro (p.cells.map bW.row),.agg s.row,.agg at_.row,.int .i64 eE] (if((qG p.cells s at_).length:Int)>max eE 0then .cC [.sl .ro [],.int .i64 3]else .cC [.sl .ro ((qG p.cells s at_).map dM.row),.int .i64 0]):=λs eE=>xH8 p.cells s at_ eE ar au;obtain⟨M,hM⟩:=eX (vD p.cells at_ cj);rw[hM];unfold vD at hM;obtain⟨Ps,aj⟩:∃Ps:ca->List dM,(λs=>qG p.cells s at_)=Ps:=⟨_,rfl⟩;have ai:∀s,qG p.cells s at_=Ps s:=λs=>by rw[<-aj]
 obtain⟨B,hB⟩:=eX (Gb p.cells at_);rw[aj,hB]at hM;rw[hB]at hblk;have ad:∀s eE,Pure prog 159 [.sl .ro (p.cells.map bW.row),.agg s.row,.agg at_.row,.int .i64 eE] (if((Ps s).length:Int)>max eE 0then .cC [.sl .ro [],.int .i64 3]else .cC [.sl .ro ((Ps s).map dM.row),.int .i64 0]):=λs eE=>by have h:=ad s eE;rw[ai]at h;exact h
 clear aj ai hB;have ak:∀k:Nat,k<=512->IntKind.i64.wrap (512-(k:Int))=512-(k:Int):=λk hk=>bX om om;have ret:∀(l:List dM)(r:cU)(g:Tag)(w:V)(I:St),(l,r)=M->jb (cO [] I.length) (.agg r.row) w->cz (some (.cC [.sl g (l.map dM.row),w])) 0 (λr s=>r=vE M/\s=[]) I:=λl r g w I h hw=>by subst h;exact zQ (r:=vE (l,r)) (yO ⟨rP,hw,tV⟩) ⟨rfl,rfl⟩
 have ae:∀n:Nat,([.box p.row,.box at_.row,.box jT,.app n 2]:St).all (bS 4)=true:=λn=>by simp[bS,cV,cR,jT,dj.row,cT.row]
 refine iV 0 func86 ntmps86 results86 λc hc hb=>?_;refine zA ?_;simp[go_sem];refine wQ 8 2 dC sg ?_;refine zG (S:=Nat) [2,3,4,6,7,8,9] (λi=>[.sl .ro (cj.map ca.row),.ptr 0 0,.ptr 1 0,.sl .full [],.ptr 2 0,.sl (.app 3) [],.int .i64 i]) (λ_=>[.box p.row,.box at_.row,.box jT,.app 0 2]) (λi=>cj.length-i) (λi=>i<=cj.length/\∀s∈cj.take i,B s=none) hc hb 0 ⟨A5 _,sM⟩ ?_ ?_;.exact bU 4 (by simp[go_sem,jT]) rfl (ae 0) dC (zD sg rfl)
 rintro i⟨hi,af⟩;by_cases h1:i<cj.length;.have ei:=zO h1 om;obtain⟨y,hy⟩:=eX (cj[i]);have aa:=hblk y;obtain⟨G,hG⟩:=eX (B y);rw[hG]at aa;cases G with |some k=>have av:cj.findSome? B=some k:=Y9 h1 af (by rw[hy];exact hG);rw[av]at hM;change([],AJ k)=M at hM;have al:=Y6 k;obtain⟨rk,aw⟩:∃r,AJ k=r:=⟨_,rfl⟩;rw[aw]at al hM;simp only[Option.getD_some,Option.isSome_some]at aa;refine zA ?_;simp[go_sem,h1];refine yA [(7,0)] 4 rfl kR kR ?_;simp[go_sem,h1,hy];refine pD aa ?_;simp[go_sem];refine pC al ?_;simp[go_sem];exact ret [] rk .full _ _ hM (xD rfl)|none=>simp only[Option.getD_none,Option.isSome_none]at aa;refine zA ?_;simp[go_sem,h1];refine yA [(7,0)] 4 rfl kR kR ?_;simp[go_sem,h1,hy];refine pD aa ?_;simp[go_sem,ei];exact zH (i+1) ⟨om,(by grind[Ac]),aN 4 (ae 0)⟩
 rw[Ad om]at af;rw[RC af]at hM;clear hblk af;refine zA ?_;simp[go_sem,h1];refine zG (S:=Nat×List dM) [2,3,4,7,8,12] (λu=>[.sl .ro (cj.map ca.row),.ptr 0 0,.ptr 1 0,.ptr 2 0,.sl (.app 3) (u.2.map dM.row),.int .i64 u.1]) (λu=>[.box p.row,.box at_.row,.box jT,.app u.2.length 2]) (λu=>cj.length-u.1) (λu=>u.1<=cj.length/\qH Ps (cj.take u.1) []=some u.2/\u.2.length<=512) hc hb (0,[]) ⟨A5 _,by simp[qH],sM⟩ ?_ ?_;.exact aN 4 (ae 0)
 rintro⟨j,out⟩⟨hj,ah,hlen⟩;simp only at hj ah hlen;by_cases h2:j<cj.length;rotate_left;.rw[Ad om]at ah;rw[ah]at hM;refine zA ?_;simp[go_sem,h2];exact ret out ee _ _ _ hM (sP ee rfl)
 have ej:=zO h2 om;have an:=ak _ hlen;obtain⟨y,hy⟩:=eX (cj[j]);have ab:=Y7 Ps (cj.take j) y [];rw[<-hy,<-Ac h2,ah,hy]at ab;simp only[Av]at ab;have aa:=ad y (512-(out.length:Int));by_cases ao:((Ps y).length:Int)>max (512-(out.length:Int)) 0
 .rw[alq ao]at aa ab;have aq:qH Ps cj []=none:=by have:=Y8 Ps (cj.drop (j+1)) (cj.take (j+1)) [];rw[B0,ab]at this;grind
  rw[aq]at hM;refine zA ?_;simp[go_sem,h2];refine yA [(10,0)] 4 rfl kR kR ?_;simp[go_sem,h2,hy,an];refine pD aa ?_;simp[go_sem];exact ret [] {ee with err:=3} .full _ _ hM (sP {ee with err:=3} rfl)
 .rw[alp ao]at aa ab;have ax:out.length+(Ps y).length<=512:=om;obtain⟨Y,hY⟩:=eX (Ps y);rw[hY]at aa ab ax;refine zA ?_;simp[go_sem,h2];refine yA [(10,0)] 4 rfl kR kR ?_;simp[go_sem,h2,hy,an];refine pD aa ?_;simp[go_sem];refine zJ ⟨om,xH2 _⟩ ?_;simp[go_sem,ej];exact zH (j+1,out++Y) ⟨by show cj.length-(j+1)<cj.length-j;omega,⟨h2,ab,by show(out++Y).length<=512;simp;omega⟩,aN 4 (ae _)⟩
def Gc(key:alW):bW:=⟨key,[],false,ik⟩
def AK(cells:List bW)(key:alW):Option fL:=if xW (λx:bW=>x.key==key) cells 0<0then none else if(cells.getD (xW (λx:bW=>x.key==key) cells 0).toNat (Gc [])).locked=true then some (cells.getD (xW (λx:bW=>x.key==key) cells 0).toNat (Gc [])).lock else none
def Kr(cells:List bW)(b:eZ):Bool:=cells.any λx=>x.locked&&nD x.lock.dh b
def sQ(w:di)(k:fL):fL:={k with drop:=w.drop,data:=if w.drop=true then[]else w.data}
def sR(cells:List bW)(key:alW):Nat:=(cells.takeWhile λx=>Op.bytesLess x.key key).length
def pA(cells:List bW)(key:alW):List bW×Nat:=if xW (λx:bW=>x.key==key) cells 0<0then(cells.take (sR cells key)++Gc key::cells.drop (sR cells key),sR cells key)else(cells,(xW (λx:bW=>x.key==key) cells 0).toNat)
def HX(l:List bW)(i:Nat)(k:fL):List bW:=l.set i {l.getD i (Gc [])with locked:=true,lock:=k}
def tL(cells:List bW)(w:di)(k:fL):List bW:=HX (pA cells w.key).1 (pA cells w.key).2 (sQ w k)
def Ks(a b:cT):Bool:=a.wall==b.wall&&a.tie==b.tie
def AM(v:cc)(u:List cc×Bool)(x:cc):List cc×Bool:=if(!u.2&&!ji x.at_ v.at_)=true then(u.1++[v],true)else u
def qI(v:cc)(u:List cc×Bool)(x:cc):List cc×Bool:=if Ks x.at_ v.at_=true then AM v u x else((AM v u x).1++[x],(AM v u x).2)
def AN(v:cc)(u:List cc×Bool):List cc:=if u.2=true then u.1else u.1++[v]
def nE(l:List cc)(v:cc):List cc:=AN v (l.foldl (qI v) ([],false))
def xr(b:eZ)(yes:Bool)(x:bW):bW:=if(x.locked&&nD x.lock.dh b)=true then⟨x.key,if yes=true then nE x.cF ⟨x.lock.at_,x.lock.drop,x.lock.data⟩else x.cF,false,ik⟩else x
def AO(x:bW):Bool:=x.locked||decide (0<x.cF.length)
def Gd(cells:List bW)(b:eZ)(yes:Bool):List bW:=(cells.map (xr b yes)).filter AO
def HY(a b:cT):cT:=if ji a b=true then b else a
def Kt(p:dj)(c:fI):dj×cU:=match p.done.find? λo=>nD o.dh c.dh with |some o=>(p,{ee with err:=26,yes:=o.yes})|none=>if Kr p.cells c.dh=true then(p,ee)else if c.at_.wall<=p.closed then(p,{ee with err:=21,wall:=p.closed})else if ji c.at_ p.floor=true then(p,{ee with err:=22,at_:=p.floor})else match c.writes.findSome? λw=>AK p.cells w.key with|some k=>(p,AJ k)|none=>({p with cells:=c.writes.foldl (λl w=>tL l w ⟨c.dh,c.home,c.at_,false,[]⟩) p.cells},ee)
def Ge(p:dj)(c:fI):dj×cU:=match p.records.find? λo=>nD o.dh c.dh with |some o=>(p,{ee with at_:=o.at_,yes:=o.yes})|none=>({p with records:=p.records++[⟨c.dh,c.at_,c.yes⟩]},{ee with at_:=c.at_,yes:=c.yes})
def Za(p:dj)(c:fI):dj:={p with cells:=Gd p.cells c.dh c.yes,done:=if(p.done.find? λo=>nD o.dh c.dh).isSome=true then p.done else p.done++[⟨c.dh,c.at_,c.yes⟩]}
def RD(p:dj)(c:fI):dj×cU:=if c.at_.wall<p.low then(p,{ee with err:=24,wall:=p.low})else if(vD p.cells c.at_ c.cj).2.err≠0then(p,(vD p.cells c.at_ c.cj).2)else({p with floor:=HY p.floor c.at_},{ee with dK:=(vD p.cells c.at_ c.cj).1})
def wA(p:dj)(c:fI):dj×cU:=if c.kind=1then if c.cE≠p.cE+1\/1099511627776<c.cE then(p,{ee with err:=25})else({p with cE:=c.cE,na:=c.node},ee)else if p.cE=0\/c.cE≠p.cE then(p,{ee with err:=25})else if c.kind=2then RD p c else if c.kind=3then Kt p c else if c.kind=4then Ge p c else(Za p c,ee)
structure HZ(k:fL):Prop where
 dh:k.dh.ok
 home:cL k.home
 at_:k.at_.ok
 data:k.data.length<=20000
structure oW(n:Nat)(x:bW):Prop where
 lJ:x.cF.length<=n
 data:∀v∈x.cF,v.data.length<=20000lock:HZ x.lock
structure jj(m n:Nat)(cells:List bW):Prop where
 len:cells.length<=m
 cell:∀x∈cells,oW n x
structure ky(n:Nat)(p:dj):Prop where
 cells:jj (n*20000) n p.cells
 kz:p.records.length<=n/\∀o∈p.records,o.at_.ok
 done:p.done.length<=n
 low:cL p.low
 closed:cL p.closed
 floor:p.floor.ok
 cE:0<=p.cE/\p.cE<=1099511627776
theorem RE:HZ ik:=⟨Ga,wZ,lI,dC⟩
theorem xe6(h:jj m n cells)(key:alW):jj (m+1) n (pA cells key).1:=by
 unfold pA;split
 .refine⟨?_,λx hx=>?_⟩;.have:=h.len;grind
  .rcases Ai.1 hx with hx|hx;.exact h.cell x (by grind)
   rcases Af.1 hx with rfl|hx;.exact⟨A5 _,(λv hv=>by cases hv),RE⟩
   .exact h.cell x (by grind)
 .exact⟨Nat.le_succ_of_le h.len,h.cell⟩
theorem xp3(cells:List bW)(key:alW):(pA cells key).2<(pA cells key).1.length:=by grind[pA,sR,List.takeWhile_prefix,uX]
theorem xI9{l:List bW}(h:jj m n l)(i:Nat)(hk:HZ k):jj m n (HX l i k):=by
 refine⟨by unfold HX;rw[Dn];exact h.len,λx hx=>?_⟩;unfold HX at hx;rcases Dw hx with hx|rfl;.exact h.cell x hx
 .have hg:oW n (l.getD i (Gc [])):=by rw[Aj];cases hq:l[i]?with |none=>exact⟨A5 _,dC,RE⟩|some y=>exact h.cell y (by grind)
  exact⟨hg.lJ,hg.data,hk⟩
theorem xE7(h:jj m n cells){w:di}(hw:w.data.length<=20000)(hk:HZ k):jj (m+1) n (tL cells w k):=xI9 (xe6 h w.key) _ ⟨hk.dh,hk.home,hk.at_,by unfold sQ;grind⟩
theorem Zb{n:Nat}{k:fL}(hk:HZ k):∀(ws:List di){m:Nat}{cells:List bW},jj m n cells->(∀w∈ws,w.data.length<=20000)->jj (m+ws.length) n (ws.foldl (λl w=>tL l w k) cells)
 |[],_,_,h,_=>h|w::ws,m,cells,h,hw=>by have:=Zb hk ws (xE7 h (hw w (B2 ..)) hk) λx hx=>hw x (Bg _ hx);rw[B7,Ah,show m+(ws.length+1)=m+1+ws.length by omega];exact this
theorem xd7(v:cc)(u:List cc×Bool)(x:cc)(k:Nat)(h:u.1.length<=k+if u.2=true then 1 else 0):(qI v u x).1.length<=k+1+if(qI v u x).2=true then 1 else 0:=by grind[qI,AM]
theorem Zc(v:cc):∀(l:List cc)(u:List cc×Bool)(k:Nat),(u.1.length<=k+if u.2=true then 1 else 0)->(l.foldl (qI v) u).1.length<=k+l.length+if(l.foldl (qI v) u).2=true then 1 else 0
 |[],u,k,h=>h|x::l,u,k,h=>by have:=Zc v l _ (k+1) (xd7 v u x k h);grind
theorem wd1(l:List cc)(v:cc):(nE l v).length<=l.length+1:=by have h:=Zc v l ([],false) 0 sM;unfold nE AN;grind
theorem xd8(v:cc)(u:List cc×Bool)(x y:cc)(h:y∈(qI v u x).1):y∈u.1\/y=v\/y=x:=by grind[qI,AM]
theorem Zd(v:cc):∀(l:List cc)(u:List cc×Bool)(y:cc),y∈(l.foldl (qI v) u).1->y∈u.1\/y=v\/y∈l
 |[],u,y,h=>.inl h|x::l,u,y,h=>by
  rw[B7]at h;rcases Zd v l _ y h with h|h|h
  .rcases xd8 v u x y h with h|h|h;.exact .inl h
   .exact .inr (.inl h)
   .exact .inr (.inr (h▸B2 ..))
  .exact .inr (.inl h)
  .exact .inr (.inr (Bg _ h))
theorem wd2{l:List cc}{v y:cc}(h:y∈nE l v):y=v\/y∈l:=by unfold nE AN at h;have hm:=Zd v l ([],false) y;grind
theorem xa6{x:bW}(h:oW n x)(b:eZ)(yes:Bool):oW (n+1) (xr b yes x):=by
 unfold xr;split
 .refine⟨?_,λv hv=>?_,RE⟩
  .show(if yes=true then _ else _:List cc).length<=n+1;split;.have:=wd1 x.cF ⟨x.lock.at_,x.lock.drop,x.lock.data⟩;have:=h.lJ;omega
   .have:=h.lJ;omega
  .change v∈(if yes=true then _ else _:List cc)at hv;split at hv
   .rcases wd2 hv with rfl|hv;.exact h.lock.data
    .exact h.data v hv
   .exact h.data v hv
 .exact⟨by have:=h.lJ;omega,h.data,h.lock⟩
theorem xa7(h:jj m n cells)(b:eZ)(yes:Bool):jj m (n+1) (Gd cells b yes):=by
 unfold Gd;refine⟨?_,λx hx=>?_⟩;.have:=Dp AO (cells.map (xr b yes));rw[Au]at this;have:=h.len;omega
 .obtain⟨y,hy,rfl⟩:=Ab.1 (Bn.1 hx).1;exact xa6 (h.cell y hy) b yes
theorem jj.mono{m2 n2:Nat}(h:jj m n cells)(hm:m<=m2)(hn:n<=n2):jj m2 n2 cells:=⟨by have:=h.len;omega,λx hx=>⟨by have:=(h.cell x hx).lJ;omega,(h.cell x hx).data,(h.cell x hx).lock⟩⟩
theorem ky.mono{p:dj}(h:ky n p):ky (n+1) p:=⟨h.cells.mono om om,⟨by have:=h.kz.1;omega,h.kz.2⟩,by have:=h.done;omega,h.low,h.closed,h.floor,h.cE⟩
theorem RF{r:cU}(h1:r.dK.length<=1000/\∀p∈r.dK,p.data.length<=20000)(hw:cL r.wall)(ha:r.at_.ok)(hh:cL r.home)(hb:r.dh.ok):RX r:=⟨⟨(by grind),hw,ha.wall⟩,hh,hb⟩
theorem qJ(e w:Int)(hw:cL w)(a:cT)(ha:a.ok)(y:Bool):RX {ee with err:=e,wall:=w,at_:=a,yes:=y}:=RF ⟨A5 _,λp hp=>by cases hp⟩ hw ha wZ Ga
theorem Ze(h:HZ k):RX (AJ k):=RF ⟨A5 _,λp hp=>by cases hp⟩ wZ h.at_ h.home h.dh
theorem xD1{key:alW}(h:AK cells key=some k):∃x∈cells,x.lock=k:=by unfold AK at h;have hr:=uX (λx:bW=>x.key==key) cells 0;grind
theorem xf9{at_:cT}{s:ca}(h:Gb cells at_ s=some k):∃x∈cells,x.lock=k:=by unfold Gb at h;obtain⟨x,hx,rfl⟩:=As.1 h;grind
theorem RG{U J:Type}{f:U->Option J}:∀{l:List U}{b:J},l.findSome? f=some b->∃a∈l,f a=some b
 |[],_,h=>by cases h|a::l,b,h=>by rw[List.findSome?_cons]at h;cases hf:f a<;>simp_all[RG]
theorem xb8{x:bW}(h:oW n x){at_:cT}{d:alW}(hd:AI x at_=some d):d.length<=20000:=by unfold AI at hd;cases hv:oV x.cF at_ with |none=>grind|some v=>
  rw[hv]at hd;simp only at hd;split at hd;.cases hd
  .cases hd;unfold oV at hv;exact h.data v (by grind)
theorem yI5(h:jj m n cells)(s:ca)(at_:cT):∀p∈qG cells s at_,p.data.length<=20000:=λp hp=>by unfold qG Nv at hp;obtain⟨x,hx,he⟩:=E3.1 hp;obtain⟨d,hd,rfl⟩:=As.1 he;exact xb8 (h.cell x (by grind)) hd
theorem Zf{Ps:ca->List dM}(hP:∀s,∀p∈Ps s,p.data.length<=20000):∀(l:List ca){acc r:List dM},qH Ps l acc=some r->acc.length<=512->(∀p∈acc,p.data.length<=20000)->r.length<=512/\∀p∈r,p.data.length<=20000
 |[],acc,r,h,h1,h2=>by grind[qH]|s::l,acc,r,h,h1,h2=>by
  rw[qH]at h;split at h;.cases h
  .rename_i hq;refine Zf hP l h (by rw[Al];omega) λp hp=>?_;rcases Ai.1 hp with hp|hp;.exact h2 p hp
   .exact hP s p hp
theorem wm8(h:jj m n cells)(at_:cT)(cj:List ca):RX (vD cells at_ cj).2/\(vD cells at_ cj).1.length<=512/\∀p∈(vD cells at_ cj).1,p.data.length<=20000:=by
 unfold vD;split;.rename_i k hk;obtain⟨s,_,hs⟩:=RG hk;obtain⟨x,hx,rfl⟩:=xf9 hs;exact⟨Ze (h.cell x hx).lock,sM,sM⟩
 split;.rename_i l hl;obtain⟨h1,h2⟩:=Zf (by grind[yI5]) cj hl sM sM;exact⟨qJ 0 0 wZ zS lI false,h1,h2⟩
 .exact⟨qJ 3 0 wZ zS lI false,sM,sM⟩
theorem xV2{a b:cT}(ha:a.ok)(hb:b.ok):(HY a b).ok:=by grind[HY]
theorem Zg{p:dj}(h:ky n p){c:fI}(ad:c.dh.ok)(aa:c.at_.ok)(ab:cL c.home)(ae:c.writes.length<=20000)(hw:∀w∈c.writes,w.data.length<=20000)(af:0<=c.cE):ky (n+1) (wA p c).1/\RX (wA p c).2:=by
 have hm:=h.mono;unfold wA;split
 .split;.exact⟨hm,qJ 25 0 wZ zS lI false⟩
  .exact⟨⟨hm.cells,hm.kz,hm.done,hm.low,hm.closed,hm.floor,by grind⟩,qJ 0 0 wZ zS lI false⟩
 split;.exact⟨hm,qJ 25 0 wZ zS lI false⟩
 split
 .unfold RD;obtain⟨h1,h2,h3⟩:=wm8 h.cells c.at_ c.cj;split;.exact⟨hm,qJ 24 p.low h.low zS lI false⟩
  split;.grind
  .exact⟨⟨hm.cells,hm.kz,hm.done,hm.low,hm.closed,xV2 h.floor aa,hm.cE⟩,RF (by grind) wZ lI wZ Ga⟩
 split
 .unfold Kt;split;.exact⟨hm,qJ 26 0 wZ zS lI _⟩
  split;.exact⟨hm,qJ 0 0 wZ zS lI false⟩
  split;.exact⟨hm,qJ 21 p.closed h.closed zS lI false⟩
  split;.exact⟨hm,qJ 22 0 wZ p.floor h.floor false⟩
  split;.rename_i k hk;obtain⟨w,_,hs⟩:=RG hk;obtain⟨x,hx,rfl⟩:=xD1 hs;exact⟨hm,Ze (h.cells.cell x hx).lock⟩
  .exact⟨⟨(Zb ⟨ad,ab,aa,sM⟩ c.writes h.cells hw).mono om om,hm.kz,hm.done,hm.low,hm.closed,hm.floor,hm.cE⟩,qJ 0 0 wZ zS lI false⟩
 split
 .unfold Ge;split;.rename_i o ho;exact⟨hm,qJ 0 0 wZ o.at_ (h.kz.2 o (by grind)) _⟩
  .refine⟨⟨hm.cells,⟨by show(p.records++_).length<=n+1;rw[Al,Bh];have:=h.kz.1;omega,λo ho=>?_⟩,hm.done,hm.low,hm.closed,hm.floor,hm.cE⟩,qJ 0 0 wZ c.at_ aa _⟩;rcases Ai.1 om with ho|ho;.exact h.kz.2 o ho
   grind
 .refine⟨⟨(xa7 h.cells c.dh c.yes).mono om om,hm.kz,?_,hm.low,hm.closed,hm.floor,hm.cE⟩,qJ 0 0 wZ zS lI false⟩;show(if _ then _ else _:List db).length<=n+1;split;.have:=h.done;omega
  .rw[Al,Bh];have:=h.done;omega
theorem xL0(l:List cc):xB (l.map cc.row)=true:=by simp[xB,cc.row,o7]
theorem Nw(l:List bW):xB (l.map bW.row)=true:=by simp[xB,bW.row,o7]
theorem xo7(l:List cc):wU (l.map cc.row) 0 l.length=l.map cc.row:=by unfold wU;rw[B1,Ad sM,B8];rfl
theorem RH(l:List bW):wU (l.map bW.row) 0 l.length=l.map bW.row:=by unfold wU;rw[B1,Ad sM,B8];rfl
theorem Gf(n:Nat)(l:List bW):bS n (.cv (l.map bW.row) 12)=true:=by simp[bS,cV,cR,bW.row]
theorem xC9(id:Nat)(rows:List (List V))(l:List bW):(l.map bW.row).map (λr=>r.map (fN id rows))=l.map bW.row:=by simp[bW.row,fN,fH]
theorem Zh(l:List bW)(hl:l.length<=1000000)(hv:∀x∈l,x.cF.length<=1000000):bN prog 156 [.sl .ro (l.map bW.row)] [] (λr s=>r=.cS 0 12 l.length 0 l.length/\s=[.cv (l.map bW.row) 12]):=by
 refine iV 0 func156 ntmps156 results156 λc hc hb=>?_;refine zA ?_;simp[go_sem];refine Fh 3 12 dC (by rfl) ?_;refine zG (S:=Nat×List bW) [0,3,4] (λu=>[.sl .ro (l.map bW.row),.cS 0 12 u.2.length 0 u.2.length,.int .i64 u.1]) (λu=>[.cv (u.2.map bW.row) 12]) (λu=>l.length-u.1) (λu=>u.1<=l.length/\u.2=l.take u.1) hc hb (0,[]) sM ?_ ?_;.exact bU 1 (by rfl) rfl rfl dC (zD (by rfl) rfl)
 rintro⟨i,out⟩⟨hi,ho⟩;simp only at hi ho;have ad:out.length=i:=by grind
 by_cases q:i<l.length;rotate_left
 .have h2:out=l:=by grind
  refine zA ?_;simp[go_sem,q];exact Hc sM (by grind)
 have ei:=zO q om;obtain⟨y,hy⟩:=eX (l[i]);have ae:=hv y (hy▸A9 q);have aa:out++[y]=l.take (i+1):=by grind[Ac]
 have ab:=xo7 y.cF;refine tg 19 dC ?_;refine zN (zA ?_);simp[go_sem,q];refine zN (yt (zN (zA ?_)));simp[go_sem,q,hy];refine zN (zA ?_);simp[go_sem];refine zJ ⟨om,(λr hr=>by cases hr),lK λ_=>rfl⟩ ?_;simp[go_sem];refine CW 2 4 (y.cF.map cc.row) rfl (xL0 _) ?_;refine zA ?_;simp[go_sem,fO,fX,fN,fH,jG,mP,ab,C0];refine zJ ⟨zZ rfl,om⟩ ?_;simp[go_sem];refine zA ?_;simp[go_sem,ei];exact zH (i+1,out++[y]) ⟨om,⟨q,aa⟩,aN 1 (by rw[Az,Gf];rfl)⟩
theorem Zi(l:List bW)(hl:l.length<=1000000)(hv:∀x∈l,x.cF.length<=1000000):Pure prog 156 [.sl .ro (l.map bW.row)] (.sl .ro (l.map bW.row)):=bN.Ik (Zh l hl hv) λr s h=>by
  obtain⟨rfl,rfl⟩:=h;refine⟨.sl .ro (l.map bW.row),jG 0 (l.map bW.row) [.cv (l.map bW.row) 12],.step 0 12 (l.map bW.row) rfl (Nw l) ?_,zC rfl⟩;have e:[V.cS 0 12 l.length 0 l.length].map (fO 0 (l.map bW.row))=[.sl .ro (l.map bW.row)]:=by grind[fO,fX,fN,fH,RH]
  rw[e];exact .refl _ _
theorem Zj(l:List bW)(key:alW)(hl:l.length<=1000000):Pure prog 231 [.sl .ro (l.map bW.row),.str key] (.int .i64 (xW (λx:bW=>x.key==key) l 0)):=by
 obtain⟨M,hM⟩:=eX (xW (λx:bW=>x.key==key) l 0);rw[hM];have ret:∀(r:Int)(I:St),r=M->cz (some (.int .i64 r)) 0 (λr s=>r=.int .i64 M/\s=[]) I:=λr I h=>by subst h;exact zQ (zC rfl) sM
 refine iV 0 func231 ntmps231 results231 λc hc hb=>?_;refine zA ?_;simp[go_sem];refine zG (S:=Nat) [0,1,5] (λi=>[.sl .ro (l.map bW.row),.str key,.int .i64 (i:Int)]) (λ_=>[]) (λi=>l.length-i) (λi=>i<=l.length/\xW (λx:bW=>x.key==key) (l.drop i) i=M) hc hb 0 (by grind) ?_ ?_;.exact gC rfl (zR (by rfl) rfl)
 rintro i⟨hi,hinv⟩;by_cases q:i<l.length;rotate_left;.rw[A8 om,xW]at hinv;refine zA ?_;simp[go_sem,q];exact ret _ _ hinv
 have ei:=zO q om;obtain⟨y,hy⟩:=eX (l[i]);rw[A4 q,hy,xW]at hinv;cases hk:y.key==key with |true=>rw[hk,alq rfl]at hinv;refine zA ?_;simp[go_sem,q,hy,hk];exact ret _ _ hinv|false=>rw[hk,alp dC]at hinv;refine zA ?_;simp[go_sem,q,hy,hk,ei];exact zH (i+1) ⟨om,om,gC rfl (zR (by rfl) rfl)⟩
theorem wx5(l:List bW)(key:alW)(hl:l.length<=1000000):Pure prog 162 [.sl .ro (l.map bW.row),.str key] (.cC [.agg ((AK l key).getD ik).row,.bool (AK l key).isSome]):=by
 have hf:=Zj l key hl;obtain⟨M,hM⟩:=eX (AK l key);rw[hM];unfold AK at hM;have aa:=uX (λx:bW=>x.key==key) l 0;generalize xW (λx:bW=>x.key==key) l 0=k at hf hM aa;have no:∀I:St,M=none->cz (some (.cC [.agg ik.row,.bool false])) 0 (λr s=>r=.cC [.agg (M.getD ik).row,.bool M.isSome]/\s=[]) I:=λI h=>by subst h;exact zQ (zC rfl) sM
 refine iV 0 func162 ntmps162 results162 λc hc hb=>?_;refine zA ?_;simp[go_sem];refine pC hf ?_;by_cases q:k<0;.have q':decide (k<0)=true:=(by grind);rw[alq q]at hM;simp[go_sem,q'];exact no _ hM.symm
 have q':decide (k<0)=false:=(by grind);obtain⟨j,rfl⟩:∃j:Nat,k=j:=(by grind);have hj:j<l.length:=om;obtain⟨y,hy⟩:=eX (l[j]);rw[alp q,Ay,Aj,A0 hj,hy,Option.getD_some]at hM;cases hk:y.locked with |true=>rw[hk,alq rfl]at hM;subst hM;simp[go_sem,q',hj,hy,hk];exact zQ (zC rfl) sM|false=>rw[hk,alp dC]at hM;simp[go_sem,q',hj,hy,hk];exact no _ hM.symm
theorem wy8(l:List bW)(b:eZ)(hl:l.length<=1000000):Pure prog 161 [.sl .ro (l.map bW.row),.agg b.row] (.bool (Kr l b)):=by
 obtain⟨M,hM⟩:=eX (Kr l b);rw[hM];unfold Kr at hM;have ret:∀(r:Bool)(I:St),r=M->cz (some (.bool r)) 0 (λr s=>r=.bool M/\s=[]) I:=λr I h=>by subst h;exact zQ (zC rfl) sM
 refine iV 0 func161 ntmps161 results161 λc hc hb=>?_;refine zA ?_;simp[go_sem];refine zG (S:=Nat) [0,3,5] (λi=>[.sl .ro (l.map bW.row),.ptr 0 0,.int .i64 (i:Int)]) (λ_=>[.box b.row]) (λi=>l.length-i) (λi=>i<=l.length/\((l.drop i).any λx=>x.locked&&nD x.lock.dh b)=M) hc hb 0 (by grind) ?_ ?_;.exact bU 1 (by rfl) rfl rfl dC (zD (by rfl) rfl)
 rintro i⟨hi,hinv⟩;by_cases q:i<l.length;rotate_left;.rw[A8 om,List.any_nil]at hinv;refine zA ?_;simp[go_sem,q];exact ret _ _ hinv
 have ei:=zO q om;obtain⟨y,hy⟩:=eX (l[i]);rw[A4 q,hy,alU]at hinv;have hs:nD y.lock.dh b=(y.lock.dh.node==b.node&&(y.lock.dh.dY==b.dY&&(y.lock.dh.seq==b.seq&&y.lock.dh.attempt==b.attempt))):=rfl;cases hk:y.locked with |false=>rw[hk,Di,Bv]at hinv;refine zA ?_;simp[go_sem,q];refine yA [] 1 rfl (by rfl) kR ?_;simp[go_sem,q,hy,hk,ei];exact zH (i+1) ⟨om,(by grind),bU 1 (by rfl) rfl rfl dC (zD (by rfl) rfl)⟩|true=>cases aa:nD y.lock.dh b with |true=>rw[hk,aa]at hinv;rw[aa]at hs;refine zA ?_;simp[go_sem,q];refine yA [] 1 rfl (by rfl) kR ?_;simp[go_sem,q,hy,hk,<-hs];exact ret _ _ (by grind)|false=>rw[hk,aa,Bool.and_false,Bv]at hinv;rw[aa]at hs;refine zA ?_;simp[go_sem,q];refine yA [] 1 rfl (by rfl) kR ?_;simp[go_sem,q,hy,hk,<-hs,ei];exact zH (i+1) ⟨om,(by grind),bU 1 (by rfl) rfl rfl dC (zD (by rfl) rfl)⟩
theorem xB7(l:List bW):eU 12 (l.map bW.row):=lK λ_=>rfl
theorem wr6(l:List cc)(v:cc)(hl:l.length<=1000000):Pure prog 164 [.sl .ro (l.map cc.row),.agg v.row] (.sl .ro ((nE l v).map cc.row)):=by
 obtain⟨M,hM⟩:=eX (nE l v);rw[hM];unfold nE at hM;have aa:∀n:Nat,([.box v.row,.app n 4]:St).all (bS 2)=true:=(by grind[bS,cV,cR,cc.row]);refine iV 0 func164 ntmps164 results164 λc hc hb=>?_;refine zA ?_;simp[go_sem];refine wQ 5 4 dC (by rfl) ?_;refine zG (S:=Nat×List cc×Bool) [0,3,5,6,7] (λu=>[.sl .ro (l.map cc.row),.ptr 0 0,.sl (.app 1) (u.2.1.map cc.row),.bool u.2.2,.int .i64 (u.1:Int)]) (λu=>[.box v.row,.app u.2.1.length 4]) (λu=>l.length-u.1) (λu=>u.1<=l.length/\u.2.1.length<=2*u.1/\AN v ((l.drop u.1).foldl (qI v) u.2)=M) hc hb (0,[],false) (by grind) ?_ ?_;.exact bU 2 (by rfl) rfl (aa 0) dC (zD (by rfl) rfl)
 rintro⟨i,out,b⟩⟨hi,ae,hinv⟩;simp only at hi ae hinv;by_cases q:i<l.length;rotate_left;.rw[A8 om,List.foldl_nil]at hinv;unfold AN at hinv;cases b with
  |true=>
   have hinv:out=M:=by grind
   refine zA ?_;simp[go_sem,q];rw[hinv];exact zQ zK sM|false=>
   have hinv:out++[v]=M:=by grind
   refine zA ?_;simp[go_sem,q];refine zJ ⟨om,zZ rfl⟩ ?_;simp[go_sem];exact zQ (r:=.sl .ro (M.map cc.row)) (by rw[<-hinv,C2];exact zK) sM
 have ei:=zO q om;obtain⟨y,hy⟩:=eX (l[i]);rw[A4 q,hy,B7]at hinv;have hle:=Kq y.at_ v.at_;have hs:Ks y.at_ v.at_=(y.at_.wall==v.at_.wall&&y.at_.tie==v.at_.tie):=rfl;have half:∀(o:List cc)(bo:Bool),o.length<=2*i+1->AN v ((l.drop (i+1)).foldl (qI v) (if Ks y.at_ v.at_=true then(o,bo)else(o++[y],bo)))=M->True:=sM;clear half;have ab:qI v (out,b) y=if Ks y.at_ v.at_=true then AM v (out,b) y else((AM v (out,b) y).1++[y],(AM v (out,b) y).2):=rfl;rw[ab]at hinv;have ad:AM v (out,b) y=if(!b&&!ji y.at_ v.at_)=true then(out++[v],true)else(out,b):=rfl;rw[ad]at hinv;obtain⟨lt,af⟩:=eX (ji y.at_ v.at_);obtain⟨sm,ah⟩:=eX (Ks y.at_ v.at_);rw[af]at hle hinv;rw[ah]at hs hinv;clear ab ad;cases b with
 |true=>
  have hinv:AN v ((l.drop (i+1)).foldl (qI v) (if sm=true then(out,true)else(out++[y],true)))=M:=by grind
  cases sm with |true=>rw[alq rfl]at hinv;refine zA ?_;simp[go_sem,q];refine yA [(10,0)] 2 rfl (by rfl) kR ?_;simp[go_sem];refine yA [] 2 rfl (by rfl) kR ?_;simp[go_sem,q,hy,<-hs,ei];exact zH (i+1,out,true) ⟨om,(by grind),bU 2 (by rfl) rfl (aa _) dC (zD (by rfl) rfl)⟩|false=>rw[alp dC]at hinv;refine zA ?_;simp[go_sem,q];refine yA [(10,0)] 2 rfl (by rfl) kR ?_;simp[go_sem];refine yA [] 2 rfl (by rfl) kR ?_;simp[go_sem,q,hy,<-hs];refine zJ ⟨om,zZ rfl⟩ ?_;simp[go_sem,ei];exact zH (i+1,out++[y],true) ⟨om,(by grind),bU 2 sM rfl (aa _) dC (zD sg rfl)⟩
 |false=>cases lt with
  |true=>
   have hinv:AN v ((l.drop (i+1)).foldl (qI v) (if sm=true then(out,false)else(out++[y],false)))=M:=by grind
   cases sm with |true=>rw[alq rfl]at hinv;refine zA ?_;simp[go_sem,q];refine yA [(10,0)] 2 rfl (by rfl) kR ?_;simp[go_sem,q,hy];refine pD hle ?_;simp[go_sem];refine yA [] 2 rfl (by rfl) kR ?_;simp[go_sem,q,hy,<-hs,ei];exact zH (i+1,out,false) ⟨om,(by grind),bU 2 (by rfl) rfl (aa _) dC (zD (by rfl) rfl)⟩|false=>rw[alp dC]at hinv;refine zA ?_;simp[go_sem,q];refine yA [(10,0)] 2 rfl (by rfl) kR ?_;simp[go_sem,q,hy];refine pD hle ?_;simp[go_sem];refine yA [] 2 rfl (by rfl) kR ?_;simp[go_sem,q,hy,<-hs];refine zJ ⟨om,zZ rfl⟩ ?_;simp[go_sem,ei];exact zH (i+1,out++[y],false) ⟨om,(by grind),bU 2 sM rfl (aa _) dC (zD sg rfl)⟩
  |false=>
   have hinv:AN v ((l.drop (i+1)).foldl (qI v) (if sm=true then(out++[v],true)else(out++[v]++[y],true)))=M:=by grind
   cases sm with |true=>rw[alq rfl]at hinv;refine zA ?_;simp[go_sem,q];refine yA [(10,0)] 2 rfl (by rfl) kR ?_;simp[go_sem,q,hy];refine pD hle ?_;simp[go_sem];refine zJ ⟨om,zZ rfl⟩ ?_;simp[go_sem];refine yA [] 2 rfl (by rfl) kR ?_;simp[go_sem,q,hy,<-hs,ei];exact zH (i+1,out++[v],true) ⟨om,(by grind),bU 2 sM rfl (aa _) dC (zD sg rfl)⟩|false=>rw[alp dC]at hinv;refine zA ?_;simp[go_sem,q];refine yA [(10,0)] 2 rfl (by rfl) kR ?_;simp[go_sem,q,hy];refine pD hle ?_;simp[go_sem];refine zJ ⟨om,zZ rfl⟩ ?_;simp[go_sem];refine yA [] 2 rfl (by rfl) kR ?_;simp[go_sem,q,hy,<-hs];refine zJ ⟨om,zZ rfl⟩ ?_;simp[go_sem,ei];exact zH (i+1,out++[v]++[y],true) ⟨om,(by grind),bU 2 sM rfl (aa _) dC (zD sg rfl)⟩
theorem xJ0(l:List bW)(b:eZ)(yes:Bool)(hl:l.length<=1000000)(hv:∀x∈l,x.cF.length<=1000000):Pure prog 90 [.sl .ro (l.map bW.row),.agg b.row,.bool yes] (.sl .ro ((Gd l b yes).map bW.row)):=by
 have af:=Zi l hl hv;obtain⟨M,hM⟩:=eX (Gd l b yes);rw[hM];unfold Gd at hM;have ad:∀n:Nat,([.box b.row,.app n 12]:St).all (bS 2)=true:=(by grind[bS,cV,cR,eZ.row]);refine iV 0 func90 ntmps90 results90 λc hc hb=>?_;refine zA ?_;simp[go_sem];refine pC af ?_;simp[go_sem];refine wQ 7 12 dC (by rfl) ?_;refine zG (S:=Nat×List bW) [2,4,7,8,9] (λu=>[.bool yes,.ptr 0 0,.sl (.app 1) (u.2.map bW.row),.sl .ro (l.map bW.row),.int .i64 (u.1:Int)]) (λu=>[.box b.row,.app u.2.length 12]) (λu=>l.length-u.1) (λu=>u.1<=l.length/\u.2.length<=u.1/\u.2++((l.drop u.1).map (xr b yes)).filter AO=M) hc hb (0,[]) (by grind) ?_ ?_;.exact bU 2 (by rfl) rfl (ad 0) dC (zD (by rfl) rfl)
 rintro⟨i,out⟩⟨hi,ah,hinv⟩;simp only at hi ah hinv;by_cases q:i<l.length;rotate_left
 .rw[A8 om]at hinv;have hinv:out=M:=by grind
  refine zA ?_;simp[go_sem,q];rw[hinv];exact zQ zK sM
 have ei:=zO q om;obtain⟨y,hy⟩:=eX (l[i]);have ai:=hv y (hy▸A9 q);rw[A4 q,hy,Ag,Da]at hinv;have hs:nD y.lock.dh b=(y.lock.dh.node==b.node&&(y.lock.dh.dY==b.dY&&(y.lock.dh.seq==b.seq&&y.lock.dh.attempt==b.attempt))):=rfl;have ae:=wr6 y.cF ⟨y.lock.at_,y.lock.drop,y.lock.data⟩ ai;obtain⟨w,hw⟩:=eX (nE y.cF ⟨y.lock.at_,y.lock.drop,y.lock.data⟩);obtain⟨z,hz⟩:=eX (xr b yes y);rw[hz]at hinv;unfold xr at hz;rw[hw]at hz ae;obtain⟨sm,aj⟩:=eX (nD y.lock.dh b);rw[aj]at hs hz;have fin:(AO z=true/\(out++[z])++((l.drop (i+1)).map (xr b yes)).filter AO=M)\/(AO z=false/\out++((l.drop (i+1)).map (xr b yes)).filter AO=M):=by grind
 have aa:AO z=(z.locked||decide (0<z.cF.length)):=rfl;clear hinv;cases ab:y.locked with |false=>
  rw[ab]at hz;have hz:y=z:=by grind
  subst hz;rcases fin with⟨hk,hinv⟩|⟨hk,hinv⟩;.rw[hk,ab,Bv]at aa;refine zA ?_;simp[go_sem,q,hy,ab,<-aa];refine zJ ⟨om,zZ rfl⟩ ?_;simp[go_sem,ei];exact zH (i+1,out++[y]) ⟨om,(by grind),bU 2 sM rfl (ad _) dC (zD (by simp[go_sem,ab]) rfl)⟩
  .rw[hk,ab,Bv]at aa;refine zA ?_;simp[go_sem,q,hy,ab,<-aa,ei];exact zH (i+1,out) ⟨om,(by grind),bU 2 (by rfl) rfl (ad _) dC (zD (by rfl) rfl)⟩|true=>rw[ab,Ba]at hz;cases sm with
  |false=>
   have hz:y=z:=by grind
   subst hz;have hinv:(out++[y])++((l.drop (i+1)).map (xr b yes)).filter AO=M:=by grind
   refine zA ?_;simp[go_sem,q,hy,ab,<-hs];refine zJ ⟨om,zZ rfl⟩ ?_;simp[go_sem,ei];exact zH (i+1,out++[y]) ⟨om,(by grind),bU 2 sM rfl (ad _) dC (zD (by simp[go_sem,ab]) rfl)⟩|true=>rw[alq rfl]at hz;cases yes with
   |true=>
    rw[alq rfl]at hz;subst hz;rw[Bv]at aa;rcases fin with⟨hk,hinv⟩|⟨hk,hinv⟩;.rw[hk]at aa;refine zA ?_;simp[go_sem,q,hy,ab,<-hs];refine pC ae ?_;simp[go_sem,<-aa];refine zJ ⟨om,zZ rfl⟩ ?_;simp[go_sem,ei];exact zH (i+1,out++[⟨y.key,w,false,ik⟩]) ⟨om,(by grind),bU 2 sM rfl (ad _) dC (zD (by simp[go_sem,ik]) rfl)⟩
    .rw[hk]at aa;refine zA ?_;simp[go_sem,q,hy,ab,<-hs];refine pC ae ?_;simp[go_sem,<-aa,ei];exact zH (i+1,out) ⟨om,(by grind),bU 2 (by rfl) rfl (ad _) dC (zD (by rfl) rfl)⟩|false=>
    rw[alp dC]at hz;subst hz;rw[Bv]at aa;rcases fin with⟨hk,hinv⟩|⟨hk,hinv⟩;.rw[hk]at aa;refine zA ?_;simp[go_sem,q,hy,ab,<-hs,<-aa];refine zJ ⟨om,zZ rfl⟩ ?_;simp[go_sem,ei];exact zH (i+1,out++[⟨y.key,y.cF,false,ik⟩]) ⟨om,(by grind),bU 2 sM rfl (ad _) dC (zD (by simp[go_sem,ik]) rfl)⟩
    .rw[hk]at aa;refine zA ?_;simp[go_sem,q,hy,ab,<-hs,<-aa,ei];exact zH (i+1,out) ⟨om,(by grind),bU 2 (by rfl) rfl (ad _) dC (zD (by rfl) rfl)⟩
theorem xh8(x:bW)(l:List bW)(key:alW):sR (x::l) key=if Op.bytesLess x.key key=true then sR l key+1 else 0:=by unfold sR;rw[List.takeWhile_cons];grind
theorem Zk(key:alW):∀l:List bW,sR l key<=l.length/\(∀(i:Nat)(h:i<l.length),i<sR l key->Op.bytesLess l[i].key key=true)/\∀h:sR l key<l.length,Op.bytesLess l[sR l key].key key=false
 |[]=>⟨A7 _,sM,sM⟩|x::l=>by obtain⟨h1,h2,h3⟩:=Zk key l;have e:=xh8 x l key;grind
theorem wl1(l:List bW)(w:di)(k:fL)(hl:l.length<=999999)(hv:∀x∈l,x.cF.length<=1000000):Pure prog 163 [.sl .ro (l.map bW.row),.agg w.row,.agg k.row] (.sl .ro ((tL l w k).map bW.row)):=by
 have a6:=Zh l om hv;have hf:=Zj l w.key om;have ao:=uX (λx:bW=>x.key==w.key) l 0;have aq:=xp3 l w.key;obtain⟨M,hM⟩:=eX (tL l w k);rw[hM];unfold tL at hM;obtain⟨P,hP⟩:=eX (pA l w.key);rw[hP]at hM aq;unfold pA at hP;generalize xW (λx:bW=>x.key==w.key) l 0=f at hf hP ao;have aj:=RH l;have ar:=Gf 0 l;refine iV 0 func163 ntmps163 results163 λc hc hb=>?_;refine zN (zA ?_);simp[go_sem];refine zN (zA ?_);simp[go_sem];refine YE a6 cB ar ⟨zK,tV⟩ ?_;simp[go_sem];have a7:(sQ w k).row=[.int .i64 k.dh.node,.int .i64 k.dh.dY,.int .i64 k.dh.seq,.int .i64 k.dh.attempt,.int .i64 k.home,.int .i64 k.at_.wall,.int .i64 k.at_.tie,.bool w.drop,.str (if w.drop=true then[]else w.data)]:=rfl;obtain⟨K,hK⟩:=eX (sQ w k);rw[hK]at hM a7;have ak:([.box w.row,.box K.row,.cv (l.map bW.row) 12]:St).all (bS 3)=true:=by rw[Az,Az,Az,Gf];rfl
 refine zN ?_;refine xV [(5,3),(7,3)] 1 sM kR kR ?_;simp[go_sem];refine nK (S:=Unit) [4,5,7] (λ_=>[.ptr 0 0,.ptr 1 0,.cS 2 12 l.length 0 l.length]) (λ_=>[.box w.row,.box K.row,.cv (l.map bW.row) 12]) (λ_=>True) hc hb ?_ ?_;.cases hd:w.drop with |true=>refine zA ?_;simp[go_sem];exact zH () ⟨tV,bU 3 (by subst hK;simp[go_sem,hd,sQ]) rfl ak dC (zD sg rfl)⟩|false=>refine zA ?_;simp[go_sem];exact zH () ⟨tV,bU 3 (by subst hK;simp[go_sem,hd,sQ]) rfl ak dC (zD sg rfl)⟩
 rintro _ _;refine zN (zA ?_);simp[go_sem];refine Om hf cB (.step 2 12 (l.map bW.row) rfl (Nw _) (.refl _ _)) (zR (by simp[fO,fX,fN,fH,aj,go_sem]) rfl) rfl ?_;simp[go_sem];have MR:([.box w.row,.box K.row,.cv (P.1.map bW.row) 12]:St).all (bS 3)=true:=by rw[Az,Az,Az,Gf];rfl
 refine nK (S:=Unit) [5,7,8] (λ_=>[.ptr 1 0,.cS 2 12 P.1.length 0 P.1.length,.int .i64 (P.2:Int)]) (λ_=>[.box w.row,.box K.row,.cv (P.1.map bW.row) 12]) (λ_=>True) hc hb ?_ ?_
 .by_cases q:f<0;rotate_left;.rw[alp q]at hP;have q':decide (f<0)=false:=alr q;subst hP;have a8:((f.toNat:Nat):Int)=f:=om;refine zA ?_;simp[go_sem,q'];exact zH () ⟨tV,aM 3 ak (zD (by simp[go_sem,a8]) rfl)⟩
  have q':decide (f<0)=true:=als q;rw[alq q]at hP;obtain⟨n,hn⟩:=eX (sR l w.key);rw[hn]at hP;obtain⟨ad,ae,aA⟩:=Zk w.key l;rw[hn]at ad ae;have au:∀(j:Nat)(h:j<l.length),j=n->Op.bytesLess l[j].key w.key=false:=(by grind);have av:P.1.map bW.row=(l.take n).map bW.row++((Gc w.key).row::(l.drop n).map bW.row):=by rw[<-hP,C2,Ag]
  have aw:P.1.length=l.length+1:=by rw[<-hP];simp;omega
  have ax:P.2=n:=by rw[<-hP]
  have ab:=xB7 l;have ai:([.box w.row,.box K.row,.dead]:St).all (bS 3)=true:=by simp[bS,cV,cR,di.row,fL.row]
  clear hP aA;refine CW 2 12 (l.map bW.row) rfl (Nw _) ?_;refine zA ?_;simp[go_sem,q',fO,fX,fN,fH,jG,mP];refine zG (S:=Nat) [4,5,7,8] (λi=>[.ptr 0 0,.ptr 1 0,.sl .ro (l.map bW.row),.int .i64 (i:Int)]) (λ_=>[.box w.row,.box K.row,.dead]) (λi=>n-i) (λi=>i<=n) hc hb 0 (A5 _) ?_ ?_;.exact bU 3 (by simp[go_sem]) rfl ai dC (zD (by simp[go_sem,aj]) rfl)
  rintro i hi;by_cases qi:i<n;.have al:i<l.length:=om;have ei:=zO al om;have af:=ae i al qi;obtain⟨y,hy⟩:=eX (l[i]);rw[hy]at af;refine zA ?_;simp[go_sem];refine yA [] 3 rfl kR kR ?_;simp[go_sem,al,hy,af,ei];exact zH (i+1) ⟨om,qi,aN 3 ai⟩
  have aB:i=n:=om;subst aB;have ay:∀(rows:List (List V))(m:Nat),rows=P.1.map bW.row->m=P.1.length->True:=λ_ _ _ _=>trivial;clear ay;refine tg 46 dC ?_;have aE:yC (cO [0,1,3] 4) (.cv (P.1.map bW.row) 12)=.cv (P.1.map bW.row) 12:=yV (n:=0) om (Gf 0 P.1);by_cases ql:i<l.length;.have af:=au i ql rfl;obtain⟨y,hy⟩:=eX (l[i]);rw[hy]at af;refine zA ?_;simp[go_sem];refine yA [] 3 rfl kR kR ?_;simp[go_sem,ql,hy,af];refine xV [(4,3),(9,3),(13,3)] 2 sM kR kR ?_;simp[go_sem];refine zJ ⟨ad,ab⟩ ?_;simp[go_sem];have aa:min i l.length=i:=C1 ad;refine zJ ⟨om,(λr hr=>by cases hr),XM ab⟩ ?_;simp[go_sem,aa,C0];refine zJ ⟨zZ rfl,om⟩ ?_;simp[go_sem];have ah:(l.map bW.row).take l.length=l.map bW.row:=Ad sM;have an:¬(i+1+(l.length-i)<=i+1):=om;refine zJ ⟨ad,ab⟩ ?_;simp[go_sem,ah,an,aa];refine zJ ⟨XN ab,om⟩ ?_;simp[go_sem];exact zH () ⟨tV,yu [0,1,3] dC rfl ⟨(by rfl),(by rfl),by show some (Ob.cv _ 12)=some (yC _ (.cv (P.1.map bW.row) 12));rw[yV (n:=0) om (Gf 0 P.1),av,List.map_take,E2];rfl,tV⟩ ⟨.inl (by simp[go_sem,dL,dQ,du,dv,cO]),.inl (by simp[go_sem,dL,dQ,du,dv,cO,aw];omega),.inl (by simp[go_sem,dL,dQ,du,dv,ax]),tV⟩⟩
  .refine zA ?_;simp[go_sem];refine yA [] 3 rfl kR kR ?_;simp[go_sem,ql];refine xV [(4,3),(9,3),(13,3)] 2 sM kR kR ?_;simp[go_sem];refine zJ ⟨ad,ab⟩ ?_;simp[go_sem];have aa:min i l.length=i:=C1 ad;refine zJ ⟨om,(λr hr=>by cases hr),XM ab⟩ ?_;simp[go_sem,aa,C0];refine zJ ⟨zZ rfl,om⟩ ?_;simp[go_sem];have ah:(l.map bW.row).take l.length=l.map bW.row:=Ad sM;have an:l.length-i=0:=om;have aC:(l.map bW.row).drop i=[]:=A8 (by simp;omega);refine zJ ⟨ad,ab⟩ ?_;simp[go_sem,ah,an,aa];refine zJ (XN ab) ?_;simp[go_sem];exact zH () ⟨tV,yu [0,1,3] dC rfl ⟨(by rfl),(by rfl),by show some (Ob.cv _ 12)=some (yC _ (.cv (P.1.map bW.row) 12));rw[yV (n:=0) om (Gf 0 P.1),av,List.map_take,E2,aC,Ad (i:=i+1) (by simp;omega),A8 (i:=i+1) (by simp;omega),Aw,Aw];rfl,tV⟩ ⟨.inl (by simp[go_sem,dL,dQ,du,dv,cO]),.inl (by simp[go_sem,dL,dQ,du,dv,cO,aw];omega),.inl (by simp[go_sem,dL,dQ,du,dv,ax]),tV⟩⟩
 rintro _ _;have az:∀(a b:List V),((P.1.map bW.row).set P.2 a).set P.2 b=(P.1.map bW.row).set P.2 b:=λa b=>List.set_set ..;obtain⟨y,hy⟩:=eX (P.1[P.2]);have a1:P.1.set P.2 ⟨y.key,y.cF,true,K⟩=M:=by rw[<-hM];unfold HX;grind
 refine zA ?_;simp[go_sem];refine xV [(7,3),(10,3)] 2 sM kR kR ?_;simp[go_sem,aq,hy,az];have aD:M.length=P.1.length:=by rw[<-a1,Dn]
 have e:fO 2 (M.map bW.row) (.cS 2 12 P.1.length 0 P.1.length)=.sl .ro (M.map bW.row):=by rw[<-aD];simp[fO,fX,fN,fH,RH]
 refine Lh 2 12 (M.map bW.row) (by rw[<-a1,Cq];rfl) (Nw M) ?_;rw[e];exact wR
end Go.Proofs.YtegbonbgofjlcaaGreat
namespace Go.Vx
open Go
def RI(k:Kp)(I:St):V->Bool |.ptr id _=>k.ex.contains id&&(decide (id<I.length)&&k.ob.isNone)|_=>false
attribute [go_sem] RI
@[go_sem]theorem Ef{P:Program}{c:Ctx}{nt:Nat}{n0:Kp}{d:Option Tmp}{K:KT}{e:Env}{I:St}{t:TypeId}{x y:Operand}(h:RI n0 I (zI e x)):ff P c nt n0 3 d (.store t x y) K fx fx e I=fe P c nt d (.store t x y) K fx fx e I:=II sM (λ_ _=>rfl) (by
  simp only[cx];unfold vI;split;.rename_i id off hx;rw[hx]at h;simp only[RI,Aa,alw,Option.isNone_iff_eq_none]at h;obtain⟨h1,h2,h3⟩:=h;have hk:∀o',n0.of (I.set id o')=n0.of I:=λo'=>Kp.uo h1 (A0 h2) (λp hp=>by rw[h3]at hp;cases hp);(repeat' split)<;>first|trivial|exact⟨sM,λ_=>.inr (hk _)⟩
  .rename_i id s n k j hx;rw[hx]at h;cases h
  trivial) sM
end Go.Vx
namespace Go.Proofs.YtegbonbgofjlcaaGreat
open Go Go.Vx R Go.Proofs.Tryz
set_option maxRecDepth 100000
@[go_sem]def dj.eG(p:dj)(x v w:V):List V:=[.int .i64 p.cE,.int .i64 p.na,.int .i64 p.floor.wall,.int .i64 p.floor.tie,.int .i64 p.closed,.int .i64 p.low,x,v,w]
theorem Zl(l:List db):eU 7 (l.map db.row):=lK λ_=>rfl
theorem Zm{ρ:Nat->Nat}(p:dj){a b c:Tag}:cW ρ (.agg p.row) (.agg (p.eG (.sl a (p.cells.map bW.row)) (.sl b (p.records.map db.row)) (.sl c (p.done.map db.row)))):=by unfold dj.row dj.eG;exact xM ⟨zF rfl,zF rfl,zF rfl,zF rfl,zF rfl,zF rfl,zY,zY,zY,tV⟩
theorem xH4{ρ:Nat->Nat}(p:dj){a b c:Tag}:jb ρ (.agg p.row) (.agg (p.eG (.sl a (p.cells.map bW.row)) (.sl b (p.records.map db.row)) (.sl c (p.done.map db.row)))):=by unfold dj.row dj.eG;exact wH ⟨zF rfl,zF rfl,zF rfl,zF rfl,zF rfl,zF rfl,zY,zY,zY,tV⟩
structure jU(p:dj):Prop where cells:p.cells.length<=700000lJ:∀x∈p.cells,x.cF.length<=1000000kz:p.records.length<=1000000done:p.done.length<=1000000
theorem wi0(p:dj)(h:jU p):bN prog 85 [.agg p.row] [] (λr s=>r=.agg (p.eG (.sl .ro (p.cells.map bW.row)) (.sl (.app 0) (p.records.map db.row)) (.sl (.app 1) (p.done.map db.row)))/\s=[.app p.records.length 7,.app p.done.length 7]):=by have aa:=Zi p.cells (by have:=h.cells;omega) h.lJ;have hr:=h.kz;have hd:=h.done;refine iV 0 func85 ntmps85 results85 λc hc hb=>?_;refine zA ?_;simp[go_sem];refine pC aa ?_;simp[go_sem];refine xV [(3,3),(7,3)] 2 sM kR kR ?_;simp[go_sem];refine zJ ⟨om,(λr hr=>by cases hr),Zl _⟩ ?_;simp[go_sem];refine zJ ⟨om,(λr hr=>by cases hr),Zl _⟩ ?_;simp[go_sem];exact Nk (s:=[.app p.records.length 7,.app p.done.length 7]) (r:=.agg (p.eG (.sl .ro (p.cells.map bW.row)) (.sl (.app 0) (p.records.map db.row)) (.sl (.app 1) (p.done.map db.row)))) [2,3] dC rfl ⟨rfl,rfl,tV⟩ (.inl (by simp[dj.eG,dL,dQ,du,dv,cO])) ⟨rfl,rfl⟩
theorem wy7(a b:cT):Pure prog 87 [.agg a.row,.agg b.row] (.agg (HY a b).row):=by have h:=Kq a b;unfold HY;cases hq:ji a b with |true=>rw[hq]at h;rw[alq rfl];refine iV 0 func87 ntmps87 results87 λc hc hb=>?_;refine zA ?_;simp[go_sem];refine pC h ?_;simp[go_sem];exact wR|false=>rw[hq]at h;rw[alp dC];refine iV 0 func87 ntmps87 results87 λc hc hb=>?_;refine zA ?_;simp[go_sem];refine pC h ?_;simp[go_sem];exact wR
theorem xL4{m:Nat}{l:List bW}(hl:l.length<=m)(hv:∀x∈l,x.cF.length<=1000000)(key:alW):(pA l key).1.length<=m+1/\∀x∈(pA l key).1,x.cF.length<=1000000:=by
 unfold pA;split
 .have h2:=alv List.length (B0 (sR l key) l);rw[Al]at h2;refine⟨by simp only[Al,Ah];omega,λx hx=>?_⟩;rcases Ai.1 hx with hx|hx;.exact hv x (B6 hx)
  rcases Af.1 hx with rfl|hx;.exact A5 _
  .exact hv x (Bz hx)
 .exact⟨Nat.le_succ_of_le hl,hv⟩
theorem wl2{m:Nat}{l:List bW}(hl:l.length<=m)(hv:∀x∈l,x.cF.length<=1000000)(w:di)(k:fL):(tL l w k).length<=m+1/\∀x∈tL l w k,x.cF.length<=1000000:=by
 obtain⟨h1,h2⟩:=xL4 hl hv w.key;unfold tL HX;refine⟨by rw[Dn];exact h1,λx hx=>?_⟩;rcases Dw hx with hx|rfl;.exact h2 x hx
 .show((pA l w.key).1.getD (pA l w.key).2 (Gc [])).cF.length<=1000000;rw[Aj];cases hq:(pA l w.key).1[(pA l w.key).2]?with |none=>exact A5 _|some y=>exact h2 y (Bp hq)
def zP:List V:=[.int .i64 0,.int .i64 0,.int .i64 0,.int .i64 0,.int .i64 0,.int .i64 0,.sl .full [],.sl .full [],.sl .full []]
def rp(x:dj×cU):V:=.cC [.agg x.1.row,.agg x.2.row]
theorem wA3(p:dj)(h:jU p)(cm:fI)(hw:cm.writes.length<=20000):Pure prog 88 [.agg p.row,.agg cm.row] (rp (Kt p cm)):=by
 obtain⟨M,hM⟩:=eX (Kt p cm);rw[hM];unfold Kt at hM;have ae:=RB p.done cm.dh (by have:=h.done;unfold maxLen;omega);obtain⟨fo,aw⟩:=eX ((p.done.find? λo=>nD o.dh cm.dh));rw[aw]at ae hM;have aa:=wy8 p.cells cm.dh (by have:=h.cells;omega);obtain⟨mi,ax⟩:=eX (Kr p.cells cm.dh);rw[ax]at aa hM;have ad:=Kq cm.at_ p.floor;obtain⟨le,hle⟩:=eX (ji cm.at_ p.floor);rw[hle]at ad hM;have ret:∀(q:dj)(r:cU)(I:St)(v:V),(q,r)=M->jb (cO [] I.length) (.agg q.row) v->r.dK=[]->cz (some (.cC [v,.agg [.int .i64 r.err,.sl .full [],.int .i64 r.dh.node,.int .i64 r.dh.dY,.int .i64 r.dh.seq,.int .i64 r.dh.attempt,.int .i64 r.home,.int .i64 r.at_.wall,.int .i64 r.at_.tie,.int .i64 r.wall,.bool r.yes]])) 0 (λr s=>r=rp M/\s=[]) I:=λq r I v h hv hp=>by subst h;exact zQ (r:=rp (q,r)) (yO ⟨hv,sP r hp,tV⟩) ⟨rfl,rfl⟩
 have ab:∀ρ:Nat->Nat,jb ρ (.agg p.row) (.agg p.row):=λρ=>xD rfl;refine iV 0 func88 ntmps88 results88 λc hc hb=>?_;refine zN (zA ?_);simp[go_sem];refine zN (zA ?_);simp[go_sem];refine pC ae ?_;simp[go_sem];cases fo with |some o=>refine zA ?_;simp[go_sem];refine uC [(4,3),(5,3)] ⟨0,5,[2,3],none⟩ sM (by rfl) kR ?_;simp[go_sem];exact ret p {ee with err:=26,yes:=o.yes} _ _ hM (ab _) rfl|none=>simp only at hM;cases mi with |true=>rw[alq rfl]at hM;refine zA ?_;simp[go_sem];refine pC aa ?_;simp[go_sem];exact ret p ee _ _ hM (ab _) rfl|false=>
 rw[alp dC]at hM;by_cases qc:cm.at_.wall<=p.closed;.have ai:decide (cm.at_.wall<=p.closed)=true:=als qc;rw[alq qc]at hM;refine zA ?_;simp[go_sem];refine pC aa ?_;simp[go_sem,ai];refine uC [(4,3),(5,3)] ⟨0,5,[2,3],none⟩ sM (by rfl) kR ?_;simp[go_sem];exact ret p {ee with err:=21,wall:=p.closed} _ _ hM (ab _) rfl
 have ai:decide (cm.at_.wall<=p.closed)=false:=alr qc;rw[alp qc]at hM;cases le with |true=>rw[alq rfl]at hM;refine zA ?_;simp[go_sem];refine pC aa ?_;simp[go_sem,ai];refine pC ad ?_;simp[go_sem];refine uC [(4,3),(5,3)] ⟨0,5,[2,3],none⟩ sM (by rfl) kR ?_;simp[go_sem];exact ret p {ee with err:=22,at_:=p.floor} _ _ hM (ab _) rfl|false=>
 rw[alp dC]at hM;have aj:=h.cells;have af:=λkey=>wx5 p.cells key om;obtain⟨W,hW⟩:=eX cm.writes;rw[hW]at hM hw;have ak:∀q:dj,([.box q.row,.box cm.row,.box zP,.box jT]:St).all (bS 4)=true:=λq=>by simp[bS,cV,cR,dj.row,fI.row,zP,jT]
 refine zA ?_;simp[go_sem];refine pC aa ?_;simp[go_sem,ai];refine pC ad ?_;simp[go_sem];refine zG (S:=Nat) [2,3,4,5,8] (λi=>[.ptr 0 0,.ptr 1 0,.ptr 2 0,.ptr 3 0,.int .i64 (i:Int)]) (λ_=>[.box p.row,.box cm.row,.box zP,.box jT]) (λi=>W.length-i) (λi=>i<=W.length/\∀w∈W.take i,AK p.cells w.key=none) hc hb 0 ⟨A5 _,sM⟩ ?_ ?_;.exact bU 4 (by simp[go_sem,zP,jT]) rfl (ak p) dC (zD sg rfl)
 rintro i⟨hi,ah⟩;by_cases q:i<W.length;.have ei:=zO q om;obtain⟨y,hy⟩:=eX (W[i]);have al:=af y.key;obtain⟨ho,an⟩:=eX (AK p.cells y.key);rw[an]at al;cases ho with |some k=>have ay:=Y6 k;rw[Y9 q ah (by rw[hy];exact an)]at hM;change(p,AJ k)=M at hM;refine zA ?_;simp[go_sem,hW,q];refine yA [(8,0)] 4 rfl kR kR ?_;simp[go_sem,q,hy];refine pD al ?_;simp[go_sem,zP,jT];refine uC [(2,0),(3,3),(4,3)] ⟨0,5,[2,3],none⟩ sM (by rfl) kR ?_;simp[go_sem];refine pD ay ?_;simp[go_sem];subst hM;exact zQ (r:=rp (p,AJ k)) (zC rfl) ⟨rfl,rfl⟩|none=>refine zA ?_;simp[go_sem,hW,q];refine yA [(8,0)] 4 rfl kR kR ?_;simp[go_sem,q,hy];refine pD al ?_;simp[go_sem,ei];exact zH (i+1) ⟨om,⟨q,λw hw=>by
    rw[Ac q,hy]at hw;rcases Ai.1 hw with hw|hw;.exact ah w hw
    .rw[Bl.1 hw];exact an⟩,bU 4 (by simp[go_sem,hW,zP,jT]) rfl (ak p) dC (zD sg rfl)⟩
 rw[Ad om]at ah;rw[RC ah]at hM;change({p with cells:=W.foldl (λl w=>tL l w ⟨cm.dh,cm.home,cm.at_,false,[]⟩) p.cells},ee)=M at hM;obtain⟨K,hK⟩:∃K:fL,(⟨cm.dh,cm.home,cm.at_,false,[]⟩:fL)=K:=⟨_,rfl⟩;rw[hK]at hM;have az:K.row=[.int .i64 cm.dh.node,.int .i64 cm.dh.dY,.int .i64 cm.dh.seq,.int .i64 cm.dh.attempt,.int .i64 cm.home,.int .i64 cm.at_.wall,.int .i64 cm.at_.tie,.bool false,.str []]:=by rw[<-hK];rfl
 clear ah af hK;refine zA ?_;simp[go_sem,hW,q];refine zG (S:=Nat×List bW) [2,3,4,5,11] (λu=>[.ptr 0 0,.ptr 1 0,.ptr 2 0,.ptr 3 0,.int .i64 (u.1:Int)]) (λu=>[.box ({p with cells:=u.2}:dj).row,.box cm.row,.box zP,.box jT]) (λu=>W.length-u.1) (λu=>u.1<=W.length/\u.2.length<=700000+u.1/\(∀x∈u.2,x.cF.length<=1000000)/\({p with cells:=(W.drop u.1).foldl (λl w=>tL l w K) u.2},ee)=M) hc hb (0,p.cells) ⟨A5 _,aj,h.lJ,hM⟩ ?_ ?_;.exact bU 4 (by simp[go_sem,hW,zP,jT]) rfl (ak p) dC (zD sg rfl)
 rintro⟨j,cs⟩⟨hj,ar,ao,hinv⟩;simp only at hj ar ao hinv;by_cases q2:j<W.length;rotate_left;.rw[A8 om,List.foldl_nil]at hinv;refine zA ?_;simp[go_sem,hW,q2];exact ret {p with cells:=cs} ee _ _ hinv (xD rfl) rfl
 have ej:=zO q2 om;obtain⟨y,hy⟩:=eX (W[j]);rw[A4 q2,hy,B7]at hinv;have aq:=wl1 cs y K om ao;obtain⟨h1,h2⟩:=wl2 ar ao y K;obtain⟨au,av⟩:∃c,tL cs y K=c:=⟨_,rfl⟩;rw[av]at aq hinv h1 h2;rw[az]at aq;refine zA ?_;simp[go_sem,hW,q2];refine yA [(14,0)] 4 rfl kR kR ?_;simp[go_sem,q2,hy];refine pD aq ?_;simp[go_sem,ej];exact zH (j+1,au) ⟨by show W.length-(j+1)<W.length-j;omega,⟨q2,by show au.length<=700000+(j+1);omega,h2,hinv⟩,bU 4 (by simp[go_sem,hW,zP,jT]) rfl (ak _) dC (zD sg rfl)⟩
end Go.Proofs.YtegbonbgofjlcaaGreat
namespace Go.Vx
open Go
theorem Zn{P:Program}{c:Ctx}{I:St}{f:FuncId}{cd args ct:List V}{KV:V->St->Prop}{R:V->St->Prop}(hc:bN P f ct [] R)(hb:xI P f) (aa:bP (cW (cO [] I.length)) ct (args++cd))(hK:∀r s,R r s->KV (dL (cO [] I.length) r) (I++s.map (yC (cO [] I.length)))):jn P c (.fn f cd) args I KV fx:=by
 refine VC.of hc hb [] Bo rfl (λi j o h=>by simp at h) aa λr s h _=>?_;have e:yY [] I s=I++s.map (yC (cO [] I.length)):=by simp[yY,fW]
 rw[e];exact hK r s h
end Go.Vx
namespace Go.Proofs.YtegbonbgofjlcaaGreat
open Go Go.Vx R Go.Proofs.Tryz
set_option maxRecDepth 100000
theorem xk5{ρ:Nat->Nat}(p:dj){a b c:Tag}{ra rb rc:List (List V)}(ha:p.cells.map bW.row=ra)(hb:p.records.map db.row=rb)(hc:p.done.map db.row=rc):jb ρ (.agg p.row) (.agg (p.eG (.sl a ra) (.sl b rb) (.sl c rc))):=by subst ha hb hc;exact xH4 p
theorem yZ2{ρ:Nat->Nat}(l:List dM){g:Tag}:jb ρ (.agg ({ee with dK:=l}:cU).row) (.agg [.int .i64 0,.sl g (l.map dM.row),.int .i64 0,.int .i64 0,.int .i64 0,.int .i64 0,.int .i64 0,.int .i64 0,.int .i64 0,.int .i64 0,.bool false]):=wH ⟨zF rfl,zY,zF rfl,zF rfl,zF rfl,zF rfl,zF rfl,zF rfl,zF rfl,zF rfl,zF rfl,tV⟩
theorem Zo(p:dj)(h:jU p)(a8:0<=p.cE/\p.cE<=1099511627776)(cm:fI)(hk:1<=cm.kind/\cm.kind<=5)(hw:cm.writes.length<=20000)(ay:cm.cj.length<=maxLen):Pure prog 35 [.agg p.row,.agg cm.row] (rp (wA p cm)):=by
 have ax:=h.cells;have az:=h.kz;have a1:=h.done;have a6:=wi0 p h;have aj:=wA3 p h cm hw;have ae:=xl1 p cm.at_ cm.cj om (λx hx=>by have:=h.lJ x hx;unfold maxLen;omega) ay;have av:=wy7 p.floor cm.at_;have ao:=RB p.records cm.dh (by unfold maxLen;omega);have aq:=RB p.done cm.dh (by unfold maxLen;omega);have ak:=xJ0 p.cells cm.dh cm.yes om h.lJ;have e1:IntKind.i64.wrap (p.cE+1)=p.cE+1:=bX om om;obtain⟨M,hM⟩:=eX (wA p cm);rw[hM];unfold wA at hM;have ret:∀(q:dj)(r:cU)(a b c:Tag)(ra rb rc:List (List V))(w:V)(I:St),(q,r)=M->q.cells.map bW.row=ra->q.records.map db.row=rb->q.done.map db.row=rc->jb (cO [] I.length) (.agg r.row) w->cz (some (.cC [.agg (q.eG (.sl a ra) (.sl b rb) (.sl c rc)),w])) 0 (λr s=>r=rp M/\s=[]) I:=λq r a b c ra rb rc w I h h1 h2 h3 h4=>by subst h;exact zQ (r:=rp (q,r)) (yO ⟨xk5 q h1 h2 h3,h4,tV⟩) ⟨rfl,rfl⟩
 have ah:∀ρ:Nat->Nat,cW ρ (.agg p.row) (.agg (p.eG (.sl .ro (p.cells.map bW.row)) (.sl (.app 4) (p.records.map db.row)) (.sl (.app 5) (p.done.map db.row)))):=λρ=>Zm p;refine iV 0 func35 ntmps35 results35 λc hc hb=>?_;refine zN (zA ?_);simp[go_sem];refine zN (zA ?_);simp[go_sem];refine Zn a6 cB ⟨zC rfl,tV⟩ ?_;rintro r s⟨rfl,rfl⟩;simp[go_sem,dL,dQ,du,dv,cO,yC];by_cases k1:cm.kind=1
 .have ab:(cm.kind==1)=true:=sU k1;rw[alq k1]at hM;by_cases q1:cm.cE=p.cE+1
  .have aa:(cm.cE !=p.cE+1)=false:=sU q1;by_cases q2:1099511627776<cm.cE;.have ad:decide (1099511627776<cm.cE)=true:=als q2;rw[alq (.inr q2)]at hM;refine zA ?_;simp[go_sem,ab,e1,aa,ad];exact ret p {ee with err:=25} _ _ _ _ _ _ _ _ hM rfl rfl rfl (sP {ee with err:=25} rfl)
   .have ad:decide (1099511627776<cm.cE)=false:=alr q2;rw[alp (λh=>h.elim (λh=>h q1) q2)]at hM;refine zA ?_;simp[go_sem,ab,e1,aa,ad];refine xV [(5,3),(7,3)] 6 sM kR kR ?_;simp[go_sem];exact ret {p with cE:=cm.cE,na:=cm.node} ee _ _ _ _ _ _ _ _ hM rfl rfl rfl (sP ee rfl)
  .have aa:(cm.cE !=p.cE+1)=true:=sU q1;rw[alq (.inl q1)]at hM;refine zA ?_;simp[go_sem,ab,e1,aa];exact ret p {ee with err:=25} _ _ _ _ _ _ _ _ hM rfl rfl rfl (sP {ee with err:=25} rfl)
 have ab:(cm.kind==1)=false:=sU k1;rw[alp k1]at hM;by_cases q1:p.cE=0;.have aa:(p.cE==0)=true:=sU q1;rw[alq (.inl q1)]at hM;refine zA ?_;simp[go_sem,ab,aa];exact ret p {ee with err:=25} _ _ _ _ _ _ _ _ hM rfl rfl rfl (sP {ee with err:=25} rfl)
 have aa:(p.cE==0)=false:=sU q1;by_cases q2:cm.cE=p.cE;rotate_left;.have ad:(cm.cE !=p.cE)=true:=sU q2;rw[alq (.inr q2)]at hM;refine zA ?_;simp[go_sem,ab,aa,ad];exact ret p {ee with err:=25} _ _ _ _ _ _ _ _ hM rfl rfl rfl (sP {ee with err:=25} rfl)
 have ad:(cm.cE !=p.cE)=false:=sU q2;rw[alp (λh=>h.elim q1 (λh=>h q2))]at hM;by_cases k2:cm.kind=2
 .have af:(cm.kind==2)=true:=sU k2;rw[alq k2]at hM;unfold RD at hM;by_cases q3:cm.at_.wall<p.low;.have an:decide (cm.at_.wall<p.low)=true:=als q3;rw[alq q3]at hM;refine zA ?_;simp[go_sem,ab,aa,ad,af,an];refine uC [(4,3),(5,3)] ⟨0,7,[2,3],none⟩ sM (by rfl) kR ?_;simp[go_sem];exact ret p {ee with err:=24,wall:=p.low} _ _ _ _ _ _ _ _ hM rfl rfl rfl (sP {ee with err:=24,wall:=p.low} rfl)
  have an:decide (cm.at_.wall<p.low)=false:=alr q3;rw[alp q3]at hM;obtain⟨⟨pl,pr⟩,hR⟩:∃R,vD p.cells cm.at_ cm.cj=R:=⟨_,rfl⟩;rw[hR]at hM ae;simp only at hM;by_cases q4:pr.err=0;.have ar:(pr.err !=0)=false:=sU q4;rw[alp (λh=>h q4)]at hM;refine zA ?_;simp[go_sem,ab,aa,ad,af,an];refine zL ae cB ⟨ah _,zC rfl,zK,tV⟩ rfl ?_;simp[go_sem,vE,ar];refine pC av ?_;simp[go_sem];exact ret {p with floor:=HY p.floor cm.at_} {ee with dK:=pl} _ _ _ _ _ _ _ _ hM rfl rfl rfl (yZ2 pl)
  .have ar:(pr.err !=0)=true:=sU q4;rw[alq q4]at hM;refine zA ?_;simp[go_sem,ab,aa,ad,af,an];refine zL ae cB ⟨ah _,zC rfl,zK,tV⟩ rfl ?_;simp[go_sem,vE,ar];refine uC [(2,3),(3,3)] ⟨0,8,[2,3],none⟩ sM (by rfl) kR ?_;simp[go_sem];exact ret p pr _ _ _ _ _ _ _ _ hM rfl rfl rfl (xD rfl)
 have af:(cm.kind==2)=false:=sU k2;rw[alp k2]at hM;by_cases k3:cm.kind=3;.have ai:(cm.kind==3)=true:=sU k3;rw[alq k3]at hM;rw[hM]at aj;refine zA ?_;simp[go_sem,ab,aa,ad,af,ai];refine zL aj cB ⟨ah _,zC rfl,tV⟩ rfl ?_;simp[go_sem,rp];exact zQ (r:=rp M) (zC rfl) ⟨rfl,rfl⟩
 have ai:(cm.kind==3)=false:=sU k3;rw[alp k3]at hM;by_cases k4:cm.kind=4;.have al:(cm.kind==4)=true:=sU k4;rw[alq k4]at hM;unfold Ge at hM;obtain⟨fo,au⟩:=eX ((p.records.find? λo=>nD o.dh cm.dh));rw[au]at ao hM;cases fo with |some o=>simp only at hM;refine zA ?_;simp[go_sem,ab,aa,ad,af,ai,al];refine pC ao ?_;simp[go_sem];refine uC [(6,3),(7,3)] ⟨0,8,[2,3],none⟩ sM (by rfl) kR ?_;simp[go_sem];exact ret p {ee with at_:=o.at_,yes:=o.yes} _ _ _ _ _ _ _ _ hM rfl rfl rfl (sP {ee with at_:=o.at_,yes:=o.yes} rfl)|none=>simp only at hM;refine zA ?_;simp[go_sem,ab,aa,ad,af,ai,al];refine pC ao ?_;simp[go_sem];refine zJ ⟨om,zZ rfl⟩ ?_;simp[go_sem];refine uC [(6,3),(7,3)] ⟨0,8,[2,3],none⟩ sM (by rfl) kR ?_;simp[go_sem];exact ret {p with records:=p.records++[⟨cm.dh,cm.at_,cm.yes⟩]} {ee with at_:=cm.at_,yes:=cm.yes} _ _ _ _ _ _ _ _ hM rfl sg rfl (sP {ee with at_:=cm.at_,yes:=cm.yes} rfl)
 have al:(cm.kind==4)=false:=sU k4;have aw:(cm.kind==5)=true:=by simp;omega
 rw[alp k4]at hM;unfold Za at hM;obtain⟨cs,a7⟩:=eX (Gd p.cells cm.dh cm.yes);rw[a7]at hM ak;obtain⟨fo,au⟩:=eX ((p.done.find? λo=>nD o.dh cm.dh));rw[au]at aq hM;cases fo with |some o=>simp only[Option.isSome_some,alB]at hM;refine zA ?_;simp[go_sem,ab,aa,ad,af,ai,al,aw];refine pC ak ?_;simp[go_sem];refine pC aq ?_;simp[go_sem];exact ret {p with cells:=cs} ee _ _ _ _ _ _ _ _ hM rfl rfl rfl (sP ee rfl)|none=>simp only[Option.isSome_none,Ci,alH]at hM;refine zA ?_;simp[go_sem,ab,aa,ad,af,ai,al,aw];refine pC ak ?_;simp[go_sem];refine pC aq ?_;simp[go_sem];refine zJ ⟨om,zZ rfl⟩ ?_;simp[go_sem];exact ret {p with cells:=cs,done:=p.done++[⟨cm.dh,cm.at_,cm.yes⟩]} ee _ _ _ _ _ _ _ _ hM rfl rfl sg (sP ee rfl)
end Go.Proofs.YtegbonbgofjlcaaGreat
namespace Go.Proofs.YtegbonbgofjlcaaGreat
open Go Go.Vx R Go.Proofs.Tryz
set_option maxRecDepth 100000
structure P4 where
 a:dj
 b:dj
 c:dj
 d:dj
def P4.row(P:P4):List V:=P.a.row++(P.b.row++(P.c.row++P.d.row))
def P4.get(P:P4)(i:Int):dj:=if i=0then P.a else if i=1then P.b else if i=2then P.c else P.d
def P4.put(P:P4)(i:Int)(p:dj):P4:=if i=0then{P with a:=p}else if i=1then{P with b:=p}else if i=2then{P with c:=p}else{P with d:=p}
def pB (c:fI):fI:={c with cE:=1}
def Eg(P:P4)(a:dq):P4×cU:=if a.range<0\/4<=a.range then(P,{ee with err:=27})else(P.put a.range (wA (P.get a.range) (pB a.cmd)).1,(wA (P.get a.range) (pB a.cmd)).2)
structure Zp(P:P4):Prop where
 a:jU P.a
 b:jU P.b
 c:jU P.c
 d:jU P.d
 ea:0<=P.a.cE/\P.a.cE<=1099511627776
 eb:0<=P.b.cE/\P.b.cE<=1099511627776
 ec:0<=P.c.cE/\P.c.cE<=1099511627776
 ed:0<=P.d.cE/\P.d.cE<=1099511627776
theorem H0(n:Nat)(P:P4):bS n (.box P.row)=true:=by simp[bS,cV,cR,P4.row,dj.row]
theorem wo2(P:P4)(h:Zp P)(a:dq)(hk:1<=a.cmd.kind/\a.cmd.kind<=5)(hw:a.cmd.writes.length<=20000)(ae:a.cmd.cj.length<=maxLen):bN prog 18 [.ptr 0 0,.agg a.row] [.box P.row] (λr s=>r=.agg (Eg P a).2.row/\s=[.box (Eg P a).1.row]):=by
 obtain⟨M,hM⟩:=eX (Eg P a);rw[hM];unfold Eg at hM;have aa:=λ(p:dj)(hp:jU p)(he:0<=p.cE/\p.cE<=1099511627776)=>Zo p hp he (pB a.cmd) hk hw ae;obtain⟨pa,pb,pc,pd⟩:=P;have ret:∀(Q:P4)(r:cU)(w:V)(I:St),(Q,r)=M->cW (cO (List.range 1) (Ob.box Q.row::I).length) (.agg r.row) w->cz (some w) 1 (λr s=>r=.agg M.2.row/\s=[.box M.1.row]) (.box Q.row::I):=λQ r w I h hw=>by subst h;exact yW (r:=.agg r.row) (s:=[.box Q.row]) 1 rfl rfl (by rw[Az,H0];rfl) (A7 _) hw ⟨rfl,rfl⟩
 refine iV 1 func18 ntmps18 results18 λc hc hb=>?_;by_cases q1:a.range<0;.have ab:decide (a.range<0)=true:=als q1;rw[alq (.inl q1)]at hM;refine zA ?_;simp[go_sem,P4.row,ab];exact ret ⟨pa,pb,pc,pd⟩ {ee with err:=27} _ _ hM (xM ⟨zF rfl,zY,zF rfl,zF rfl,zF rfl,zF rfl,zF rfl,zF rfl,zF rfl,zF rfl,zF rfl,tV⟩)
 have ab:decide (a.range<0)=false:=alr q1;by_cases q2:4<=a.range;.have ad:decide (4<=a.range)=true:=als q2;rw[alq (.inr q2)]at hM;refine zA ?_;simp[go_sem,P4.row,ab,ad];exact ret ⟨pa,pb,pc,pd⟩ {ee with err:=27} _ _ hM (xM ⟨zF rfl,zY,zF rfl,zF rfl,zF rfl,zF rfl,zF rfl,zF rfl,zF rfl,zF rfl,zF rfl,tV⟩)
 have ad:decide (4<=a.range)=false:=alr q2;rw[alp (λh=>h.elim q1 q2)]at hM;obtain⟨ar,ac⟩:=a;simp only at q1 q2 ab ad hM aa;have hr:ar=0\/ar=1\/ar=2\/ar=3:=om;rcases hr with rfl|rfl|rfl|rfl;.have hp:=aa pa h.a h.ea;change(P4.mk (wA pa (pB ac)).1 pb pc pd,(wA pa (pB ac)).2)=M at hM;obtain⟨⟨Q,R⟩,hQ⟩:∃Q,wA pa (pB ac)=Q:=⟨_,rfl⟩;rw[hQ]at hp hM;refine zA ?_;simp[go_sem,P4.row];refine Hf [(9,0),(15,3),(16,3)] 3 13 sM kR (by rw[hc];exact Nat.le_add_left _ _) hb kR rfl (by repeat'(first|exact jr.iI|refine jr.ft ?_ (by simp[hZ,iu,cV,cR]))) (by simp only[Bx,D2];exact rfl) (by simp only[C7,B1];exact rfl) ?_;simp[go_sem];refine pD hp ?_;simp[go_sem,rp];refine⟨by repeat'(first|exact jr.iI|refine jr.ft ?_ (by simp[hZ,iu,cV,cR])),?_⟩;refine yA [] 5 rfl kR kR ?_;simp[go_sem];exact ret ⟨Q,pb,pc,pd⟩ R _ _ hM (zC rfl)
 .have hp:=aa pb h.b h.eb;change(P4.mk pa (wA pb (pB ac)).1 pc pd,(wA pb (pB ac)).2)=M at hM;obtain⟨⟨Q,R⟩,hQ⟩:∃Q,wA pb (pB ac)=Q:=⟨_,rfl⟩;rw[hQ]at hp hM;refine zA ?_;simp[go_sem,P4.row];refine Hf [(9,0),(15,3),(16,3)] 3 13 sM kR (by rw[hc];exact Nat.le_add_left _ _) hb kR rfl (by repeat'(first|exact jr.iI|refine jr.ft ?_ (by simp[hZ,iu,cV,cR]))) (by simp only[Bx,D2];exact rfl) (by simp only[C7,B1];exact rfl) ?_;simp[go_sem];refine pD hp ?_;simp[go_sem,rp];refine⟨by repeat'(first|exact jr.iI|refine jr.ft ?_ (by simp[hZ,iu,cV,cR])),?_⟩;refine yA [] 5 rfl kR kR ?_;simp[go_sem];exact ret ⟨pa,Q,pc,pd⟩ R _ _ hM (zC rfl)
 .have hp:=aa pc h.c h.ec;change(P4.mk pa pb (wA pc (pB ac)).1 pd,(wA pc (pB ac)).2)=M at hM;obtain⟨⟨Q,R⟩,hQ⟩:∃Q,wA pc (pB ac)=Q:=⟨_,rfl⟩;rw[hQ]at hp hM;refine zA ?_;simp[go_sem,P4.row];refine Hf [(9,0),(15,3),(16,3)] 3 13 sM kR (by rw[hc];exact Nat.le_add_left _ _) hb kR rfl (by repeat'(first|exact jr.iI|refine jr.ft ?_ (by simp[hZ,iu,cV,cR]))) (by simp only[Bx,D2];exact rfl) (by simp only[C7,B1];exact rfl) ?_;simp[go_sem];refine pD hp ?_;simp[go_sem,rp];refine⟨by repeat'(first|exact jr.iI|refine jr.ft ?_ (by simp[hZ,iu,cV,cR])),?_⟩;refine yA [] 5 rfl kR kR ?_;simp[go_sem];exact ret ⟨pa,pb,Q,pd⟩ R _ _ hM (zC rfl)
 .have hp:=aa pd h.d h.ed;change(P4.mk pa pb pc (wA pd (pB ac)).1,(wA pd (pB ac)).2)=M at hM;obtain⟨⟨Q,R⟩,hQ⟩:∃Q,wA pd (pB ac)=Q:=⟨_,rfl⟩;rw[hQ]at hp hM;refine zA ?_;simp[go_sem,P4.row];refine Hf [(9,0),(15,3),(16,3)] 3 13 sM kR (by rw[hc];exact Nat.le_add_left _ _) hb kR rfl (by repeat'(first|exact jr.iI|refine jr.ft ?_ (by simp[hZ,iu,cV,cR]))) (by simp only[Bx,D2];exact rfl) (by simp only[C7,B1];exact rfl) ?_;simp[go_sem];refine pD hp ?_;simp[go_sem,rp];refine⟨by repeat'(first|exact jr.iI|refine jr.ft ?_ (by simp[hZ,iu,cV,cR])),?_⟩;refine yA [] 5 rfl kR kR ?_;simp[go_sem];exact ret ⟨pa,pb,pc,Q⟩ R _ _ hM (zC rfl)
def gu:dj:=⟨0,0,zS,0,0,[],[],[]⟩
def pE:fI:=⟨1,1,1,0,zT,zS,0,false,[],[]⟩
theorem xO5{ρ:Nat->Nat}(c:fI){g k:Tag}:cW ρ (.agg c.row) (.agg [.int .i64 c.kind,.int .i64 c.cE,.int .i64 c.node,.int .i64 c.home,.int .i64 c.dh.node,.int .i64 c.dh.dY,.int .i64 c.dh.seq,.int .i64 c.dh.attempt,.int .i64 c.at_.wall,.int .i64 c.at_.tie,.int .i64 c.wall,.bool c.yes,.sl g (c.cj.map ca.row),.sl k (c.writes.map di.row)]):=xM ⟨zF rfl,zF rfl,zF rfl,zF rfl,zF rfl,zF rfl,zF rfl,zF rfl,zF rfl,zF rfl,zF rfl,zF rfl,zY,zY,tV⟩
def qK(p:dj)(i:Nat):List V:=(List.replicate i p.row).flatten++(List.replicate (4-i) zP).flatten
theorem Zq(n:Nat)(p:dj)(i:Nat)(hi:i<=4):bS n (.box (qK p i))=true:=by rcases(show i=0\/i=1\/i=2\/i=3\/i=4by omega)with rfl|rfl|rfl|rfl|rfl<;>simp[qK,bS,cV,cR,dj.row,zP,List.replicate]
theorem wF4:bN prog 14 [] [] (λr s=>r=.ptr 0 0/\s=[.box (P4.mk (wA gu pE).1 (wA gu pE).1 (wA gu pE).1 (wA gu pE).1).row]):=by
 have ab:=Zo gu ⟨A5 _,λx hx=>(by cases hx),A5 _,A5 _⟩ dC pE dC (A5 _) (A5 _);obtain⟨⟨Q,R⟩,hQ⟩:∃Q,wA gu pE=Q:=⟨_,rfl⟩;rw[hQ]at ab⊢;clear hQ;simp only;have aa:∀ρ,cW ρ (.agg gu.row) (.agg zP):=λρ=>Zm gu (a:=.full) (b:=.full) (c:=.full);unfold zP at aa;refine iV 0 func14 ntmps14 results14 λc hc hb=>?_;refine zA ?_;simp[go_sem];refine zG (S:=Nat) [1,2] (λi=>[.ptr 0 0,.int .i64 (i:Int)]) (λi=>[.box (qK Q i)]) (λi=>4-i) (λi=>i<=4) hc hb 0 (A5 _) ?_ ?_;.exact bU 1 (by simp[go_sem,qK,zP,List.replicate]) rfl (by rw[Az,Zq 1 Q 0 om];rfl) dC (zD sg rfl)
 rintro i hi;rcases(show i=0\/i=1\/i=2\/i=3\/i=4by omega)with rfl|rfl|rfl|rfl|rfl;rotate_right;.refine zA ?_;simp[go_sem];exact yW (r:=.ptr 0 0) (s:=[.box (qK Q 4)]) 1 rfl rfl (by rw[Az,Zq 1 Q 4 om];rfl) (A5 _) (xR rfl) ⟨rfl,by simp[qK,P4.row,List.replicate,dj.row]⟩
 all_goals refine zA ?_;simp[go_sem,qK,zP,List.replicate];refine yA [(9,0)] 1 rfl kR kR ?_;simp[go_sem];refine wW ab cB (λ_=>⟨aa _,xO5 pE (g:=.full) (k:=.full),tV⟩) rfl ?_;simp[go_sem,rp];first |exact zH 1 ⟨dC,dC,bU 1 (by simp[List.replicate]) rfl (by simp[bS,cV,cR,List.replicate]) dC (zD sg rfl)⟩|exact zH 2 ⟨dC,dC,bU 1 (by simp[List.replicate]) rfl (by simp[bS,cV,cR,List.replicate]) dC (zD sg rfl)⟩|exact zH 3 ⟨dC,dC,bU 1 (by simp[List.replicate]) rfl (by simp[bS,cV,cR,List.replicate]) dC (zD sg rfl)⟩|exact zH 4 ⟨dC,dC,bU 1 (by simp[List.replicate]) rfl (by simp[bS,cV,cR,List.replicate]) dC (zD sg rfl)⟩
end Go.Proofs.YtegbonbgofjlcaaGreat
namespace Go.Proofs.YtegbonbgofjlcaaGreat.R
open Go Go.Vx Go.Proofs.Tryz
set_option maxRecDepth 100000
theorem Ku{v w:Nat}(hv:v<256)(hw:w<256)(h:UInt8.ofNat v=UInt8.ofNat w):v=w:=by have:=alv UInt8.toNat h;grind[UInt8.toNat_ofNat']
theorem RJ:∀(n v w:Nat)(s t:alW),v<=n->eQ v++s=eQ w++t->v=w/\s=t
 |n,v,w,s,t,hn,h=>by
  by_cases hv:v<128
  .rw[zf hv]at h;by_cases hw:w<128;.rw[zf hw]at h;obtain⟨h1,h2⟩:=alJ h;exact⟨Ku om om h1,h2⟩
   .rw[DO hw]at h;have h1:=Ku om om (alJ h).1;omega
  .rw[DO hv]at h;by_cases hw:w<128;.rw[zf hw]at h;have h1:=Ku om om (alJ h).1;omega
   .rw[DO hw]at h;obtain⟨h1,h2⟩:=alJ h;have h3:=Ku om om h1;match n,hn with |0,hn=>omega|n+1,hn=>obtain⟨h4,h5⟩:=RJ n (v/128) (w/128) s t om h2;exact⟨om,h5⟩
def Eh{U:Type}(ok:U->Prop)(f:U->alW):Prop:=∀a b s t,ok a->ok b->f a++s=f b++t->a=b/\s=t
def eN (v:Int):alW:=eQ (gM v)
def eT (s:alW):alW:=eQ s.length++s
def eB(x:Bool):alW:=[if x then 1 else 0]
theorem vF:Eh (λ_=>True) eN:=λa b s t _ _ h=>by obtain⟨h1,h2⟩:=RJ _ _ _ s t (A7 _) h;grind[Wu]
theorem Nx:Eh (λ_=>True) eT:=λa b s t _ _ h=>by unfold eT at h;rw[Bj,Bj]at h;obtain⟨h1,h2⟩:=RJ _ _ _ _ _ (A7 _) h;grind[List.append_inj]
theorem Zr:Eh (λ_=>True) eB:=λa b s t _ _ h=>by unfold eB at h;grind
theorem RL(v:Nat):∀(k m:Nat),k<=m->be (v%256^m) k=be v k
 |0,_,_=>rfl|k+1,m,h=>by
  rw[be,be,RL v k m om];have e:256^m=256^k*(256*256^(m-k-1)):=by rw[<-Nat.pow_succ',<-Nat.pow_add];grind
  have h1:UInt8.ofNat (v%256^m/256^k)=UInt8.ofNat (v/256^k):=by refine E5.1 ?_;grind[Nat.mod_mul_right_div_self,UInt8.toNat_ofNat',Nat.mod_mul_right_mod]
  rw[h1]
theorem RM:∀(k v w:Nat)(s t:alW),v<256^k->w<256^k->be v k++s=be w k++t->v=w/\s=t
 |0,v,w,s,t,hv,hw,h=>(by simp_all)|k+1,v,w,s,t,hv,hw,h=>by rw[be,be]at h;obtain⟨h1,h2⟩:=alJ h;have hp:0<256^k:=om;rw[E8]at hv hw;have d1:v/256^k<256:=Nat.div_lt_of_lt_mul hv;have d2:w/256^k<256:=Nat.div_lt_of_lt_mul hw;have h3:=Ku d1 d2 h1;rw[<-RL v k k om,<-RL w k k om]at h2;obtain⟨h4,h5⟩:=RM k (v%256^k) (w%256^k) s t om om h2;grind[Cx]
def eS(s:cT):alW:=be (s.wall+9223372036854775808).toNat 8++be (s.tie+9223372036854775808).toNat 8
theorem xP4:Eh cT.ok eS:=λa b s t ha hb h=>by unfold eS at h;rw[Bj,Bj]at h;have a1:=ha.wall;have a2:=ha.tie;have b1:=hb.wall;have b2:=hb.tie;obtain⟨h1,h2⟩:=RM 8 _ _ _ _ om om h;obtain⟨h3,h4⟩:=RM 8 _ _ _ _ om om h2;refine⟨?_,h4⟩;cases a;cases b;grind
def eY(t:eZ):alW:=eN t.node++(eN t.dY++(eN t.seq++eN t.attempt))
theorem xP6:Eh (λ_=>True) eY:=λa b s t _ _ h=>by unfold eY at h;simp only[Bj]at h;obtain⟨h1,h⟩:=vF _ _ _ _ trivial trivial h;obtain⟨h2,h⟩:=vF _ _ _ _ trivial trivial h;obtain⟨h3,h⟩:=vF _ _ _ _ trivial trivial h;obtain⟨h4,h⟩:=vF _ _ _ _ trivial trivial h;refine⟨?_,h⟩;cases a;simp_all
def Kv (x:ca):alW:=eT x.lo++eT x.hi
def eW(x:di):alW:=eT x.key++(eB x.drop++eT x.data)
theorem xC4:Eh (λ_=>True) Kv:=λa b s t _ _ h=>by unfold Kv at h;simp only[Bj]at h;obtain⟨h1,h⟩:=Nx _ _ _ _ trivial trivial h;obtain⟨h2,h⟩:=Nx _ _ _ _ trivial trivial h;refine⟨?_,h⟩;cases a;simp_all
theorem xP5:Eh (λ_=>True) eW:=λa b s t _ _ h=>by unfold eW at h;simp only[Bj]at h;obtain⟨h1,h⟩:=Nx _ _ _ _ trivial trivial h;obtain⟨h2,h⟩:=Zr _ _ _ _ trivial trivial h;obtain⟨h3,h⟩:=Nx _ _ _ _ trivial trivial h;refine⟨?_,h⟩;cases a;simp_all
theorem RN{U:Type}{f:U->alW}(hf:Eh (λ_=>True) f):∀(l m:List U)(s t:alW),l.length=m.length->l.flatMap f++s=m.flatMap f++t->l=m/\s=t
 |[],[],s,t,_,h=>⟨rfl,h⟩|[],_::_,_,_,h,_=>by cases h|_::_,[],_,_,h,_=>by cases h|x::l,y::m,s,t,hl,h=>by rw[Br,Br,Bj,Bj]at h;obtain⟨h1,h2⟩:=hf _ _ _ _ trivial trivial h;obtain⟨h3,h4⟩:=RN hf l m s t (sU hl) h2;exact⟨by rw[h1,h3],h4⟩
theorem Zs:∀(l:List ca)(b:alW),xo b l=b++l.flatMap Kv
 |[],b=>by simp[xo]|x::l,b=>by have h:=Zs l (tF (tF b x.lo) x.hi);unfold xo at h⊢;rw[B7,h,Br];simp[tF,Kv,eT]
theorem Zt:∀(l:List di)(b:alW),xp b l=b++l.flatMap eW
 |[],b=>by simp[xp]|x::l,b=>by have h:=Zt l (tF (fF (tF b x.key) x.drop) x.data);unfold xp at h⊢;rw[B7,h,Br];simp[tF,fF,eW,eT,eB]
theorem Zu(x:fI):lH x=1::(eN x.kind++(eN x.cE++(eN x.node++(eN x.home++(eY x.dh++(eS x.at_++(eN x.wall++(eB x.yes++(eN x.cj.length++(x.cj.flatMap Kv++(eN x.writes.length++x.writes.flatMap eW))))))))))):=by unfold lH oU oT iX;rw[Zt];unfold nF;rw[Zs];simp[nF,yF,sF,fF,eN,eY,eS,eB]
theorem AP{a b:fI}(ha:a.at_.ok)(hb:b.at_.ok)(h:lH a=lH b):a=b:=by rw[Zu,Zu]at h;have h:=(alJ h).2;obtain⟨h1,h⟩:=vF _ _ _ _ trivial trivial h;obtain⟨h2,h⟩:=vF _ _ _ _ trivial trivial h;obtain⟨h3,h⟩:=vF _ _ _ _ trivial trivial h;obtain⟨h4,h⟩:=vF _ _ _ _ trivial trivial h;obtain⟨h5,h⟩:=xP6 _ _ _ _ trivial trivial h;obtain⟨h6,h⟩:=xP4 _ _ _ _ ha hb h;obtain⟨h7,h⟩:=vF _ _ _ _ trivial trivial h;obtain⟨h8,h⟩:=Zr _ _ _ _ trivial trivial h;obtain⟨h9,h⟩:=vF _ _ _ _ trivial trivial h;obtain⟨aa,h⟩:=RN xC4 a.cj b.cj _ _ om h;obtain⟨ab,h⟩:=vF _ _ _ _ trivial trivial h;obtain⟨ad,_⟩:=RN xP5 a.writes b.writes [] [] om (by grind);cases a;simp_all
end Go.Proofs.YtegbonbgofjlcaaGreat.R
namespace Go.Proofs.YtegbonbgofjlcaaGreat
open Go Go.Vx Go.Proofs.Tryz
set_option maxRecDepth 100000
theorem Jw(i a b:Nat)(hb:b<2^i)(ha:a*2^i+b<9223372036854775808):jF .or .i64 ((a*2^i:Nat):Int) (b:Int)=((a*2^i+b:Nat):Int):=by
 have h1:a*2^i<2^64:=om;have h2:b<2^64:=om;have e:(BitVec.ofInt 64 ((a*2^i:Nat):Int)|||BitVec.ofInt 64 (b:Int)).toNat=a*2^i+b:=by rw[BitVec.toNat_or,alz,alz,alC,alC,Ce h1,Ce h2];have:=Nat.shiftLeft_add_eq_or_of_lt hb a;rw[Nat.shiftLeft_eq]at this;exact this.symm
 show IntKind.i64.wrap ((BitVec.ofInt 64 ((a*2^i:Nat):Int)|||BitVec.ofInt 64 (b:Int)).toNat:Int)=_;rw[e];exact bX om om
theorem wB9{x:eZ}(h:xj x=false):lF x=((x.node*1048576+x.dY)*16777216+x.seq)*16+x.attempt:=by unfold lF;rw[alp (by rw[h];decide)];unfold xj at h;simp only[Bool.or_eq_false_iff,aly]at h;obtain⟨a1,a2,a3,a4,a5,a6,a7,a8⟩:=h;obtain⟨n,hn⟩:∃n:Nat,x.node=n:=⟨x.node.toNat,om⟩;obtain⟨l,hl⟩:∃n:Nat,x.dY=n:=⟨x.dY.toNat,om⟩;obtain⟨s,hs⟩:∃n:Nat,x.seq=n:=⟨x.seq.toNat,om⟩;obtain⟨k,hk⟩:∃n:Nat,x.attempt=n:=⟨x.attempt.toNat,om⟩;rw[hn,hl,hs,hk];rw[bX om om,bX om om,bX om om];have e1:=Jw 48 n (l*268435456) om om;have e2:=Jw 28 (n*1048576+l) (s*16) om om;have e3:=Jw 4 ((n*1048576+l)*16777216+s) k om om;rw[show((n:Int)*281474976710656)=((n*2^48:Nat):Int)by omega,show((l:Int)*268435456)=((l*268435456:Nat):Int)by omega,e1,show((n*2^48+l*268435456:Nat):Int)=(((n*1048576+l)*2^28:Nat):Int)by omega,show((s:Int)*16)=((s*16:Nat):Int)by omega,e2,show(((n*1048576+l)*2^28+s*16:Nat):Int)=((((n*1048576+l)*16777216+s)*2^4:Nat):Int)by omega,e3];omega
end Go.Proofs.YtegbonbgofjlcaaGreat
namespace Go.Proofs.YtegbonbgofjlcaaGreat
open Go Go.Vx R Go.Proofs.Tryz
set_option maxRecDepth 100000
variable {t:Tx}{bV:Int}{n:Nat}
theorem wp5(x:eZ):cL (lF x):=by cases h:xj x with|true=>simp_all[lF,wZ]|false=>grind[wB9,xj,cL]
theorem xi5(p:Int)(l:cA)(r:cU):(ij p l r).1.range=l.range:=by
 unfold ij;repeat' split
 all_goals rfl
structure oZ(t:Tx):Prop where
 ok:j7 t
 id:cL t.id.node/\cL t.id.dY/\cL t.id.seq
 up:(t.bY.map (·.range)).Nodup
 a9:t.phase≠4->t.id.attempt<=9at_:t.at_.ok
 bump:cL t.bump
 home:cL t.home
 ku:∀x∈t.bY,mB x
theorem oZ.RO(h:oZ t):t.id.ok:=by have:=h.ok.nB;obtain⟨h1,h2,h3⟩:=h.id;exact⟨h1,h2,h3,om⟩
theorem Zv{l:alZ}(h:l.Pairwise (·<·)):l.Nodup:=h.imp om
theorem oZ.asks(h:oZ t):∀a∈kq t,vC a:=λa ha=>by
 have hid:=h.RO;unfold kq at ha;split at ha
 .obtain⟨l,hl,aa⟩:=E3.1 ha;have hx:=h.ku l hl;unfold lG at aa;split at aa;.cases aa;exact Ko 2 dC wZ hid h.at_ sM hx.cj sM
  split at aa;.cases aa;exact Ko 3 dC h.home hid h.at_ sM sM hx.writes
  split at aa;.cases aa;exact Ko 4 dC wZ hx.dh lI sM sM sM
  split at aa;.cases aa;exact Ko 5 dC wZ hx.dh lI (by trivial) ⟨A5 _,λw hw=>by cases hw⟩ ⟨A5 _,λw hw=>by cases hw⟩
  grind
 .split at ha;.rw[Bl]at ha;subst ha;exact Ko 4 dC wZ hid h.at_ (by trivial) ⟨A5 _,λw hw=>by cases hw⟩ ⟨A5 _,λw hw=>by cases hw⟩
  grind
theorem Zw(h:oZ t)(h9:t.id.attempt<=9):oZ (oR t):=by
 have hN:=Rq h.ok.bY h.ok.ku;obtain⟨_,h2,_⟩:=Nr h.ok.df hN;obtain⟨m,hT⟩:=X4 (t.bY.map lQ);have hlen:(mw (t.bY.map lQ)).length<=(kW (t.bY.map lQ)).length:=hT.len;have aa:=xH7 h.ok.df hT.now (λx hx=>⟨hT.now.rows x hx,(hT.lines x hx).1⟩) (by grind[mw]);change∀q∈qB t.df (mw (t.bY.map lQ)),_ at aa;have cZ:=Rr h.ok;obtain⟨e1,e2⟩:=Y1 t;refine⟨cZ,by rw[e1];exact h.id,?_,(by grind),by rw[e2];exact h.at_,?_,?_,?_⟩
 .unfold oR;split;.simp
  .rename_i p l hp;rw[hp]at h2;show(((p::l).map xk).map (·.range)).Nodup;rw[B8];exact Zv (D5.2 h2.up)
 .unfold oR;split<;>exact h.bump
 .unfold oR;split;.exact h.home
  .rename_i p l hp;rw[hp]at h2;have:=h2.dN p sM;grind[cL]
 .unfold oR;split;.simp
  .rename_i p l hp;rw[hp]at h2 aa;intro x hx;obtain⟨q,hq,rfl⟩:=Ab.1 om;obtain⟨g1,g2⟩:=aa q hq;have:=h2.dN q hq;refine⟨⟨A5 _,λs hs=>by cases hs⟩,⟨by show(q.2.map wG).length<=20000;grind,λw hw=>?_⟩,by show 0<=q.1/\q.1<1000;omega,wZ,Ga⟩;obtain⟨z,hz,rfl⟩:=Ab.1 (by assumption);exact g2 z hz
theorem Zx(h:oZ t)(h9:t.id.attempt<=9)(hl:cL bV):oZ (sL t bV):=by
 have aa:oZ (AE t bV):=⟨Rs h.ok bV,h.id,by show(((nR t.df).map vy).map (·.range)).Nodup;rw[B8];exact Zv (WE t.df).sr,λ_=>h9,⟨RA hl h.bump,wp5 _⟩,h.bump,wZ,λx hx=>by obtain⟨q,hq,rfl⟩:=Ab.1 (by assumption);have:=Rf t.df q hq;exact⟨⟨Yr h.ok.df q hq,yW8 t.df q hq⟩,⟨A5 _,λw hw=>by cases hw⟩,by show 0<=q.1/\q.1<1000;omega,wZ,Ga⟩⟩;unfold sL;split;.exact Zw aa h9
 omega
theorem Zy(h:oZ t)(h9:t.id.attempt<=9){bump:Int}(hb:cL bump)(hl:cL bV):oZ (xn t bump bV).1:=by
 have cZ:=Rt h.ok h9 bump bV;have h0:=h.ok.nB;unfold xn at cZ⊢;simp only at cZ⊢;by_cases q:10<=t.id.attempt+1;.rw[alq q]at cZ⊢;exact⟨cZ,h.id,Bo,λh4=>(by trivial),lI,RA h.bump hb,h.home,λx hx=>by cases hx⟩
 .rw[alp q]at cZ⊢;exact Zx (t:={t with bump:=mx t.bump bump,id:={t.id with attempt:=t.id.attempt+1}}) ⟨⟨h.ok.df,by grind,h.ok.bY,h.ok.ku,h.ok.outs⟩,h.id,h.up,(by grind),h.at_,RA h.bump hb,h.home,h.ku⟩ (by grind) hl
def LrY(rs:alZ):ri->Prop |.done l=>(∀x∈l,mB x)/\l.map (·.range)=rs|.wait=>True|.again l b=>((∀x∈l,mB x)/\l.map (·.range)=rs)/\cL b
theorem RP{t:Tx}{a:dq}{r:cU}(hr:RX r):∀{ls acc:List cA}{rs:alZ},(∀x∈acc,mB x)->(∀x∈ls,mB x)->acc.map (·.range)++ls.map (·.range)=rs->LrY rs (nT t a r acc ls)
 |[],acc,rs,ha,_,hm=>by rw[nT];exact⟨ha,by grind⟩|l::ls,acc,rs,ha,hg,hm=>by
  have ab:=hg l (B2 ..);have ad:∀x∈ls,mB x:=(by grind);have aa:∀y:cA,mB y->∀x∈acc++[y],mB x:=(by grind);have ae:=xi5 t.phase l r;rw[nT];split
  .split
   .refine⟨⟨λx hx=>?_,by grind⟩,xE5 _ _ hr⟩;rcases Ai.1 hx with hx|hx;.grind
    .rcases Af.1 hx with rfl|hx;all_goals grind[Y4]
   split;.trivial
   .exact RP hr (aa _ (Y4 _ ab hr)) ad (by simpa[ae]using hm)
  .exact RP hr (aa _ ab) ad (sU hm)
theorem wA8(h:oZ t)(h4:t.phase≠4)(a:dq){r:cU}(hr:RX r)(hl:cL bV):oZ (sN t a r bV).1:=by
 have h9:=h.a9 h4;have cZ:=YY h.ok h9 a hr.ok bV;unfold sN Eb at cZ⊢;split;.exact h
 split
 .split;.exact h
  split;.exact⟨(by grind),h.id,h.up,λ_=>h9,h.at_,h.bump,h.home,h.ku⟩
  grind[Zy,wZ]
 .have h1:=Nu (t:=t) (a:=kY a) hr.ok (ls:=t.bY) (acc:=[]) (by simpa using h.ok.bY) sM h.ok.ku;have h2:=RP (t:=t) (a:=kY a) hr (ls:=t.bY) (acc:=[]) (rs:=t.bY.map (·.range)) sM h.ku rfl;clear cZ;revert h1 h2;generalize nT t (kY a) r [] t.bY=L;intro h1 h2;cases L with
  |done l=>
   have aa:(l.map (·.range)).Nodup:=by rw[h2.2];exact h.up
   have ht:oZ {t with bY:=l}:=⟨⟨h.ok.df,h.ok.nB,h1.1,h1.2,h.ok.outs⟩,h.id,aa,λ_=>h9,h.at_,h.bump,h.home,h2.1⟩;unfold Ki vz;simp only;split;.exact ht
   split;.grind[Zw]
   .exact⟨⟨h.ok.df,h.ok.nB,h1.1,h1.2,h.ok.outs⟩,h.id,aa,λ_=>h9,h.at_,h.bump,h.home,h2.1⟩|wait=>exact⟨⟨h.ok.df,h.ok.nB,A5 _,λx hx=>(by cases hx),A5 _,λx hx=>by cases hx⟩,h.id,Bo,λh4=>(by simpa),lI,h.bump,h.home,λx hx=>by cases hx⟩|again l b=>exact Zy (t:={t with bY:=l}) ⟨⟨h.ok.df,h.ok.nB,h1.1,h1.2,h.ok.outs⟩,h.id,by show(l.map (·.range)).Nodup;rw[h2.1.2];exact h.up,λ_=>h9,h.at_,h.bump,h.home,h2.1.1⟩ h9 h2.2 hl
theorem ww4{l:eF}(hl:lr l)(fD:cL bV){id:eZ}(hid:id.ok):oZ (sO id l bV):=by
 have hi:cL id.node/\cL id.dY/\cL id.seq:=⟨hid.node,hid.dY,hid.seq⟩;have h0:oZ ⟨{id with attempt:=0},l,0,zS,0,0,[],(0,0,[])⟩:=⟨YZ hl id,hi,Bo,sM,lI,wZ,wZ,sM⟩;have cZ:=Y0 hl id bV;unfold sO at cZ⊢;split;.rename_i h;rw[alq h]at cZ;exact⟨cZ,hi,Bo,sM,lI,wZ,wZ,sM⟩
 rename_i h;rw[alp h]at cZ;split;.rename_i h2;rw[alq h2]at cZ;exact⟨cZ,hi,Bo,sM,lI,wZ,wZ,sM⟩
 grind[Zx]
theorem xm2(x y:fI)(hx:x.ok)(hs:R.AH x)(hy:y.ok)(aa:R.AH y):Pure prog 61 [.agg x.row,.agg y.row] (.bool (decide (x=y))):=by
 have h1:=R.Ed x hx hs;have h2:=R.Ed y hy aa;have hM:decide (x=y)=(R.lH x==R.lH y):=by
  by_cases e:x=y;.grind
  .rw[alr e];have:R.lH x≠R.lH y:=λh=>e (R.AP hx.at_ hy.at_ h);grind
 rw[hM];generalize R.lH x=u at h1⊢;generalize R.lH y=v at h2⊢;refine iW 0 func61 ntmps61 results61 λc hc hb=>zM ?_;simp[go_sem];refine yA [(1,0),(4,0)] 2 rfl (by rfl) kR ?_;simp[go_sem];refine pD h1 ?_;simp[go_sem,fc];refine zJ (xX u) ?_;simp[go_sem];refine pD h2 ?_;simp[go_sem,fc];refine zJ (xX v) ?_;simp[go_sem,Gk];exact zQ (zC rfl) sM
theorem xm1(a b:dq)(h:vC a)(g:vC b):Pure prog 22 [.agg a.row,.agg b.row] (.bool (decide (a=b))):=by
 have aa:=xm2 a.cmd b.cmd h.ok h.s g.ok g.s;have hM:decide (a=b)=(a.range==b.range&&decide (a.cmd=b.cmd)):=by obtain⟨a1,a2⟩:=a;obtain⟨b1,b2⟩:=b;grind
 rw[hM];generalize decide (a.cmd=b.cmd)=d at aa⊢;obtain⟨M,hM⟩:=eX ((a.range==b.range&&d));rw[hM];have ret:∀(r:Bool)(I:St),r=M->cz (some (.bool r)) 0 (λr s=>r=.bool M/\s=[]) I:=λr I h=>by subst h;exact zQ (zC rfl) sM
 refine iW 0 func22 ntmps22 results22 λc hc hb=>zM ?_;simp[go_sem];refine xG (λq=>?_) (λq=>?_)<;>simp[go_sem,q];.refine pC aa ?_;simp[go_sem];exact ret _ _ (by grind)
 .exact ret _ _ (by grind)
theorem wh1{t:Tx}(h:kq t≠[]):t.phase≠4:=λh4=>h (by unfold kq;rw[alp om,alp om])
theorem wh0{t:Tx}:∀a∈kq t,(1<=a.cmd.kind/\a.cmd.kind<=5)/\kY a=a:=λa ha=>by
 unfold kq at ha;split at ha
 .obtain⟨l,_,aa⟩:=E3.1 ha;unfold lG at aa;split at aa;.cases aa;exact⟨⟨sM,sM⟩,rfl⟩
  split at aa;.cases aa;exact⟨⟨sM,sM⟩,rfl⟩
  split at aa;.cases aa;exact⟨⟨sM,sM⟩,rfl⟩
  split at aa;.cases aa;exact⟨⟨by simp[AD],by simp[AD]⟩,rfl⟩
  .cases aa
 .split at ha;.rw[Bl]at ha;subst ha;exact⟨⟨by simp[Kh],by simp[Kh]⟩,rfl⟩
  .cases ha
structure Gg(n:Nat)(P:P4):Prop where
 a:ky n P.a
 b:ky n P.b
 c:ky n P.c
 d:ky n P.d
theorem ky.w{p:dj}(h:ky n p)(hn:n<=35):jU p:=⟨by have:=h.cells.len;omega,λx hx=>by have:=(h.cells.cell x hx).lJ;omega,by have:=h.kz.1;omega,by have:=h.done;omega⟩
theorem Gg.w{P:P4}(h:Gg n P)(hn:n<=35):Zp P:=⟨h.a.w hn,h.b.w hn,h.c.w hn,h.d.w hn,h.a.cE,h.b.cE,h.c.cE,h.d.cE⟩
theorem xm8{P:P4}(h:Gg n P){a:dq}(ha:vC a):Gg (n+1) (Eg P a).1/\RX (Eg P a).2:=by
 have hm:Gg (n+1) P:=⟨h.a.mono,h.b.mono,h.c.mono,h.d.mono⟩;have aa:=λ(p:dj)(hp:ky n p)=>Zg hp (c:=pB a.cmd) ha.ok.dh ha.ok.at_ (by have:=ha.ok.home;exact this) ha.s.nw (λw hw=>(ha.s.w w hw).2) (by show(0:Int)<=1;decide);unfold Eg;split;.exact⟨hm,qJ 27 0 wZ zS lI false⟩
 .unfold P4.put P4.get;split;.exact⟨⟨(aa _ h.a).1,hm.b,hm.c,hm.d⟩,(aa _ h.a).2⟩
  split;.exact⟨⟨hm.a,(aa _ h.b).1,hm.c,hm.d⟩,(aa _ h.b).2⟩
  split;.exact⟨⟨hm.a,hm.b,(aa _ h.c).1,hm.d⟩,(aa _ h.c).2⟩
  .exact⟨⟨hm.a,hm.b,hm.c,(aa _ h.d).1⟩,(aa _ h.d).2⟩
theorem xH3:ky 0 gu:=⟨⟨A5 _,λx hx=>by cases hx⟩,⟨A5 _,λx hx=>by cases hx⟩,A5 _,wZ,wZ,lI,dC⟩
theorem wl6:Gg 1 ⟨(wA gu pE).1,(wA gu pE).1,(wA gu pE).1,(wA gu pE).1⟩:=by have h:=(Zg xH3 (c:=pE) Ga lI wZ (A5 _) (λw hw=>by cases hw) dC).1;exact⟨h,h,h,h⟩
theorem wA7{y n r:Int}(hn:1<=n)(hr:y%n=r):(y.tmod n+n).tmod n=r/\-n<=y.tmod n/\y.tmod n<n:=by
 have he:=Dq y (b:=n) om;have hl:=Db y (b:=n) om;have ht:=Int.tmod_eq_emod (a:=y) (b:=n);rw[hr]at he hl ht;obtain⟨t,aa⟩:=eX (y.tmod n);rw[aa]at ht⊢;have ad:((n.natAbs:Nat):Int)=n:=om;have ab:t=r\/t=r-n:=by
  split at ht;.left;omega
  .right;omega
 clear ht aa hr;rcases ab with e|e;.rw[e,Cp om,Int.add_emod_right,Int.emod_eq_of_lt he hl];omega
 .rw[e,show r-n+n=r by omega,Cp om,Int.emod_eq_of_lt he hl];omega
theorem xI1{t:Tx}{a:dq}(h:((kq t).any λy=>decide (y=a))=false)(ha:kY a=a)(r:cU)(bV:Int):sN t a r bV=(t,[]):=by unfold sN Eb;rw[ha,alq (.inl (by rw[h];decide))]
def Gh(P:P4)(t:Tx):St:=[.box gG,.box P.row,.box t.row]
theorem RQ(P:P4)(t:Tx):(Gh P t).all (bS 3)=true:=by show(bS 3 (.box gG)&&(bS 3 (.box P.row)&&(bS 3 (.box t.row)&&true)))=true;rw[H0];simp[bS,cV,cR,gG,Tx.row]
theorem xK1(l:List gW)(hl:l.length<=maxLen)(cZ:∀a∈l,a.ok)(bV:Int)(fD:cL bV)(fB:alZ)(_hpl:fB.length<=maxLen)(aW:∀x∈fB,cL x):Pure prog 6 [.sl .ro (l.map gW.row),.int .i64 bV,.sl .ro (fB.map λn=>[V.int .i64 n])] (.bool true):=by
 have ax:=xB3;have aX:=Y2;have aq:=wF4;have a8:=wl6;have aA:=wB8 l hl cZ;have aB:=xJ9 cZ;have ah:=UF (AA l) (by unfold maxLen;omega);have hL:=UN (AA l);obtain⟨L,aC⟩:=eX ((tD (AA l)).1);rw[aC]at ah hL;obtain⟨tx,ar⟩:∃t,AA l=t:=⟨_,rfl⟩;rw[ar]at aA ah;clear aC aB ar;have aD:(⟨1,1,1,0⟩:eZ).ok:=⟨dC,dC,dC,dC⟩;have au:=YQ ⟨1,1,1,0⟩ L hL bV;have aE:=ww4 hL fD aD;obtain⟨T,aF⟩:=eX (sO ⟨1,1,1,0⟩ L bV);rw[aF]at au aE;obtain⟨P0,av⟩:∃P,P4.mk (wA gu pE).1 (wA gu pE).1 (wA gu pE).1 (wA gu pE).1=P:=⟨_,rfl⟩;rw[av]at aq a8;clear aF av;refine iV 0 func6 ntmps6 results6 λc hc hb=>?_;refine zN (zA ?_);simp[go_sem];refine zN (zA ?_);simp[go_sem];refine pC ax ?_;simp[go_sem];by_cases bn:30<fB.length
 .have ai:decide (30<(fB.length:Int))=true:=by simp;omega
  refine zA ?_;simp[go_sem,ai];exact wR
 have ai:decide (30<(fB.length:Int))=false:=by simp;omega
 refine zA ?_;simp[go_sem,ai];refine pC aX ?_;simp[go_sem,dW];refine Zn aq cB (yD rfl) ?_;rintro r s⟨rfl,rfl⟩;have aG:∀ρ,yC ρ (Ob.box P0.row)=Ob.box P0.row:=λρ=>yV (n:=0) om (H0 0 P0);simp only[Ag,Bq,aG];simp[go_sem,dL,dQ,du,dv,cO];refine yA [(3,0),(4,0),(6,0)] 2 rfl kR kR ?_;simp[go_sem];refine pD aA ?_;simp[go_sem];refine pD ah ?_;simp[go_sem];refine pD au ?_;simp[go_sem];refine zG (S:=Nat×P4×Tx) [1,2,7,8,9,10] (λu=>[.int .i64 bV,.sl .ro (fB.map λn=>[V.int .i64 n]),.ptr 0 0,.ptr 1 0,.ptr 2 0,.int .i64 (u.1:Int)]) (λu=>Gh u.2.1 u.2.2) (λu=>fB.length-u.1) (λu=>u.1<=fB.length/\Gg (u.1+1) u.2.1/\oZ u.2.2) hc hb (0,P0,T) ⟨A5 _,a8,aE⟩ ?_ ?_;.exact bU 3 (by simp[go_sem,Gh,gG]) rfl (RQ ..) dC (zD sg rfl)
 rintro⟨i,P,t⟩⟨hi,hP,hY⟩;simp only at hi hP hY;by_cases q:i<fB.length;rotate_left;.refine zA ?_;simp[go_sem,q];exact wR
 have ei:=zO q om;have cZ:=hY.ok;have bo:=cZ.bY;have ab:=Np t om cZ.ku;have aY:=@Rn t;have aH:=hY.asks;have aI:=@wh0 t;have aJ:=Nq cZ.ku;have aK:=@wh1 t;obtain⟨y,hy⟩:=eX (fB[i]);have bp:=aW y (hy▸A9 q);obtain⟨AL,aZ⟩:∃A,kq t=A:=⟨_,rfl⟩;rw[aZ]at ab aY aH aI aJ aK;by_cases aj:AL=[];.subst aj;refine zA ?_;simp[go_sem,q,Gh];refine pC ab ?_;simp[go_sem];exact wR
 have bq:0<AL.length:=List.length_pos_iff.2 aj;have aL:((AL.length:Int)==0)=false:=by simp;omega
 have ba:=aK aj;obtain⟨j,hj,aP⟩:∃j:Nat,y%(AL.length:Int)=j/\j<AL.length:=by have h1:=Dq y (b:=(AL.length:Int)) om;have h2:=Db y (b:=(AL.length:Int)) om;exact⟨(y%(AL.length:Int)).toNat,om,om⟩
 obtain⟨aQ,bb,bc⟩:=wA7 om hj;obtain⟨m,hm⟩:=eX (y.tmod (AL.length:Int));rw[hm]at aQ bb bc;have bd:IntKind.i64.wrap m=m:=bX om om;have bf:IntKind.i64.wrap (m+(AL.length:Int))=m+(AL.length:Int):=bX om om;have bg:IntKind.i64.wrap (j:Int)=(j:Int):=bX om om;obtain⟨a,ha⟩:=eX (AL[j]);have ay:a∈AL:=ha▸A9 aP;have aR:=aJ a ay;have has:=aH a ay;obtain⟨bh,bj⟩:=aI a ay;have az:=wo2 P (hP.w om) a bh has.s.nw (Ax has.s.ns dC);obtain⟨an,ak⟩:=xm8 hP has;obtain⟨⟨P2,x⟩,hS⟩:∃S,Eg P a=S:=⟨_,rfl⟩;rw[hS]at az an ak;simp only at az an ak;have al:=Ru t cZ a aR x ak.ok bV;have aa:=wA8 hY ba a ak (bV:=bV) fD;obtain⟨⟨uJ,bk⟩,hU⟩:∃uJ,sN t a x bV=uJ:=⟨_,rfl⟩;rw[hU]at al aa;simp only at al aa;have ad:=Ru uJ aa.ok a aR x ak.ok bV;have ae:=Np uJ (by have:=aa.ok.bY;omega) aa.ok.ku;have aS:=@Rn uJ;have br:=aa.ok.bY;have aT:=λ(b:dq)(hb:b∈kq uJ)=>xm1 b a (aa.asks b hb) has;have a1:=wa4 uJ aa.ok;have af:=λh=>@xI1 uJ a h bj x bV;obtain⟨BL,bm⟩:∃B,kq uJ=B:=⟨_,rfl⟩;rw[bm]at ae aS aT af;obtain⟨⟨W,tidy⟩,hW⟩:∃W,sN uJ a x bV=W:=⟨_,rfl⟩;rw[hW]at ad af;simp only at ad;obtain⟨yes,aw⟩:∃b,(BL.any λz=>decide (z=a))=b:=⟨_,rfl⟩;rw[aw]at af;have a6:([.box gG,.box P2.row,.box t.row,.box a.row,.box x.row,.box uJ.row,.box W.row]:St).all (bS 7)=true:=by simp only[Az,H0];simp[bS,cV,cR,gG,Tx.row,dq.row,cU.row]
 refine zA ?_;simp[go_sem,q,Gh];refine pC ab ?_;simp[go_sem,aL,q,hy];refine zJ aj ?_;simp[go_sem,hm,bf];refine zJ aj ?_;simp[go_sem,aQ,aP,ha];refine mY 1 az cB rfl (H0 0 P) ⟨.inl (by simp[dL,dQ,du,dv,cO]),zC rfl,tV⟩ (λr s h=>⟨_,h.2,H0 0 P2⟩) ?_;rintro r o2⟨rfl,h2⟩;obtain rfl:o2=.box P2.row:=sU h2;simp[go_sem,gG];refine pC al ?_;simp[go_sem];refine pC ad ?_;simp[go_sem];refine pC ae ?_;simp[go_sem];refine zG (S:=Nat×Bool) [1,2,7,8,9,10,12,14,16,17,18,19,20] (λu=>[.int .i64 bV,.sl .ro (fB.map λn=>[V.int .i64 n]),.ptr 0 0,.ptr 1 0,.ptr 2 0,.int .i64 (i:Int),.ptr 3 0,.ptr 5 0,.ptr 6 0,.sl .ro (tidy.map dq.row),.sl .ro (BL.map dq.row),.bool u.2,.int .i64 (u.1:Int)]) (λ_=>[.box gG,.box P2.row,.box t.row,.box a.row,.box x.row,.box uJ.row,.box W.row]) (λu=>BL.length-u.1) (λu=>u.1<=BL.length/\u.2=(BL.take u.1).any λz=>decide (z=a)) hc hb (0,false) ⟨A5 _,sM⟩ ?_ ?_;.exact bU 7 (by simp[go_sem,gG]) rfl a6 dC (zD sg rfl)
 rintro⟨k,b⟩⟨hk,ao⟩;simp only at hk ao;by_cases qk:k<BL.length
 .have ek:=zO qk om;obtain⟨z,hz⟩:=eX (BL[k]);have aU:=aT z (hz▸A9 qk);have a7:(b||decide (z=a))=(BL.take (k+1)).any λz=>decide (z=a):=by rw[ao,Ac qk,hz];simp
  generalize decide (z=a)=d at aU a7;cases b with |true=>refine zA ?_;simp[go_sem,qk];refine yA [(7,0)] 7 rfl kR kR ?_;simp[go_sem,ek];exact zH (k+1,true) ⟨by show BL.length-(k+1)<BL.length-k;omega,⟨qk,by rw[<-a7];rfl⟩,aN 7 a6⟩|false=>refine zA ?_;simp[go_sem,qk];refine yA [(7,0)] 7 rfl kR kR ?_;simp[go_sem,qk,hz];refine pD aU ?_;simp[go_sem,ek];exact zH (k+1,d) ⟨by show BL.length-(k+1)<BL.length-k;omega,⟨qk,by rw[<-a7];rfl⟩,aN 7 a6⟩
 rw[Ad om,aw]at ao;subst ao;cases b with |true=>refine zA ?_;simp[go_sem,qk,ei];exact zH (i+1,P2,uJ) ⟨by show fB.length-(i+1)<fB.length-i;omega,⟨q,an,aa⟩,bU 3 (by simp[go_sem,gG]) rfl (RQ ..) dC (zD sg rfl)⟩|false=>have aV:=af rfl;obtain⟨rfl,rfl⟩:W=uJ/\tidy=[]:=⟨alv Prod.fst aV,alv Prod.snd aV⟩;refine zA ?_;simp[go_sem,qk];refine pC a1 ?_;simp[go_sem,ei];exact zH (i+1,P2,W) ⟨by show fB.length-(i+1)<fB.length-i;omega,⟨q,an,aa⟩,bU 3 (by simp[go_sem,gG]) rfl (RQ ..) dC (zD sg rfl)⟩
end Go.Proofs.YtegbonbgofjlcaaGreat
