/-
  Rules of the walk for maps: an entry that is laid for `m[k] op= v`, looked at and laid in regions whose order is open.
  No condition: a library text; nothing of the program is named.
-/
import Derived.Test.YtefbicjgbaaieaaGreatLAE
set_option maxHeartbeats 8000000
namespace Go.Vx
open Go
variable{P:Program}{U:St}{l:List V}{ms:aik}{U':St}{c:Ctx}{d:Option Tmp}{e:Env}{op:Op}{nt:Nat}{H:FuncId->aik}
def eI(ms:aik)(l:List V):Env:=λt=>if t<100000then l.getD t .u else if ms.contains (t-100000)then .cm []else .u
theorem Y3{t:Nat}{v:V}(h:t<l.length)(hl:l.length<=100000):fe (eI ms l) t v=eI ms (l.set t v):=by funext k;simp only[fe,eI];grind
def qU(d:Option Tmp)(v:V)(l:List V):Option (List V):=match d with |some t=>if t<l.length then some (l.set t v)else none|none=>some l
theorem JJ{v:V}{l':List V}(h:qU d v l=some l')(hl:l.length<=100000):l'.length=l.length/\∀(K:KT)(U:St),K (eI ms l') U->eV l.length d v K (eI ms l) U:=by
 unfold qU at h;unfold eV;split at h;.grind[Y3]
 grind
def JK(g:Option (Nat×Bool))(ops:List Oper)(e:Env):Option Bool:=match g with |none=>some true|some (j,want)=>(match kf ops j with|some t=>(match e t with|.bool b=>some (b==want)|.cm []=>some false|_=>none)|none=>none)
theorem JL{g:Option (Nat×Bool)}{ops:List Oper}{A B:Prop}{r:Bool}(h:JK g ops e=some r)(ha:r=true->A)(hb:r=false->B):uB g ops e A B:=by
 unfold JK at h;unfold uB;split at h;.grind
 .split at h;.rename_i t ht;simp only[ht];unfold kT;grind
  grind
abbrev lq:=V->List V->St->Option (V×St)
def si(P:Program)(call:lq):Prop:=∀fv az U v U',call fv az U=some (v,U')->∀c,VC P c fv az U (λr s=>r=v/\s=U')
def DQ(P:Program)(call:lq)(d:Option Tmp)(e:Env)(U:St)(op:Op):Option (V×St):=match op with |.call ⟨.value f,args,_⟩=>call (zI e f) (args.toList.map (zI e)) U|op=>MP P d e U op
theorem Y4{call:lq}(hc:si P call){v:V}{K:KT}(h:DQ P call d e U op=some (v,U'))(hk:eV nt d v K e U'):jg P c nt d op K e U:=by
 unfold DQ at h;unfold jg;split at h;.refine(hc _ _ _ _ _ h c).mono ?_;grind
 .rename_i aa;split;.grind
  grind[Y2]
def Hn(P:Program)(call:lq)(ms:aik)(ops:List Oper):List Oper->List V->St->Option (List V×St) |[],l,U=>some (l,U)|o::rest,l,U=>match JK o.guard ops (eI ms l)with
  |none=>none|some true=>(match DQ P call o.dst (eI ms l) U o.op with |some (v,U')=>(match qU o.dst v l with|some l'=>Hn P call ms ops rest l' U'|none=>none)|none=>none)|some false=>(match qU o.dst (.cm []) l with|some l'=>Hn P call ms ops rest l' U|none=>none)
theorem JM{P:Program}{call:lq}(hc:si P call){ms:aik}{ops:List Oper}{c:Ctx}:∀(rest:List Oper)(l:List V)(U:St)(l':List V)(U':St),Hn P call ms ops rest l U=some (l',U')->l.length<=100000->l'.length=l.length/\∀K:KT,K (eI ms l') U'->kg P c l.length ops rest K (eI ms l) U
 |[],l,U,l',U',h,hl=>by cases h;exact⟨rfl,λK hk=>hk⟩|o::rest,l,U,l',U',h,hl=>by
  unfold Hn at h;split at h;.cases h
  .rename_i hg;split at h
   .rename_i v s1 ho;split at h;.rename_i l1 hp;obtain⟨e1,e2⟩:=JJ (ms:=ms) hp hl;obtain⟨e3,e4⟩:=JM hc (c:=c) rest l1 s1 l' U' h om;refine⟨om,λK hk=>?_⟩;refine JL hg (λ_=>?_) sm;grind[Y4]
    grind
   grind
  .rename_i hg;split at h;.rename_i l1 hp;obtain⟨e1,e2⟩:=JJ (ms:=ms) hp hl;obtain⟨e3,e4⟩:=JM hc (c:=c) rest l1 U l' U' h om;refine⟨om,λK hk=>?_⟩;refine JL hg sm (λ_=>?_);grind
   grind
def Ho:Op->Bool |.buildSlice ..|.makeSlice ..|.convert ..|.call _|.next ..|.slice ..=>false|_=>true
theorem Y5(h:Ho op):∀e U,gX P e U op=bZ P e U op:=by intro e U;cases op<;>first|rfl|cases h
def Q2(n0:Kp)(e:Env):Op->Bool |.load _ x=>DC n0 (zI e x)|_=>false
def Y6:Op->Bool |.alloc _|.box ..=>true|_=>false
def Q3(P:Program)(n0:Kp)(k:Nat)(d:Option Tmp)(e:Env)(U:St)(op:Op):Bool:=(!l7 e d||Ho op)&&(k !=0||l9 op==0)&&(k !=1||Q2 n0 e op)&&(!qM (bZ P e U op)||decide (3<=k))&&(k==4||(k==3&&Y6 op)||!qM (bZ P e U op))
def DR(P:Program)(call:lq)(n0:Kp)(k:Nat)(d:Option Tmp)(e:Env)(U:St)(op:Op):Option (V×St):=match op with |.call ⟨.value f,args,_⟩=>if k=0then(match call (zI e f) (args.toList.map (zI e)) []with|some (v,_)=>if iH v&&iH (zI e f)&&(args.toList.map (zI e)).all iH then some (v,U)else none|none=>none)else if k=4then(match call (zI e f) (args.toList.map (zI e)) U with|some (v,U')=>if U.length<=U'.length then some (v,U')else none|none=>none)else none|op=>if Q3 P n0 k d e U op then qT (DP P false e U op) U (bZ P e U op)else none
def DS(P:Program)(call:lq):Prop:=∀fv az v U',call fv az []=some (v,U')->iH v=true->iH fv=true->az.all iH=true->∀c s,VC P c fv az s (λr s'=>r=v/\s'=s)
theorem Y7{call:lq}(hc:si P call)(hp:DS P call){n0:Kp}{k:Nat}{v:V}{K:KT}(h:DR P call n0 k d e U op=some (v,U'))(hk:eV nt d v K e U'):ft P c nt n0 k d op K e U:=by
 unfold DR at h;unfold ft;split at h
 .split at h
  .rename_i ab;split at h
   .rename_i v' s' aa;split at h;.rename_i hn;cases h;simp only[A8]at hn;subst ab;refine⟨v,U,?_,λ_=>rfl,om,om,hk⟩;rw[ahP rfl];exactλs=>hp _ _ _ _ aa hn.1.1 hn.1.2 hn.2 c s
    grind
   grind
  .split at h
   .rename_i ab ad;split at h
    .rename_i v' s' aa;split at h;.rename_i hle;cases h;subst ad;refine⟨v,U',?_,om,om,hle,hk⟩;rw[ahO dc,ahO dc];exact hc _ _ _ _ _ aa c
     grind
    grind
   grind
 .rename_i ae;split;.grind
  .split at h
   .rename_i ht;simp only[Q3,A8,Ce,Dm,bne_iff_ne,ahX,ahS]at ht;obtain⟨⟨⟨⟨t1,t2⟩,t3⟩,t4⟩,t5⟩:=ht;have hh:cK P d e op:=by
     rcases t1 with t1|t1;.exact .inl t1
     .exact .inr (Y5 t1)
    rw[qJ hh];refine⟨λ_=>hh,?_,om,λq=>?_,(by grind),?_,MQ (MO op) h hk⟩;.cases hr:bZ P e U op with |all f=>rw[hr]at h;cases h|any l=>rw[hr]at h;cases h|_=>rfl
    .have:=t3.resolve_left (λw=>w q);unfold Q2 at this;grind
    .rcases t5 with(t5|t5)|t5;.grind[Mc]
     .obtain⟨t5,t6⟩:=t5;subst t5;cases op with
      |alloc t=>simp only[bZ];unfold rR;split<;>first|trivial|exact⟨sm,λ_=>.inl ⟨_,rfl⟩⟩
      |box t x=>simp only[bZ];unfold vC;split<;>first|trivial|exact⟨sm,λ_=>.inl ⟨_,rfl⟩⟩
      |_=>cases t6
     grind[AH]
   grind
def FL(P:Program)(call:lq)(n0:Kp)(ms:aik)(ops:List Oper)(q:List (Nat×Nat)):Nat->List Oper->List V->St->Option (List V×St) |_,[],l,U=>some (l,U)|i,o::rest,l,U=>match JK o.guard ops (eI ms l)with
  |none=>none|some true=>(match DR P call n0 (zX q i o) o.dst (eI ms l) U o.op with |some (v,U')=>(match qU o.dst v l with|some l'=>FL P call n0 ms ops q (i+1) rest l' U'|none=>none)|none=>none)|some false=>(match qU o.dst (.cm []) l with|some l'=>FL P call n0 ms ops q (i+1) rest l' U|none=>none)
theorem MR{P:Program}{call:lq}(hc:si P call)(aa:DS P call){n0:Kp}{ms:aik}{ops:List Oper}{q:List (Nat×Nat)}{c:Ctx}:∀(rest:List Oper)(i:Nat)(l:List V)(U:St)(l':List V)(U':St),FL P call n0 ms ops q i rest l U=some (l',U')->l.length<=100000->l'.length=l.length/\∀K:KT,K (eI ms l') U'->rY P c l.length n0 ops q i rest K (eI ms l) U
 |[],i,l,U,l',U',h,hl=>by cases h;exact⟨rfl,λK hk=>hk⟩|o::rest,i,l,U,l',U',h,hl=>by
  unfold FL at h;split at h;.cases h
  .rename_i hg;split at h
   .rename_i v s1 ho;split at h;.rename_i l1 hp;obtain⟨e1,e2⟩:=JJ (ms:=ms) hp hl;obtain⟨e3,e4⟩:=MR hc aa (c:=c) rest (i+1) l1 s1 l' U' h om;refine⟨om,λK hk=>?_⟩;refine JL hg (λ_=>?_) sm;grind[Y7]
    grind
   grind
  .rename_i hg;split at h;.rename_i l1 hp;obtain⟨e1,e2⟩:=JJ (ms:=ms) hp hl;obtain⟨e3,e4⟩:=MR hc aa (c:=c) rest (i+1) l1 U l' U' h om;refine⟨om,λK hk=>?_⟩;refine JL hg sm (λ_=>?_);grind
   grind
def MS:Nat->List Oper->List (Nat×Nat) |_,[]=>[]|i,o::os=>(match o.op with|.call ⟨.value _,_,_⟩=>[(i,0)]|_=>[])++MS (i+1) os
def MT:Nat->List Oper->List (Nat×Nat) |_,[]=>[]|i,o::os=>(match o.op with|.store ..=>[(i,4)]|.call ⟨.builtin .append,_,_⟩=>[(i,4)]|_=>[])++MT (i+1) os
def Q4:Nat->List Oper->List (Nat×Nat) |_,[]=>[]|i,o::os=>(match o.op with|.store ..=>[(i,4)]|.call ⟨.builtin .append,_,_⟩=>[(i,4)]|.call ⟨.value _,_,_⟩=>[(i,4)]|_=>[])++Q4 (i+1) os
def Q5:Nat->List Oper->List (Nat×Nat) |_,[]=>[]|i,o::os=>(match o.op with|.store ..=>[(i,4)]|.load ..=>[(i,4)]|.alloc _=>[(i,4)]|.call ⟨.builtin .append,_,_⟩=>[(i,4)]|.call ⟨.value _,_,_⟩=>[(i,4)]|_=>[])++Q5 (i+1) os
def Q6(ops:List Oper):List (List (Nat×Nat)):=[[],MS 0 ops,MT 0 ops,MS 0 ops++MT 0 ops,Q4 0 ops,Q5 0 ops]
def JN(P:Program)(call:lq)(ms:aik)(ops:List Oper)(l:List V)(U:St):List (List (Nat×Nat))->Option (List V×St) |[]=>none|q::qs=>if uH ops q then(match FL P call (Kp.pre U.length) ms ops q 0 ops l U with|some r=>some r|none=>JN P call ms ops l U qs)else JN P call ms ops l U qs
def MU(P:Program)(call:lq)(ms:aik)(ops:List Oper)(l:List V)(U:St):Option (List V×St):=if rX ops then JN P call ms ops l U (Q6 ops)else none
theorem Q7{call:lq}(hc:si P call)(aa:DS P call)(hm:P.follows .mixedOrders){ops:List Oper}{id:Nat}{l':List V}(h:MU P call ms ops l U=some (l',U'))(hl:l.length<=100000):l'.length=l.length/\∀Q:QT,Q .normal (eI ms l') U'->VW P c l.length (.region id ops.toArray true) Q (eI ms l) U:=by
 unfold MU at h;split at h
 .rename_i he;have go:∀q,uH ops q=true->FL P call (Kp.pre U.length) ms ops q 0 ops l U=some (l',U')->l'.length=l.length/\∀Q:QT,Q .normal (eI ms l') U'->VW P c l.length (.region id ops.toArray true) Q (eI ms l) U:=by intro q hd hx;obtain⟨e1,e2⟩:=MR hc aa (c:=c) ops 0 l U l' U' hx hl;exact⟨e1,λQ hq=>yB q U.length rfl hm (by grind) (e2 (Q .normal) hq)⟩
  generalize Q6 ops=qs at h;induction qs<;>grind[JN]
 grind
abbrev RunT:=aik->Code->List V->St->Option (Exit×List V×St)
def Q8:Exit->Bool|.normal|.ret=>true|_=>false
def sj(P:Program)(H:FuncId->aik)(run:RunT):lq:=λfv az U=>match fv with |.fn f bY=>(match P.funcs[f]?with |some fn=>(match fn.body with |some code=>if decide ((az++bY).length<=fn.ntmps)&&decide (fn.ntmps<=100000)then(match run (H f) code ((az++bY)++List.replicate (fn.ntmps-(az++bY).length) .u) U with |some (x,l',U')=>if Q8 x&&decide (U.length<=U'.length)then(match mC P fn.results.toList (eI (H f) l') U' with|some v=>some (v,U')|none=>none)else none|none=>none)else none|none=>none)|none=>none)|_=>none
def AQ(T call:lq):lq:=λfv az U=>match T fv az U with|some r=>some r|none=>call fv az U
theorem Y8{T call:lq}(hT:si P T)(hc:si P call):si P (AQ T call):=by
 intro fv az U v U' h c;unfold AQ at h;split at h;.rename_i r hr;cases h;exact hT _ _ _ _ _ hr c
 .exact hc _ _ _ _ _ h c
theorem Y9{T call:lq}(hT:∀fv az,T fv az []=none)(hc:DS P call):DS P (AQ T call):=by intro fv az v U' h;unfold AQ at h;rw[hT]at h;exact hc fv az v U' h
def eC:lq:=λ_ _ _=>none
theorem Q9:si P eC:=λ_ _ _ _ _ h=>by cases h
def p0(P:Program)(T:lq)(H:FuncId->aik)(run:RunT):RunT:=λms code l U=>match code with
 |.skip=>some (.normal,l,U)|.label _=>some (.normal,l,U)|.exit id=>some (.exit id,l,U)|.ret=>some (.ret,l,U)|.seq x y=>(match run ms x l U with |some (.normal,l',U')=>run ms y l' U'|r=>r)|.cond x t f=>(match zI (eI ms l) x with|.bool true=>run ms t l U|.bool false=>run ms f l U|_=>none)|.block id b=>(match run ms b l U with |some (.exit s8,l',U')=>if s8=id then some (.normal,l',U')else some (.exit s8,l',U')|r=>r)|.region _ ops draw=>if draw then(match MU P (AQ T (sj P H run)) ms ops.toList l U with|some (l',U')=>some (.normal,l',U')|none=>none)else(match Hn P (AQ T (sj P H run)) ms ops.toList ops.toList l U with|some (l',U')=>some (.normal,l',U')|none=>none)|.loop b=>(match run ms b l U with |some (.normal,l',U')=>run ms (.loop b) l' U'|r=>r)|_=>none
def qV(P:Program)(T:lq)(H:FuncId->aik):Nat->RunT |0=>λ_ _ _ _=>none|n+1=>p0 P T H (qV P T H n)
def Ra:Exit->Bool|.normal|.ret|.exit _=>true|_=>false
def Hp(P:Program)(run:RunT):Prop:=∀ms code l U x l' U',run ms code l U=some (x,l',U')->l.length<=100000->l'.length=l.length/\Ra x=true/\∀(c:Ctx)(Q:QT),Q x (eI ms l') U'->VW P c l.length code Q (eI ms l) U
theorem Za(hl:l.length<=100000)(n:Nat):eI [] (l++List.replicate n .u)=kh 0 l:=by funext t;have e1:=LO l 0 t;rw[Ab]at e1;rw[e1];unfold eI;grind
theorem Zb{t:Nat}:fe (eI ms l) (100000+t) (.cm [])=eI (t::ms) l:=by
 funext k;unfold fe eI;by_cases hk:k=100000+t;.simp_all;omega
 .rw[ahO hk];by_cases h0:k<100000;.rw[ahP h0,ahP h0]
  .have h2:(k-100000==t)=false:=by simp;omega
   rw[ahO h0,ahO h0,Di,h2,Bf]
theorem VW.marks{code:Code}{Q:QT}(hn:nt<=100000)(ms:aik)(h:VW P c nt code Q (eI ms l) U):VW P c nt code Q (eI [] l) U:=by induction ms with |nil=>exact h|cons t ms ih=>refine ih ?_;have h2:=qQ (P:=P) (c:=c) (nt:=nt) (Q:=Q) (e:=eI ms l) (U:=U) t (y:=code) hn;rw[Zb]at h2;exact h2 h
theorem DT{k i:Nat}:cO (List.range k) k i=i:=by grind[tg,rU]
theorem Zc{n0:Nat}(h:n0<=U.length):gy n0 (List.range U.length) U U:=by refine⟨sm,Bw,λi j o hi ho=>?_,(by grind)⟩;grind[AO,DT]
theorem JO{run:RunT}(hr:Hp P run){f:FuncId}{bY az:List V}{v:V}(h:sj P H run (.fn f bY) az U=some (v,U')):bL P f (az++bY) U (λr s=>r=v/\s=U')/\(P.funcs[f]?.bind (·.body)).isSome=true/\(U=[]->iH v=true->bL P f (az++bY) U (λr s=>r=v/\s=[])):=by
 unfold sj at h;simp only at h;split at h
 .rename_i fn hf;split at h
  .rename_i code hb;split at h
   .rename_i hlen;simp only[A8,ahS]at hlen;split at h
    .rename_i x l' s1 hx;split at h
     .rename_i aa;simp only[A8,ahS]at aa;split at h
      .rename_i v' hv;cases h;have ab:((az++bY)++List.replicate (fn.ntmps-(az++bY).length) V.u).length=fn.ntmps:=by grind
       obtain⟨e1,e2,e3⟩:=hr _ _ _ _ _ _ _ hx om;have key:∀R:V->St->Prop,qE U.length R v U'->bL P f (az++bY) U R:=by intro R hR;refine bL.oW (rs:=fn.results.toList) U.length hf rfl sm hb rfl hlen.1 λc _ _=>?_;rw[<-Za om (fn.ntmps-(az++bY).length)];refine VW.marks hlen.2 (H f) ?_;have:=e3 c (mD P fn.results.toList U.length R);rw[ab]at this;refine this ?_;have hq:∃v,mC P fn.results.toList (eI (H f) l') U'=some v/\qE U.length R v U':=(by grind);cases x with |normal=>exact hq|ret=>exact hq|_=>simp[Q8]at aa
       refine⟨key _ ⟨v,U',List.range U'.length,U',v,.refl _ _,Zc aa.2,.inl (by grind[AN,DT]),rfl,rfl⟩,?_,λh0 hn=>?_⟩;.grind
       .subst h0;refine key _ ⟨v,U',[],[],v,.refl _ _,⟨rfl,C5,sm,sm⟩,zD hn,rfl,rfl⟩
      grind
     grind
    grind
   grind
  grind
 grind
theorem Zd{s:St}(h:U.length<=s.length):wD (List.range U.length) U s=s:=by
 have hid:yO (cO (List.range U.length) U.length)=λo=>o:=funext (by grind[AO,DT]);apply Bs;intro i;by_cases hi:i<s.length;.have:=EU (cS:=List.range U.length) (Uc:=U) (U':=s) Bw (λq hq=>D4.1 hq) (sU h) (A0 hi);grind[DT]
 grind[Jy]
theorem Rb{f:FuncId}(hN:(P.funcs.all λfn=>!(fn.name=="runtime.NumGoroutine"))=true)(h:(P.funcs[f]?.bind (·.body)).isSome):wQ P f=true:=by grind[wQ]
theorem Ze{run:RunT}(hr:Hp P run)(hN:(P.funcs.all λfn=>!(fn.name=="runtime.NumGoroutine"))=true):si P (sj P H run):=by intro fv az U v U' h c;cases fv with
 |fn f bY=>
  obtain⟨h1,h2,_⟩:=JO hr h;refine VC.of h1 (Rb hN h2) (List.range U.length) Bw sm (λi j o hi ho=>?_) ?_ ?_;.grind[AO,DT]
  .have:∀l:List V,bM (cR (cO (List.range U.length) U.length)) l l:=by intro l;induction l with |nil=>trivial|cons a l ih=>exact⟨.inl (by grind[AN,DT]),ih⟩
   grind
  .rintro r s ⟨rfl,rfl⟩hl;rw[AN (λi=>DT),Zd (by grind)];simp|_=>cases h
theorem Zf{run:RunT}(hr:Hp P run)(hN:(P.funcs.all λfn=>!(fn.name=="runtime.NumGoroutine"))=true):DS P (sj P H run):=by intro fv az v U' h hn hf ha c s;cases fv with
 |fn f bY=>
  obtain⟨_,h2,h3⟩:=JO hr h;have hcn:bY.all iH:=by simp only[iH,vT,oZ]at hf;rw[Aj]at hf⊢;intro x hx;have:=hf x hx;cases x<;>first|exact this|cases this
  refine zJ (P:=P) (c:=c) (KV:=λr s'=>r=v/\s'=s) (h3 rfl hn) (Rb hN h2) (yC (by grind)) hn sm|_=>cases h
section
variable{P:Program}{T:lq}{H:FuncId->aik}
theorem Rc{ms:aik}{b:Code}{x:Exit}{l':List V}{U':St}{N nt:Nat}(hk:∀k,k<=N->Hp P (qV P T H k))(ab:nt<=100000){c:Ctx}{Q:QT}(hx:Ra x)(hQ:Q x (eI ms l') U'){l:List V}{U:St}(h:qV P T H (N+1) ms (.loop b) l U=some (x,l',U'))(hl:l.length=nt):VW P c nt (.loop b) Q (eI ms l) U:=by intro a w L I hs;refine Qs (λm a w=>∃l U L I,m<=N+1/\l.length=nt/\qV P T H m ms (.loop b) l U=some (x,l',U')/\dM c nt (eI ms l) U a w L I) (N+1) (by grind) ?_;rintro m a w ⟨l,U,L,I,hm,hl,h,hs⟩;cases m with |zero=>cases h|succ k=>
  have h:p0 P T H (qV P T H k) ms (.loop b) l U=some (x,l',U'):=h;simp only[p0]at h;split at h;.rename_i l1 U1 hb;obtain⟨e1,e2,e3⟩:=hk k om _ _ _ _ _ _ _ hb om;have e4:=e3 c (λex e s=>ex=.normal/\e=eI ms l1/\s=U1) ⟨rfl,rfl,rfl⟩;rw[hl]at e4;refine wp_mono (e4 a w L I hs) λex a' w' q=>?_;cases ex with |normal=>obtain⟨e',s',L',I',aa,_,rfl,rfl⟩:=q;exact⟨k,om,l1,s',L',I',om,om,h,aa⟩|exit id=>obtain⟨_,_,_,_,_,q,_⟩:=q;cases q|ret=>obtain⟨_,_,_,_,_,q,_⟩:=q;cases q|goto _=>simpa|panic _=>simpa|outgrown=>simpa
  .rename_i ad;obtain⟨e1,e2,e3⟩:=hk k om _ _ _ _ _ _ _ h om;have e4:=e3 c (λex e s=>ex=x/\e=eI ms l'/\s=U') ⟨rfl,rfl,rfl⟩;rw[hl]at e4;refine wp_mono (e4 a w L I hs) λex a' w' q=>?_;cases ex with |normal=>obtain⟨e',s',L',I',aa,q,_,_⟩:=q;simp_all|exit id=>obtain⟨e',s',L',I',aa,rfl,rfl,rfl⟩:=q;exact⟨_,_,L',I',aa,hQ⟩|ret=>obtain⟨e',s',L',I',aa,rfl,rfl,rfl⟩:=q;exact⟨_,_,L',I',aa,hQ⟩|goto _=>simpa|panic _=>simpa|outgrown=>simpa
theorem Re(hT:si P T)(hT0:∀fv az,T fv az []=none)(hN:(P.funcs.all λfn=>!(fn.name=="runtime.NumGoroutine"))=true)(hm:P.follows .mixedOrders):∀n k,k<=n->Hp P (qV P T H k):=by intro n;induction n with |zero=>intro k hk;have:k=0:=om;subst this;intro ms code l U x l' U' h;cases h|succ n ih=>
  intro k hk;rcases Ck k (n+1)with PZ|hge;.grind
  have:k=n+1:=om;subst this;have tz:=ih n (A6 n);have hc:si P (AQ T (sj P H (qV P T H n))):=Y8 hT (Ze tz hN);have Rf:DS P (AQ T (sj P H (qV P T H n))):=(by grind[Y9,Zf]);intro ms code l U x l' U' h0 hl;have h:p0 P T H (qV P T H n) ms code l U=some (x,l',U'):=h0;cases code with
  |skip=>simp only[p0]at h;cases h;exact⟨rfl,rfl,λc Q hQ=>rV .skip Q _ _ hQ⟩|label s=>simp only[p0]at h;cases h;exact⟨rfl,rfl,λc Q hQ=>rV (.label s) Q _ _ hQ⟩|exit id=>simp only[p0]at h;cases h;exact⟨rfl,rfl,λc Q hQ=>rV (.exit id) Q _ _ hQ⟩|ret=>simp only[p0]at h;cases h;exact⟨rfl,rfl,λc Q hQ=>rV .ret Q _ _ hQ⟩|seq x1 y1=>
   simp only[p0]at h;split at h;.rename_i l1 U1 hb;obtain⟨e1,e2,e3⟩:=tz _ _ _ _ _ _ _ hb hl;obtain⟨f1,f2,f3⟩:=tz _ _ _ _ _ _ _ h om;refine⟨om,f2,λc Q hQ=>?_⟩;refine Jz (K:=λe s=>e=eI ms l1/\s=U1) (e3 c _ (by trivial)) ?_;rintro e' s' ⟨rfl,rfl⟩;have:=f3 c Q hQ;rwa[e1]at this
   .rename_i Zg;obtain⟨e1,e2,e3⟩:=tz _ _ _ _ _ _ _ h hl;refine⟨e1,e2,λc Q hQ=>?_⟩;refine Jz (K:=λ_ _=>False) (e3 c _ ?_) sm;show LN _ Q x _ _;cases x with |normal=>grind|_=>exact hQ
  |cond y t f=>
   simp only[p0]at h;split at h;.rename_i hy;obtain⟨e1,e2,e3⟩:=tz _ _ _ _ _ _ _ h hl;exact⟨e1,e2,λc Q hQ=>JA hy (λ_=>e3 c Q hQ) sm⟩
   .rename_i hy;obtain⟨e1,e2,e3⟩:=tz _ _ _ _ _ _ _ h hl;exact⟨e1,e2,λc Q hQ=>JA hy sm (λ_=>e3 c Q hQ)⟩
   grind|block id b=>
   simp only[p0]at h;split at h
   .rename_i s8 l1 U1 hb;obtain⟨e1,e2,e3⟩:=tz _ _ _ _ _ _ _ hb hl;split at h;.rename_i hid;cases h;refine⟨e1,rfl,λc Q hQ=>pX (e3 c _ ?_)⟩;show(if s8=id then Q .normal _ _ else Q (.exit s8) _ _);grind
    .rename_i hid;cases h;refine⟨e1,rfl,λc Q hQ=>pX (e3 c _ ?_)⟩;show(if s8=id then Q .normal _ _ else Q (.exit s8) _ _);grind
   .rename_i Zg;obtain⟨e1,e2,e3⟩:=tz _ _ _ _ _ _ _ h hl;refine⟨e1,e2,λc Q hQ=>pX (e3 c _ ?_)⟩;show CE id Q x _ _;cases x with |exit s8=>grind|_=>exact hQ
  |region id ops draw=>cases draw with
   |true=>
    simp only[p0,ai0]at h;split at h;.rename_i l1 U1 hx;cases h;refine⟨(Q7 hc Rf hm (c:=⟨default,λ_=>0,[],[],[]⟩) (id:=id) hx hl).1,rfl,λc Q hQ=>?_⟩;have:=(Q7 hc Rf hm (c:=c) (id:=id) hx hl).2 Q hQ;omega
    grind|false=>
    simp only[p0,Cf,ai3]at h;split at h;.rename_i l1 U1 hx;cases h;refine⟨(JM hc (c:=⟨default,λ_=>0,[],[],[]⟩) _ _ _ _ _ hx hl).1,rfl,λc Q hQ=>?_⟩;have:=(JM hc (c:=c) _ _ _ _ _ hx hl).2 (Q .normal) hQ;grind[rV,qC]
    grind
  |loop b=>
   have hh:=h;simp only[p0]at h;split at h;.rename_i l1 U1 hb;obtain⟨e1,e2,e3⟩:=tz _ _ _ _ _ _ _ hb hl;obtain⟨f1,f2,f3⟩:=tz _ _ _ _ _ _ _ h om;exact⟨om,f2,λc Q hQ=>Rc ih hl f2 hQ h0 rfl⟩
   .obtain⟨e1,e2,e3⟩:=tz _ _ _ _ _ _ _ h hl;exact⟨e1,e2,λc Q hQ=>Rc ih hl e2 hQ h0 rfl⟩|rangeFunc _ _ _ _=>trivial|scope _=>trivial|goto _=>trivial|refuse _=>trivial
theorem Rg(hN:(P.funcs.all λfn=>!(fn.name=="runtime.NumGoroutine"))=true)(hm:P.follows .mixedOrders)(H:FuncId->aik)(n:Nat){f:FuncId}{az:List V}{U U':St}{v:V}(h:sj P H (qV P eC H n) (.fn f []) az U=some (v,U')):bL P f az U (λr s=>r=v/\s=U'):=by have:=(JO (Re Q9 (λ_ _=>rfl) hN hm n n om) h).1;grind
def Rh(P:Program)(H:FuncId->aik)(n:Nat)(f:FuncId)(az:List V):Option V:=match sj P H (qV P eC H n) (.fn f []) az []with |some (v,_)=>if iH v then some v else none|none=>none
theorem pf(hN:(P.funcs.all λfn=>!(fn.name=="runtime.NumGoroutine"))=true)(hm:P.follows .mixedOrders)(H:FuncId->aik)(n:Nat){f:FuncId}{az:List V}{v:V}(h:Rh P H n f az=some v):Pure P f az v:=by
 unfold Rh at h;split at h
 .rename_i v' s hx;split at h;.rename_i hn;cases h;have:=(JO (Re Q9 (λ_ _=>rfl) hN hm n n om) hx).2.2 rfl hn;grind
  grind
 grind
end
section
variable{P:Program}{c:Ctx}{nt:Nat}{n0:Kp}{K:KT}{e:Env}{U:St}{d:Option Tmp}
variable{x:Operand}{t:TypeId}{k:Operand}
@[go_sem]theorem wj:ef P c nt d (.mapEntry t x k) K fx fx e U=dN nt d (wN (gq P t) U (zI e x) (zI e k)) K fx e U:=(xH rfl rfl).trans rfl
@[go_sem]theorem tC{s v:Operand}:ef P c nt d (.entryStore t x s v) K fx fx e U=dN nt d (wB U (zI e x) (zI e s) (zI e v)) K fx e U:=(xH rfl rfl).trans rfl
@[go_sem]theorem FM:ef P c nt d (.entry x) K fx fx e U=dN nt d (qx U (zI e x)) K fx e U:=(xH rfl rfl).trans rfl
@[go_sem]theorem JP:ef P c nt d (.makeInterface t x) K fx fx e U=dN nt d (ze (ER P t) t (zI e x)) K fx e U:=(xH rfl rfl).trans rfl
@[go_sem]theorem AR{ok:Bool}:ez P c nt n0 4 d (.lookup t x k ok) K fx fx e U=ef P c nt d (.lookup t x k ok) K fx fx e U:=Jt (λ_ _ _ _ _ h=>by cases h) (λ_ _ h=>by cases h) (λ_ _=>rfl) (λ_ _ _ h=>by cases h)
@[go_sem]theorem tD{v:Operand}:ez P c nt n0 4 d (.mapUpdate t x k v) K fx fx e U=ef P c nt d (.mapUpdate t x k v) K fx fx e U:=Jt (λ_ _ _ _ _ h=>by cases h) (λ_ _ h=>by cases h) (λ_ _=>rfl) (λ_ _ _ h=>by cases h)
@[go_sem]theorem sk{s v:Operand}:ez P c nt n0 4 d (.entryStore t x s v) K fx fx e U=ef P c nt d (.entryStore t x s v) K fx fx e U:=Jt (λ_ _ _ _ _ h=>by cases h) (λ_ _ h=>by cases h) (λ_ _=>rfl) (λ_ _ _ h=>by cases h)
theorem JQ(h2:jo n0 3 U (wN (gq P t) U (zI e x) (zI e k)))(h:ef P c nt d (.mapEntry t x k) K fx fx e U):ez P c nt n0 3 d (.mapEntry t x k) K fx fx e U:=by rw[Ju (λ_ _ _ _ _ h=>by cases h) (λ_ _=>rfl) h2 (λ_ _ _ h=>by cases h)];exact h
theorem Ri{s v:Operand}(h2:jo n0 3 U (wB U (zI e x) (zI e s) (zI e v)))(h:ef P c nt d (.entryStore t x s v) K fx fx e U):ez P c nt n0 3 d (.entryStore t x s v) K fx fx e U:=by rw[Ju (λ_ _ _ _ _ h=>by cases h) (λ_ _=>rfl) h2 (λ_ _ _ h=>by cases h)];exact h
theorem Rj{m:Option (Kk×V)}{id:Nat}{kv:V}{ok:Bool}{g:Ob->R}(hg:g=λo=>wI m [o] (.mp 0) kv ok)(s:St):wI m s (.mp id) kv ok=match s[id]?.map g with |some r=>r|none=>wI m [] (.mp 0) kv ok:=by subst hg;unfold wI;cases m with |none=>cases s[id]?<;>rfl|some p=>
  obtain⟨kd,z⟩:=p;by_cases hk:nf kd kv=true;.cases h:s[id]?<;>simp[hk,h]
  .cases h:s[id]?<;>simp[hk]
theorem Rk{ok:Bool}{id:Nat}{kv:V}{m:Option (Kk×V)}{g:Ob->R}(hx:zI e x=.mp id)(hk:zI e k=kv)(hm:gq P t=m)(hg:g=λo=>wI m [o] (.mp 0) kv ok)(ad:n0.ob=some (id,g))(hn:id<n0.n){v:V}(hv:wI m U (.mp id) kv ok=.ok v)(h:iQ nt d v K fx e U):ez P c nt n0 1 d (.lookup t x k ok) K fx fx e U:=by
 have aa:∀s,bZ P e s (.lookup t x k ok)=wI m s (.mp id) kv ok:=λs=>by simp only[bZ,hx,hk,hm]
 have ab:∀s,n0.of s=n0.of U->bZ P e s (.lookup t x k ok)=bZ P e U (.lookup t x k ok):=λs hs=>by rw[aa s,aa U,Rj hg s,Rj hg U];have h2:=ahU Prod.snd hs;unfold Kp.of at h2;simp only[ad,An,Aw,ahP hn]at h2;rw[h2]
 show ft P c nt n0 1 d (.lookup t x k ok) K e U;have h1:=uK (P:=P) (e:=e) (U:=U) (.lookup t x k ok) (λ_ _ _ _ _ h=>by cases h);have h0:qM (bZ P e U (.lookup t x k ok))=false:=by simp only[bZ];unfold wI;(repeat' split)<;>rfl
 have hh:cK P d e (.lookup t x k ok):=.inr λ_ _=>rfl;unfold ft;refine⟨λ_=>hh,by rw[qJ hh];exact h1,λq=>by simp at q,λ_=>.inr ⟨λ_ _ h=>(by cases h),ab⟩,λq=>absurd q (by rw[qJ hh,h0];decide),by rw[qJ hh];exact AH h0,?_⟩;rw[qJ hh,aa U,hv];exact h
@[go_sem]theorem Kp.MV{n id:Nat}{ex:aik}{ob:Option (Nat×(Ob->R))}:(Kp.mk 0 n ex ob).has id=(decide (id<n)&&!ex.contains id):=by simp[Kp.has]
theorem zY{n0:Nat}{keep:aik}{vs:List V}{e:Env}{U:St}(hn:n0<=U.length)(h:keep.map e=vs):At n0 keep vs U e U:=by
 have ra:∀i,cO (List.range U.length) U.length i=i:=λi=>by
  by_cases h:i<U.length;.exact tg h
  .rw[rU (by simp;omega)];simp;omega
 refine⟨List.range U.length,⟨sm,Bw,λi j o hi ho=>?_,λi hi=>by rw[Dr om]⟩,?_⟩;.obtain⟨h1,h2⟩:=A5.1 hi;simp at h1 h2;subst h2;rw[AO ra];exact ho
 .rw[h];have:∀l:List V,bM (cR (cO (List.range U.length) U.length)) l l:=by intro l;induction l with |nil=>trivial|cons a l ih=>exact⟨.inl (AN ra a).symm,ih⟩
  exact this _
theorem MW{id:Nat}{ops:List Oper}{Q:QT}(q:List (Nat×Nat))(k:Kp)(hn:k.n<=U.length)(hm:P.follows .mixedOrders)(hd:(uH ops q&&rX ops))(h:rZ P c nt k ops q 0 ops (Q .normal) fx fx fx e U):ga P c nt (.region id ops.toArray true) Q fx fx e U:=by simp only[A8]at hd;obtain⟨tr,ht,hK⟩:=DF ops 0 (Q .normal) e U h;exact VW.draw (n0:=k) hm hn hd.1 hd.2 ht hK
end
end Go.Vx
