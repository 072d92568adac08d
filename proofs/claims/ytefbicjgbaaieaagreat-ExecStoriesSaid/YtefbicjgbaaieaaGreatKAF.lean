/-
  Rules of the walk for maps: an entry that is laid for `m[k] op= v`, looked at and laid in regions whose order is open.
  No condition: a library text; nothing of the program is named.
-/
import Derived.Test.YtefbicjgbaaieaaGreatKAE
set_option maxHeartbeats 8000000
namespace Go.Vx
open Go
variable{P:Program}{U:St}{l:List V}{ms:aid}{U':St}{c:Ctx}{d:Option Tmp}{e:Env}{op:Op}{nt:Nat}{H:FuncId->aid}
def eI(ms:aid)(l:List V):Env:=λt=>if t<100000then l.getD t .u else if ms.contains (t-100000)then .cm []else .u
theorem YX{t:Nat}{v:V}(h:t<l.length)(hl:l.length<=100000):fe (eI ms l) t v=eI ms (l.set t v):=by funext k;simp only[fe,eI];grind
def qS(d:Option Tmp)(v:V)(l:List V):Option (List V):=match d with |some t=>if t<l.length then some (l.set t v)else none|none=>some l
theorem JG{v:V}{l':List V}(h:qS d v l=some l')(hl:l.length<=100000):l'.length=l.length/\∀(K:KT)(U:St),K (eI ms l') U->eV l.length d v K (eI ms l) U:=by
 unfold qS at h;unfold eV;split at h;.grind[YX]
 grind
def JH(g:Option (Nat×Bool))(ops:List Oper)(e:Env):Option Bool:=match g with |none=>some true|some (j,want)=>(match kf ops j with|some t=>(match e t with|.bool b=>some (b==want)|.cm []=>some false|_=>none)|none=>none)
theorem JI{g:Option (Nat×Bool)}{ops:List Oper}{A B:Prop}{r:Bool}(h:JH g ops e=some r)(ha:r=true->A)(hb:r=false->B):uB g ops e A B:=by
 unfold JH at h;unfold uB;split at h;.grind
 .split at h;.rename_i t ht;simp only[ht];unfold kT;grind
  grind
abbrev lp:=V->List V->St->Option (V×St)
def sf(P:Program)(call:lp):Prop:=∀fv az U v U',call fv az U=some (v,U')->∀c,VC P c fv az U (λr s=>r=v/\s=U')
def DO(P:Program)(call:lp)(d:Option Tmp)(e:Env)(U:St)(op:Op):Option (V×St):=match op with |.call ⟨.value f,args,_⟩=>call (zI e f) (args.toList.map (zI e)) U|op=>MM P d e U op
theorem YY{call:lp}(hc:sf P call){v:V}{K:KT}(h:DO P call d e U op=some (v,U'))(hk:eV nt d v K e U'):jg P c nt d op K e U:=by
 unfold DO at h;unfold jg;split at h;.refine(hc _ _ _ _ _ h c).mono ?_;grind
 .rename_i aa;split;.grind
  grind[YW]
def Hm(P:Program)(call:lp)(ms:aid)(ops:List Oper):List Oper->List V->St->Option (List V×St) |[],l,U=>some (l,U)|o::rest,l,U=>match JH o.guard ops (eI ms l)with
  |none=>none|some true=>(match DO P call o.dst (eI ms l) U o.op with |some (v,U')=>(match qS o.dst v l with|some l'=>Hm P call ms ops rest l' U'|none=>none)|none=>none)|some false=>(match qS o.dst (.cm []) l with|some l'=>Hm P call ms ops rest l' U|none=>none)
theorem JJ{P:Program}{call:lp}(hc:sf P call){ms:aid}{ops:List Oper}{c:Ctx}:∀(rest:List Oper)(l:List V)(U:St)(l':List V)(U':St),Hm P call ms ops rest l U=some (l',U')->l.length<=100000->l'.length=l.length/\∀K:KT,K (eI ms l') U'->kg P c l.length ops rest K (eI ms l) U
 |[],l,U,l',U',h,hl=>by cases h;exact⟨rfl,λK hk=>hk⟩|o::rest,l,U,l',U',h,hl=>by
  unfold Hm at h;split at h;.cases h
  .rename_i hg;split at h
   .rename_i v s1 ho;split at h;.rename_i l1 hp;obtain⟨e1,e2⟩:=JG (ms:=ms) hp hl;obtain⟨e3,e4⟩:=JJ hc (c:=c) rest l1 s1 l' U' h om;refine⟨om,λK hk=>?_⟩;refine JI hg (λ_=>?_) sm;grind[YY]
    grind
   grind
  .rename_i hg;split at h;.rename_i l1 hp;obtain⟨e1,e2⟩:=JG (ms:=ms) hp hl;obtain⟨e3,e4⟩:=JJ hc (c:=c) rest l1 U l' U' h om;refine⟨om,λK hk=>?_⟩;refine JI hg sm (λ_=>?_);grind
   grind
def Hn:Op->Bool |.buildSlice ..|.makeSlice ..|.convert ..|.call _|.next ..|.slice ..=>false|_=>true
theorem YZ(h:Hn op):∀e U,gX P e U op=bZ P e U op:=by intro e U;cases op<;>first|rfl|cases h
def QS(n0:Kp)(e:Env):Op->Bool |.load _ x=>DA n0 (zI e x)|_=>false
def Y0:Op->Bool |.alloc _|.box ..=>true|_=>false
def QU(P:Program)(n0:Kp)(k:Nat)(d:Option Tmp)(e:Env)(U:St)(op:Op):Bool:=(!l6 e d||Hn op)&&(k !=0||l8 op==0)&&(k !=1||QS n0 e op)&&(!qJ (bZ P e U op)||decide (3<=k))&&(k==4||(k==3&&Y0 op)||!qJ (bZ P e U op))
def DP(P:Program)(call:lp)(n0:Kp)(k:Nat)(d:Option Tmp)(e:Env)(U:St)(op:Op):Option (V×St):=match op with |.call ⟨.value f,args,_⟩=>if k=0then(match call (zI e f) (args.toList.map (zI e)) []with|some (v,_)=>if iH v&&iH (zI e f)&&(args.toList.map (zI e)).all iH then some (v,U)else none|none=>none)else if k=4then(match call (zI e f) (args.toList.map (zI e)) U with|some (v,U')=>if U.length<=U'.length then some (v,U')else none|none=>none)else none|op=>if QU P n0 k d e U op then qR (DN P false e U op) U (bZ P e U op)else none
def DQ(P:Program)(call:lp):Prop:=∀fv az v U',call fv az []=some (v,U')->iH v=true->iH fv=true->az.all iH=true->∀c s,VC P c fv az s (λr s'=>r=v/\s'=s)
theorem Y1{call:lp}(hc:sf P call)(hp:DQ P call){n0:Kp}{k:Nat}{v:V}{K:KT}(h:DP P call n0 k d e U op=some (v,U'))(hk:eV nt d v K e U'):fr P c nt n0 k d op K e U:=by
 unfold DP at h;unfold fr;split at h
 .split at h
  .rename_i ab;split at h
   .rename_i v' s' aa;split at h;.rename_i hn;cases h;simp only[A8]at hn;subst ab;refine⟨v,U,?_,λ_=>rfl,om,om,hk⟩;rw[ahJ rfl];exactλs=>hp _ _ _ _ aa hn.1.1 hn.1.2 hn.2 c s
    grind
   grind
  .split at h
   .rename_i ab ad;split at h
    .rename_i v' s' aa;split at h;.rename_i hle;cases h;subst ad;refine⟨v,U',?_,om,om,hle,hk⟩;rw[ahI dc,ahI dc];exact hc _ _ _ _ _ aa c
     grind
    grind
   grind
 .rename_i ae;split;.grind
  .split at h
   .rename_i ht;simp only[QU,A8,Ce,Dm,bne_iff_ne,ahR,ahM]at ht;obtain⟨⟨⟨⟨t1,t2⟩,t3⟩,t4⟩,t5⟩:=ht;have hh:cK P d e op:=by
     rcases t1 with t1|t1;.exact .inl t1
     .exact .inr (YZ t1)
    rw[qH hh];refine⟨λ_=>hh,?_,om,λq=>?_,(by grind),?_,MN (ML op) h hk⟩;.cases hr:bZ P e U op with |all f=>rw[hr]at h;cases h|any l=>rw[hr]at h;cases h|_=>rfl
    .have:=t3.resolve_left (λw=>w q);unfold QS at this;grind
    .rcases t5 with(t5|t5)|t5;.grind[L9]
     .obtain⟨t5,t6⟩:=t5;subst t5;cases op with
      |alloc t=>simp only[bZ];unfold rP;split<;>first|trivial|exact⟨sm,λ_=>.inl ⟨_,rfl⟩⟩
      |box t x=>simp only[bZ];unfold vC;split<;>first|trivial|exact⟨sm,λ_=>.inl ⟨_,rfl⟩⟩
      |_=>cases t6
     grind[AG]
   grind
def FH(P:Program)(call:lp)(n0:Kp)(ms:aid)(ops:List Oper)(q:List (Nat×Nat)):Nat->List Oper->List V->St->Option (List V×St) |_,[],l,U=>some (l,U)|i,o::rest,l,U=>match JH o.guard ops (eI ms l)with
  |none=>none|some true=>(match DP P call n0 (zX q i o) o.dst (eI ms l) U o.op with |some (v,U')=>(match qS o.dst v l with|some l'=>FH P call n0 ms ops q (i+1) rest l' U'|none=>none)|none=>none)|some false=>(match qS o.dst (.cm []) l with|some l'=>FH P call n0 ms ops q (i+1) rest l' U|none=>none)
theorem MO{P:Program}{call:lp}(hc:sf P call)(aa:DQ P call){n0:Kp}{ms:aid}{ops:List Oper}{q:List (Nat×Nat)}{c:Ctx}:∀(rest:List Oper)(i:Nat)(l:List V)(U:St)(l':List V)(U':St),FH P call n0 ms ops q i rest l U=some (l',U')->l.length<=100000->l'.length=l.length/\∀K:KT,K (eI ms l') U'->rX P c l.length n0 ops q i rest K (eI ms l) U
 |[],i,l,U,l',U',h,hl=>by cases h;exact⟨rfl,λK hk=>hk⟩|o::rest,i,l,U,l',U',h,hl=>by
  unfold FH at h;split at h;.cases h
  .rename_i hg;split at h
   .rename_i v s1 ho;split at h;.rename_i l1 hp;obtain⟨e1,e2⟩:=JG (ms:=ms) hp hl;obtain⟨e3,e4⟩:=MO hc aa (c:=c) rest (i+1) l1 s1 l' U' h om;refine⟨om,λK hk=>?_⟩;refine JI hg (λ_=>?_) sm;grind[Y1]
    grind
   grind
  .rename_i hg;split at h;.rename_i l1 hp;obtain⟨e1,e2⟩:=JG (ms:=ms) hp hl;obtain⟨e3,e4⟩:=MO hc aa (c:=c) rest (i+1) l1 U l' U' h om;refine⟨om,λK hk=>?_⟩;refine JI hg sm (λ_=>?_);grind
   grind
def MP:Nat->List Oper->List (Nat×Nat) |_,[]=>[]|i,o::os=>(match o.op with|.call ⟨.value _,_,_⟩=>[(i,0)]|_=>[])++MP (i+1) os
def MQ:Nat->List Oper->List (Nat×Nat) |_,[]=>[]|i,o::os=>(match o.op with|.store ..=>[(i,4)]|.call ⟨.builtin .append,_,_⟩=>[(i,4)]|_=>[])++MQ (i+1) os
def QV:Nat->List Oper->List (Nat×Nat) |_,[]=>[]|i,o::os=>(match o.op with|.store ..=>[(i,4)]|.call ⟨.builtin .append,_,_⟩=>[(i,4)]|.call ⟨.value _,_,_⟩=>[(i,4)]|_=>[])++QV (i+1) os
def QW:Nat->List Oper->List (Nat×Nat) |_,[]=>[]|i,o::os=>(match o.op with|.store ..=>[(i,4)]|.load ..=>[(i,4)]|.alloc _=>[(i,4)]|.call ⟨.builtin .append,_,_⟩=>[(i,4)]|.call ⟨.value _,_,_⟩=>[(i,4)]|_=>[])++QW (i+1) os
def QX(ops:List Oper):List (List (Nat×Nat)):=[[],MP 0 ops,MQ 0 ops,MP 0 ops++MQ 0 ops,QV 0 ops,QW 0 ops]
def JK(P:Program)(call:lp)(ms:aid)(ops:List Oper)(l:List V)(U:St):List (List (Nat×Nat))->Option (List V×St) |[]=>none|q::qs=>if uH ops q then(match FH P call (Kp.pre U.length) ms ops q 0 ops l U with|some r=>some r|none=>JK P call ms ops l U qs)else JK P call ms ops l U qs
def MR(P:Program)(call:lp)(ms:aid)(ops:List Oper)(l:List V)(U:St):Option (List V×St):=if rW ops then JK P call ms ops l U (QX ops)else none
theorem QY{call:lp}(hc:sf P call)(aa:DQ P call)(hm:P.follows .mixedOrders){ops:List Oper}{id:Nat}{l':List V}(h:MR P call ms ops l U=some (l',U'))(hl:l.length<=100000):l'.length=l.length/\∀Q:QT,Q .normal (eI ms l') U'->VW P c l.length (.region id ops.toArray true) Q (eI ms l) U:=by
 unfold MR at h;split at h
 .rename_i he;have go:∀q,uH ops q=true->FH P call (Kp.pre U.length) ms ops q 0 ops l U=some (l',U')->l'.length=l.length/\∀Q:QT,Q .normal (eI ms l') U'->VW P c l.length (.region id ops.toArray true) Q (eI ms l) U:=by intro q hd hx;obtain⟨e1,e2⟩:=MO hc aa (c:=c) ops 0 l U l' U' hx hl;exact⟨e1,λQ hq=>yB q U.length rfl hm (by grind) (e2 (Q .normal) hq)⟩
  generalize QX ops=qs at h;induction qs<;>grind[JK]
 grind
abbrev RunT:=aid->Code->List V->St->Option (Exit×List V×St)
def QZ:Exit->Bool|.normal|.ret=>true|_=>false
def si(P:Program)(H:FuncId->aid)(run:RunT):lp:=λfv az U=>match fv with |.fn f bY=>(match P.funcs[f]?with |some fn=>(match fn.body with |some code=>if decide ((az++bY).length<=fn.ntmps)&&decide (fn.ntmps<=100000)then(match run (H f) code ((az++bY)++List.replicate (fn.ntmps-(az++bY).length) .u) U with |some (x,l',U')=>if QZ x&&decide (U.length<=U'.length)then(match mC P fn.results.toList (eI (H f) l') U' with|some v=>some (v,U')|none=>none)else none|none=>none)else none|none=>none)|none=>none)|_=>none
def AP(T call:lp):lp:=λfv az U=>match T fv az U with|some r=>some r|none=>call fv az U
theorem Y2{T call:lp}(hT:sf P T)(hc:sf P call):sf P (AP T call):=by
 intro fv az U v U' h c;unfold AP at h;split at h;.rename_i r hr;cases h;exact hT _ _ _ _ _ hr c
 .exact hc _ _ _ _ _ h c
theorem Y3{T call:lp}(hT:∀fv az,T fv az []=none)(hc:DQ P call):DQ P (AP T call):=by intro fv az v U' h;unfold AP at h;rw[hT]at h;exact hc fv az v U' h
def eC:lp:=λ_ _ _=>none
theorem Q0:sf P eC:=λ_ _ _ _ _ h=>by cases h
def pY(P:Program)(T:lp)(H:FuncId->aid)(run:RunT):RunT:=λms code l U=>match code with
 |.skip=>some (.normal,l,U)|.label _=>some (.normal,l,U)|.exit id=>some (.exit id,l,U)|.ret=>some (.ret,l,U)|.seq x y=>(match run ms x l U with |some (.normal,l',U')=>run ms y l' U'|r=>r)|.cond x t f=>(match zI (eI ms l) x with|.bool true=>run ms t l U|.bool false=>run ms f l U|_=>none)|.block id b=>(match run ms b l U with |some (.exit s8,l',U')=>if s8=id then some (.normal,l',U')else some (.exit s8,l',U')|r=>r)|.region _ ops draw=>if draw then(match MR P (AP T (si P H run)) ms ops.toList l U with|some (l',U')=>some (.normal,l',U')|none=>none)else(match Hm P (AP T (si P H run)) ms ops.toList ops.toList l U with|some (l',U')=>some (.normal,l',U')|none=>none)|.loop b=>(match run ms b l U with |some (.normal,l',U')=>run ms (.loop b) l' U'|r=>r)|_=>none
def qT(P:Program)(T:lp)(H:FuncId->aid):Nat->RunT |0=>λ_ _ _ _=>none|n+1=>pY P T H (qT P T H n)
def Q1:Exit->Bool|.normal|.ret|.exit _=>true|_=>false
def Ho(P:Program)(run:RunT):Prop:=∀ms code l U x l' U',run ms code l U=some (x,l',U')->l.length<=100000->l'.length=l.length/\Q1 x=true/\∀(c:Ctx)(Q:QT),Q x (eI ms l') U'->VW P c l.length code Q (eI ms l) U
theorem Y4(hl:l.length<=100000)(n:Nat):eI [] (l++List.replicate n .u)=kh 0 l:=by funext t;have e1:=LL l 0 t;rw[Ab]at e1;rw[e1];unfold eI;grind
theorem Y5{t:Nat}:fe (eI ms l) (100000+t) (.cm [])=eI (t::ms) l:=by
 funext k;unfold fe eI;by_cases hk:k=100000+t;.simp_all;omega
 .rw[ahI hk];by_cases h0:k<100000;.rw[ahJ h0,ahJ h0]
  .have h2:(k-100000==t)=false:=by simp;omega
   rw[ahI h0,ahI h0,Di,h2,Bf]
theorem VW.marks{code:Code}{Q:QT}(hn:nt<=100000)(ms:aid)(h:VW P c nt code Q (eI ms l) U):VW P c nt code Q (eI [] l) U:=by induction ms with |nil=>exact h|cons t ms ih=>refine ih ?_;have h2:=qN (P:=P) (c:=c) (nt:=nt) (Q:=Q) (e:=eI ms l) (U:=U) t (y:=code) hn;rw[Y5]at h2;exact h2 h
theorem DR{k i:Nat}:cO (List.range k) k i=i:=by grind[tg,rS]
theorem Y6{n0:Nat}(h:n0<=U.length):gy n0 (List.range U.length) U U:=by refine⟨sm,Bv,λi j o hi ho=>?_,(by grind)⟩;grind[AN,DR]
theorem JL{run:RunT}(hr:Ho P run){f:FuncId}{bY az:List V}{v:V}(h:si P H run (.fn f bY) az U=some (v,U')):bL P f (az++bY) U (λr s=>r=v/\s=U')/\(P.funcs[f]?.bind (·.body)).isSome=true/\(U=[]->iH v=true->bL P f (az++bY) U (λr s=>r=v/\s=[])):=by
 unfold si at h;simp only at h;split at h
 .rename_i fn hf;split at h
  .rename_i code hb;split at h
   .rename_i hlen;simp only[A8,ahM]at hlen;split at h
    .rename_i x l' s1 hx;split at h
     .rename_i aa;simp only[A8,ahM]at aa;split at h
      .rename_i v' hv;cases h;have ab:((az++bY)++List.replicate (fn.ntmps-(az++bY).length) V.u).length=fn.ntmps:=by grind
       obtain⟨e1,e2,e3⟩:=hr _ _ _ _ _ _ _ hx om;have key:∀R:V->St->Prop,qC U.length R v U'->bL P f (az++bY) U R:=by intro R hR;refine bL.oU (rs:=fn.results.toList) U.length hf rfl sm hb rfl hlen.1 λc _ _=>?_;rw[<-Y4 om (fn.ntmps-(az++bY).length)];refine VW.marks hlen.2 (H f) ?_;have:=e3 c (mD P fn.results.toList U.length R);rw[ab]at this;refine this ?_;have hq:∃v,mC P fn.results.toList (eI (H f) l') U'=some v/\qC U.length R v U':=(by grind);cases x with |normal=>exact hq|ret=>exact hq|_=>simp[QZ]at aa
       refine⟨key _ ⟨v,U',List.range U'.length,U',v,.refl _ _,Y6 aa.2,.inl (by grind[AM,DR]),rfl,rfl⟩,?_,λh0 hn=>?_⟩;.grind
       .subst h0;refine key _ ⟨v,U',[],[],v,.refl _ _,⟨rfl,C5,sm,sm⟩,zD hn,rfl,rfl⟩
      grind
     grind
    grind
   grind
  grind
 grind
theorem Y7{s:St}(h:U.length<=s.length):wC (List.range U.length) U s=s:=by
 have hid:yO (cO (List.range U.length) U.length)=λo=>o:=funext (by grind[AN,DR]);apply Bs;intro i;by_cases hi:i<s.length;.have:=EP (cS:=List.range U.length) (Uc:=U) (U':=s) Bv (λq hq=>D4.1 hq) (sU h) (A0 hi);grind[DR]
 grind[Jv]
theorem Q2{f:FuncId}(hN:(P.funcs.all λfn=>!(fn.name=="runtime.NumGoroutine"))=true)(h:(P.funcs[f]?.bind (·.body)).isSome):wQ P f=true:=by grind[wQ]
theorem Y8{run:RunT}(hr:Ho P run)(hN:(P.funcs.all λfn=>!(fn.name=="runtime.NumGoroutine"))=true):sf P (si P H run):=by intro fv az U v U' h c;cases fv with
 |fn f bY=>
  obtain⟨h1,h2,_⟩:=JL hr h;refine VC.of h1 (Q2 hN h2) (List.range U.length) Bv sm (λi j o hi ho=>?_) ?_ ?_;.grind[AN,DR]
  .have:∀l:List V,bM (cR (cO (List.range U.length) U.length)) l l:=by intro l;induction l with |nil=>trivial|cons a l ih=>exact⟨.inl (by grind[AM,DR]),ih⟩
   grind
  .rintro r s ⟨rfl,rfl⟩hl;rw[AM (λi=>DR),Y7 (by grind)];simp|_=>cases h
theorem Y9{run:RunT}(hr:Ho P run)(hN:(P.funcs.all λfn=>!(fn.name=="runtime.NumGoroutine"))=true):DQ P (si P H run):=by intro fv az v U' h hn hf ha c s;cases fv with
 |fn f bY=>
  obtain⟨_,h2,h3⟩:=JL hr h;have hcn:bY.all iH:=by simp only[iH,vT,oV]at hf;rw[Aj]at hf⊢;intro x hx;have:=hf x hx;cases x<;>first|exact this|cases this
  refine zJ (P:=P) (c:=c) (KV:=λr s'=>r=v/\s'=s) (h3 rfl hn) (Q2 hN h2) (yC (by grind)) hn sm|_=>cases h
section
variable{P:Program}{T:lp}{H:FuncId->aid}
theorem Q3{ms:aid}{b:Code}{x:Exit}{l':List V}{U':St}{N nt:Nat}(hk:∀k,k<=N->Ho P (qT P T H k))(ab:nt<=100000){c:Ctx}{Q:QT}(hx:Q1 x)(hQ:Q x (eI ms l') U'){l:List V}{U:St}(h:qT P T H (N+1) ms (.loop b) l U=some (x,l',U'))(hl:l.length=nt):VW P c nt (.loop b) Q (eI ms l) U:=by intro a w L I hs;refine Qk (λm a w=>∃l U L I,m<=N+1/\l.length=nt/\qT P T H m ms (.loop b) l U=some (x,l',U')/\dM c nt (eI ms l) U a w L I) (N+1) (by grind) ?_;rintro m a w ⟨l,U,L,I,hm,hl,h,hs⟩;cases m with |zero=>cases h|succ k=>
  have h:pY P T H (qT P T H k) ms (.loop b) l U=some (x,l',U'):=h;simp only[pY]at h;split at h;.rename_i l1 U1 hb;obtain⟨e1,e2,e3⟩:=hk k om _ _ _ _ _ _ _ hb om;have e4:=e3 c (λex e s=>ex=.normal/\e=eI ms l1/\s=U1) ⟨rfl,rfl,rfl⟩;rw[hl]at e4;refine wp_mono (e4 a w L I hs) λex a' w' q=>?_;cases ex with |normal=>obtain⟨e',s',L',I',aa,_,rfl,rfl⟩:=q;exact⟨k,om,l1,s',L',I',om,om,h,aa⟩|exit id=>obtain⟨_,_,_,_,_,q,_⟩:=q;cases q|ret=>obtain⟨_,_,_,_,_,q,_⟩:=q;cases q|goto _=>simpa|panic _=>simpa|outgrown=>simpa
  .rename_i ad;obtain⟨e1,e2,e3⟩:=hk k om _ _ _ _ _ _ _ h om;have e4:=e3 c (λex e s=>ex=x/\e=eI ms l'/\s=U') ⟨rfl,rfl,rfl⟩;rw[hl]at e4;refine wp_mono (e4 a w L I hs) λex a' w' q=>?_;cases ex with |normal=>obtain⟨e',s',L',I',aa,q,_,_⟩:=q;simp_all|exit id=>obtain⟨e',s',L',I',aa,rfl,rfl,rfl⟩:=q;exact⟨_,_,L',I',aa,hQ⟩|ret=>obtain⟨e',s',L',I',aa,rfl,rfl,rfl⟩:=q;exact⟨_,_,L',I',aa,hQ⟩|goto _=>simpa|panic _=>simpa|outgrown=>simpa
theorem Q4(hT:sf P T)(hT0:∀fv az,T fv az []=none)(hN:(P.funcs.all λfn=>!(fn.name=="runtime.NumGoroutine"))=true)(hm:P.follows .mixedOrders):∀n k,k<=n->Ho P (qT P T H k):=by intro n;induction n with |zero=>intro k hk;have:k=0:=om;subst this;intro ms code l U x l' U' h;cases h|succ n ih=>
  intro k hk;rcases Ck k (n+1)with PO|hge;.grind
  have:k=n+1:=om;subst this;have tz:=ih n (A6 n);have hc:sf P (AP T (si P H (qT P T H n))):=Y2 hT (Y8 tz hN);have Q5:DQ P (AP T (si P H (qT P T H n))):=(by grind[Y3,Y9]);intro ms code l U x l' U' h0 hl;have h:pY P T H (qT P T H n) ms code l U=some (x,l',U'):=h0;cases code with
  |skip=>simp only[pY]at h;cases h;exact⟨rfl,rfl,λc Q hQ=>rT .skip Q _ _ hQ⟩|label s=>simp only[pY]at h;cases h;exact⟨rfl,rfl,λc Q hQ=>rT (.label s) Q _ _ hQ⟩|exit id=>simp only[pY]at h;cases h;exact⟨rfl,rfl,λc Q hQ=>rT (.exit id) Q _ _ hQ⟩|ret=>simp only[pY]at h;cases h;exact⟨rfl,rfl,λc Q hQ=>rT .ret Q _ _ hQ⟩|seq x1 y1=>
   simp only[pY]at h;split at h;.rename_i l1 U1 hb;obtain⟨e1,e2,e3⟩:=tz _ _ _ _ _ _ _ hb hl;obtain⟨f1,f2,f3⟩:=tz _ _ _ _ _ _ _ h om;refine⟨om,f2,λc Q hQ=>?_⟩;refine Jw (K:=λe s=>e=eI ms l1/\s=U1) (e3 c _ (by trivial)) ?_;rintro e' s' ⟨rfl,rfl⟩;have:=f3 c Q hQ;rwa[e1]at this
   .rename_i Za;obtain⟨e1,e2,e3⟩:=tz _ _ _ _ _ _ _ h hl;refine⟨e1,e2,λc Q hQ=>?_⟩;refine Jw (K:=λ_ _=>False) (e3 c _ ?_) sm;show LK _ Q x _ _;cases x with |normal=>grind|_=>exact hQ
  |cond y t f=>
   simp only[pY]at h;split at h;.rename_i hy;obtain⟨e1,e2,e3⟩:=tz _ _ _ _ _ _ _ h hl;exact⟨e1,e2,λc Q hQ=>Jx hy (λ_=>e3 c Q hQ) sm⟩
   .rename_i hy;obtain⟨e1,e2,e3⟩:=tz _ _ _ _ _ _ _ h hl;exact⟨e1,e2,λc Q hQ=>Jx hy sm (λ_=>e3 c Q hQ)⟩
   grind|block id b=>
   simp only[pY]at h;split at h
   .rename_i s8 l1 U1 hb;obtain⟨e1,e2,e3⟩:=tz _ _ _ _ _ _ _ hb hl;split at h;.rename_i hid;cases h;refine⟨e1,rfl,λc Q hQ=>pU (e3 c _ ?_)⟩;show(if s8=id then Q .normal _ _ else Q (.exit s8) _ _);grind
    .rename_i hid;cases h;refine⟨e1,rfl,λc Q hQ=>pU (e3 c _ ?_)⟩;show(if s8=id then Q .normal _ _ else Q (.exit s8) _ _);grind
   .rename_i Za;obtain⟨e1,e2,e3⟩:=tz _ _ _ _ _ _ _ h hl;refine⟨e1,e2,λc Q hQ=>pU (e3 c _ ?_)⟩;show CC id Q x _ _;cases x with |exit s8=>grind|_=>exact hQ
  |region id ops draw=>cases draw with
   |true=>
    simp only[pY,ahU]at h;split at h;.rename_i l1 U1 hx;cases h;refine⟨(QY hc Q5 hm (c:=⟨default,λ_=>0,[],[],[]⟩) (id:=id) hx hl).1,rfl,λc Q hQ=>?_⟩;have:=(QY hc Q5 hm (c:=c) (id:=id) hx hl).2 Q hQ;omega
    grind|false=>
    simp only[pY,Cf,ahX]at h;split at h;.rename_i l1 U1 hx;cases h;refine⟨(JJ hc (c:=⟨default,λ_=>0,[],[],[]⟩) _ _ _ _ _ hx hl).1,rfl,λc Q hQ=>?_⟩;have:=(JJ hc (c:=c) _ _ _ _ _ hx hl).2 (Q .normal) hQ;grind[rT,qB]
    grind
  |loop b=>
   have hh:=h;simp only[pY]at h;split at h;.rename_i l1 U1 hb;obtain⟨e1,e2,e3⟩:=tz _ _ _ _ _ _ _ hb hl;obtain⟨f1,f2,f3⟩:=tz _ _ _ _ _ _ _ h om;exact⟨om,f2,λc Q hQ=>Q3 ih hl f2 hQ h0 rfl⟩
   .obtain⟨e1,e2,e3⟩:=tz _ _ _ _ _ _ _ h hl;exact⟨e1,e2,λc Q hQ=>Q3 ih hl e2 hQ h0 rfl⟩|rangeFunc _ _ _ _=>trivial|scope _=>trivial|goto _=>trivial|refuse _=>trivial
theorem Q6(hN:(P.funcs.all λfn=>!(fn.name=="runtime.NumGoroutine"))=true)(hm:P.follows .mixedOrders)(H:FuncId->aid)(n:Nat){f:FuncId}{az:List V}{U U':St}{v:V}(h:si P H (qT P eC H n) (.fn f []) az U=some (v,U')):bL P f az U (λr s=>r=v/\s=U'):=by have:=(JL (Q4 Q0 (λ_ _=>rfl) hN hm n n om) h).1;grind
def Q7(P:Program)(H:FuncId->aid)(n:Nat)(f:FuncId)(az:List V):Option V:=match si P H (qT P eC H n) (.fn f []) az []with |some (v,_)=>if iH v then some v else none|none=>none
theorem pb(hN:(P.funcs.all λfn=>!(fn.name=="runtime.NumGoroutine"))=true)(hm:P.follows .mixedOrders)(H:FuncId->aid)(n:Nat){f:FuncId}{az:List V}{v:V}(h:Q7 P H n f az=some v):Pure P f az v:=by
 unfold Q7 at h;split at h
 .rename_i v' s hx;split at h;.rename_i hn;cases h;have:=(JL (Q4 Q0 (λ_ _=>rfl) hN hm n n om) hx).2.2 rfl hn;grind
  grind
 grind
end
section
variable{P:Program}{c:Ctx}{nt:Nat}{n0:Kp}{K:KT}{e:Env}{U:St}{d:Option Tmp}
variable{x:Operand}{t:TypeId}{k:Operand}
@[go_sem]theorem wi:ef P c nt d (.mapEntry t x k) K fx fx e U=dN nt d (wN (gq P t) U (zI e x) (zI e k)) K fx e U:=(xH rfl rfl).trans rfl
@[go_sem]theorem tC{s v:Operand}:ef P c nt d (.entryStore t x s v) K fx fx e U=dN nt d (wA U (zI e x) (zI e s) (zI e v)) K fx e U:=(xH rfl rfl).trans rfl
@[go_sem]theorem FI:ef P c nt d (.entry x) K fx fx e U=dN nt d (qv U (zI e x)) K fx e U:=(xH rfl rfl).trans rfl
@[go_sem]theorem JM:ef P c nt d (.makeInterface t x) K fx fx e U=dN nt d (zd (EN P t) t (zI e x)) K fx e U:=(xH rfl rfl).trans rfl
@[go_sem]theorem AQ{ok:Bool}:ez P c nt n0 4 d (.lookup t x k ok) K fx fx e U=ef P c nt d (.lookup t x k ok) K fx fx e U:=Jq (λ_ _ _ _ _ h=>by cases h) (λ_ _ h=>by cases h) (λ_ _=>rfl) (λ_ _ _ h=>by cases h)
@[go_sem]theorem tD{v:Operand}:ez P c nt n0 4 d (.mapUpdate t x k v) K fx fx e U=ef P c nt d (.mapUpdate t x k v) K fx fx e U:=Jq (λ_ _ _ _ _ h=>by cases h) (λ_ _ h=>by cases h) (λ_ _=>rfl) (λ_ _ _ h=>by cases h)
@[go_sem]theorem sj{s v:Operand}:ez P c nt n0 4 d (.entryStore t x s v) K fx fx e U=ef P c nt d (.entryStore t x s v) K fx fx e U:=Jq (λ_ _ _ _ _ h=>by cases h) (λ_ _ h=>by cases h) (λ_ _=>rfl) (λ_ _ _ h=>by cases h)
theorem JN(h2:jo n0 3 U (wN (gq P t) U (zI e x) (zI e k)))(h:ef P c nt d (.mapEntry t x k) K fx fx e U):ez P c nt n0 3 d (.mapEntry t x k) K fx fx e U:=by rw[Jr (λ_ _ _ _ _ h=>by cases h) (λ_ _=>rfl) h2 (λ_ _ _ h=>by cases h)];exact h
theorem Q8{s v:Operand}(h2:jo n0 3 U (wA U (zI e x) (zI e s) (zI e v)))(h:ef P c nt d (.entryStore t x s v) K fx fx e U):ez P c nt n0 3 d (.entryStore t x s v) K fx fx e U:=by rw[Jr (λ_ _ _ _ _ h=>by cases h) (λ_ _=>rfl) h2 (λ_ _ _ h=>by cases h)];exact h
theorem Q9{m:Option (Kk×V)}{id:Nat}{kv:V}{ok:Bool}{g:Ob->R}(hg:g=λo=>wI m [o] (.mp 0) kv ok)(s:St):wI m s (.mp id) kv ok=match s[id]?.map g with |some r=>r|none=>wI m [] (.mp 0) kv ok:=by subst hg;unfold wI;cases m with |none=>cases s[id]?<;>rfl|some p=>
  obtain⟨kd,z⟩:=p;by_cases hk:nf kd kv=true;.cases h:s[id]?<;>simp[hk,h]
  .cases h:s[id]?<;>simp[hk]
theorem Ra{ok:Bool}{id:Nat}{kv:V}{m:Option (Kk×V)}{g:Ob->R}(hx:zI e x=.mp id)(hk:zI e k=kv)(hm:gq P t=m)(hg:g=λo=>wI m [o] (.mp 0) kv ok)(ad:n0.ob=some (id,g))(hn:id<n0.n){v:V}(hv:wI m U (.mp id) kv ok=.ok v)(h:iQ nt d v K fx e U):ez P c nt n0 1 d (.lookup t x k ok) K fx fx e U:=by
 have aa:∀s,bZ P e s (.lookup t x k ok)=wI m s (.mp id) kv ok:=λs=>by simp only[bZ,hx,hk,hm]
 have ab:∀s,n0.of s=n0.of U->bZ P e s (.lookup t x k ok)=bZ P e U (.lookup t x k ok):=λs hs=>by rw[aa s,aa U,Q9 hg s,Q9 hg U];have h2:=ahO Prod.snd hs;unfold Kp.of at h2;simp only[ad,An,Aw,ahJ hn]at h2;rw[h2]
 show fr P c nt n0 1 d (.lookup t x k ok) K e U;have h1:=uK (P:=P) (e:=e) (U:=U) (.lookup t x k ok) (λ_ _ _ _ _ h=>by cases h);have h0:qJ (bZ P e U (.lookup t x k ok))=false:=by simp only[bZ];unfold wI;(repeat' split)<;>rfl
 have hh:cK P d e (.lookup t x k ok):=.inr λ_ _=>rfl;unfold fr;refine⟨λ_=>hh,by rw[qH hh];exact h1,λq=>by simp at q,λ_=>.inr ⟨λ_ _ h=>(by cases h),ab⟩,λq=>absurd q (by rw[qH hh,h0];decide),by rw[qH hh];exact AG h0,?_⟩;rw[qH hh,aa U,hv];exact h
@[go_sem]theorem Kp.MS{n id:Nat}{ex:aid}{ob:Option (Nat×(Ob->R))}:(Kp.mk 0 n ex ob).has id=(decide (id<n)&&!ex.contains id):=by simp[Kp.has]
theorem zY{n0:Nat}{keep:aid}{vs:List V}{e:Env}{U:St}(hn:n0<=U.length)(h:keep.map e=vs):At n0 keep vs U e U:=by
 have ra:∀i,cO (List.range U.length) U.length i=i:=λi=>by
  by_cases h:i<U.length;.exact tg h
  .rw[rS (by simp;omega)];simp;omega
 refine⟨List.range U.length,⟨sm,Bv,λi j o hi ho=>?_,λi hi=>by rw[Dr om]⟩,?_⟩;.obtain⟨h1,h2⟩:=A5.1 hi;simp at h1 h2;subst h2;rw[AN ra];exact ho
 .rw[h];have:∀l:List V,bM (cR (cO (List.range U.length) U.length)) l l:=by intro l;induction l with |nil=>trivial|cons a l ih=>exact⟨.inl (AM ra a).symm,ih⟩
  exact this _
theorem MT{id:Nat}{ops:List Oper}{Q:QT}(q:List (Nat×Nat))(k:Kp)(hn:k.n<=U.length)(hm:P.follows .mixedOrders)(hd:(uH ops q&&rW ops))(h:rY P c nt k ops q 0 ops (Q .normal) fx fx fx e U):ga P c nt (.region id ops.toArray true) Q fx fx e U:=by simp only[A8]at hd;obtain⟨tr,ht,hK⟩:=DD ops 0 (Q .normal) e U h;exact VW.draw (n0:=k) hm hn hd.1 hd.2 ht hK
end
end Go.Vx
