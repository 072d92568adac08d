/-
  Rules of the walk for maps: an entry that is laid for `m[k] op= v`, looked at and laid in regions whose order is open.
  No condition: a library text; nothing of the program is named.
-/
import Derived.Test.YtefbicjgbaaieaaGreatMAE
set_option maxHeartbeats 8000000
namespace Go.Vx
open Go
variable {P:Program}{U:St}{l:List V}{H:FuncId->afF}
abbrev RunT:=afF->Code->List V->St->Option (Exit×List V×St)
def Qa:Exit->Bool
 | .normal| .ret=>true
 |_=>false
def tf (P:Program) (H:FuncId->afF) (run:RunT):kA:=λfv az U=>
 match fv with
 | .fn f bU=>(match P.funcs[f]? with
  |some fn=>(match fn.body with
   |some code=>if decide ((az++bU).length<=fn.ntmps)&&decide (fn.ntmps<=100000)then
     (match run (H f) code ((az++bU)++List.replicate (fn.ntmps - (az++bU).length) .u) U with
     |some (x,l',U')=>if Qa x&&decide (U.length<=U'.length)then(match lA P fn.results.toList (dZ (H f) l') U' with|some v=>some (v,U')|none=>none)else none
     |none=>none)else none
   |none=>none)
  |none=>none)
 |_=>none
def x7 (T call:kA):kA:=λfv az U=>match T fv az U with|some r=>some r|none=>call fv az U
theorem Xv {T call:kA} (hT:qu P T) (hc:qu P call):qu P (x7 T call):=by
 intro fv az U v U' h c
 unfold x7 at h
 split at h
 .rename_i r hr
  cases h
  exact hT _ _ _ _ _ hr c
 .exact hc _ _ _ _ _ h c
theorem Xw {T call:kA} (hT: ∀fv az,T fv az []=none) (hc:BC P call):BC P (x7 T call):=by
 intro fv az v U' h
 unfold x7 at h
 rw[hT]at h
 exact hc fv az v U' h
def ep:kA:=λ_ _ _=>none
theorem Qb:qu P ep:=λ_ _ _ _ _ h=>by cases h
def oN (P:Program) (T:kA) (H:FuncId->afF) (run:RunT):RunT:=λms code l U=>
 match code with
 | .skip=>some (.normal,l,U)
 | .label _=>some (.normal,l,U)
 | .exit id=>some (.exit id,l,U)
 | .ret=>some (.ret,l,U)
 | .seq x y=>(match run ms x l U with
  |some (.normal,l',U')=>run ms y l' U'
  |r=>r)
 | .cond x t f=>(match zF (dZ ms l) x with| .bool true=>run ms t l U| .bool false=>run ms f l U|_=>none)
 | .block id b=>(match run ms b l U with
  |some (.exit rk,l',U')=>if rk=id then some (.normal,l',U')else some (.exit rk,l',U')
  |r=>r)
 | .region _ ops draw=>if draw then(match LR P (x7 T (tf P H run)) ms ops.toList l U with|some (l',U')=>some (.normal,l',U')|none=>none)
   else(match Gb P (x7 T (tf P H run)) ms ops.toList ops.toList l U with|some (l',U')=>some (.normal,l',U')|none=>none)
 | .loop b=>(match run ms b l U with
  |some (.normal,l',U')=>run ms (.loop b) l' U'
  |r=>r)
 |_=>none
def rN (P:Program) (T:kA) (H:FuncId->afF):Nat->RunT
 |0=>λ_ _ _ _=>none
 |n+1=>oN P T H (rN P T H n)
def Qc:Exit->Bool
 | .normal| .ret| .exit _=>true
 |_=>false
def Gd (P:Program) (run:RunT):Prop:= ∀ms code l U x l' U',run ms code l U=some (x,l',U')->l.length<=100000->
 l'.length=l.length/\Qc x=true/\ ∀(c:Ctx) (Q:QT),Q x (dZ ms l') U'->VW P c l.length code Q (dZ ms l) U
theorem Xx (hl:l.length<=100000) (n:Nat):dZ [] (l++List.replicate n .u)=jH 0 l:=by
 funext t
 have e1:=KP l 0 t
 rw[A7]at e1
 rw[e1]
 unfold dZ
 grind
theorem Xy {t:Nat} {ms:afF}:dK (dZ ms l) (100000+t) (.cm [])=dZ (t::ms) l:=by
 funext k
 unfold dK dZ
 by_cases hk:k=100000+t
 .simp_all;omega
 .rw[afa hk]
  by_cases h0:k<100000
  .rw[afb h0,afb h0]
  .have h2:(k - 100000==t)=false:=by simp;omega
   rw[afa h0,afa h0,Ds,h2,Bj]
theorem VW.marks {c:Ctx} {nt:Nat} {code:Code} {Q:QT} (hn:nt<=100000) (ms:afF) (h:VW P c nt code Q (dZ ms l) U):VW P c nt code Q (dZ [] l) U:=by
 induction ms with
 |nil=>exact h
 |cons t ms ih=>
  refine ih ?_
  have h2:=AR (P:=P) (c:=c) (nt:=nt) (Q:=Q) (e:=dZ ms l) (U:=U) t (y:=code) hn
  rw[Xy]at h2
  exact h2 h
theorem BD {k i:Nat}:cz (List.range k) k i=i:=by
 grind[wZ,qf]
theorem Xz {n0:Nat} (h:n0<=U.length):eM n0 (List.range U.length) U U:=by
 refine⟨sm,Bm,λi j o hi ho=> ?_,(by grind)⟩
 grind[xz,BD]
theorem IJ {run:RunT} (hr:Gd P run) {f:FuncId} {bU az:List V} {U':St} {v:V} (h:tf P H run (.fn f bU) az U=some (v,U')):
  bK P f (az++bU) U (λr s=>r=v/\s=U')/\(P.funcs[f]?.bind (·.body)).isSome=true/\(U= []->gR v=true->bK P f (az++bU) U (λr s=>r=v/\s= [])):=by
 unfold tf at h
 simp only at h
 split at h
 .rename_i fn hf
  split at h
  .rename_i code hb
   split at h
   .rename_i hlen
    simp only[A6,afe]at hlen
    split at h
    .rename_i x l' s1 hx
     split at h
     .rename_i aa
      simp only[A6,afe]at aa
      split at h
      .rename_i v' hv
       cases h
       have ab:((az++bU)++List.replicate (fn.ntmps - (az++bU).length) V.u).length=fn.ntmps:=by
        grind
       obtain⟨e1,e2,e3⟩:=hr _ _ _ _ _ _ _ hx om
       have key: ∀R:V->St->Prop,pn U.length R v U'->bK P f (az++bU) U R:=by
        intro R hR
        refine bK.nI (rs:=fn.results.toList) U.length hf rfl sm hb rfl hlen.1 λc _ _=> ?_
        rw[<-Xx om (fn.ntmps - (az++bU).length)]
        refine VW.marks hlen.2 (H f) ?_
        have:=e3 c (lB P fn.results.toList U.length R)
        rw[ab]at this
        refine this ?_
        have hq: ∃v,lA P fn.results.toList (dZ (H f) l') U'=some v/\pn U.length R v U':=(by grind)
        cases x with
        |normal=>exact hq
        |ret=>exact hq
        |_=>simp[Qa]at aa
       refine⟨key _ ⟨v,U',List.range U'.length,U',v,.refl _ _,Xz aa.2,.inl (by grind[xy,BD]),rfl,rfl⟩, ?_,λh0 hn=> ?_⟩
       .grind
       .subst h0
        refine key _ ⟨v,U',[],[],v,.refl _ _,⟨rfl,Ca,sm,sm⟩,zC hn,rfl,rfl⟩
      grind
     grind
    grind
   grind
  grind
 grind
theorem XA {s:St} (h:U.length<=s.length):xQ (List.range U.length) U s=s:=by
 have hid:yF (cz (List.range U.length) U.length)=λo=>o:=funext (by grind[xz,BD])
 apply Bn
 intro i
 by_cases hi:i<s.length
 .have:=DA (cT:=List.range U.length) (Uc:=U) (U':=s) Bm (λq hq=>Bz.1 hq) (sU h) (A0 hi)
  grind[BD]
 grind[Ir]
theorem Qd {f:FuncId} (hN:(P.funcs.all λfn=> !(fn.name== "runtime.NumGoroutine"))=true) (h:(P.funcs[f]?.bind (·.body)).isSome):wE P f=true:=by
 grind[wE]
theorem XB {run:RunT} (hr:Gd P run) (hN:(P.funcs.all λfn=> !(fn.name== "runtime.NumGoroutine"))=true):qu P (tf P H run):=by
 intro fv az U v U' h c
 cases fv with
 |fn f bU=>
  obtain⟨h1,h2,_⟩:=IJ hr h
  refine VC.of h1 (Qd hN h2) (List.range U.length) Bm sm (λi j o hi ho=> ?_) ?_ ?_
  .grind[xz,BD]
  .have: ∀l:List V,bL (cF (cz (List.range U.length) U.length)) l l:=by
    intro l
    induction l with
    |nil=>trivial
    |cons a l ih=>exact⟨.inl (by grind[xy,BD]),ih⟩
   grind
  .rintro r s ⟨rfl,rfl⟩ hl
   rw[xy (λi=>BD),XA (by grind)]
   simp
 |_=>cases h
theorem XC {run:RunT} (hr:Gd P run) (hN:(P.funcs.all λfn=> !(fn.name== "runtime.NumGoroutine"))=true):BC P (tf P H run):=by
 intro fv az v U' h hn hf ha c s
 cases fv with
 |fn f bU=>
  obtain⟨_,h2,h3⟩:=IJ hr h
  have hcn:bU.all gR:=by
   simp only[gR,uy,j5]at hf
   rw[Ad]at hf⊢
   intro x hx
   have:=hf x hx
   cases x<;>first|exact this|cases this
  refine zM (P:=P) (c:=c) (KV:=λr s'=>r=v/\s'=s) (h3 rfl hn) (Qd hN h2) (zZ (by grind)) hn sm
 |_=>cases h
section
variable {P:Program} {T:kA} {H:FuncId->afF}
theorem Qe {ms:afF} {b:Code} {x:Exit} {l':List V} {U':St} {N nt:Nat} (hk: ∀k,k<=N->Gd P (rN P T H k)) (ab:nt<=100000) {c:Ctx} {Q:QT} (hx:Qc x) (hQ:Q x (dZ ms l') U')
  {l:List V} {U:St} (h:rN P T H (N+1) ms (.loop b) l U=some (x,l',U')) (hl:l.length=nt):VW P c nt (.loop b) Q (dZ ms l) U:=by
 intro a w L I hs
 refine Po (λm a w=> ∃l U L I,m<=N+1/\l.length=nt/\rN P T H m ms (.loop b) l U=some (x,l',U')/\dp c nt (dZ ms l) U a w L I) (N+1) (by grind) ?_
 rintro m a w ⟨l,U,L,I,hm,hl,h,hs⟩
 cases m with
 |zero=>cases h
 |succ k=>
  have h:oN P T H (rN P T H k) ms (.loop b) l U=some (x,l',U'):=h
  simp only[oN]at h
  split at h
  .rename_i l1 U1 hb
   obtain⟨e1,e2,e3⟩:=hk k om _ _ _ _ _ _ _ hb om
   have e4:=e3 c (λex e s=>ex= .normal/\e=dZ ms l1/\s=U1) ⟨rfl,rfl,rfl⟩
   rw[hl]at e4
   refine wp_mono (e4 a w L I hs) λex a' w' q=> ?_
   cases ex with
   |normal=>
    obtain⟨e',s',L',I',aa,_,rfl,rfl⟩:=q
    exact⟨k,om,l1,s',L',I',om,om,h,aa⟩
   |exit id=>obtain⟨_,_,_,_,_,q,_⟩:=q;cases q
   |ret=>obtain⟨_,_,_,_,_,q,_⟩:=q;cases q
   |goto _=>simpa
   |panic _=>simpa
   |outgrown=>simpa
  .rename_i ad
   obtain⟨e1,e2,e3⟩:=hk k om _ _ _ _ _ _ _ h om
   have e4:=e3 c (λex e s=>ex=x/\e=dZ ms l'/\s=U') ⟨rfl,rfl,rfl⟩
   rw[hl]at e4
   refine wp_mono (e4 a w L I hs) λex a' w' q=> ?_
   cases ex with
   |normal=>
    obtain⟨e',s',L',I',aa,q,_,_⟩:=q
    simp_all
   |exit id=>obtain⟨e',s',L',I',aa,rfl,rfl,rfl⟩:=q;exact⟨_,_,L',I',aa,hQ⟩
   |ret=>obtain⟨e',s',L',I',aa,rfl,rfl,rfl⟩:=q;exact⟨_,_,L',I',aa,hQ⟩
   |goto _=>simpa
   |panic _=>simpa
   |outgrown=>simpa
theorem Qf (hT:qu P T) (hT0: ∀fv az,T fv az []=none) (hN:(P.funcs.all λfn=> !(fn.name== "runtime.NumGoroutine"))=true) (hm:P.follows .mixedOrders): ∀n k,k<=n->Gd P (rN P T H k):=by
 intro n
 induction n with
 |zero=>
  intro k hk
  have:k=0:=om
  subst this
  intro ms code l U x l' U' h
  cases h
 |succ n ih=>
  intro k hk
  rcases Bo k (n+1)with OU|hge
  .grind
  have:k=n+1:=om
  subst this
  have rO:=ih n (A3 n)
  have hc:qu P (x7 T (tf P H (rN P T H n))):=Xv hT (XB rO hN)
  have Qg:BC P (x7 T (tf P H (rN P T H n))):=(by grind[Xw,XC])
  intro ms code l U x l' U' h0 hl
  have h:oN P T H (rN P T H n) ms code l U=some (x,l',U'):=h0
  cases code with
  |skip=>simp only[oN]at h;cases h;exact⟨rfl,rfl,λc Q hQ=>qh .skip Q _ _ hQ⟩
  |label s=>simp only[oN]at h;cases h;exact⟨rfl,rfl,λc Q hQ=>qh (.label s) Q _ _ hQ⟩
  |exit id=>simp only[oN]at h;cases h;exact⟨rfl,rfl,λc Q hQ=>qh (.exit id) Q _ _ hQ⟩
  |ret=>simp only[oN]at h;cases h;exact⟨rfl,rfl,λc Q hQ=>qh .ret Q _ _ hQ⟩
  |seq x1 y1=>
   simp only[oN]at h
   split at h
   .rename_i l1 U1 hb
    obtain⟨e1,e2,e3⟩:=rO _ _ _ _ _ _ _ hb hl
    obtain⟨f1,f2,f3⟩:=rO _ _ _ _ _ _ _ h om
    refine⟨om,f2,λc Q hQ=> ?_⟩
    refine Is (K:=λe s=>e=dZ ms l1/\s=U1) (e3 c _ (by trivial)) ?_
    rintro e' s' ⟨rfl,rfl⟩
    have:=f3 c Q hQ
    rwa [e1]at this
   .rename_i XD
    obtain⟨e1,e2,e3⟩:=rO _ _ _ _ _ _ _ h hl
    refine⟨e1,e2,λc Q hQ=> ?_⟩
    refine Is (K:=λ_ _=>False) (e3 c _ ?_) sm
    show KO _ Q x _ _
    cases x with
    |normal=>grind
    |_=>exact hQ
  |cond y t f=>
   simp only[oN]at h
   split at h
   .rename_i hy
    obtain⟨e1,e2,e3⟩:=rO _ _ _ _ _ _ _ h hl
    exact⟨e1,e2,λc Q hQ=>It hy (λ_=>e3 c Q hQ) sm⟩
   .rename_i hy
    obtain⟨e1,e2,e3⟩:=rO _ _ _ _ _ _ _ h hl
    exact⟨e1,e2,λc Q hQ=>It hy sm (λ_=>e3 c Q hQ)⟩
   grind
  |block id b=>
   simp only[oN]at h
   split at h
   .rename_i rk l1 U1 hb
    obtain⟨e1,e2,e3⟩:=rO _ _ _ _ _ _ _ hb hl
    split at h
    .rename_i hid
     cases h
     refine⟨e1,rfl,λc Q hQ=>qp (e3 c _ ?_)⟩
     show(if rk=id then Q .normal _ _ else Q (.exit rk) _ _)
     grind
    .rename_i hid
     cases h
     refine⟨e1,rfl,λc Q hQ=>qp (e3 c _ ?_)⟩
     show(if rk=id then Q .normal _ _ else Q (.exit rk) _ _)
     grind
   .rename_i XD
    obtain⟨e1,e2,e3⟩:=rO _ _ _ _ _ _ _ h hl
    refine⟨e1,e2,λc Q hQ=>qp (e3 c _ ?_)⟩
    show zn id Q x _ _
    cases x with
    |exit rk=>grind
    |_=>exact hQ
  |region id ops draw=>
   cases draw with
   |true=>
    simp only[oN,afj]at h
    split at h
    .rename_i l1 U1 hx
     cases h
     refine⟨(P9 hc Qg hm (c:=⟨default,λ_=>0,[],[],[]⟩) (id:=id) hx hl).1,rfl,λc Q hQ=> ?_⟩
     have:=(P9 hc Qg hm (c:=c) (id:=id) hx hl).2 Q hQ
     omega
    grind
   |false=>
    simp only[oN,Ck,afs]at h
    split at h
    .rename_i l1 U1 hx
     cases h
     refine⟨(IH hc (c:=⟨default,λ_=>0,[],[],[]⟩) _ _ _ _ _ hx hl).1,rfl,λc Q hQ=> ?_⟩
     have:=(IH hc (c:=c) _ _ _ _ _ hx hl).2 (Q .normal) hQ
     grind[qh,pj]
    grind
  |loop b=>
   have hh:=h
   simp only[oN]at h
   split at h
   .rename_i l1 U1 hb
    obtain⟨e1,e2,e3⟩:=rO _ _ _ _ _ _ _ hb hl
    obtain⟨f1,f2,f3⟩:=rO _ _ _ _ _ _ _ h om
    exact⟨om,f2,λc Q hQ=>Qe ih hl f2 hQ h0 rfl⟩
   .obtain⟨e1,e2,e3⟩:=rO _ _ _ _ _ _ _ h hl
    exact⟨e1,e2,λc Q hQ=>Qe ih hl e2 hQ h0 rfl⟩
  |rangeFunc _ _ _ _=>trivial
  |scope _=>trivial
  |goto _=>trivial
  |refuse _=>trivial
theorem XE (hN:(P.funcs.all λfn=> !(fn.name== "runtime.NumGoroutine"))=true) (hm:P.follows .mixedOrders) (H:FuncId->afF) (n:Nat) {f:FuncId} {az:List V} {U U':St} {v:V} (h:tf P H (rN P ep H n) (.fn f []) az U=some (v,U')):
  bK P f az U (λr s=>r=v/\s=U'):=by
 have:=(IJ (Qf Qb (λ_ _=>rfl) hN hm n n om) h).1
 grind
def Qh (P:Program) (H:FuncId->afF) (n:Nat) (f:FuncId) (az:List V):Option V:=
 match tf P H (rN P ep H n) (.fn f []) az []with
 |some (v,_)=>if gR v then some v else none
 |none=>none
theorem uL (hN:(P.funcs.all λfn=> !(fn.name== "runtime.NumGoroutine"))=true) (hm:P.follows .mixedOrders) (H:FuncId->afF) (n:Nat) {f:FuncId} {az:List V} {v:V} (h:Qh P H n f az=some v):Pure P f az v:=by
 unfold Qh at h
 split at h
 .rename_i v' s hx
  split at h
  .rename_i hn
   cases h
   have:=(IJ (Qf Qb (λ_ _=>rfl) hN hm n n om) hx).2.2 rfl hn
   grind
  grind
 grind
end
section
variable {P:Program} {c:Ctx} {nt:Nat} {n0:Kp} {K:KT} {e:Env} {U:St} {d:Option Tmp}
variable {x:Operand}{t:TypeId}{k:Operand}
@[go_sem] theorem uM:dU P c nt d (.mapEntry t x k) K fx fx e U=dC nt d (wA (fP P t) U (zF e x) (zF e k)) K fx e U:=(yY rfl rfl).trans rfl
@[go_sem] theorem rP {s v:Operand}:dU P c nt d (.entryStore t x s v) K fx fx e U=dC nt d (xL U (zF e x) (zF e s) (zF e v)) K fx e U:=(yY rfl rfl).trans rfl
@[go_sem] theorem Ew:dU P c nt d (.entry x) K fx fx e U=dC nt d (pg U (zF e x)) K fx e U:=(yY rfl rfl).trans rfl
@[go_sem] theorem IK:dU P c nt d (.makeInterface t x) K fx fx e U=dC nt d (vX (CY P t) t (zF e x)) K fx e U:=(yY rfl rfl).trans rfl
@[go_sem] theorem x8 {ok:Bool}:dX P c nt n0 4 d (.lookup t x k ok) K fx fx e U=dU P c nt d (.lookup t x k ok) K fx fx e U:=Il (λ_ _ _ _ _ h=>by cases h) (λ_ _ h=>by cases h) (λ_ _=>rfl) (λ_ _ _ h=>by cases h)
@[go_sem] theorem rQ {v:Operand}:dX P c nt n0 4 d (.mapUpdate t x k v) K fx fx e U=dU P c nt d (.mapUpdate t x k v) K fx fx e U:=Il (λ_ _ _ _ _ h=>by cases h) (λ_ _ h=>by cases h) (λ_ _=>rfl) (λ_ _ _ h=>by cases h)
@[go_sem] theorem qv {s v:Operand}:dX P c nt n0 4 d (.entryStore t x s v) K fx fx e U=dU P c nt d (.entryStore t x s v) K fx fx e U:=Il (λ_ _ _ _ _ h=>by cases h) (λ_ _ h=>by cases h) (λ_ _=>rfl) (λ_ _ _ h=>by cases h)
theorem IL (h2:jj n0 3 U (wA (fP P t) U (zF e x) (zF e k))) (h:dU P c nt d (.mapEntry t x k) K fx fx e U):dX P c nt n0 3 d (.mapEntry t x k) K fx fx e U:=by
 rw[Im (λ_ _ _ _ _ h=>by cases h) (λ_ _=>rfl) h2 (λ_ _ _ h=>by cases h)];exact h
theorem Qi {s v:Operand} (h2:jj n0 3 U (xL U (zF e x) (zF e s) (zF e v))) (h:dU P c nt d (.entryStore t x s v) K fx fx e U):dX P c nt n0 3 d (.entryStore t x s v) K fx fx e U:=by
 rw[Im (λ_ _ _ _ _ h=>by cases h) (λ_ _=>rfl) h2 (λ_ _ _ h=>by cases h)];exact h
theorem Qj {m:Option (Kk×V)} {id:Nat} {kv:V} {ok:Bool} {g:Ob->R} (hg:g=λo=>xV m [o] (.mp 0) kv ok) (s:St):xV m s (.mp id) kv ok=match s[id]?.map g with
  |some r=>r
  |none=>xV m [] (.mp 0) kv ok:=by
 subst hg
 unfold xV
 cases m with
 |none=>cases s[id]? <;>rfl
 |some p=>
  obtain⟨kd,z⟩:=p
  by_cases hk:ma kd kv=true
  .cases h:s[id]? <;>simp[hk,h]
  .cases h:s[id]? <;>simp[hk]
theorem Qk {ok:Bool} {id:Nat} {kv:V} {m:Option (Kk×V)} {g:Ob->R} (hx:zF e x= .mp id) (hk:zF e k=kv) (hm:fP P t=m) (hg:g=λo=>xV m [o] (.mp 0) kv ok) (ad:n0.ob=some (id,g)) (hn:id<n0.n) {v:V} (hv:xV m U (.mp id) kv ok= .ok v)
  (h:il nt d v K fx e U):dX P c nt n0 1 d (.lookup t x k ok) K fx fx e U:=by
 have aa: ∀s,bX P e s (.lookup t x k ok)=xV m s (.mp id) kv ok:=λs=>by simp only[bX,hx,hk,hm]
 have ab: ∀s,n0.of s=n0.of U->bX P e s (.lookup t x k ok)=bX P e U (.lookup t x k ok):=λs hs=>by
  rw[aa s,aa U,Qj hg s,Qj hg U]
  have h2:=aff Prod.snd hs
  unfold Kp.of at h2
  simp only[ad,Ao,Av,afb hn]at h2
  rw[h2]
 show ft P c nt n0 1 d (.lookup t x k ok) K e U
 have h1:=uC (P:=P) (e:=e) (U:=U) (.lookup t x k ok) (λ_ _ _ _ _ h=>by cases h)
 have h0:px (bX P e U (.lookup t x k ok))=false:=by simp only[bX];unfold xV;(repeat' split)<;>rfl
 have hh:cH P d e (.lookup t x k ok):= .inr λ_ _=>rfl
 unfold ft
 refine⟨λ_=>hh,by rw[pv hh];exact h1,λq=>by simp at q,λ_=> .inr ⟨λ_ _ h=>(by cases h),ab⟩,λq=>absurd q (by rw[pv hh,h0];decide),by rw[pv hh];exact xo h0, ?_⟩
 rw[pv hh,aa U,hv]
 exact h
@[go_sem] theorem Kp.LS {n id:Nat} {ex:afF} {ob:Option (Nat×(Ob->R))}:(Kp.mk 0 n ex ob).has id=(decide (id<n)&& !ex.contains id):=by simp[Kp.has]
theorem zW {n0:Nat} {keep:afF} {vs:List V} {e:Env} {U:St} (hn:n0<=U.length) (h:keep.map e=vs):At n0 keep vs U e U:=by
 have ra: ∀i,cz (List.range U.length) U.length i=i:=λi=>by
  by_cases h:i<U.length
  .exact wZ h
  .rw[qf (by simp;omega)];simp;omega
 refine⟨List.range U.length,⟨sm,Bm,λi j o hi ho=> ?_,λi hi=>by rw[Cs om]⟩, ?_⟩
 .obtain⟨h1,h2⟩:=A1.1 hi
  simp at h1 h2
  subst h2
  rw[xz ra]
  exact ho
 .rw[h]
  have: ∀l:List V,bL (cF (cz (List.range U.length) U.length)) l l:=by
   intro l
   induction l with
   |nil=>trivial
   |cons a l ih=>exact⟨.inl (xy ra a).symm,ih⟩
  exact this _
theorem LU {id:Nat} {ops:List Oper} {Q:QT} (q:List (Nat×Nat)) (k:Kp) (hn:k.n<=U.length) (hm:P.follows .mixedOrders) (hd:(ta ops q&&xT ops)) (h:nk P c nt k ops q 0 ops (Q .normal) fx fx fx e U):fw P c nt (.region id ops.toArray true) Q fx fx e U:=by
 simp only[A6]at hd
 obtain⟨tr,ht,hK⟩:=rG ops 0 (Q .normal) e U h
 exact VW.draw (n0:=k) hm hn hd.1 hd.2 ht hK
end
end Go.Vx
