/-
  Rules of the walk for maps: an entry that is laid for `m[k] op= v`, looked at and laid in regions whose order is open.
  No condition: a library text; nothing of the program is named.
-/
import Derived.Test.YtefbicjgbaaieaaGreatJAE
set_option maxHeartbeats 8000000
namespace Go.Vx
open Go
variable {P:Program}{σ:St}{l:List V}{H:FuncId->List Nat}
abbrev RunT:=List Nat->Code->List V->St->Option (Exit×List V×St)
def xU2:Exit->Bool
 | .normal| .ret=>true
 |_=>false
def zO0 (P:Program) (H:FuncId->List Nat) (run:RunT):zj4:=fun fv az σ=>
 match fv with
 | .fn f caps=>(match P.funcs[f]? with
  |some fn=>(match fn.body with
   |some code=>if decide ((az++caps).length<=fn.ntmps)&&decide (fn.ntmps<=100000)then
     (match run (H f) code ((az++caps)++List.replicate (fn.ntmps - (az++caps).length) .u) σ with
     |some (x,l',σ')=>if xU2 x&&decide (σ.length<=σ'.length)then(match retV P fn.results.toList (envX (H f) l') σ' with|some v=>some (v,σ')|none=>none)else none
     |none=>none)else none
   |none=>none)
  |none=>none)
 |_=>none
def orT (T call:zj4):zj4:=fun fv az σ=>match T fv az σ with|some r=>some r|none=>call fv az σ
theorem wa2 {T call:zj4} (hT:zs4 P T) (hc:zs4 P call):zs4 P (orT T call):=by
 intro fv az σ v σ' h c
 unfold orT at h
 split at h
 .rename_i r hr
  cases h
  exact hT _ _ _ _ _ hr c
 .exact hc _ _ _ _ _ h c
theorem xC7 {T call:zj4} (hT: ∀fv az,T fv az []=none) (hc:zu9 P call):zu9 P (orT T call):=by
 intro fv az v σ' h
 unfold orT at h
 rw[hT]at h
 exact hc fv az v σ' h
def noT:zj4:=fun _ _ _=>none
theorem xB0:zs4 P noT:=fun _ _ _ _ _ h=>by cases h
def zA0 (P:Program) (T:zj4) (H:FuncId->List Nat) (run:RunT):RunT:=fun ms code l σ=>
 match code with
 | .skip=>some (.normal,l,σ)
 | .label _=>some (.normal,l,σ)
 | .exit id=>some (.exit id,l,σ)
 | .ret=>some (.ret,l,σ)
 | .seq x y=>(match run ms x l σ with
  |some (.normal,l',σ')=>run ms y l' σ'
  |r=>r)
 | .cond x t f=>(match zD (envX ms l) x with| .bool true=>run ms t l σ| .bool false=>run ms f l σ|_=>none)
 | .block id b=>(match run ms b l σ with
  |some (.exit id',l',σ')=>if id'=id then some (.normal,l',σ')else some (.exit id',l',σ')
  |r=>r)
 | .region _ ops draw=>if draw then(match xI5 P (orT T (zO0 P H run)) ms ops.toList l σ with|some (l',σ')=>some (.normal,l',σ')|none=>none)
   else(match yR4 P (orT T (zO0 P H run)) ms ops.toList ops.toList l σ with|some (l',σ')=>some (.normal,l',σ')|none=>none)
 | .loop b=>(match run ms b l σ with
  |some (.normal,l',σ')=>run ms (.loop b) l' σ'
  |r=>r)
 |_=>none
def zK1 (P:Program) (T:zj4) (H:FuncId->List Nat):Nat->RunT
 |0=>fun _ _ _ _=>none
 |n+1=>zA0 P T H (zK1 P T H n)
def xx1:Exit->Bool
 | .normal| .ret| .exit _=>true
 |_=>false
def yF1 (P:Program) (run:RunT):Prop:= ∀ms code l σ x l' σ',run ms code l σ=some (x,l',σ')->l.length<=100000->
 l'.length=l.length/\xx1 x=true/\ ∀(c:Ctx) (Q:QT),Q x (envX ms l') σ'->VW P c l.length code Q (envX ms l) σ
theorem xv8 (hl:l.length<=100000) (n:Nat):envX [] (l++List.replicate n .u)=envA 0 l:=by
 funext t
 have e1:=yf3 l 0 t
 rw[Ae]at e1
 rw[e1]
 unfold envX
 grind
theorem xk9 {t:Nat} {ms:List Nat}:upd (envX ms l) (100000+t) (.tup [])=envX (t::ms) l:=by
 funext k
 unfold upd envX
 by_cases hk:k=100000+t
 .simp_all;omega
 .rw[if_neg hk]
  by_cases h0:k<100000
  .rw[if_pos h0,if_pos h0]
  .have h2:(k - 100000==t)=false:=by simp;omega
   rw[if_neg h0,if_neg h0,Dk,h2,Bx]
theorem VW.marks {c:Ctx} {nt:Nat} {code:Code} {Q:QT} (hn:nt<=100000) (ms:List Nat) (h:VW P c nt code Q (envX ms l) σ):VW P c nt code Q (envX [] l) σ:=by
 induction ms with
 |nil=>exact h
 |cons t ms ih=>
  refine ih ?_
  have h2:=zx7 (P:=P) (c:=c) (nt:=nt) (Q:=Q) (e:=envX ms l) (σ:=σ) t (y:=code) hn
  rw[xk9]at h2
  exact h2 h
theorem zF5 {k i:Nat}:ren (List.range k) k i=i:=by
 grind[ze8,zs5]
theorem xp2 {n0:Nat} (h:n0<=σ.length):Picks n0 (List.range σ.length) σ σ:=by
 refine⟨sM,Br,fun i j o hi ho=> ?_,(by grind)⟩
 grind[zr6,zF5]
theorem zt6 {run:RunT} (hr:yF1 P run) {f:FuncId} {caps az:List V} {σ':St} {v:V} (h:zO0 P H run (.fn f caps) az σ=some (v,σ')):
  VCalls P f (az++caps) σ (fun r s=>r=v/\s=σ')/\(P.funcs[f]?.bind (·.body)).isSome=true/\(σ= []->noS v=true->VCalls P f (az++caps) σ (fun r s=>r=v/\s= [])):=by
 unfold zO0 at h
 simp only at h
 split at h
 .rename_i fn hf
  split at h
  .rename_i code hb
   split at h
   .rename_i hlen
    simp only[A1,decide_eq_true_eq]at hlen
    split at h
    .rename_i x l' s1 hx
     split at h
     .rename_i aa
      simp only[A1,decide_eq_true_eq]at aa
      split at h
      .rename_i v' hv
       cases h
       have ab:((az++caps)++List.replicate (fn.ntmps - (az++caps).length) V.u).length=fn.ntmps:=by
        grind
       obtain⟨e1,e2,e3⟩:=hr _ _ _ _ _ _ _ hx om
       have key: ∀R:V->St->Prop,VRet σ.length R v σ'->VCalls P f (az++caps) σ R:=by
        intro R hR
        refine VCalls.introW (rs:=fn.results.toList) σ.length hf rfl sM hb rfl hlen.1 fun c _ _=> ?_
        rw[<-xv8 om (fn.ntmps - (az++caps).length)]
        refine VW.marks hlen.2 (H f) ?_
        have:=e3 c (retQ P fn.results.toList σ.length R)
        rw[ab]at this
        refine this ?_
        have hq: ∃v,retV P fn.results.toList (envX (H f) l') σ'=some v/\VRet σ.length R v σ':=(by grind)
        cases x with
        |normal=>exact hq
        |ret=>exact hq
        |_=>simp[xU2]at aa
       refine⟨key _ ⟨v,σ',List.range σ'.length,σ',v,.refl _ _,xp2 aa.2,.inl (by grind[zz5,zF5]),rfl,rfl⟩, ?_,fun h0 hn=> ?_⟩
       .grind
       .subst h0
        refine key _ ⟨v,σ',[],[],v,.refl _ _,⟨rfl,Cj,sM,sM⟩,zC hn,rfl,rfl⟩
      grind
     grind
    grind
   grind
  grind
 grind
theorem xn5 {s:St} (h:σ.length<=s.length):xX (List.range σ.length) σ s=s:=by
 have hid:yS (ren (List.range σ.length) σ.length)=fun o=>o:=funext (by grind[zr6,zF5])
 apply Bn
 intro i
 by_cases hi:i<s.length
 .have:=zu8 (sel:=List.range σ.length) (σc:=σ) (σ':=s) Br (fun q hq=>Ci.1 hq) (sU h) (A0 hi)
  grind[zF5]
 grind[zu2]
theorem yG2 {f:FuncId} (hN:(P.funcs.all fun fn=> !(fn.name== "runtime.NumGoroutine"))=true) (h:(P.funcs[f]?.bind (·.body)).isSome=true):wL P f=true:=by
 grind[wL]
theorem xk1 {run:RunT} (hr:yF1 P run) (hN:(P.funcs.all fun fn=> !(fn.name== "runtime.NumGoroutine"))=true):zs4 P (zO0 P H run):=by
 intro fv az σ v σ' h c
 cases fv with
 |fn f caps=>
  obtain⟨h1,h2,_⟩:=zt6 hr h
  refine VC.of h1 (yG2 hN h2) (List.range σ.length) Br sM (fun i j o hi ho=> ?_) ?_ ?_
  .grind[zr6,zF5]
  .have: ∀l:List V,All2 (argS (ren (List.range σ.length) σ.length)) l l:=by
    intro l
    induction l with
    |nil=>trivial
    |cons a l ih=>exact⟨.inl (by grind[zz5,zF5]),ih⟩
   grind
  .rintro r s ⟨rfl,rfl⟩ hl
   rw[zz5 (fun i=>zF5),xn5 (by grind)]
   simp
 |_=>cases h
theorem yG3 {run:RunT} (hr:yF1 P run) (hN:(P.funcs.all fun fn=> !(fn.name== "runtime.NumGoroutine"))=true):zu9 P (zO0 P H run):=by
 intro fv az v σ' h hn hf ha c s
 cases fv with
 |fn f caps=>
  obtain⟨_,h2,h3⟩:=zt6 hr h
  have hcn:caps.all noS=true:=by
   simp only[noS,noA,noC]at hf
   rw[Aj]at hf⊢
   intro x hx
   have:=hf x hx
   cases x<;>first|exact this|cases this
  refine zM (P:=P) (c:=c) (KV:=fun r s'=>r=v/\s'=s) (h3 rfl hn) (yG2 hN h2) (zY (by grind)) hn sM
 |_=>cases h
section
variable {P:Program} {T:zj4} {H:FuncId->List Nat}
theorem yR3 {ms:List Nat} {b:Code} {x:Exit} {l':List V} {σ':St} {N nt:Nat} (hk: ∀k,k<=N->yF1 P (zK1 P T H k)) (ab:nt<=100000) {c:Ctx} {Q:QT} (hx:xx1 x=true) (hQ:Q x (envX ms l') σ')
  {l:List V} {σ:St} (h:zK1 P T H (N+1) ms (.loop b) l σ=some (x,l',σ')) (hl:l.length=nt):VW P c nt (.loop b) Q (envX ms l) σ:=by
 intro a w L β hs
 refine yb1 (fun m a w=> ∃l σ L β,m<=N+1/\l.length=nt/\zK1 P T H m ms (.loop b) l σ=some (x,l',σ')/\Sim c nt (envX ms l) σ a w L β) (N+1) (by grind) ?_
 rintro m a w ⟨l,σ,L,β,hm,hl,h,hs⟩
 cases m with
 |zero=>cases h
 |succ k=>
  have h:zA0 P T H (zK1 P T H k) ms (.loop b) l σ=some (x,l',σ'):=h
  simp only[zA0]at h
  split at h
  .rename_i l1 σ1 hb
   obtain⟨e1,e2,e3⟩:=hk k om _ _ _ _ _ _ _ hb om
   have e4:=e3 c (fun ex e s=>ex= .normal/\e=envX ms l1/\s=σ1) ⟨rfl,rfl,rfl⟩
   rw[hl]at e4
   refine wp_mono (e4 a w L β hs) fun ex a' w' q=> ?_
   cases ex with
   |normal=>
    obtain⟨e',s',L',β',aa,_,rfl,rfl⟩:=q
    exact⟨k,om,l1,s',L',β',om,om,h,aa⟩
   |exit id=>obtain⟨_,_,_,_,_,q,_⟩:=q;cases q
   |ret=>obtain⟨_,_,_,_,_,q,_⟩:=q;cases q
   |goto _=>simpa
   |panic _=>simpa
   |outgrown=>simpa
  .rename_i ad
   obtain⟨e1,e2,e3⟩:=hk k om _ _ _ _ _ _ _ h om
   have e4:=e3 c (fun ex e s=>ex=x/\e=envX ms l'/\s=σ') ⟨rfl,rfl,rfl⟩
   rw[hl]at e4
   refine wp_mono (e4 a w L β hs) fun ex a' w' q=> ?_
   cases ex with
   |normal=>
    obtain⟨e',s',L',β',aa,q,_,_⟩:=q
    simp_all
   |exit id=>obtain⟨e',s',L',β',aa,rfl,rfl,rfl⟩:=q;exact⟨_,_,L',β',aa,hQ⟩
   |ret=>obtain⟨e',s',L',β',aa,rfl,rfl,rfl⟩:=q;exact⟨_,_,L',β',aa,hQ⟩
   |goto _=>simpa
   |panic _=>simpa
   |outgrown=>simpa
theorem yR1 (hT:zs4 P T) (hT0: ∀fv az,T fv az []=none) (hN:(P.funcs.all fun fn=> !(fn.name== "runtime.NumGoroutine"))=true) (hm:P.follows .mixedOrders=true): ∀n k,k<=n->yF1 P (zK1 P T H k):=by
 intro n
 induction n with
 |zero=>
  intro k hk
  have:k=0:=om
  subst this
  intro ms code l σ x l' σ' h
  cases h
 |succ n ih=>
  intro k hk
  rcases C1 k (n+1)with hlt|hge
  .grind
  have:k=n+1:=om
  subst this
  have ihn:=ih n (A4 n)
  have hc:zs4 P (orT T (zO0 P H (zK1 P T H n))):=wa2 hT (xk1 ihn hN)
  have hpu:zu9 P (orT T (zO0 P H (zK1 P T H n))):=(by grind[xC7,yG3])
  intro ms code l σ x l' σ' h0 hl
  have h:zA0 P T H (zK1 P T H n) ms code l σ=some (x,l',σ'):=h0
  cases code with
  |skip=>simp only[zA0]at h;cases h;exact⟨rfl,rfl,fun c Q hQ=>zg7 .skip Q _ _ hQ⟩
  |label s=>simp only[zA0]at h;cases h;exact⟨rfl,rfl,fun c Q hQ=>zg7 (.label s) Q _ _ hQ⟩
  |exit id=>simp only[zA0]at h;cases h;exact⟨rfl,rfl,fun c Q hQ=>zg7 (.exit id) Q _ _ hQ⟩
  |ret=>simp only[zA0]at h;cases h;exact⟨rfl,rfl,fun c Q hQ=>zg7 .ret Q _ _ hQ⟩
  |seq x1 y1=>
   simp only[zA0]at h
   split at h
   .rename_i l1 σ1 hb
    obtain⟨e1,e2,e3⟩:=ihn _ _ _ _ _ _ _ hb hl
    obtain⟨f1,f2,f3⟩:=ihn _ _ _ _ _ _ _ h om
    refine⟨om,f2,fun c Q hQ=> ?_⟩
    refine zU2 (K:=fun e s=>e=envX ms l1/\s=σ1) (e3 c _ (by trivial)) ?_
    rintro e' s' ⟨rfl,rfl⟩
    have:=f3 c Q hQ
    rwa [e1]at this
   .rename_i hno
    obtain⟨e1,e2,e3⟩:=ihn _ _ _ _ _ _ _ h hl
    refine⟨e1,e2,fun c Q hQ=> ?_⟩
    refine zU2 (K:=fun _ _=>False) (e3 c _ ?_) sM
    show xF9 _ Q x _ _
    cases x with
    |normal=>grind
    |_=>exact hQ
  |cond y t f=>
   simp only[zA0]at h
   split at h
   .rename_i hy
    obtain⟨e1,e2,e3⟩:=ihn _ _ _ _ _ _ _ h hl
    exact⟨e1,e2,fun c Q hQ=>zU1 hy (fun _=>e3 c Q hQ) sM⟩
   .rename_i hy
    obtain⟨e1,e2,e3⟩:=ihn _ _ _ _ _ _ _ h hl
    exact⟨e1,e2,fun c Q hQ=>zU1 hy sM (fun _=>e3 c Q hQ)⟩
   grind
  |block id b=>
   simp only[zA0]at h
   split at h
   .rename_i id' l1 σ1 hb
    obtain⟨e1,e2,e3⟩:=ihn _ _ _ _ _ _ _ hb hl
    split at h
    .rename_i hid
     cases h
     refine⟨e1,rfl,fun c Q hQ=>zh3 (e3 c _ ?_)⟩
     show(if id'=id then Q .normal _ _ else Q (.exit id') _ _)
     grind
    .rename_i hid
     cases h
     refine⟨e1,rfl,fun c Q hQ=>zh3 (e3 c _ ?_)⟩
     show(if id'=id then Q .normal _ _ else Q (.exit id') _ _)
     grind
   .rename_i hno
    obtain⟨e1,e2,e3⟩:=ihn _ _ _ _ _ _ _ h hl
    refine⟨e1,e2,fun c Q hQ=>zh3 (e3 c _ ?_)⟩
    show blkV id Q x _ _
    cases x with
    |exit id'=>grind
    |_=>exact hQ
  |region id ops draw=>
   cases draw with
   |true=>
    simp only[zA0,if_true]at h
    split at h
    .rename_i l1 σ1 hx
     cases h
     refine⟨(yR2 hc hpu hm (c:=⟨default,fun _=>0,[],[],[]⟩) (id:=id) hx hl).1,rfl,fun c Q hQ=> ?_⟩
     have:=(yR2 hc hpu hm (c:=c) (id:=id) hx hl).2 Q hQ
     omega
    grind
   |false=>
    simp only[zA0,Cp,if_false]at h
    split at h
    .rename_i l1 σ1 hx
     cases h
     refine⟨(zU5 hc (c:=⟨default,fun _=>0,[],[],[]⟩) _ _ _ _ _ hx hl).1,rfl,fun c Q hQ=> ?_⟩
     have:=(zU5 hc (c:=c) _ _ _ _ _ hx hl).2 (Q .normal) hQ
     grind[zg7,zD0]
    grind
  |loop b=>
   have hh:=h
   simp only[zA0]at h
   split at h
   .rename_i l1 σ1 hb
    obtain⟨e1,e2,e3⟩:=ihn _ _ _ _ _ _ _ hb hl
    obtain⟨f1,f2,f3⟩:=ihn _ _ _ _ _ _ _ h om
    exact⟨om,f2,fun c Q hQ=>yR3 ih hl f2 hQ h0 rfl⟩
   .obtain⟨e1,e2,e3⟩:=ihn _ _ _ _ _ _ _ h hl
    exact⟨e1,e2,fun c Q hQ=>yR3 ih hl e2 hQ h0 rfl⟩
  |rangeFunc _ _ _ _=>trivial
  |scope _=>trivial
  |goto _=>trivial
  |refuse _=>trivial
theorem xk2 (hN:(P.funcs.all fun fn=> !(fn.name== "runtime.NumGoroutine"))=true) (hm:P.follows .mixedOrders=true) (H:FuncId->List Nat) (n:Nat) {f:FuncId} {az:List V} {σ σ':St} {v:V} (h:zO0 P H (zK1 P noT H n) (.fn f []) az σ=some (v,σ')):
  VCalls P f az σ (fun r s=>r=v/\s=σ'):=by
 have:=(zt6 (yR1 xB0 (fun _ _=>rfl) hN hm n n om) h).1
 grind
def xV5 (P:Program) (H:FuncId->List Nat) (n:Nat) (f:FuncId) (az:List V):Option V:=
 match zO0 P H (zK1 P noT H n) (.fn f []) az []with
 |some (v,_)=>if noS v then some v else none
 |none=>none
theorem zn9 (hN:(P.funcs.all fun fn=> !(fn.name== "runtime.NumGoroutine"))=true) (hm:P.follows .mixedOrders=true) (H:FuncId->List Nat) (n:Nat) {f:FuncId} {az:List V} {v:V} (h:xV5 P H n f az=some v):Pure P f az v:=by
 unfold xV5 at h
 split at h
 .rename_i v' s hx
  split at h
  .rename_i hn
   cases h
   have:=(zt6 (yR1 xB0 (fun _ _=>rfl) hN hm n n om) hx).2.2 rfl hn
   grind
  grind
 grind
end
section
variable {P:Program} {c:Ctx} {nt:Nat} {n0:Kp} {K:KT} {e:Env} {σ:St} {d:Option Tmp}
variable {x:Operand}{t:TypeId}{k:Operand}
@[go_sem] theorem wop_mapEntry:wop P c nt d (.mapEntry t x k) K fx fx e σ=wfin nt d (xY (mapT P t) σ (zD e x) (zD e k)) K fx e σ:=(yW rfl rfl).trans rfl
@[go_sem] theorem wop_entryStore {s v:Operand}:wop P c nt d (.entryStore t x s v) K fx fx e σ=wfin nt d (xL σ (zD e x) (zD e s) (zD e v)) K fx e σ:=(yW rfl rfl).trans rfl
@[go_sem] theorem wop_entry:wop P c nt d (.entry x) K fx fx e σ=wfin nt d (zi9 σ (zD e x)) K fx e σ:=(yW rfl rfl).trans rfl
@[go_sem] theorem wop_ifc:wop P c nt d (.makeInterface t x) K fx fx e σ=wfin nt d (zZ2 (yt2 P t) t (zD e x)) K fx e σ:=(yW rfl rfl).trans rfl
@[go_sem] theorem wtop_lookup {ok:Bool}:wtop P c nt n0 4 d (.lookup t x k ok) K fx fx e σ=wop P c nt d (.lookup t x k ok) K fx fx e σ:=zU4 (fun _ _ _ _ _ h=>by cases h) (fun _ _ h=>by cases h) (fun _ _=>rfl) (fun _ _ _ h=>by cases h)
@[go_sem] theorem wtop_mapUpdate {v:Operand}:wtop P c nt n0 4 d (.mapUpdate t x k v) K fx fx e σ=wop P c nt d (.mapUpdate t x k v) K fx fx e σ:=zU4 (fun _ _ _ _ _ h=>by cases h) (fun _ _ h=>by cases h) (fun _ _=>rfl) (fun _ _ _ h=>by cases h)
@[go_sem] theorem wtop_entryStore {s v:Operand}:wtop P c nt n0 4 d (.entryStore t x s v) K fx fx e σ=wop P c nt d (.entryStore t x s v) K fx fx e σ:=zU4 (fun _ _ _ _ _ h=>by cases h) (fun _ _ h=>by cases h) (fun _ _=>rfl) (fun _ _ _ h=>by cases h)
theorem zo8 (h2:stOk n0 3 σ (xY (mapT P t) σ (zD e x) (zD e k))) (h:wop P c nt d (.mapEntry t x k) K fx fx e σ):wtop P c nt n0 3 d (.mapEntry t x k) K fx fx e σ:=by
 rw[zz9 (fun _ _ _ _ _ h=>by cases h) (fun _ _=>rfl) h2 (fun _ _ _ h=>by cases h)];exact h
theorem zD3 {s v:Operand} (h2:stOk n0 3 σ (xL σ (zD e x) (zD e s) (zD e v))) (h:wop P c nt d (.entryStore t x s v) K fx fx e σ):wtop P c nt n0 3 d (.entryStore t x s v) K fx fx e σ:=by
 rw[zz9 (fun _ _ _ _ _ h=>by cases h) (fun _ _=>rfl) h2 (fun _ _ _ h=>by cases h)];exact h
theorem zR0 {m:Option (Kk×V)} {id:Nat} {kv:V} {ok:Bool} {g:Ob->R} (hg:g=fun o=>xV m [o] (.mp 0) kv ok) (s:St):xV m s (.mp id) kv ok=match s[id]?.map g with
  |some r=>r
  |none=>xV m [] (.mp 0) kv ok:=by
 subst hg
 unfold xV
 cases m with
 |none=>cases s[id]? <;>rfl
 |some p=>
  obtain⟨kd,z⟩:=p
  by_cases hk:zo9 kd kv=true
  .cases h:s[id]? <;>simp[hk,h]
  .cases h:s[id]? <;>simp[hk,h]
theorem yo4 {ok:Bool} {id:Nat} {kv:V} {m:Option (Kk×V)} {g:Ob->R} (hx:zD e x= .mp id) (hk:zD e k=kv) (hm:mapT P t=m) (hg:g=fun o=>xV m [o] (.mp 0) kv ok) (ad:n0.ob=some (id,g)) (hn:id<n0.n) {v:V} (hv:xV m σ (.mp id) kv ok= .ok v)
  (h:wput nt d v K fx e σ):wtop P c nt n0 1 d (.lookup t x k ok) K fx fx e σ:=by
 have aa: ∀s,evOp P e s (.lookup t x k ok)=xV m s (.mp id) kv ok:=fun s=>by simp only[evOp,hx,hk,hm]
 have ab: ∀s,n0.of s=n0.of σ->evOp P e s (.lookup t x k ok)=evOp P e σ (.lookup t x k ok):=fun s hs=>by
  rw[aa s,aa σ,zR0 hg s,zR0 hg σ]
  have h2:=congrArg Prod.snd hs
  unfold Kp.of at h2
  simp only[ad,Ar,Aw,if_pos hn]at h2
  rw[h2]
 show vtop P c nt n0 1 d (.lookup t x k ok) K e σ
 have h1:=zf9 (P:=P) (e:=e) (σ:=σ) (.lookup t x k ok) (fun _ _ _ _ _ h=>by cases h)
 have h0:isSt (evOp P e σ (.lookup t x k ok))=false:=by simp only[evOp];unfold xV;(repeat' split)<;>rfl
 have hh:hok P d e (.lookup t x k ok):= .inr fun _ _=>rfl
 unfold vtop
 refine⟨fun _=>hh,by rw[zp2 hh];exact h1,fun q=>by simp at q,fun _=> .inr ⟨fun _ _ h=>(by cases h),ab⟩,fun q=>absurd q (by rw[zp2 hh,h0];decide),by rw[zp2 hh];exact zr8 h0, ?_⟩
 rw[zp2 hh,aa σ,hv]
 exact h
@[go_sem] theorem Kp.has_ex {n id:Nat} {ex:List Nat} {ob:Option (Nat×(Ob->R))}:(Kp.mk 0 n ex ob).has id=(decide (id<n)&& !ex.contains id):=by simp[Kp.has]
theorem zW {n0:Nat} {keep:List Nat} {vs:List V} {e:Env} {σ:St} (hn:n0<=σ.length) (h:keep.map e=vs):At n0 keep vs σ e σ:=by
 have ra: ∀i,ren (List.range σ.length) σ.length i=i:=fun i=>by
  by_cases h:i<σ.length
  .exact ze8 h
  .rw[zs5 (by simp;omega)];simp;omega
 refine⟨List.range σ.length,⟨sM,Br,fun i j o hi ho=> ?_,fun i hi=>by rw[List.getElem?_range om]⟩, ?_⟩
 .obtain⟨h1,h2⟩:=A6.1 hi
  simp at h1 h2
  subst h2
  rw[zr6 ra]
  exact ho
 .rw[h]
  have: ∀l:List V,All2 (argS (ren (List.range σ.length) σ.length)) l l:=by
   intro l
   induction l with
   |nil=>trivial
   |cons a l ih=>exact⟨.inl (zz5 ra a).symm,ih⟩
  exact this _
theorem yE0 {id:Nat} {ops:List Oper} {Q:QT} (q:List (Nat×Nat)) (k:Kp) (hn:k.n<=σ.length) (hm:P.follows .mixedOrders=true) (hd:(zA3 ops q&&zc8 ops)=true) (h:wtr P c nt k ops q 0 ops (Q .normal) fx fx fx e σ):wVW P c nt (.region id ops.toArray true) Q fx fx e σ:=by
 simp only[A1]at hd
 obtain⟨tr,ht,hK⟩:=zp6 ops 0 (Q .normal) e σ h
 exact VW.draw (n0:=k) hm hn hd.1 hd.2 ht hK
end
end Go.Vx
