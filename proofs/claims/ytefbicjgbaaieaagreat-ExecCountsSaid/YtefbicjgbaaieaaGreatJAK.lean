/-
  The kinds of expressions by the document, over trees (the library Vx); used by the theorem at the end of the claim.
  Conditions: as each theorem states them.
-/
import Derived.Test.YtefbicjgbaaieaaGreatJAJ
import Derived.Test.YtefbicjgbaaieaaGreatJAE
import Derived.Test.YtefbicjgbaaieaaGreatJAF
set_option maxHeartbeats 8000000
namespace Go.Proofs.YtefbicjgbaaieaaGreat
open Go Go.Vx Go.Proofs.Tryz
set_option maxRecDepth 100000
def xc8 (e:GExpr):Bool:=e.kind==3&&e.s== [65,78,68]&&e.args.length==2
def bfs:Nat->List GExpr->List GExpr->List GExpr
 |0,_,l=>l
 |_+1,[],l=>l
 |n+1,e::q,l=>if xc8 e=true then bfs n (q++e.args) l else bfs n q (l++ [e])
def zs9 (st:GStmt):List GExpr:=if st.filtered=true then bfs 4096 [st.where_] []else []
theorem ys2 (l:List GExpr):uni 6 (l.map GExpr.row):=yd6 fun e=>by rw[GExpr.row_eq];rfl
theorem zY6 (st:GStmt):Pure prog 109 [.agg st.row] (.sl .ro ((zs9 st).map GExpr.row)):=by
 generalize hM:zs9 st=M
 have ret: ∀(r:List GExpr) (g:Tag) (σ:St),r=M->wret (some (.sl g (r.map GExpr.row))) 0 (fun r s=>r= .sl .ro (M.map GExpr.row)/\s= []) σ:=fun r g σ h=>by subst h;exact xP zL ⟨rfl,rfl⟩
 unfold zs9 at hM
 refine iV 0 func109 ntmps109 results109 fun c hc hb=> ?_
 refine zx7 26 dc ?_
 refine zA ?_
 simp[go_sem]
 by_cases hf:st.filtered=true
 rotate_left
 .have ad:st.filtered=false:=sU hf
  rw[if_neg hf]at hM
  simp[go_sem,ad]
  exact ret [] _ _ hM
 rw[if_pos hf]at hM
 simp[go_sem,hf]
 refine xH4 4 6 [st.where_.row] dc (ys2 [st.where_]) sg ?_
 refine zo5 3 6 dc sg ?_
 refine zH (S:=Nat×List GExpr×List GExpr) [3,4,5,100026] (fun u=> [.sl (.app 1) (u.2.2.map GExpr.row),.sl (.app 0) (u.2.1.map GExpr.row),.int .i64 u.1,.tup []]) (fun u=> [.app u.2.1.length 6,.app u.2.2.length 6]) (fun u=>4096 - u.1)
  (fun u=>u.1<=4096/\u.2.1.length<=1+u.1/\u.2.2.length<=u.1/\bfs (4096 - u.1) u.2.1 u.2.2=M) hc hb (0,[st.where_],[]) ⟨A3 _,sM,sM,hM⟩ ?_ ?_
 .exact zK6 [1,2] dc rfl ⟨by simp[go_sem,yS],by simp[go_sem,yS],tV⟩ ⟨.inl (by simp[go_sem,renS,renA,renC,renK,ren]),.inl (by simp[go_sem,renS,renA,renC,renK,ren]),zC rfl,zC rfl,tV⟩
 rintro⟨n,q,l⟩ ⟨hn,ab,ae,hinv⟩
 simp only at hn ab ae hinv
 cases q with
 |nil=>
  have hl:l=M:=by rw[<-hinv];cases h:4096 - n<;>rfl
  refine zA ?_
  simp[go_sem]
  exact ret l _ _ hl
 |cons e q=>
 by_cases af:n<4096
 rotate_left
 .have hl:l=M:=by rw[<-hinv,show 4096 - n=0 by omega];rfl
  have hd:decide ((n:Int)<4096)=false:=decide_eq_false om
  refine zA ?_
  simp[go_sem,hd]
  exact ret l _ _ hl
 have hd:decide ((n:Int)<4096)=true:=decide_eq_true om
 rw[show 4096 - n=(4096 - (n+1))+1 by omega,bfs]at hinv
 have ei:IntKind.i64.wrap ((n:Int)+1)=((n+1:Nat):Int):=by rw[i64_id om om];omega
 refine zA ?_
 simp[go_sem,hd]
 refine zI om ?_
 simp[go_sem]
 by_cases hA:xc8 e=true
 .rw[if_pos hA]at hinv
  have aa:=hA
  unfold xc8 at aa
  simp only[A1,beq_iff_eq]at aa
  obtain⟨⟨q1,q2⟩,q3⟩:=aa
  simp[go_sem,q1,q2,q3]
  refine zI ⟨by simp at ab;omega,ys2 _⟩ ?_
  simp[go_sem,ei]
  refine zG (n+1,q++e.args,l) ⟨by simp only;omega,⟨by simp only;omega,by simp at ab⊢;omega,by simp only;omega,hinv⟩, ?_⟩
  exact zK6 [3,1] dc rfl ⟨by simp[go_sem,yS,q3],by simp[go_sem,yS],tV⟩ ⟨.inl (by simp[go_sem,renS,renA,renC,renK,ren]),.inl (by simp[go_sem,renS,renA,renC,renK,ren]),zC rfl,zC rfl,tV⟩
 .have aa:(e.kind==3&&e.s== [65,78,68]&&e.args.length==2)=false:=by simpa[xc8]using hA
  rw[if_neg hA]at hinv
  have key:(e.kind==3)=false∨((e.kind==3)=true/\(e.s== [65,78,68])=false)∨((e.kind==3)=true/\(e.s== [65,78,68])=true/\((e.args.length:Int)==2)=false):=by
   revert aa
   have e3:((e.args.length:Int)==2)=(e.args.length==2):=by
    rw[Dl];simp;omega
   rw[e3]
   cases e.kind==3<;>cases e.s== [65,78,68]<;>cases e.args.length==2<;>simp
  refine key.elim (fun q1=> ?_) fun key=>key.elim (fun q1=> ?_) fun q1=> ?_
  all_goals simp[go_sem,q1]
  all_goals refine zI ⟨om,zX rfl⟩ ?_
  all_goals simp[go_sem,ei]
  all_goals refine zG (n+1,q,l++ [e]) ⟨by simp only;omega,⟨by simp only;omega,by simp at ab⊢;omega,by simp;omega,hinv⟩, ?_⟩
  all_goals exact zK6 [3,1] dc rfl ⟨by simp[go_sem,yS],by simp[go_sem,yS],tV⟩ ⟨.inl (by simp[go_sem,renS,renA,renC,renK,ren]),.inl (by simp[go_sem,renS,renA,renC,renK,ren]),zC rfl,zC rfl,tV⟩
def xe8:V:= .tup [.str [],.agg [.int .i64 0,.int .i64 0,.str []],.bool false]
def zf7 (e:GExpr) (name:List UInt8):Option (List UInt8×GValue):=
 match e.kind==3,e.args with
 |true,[a,b]=>
  if b.kind=2 then(if b.s=name/\a.kind=1/\a.v.kind≠0 then some (xh8 e.s,a.v)else none)
  else if a.kind=2/\a.s=name/\b.kind=1/\b.v.kind≠0 then some (e.s,b.v)else none
 |_,_=>none
def cutV:Option (List UInt8×GValue)->V
 |none=>xe8
 |some (s,v)=> .tup [.str s,.agg v.row,.bool true]
theorem yq8 (e:GExpr) (name:List UInt8):Pure prog 110 [.agg e.row,.str name] (cutV (zf7 e name)):=by
 generalize hM:zf7 e name=M
 have no: ∀(σ:St),none=M->wret (some xe8) 0 (fun r s=>r=cutV M/\s= []) σ:=fun σ h=>by subst h;exact wR
 have yes: ∀(s:List UInt8) (v:GValue) (σ:St),some (s,v)=M->wret (some (.tup [.str s,.agg v.row,.bool true])) 0 (fun r s=>r=cutV M/\s= []) σ:=fun s v σ h=>by subst h;exact wR
 unfold zf7 at hM
 refine iW 0 func110 ntmps110 results110 fun c hc hb=>zK ?_
 simp[go_sem]
 by_cases q1:e.kind=3
 rotate_left
 .have ab:(e.kind !=3)=true:=sU q1
  have aa:(e.kind==3)=false:=sU q1
  simp only[aa]at hM
  simp[go_sem,ab]
  exact no _ hM
 have ab:(e.kind !=3)=false:=sU q1
 have aa:(e.kind==3)=true:=sU q1
 simp only[aa]at hM
 obtain⟨k,hk⟩:=eX e.kind
 simp[go_sem,ab]
 by_cases q2:e.args.length=2
 rotate_left
 .have ad:((e.args.length:Int) !=2)=true:=by simpa using (show ¬(e.args.length:Int)=2 by omega)
  simp[go_sem,ad]
  refine no _ ?_
  rw[<-hM]
  split
  .rename_i h;rw[h]at q2;exact absurd rfl q2
  .rfl
 have ad:((e.args.length:Int) !=2)=false:=by simpa using (show(e.args.length:Int)=2 by omega)
 simp[go_sem,ad]
 obtain⟨a,b,af⟩: ∃a b,e.args= [a,b]:=by
  match e.args,q2 with
  | [a,b],_=>exact⟨a,b,rfl⟩
 simp only[af]at hM
 refine wc7 [(12,3),(13,3)] 1 10 sM kR (by rw[hc];exact A3 _) hb kR rfl (by repeat' (first|exact LtE.env0|refine LtE.upd ?_ (by simp[ltS,ltA,ltC,ltK]))) (by simp only[Cm,List.take_zero];exact rfl) (by simp only[D0,B1];exact rfl) ?_
 simp[go_sem,af]
 refine⟨by repeat' (first|exact LtE.env0|refine LtE.upd ?_ (by simp[ltS,ltA,ltC,ltK])), ?_⟩
 by_cases q3:b.kind=2
 .have ae:(b.kind==2)=true:=sU q3
  rw[if_pos q3]at hM
  simp[go_sem,ae]
  refine zc2 [(0,2),(1,2),(3,0),(4,3),(5,3)] 2 sM kR kR ?_
  simp[go_sem]
  refine pD (xG3 e.s) ?_
  have q4:(b.kind !=2)=false:=sU q3
  simp[go_sem,q4]
  repeat' (first
   |(refine xB (fun q=> ?_) (fun q=> ?_)<;>simp[go_sem,q])
   |(refine zR (fun q=> ?_) (fun q=> ?_)<;>simp[go_sem,q])
   |(refine zc2 [(2,2),(4,3)] 1 sM kR kR ?_;simp[go_sem]))
  all_goals first|exact no _ (by rw[<-hM];simp_all)|exact yes _ _ _ (by rw[<-hM];simp_all)
 .have ae:(b.kind==2)=false:=sU q3
  rw[if_neg q3]at hM
  simp[go_sem,ae]
  repeat' (first
   |(refine xB (fun q=> ?_) (fun q=> ?_)<;>simp[go_sem,q])
   |(refine zR (fun q=> ?_) (fun q=> ?_)<;>simp[go_sem,q])
   |(refine zc2 [(2,2),(4,3)] 1 sM kR kR ?_;simp[go_sem]))
  all_goals first|exact no _ (by rw[<-hM];simp_all)|exact yes _ _ _ (by rw[<-hM];simp_all)
end Go.Proofs.YtefbicjgbaaieaaGreat
namespace Go.Proofs.YtefbicjgbaaieaaGreat.R
open Go Go.Vx Go.Proofs.Tryz
set_option maxRecDepth 100000
def bys (l:List UInt8):V:= .sl .ro (zO l)
theorem zQ (l:List UInt8):(zO l).length=l.length:=by simp[zO]
theorem zl7 (l:List UInt8):uni 1 (zO l):=fun r hr=>by
 obtain⟨x,_,rfl⟩:=Ad.1 hr
 rfl
def byA (l:List UInt8):V:= .sl (.app 0) (zO l)
def stA (l:List UInt8):St:= [.app l.length 1]
abbrev maxB:Nat:=1000000000
theorem yX0 (b:List UInt8) (n:Nat) (hb:b.length<=maxB) (hn:n<=maxB):VCalls prog 279 [bys b,.int .i64 n] [] fun r s=>r=byA b/\s=stA b:=by
 refine iW 0 func279 ntmps279 results279 fun c hc hb=>zK ?_
 simp[go_sem,bys,zQ]
 have e1:IntKind.i64.wrap ((b.length:Int)+n)=((b.length+n:Nat):Int):=by rw[i64_id (by unfold maxB at*;omega) (by unfold maxB at*;omega)];omega
 simp[go_sem,e1]
 refine zI ⟨om,by unfold maxB at*;omega⟩ ?_
 simp[go_sem,zQ]
 refine zI ⟨by unfold maxB at*;omega,zl7 b⟩ ?_
 simp[go_sem]
 exact zp7 1 rfl rfl om (zp8 rfl) ⟨rfl,rfl⟩
def varF (v:Nat):List UInt8:=if v<128 then [UInt8.ofNat v]else UInt8.ofNat (v%128+128)::varF (v/128)
termination_by v
decreasing_by omega
theorem zT6 {v:Nat} (h:v<128):varF v= [UInt8.ofNat v]:=by rw[varF,if_pos h]
theorem yd7 {v:Nat} (h: ¬v<128):varF v=UInt8.ofNat (v%128+128)::varF (v/128):=by rw[varF,if_neg h]
theorem xi6: ∀(k v:Nat),v<128^(k+1)->(varF v).length<=k+1
 |0,v,h=>by rw[zT6 om];simp
 |k+1,v,h=>by
  by_cases hv:v<128
  .rw[zT6 hv];simp
  .rw[yd7 hv,Aa]
   have:=xi6 k (v/128) (by rw[Bz om];rwa [Nat.pow_succ]at h)
   omega
theorem zT5 {v:Nat} (h:v<18446744073709551616):(varF v).length<=10:=xi6 9 v om
structure VarS where
 out:List UInt8
 v:Nat
theorem u64_id {n:Int} (h:0<=n) (h2:n<=18446744073709551615):IntKind.u64.wrap n=n:=by
 unfold IntKind.wrap
 simp[IntKind.bits,IntKind.signed]
 omega
theorem zX8 (n:Nat):IntKind.u8.wrap (n:Int)=((UInt8.ofNat n).toNat:Int):=by
 unfold IntKind.wrap
 simp[IntKind.bits,IntKind.signed]
theorem wa4:((List.range 256).all fun m=>zf2 .or .u8 (m:Int) 128==((m%128+128:Nat):Int))=true:=by rfl
theorem wh2 (v:Nat):zf2 .or .u8 (IntKind.u8.wrap (v:Int)) 128=((UInt8.ofNat (v%128+128)).toNat:Int):=by
 have h:=Aj.1 wa4 (v%256) (by grind)
 simp_all[zX8];omega
theorem xs3 (b:List UInt8) (v0:Nat) (aa:b.length<=maxB) (hv:v0<18446744073709551616):VCalls prog 223 [bys b,.int .u64 v0] [] fun r s=>r=byA (b++varF v0)/\s=stA (b++varF v0):=by
 refine iV 0 func223 ntmps223 results223 fun c hc hb=> ?_
 refine zA ?_
 simp[go_sem]
 refine zJ7 (yX0 b 10 aa dc) cB (zY rfl) ?_
 rintro r s ⟨rfl,rfl⟩
 simp[go_sem]
 refine zH (S:=VarS) [1,5] (fun s=> [.int .u64 s.v,byA s.out]) (fun s=>stA s.out) (fun s=>s.v) (fun s=>s.v<18446744073709551616/\s.out++varF s.v=b++varF v0) hc hb ⟨b,v0⟩ (by grind) ?_ ?_
 .exact at_n 1 rfl rfl rfl om (zF (by rfl) rfl)
 rintro⟨out,v⟩ ⟨ab,hs⟩
 simp only at ab hs
 have hlen:out.length<=maxB+10:=by
  have:=congrArg List.length hs
  grind[zT5]
 refine zA ?_
 simp[go_sem,byA,stA]
 refine zR (fun h=> ?_) (fun h=> ?_)
 .have h: ¬v<128:=by grind
  have u1:=wh2 v
  simp[go_sem,u1]
  refine zI ⟨zQ out,by simp_all[zQ,maxB];omega,zX rfl⟩ ?_
  have e5:(v:Int).fdiv 128=(v:Int)/128:=(by grind)
  simp[go_sem,e5]
  rw[yd7 h]at hs
  refine zG ⟨out++ [UInt8.ofNat (v%128+128)],v/128⟩ ⟨by grind,(by grind),at_n 1 sM rfl rfl om (zF (by simp[go_sem,zO]) rfl)⟩
 .have h:v<128:=by grind
  simp[go_sem,zQ,zX8]
  refine zI ⟨by grind,zX rfl⟩ ?_
  simp[go_sem]
  rw[zT6 h]at hs
  have ad:b.length+(varF v0).length=out.length+1:=by
   have:=congrArg List.length hs
   grind
  rw[<-hs]
  exact zp7 1 rfl rfl om (zp8 rfl) (by simp[zO];omega)
theorem xW0 (b t:List UInt8) (aa:b.length<=maxB) (ht:t.length<=maxB):VCalls prog 281 [bys b,bys t] [] fun r s=>r=byA (b++varF t.length++t)/\s=stA (b++varF t.length++t):=by
 refine iW 0 func281 ntmps281 results281 fun c hc hb=>zK ?_
 have e1:IntKind.u64.wrap (t.length:Int)=(t.length:Int):=u64_id om (by grind)
 simp[go_sem,bys,zQ,e1]
 refine zJ7 (xs3 b t.length aa (by grind)) cB (zY rfl) ?_
 rintro r s ⟨rfl,rfl⟩
 have ab:=zT5 (v:=t.length) (by grind)
 simp[go_sem,byA,stA,zQ]
 refine zI (by simp_all[maxB,zl7];omega) ?_
 simp[go_sem]
 exact zp7 1 rfl rfl om (zp8 rfl) (by grind[zO])
def zigF (n:Int):Nat:=if 0<=n then(2*n).toNat else(-2*n - 1).toNat
theorem xj1 {n:Int} (h:i64R n):zigF n<18446744073709551616:=by
 grind[zigF,i64R]
theorem xU8 (ek:Nat) (es:Option (List Pk)) (a b:Int):zt0 .shr ek es (.int .i64 a) (.int .u64 b)= .need (0<=b) (.int .i64 (a.fdiv (2^(min b.toNat 64)))):=rfl
theorem wh8 {x:Int} (h:0<=x) (h2:x<=18446744073709551615):zf2 .xor .u64 x 0=x:=by
 obtain⟨m,rfl⟩:=Dx h
 show IntKind.u64.wrap ((BitVec.ofInt 64 (m:Int)^^^BitVec.ofInt 64 0).toNat:Int)=m
 have e:BitVec.ofInt 64 (0:Int)=0#64:=rfl
 grind[u64_id]
theorem wh9 {x:Int} (h:0<=x) (h2:x<=18446744073709551615):zf2 .xor .u64 x 18446744073709551615=18446744073709551615 - x:=by
 obtain⟨m,rfl⟩:=Dx h
 show IntKind.u64.wrap ((BitVec.ofInt 64 (m:Int)^^^BitVec.ofInt 64 18446744073709551615).toNat:Int)=_
 have e:BitVec.ofInt 64 (18446744073709551615:Int)=BitVec.allOnes 64:=by rfl
 rw[e,BitVec.xor_allOnes,BitVec.ofInt_natCast,BitVec.toNat_not,BitVec.toNat_ofNat,Cs om]
 grind[u64_id]
theorem wd9 (n:Int) (hn:i64R n):Pure prog 280 [.int .i64 n] (.int .u64 (zigF n)):=by
 refine iW 0 func280 ntmps280 results280 fun c hc hb=>zK ?_
 unfold i64R at hn
 rcases Int.lt_or_le n 0 with h|h
 .have e1:IntKind.u64.wrap n=n+18446744073709551616:=by grind[IntKind.wrap_u64]
  have e2:IntKind.u64.wrap ((n+18446744073709551616)*2)=2*n+18446744073709551616:=by grind[IntKind.wrap_u64]
  have e3:n.fdiv 9223372036854775808= -1:=by grind
  have e4:IntKind.u64.wrap (-1)=18446744073709551615:=by rfl
  have e5:zf2 .xor .u64 (2*n+18446744073709551616) 18446744073709551615=((zigF n:Nat):Int):=by
   rw[wh9 om om,zigF,if_neg om];omega
  simp[go_sem,e1,e2,xU8,e3,e4,e5]
  exact xP (zC rfl) sM
 .have e1:IntKind.u64.wrap n=n:=(by grind[u64_id])
  have e2:IntKind.u64.wrap (n*2)=2*n:=by grind[u64_id]
  have e3:n.fdiv 9223372036854775808=0:=by grind
  have e4:IntKind.u64.wrap 0=0:=(by rfl)
  have e5:zf2 .xor .u64 (2*n) 0=((zigF n:Nat):Int):=by
   rw[wh8 om om,zigF,if_pos h];omega
  simp[go_sem,e1,e2,xU8,e3,e4,e5]
  exact xP (zC rfl) sM
end Go.Proofs.YtefbicjgbaaieaaGreat.R
namespace Go.Vx
open Go
theorem VCalls.loose {P:Program} {f:FuncId} {args:List V} {σ:St} {R R':V->St->Prop} (h:VCalls P f args σ R) (hR: ∀r s,R r s->VRet σ.length R' r s):VCalls P f args σ R':=by
 intro w L β ab hm ha
 refine(h w L β ab hm ha).mono ?_
 rintro e w' ⟨v,r,L',σ',β',he,hr,hl,ae,aj⟩
 obtain⟨v1,σ1,pick,σ2,r2,af,hp,ag,ah⟩:=hR _ _ hr
 obtain⟨L2,β2,aa,_,_,ad,_⟩:=af.ok ae (xs:= [v]) (by trivial)
 refine⟨v,r2,L2,σ2,_,he,ah, ?_,aa.pick hp hm.len,zx9 (hp.bak aa.len) ag ad⟩
 rw[hp.len]
 rcases C1 pick.length σ.length with ai|ak
 .have:=(A6.1 (hp.id pick.length ai)).1
  omega
 omega
end Go.Vx
namespace Go.Proofs.YtefbicjgbaaieaaGreat.R
open Go Go.Vx Go.Proofs.Tryz
set_option maxRecDepth 100000
theorem zU9 {f:FuncId} {args:List V} {l:List UInt8} (h:VCalls prog f args [] fun r s=>r=byA l/\s=stA l):Pure prog f args (bys l):=h.loose fun r s q=>by
 obtain⟨rfl,rfl⟩:=q
 have h:wret (some (byA l)) 0 (fun r s=>r=bys l/\s= []) (stA l):=xP zL (by trivial)
 obtain⟨x,h1,h2⟩:=h
 grind
def mayF (v:GValue):Bool:=
 if v.kind=0 then decide (v.n=0)&&v.s.isEmpty else if v.kind=1 then(decide (v.n=0)||decide (v.n=1))&&v.s.isEmpty
 else if v.kind=2 then v.s.isEmpty else if v.kind=3 then decide (v.n=0)&&decide (v.s.length<=64)else false
theorem yq6 (v:GValue):Pure prog 177 [.agg v.row] (.bool (mayF v)):=by
 obtain⟨k,n,s⟩:=v
 refine iW 0 func177 ntmps177 results177 fun c hc hb=>zK ?_
 simp[go_sem]
 have yes: ∀(r b:Bool) (σ:St),r=b->wret (some (.bool r)) 0 (fun r s=>r= .bool b/\s= []) σ:=fun r b σ h=>by subst h;exact xP (zC rfl) sM
 repeat' (first|(refine xB (fun q=> ?_) (fun q=> ?_)<;>simp[go_sem,q])|(refine zR (fun q=> ?_) (fun q=> ?_)<;>simp[go_sem,q])|(refine yes _ _ _ ?_))
 all_goals grind[mayF]
def zb5 (v:GValue):List UInt8:=
 if mayF v=true then
  UInt8.ofNat v.kind.toNat::(if v.kind=1 then [UInt8.ofNat v.n.toNat]else if v.kind=2 then varF (zigF v.n)else if v.kind=3 then varF v.s.length++v.s else [])
 else []
theorem zm3 {ρ:Nat->Nat} {g:Tag} {rows rows':List (List V)} (h:rows'=rows):argS ρ (.sl .ro rows') (.sl g rows):=by grind[zL]
theorem zp9 {b l:List UInt8} {g:Tag} {rows:List (List V)} {σ:St} (h:zO (b++l)=rows):wret (some (.sl g rows)) 0 (fun r s=>r=bys (b++l)/\s= []) σ:=by subst h;exact xP zL (by trivial)
theorem xJ5 (b:List UInt8) (v:GValue) (hv:v.ok) (aa:b.length<=maxB - 1) (hs:v.s.length<=maxB):Pure prog 224 [bys b,.agg v.row] (bys (b++zb5 v)):=by
 refine iW 0 func224 ntmps224 results224 fun c hc hb=>zK ?_
 obtain⟨k,n,s⟩:=v
 have hn:=hv.n
 simp only at hs hn
 simp[go_sem,bys,zQ]
 refine zI ⟨by grind,by simp[uni],zl7 b⟩ ?_
 simp[go_sem]
 refine pC (yq6 ⟨k,n,s⟩) ?_
 simp[go_sem]
 refine zR (fun h=> ?_) (fun h=> ?_)
 .simp[go_sem]
  refine zp9 ?_
  grind[zb5]
 have h:mayF ⟨k,n,s⟩=true:=by grind
 have hk:k=0∨k=1∨k=2∨k=3:=by
  grind[mayF]
 simp[go_sem,zQ]
 refine zI ⟨by grind,zX rfl⟩ ?_
 have w0:IntKind.u8.wrap 0=0:=by rfl
 have w1:IntKind.u8.wrap 1=1:=by rfl
 have w2:IntKind.u8.wrap 2=2:=by rfl
 have w3:IntKind.u8.wrap 3=3:=by rfl
 rcases hk with rfl|rfl|rfl|rfl
 .simp[go_sem]
  refine zp9 ?_
  grind[zb5,zO]
 .have h1:n=0∨n=1:=by
   grind[mayF]
  simp[go_sem]
  refine zI ⟨zQ b,by simp_all[zQ];omega,zX rfl⟩ ?_
  simp[go_sem]
  refine zp9 ?_
  rcases h1 with rfl|rfl<;>simp[zb5,h,zO,w0,w1]
 .simp[go_sem]
  refine pC (wd9 n hn) ?_
  simp[go_sem]
  refine zM (zU9 (xs3 (b++ [2]) (zigF n) (by grind) (xj1 hn))) cB ⟨zm3 (by grind[zO]),zC rfl,tV⟩ rfl ?_
  simp[go_sem]
  refine zp9 ?_
  grind[zb5]
 .simp[go_sem]
  refine zM (zU9 (xW0 (b++ [3]) s (by grind) hs)) cB ⟨zm3 (by grind[zO]),zC rfl,tV⟩ rfl ?_
  simp[go_sem]
  refine zp9 ?_
  grind[zb5]
end Go.Proofs.YtefbicjgbaaieaaGreat.R
namespace Go.Proofs.YtefbicjgbaaieaaGreat.R
open Go Go.Vx Go.Proofs.Tryz
set_option maxRecDepth 100000
structure LightR (row:List GValue):Prop where
 len:row.length<=20
 s: ∀v∈row,v.s.length<=500
 ok: ∀v∈row,v.ok
variable {i:Nat}{n:Nat}{e:Int}{σ:St}{x:Nat}{g:Tag}
theorem yW3 {v:GValue} (hn:i64R v.n) (h:v.s.length<=500):(zb5 v).length<=520:=by
 unfold zb5
 have h1:=zT5 (xj1 hn)
 have h2:=zT5 (v:=v.s.length) om
 (repeat' split)<;>simp<;>omega
theorem yl2: ∀{l:List GValue},(∀v∈l,v.s.length<=500)->(∀v∈l,v.ok)->(l.flatMap zb5).length<=520*l.length
 | [],_,_=>by simp
 |v::l,h,ho=>by
  have h1:=yW3 (ho v sM).n (h v sM)
  have h2:=yl2 (l:=l) (fun x hx=>h x (by simp[hx])) (fun x hx=>ho x (by simp[hx]))
  simp only[C8,Ak,Aa]
  omega
def zG5 (row:List GValue) (i:Nat):List UInt8:=varF row.length++(row.take i).flatMap zb5
def yH (row:List GValue):List UInt8:=zG5 row row.length
theorem zV2 {row:List GValue} (h:LightR row) (i:Nat):(zG5 row i).length<=20000:=by
 have h1:=zT5 (v:=row.length) (by have:=h.len;omega)
 have h2:=yl2 (l:=row.take i) (fun v hv=>h.s v (Cu hv)) (fun v hv=>h.ok v (Cu hv))
 have h3:=h.len
 have h4:(row.take i).length<=row.length:=by simp;exact Nat.min_le_right _ _
 unfold zG5
 rw[Ak]
 omega
theorem yS7 {row:List GValue} (h:i<row.length):zG5 row (i+1)=zG5 row i++zb5 row[i]:=by
 unfold zG5
 rw[By h,List.flatMap_append,Cw]
 simp
theorem xr6 (row:List GValue) (h:LightR row):Pure prog 150 [.sl .ro (row.map GValue.row)] (.str (yH row)):=by
 refine iV 0 func150 ntmps150 results150 fun c hc hb=> ?_
 refine zA ?_
 have hl:=h.len
 have e1:IntKind.u64.wrap (row.length:Int)=(row.length:Int):=u64_id om om
 simp[go_sem,e1]
 refine zM (zU9 (xs3 [] row.length dc om)) cB ⟨zm3 rfl,zC rfl,tV⟩ rfl ?_
 simp[go_sem]
 refine zH (S:=Nat) [3,10,11,12] (fun i=> [bys (zG5 row i),.sl .ro (row.map GValue.row),.int .i64 row.length,.int .i64 i]) (fun _=> []) (fun i=>row.length - i) (fun i=>i<=row.length) hc hb 0 (A3 _) ?_ ?_
 .exact at_0 rfl (zN (by simp[go_sem,zG5]) rfl)
 intro i hi
 refine zA ?_
 simp[go_sem]
 refine zR (fun q=> ?_) (fun q=> ?_)
 .have q:i<row.length:=sU q
  obtain⟨v,hv⟩:=eX (row[i])
  have hm:v∈row:=hv▸Ab q
  simp[go_sem,q,hv]
  have h2:=zV2 h i
  have h3:=h.s v hm
  refine pC (xJ5 (zG5 row i) v (h.ok v hm) (by unfold maxB;omega) (by unfold maxB;omega)) ?_
  simp[go_sem,zS q om]
  refine zG (i+1) ⟨om,q,at_0 rfl (zN (by simp[go_sem,yS7 q,hv]) rfl)⟩
 .have q:i=row.length:=by
   have: ¬i<row.length:=sU q
   omega
  subst q
  simp[go_sem,bys]
  refine zI (wY _) ?_
  simp[go_sem,zk1]
  exact wR
def wX:List UInt8->Nat->Nat->Nat×Nat×Int
 | [],_,_=>(0,0,2)
 |c::rest,i,v=>if i=9/\1<c.toNat then(0,0,5)else if c.toNat<128 then(if c.toNat=0/\0<i then(0,0,9)else(v+c.toNat%128*128^i,i+1,0))else wX rest (i+1) (v+c.toNat%128*128^i)
def yw2 (r:Nat×Nat×Int):V:= .tup [.int .u64 r.1,.int .i64 r.2.1,.int .i64 r.2.2]
theorem yR8:((List.range 256).all fun m=>zf2 .andNot .u8 (m:Int) 128==((m%128:Nat):Int))=true:=by decide+kernel
theorem xq9 (c:UInt8):zf2 .andNot .u8 (c.toNat:Int) 128=((c.toNat%128:Nat):Int):=by
 have h:=Aj.1 yR8 c.toNat (Ci.2 c.toNat_lt)
 exact beq_iff_eq.1 h
theorem wc3 {m:Nat} (hm:m<18446744073709551616) (hn:n<18446744073709551616) (ho:m|||n<18446744073709551616):zf2 .or .u64 (m:Int) (n:Int)=((m|||n:Nat):Int):=by
 show IntKind.u64.wrap ((BitVec.ofInt 64 (m:Int)|||BitVec.ofInt 64 (n:Int)).toNat:Int)=_
 rw[BitVec.ofInt_natCast,BitVec.ofInt_natCast,BitVec.toNat_or,BitVec.toNat_ofNat,BitVec.toNat_ofNat,Cs om,Cs om]
 exact u64_id om om
theorem xg1 (i:Nat):128^i=2^(7*i):=by rw[Nat.pow_mul]
theorem wa3 {v:Nat} (hv:v<128^i):v|||(x*128^i)=v+x*128^i:=by
 rw[xg1]at*
 have:=Nat.shiftLeft_add_eq_or_of_lt hv x
 rw[Nat.shiftLeft_eq]at this
 rw[Nat.or_comm,<-this,Dt]
theorem yA5 {v:Nat} (hv:v<128^i) (hx:x<128):v+x*128^i<128^(i+1):=by
 have:(x+1)*128^i<=128*128^i:=Ah _ om
 rw[Nat.pow_succ]
 rw[B2]at this
 omega
theorem xe6 {v:Nat} (hv:v<128^i) (hx:x<128) (h9:i<=8∨i=9/\x<=1):v+x*128^i<18446744073709551616/\x*128^i<18446744073709551616:=by
 rcases h9 with h|⟨rfl,h⟩
 .have h1:=yA5 hv hx
  have h2:128^(i+1)<=128^9:=Nat.pow_le_pow_right om om
  omega
 .have:x=0∨x=1:=om
  rcases this with rfl|rfl<;>omega
theorem zy1 {b:List UInt8} (h:i<(zO b).length):(zO b)[i]= [.int .u8 (b[i]'(by rw[zQ]at h;exact h)).toNat]:=by simp[zO]
theorem zU6 (b:List UInt8) (ah:b.length<=maxB):Pure prog 147 [bys b] (yw2 (wX b 0 0)):=by
 refine iV 0 func147 ntmps147 results147 fun c hc hb=> ?_
 refine zA ?_
 simp[go_sem,bys,zQ]
 refine zH (S:=Nat×Nat) [2,7,8,9] (fun u=> [.int .u64 u.2,bys b,.int .i64 b.length,.int .i64 u.1]) (fun _=> []) (fun u=>b.length - u.1) (fun u=>u.1<=b.length/\u.1<=9/\u.2<128^u.1/\wX (b.drop u.1) u.1 u.2=wX b 0 0) hc hb (0,0) ⟨A3 _,A3 _,dc,rfl⟩ ?_ ?_
 .exact at_0 rfl (zN (by simp[go_sem,bys]) rfl)
 rintro⟨i,v⟩ ⟨hi,h9,hv,ht⟩
 simp only at hi h9 hv ht
 refine zA ?_
 simp[go_sem,bys]
 refine zR (fun q=> ?_) (fun q=> ?_)
 .have q:i<b.length:=sU q
  obtain⟨c0,ae⟩: ∃c,b[i]=c:=⟨_,rfl⟩
  rw[A5 q,ae,wX]at ht
  have ak:c0.toNat<256:=c0.toNat_lt
  have ei:IntKind.i64.wrap ((i:Int)+1)=((i+1:Nat):Int):=zS q (by unfold maxB at ah;omega)
  have ret: ∀(r:Nat×Nat×Int) (σ:St),r=wX b 0 0->wret (some (yw2 r)) 0 (fun r s=>r=yw2 (wX b 0 0)/\s= []) σ:=fun r σ h=>by subst h;exact wR
  by_cases hA:i=9/\1<c0.toNat
  .rw[if_pos hA]at ht
   simp[go_sem,zQ,q,zy1,ae]
   have f1:((i:Int)==9)=true:=by simp;omega
   refine xB (fun w=> ?_) (fun w=>absurd (f1.symm.trans w) dc)
   simp[go_sem,w]
   refine zR (fun w2=> ?_) (fun w2=>absurd w2 (by simp;omega))
   simp[go_sem]
   exact ret (0,0,5) _ ht
  rw[if_neg hA]at ht
  have ai:i<=8∨i=9/\c0.toNat%128<=1:=by
   by_cases h:i=9
   .exact .inr ⟨h,by
     have: ¬1<c0.toNat:=fun w=>hA ⟨h,w⟩
     omega⟩
   .exact .inl om
  have hx:c0.toNat%128<128:=Cn _ om
  have n12:=xe6 hv hx ai
  have fA:i=9-> ¬1<c0.toNat:=fun h w=>hA ⟨h,w⟩
  have a1:=xq9 c0
  have e1:IntKind.i64.wrap (7*(i:Int))=7*(i:Int):=i64_id om om
  have e2:IntKind.u64.wrap (7*(i:Int))=7*(i:Int):=u64_id om om
  have e3:IntKind.u64.wrap ((c0.toNat:Int)%128)=(c0.toNat:Int)%128:=u64_id om om
  obtain⟨x,ad⟩: ∃x:Nat,x=c0.toNat%128*128^i:=⟨_,rfl⟩
  obtain⟨m,af⟩: ∃m:Nat,m=v+x:=⟨_,rfl⟩
  have ag:m<128^(i+1):=by rw[af,ad];exact yA5 hv hx
  have aj:v|||x=m:=by rw[af,ad];exact wa3 hv
  rw[<-ad,<-af]at ht n12
  have e4:IntKind.u64.wrap ((c0.toNat:Int)%128*2^min (7*(i:Int)).toNat 64)=(x:Int):=by
   have:min (7*(i:Int)).toNat 64=7*i:=om
   rw[this]
   have h3:(c0.toNat:Int)%128*2^(7*i)=(x:Int):=by rw[ad,xg1];simp
   rw[h3,u64_id om om]
  have e5:zf2 .or .u64 (v:Int) (x:Int)=(m:Int):=by rw[wc3 om om om,aj]
  simp[go_sem,zQ,q,zy1,ae]
  refine xB (fun w=> ?_) (fun w=> ?_)
  .have w9:i=9:=by simp at w;omega
   have w1:=fA w9
   simp[go_sem,w]
   refine zR (fun w2=>absurd w2 (by simp;omega)) (fun w2=> ?_)
   simp[go_sem,a1,e1,e2,e3,e4,e5]
   try (refine zI om ?_;simp[go_sem,a1,e1,e2,e3,e4,e5])
   refine zR (fun w3=> ?_) (fun w3=> ?_)
   .have w4: ¬c0.toNat<128:=by have:=of_decide_eq_true w3;omega
    have i8:i+1<=9:=om
    rw[if_neg w4]at ht
    simp[go_sem,ei]
    exact zG (i+1,m) ⟨by simp only;omega,⟨q,i8,ag,ht⟩,at_0 rfl (zN (by simp[go_sem,bys,ei]) rfl)⟩
   .have w4:c0.toNat<128:=by have:=of_decide_eq_false w3;omega
    rw[if_pos w4]at ht
    simp[go_sem]
    refine xB (fun w5=> ?_) (fun w5=> ?_)
    .have aa:c0.toNat=0:=by simp at w5;omega
     simp[go_sem,w5]
     refine zR (fun w6=> ?_) (fun w6=> ?_)
     .have ab:0<i:=sU w6
      rw[if_pos ⟨aa,ab⟩]at ht
      simp[go_sem]
      exact ret (0,0,9) _ ht
     .have ab: ¬0<i:=sU w6
      rw[if_neg (fun h=>ab h.2)]at ht
      simp[go_sem,ei]
      exact ret (m,i+1,0) _ ht
    .have aa: ¬c0.toNat=0:=by simp at w5;omega
     rw[if_neg (fun h=>aa h.1)]at ht
     simp[go_sem,w5,ei]
     exact ret (m,i+1,0) _ ht
  .have w9: ¬i=9:=by simp at w;omega
   simp[go_sem,w,a1,e1,e2,e3,e4,e5]
   try (refine zI om ?_;simp[go_sem,a1,e1,e2,e3,e4,e5])
   refine zR (fun w3=> ?_) (fun w3=> ?_)
   .have w4: ¬c0.toNat<128:=by have:=of_decide_eq_true w3;omega
    have i8:i+1<=9:=om
    rw[if_neg w4]at ht
    simp[go_sem,ei]
    exact zG (i+1,m) ⟨by simp only;omega,⟨q,i8,ag,ht⟩,at_0 rfl (zN (by simp[go_sem,bys,ei]) rfl)⟩
   .have w4:c0.toNat<128:=by have:=of_decide_eq_false w3;omega
    rw[if_pos w4]at ht
    simp[go_sem]
    refine xB (fun w5=> ?_) (fun w5=> ?_)
    .have aa:c0.toNat=0:=by simp at w5;omega
     simp[go_sem,w5]
     refine zR (fun w6=> ?_) (fun w6=> ?_)
     .have ab:0<i:=sU w6
      rw[if_pos ⟨aa,ab⟩]at ht
      simp[go_sem]
      exact ret (0,0,9) _ ht
     .have ab: ¬0<i:=sU w6
      rw[if_neg (fun h=>ab h.2)]at ht
      simp[go_sem,ei]
      exact ret (m,i+1,0) _ ht
    .have aa: ¬c0.toNat=0:=by simp at w5;omega
     rw[if_neg (fun h=>aa h.1)]at ht
     simp[go_sem,w5,ei]
     exact ret (m,i+1,0) _ ht
 .have q:i=b.length:=by
   have: ¬i<b.length:=sU q
   omega
  subst q
  rw[Cf,wX]at ht
  simp[go_sem]
  rw[<-ht]
  exact wR
theorem zC5: ∀(l:List UInt8) (i v:Nat),(wX l i v).2.2=0->(wX l i v).2.1<=i+l.length
 | [],i,v,h=>by simp[wX]at h
 |c::rest,i,v,h=>by
  unfold wX at h⊢
  split
  .simp_all
  .rename_i h1
   rw[if_neg h1]at h
   split
   .rename_i h2
    rw[if_pos h2]at h
    split
    .rename_i h3
     rw[if_pos h3]at h
     simp at h
    .simp
   .rename_i h2
    rw[if_neg h2]at h
    have:=zC5 rest (i+1) _ h
    simp only[Aa]
    omega
def wP (b:List UInt8) (r:Nat×Nat×Int):List UInt8×Nat×Int:=
 if r.2.2≠0 then([],0,r.2.2)else if 1048576<r.1 then([],0,3)else if b.length - r.2.1<r.1 then([],0,2)else((b.take (r.2.1+r.1)).drop r.2.1,r.2.1+r.1,0)
def zc9 (b:List UInt8):List UInt8×Nat×Int:=wP b (wX b 0 0)
def yD0 (r:List UInt8×Nat×Int):V:= .tup [bys r.1,.int .i64 r.2.1,.int .i64 r.2.2]
theorem yD3 {r:List UInt8×Nat×Int} {rows:List (List V)} (h1:zO r.1=rows) (h2:r.2.1=n) (h3:r.2.2=e):
  wret (some (.tup [.sl g rows,.int .i64 n,.int .i64 e])) 0 (fun v s=>v=yD0 r/\s= []) σ:=by
 subst h1 h2 h3
 have h:argS (ren [] σ.length) (yD0 r) (.tup [.sl g (zO r.1),.int .i64 r.2.1,.int .i64 r.2.2]):=xU ⟨zt5,za1 rfl,za1 rfl,tV⟩
 exact xP h ⟨rfl,rfl⟩
theorem yR6 (b:List UInt8) (ab:b.length<=maxB):Pure prog 222 [bys b] (yD0 (zc9 b)):=by
 have hle:=zC5 b 0 0
 have aa:=zU6 b ab
 unfold zc9
 revert hle aa
 generalize wX b 0 0=r
 obtain⟨n,k,e⟩:=r
 intro hle aa
 simp only at hle
 refine iW 0 func222 ntmps222 results222 fun c hc hb=>zK ?_
 simp[go_sem]
 refine pC aa ?_
 simp[go_sem,yw2]
 refine zR (fun h=> ?_) (fun h=> ?_)
 .have h:e≠0:=sU h
  simp[go_sem]
  exact yD3 (by simp[wP,h,zO]) (by simp[wP,h]) (by simp[wP,h])
 have h:e=0:=sU h
 have hk:=hle h
 have e1:IntKind.i64.wrap ((b.length:Int) - (k:Int))=((b.length - k:Nat):Int):=by rw[i64_id (by unfold maxB at*;omega) (by unfold maxB at*;omega)];omega
 have e2:IntKind.u64.wrap ((b.length - k:Nat):Int)=((b.length - k:Nat):Int):=u64_id om (by unfold maxB at*;omega)
 simp[go_sem]
 refine zR (fun h2=> ?_) (fun h2=> ?_)
 .have h2:1048576<n:=by have:=of_decide_eq_true h2;omega
  simp[go_sem]
  exact yD3 (by simp[wP,h,h2,zO]) (by simp[wP,h,h2]) (by simp[wP,h,h2])
 have h2: ¬1048576<n:=by have:=of_decide_eq_false h2;omega
 simp[go_sem,bys,zQ,e1,e2]
 refine zR (fun h3=> ?_) (fun h3=> ?_)
 .have h3:b.length - k<n:=by have:=of_decide_eq_true h3;omega
  simp[go_sem]
  exact yD3 (by simp[wP,h,h2,h3,zO]) (by simp[wP,h,h2,h3]) (by simp[wP,h,h2,h3])
 have h3: ¬b.length - k<n:=by have:=of_decide_eq_false h3;omega
 have e3:IntKind.i64.wrap (n:Int)=(n:Int):=i64_id om om
 have e4:IntKind.i64.wrap ((k:Int)+(n:Int))=((k+n:Nat):Int):=by rw[i64_id (by unfold maxB at*;omega) (by unfold maxB at*;omega)];omega
 simp[go_sem,zQ,e3,e4]
 refine zI ⟨om,om,zl7 b⟩ ?_
 have e5:((k:Int)+(n:Int)).toNat=k+n:=om
 have hlen:((b.take (k+n)).drop k).length<=maxB:=by simp;omega
 simp[go_sem,e5]
 refine zJ7 (yX0 ((b.take (k+n)).drop k) 0 hlen dc) cB ⟨zm3 (by simp[zO,List.map_take,List.map_drop]),zC rfl,tV⟩ ?_
 rintro r s ⟨rfl,rfl⟩
 simp[go_sem,byA,stA]
 exact yD3 (by simp[wP,h,h2,h3]) (by simp[wP,h,h2,h3]) (by simp[wP,h,h2,h3])
def zagF (u:Nat):Int:=if u%2=0 then((u/2:Nat):Int)else -((u/2:Nat):Int) - 1
structure TakeR where
 v:GValue
 n:Nat
 e:Int
def TakeR.V (r:TakeR):V:= .tup [.agg r.v.row,.int .i64 r.n,.int .i64 r.e]
def v0:GValue:=⟨0,0,[]⟩
def zh2 (b:List UInt8):TakeR:=
 if b.length<2 then⟨v0,0,2⟩else if 1<(b.getD 1 0).toNat then⟨v0,0,9⟩else⟨⟨1,(b.getD 1 0).toNat,[]⟩,2,0⟩
theorem zg6 {r:TakeR} {k m:Int} {s:List UInt8} (h:r=⟨⟨k,m,s⟩,n,e⟩):
  wret (some (.tup [.agg [.int .i64 k,.int .i64 m,.str s],.int .i64 n,.int .i64 e])) 0 (fun v s=>v=r.V/\s= []) σ:=by
 subst h
 exact wR
theorem yY1 (b:List UInt8) (ad:b.length<=maxB):Pure prog 220 [bys b] (zh2 b).V:=by
 refine iW 0 func220 ntmps220 results220 fun c hc hb=>zK ?_
 simp[go_sem,bys,zQ]
 refine zR (fun h=> ?_) (fun h=> ?_)
 .have h:b.length<2:=by have:=of_decide_eq_true h;omega
  simp[go_sem]
  exact zg6 (n:=0) (by simp[zh2,h,v0])
 have h: ¬b.length<2:=by have:=of_decide_eq_false h;omega
 have h1:1<b.length:=om
 obtain⟨c0,aa⟩: ∃c,b[1]=c:=⟨_,rfl⟩
 have ab:b.getD 1 0=c0:=by rw[A8,A0 h1,aa];rfl
 have e1:IntKind.i64.wrap (c0.toNat:Int)=(c0.toNat:Int):=i64_id om (by have:=c0.toNat_lt;omega)
 simp[go_sem,zQ,h1,zy1,aa]
 refine zI om ?_
 simp[go_sem]
 refine zR (fun h2=> ?_) (fun h2=> ?_)
 .have h2:1<c0.toNat:=by have:=of_decide_eq_true h2;omega
  simp[go_sem]
  exact zg6 (n:=0) (by simp only[zh2,ab];rw[if_neg h,if_pos h2];rfl)
 .have h2: ¬1<c0.toNat:=by have:=of_decide_eq_false h2;omega
  simp[go_sem,zQ,h1,zy1,aa,e1]
  refine zI om ?_
  simp[go_sem,e1]
  exact zg6 (n:=2) (by simp only[zh2,ab];rw[if_neg h,if_neg h2])
theorem wd0 {x:Int} (h:0<=x) (h2:x<=9223372036854775807):zf2 .xor .i64 x 0=x:=by
 obtain⟨m,rfl⟩:=Dx h
 show IntKind.i64.wrap ((BitVec.ofInt 64 (m:Int)^^^BitVec.ofInt 64 0).toNat:Int)=m
 have e:BitVec.ofInt 64 (0:Int)=0#64:=rfl
 rw[e,BitVec.xor_zero,BitVec.ofInt_natCast,BitVec.toNat_ofNat,Cs om]
 exact i64_id om om
theorem wd1 {x:Int} (h:0<=x) (h2:x<=9223372036854775807):zf2 .xor .i64 x (-1)= -x - 1:=by
 obtain⟨m,rfl⟩:=Dx h
 show IntKind.i64.wrap ((BitVec.ofInt 64 (m:Int)^^^BitVec.ofInt 64 (-1)).toNat:Int)=_
 have e:BitVec.ofInt 64 (-1:Int)=BitVec.allOnes 64:=by decide+kernel
 rw[e,BitVec.xor_allOnes,BitVec.ofInt_natCast,BitVec.toNat_not,BitVec.toNat_ofNat,Cs om]
 rw[IntKind.wrap_i64]
 omega
theorem we0 {m:Nat} (h:m<18446744073709551616):zf2 .and .u64 (m:Int) 1=(m:Int)%2:=by
 show IntKind.u64.wrap ((BitVec.ofInt 64 (m:Int)&&&BitVec.ofInt 64 1).toNat:Int)=_
 have e:BitVec.ofInt 64 (1:Int)=1#64:=rfl
 rw[e,BitVec.ofInt_natCast,BitVec.toNat_and,BitVec.toNat_ofNat,Cs om]
 have e2:m&&&(1#64).toNat=m%2:=Nat.and_one_is_mod m
 rw[e2,u64_id om om]
 omega
theorem wd8 (u:Nat) (hu:u<18446744073709551616):Pure prog 221 [.int .u64 u] (.int .i64 (zagF u)):=by
 have e0:=we0 hu
 have e1:(u:Int).fdiv 2=(u:Int)/2:=Dq _ om
 have e3:IntKind.i64.wrap ((u:Int)/2)=(u:Int)/2:=i64_id om om
 have e4:IntKind.i64.wrap ((u:Int)%2)=(u:Int)%2:=i64_id om om
 have e5:IntKind.i64.wrap (-((u:Int)%2))= -((u:Int)%2):=i64_id om om
 have e6:zf2 .xor .i64 ((u:Int)/2) (-((u:Int)%2))=zagF u:=by
  unfold zagF
  by_cases h:u%2=0
  .rw[if_pos h,show -((u:Int)%2)=0 by omega,wd0 om om];omega
  .rw[if_neg h,show -((u:Int)%2)= -1 by omega,wd1 om om];omega
 refine iW 0 func221 ntmps221 results221 fun c hc hb=>zK ?_
 simp[go_sem,e0,e1,e3,e4,e5,e6]
 exact wR
theorem zT2: ∀(l:List UInt8) (i v:Nat),v<128^i->i<=9->(wX l i v).1<18446744073709551616
 | [],i,v,_,_=>by simp[wX]
 |c::rest,i,v,hv,h9=>by
  have hc:=c.toNat_lt
  unfold wX
  split
  .simp
  .rename_i h1
   have aa:i<=8∨i=9/\c.toNat%128<=1:=by
    by_cases h:i=9
    .exact .inr ⟨h,by
      have: ¬1<c.toNat:=fun w=>h1 ⟨h,w⟩
      omega⟩
    .exact .inl om
   have hx:c.toNat%128<128:=Cn _ om
   have n12:=xe6 hv hx aa
   split
   .split
    .simp
    .exact n12.1
   .rename_i h2
    refine zT2 rest (i+1) _ (yA5 hv hx) ?_
    rcases aa with h|h
    .omega
    .exfalso
     have: ¬1<c.toNat:=fun w=>h1 ⟨h.1,w⟩
     omega
def zx3 (k:Nat) (tb:TakeR) (r:Nat×Nat×Int) (t:List UInt8×Nat×Int):TakeR:=
 if k=0 then⟨v0,1,0⟩
 else if k=1 then tb
 else if k=2 then(if r.2.2≠0 then⟨v0,0,r.2.2⟩else⟨⟨2,zagF r.1,[]⟩,1+r.2.1,0⟩)
 else if k=3 then(if t.2.2≠0 then⟨v0,0,t.2.2⟩else if 64<t.1.length then⟨v0,0,3⟩else⟨⟨3,0,t.1⟩,1+t.2.1,0⟩)
 else⟨v0,0,9⟩
def zj7:List UInt8->TakeR
 | []=>⟨v0,0,2⟩
 |c::rest=>zx3 c.toNat (zh2 (c::rest)) (wX rest 0 0) (zc9 rest)
theorem ya5 (b:List UInt8):(zc9 b).2.1<=b.length/\((zc9 b).2.2=0->(zc9 b).1.length<=b.length):=by
 have hle:=zC5 b 0 0
 unfold zc9 wP
 revert hle
 generalize wX b 0 0=r
 obtain⟨n,k,e⟩:=r
 intro hle
 simp only at hle⊢
 split
 .simp
 .rename_i h
  have h:e=0:=Decidable.not_not.1 h
  have hk:=hle h
  split
  .simp
  .split
   .simp
   .refine⟨?_,fun _=> ?_⟩
    .simp only;omega
    .simp;omega
theorem xV9 (b:List UInt8) (ah:b.length<=maxB):Pure prog 148 [bys b] (zj7 b).V:=by
 cases b with
 |nil=>
  refine iW 0 func148 ntmps148 results148 fun c hc hb=>zK ?_
  simp[go_sem,bys,zO]
  exact zg6 (n:=0) rfl
 |cons c0 rest=>
  have hc:=c0.toNat_lt
  have hr:rest.length<=maxB:=by simp only[Aa]at ah;omega
  have ab:=zT2 rest 0 0 dc dc
  have hle:=zC5 rest 0 0
  have ad:=zU6 rest hr
  have ae:=yR6 rest hr
  have af:=ya5 rest
  have ag:=yY1 (c0::rest) ah
  have e1:IntKind.i64.wrap (c0.toNat:Int)=(c0.toNat:Int):=i64_id om om
  have aa:zO (c0::rest)= [.int .u8 c0.toNat]::zO rest:=rfl
  rw[zj7]
  revert ab hle ad ae ag af
  generalize wX rest 0 0=r
  generalize zc9 rest=t
  generalize zh2 (c0::rest)=tb
  obtain⟨n,k,e⟩:=r
  obtain⟨tx,tk,te⟩:=t
  obtain⟨⟨bk,bn,bs⟩,bm,be⟩:=tb
  obtain⟨q,hq⟩:=eX c0.toNat
  intro ab hle ad ae af ag
  simp only at ab hle af
  rw[hq]at hc e1 aa⊢
  have e2:e=0->IntKind.i64.wrap (1+(k:Int))=((1+k:Nat):Int):=fun h=>by
   have:=hle h
   rw[i64_id om (by unfold maxB at*;omega)];omega
  have e3:IntKind.i64.wrap (1+(tk:Int))=((1+tk:Nat):Int):=by rw[i64_id om (by unfold maxB at*;omega)];omega
  have e4:(zO rest).take rest.length=zO rest:=Ap (by rw[zQ];omega)
  have hu:uni 1 ([V.int .u8 (q:Int)]::zO rest):=aa▸zl7 (c0::rest)
  refine iW 0 func148 ntmps148 results148 fun c hc hb=>zK ?_
  simp[go_sem,bys,aa,zQ]
  refine zR (fun w=>absurd w (by simp;omega)) (fun w=> ?_)
  simp[go_sem,aa,zQ,e1]
  refine zR (fun w1=> ?_) (fun w1=> ?_)
  .have w1:q=0:=by simp at w1;omega
   simp[go_sem]
   exact zg6 (n:=1) (by simp[zx3,w1,v0])
  have w1: ¬q=0:=by simp at w1;omega
  simp[go_sem]
  refine zR (fun w2=> ?_) (fun w2=> ?_)
  .have w2:q=1:=by simp at w2;omega
   simp[go_sem]
   refine zM ag cB (zN (by simp[bys,aa]) rfl) rfl ?_
   simp[go_sem,TakeR.V]
   exact zg6 (n:=bm) (by simp[zx3,w2])
  have w2: ¬q=1:=by simp at w2;omega
  simp[go_sem]
  refine zR (fun w3=> ?_) (fun w3=> ?_)
  .have w3:q=2:=by simp at w3;omega
   simp[go_sem,aa,zQ]
   refine zI ⟨om,hu⟩ ?_
   simp[go_sem,e4]
   refine pC ad ?_
   simp[go_sem,yw2]
   refine zR (fun w4=> ?_) (fun w4=> ?_)
   .have w4:e≠0:=sU w4
    simp[go_sem]
    exact zg6 (n:=0) (by simp[zx3,w3,w4,v0])
   have w4:e=0:=sU w4
   have e5:=e2 w4
   simp[go_sem]
   refine pC (wd8 n ab) ?_
   simp[go_sem,e5]
   exact zg6 (n:=1+k) (by simp[zx3,w3,w4])
  have w3: ¬q=2:=by simp at w3;omega
  simp[go_sem]
  refine zR (fun w4=> ?_) (fun w4=> ?_)
  .have w4:q=3:=by simp at w4;omega
   simp[go_sem,aa,zQ]
   refine zI ⟨om,hu⟩ ?_
   simp[go_sem,e4]
   refine pC ae ?_
   simp[go_sem,yD0,bys,zQ]
   refine zR (fun w5=> ?_) (fun w5=> ?_)
   .have w5:te≠0:=sU w5
    simp[go_sem]
    exact zg6 (n:=0) (by simp[zx3,w4,w5,v0])
   have w5:te=0:=sU w5
   simp[go_sem,zQ]
   refine zR (fun w6=> ?_) (fun w6=> ?_)
   .have w6:64<tx.length:=by have:=of_decide_eq_true w6;omega
    simp[go_sem]
    exact zg6 (n:=0) (by simp[zx3,w4,w5,w6,v0])
   have w6: ¬64<tx.length:=by have:=of_decide_eq_false w6;omega
   simp[go_sem]
   refine zI (wY _) ?_
   simp[go_sem,e3,zk1]
   exact zg6 (n:=1+tk) (by simp[zx3,w4,w5,w6])
  have w4: ¬q=3:=by simp at w4;omega
  simp[go_sem]
  exact zg6 (n:=0) (by simp[zx3,w1,w2,w3,w4,v0])
theorem is_w (aa tabs:List (List V)) (t:Int):Pure prog 146 [.agg [.sl .ro aa,.sl .ro tabs],.int .i64 t] (.bool (decide (0<=t)&&decide (t<tabs.length))):=by
 refine iW 0 func146 ntmps146 results146 fun c hc hb=>zK ?_
 simp[go_sem]
 repeat' (first|(refine xB (fun q=> ?_) (fun q=> ?_)<;>simp[go_sem,q])|(refine zR (fun q=> ?_) (fun q=> ?_)<;>simp[go_sem,q]))
 all_goals exact xP (zC rfl) ⟨by simp_all,rfl⟩
theorem xF8 (b:List UInt8):(zj7 b).e=0->(zj7 b).n<=b.length:=by
 cases b with
 |nil=>simp[zj7]
 |cons c rest=>
  have h1:=zC5 rest 0 0
  have h2:=ya5 rest
  rw[zj7]
  unfold zx3 zh2
  revert h1 h2
  generalize wX rest 0 0=r
  generalize zc9 rest=t
  obtain⟨rn,rk,re⟩:=r
  obtain⟨tx,tk,te⟩:=t
  intro h1 h2
  simp only at h1 h2
  (repeat' split)<;>intro h<;>simp at h⊢ <;>(try omega)
  .rename_i q1 q2 q3;simp only[Aa]at q2;omega
  .rename_i q;simp at q;have:=h1 q;omega
def rowG:Nat->List UInt8->Option (List GValue)
 |0,b=>if b= []then some []else none
 |n+1,b=>if(zj7 b).e=0 then(rowG n (b.drop (zj7 b).n)).map ((zj7 b).v:: ·)else none
def rowR (o:Option (List GValue)):List GValue×Int:=match o with
 |some l=>(l,0)
 |none=>([],9)
def rowC (nc:Nat) (data:List UInt8):List GValue×Int:=
 if(wX data 0 0).2.2=0/\(wX data 0 0).1=nc then rowR (rowG nc (data.drop (wX data 0 0).2.1))else([],9)
def rowF (ts:List GTable) (table:Int) (data:List UInt8):List GValue×Int:=
 if h:0<=table/\table<ts.length then rowC (ts[table.toNat]'om).cols.length data else([],1)
theorem yx8 (b:List UInt8) (k:Nat):List.drop k (List.take b.length (zO b))=zO (b.drop k):=by
 rw[Ap (by rw[zQ];exact A4 _)]
 simp[zO,List.map_drop]
def rowV (r:List GValue×Int):V:= .tup [.sl .ro (r.1.map GValue.row),.int .i64 r.2]
theorem xh0 {r:List GValue×Int} {l:List GValue} (h:r=(l,e)):wret (some (.tup [.sl g (l.map GValue.row),.int .i64 e])) 0 (fun v s=>v=rowV r/\s= []) σ:=by
 subst h
 exact xP (r:=rowV (l,e)) (xU (vs':= [.sl .ro (l.map GValue.row),.int .i64 e]) ⟨zt5,za1 rfl,tV⟩) ⟨rfl,rfl⟩
theorem zS4 {r:List GValue×Int} (h:r=([],e)):wret (some (.tup [.sl g [],.int .i64 e])) 0 (fun v s=>v=rowV r/\s= []) σ:=xh0 (l:= []) h
theorem xT1 (ab:List (List V)) (ts:List GTable) (table:Int) (data:List UInt8) (hd:data.length<=maxB) (an: ∀t∈ts,t.cols.length<=maxB):
  Pure prog 87 [.agg [.sl .ro ab,.sl .ro (ts.map GTable.row)],.int .i64 table,.str data] (rowV (rowF ts table data)):=by
 have ah:=zT2 data 0 0 dc dc
 have hle:=zC5 data 0 0
 have ai:=zU6 data hd
 by_cases ht:0<=table/\table<ts.length
 .obtain⟨j,rfl⟩: ∃j:Nat,table=j:=⟨table.toNat,om⟩
  have hj:j<ts.length:=om
  obtain⟨t,aj⟩:=eX (ts[j])
  have af:=an t (aj▸Ab hj)
  have hF:rowF ts j data=rowC t.cols.length data:=by
   unfold rowF
   rw[dif_pos ht]
   simp[aj]
  rw[hF]
  unfold rowC
  revert ah hle ai
  generalize wX data 0 0=r
  obtain⟨n,k,e⟩:=r
  intro ah hle ai
  simp only at ah hle⊢
  obtain⟨nc,ag⟩:=eX t.cols.length
  rw[ag]at af⊢
  have eu:IntKind.u64.wrap (nc:Int)=nc:=u64_id om (by unfold maxB at af;omega)
  refine iV 0 func87 ntmps87 results87 fun c hc hb=> ?_
  refine zA ?_
  simp[go_sem]
  refine pC (is_w ab (ts.map GTable.row) j) ?_
  simp[go_sem,hj]
  refine zM ai cB (zN (by simp[bys,zO]) rfl) rfl ?_
  simp[go_sem,yw2]
  have bad: ∀σ:St,¬(e=0/\n=nc)->wret (some (.tup [.sl .full [],.int .i64 9])) 0 (fun v s=>v=rowV (if e=0/\n=nc then rowR (rowG nc (data.drop k))else([],9))/\s= []) σ:=fun σ h=>zS4 (by rw[if_neg h])
  refine xB (fun ad=> ?_) (fun ad=> ?_)
  .have q1:e=0:=sU ad
   simp[go_sem,ad,hj,aj,ag,eu]
   refine zR (fun q2=> ?_) (fun q2=> ?_)
   .have q2: ¬n=nc:=by simp at q2;omega
    simp[go_sem]
    exact bad _ (fun h=>q2 h.2)
   have q2:n=nc:=by simp at q2;omega
   have hk:=hle q1
   rw[if_pos ⟨q1,q2⟩]
   simp[go_sem]
   refine zo5 12 3 dc rfl ?_
   refine zH (S:=Nat×Nat×List GValue) [8,10,12,42,43] (fun u=> [bys data,.int .i64 u.2.1,.sl (.app 1) (u.2.2.map GValue.row),.int .u64 nc,.int .u64 u.1]) (fun u=> [.box [.sl .ro ab,.sl .ro (ts.map GTable.row)],.app u.2.2.length 3]) (fun u=>nc - u.1)
    (fun u=>u.1<=nc/\u.2.1<=data.length/\u.2.2.length=u.1/\(rowG (nc - u.1) (data.drop u.2.1)).map (u.2.2++ ·)=rowG nc (data.drop k)) hc hb (0,k,[]) ⟨A3 _,by simp only;omega,rfl,sM⟩ ?_ ?_
   .exact at_n 2 sM rfl rfl (A3 _) (zF (by simp[go_sem,bys,zO,q2]) rfl)
   rintro⟨i,at_,l⟩ ⟨hi,ao,al,aa⟩
   simp only at hi ao al aa
   have ar:data.length - at_<=maxB:=om
   have ak:=xV9 (data.drop at_) (by simp;omega)
   have ae:=xF8 (data.drop at_)
   rw[Cq]at ae
   refine zA ?_
   simp[go_sem]
   refine zR (fun q3=> ?_) (fun q3=> ?_)
   .have q3:i<nc:=sU q3
    rw[show nc - i=(nc - i - 1)+1 by omega,rowG]at aa
    revert ak ae aa
    generalize zj7 (data.drop at_)=r
    obtain⟨⟨vk,vn,vs⟩,rn,re⟩:=r
    intro aa ak ae
    simp only at ae aa
    simp[go_sem,bys,zQ]
    refine zI ⟨om,zl7 data⟩ ?_
    simp[go_sem]
    refine zM ak cB (zN (by simp[bys,yx8]) rfl) rfl ?_
    simp[go_sem,TakeR.V]
    refine zR (fun q4=> ?_) (fun q4=> ?_)
    .have q4: ¬re=0:=sU q4
     rw[if_neg q4]at aa
     simp[go_sem]
     rw[<-aa]
     exact zS4 rfl
    have q4:re=0:=sU q4
    rw[if_pos q4]at aa
    have au:=ae q4
    have ea:IntKind.i64.wrap ((at_:Int)+rn)=((at_+rn:Nat):Int):=by rw[i64_id om (by unfold maxB at hd;omega)];omega
    have ei:IntKind.u64.wrap ((i:Int)+1)=((i+1:Nat):Int):=by rw[u64_id om (by unfold maxB at af;omega)];omega
    have aq:(l.length+1)*32<=140737488355328:=by unfold maxB at af;omega
    simp[go_sem]
    refine zI ⟨by simpa using aq,zX rfl⟩ ?_
    simp[go_sem,ea,ei]
    refine zG (i+1,at_+rn,l++ [⟨vk,vn,vs⟩]) ⟨by simp only;omega,⟨q3,by simp only;omega,by simp[al], ?_⟩,at_n 2 sM rfl rfl (A3 _) (zF (by simp[go_sem,bys,ea,ei]) rfl)⟩
    rw[<-aa]
    simp only
    rw[show nc - (i+1)=nc - i - 1 by omega,Dg]
    cases rowG (nc - i - 1) (data.drop (at_+rn))<;>simp
   .have q3:i=nc:=by
     have: ¬i<nc:=sU q3
     omega
    subst q3
    simp[rowG]at aa
    simp[go_sem,bys,zQ]
    refine zR (fun q4=> ?_) (fun q4=> ?_)
    .have q4:at_<data.length:=sU q4
     rw[if_neg om]at aa
     simp[go_sem]
     rw[<-aa]
     exact zS4 rfl
    have q4:data.length<=at_:=sU q4
    rw[if_pos q4]at aa
    simp[go_sem]
    rw[<-aa]
    exact xh0 (by simp[rowR])
  .have q1: ¬e=0:=sU ad
   simp[go_sem,ad]
   exact bad _ (fun h=>q1 h.1)
 .have hF:rowF ts table data=([],1):=by
   unfold rowF
   rw[dif_neg ht]
  rw[hF]
  refine iV 0 func87 ntmps87 results87 fun c hc hb=> ?_
  refine zA ?_
  simp[go_sem]
  refine pC (is_w ab (ts.map GTable.row) table) ?_
  have hn:(decide (0<=table)&&decide (table<((ts.map GTable.row).length:Int)))=false:=by simp;omega
  rw[hn]
  simp[go_sem]
  exact zS4 rfl
def be (v:Nat):Nat->List UInt8
 |0=> []
 |k+1=>UInt8.ofNat (v/256^k)::be v k
theorem yR9 (v:Nat): ∀k,(be v k).length=k
 |0=>rfl
 |k+1=>by simp[be,yR9 v k]
theorem xa7 (a b:UInt8) (l m:List UInt8):Op.bytesLess (a::l) (b::m)=if a.toNat<b.toNat then true else if b.toNat<a.toNat then false else Op.bytesLess l m:=by
 rw[Op.bytesLess]
 simp only[UInt8.lt_iff_toNat_lt]
 by_cases h1:a.toNat<b.toNat
 .grind
 .by_cases h2:b.toNat<a.toNat
  .grind
  .have:a=b:=UInt8.toNat_inj.1 om
   grind
def esc:List UInt8->List UInt8
 | []=> []
 |c::s=>if c=0 then 0::255::esc s else c::esc s
theorem yy5: ∀s,(esc s).length<=2*s.length
 | []=>by decide
 |c::s=>by
  have:=yy5 s
  unfold esc
  split<;>simp<;>omega
theorem yf5: ∀a b,esc (a++b)=esc a++esc b
 | [],b=>rfl
 |c::a,b=>by
  have:=yf5 a b
  rw[Ax,esc,esc]
  split<;>simp[this]
def keyF (v:GValue):List UInt8:=
 if mayF v=true then
  UInt8.ofNat v.kind.toNat::(if v.kind=1 then [UInt8.ofNat v.n.toNat]else if v.kind=2 then be (v.n+9223372036854775808).toNat 8 else if v.kind=3 then esc v.s++ [0,1]else [])
 else []
theorem xz5 {v:GValue}:(keyF v).length<=2*v.s.length+10:=by
 grind[yy5,yR9,keyF]
theorem wh7 (a:Nat) (h:a<2^64):a^^^2^63=(2^63+a)%2^64:=by
 apply Nat.eq_of_testBit_eq
 intro j
 rw[Nat.testBit_xor,Nat.testBit_two_pow,Nat.testBit_mod_two_pow]
 rcases Bc j 63 with h1|h1|h1
 .rw[Nat.testBit_two_pow_add_gt h1]
  simp[show j<64 by omega,show ¬63=j by omega]
 .subst h1
  rw[Nat.testBit_two_pow_add_eq]
  simp
 .rw[Nat.testBit_lt_two_pow (Dj h (Nat.pow_le_pow_right dc om))]
  simp[show ¬j<64 by omega,show ¬63=j by omega]
theorem xO9 {n:Int} (h1: -9223372036854775808<=n) (h2:n<=9223372036854775807):zf2 .xor .u64 (IntKind.u64.wrap n) 9223372036854775808=(((n+9223372036854775808).toNat:Nat):Int):=by
 obtain⟨a,ha,aa⟩: ∃a:Nat,IntKind.u64.wrap n=(a:Int)/\(a:Int)=n%18446744073709551616:=by
  unfold IntKind.wrap
  simp[IntKind.bits,IntKind.signed]
  exact⟨(n%18446744073709551616).toNat,om,om⟩
 have hl:a<2^64:=om
 show IntKind.u64.wrap ((BitVec.ofInt 64 (IntKind.u64.wrap n)^^^BitVec.ofInt 64 ((9223372036854775808:Nat):Int)).toNat:Int)=_
 rw[ha,BitVec.ofInt_natCast,BitVec.ofInt_natCast,BitVec.toNat_xor,BitVec.toNat_ofNat,BitVec.toNat_ofNat,Cs hl,show 9223372036854775808%2^64=2^63 by decide,wh7 a hl]
 unfold IntKind.wrap
 simp[IntKind.bits,IntKind.signed]
 omega
theorem xJ3 (n:Int) (hn:i64R n):Pure prog 256 [.int .i64 n] (.int .u64 (n+9223372036854775808).toNat):=by
 have e:=xO9 hn.1 hn.2
 refine iW 0 func256 ntmps256 results256 fun c hc hb=>zK ?_
 simp[go_sem,e]
 exact wR
theorem wh1 (n:Int):IntKind.u8.wrap n<256:=by
 unfold IntKind.wrap
 simp[IntKind.bits,IntKind.signed]
 omega
theorem wb5 (l:List UInt8) (h:l.all (fun c=>decide (c.toNat<=8))=true) (i:Nat):(l[i]?.getD 0).toNat<=8:=by
 rcases C1 i l.length with q|q
 .rw[A0 q]
  simpa using Aj.1 h _ (Ab q)
 .rw[D6 q];decide
theorem yJ7 {n:Int} (h0:0<=n) (h:n<=64): ∃m:Nat,V.int .i64 n= .int .i64 m/\m<=64:=⟨n.toNat,by congr 1;omega,om⟩
theorem xJ1 (v:Nat) (_hv:v<18446744073709551616):VCalls prog 246 [.int .u64 v] [] fun r s=>(∃n:Nat,r= .int .i64 n/\n<=64)/\s= []:=by
 have aa:IntKind.i64.wrap 48=48:=by decide+kernel
 have ab:IntKind.i64.wrap 40=40:=by decide+kernel
 have ad:IntKind.i64.wrap 16=16:=by decide+kernel
 have w8:IntKind.i64.wrap 8=8:=by decide+kernel
 have ae:IntKind.i64.wrap (48+8)=56:=by decide+kernel
 have af:IntKind.i64.wrap (16+8)=24:=by decide+kernel
 refine iW 0 func246 ntmps246 results246 fun c hc hb=>zK ?_
 simp[go_sem]
 repeat' (refine zR (fun q=> ?_) (fun q=> ?_)<;>simp[go_sem])
 all_goals
  refine zI (wh1 _) ?_
  generalize hx:UInt8.toNat (Option.getD _ _)=x
  have h8:x<=8:=hx▸wb5 _ (by decide+kernel) _
  clear hx
  have e8:IntKind.i64.wrap (x:Int)=x:=i64_id om om
  simp[go_sem,e8]
 all_goals
  try simp only[aa,ab,ad,w8,ae,af]
  first
  |exact xP (zC rfl) ⟨yJ7 om om,rfl⟩
  |(rw[i64_id om om]
    exact xP (zC rfl) ⟨yJ7 om om,rfl⟩)
theorem xL5 (v k:Nat) (_hk:k<=7):IntKind.u8.wrap ((v:Int).fdiv (2^(8*k)))=((UInt8.ofNat (v/256^k)).toNat:Int):=by
 have e:(v:Int).fdiv (2^(8*k))=((v/256^k:Nat):Int):=by
  rw[Dq _ (by exact Int.le_of_lt (Int.pow_pos dc))]
  rw[show(2:Int)^(8*k)=((256^k:Nat):Int) by rw[Int.pow_mul];simp]
  rw[Int.natCast_ediv]
 rw[e,zX8]
theorem wd5 (b:List UInt8) (v:Nat) (ab:b.length<=maxB) (hv:v<18446744073709551616):Pure prog 255 [bys b,.int .u64 v,.int .i64 8] (.tup [bys (b++be v 8),.int .i64 0]):=by
 refine iV 0 func255 ntmps255 results255 fun c hc hb=> ?_
 refine zA ?_
 simp[go_sem,bys]
 refine xR9 (R:=fun r=> ∃n:Nat,r= .int .i64 n/\n<=64) (xJ1 v hv) cB (zY rfl) (fun r h=>by obtain⟨b,rfl,_⟩:=h;rfl) ?_
 rintro r ⟨n,rfl,hn⟩
 have ad:IntKind.i64.wrap 64=64:=by decide+kernel
 simp[go_sem,ad]
 refine zR (fun q=>absurd q (by simp;omega)) (fun q=> ?_)
 simp[go_sem]
 refine zJ7 (yX0 b 8 ab dc) cB (zY rfl) ?_
 rintro r s ⟨rfl,rfl⟩
 simp[go_sem,byA,stA]
 have ew: ∀k:Nat,k<=8->IntKind.i64.wrap (8*(k:Int) - 8)=8*(k:Int) - 8:=fun k h=>i64_id om om
 have ae:IntKind.i64.wrap (8*IntKind.i64.wrap 7)=56:=by decide+kernel
 refine zH (S:=Nat×List UInt8) [1,8,9] (fun u=> [.int .u64 v,byA u.2,.int .i64 (8*(u.1:Int) - 8)]) (fun u=>stA u.2) (fun u=>u.1) (fun u=>u.1<=8/\u.2++be v u.1=b++be v 8) hc hb (8,b) ⟨A4 _,rfl⟩ ?_ ?_
 .exact at_n 1 (by simp[stA]) rfl rfl (A3 _) (zF (by simp[go_sem,byA]) rfl)
 rintro⟨k,out⟩ ⟨hk,aa⟩
 simp only at hk aa
 have af:out.length+k=b.length+8:=by
  have:=congrArg List.length aa
  simpa[yR9]using this
 refine zA ?_
 simp[go_sem,byA,stA]
 refine zR (fun q=> ?_) (fun q=> ?_)
 .obtain⟨j,rfl⟩: ∃j,k=j+1:=⟨k - 1,by simp at q;omega⟩
  have e1:IntKind.u64.wrap (8*((j+1:Nat):Int) - 8)=((8*j:Nat):Int):=by rw[u64_id om om];omega
  have e2:IntKind.i64.wrap (8*((j+1:Nat):Int) - 8 - 8)=8*(j:Int) - 8:=by rw[i64_id om om];omega
  have e3:=xL5 v j om
  simp[go_sem]at e1 e2
  simp[go_sem,e1]
  refine zI om ?_
  have e4:min (8*(j:Int)).toNat 64=8*j:=om
  simp[go_sem,e4,e3]
  refine zI ⟨zQ out,by rw[zQ];unfold maxB at ab;omega,zX rfl⟩ ?_
  simp[go_sem,e2]
  rw[be]at aa
  refine zG (j,out++ [UInt8.ofNat (v/256^j)]) ⟨by simp only;omega,⟨by simp only;omega,by simpa using aa⟩,at_n 1 sM rfl rfl (A3 _) (zF (by simp[go_sem,zO]) rfl)⟩
 .have:k=0:=by simp at q;omega
  subst this
  rw[show be v 0= [] from rfl,B9]at aa
  simp[go_sem]
  rw[<-aa]
  exact xP (xU (vs':= [bys out,.int .i64 0]) ⟨zt5,za1 rfl,tV⟩) ⟨rfl,rfl⟩
theorem yU0 {v:GValue} (h:mayF v=true):v.kind=0∨v.kind=1∨v.kind=2∨v.kind=3:=by
 unfold mayF at h
 by_cases h0:v.kind=0
 .exact .inl h0
 .by_cases h1:v.kind=1
  .exact .inr (.inl h1)
  .by_cases h2:v.kind=2
   .exact .inr (.inr (.inl h2))
   .by_cases h3:v.kind=3
    .exact .inr (.inr (.inr h3))
    .simp[h0,h1,h2,h3]at h
theorem xw3 {s:List UInt8} (h:i<s.length):esc (s.take (i+1))=esc (s.take i)++(if s[i]=0 then [0,255]else [s[i]]):=by
 rw[By h,yf5]
 simp only[esc]
theorem xR5 {s:Nat} {a b:List V} (h1:a.length=s) (h2:b.length=s):uni s [a,b]:=fun r hr=>by
 simp at hr
 rcases hr with rfl|rfl<;>assumption
theorem yK8 {v:GValue} (h:mayF v=true):v.s.length<=64:=by
 unfold mayF at h
 split at h
 .simp at h;rw[h.2];decide
 split at h
 .simp at h;rw[h.2];decide
 split at h
 .simp at h;rw[h];decide
 split at h
 .simp at h;exact h.2
 .cases h
theorem xV7 (b:List UInt8) (v:GValue) (hv:v.ok) (ad:b.length<=maxB - 1):Pure prog 179 [bys b,.agg v.row] (bys (b++keyF v)):=by
 refine iV 0 func179 ntmps179 results179 fun c hc hb=> ?_
 refine zA ?_
 obtain⟨k,n,s⟩:=v
 have hn:=hv.n
 simp only at hn
 simp[go_sem,bys,zQ]
 refine zI ⟨by unfold maxB at*;omega,by simp[uni],zl7 b⟩ ?_
 simp[go_sem]
 refine pC (yq6 ⟨k,n,s⟩) ?_
 simp[go_sem]
 refine zR (fun h=> ?_) (fun h=> ?_)
 .simp[go_sem]
  refine zp9 ?_
  have h:mayF ⟨k,n,s⟩=false:=sU h
  simp[keyF,h,zO]
 have h:mayF ⟨k,n,s⟩=true:=sU h
 have hs:s.length<=500:=by
   have:s.length<=64:=yK8 h
   omega
 have hk:=yU0 h
 simp only at hk
 simp[go_sem,zQ]
 refine zI ⟨by unfold maxB at*;omega,zX rfl⟩ ?_
 have w0:IntKind.u8.wrap 0=0:=by decide+kernel
 have w1:IntKind.u8.wrap 1=1:=by decide+kernel
 have w2:IntKind.u8.wrap 2=2:=by decide+kernel
 have w3:IntKind.u8.wrap 3=3:=by decide+kernel
 rcases hk with rfl|rfl|rfl|rfl
 .simp[go_sem]
  refine zp9 ?_
  simp[keyF,h,zO,w0]
 .have h1:n=0∨n=1:=by
   unfold mayF at h
   simp at h
   exact h.1
  simp[go_sem]
  refine zI ⟨zQ b,by rw[zQ];unfold maxB at*;omega,zX rfl⟩ ?_
  simp[go_sem]
  refine zp9 ?_
  rcases h1 with rfl|rfl<;>simp[keyF,h,zO,w0,w1]
 .simp[go_sem]
  obtain⟨u,hu⟩:=eX ((n+9223372036854775808).toNat)
  have hO:=xJ3 n hn
  rw[hu]at hO
  refine pC hO ?_
  simp[go_sem]
  refine zM (wd5 (b++ [2]) u (by simp;unfold maxB at*;omega) om) cB ⟨zm3 (by simp[zO,w2]),zC rfl,zC rfl,tV⟩ rfl ?_
  simp[go_sem]
  refine zp9 ?_
  simp[keyF,h,hu]
 .simp[go_sem]
  refine zH (S:=Nat) [3,5,44,45] (fun i=> [.ptr 0 0,.sl (.app 1) (zO (b++3::esc (s.take i))),.int .i64 s.length,.int .i64 i]) (fun i=> [.box [.int .i64 3,.int .i64 n,.str s],.app (b++3::esc (s.take i)).length 1]) (fun i=>s.length - i) (fun i=>i<=s.length) hc hb 0 (A3 _) ?_ ?_
  .exact at_n 2 (by simp[esc]) rfl rfl (A3 _) (zF (by simp[go_sem,esc,zO,w3]) rfl)
  intro i hi
  have ae:=yy5 (s.take i)
  have af:(s.take i).length<=s.length:=by simp;omega
  obtain⟨o,ho⟩: ∃o,b++3::esc (s.take i)=o:=⟨_,rfl⟩
  have ag:o.length<=maxB+1100:=by
   rw[<-ho]
   simp
   unfold maxB at*
   omega
  rw[ho]
  refine zA ?_
  simp[go_sem]
  refine zR (fun q=> ?_) (fun q=> ?_)
  .have q:i<s.length:=sU q
   have ei:=zS q om
   have aa:=xw3 q
   obtain⟨c0,ab⟩:=eX (s[i])
   simp[go_sem,q,ab,zQ]
   refine zI ⟨by unfold maxB at*;omega,zX rfl⟩ ?_
   simp[go_sem,q,ab]
   refine zR (fun q2=> ?_) (fun q2=> ?_)
   .have q2:c0=0:=by
     have:c0.toNat=0:=by simp at q2;omega
     exact UInt8.toNat_inj.1 (sU this)
    rw[ab,if_pos q2]at aa
    simp[go_sem,zQ]
    refine zI ⟨by unfold maxB at*;omega,zX rfl⟩ ?_
    simp[go_sem,ei]
    exact zG (i+1) ⟨om,q,at_n 2 (by simp[aa,<-ho];omega) rfl rfl (A3 _) (zF (by simp[go_sem,aa,<-ho,zO,q2]) rfl)⟩
   .have q2: ¬c0=0:=fun h=>by rw[h]at q2;simp at q2
    rw[ab,if_neg q2]at aa
    simp[go_sem,ei]
    exact zG (i+1) ⟨om,q,at_n 2 (by simp[aa,<-ho];omega) rfl rfl (A3 _) (zF (by simp[go_sem,aa,<-ho,zO]) rfl)⟩
  .have q:i=s.length:=by
    have: ¬i<s.length:=sU q
    omega
   subst q
   simp[go_sem,zQ]
   refine zI ⟨by unfold maxB at*;omega,xR5 rfl rfl⟩ ?_
   simp[go_sem]
   refine zp9 ?_
   rw[List.take_length]at ho
   simp[keyF,h,zO,<-ho]
def isF (n:Nat) (t:Int):Bool:=decide (0<=t)&&decide (t<n)
theorem yz7 {t:Int} (h:isF n t=true): ∃j:Nat,t=j/\j<n:=by
 simp[isF]at h
 exact⟨t.toNat,om,om⟩
def zl6 (n:Nat) (t:Int) (v:GValue):List UInt8:=if isF n t=true then UInt8.ofNat (t.toNat+1)::keyF v else []
def allF (n:Nat) (t:Int):List UInt8×List UInt8:=if isF n t=true then([UInt8.ofNat (t.toNat+1)],[UInt8.ofNat (t.toNat+2)])else([],[])
theorem yE7 (aa tabs:List (List V)) (t:Int) (v:GValue) (hn:tabs.length<=maxB) (hv:v.ok):Pure prog 107 [.agg [.sl .ro aa,.sl .ro tabs],.int .i64 t,.agg v.row] (.str (zl6 tabs.length t v)):=by
 have ab:=is_w aa tabs t
 rw[show(decide (0<=t)&&decide (t<tabs.length))=isF tabs.length t from rfl]at ab
 refine iW 0 func107 ntmps107 results107 fun c hc hb=>zK ?_
 simp[go_sem]
 refine pC ab ?_
 unfold zl6
 refine(A7 (isF tabs.length t)).elim (fun h=> ?_) (fun h=> ?_)
 .obtain⟨j,rfl,hj⟩:=yz7 h
  rw[h,if_pos rfl]
  have e1:IntKind.u8.wrap (IntKind.i64.wrap ((j:Int)+1))=((UInt8.ofNat (j+1)).toNat:Int):=by
   rw[i64_id om (by unfold maxB at hn;omega),show(j:Int)+1=((j+1:Nat):Int) by omega,zX8]
  simp[go_sem,e1]
  refine zM (xV7 [UInt8.ofNat (j+1)] v hv (by simp[maxB])) cB ⟨zm3 (by simp[zO]),zC rfl,tV⟩ rfl ?_
  simp[go_sem,bys]
  refine zI (wY _) ?_
  simp[go_sem,zk1]
  exact wR
 .rw[h]
  simp[go_sem]
  exact wR
theorem xI9 (aa tabs:List (List V)) (t:Int) (v:GValue) (hn:tabs.length<=maxB) (hv:v.ok) (_hs:v.s.length<=500):Pure prog 107 [.agg [.sl .ro aa,.sl .ro tabs],.int .i64 t,.agg v.row] (.str (zl6 tabs.length t v)):=yE7 aa tabs t v hn hv
theorem wd2 (aa tabs:List (List V)) (t:Int) (hn:tabs.length<=maxB):Pure prog 108 [.agg [.sl .ro aa,.sl .ro tabs],.int .i64 t] (.tup [.str (allF tabs.length t).1,.str (allF tabs.length t).2]):=by
 have ab:=is_w aa tabs t
 rw[show(decide (0<=t)&&decide (t<tabs.length))=isF tabs.length t from rfl]at ab
 refine iW 0 func108 ntmps108 results108 fun c hc hb=>zK ?_
 simp[go_sem]
 refine pC ab ?_
 unfold allF
 refine(A7 (isF tabs.length t)).elim (fun h=> ?_) (fun h=> ?_)
 .obtain⟨j,rfl,hj⟩:=yz7 h
  rw[h,if_pos rfl]
  obtain⟨x,hx⟩:=eX (UInt8.ofNat (j+1))
  obtain⟨y,hy⟩:=eX (UInt8.ofNat (j+2))
  have e1:IntKind.u8.wrap (IntKind.i64.wrap ((j:Int)+1))=(x.toNat:Int):=by
   rw[i64_id om (by unfold maxB at hn;omega),show(j:Int)+1=((j+1:Nat):Int) by omega,zX8,hx]
  have e2:IntKind.u8.wrap (IntKind.i64.wrap ((j:Int)+2))=(y.toNat:Int):=by
   rw[i64_id om (by unfold maxB at hn;omega),show(j:Int)+2=((j+2:Nat):Int) by omega,zX8,hy]
  simp only[As]
  simp[go_sem]
  refine xA [] 1 rfl kR kR ?_
  simp[go_sem,e1]
  refine zI (wY [x]) ?_
  have r1:zq3 [V.int IntKind.u8 x.toNat]=x:=by simp[zq3]
  have r2:zq3 [V.int IntKind.u8 y.toNat]=y:=by simp[zq3]
  simp[go_sem,e2,r1]
  refine zI (wY [y]) ?_
  simp[go_sem,r2]
  exact xP (zC rfl) ⟨by rw[<-hx,<-hy];simp,rfl⟩
 .rw[h]
  simp[go_sem]
  exact wR
end Go.Proofs.YtefbicjgbaaieaaGreat.R
namespace Go.Proofs.YtefbicjgbaaieaaGreat
open Go Go.Vx R Go.Proofs.Tryz
set_option maxRecDepth 100000
theorem xz4 (v:GValue):(keyF v).length<=140:=by
 by_cases h:mayF v=true
 .have h1:=xz5 (v:=v)
  have h2:=yK8 h
  omega
 .unfold keyF;rw[if_neg h];simp
def maxS (x y:List UInt8):List UInt8:=if Op.bytesLess x y=true then y else x
def minS (x y:List UInt8):List UInt8:=if Op.bytesLess x y=true∨x=y then x else y
def cutF (at_:List UInt8) (sign:List UInt8) (b:List UInt8×List UInt8):List UInt8×List UInt8:=
 if sign= [61]then(maxS b.1 at_,minS b.2 (at_++ [0]))
 else if sign= [60]then(b.1,minS b.2 at_)
 else if sign= [60,61]then(b.1,minS b.2 (at_++ [0]))
 else if sign= [62]then(maxS b.1 (at_++ [0]),b.2)
 else if sign= [62,61]then(maxS b.1 at_,b.2)
 else b
def zY7 (n:Nat) (t:Int) (name:List UInt8) (l:List GExpr) (b:List UInt8×List UInt8):List UInt8×List UInt8:=
 l.foldl (fun b e=>match zf7 e name with|none=>b|some (s,v)=>cutF (zl6 n t v) s b) b
def zR7 (T:GTable):Option (List UInt8):=if 0<=T.key then(T.cols[T.key.toNat]?).map (·.name)else none
def zi8 (ts:List GTable) (t:Int) (st:GStmt):List UInt8×List UInt8:=
 if isF ts.length t=true then
  match (ts[t.toNat]?).bind zR7 with
  |none=>allF ts.length t
  |some name=>let b:=zY7 ts.length t name (zs9 st) (allF ts.length t);(b.1,maxS b.2 b.1)
 else allF ts.length t
def xD0 (b:List UInt8×List UInt8):V:= .tup [.str b.1,.str b.2]
theorem xb3 (o:Option (List UInt8×GValue)):noS (cutV o)=true:=by
 obtain _|⟨s,v⟩:=o<;>rfl
theorem xr5 (aa:List (List V)) (ts:List GTable) (t:Int) (st:GStmt) (hn:ts.length<=maxB) (_hc0: ∀T∈ts,T.cols.length<=maxLen) (hl:(zs9 st).length<=maxLen)
  (hv: ∀e∈zs9 st,∀name s v,zf7 e name=some (s,v)->v.ok):
  Pure prog 60 [.agg [.sl .ro aa,.sl .ro (ts.map GTable.row)],.int .i64 t,.agg st.row] (xD0 (zi8 ts t st)):=by
 generalize hM:zi8 ts t st=M
 have ret: ∀(r:List UInt8×List UInt8) (σ:St),r=M->wret (some (.tup [.str r.1,.str r.2])) 0 (fun r s=>r=xD0 M/\s= []) σ:=fun r σ h=>by subst h;exact wR
 have ab:=wd2 aa (ts.map GTable.row) t (sU hn)
 have ag:=zY6 st
 simp only[An]at ab
 unfold zi8 at hM
 generalize hA:allF ts.length t=A at ab hM
 generalize hL:zs9 st=L at ag hM hl hv
 refine iV 0 func60 ntmps60 results60 fun c hc hb=> ?_
 refine zA ?_
 simp[go_sem]
 refine pC ab ?_
 simp[go_sem]
 refine(A7 (isF ts.length t)).elim (fun h=> ?_) (fun h=> ?_)
 rotate_left
 .simp only[h]at hM
  have h2:decide (t<0)=true∨(decide (t<0)=false/\decide ((ts.length:Int)<=t)=true):=by
   unfold isF at h
   simp only[Bool.and_eq_false_iff,decide_eq_false_iff_not]at h
   simp only[decide_eq_true_eq,decide_eq_false_iff_not]
   omega
  refine h2.elim (fun q=> ?_) (fun q=> ?_)
  all_goals simp[go_sem,q]
  all_goals exact ret _ _ hM
 obtain⟨j,rfl,hj⟩:=yz7 h
 obtain⟨T,hT⟩:=eX (ts[j])
 have ax:decide ((ts.length:Int)<=j)=false:=decide_eq_false om
 have ah:decide ((j:Int)<0)=false:=decide_eq_false om
 simp only[h,if_true,As,A0 hj,hT,Ar]at hM
 have ai:decide (ts.length<=j)=false:=decide_eq_false om
 simp[go_sem,ah,ai,hj,hT]
 by_cases hk:0<=T.key/\T.key<T.cols.length
 rotate_left
 .have ad:zR7 T=none:=by
   unfold zR7
   split
   .rw[D6 om];rfl
   .rfl
  rw[ad]at hM
  have h2:decide (T.key<0)=true∨(decide (T.key<0)=false/\decide ((T.cols.length:Int)<=T.key)=true):=by
   simp only[decide_eq_true_eq,decide_eq_false_iff_not]
   omega
  refine h2.elim (fun q=> ?_) (fun q=> ?_)
  all_goals simp[go_sem,q]
  all_goals exact ret _ _ hM
 obtain⟨m,hm⟩: ∃m:Nat,T.key=m:=⟨T.key.toNat,om⟩
 have ae:m<T.cols.length:=om
 obtain⟨C,hC⟩:=eX (T.cols[m])
 have ad:zR7 T=some C.name:=by
  unfold zR7
  rw[if_pos om,hm,As,A0 ae,hC];rfl
 simp only[ad]at hM
 have aj:decide (T.key<0)=false:=decide_eq_false om
 have ak:decide ((T.cols.length:Int)<=T.key)=false:=decide_eq_false om
 simp[go_sem,aj,ak]
 refine zM ag cB (zN sg rfl) rfl ?_
 simp[go_sem]
 refine zH (S:=Nat×List UInt8×List UInt8) [1,3,6,7,8,52,53,54] (fun u=> [.int .i64 j,.ptr 0 0,.str u.2.1,.str u.2.2,.ptr 1 0,.sl .ro (L.map GExpr.row),.int .i64 L.length,.int .i64 u.1])
  (fun _=> [.box [.sl .ro aa,.sl .ro (ts.map GTable.row)],.box T.row]) (fun u=>L.length - u.1)
  (fun u=>u.1<=L.length/\zY7 ts.length j C.name (L.drop u.1) u.2=zY7 ts.length j C.name L A) hc hb (0,A) ⟨A3 _,rfl⟩ ?_ ?_
 .exact zK6 [0,2] dc rfl ⟨by simp[go_sem,yS,renC,renK],by simp[go_sem,yS,renC,renK],tV⟩
   ⟨zC rfl,.inl (by simp[go_sem,renS,renA,renC,renK,ren]),zC rfl,zC rfl,.inl (by simp[go_sem,renS,renA,renC,renK,ren]),zL,zC rfl,zC rfl,tV⟩
 rintro⟨i,b⟩ ⟨hi,hinv⟩
 simp only at hi hinv
 by_cases q:i<L.length
 rotate_left
 .rw[A9 om]at hinv
  have al:b=zY7 ts.length j C.name L A:=hinv
  rw[<-al]at hM
  refine zA ?_
  simp[go_sem,q]
  exact ret (b.1,maxS b.2 b.1) _ hM
 have ei:=zS q (by unfold maxLen at hl;omega)
 obtain⟨x,hx⟩:=eX (L[i])
 have an:x∈L:=hx▸Ab q
 rw[A5 q,hx]at hinv
 have ao:=yq8 x C.name
 have aq:=hv x an C.name
 have aw:=GExpr.row_eq x
 refine zA ?_
 simp[go_sem,q,hx]
 refine xA [(8,0),(15,3)] 3 sM kR kR ?_
 have ar:T.cols[m]? =some C:=by rw[A0 ae,hC]
 simp[go_sem,hm,ar]
 refine zI ae ?_
 simp[go_sem]
 refine zi5 ao cB (fun _=>zN sg (by rw[GExpr.row_eq];rfl)) (xb3 _) ?_
 cases ha:zf7 x C.name with
 |none=>
  simp only[zY7,Ba,ha]at hinv
  simp[go_sem,cutV,xe8,ei]
  refine zG (i+1,b) ⟨by simp only;omega,⟨by simp only;omega,hinv⟩, ?_⟩
  exact at_n 2 (by simp[go_sem,hm]) rfl (by rfl) (A3 _) (zF sg rfl)
 |some p=>
  obtain⟨s,v⟩:=p
  have au:=aq s v ha
  have af:=yE7 aa (ts.map GTable.row) j v (sU hn) au
  simp only[An]at af
  simp only[zY7,Ba,ha]at hinv
  obtain⟨B,hB⟩:=eX (zl6 ts.length j v)
  have av:B.length<=9223372036854775806:=by
   have:=xz4 v
   rw[<-hB];unfold zl6;rw[if_pos h];simp only[Aa];omega
  rw[hB]at af
  simp[go_sem,cutV]
  refine zM af cB (zN sg rfl) rfl ?_
  simp[go_sem]
  refine zI av ?_
  simp[go_sem]
  have fin: ∀b',cutF B s b=b'->zY7 ts.length j C.name (L.drop (i+1)) b'=zY7 ts.length j C.name L A:=fun b' h=>by rw[<-h,<-hB];exact hinv
  repeat' (first|(refine zR (fun q=> ?_) (fun q=> ?_)<;>simp[go_sem,q,ei]))
  all_goals simp only[beq_iff_eq,beq_eq_false_iff_ne]at*
  all_goals refine zG (i+1,cutF B s b) ⟨by simp only;omega,⟨by simp only;omega,fin _ rfl⟩, ?_⟩
  all_goals refine at_n 2 (by simp[go_sem,hm]) rfl (by rfl) (A3 _) (zF ?_ rfl)
  all_goals unfold cutF maxS minS
  all_goals simp[go_sem, *]
theorem zk9:(Tryz.prog.funcs.all fun fn=> !(fn.name== "runtime.NumGoroutine"))=true:=kR
theorem zg9:Tryz.prog.follows .mixedOrders=true:=kR
def marks (f:Nat):List Nat:=if f=185 then [7]else []
def xI7:GZone:=⟨[1],[],[0,1],0,0,0⟩
def tabT:GTable:=⟨[84],[⟨[82],2,false⟩,⟨[75],2,false⟩,⟨[86],3,true⟩,⟨[78],2,true⟩],1,0,0,xI7⟩
def tabG:GTable:=⟨[71],[⟨[75],3,false⟩,⟨[78],2,false⟩,⟨[66],1,true⟩],0,1,0,xI7⟩
def tabH:GTable:=⟨[72],[⟨[66],1,false⟩,⟨[78],2,true⟩],0,2,1,xI7⟩
def tabsS:List GTable:= [tabT,tabG,tabH]
def wF:List (List V):= [[.int .i64 0],[.int .i64 0],[.int .i64 1],[.int .i64 1]]
def schS:V:= .agg [.sl .full wF,.sl .full (tabsS.map GTable.row)]
def schR (ts:List GTable):V:= .agg [.sl .ro wF,.sl .ro (ts.map GTable.row)]
theorem xs0:Pure prog 39 [] schS:=zn9 zk9 zg9 marks 10000 kR
theorem xE4 {ρ:Nat->Nat}:argS ρ (schR tabsS) schS:=zv2 ⟨yX,yX,tV⟩
def wN (t r:Int):Int×Int:=if t=0 then(if r=0 then(0,0)else if r=1 then(1,0)else(0,19))else if t=1 then(2,0)else if t=2 then(3,0)else(0,1)
def yB5 (p:Int×Int):V:= .tup [.int .i64 p.1,.int .i64 p.2]
theorem yF0 (t r:Int) (h:t=0∨t=1∨t=2) (hr:r= -1∨r=0∨r=1∨r=2∨r=3∨r=4):Pure prog 62 [schR tabsS,.int .i64 t,.int .i64 r] (yB5 (wN t r)):=by
 rcases h with rfl|rfl|rfl<;>rcases hr with rfl|rfl|rfl|rfl|rfl|rfl<;>exact zn9 zk9 zg9 marks 10000 kR
theorem xj3 (j:Nat) (hj:j<3):Pure prog 62 [schR (tabsS.take (j+1)),.int .i64 j,.int .i64 0] (yB5 (wN j 0)):=by
 match j,hj with
 |0,_=>exact zn9 zk9 zg9 marks 10000 kR
 |1,_=>exact zn9 zk9 zg9 marks 10000 kR
 |2,_=>exact zn9 zk9 zg9 marks 10000 kR
def ofS (r:Int):Int×Int×Int:=if r=0 then(0,0,0)else if r=1 then(0,1,0)else if r=2 then(1,-1,0)else if r=3 then(2,1,0)else(0,0,1)
def ofV (p:Int×Int×Int):V:= .tup [.int .i64 p.1,.int .i64 p.2.1,.int .i64 p.2.2]
theorem xN3:Pure prog 111 [schR tabsS] (.int .i64 0):=zn9 zk9 zg9 marks 10000 kR
theorem xp5:Pure prog 116 [schR tabsS] (.sl .ro [[.int .i64 0],[.int .i64 1]]):=
 VCalls.frz (xk2 zk9 zg9 marks 10000 (v:= .lsv 1 1 4 0 2) (σ':= [.box [.sl .ro wF,.sl .ro (tabsS.map GTable.row)],.lst [[.int .i64 0],[.int .i64 1],[.int .i64 0],[.int .i64 0]] 1]) kR)
  (fun r s ⟨h1,h2⟩=>by subst h1;subst h2;exact⟨_,_,.step 1 1 [[.int .i64 0],[.int .i64 1],[.int .i64 0],[.int .i64 0]] rfl rfl (.refl _ _),zL⟩)
def xe1 (t:Nat):Int:=if t=0 then 2 else 1
theorem yV0 (j:Nat) (hj:j<3):Pure prog 145 [schR tabsS,.agg (tabsS[j]'hj).row] (.int .i64 (xe1 j)):=by
 match j,hj with
 |0,_=>exact zn9 zk9 zg9 marks 10000 kR
 |1,_=>exact zn9 zk9 zg9 marks 10000 kR
 |2,_=>exact zn9 zk9 zg9 marks 10000 kR
theorem yA8 {M:Int×Int×Int} {a b e:Int} {σ:St} (h:(a,b,e)=M):wret (some (.tup [.int .i64 a,.int .i64 b,.int .i64 e])) 0 (fun r s=>r=ofV M/\s= []) σ:=by subst h;exact wR
theorem Of_w (g:Nat) (hg:g<1000):Pure prog 86 [schR tabsS,.int .i64 g] (ofV (ofS g)):=by
 have ab:=yV0 0 dc
 have ad:=yV0 1 dc
 have ae:=yV0 2 dc
 have hr:=xp5
 generalize hM:ofS g=M
 refine iV 0 func86 ntmps86 results86 fun c hc hb=> ?_
 refine zA ?_
 simp[go_sem,schR]
 have h0:decide ((g:Int)<0)=false:=decide_eq_false om
 simp[go_sem,h0]
 refine zH (S:=Nat×Nat) [1,2,13,14,15] (fun u=> [.int .i64 u.2,.ptr 0 0,.sl .ro (tabsS.map GTable.row),.int .i64 3,.int .i64 u.1]) (fun _=> [.box [.sl .ro wF,.sl .ro (tabsS.map GTable.row)]]) (fun u=>3 - u.1)
  (fun u=>(u.1=0/\u.2=g)∨(u.1=1/\u.2+2=g)∨(u.1=2/\u.2+3=g)∨(u.1=3/\u.2+4=g)) hc hb (0,g) (.inl ⟨rfl,rfl⟩) ?_ ?_
 .exact aM 1 (by rfl) (zF (by simp[go_sem];rfl) rfl)
 rintro⟨i,r⟩ h
 simp only at h
 refine h.elim (fun⟨h1,h2⟩=> ?_) fun h=>h.elim (fun⟨h1,h2⟩=> ?_) fun h=>h.elim (fun⟨h1,h2⟩=> ?_) fun⟨h1,h2⟩=> ?_
 .subst h1
  refine zA ?_
  simp[go_sem,tabsS]
  refine zM ab cB (zN (by simp[go_sem,schR,tabsS]) rfl) rfl ?_
  simp[go_sem,xe1]
  by_cases q:2<=r
  .have q':decide ((2:Int)<=r)=true:=decide_eq_true om
   have e:IntKind.i64.wrap ((r:Int) - 2)=((r - 2:Nat):Int):=by rw[i64_id om om];omega
   simp[go_sem,q',e]
   exact zG (1,r - 2) ⟨by simp only;omega,.inr (.inl ⟨rfl,by simp only;omega⟩),aN 1 (by rfl)⟩
  .have q':decide ((2:Int)<=r)=false:=decide_eq_false om
   simp[go_sem,q',show tabT.place=0 from rfl]
   refine xA [(2,0)] 2 sM kR kR ?_
   simp[go_sem]
   refine zi5 hr cB (fun _=>zN (by simp[go_sem,schR,tabsS,show tabT.place=0 from rfl]) rfl) rfl ?_
   have aa:r=0∨r=1:=om
   refine aa.elim (fun e=> ?_) (fun e=> ?_)
   all_goals subst e
   all_goals simp[go_sem]
   all_goals exact yA8 (by rw[<-hM,<-h2];rfl)
 .subst h1
  refine zA ?_
  simp[go_sem,tabsS]
  refine zM ad cB (zN (by simp[go_sem,schR,tabsS]) rfl) rfl ?_
  simp[go_sem,xe1]
  by_cases q:1<=r
  .have q':decide ((1:Int)<=r)=true:=decide_eq_true om
   have e:IntKind.i64.wrap ((r:Int) - 1)=((r - 1:Nat):Int):=by rw[i64_id om om];omega
   simp[go_sem,q',e]
   exact zG (2,r - 1) ⟨by simp only;omega,.inr (.inr (.inl ⟨rfl,by simp only;omega⟩)),aN 1 (by rfl)⟩
  .have q':decide ((1:Int)<=r)=false:=decide_eq_false om
   simp[go_sem,q',show tabG.place=1 from rfl]
   have aa:r=0:=om
   subst aa
   exact yA8 (by rw[<-hM,<-h2];rfl)
 .subst h1
  refine zA ?_
  simp[go_sem,tabsS]
  refine zM ae cB (zN (by simp[go_sem,schR,tabsS]) rfl) rfl ?_
  simp[go_sem,xe1]
  by_cases q:1<=r
  .have q':decide ((1:Int)<=r)=true:=decide_eq_true om
   have e:IntKind.i64.wrap ((r:Int) - 1)=((r - 1:Nat):Int):=by rw[i64_id om om];omega
   simp[go_sem,q',e]
   exact zG (3,r - 1) ⟨by simp only;omega,.inr (.inr (.inr ⟨rfl,by simp only;omega⟩)),aN 1 (by rfl)⟩
  .have q':decide ((1:Int)<=r)=false:=decide_eq_false om
   have aa:r=0:=om
   subst aa
   simp[go_sem,show tabH.place=2 from rfl]
   refine xA [] 2 sM kR kR ?_
   simp[go_sem]
   exact yA8 (by rw[<-hM,<-h2];rfl)
 .subst h1
  refine zA ?_
  simp[go_sem,tabsS]
  exact yA8 (by rw[<-hM,<-h2];unfold ofS;rw[if_neg om,if_neg om,if_neg om,if_neg om])
theorem wb3 (v:GValue) (l:List Int):([.box v.row,.lst (l.map yQ) 1]:St).all (ltOb 2)=true:=by simp[ltOb,ltC,ltK,yQ,GValue.row]
theorem xT6 (v:GValue) (r:Int):VCalls prog 113 [.int .i64 r,.ptr 0 0] [.box v.row] (fun x s=>x= .bool (r !=v.n)/\s= [.box v.row]):=by
 refine iW 1 func113 ntmps113 results113 fun c hc hb=>zK ?_
 simp[go_sem]
 exact xM 1 sg rfl rfl (A4 _) (zC rfl) ⟨rfl,rfl⟩
def idxF (p:Int->Bool):List Int->Nat->Int
 | [],_=> -1
 |x::l,i=>if p x=true then i else idxF p l (i+1)
theorem we9 (v:GValue) (xs:List Int) (m:Nat) (hm:m<=xs.length) (hl:xs.length<=1000):
  VCalls prog 182 [.lsv 1 1 xs.length 0 m,.fn 113 [.ptr 0 0]] [.box v.row,.lst (xs.map yQ) 1]
   (fun r s=>r= .int .i64 (idxF (fun x=>x !=v.n) (xs.take m) 0)/\s= [.box v.row,.lst (xs.map yQ) 1]):=by
 generalize hM:idxF (fun x=>x !=v.n) (xs.take m) 0=M
 have ret: ∀(r:Int) (σ:St),r=M->σ.take 2= [.box v.row,.lst (xs.map yQ) 1]->wret (some (.int .i64 r)) 2 (fun r s=>r= .int .i64 M/\s= [.box v.row,.lst (xs.map yQ) 1]) σ:=fun r σ h hs=>by subst h;exact xM 2 hs rfl (by simp[ltOb,ltC,ltK,yQ,GValue.row]) (A4 _) (zC rfl) ⟨rfl,rfl⟩
 refine iV 2 func182 ntmps182 results182 fun c hc hb=> ?_
 refine zA ?_
 simp[go_sem]
 refine zH (S:=Nat) [0,1,7,8] (fun i=> [.lsv 1 1 xs.length 0 m,.fn 113 [.ptr 0 0],.int .i64 m,.int .i64 i]) (fun _=> [.box v.row,.lst (xs.map yQ) 1]) (fun i=>m - i) (fun i=>i<=m/\idxF (fun x=>x !=v.n) ((xs.take m).drop i) i=M) hc hb 0 ⟨A3 _,hM⟩ ?_ ?_
 .exact aN 2 (by simp[ltOb,ltC,ltK,yQ,GValue.row])
 rintro i ⟨hi,hinv⟩
 by_cases q:i<m
 rotate_left
 .rw[A9 (by simp;omega)]at hinv
  refine zA ?_
  simp[go_sem,q]
  exact ret _ _ hinv rfl
 have ei:=zS q om
 have aa:i<xs.length:=om
 obtain⟨x,hx⟩:=eX (xs[i])
 have ab:(xs.take m)[i]'(by simp;omega)=x:=by rw[List.getElem_take];exact hx
 rw[A5 (by simp;omega),ab,idxF]at hinv
 have hd:=xT6 v x
 obtain⟨b,ad⟩:=eX ((x !=v.n))
 rw[ad]at hd hinv
 refine zA ?_
 simp[go_sem,q,aa,hx]
 refine za4 1 hd cB sg rfl rfl (wB rfl) (fun r s h=>by obtain⟨rfl,rfl⟩:=h;exact⟨rfl,rfl,rfl⟩) ?_
 rintro r s ⟨rfl,rfl⟩
 simp[go_sem]
 refine zR (fun w=> ?_) (fun w=> ?_)
 .rw[if_pos w]at hinv
  simp[go_sem]
  exact ret _ _ hinv rfl
 .rw[if_neg (by rw[w];decide)]at hinv
  simp[go_sem,ei]
  exact zG (i+1) ⟨om,⟨q,hinv⟩,aN 2 (by simp[ltOb,ltC,ltK,yQ])⟩
def zj5 (n:Int) (l:List Int):List Int:=l.filter (· ==n)
theorem ys8 {n:Int}: ∀(l:List Int) (i:Nat),idxF (fun x=>x !=n) l i= -1->zj5 n l=l
 | [],_,_=>rfl
 |x::l,i,h=>by
  unfold idxF at h
  split at h
  .omega
  .rename_i q
   have:=ys8 l (i+1) h
   have hx:(x==n)=true:=sU q
   unfold zj5 at this⊢
   rw[List.filter_cons_of_pos (sU hx),this]
theorem ys9 {n:Int}: ∀(l:List Int) (i:Nat),idxF (fun x=>x !=n) l i≠ -1-> ∃k,idxF (fun x=>x !=n) l i=((i+k:Nat):Int)/\k<l.length/\zj5 n (l.take k)=l.take k/\(∀x,l[k]? =some x->x≠n)
 | [],i,h=>absurd rfl h
 |x::l,i,h=>by
  unfold idxF at h⊢
  split
  .rename_i q
   exact⟨0,sM,sM,rfl,fun y hy=>by simp at hy;subst hy;simpa using q⟩
  .rename_i q
   rw[if_neg q]at h
   obtain⟨k,h1,h2,h3,h4⟩:=ys9 l (i+1) h
   have hx:(x==n)=true:=sU q
   refine⟨k+1,by rw[h1];congr 1;omega,by simp;omega, ?_,fun y hy=>h4 y (sU hy)⟩
   unfold zj5 at h3⊢
   rw[Cm,List.filter_cons_of_pos (sU hx),h3]
theorem zO6 {n:Int} {xs:List Int} {j:Nat} {x:Int} (h:xs[j]? =some x):zj5 n (xs.take (j+1))=zj5 n (xs.take j)++(if x=n then [x]else []):=by
 unfold zj5
 rw[Cx,h,Dz]
 by_cases q:x=n
 .simp[q]
 .simp[q]
theorem xW9 (v:GValue) (xs:List Int) (m:Nat) (hm:m<=xs.length) (hl:xs.length<=1000):
  VCalls prog 112 [.lsv 1 1 xs.length 0 m,.fn 113 [.ptr 0 0]] [.box v.row,.lst (xs.map yQ) 1]
   (fun r s=> ∃ys:List Int,ys.length=xs.length/\(zj5 v.n (xs.take m)).length<=m/\ys.take (zj5 v.n (xs.take m)).length=zj5 v.n (xs.take m)/\r= .lsv 1 1 xs.length 0 (zj5 v.n (xs.take m)).length/\s= [.box v.row,.lst (ys.map yQ) 1]):=by
 obtain⟨K,hK⟩:=eX (zj5 v.n (xs.take m))
 have an:K.length<=m:=by rw[<-hK];unfold zj5;exact B3 (Bj _ _) (by simp;omega)
 rw[hK]
 have ret: ∀(ys:List Int) (k:Nat) (σ:St),ys.length=xs.length->k=K.length->ys.take K.length=K->σ.take 2= [.box v.row,.lst (ys.map yQ) 1]->
   wret (some (.lsv 1 1 xs.length 0 k)) 2 (fun r s=> ∃ys:List Int,ys.length=xs.length/\K.length<=m/\ys.take K.length=K/\r= .lsv 1 1 xs.length 0 K.length/\s= [.box v.row,.lst (ys.map yQ) 1]) σ:=fun ys k σ h1 h2 h3 h4=>by
  subst h2
  exact xM 2 h4 rfl (by simp[ltOb,ltC,ltK,yQ,GValue.row]) (A4 _) (zp8 rfl) ⟨ys,h1,an,h3,rfl,rfl⟩
 have ao:=we9 v xs m hm hl
 refine iV 2 func112 ntmps112 results112 fun c hc hb=> ?_
 refine zA ?_
 simp[go_sem]
 refine za4 2 ao cB sg rfl (by simp[ltOb,ltC,ltK,yQ,GValue.row]) (wB rfl) (fun r s h=>by obtain⟨rfl,rfl⟩:=h;exact⟨rfl,by simp[ltOb,ltC,ltK,yQ,GValue.row],rfl⟩) ?_
 rintro r s ⟨rfl,rfl⟩
 by_cases h0:idxF (fun x=>x !=v.n) (xs.take m) 0= -1
 .have ag:=ys8 _ _ h0
  rw[hK]at ag
  rw[h0]
  simp[go_sem]
  exact ret xs m _ rfl (by rw[ag];simp;omega) (by rw[ag];simp) (by rfl)
 obtain⟨k,h1,h2,h3,h4⟩:=ys9 _ _ h0
 rw[Ae]at h1
 rw[h1]
 have aq:k<m:=by simp at h2;omega
 have ar:((k:Int)== -1)=false:=sM
 have ek:IntKind.i64.wrap ((k:Int)+1)=((k+1:Nat):Int):=by rw[i64_id om om];omega
 have au:zj5 v.n (xs.take (k+1))=xs.take k:=by
  have ai:k<xs.length:=om
  have h5:=h4 xs[k] (by rw[Aw,if_pos aq,A0 ai])
  rw[zO6 (A0 ai),if_neg h5,B9]
  rw[List.take_take,Dm om]at h3
  exact h3
 simp[go_sem,ar,ek]
 refine zH (S:=Nat×Nat×List Int) [0,1,5,6] (fun u=> [.lsv 1 1 xs.length 0 m,.fn 113 [.ptr 0 0],.int .i64 u.1,.int .i64 u.2.1]) (fun u=> [.box v.row,.lst (u.2.2.map yQ) 1]) (fun u=>m - u.2.1)
  (fun u=>u.1<u.2.1/\u.2.1<=m/\u.2.2.length=xs.length/\u.2.2.take u.1=zj5 v.n (xs.take u.2.1)/\u.2.2.drop u.2.1=xs.drop u.2.1) hc hb (k,k+1,xs) ⟨by simp only;omega,by simp only;omega,rfl,au.symm,rfl⟩ ?_ ?_
 .exact aN 2 (by simp[ltOb,ltC,ltK,yQ,GValue.row])
 rintro⟨i,j,ys⟩ ⟨av,aw,ad,aa,ab⟩
 simp only at av aw ad aa ab
 by_cases q:j<m
 rotate_left
 .have hj:j=m:=om
  subst hj
  rw[hK]at aa
  have aj:i=K.length:=by rw[<-aa];simp;omega
  have af:i<=j:=om
  refine zA ?_
  simp[go_sem]
  refine zI af ?_
  simp[go_sem,ad]
  refine zI om ?_
  simp[go_sem]
  refine zI (.inl af) ?_
  simp[go_sem]
  refine ret (ys.take i++List.replicate (j - i) 0++ys.drop (i+(j - i))) i _ (by simp;omega) aj (by rw[<-aj,Cw,List.take_append_of_le_length (by simp;omega)];rw[List.take_take,Nat.min_self,aa]) ?_
  simp[go_sem,yQ]
 have ej:=zS q om
 have ax:j<ys.length:=om
 have ay:j<xs.length:=om
 obtain⟨x,hx⟩:=eX (ys[j])
 have az:ys[j]? =some x:=by rw[A0 ax,hx]
 have ak:xs[j]? =some x:=by
  have:=congrArg (fun l=>l[0]?) ab
  simp only[Bt,D9]at this
  rw[<-this,az]
 have ei:IntKind.i64.wrap ((i:Int)+1)=((i+1:Nat):Int):=by rw[i64_id om om];omega
 have hd:=xT6 v x
 obtain⟨b,ah⟩:=eX ((x !=v.n))
 rw[ah]at hd
 refine zA ?_
 simp[go_sem,q,ay,hx,ad]
 refine za4 1 hd cB sg rfl rfl (wB rfl) (fun r s h=>by obtain⟨rfl,rfl⟩:=h;exact⟨rfl,rfl,rfl⟩) ?_
 rintro r s ⟨rfl,rfl⟩
 simp[go_sem]
 refine zR (fun w=> ?_) (fun w=> ?_)
 all_goals simp[go_sem,ej]
 .have q2:x=v.n:=by simpa using (show(x !=v.n)=false by rw[ah];simpa using w)
  have ae:=zO6 (n:=v.n) ak
  rw[if_pos q2]at ae
  refine zI om ?_
  have al:i<xs.length:=om
  obtain⟨y,a1⟩: ∃y,ys[i]? =some y:=⟨_,A0 om⟩
  simp[go_sem,ad,al,ei,ej]
  refine zG (i+1,j+1,ys.set i x) ⟨by simp only;omega,⟨by simp only;omega,by simp only;omega,by simp[ad], ?_, ?_⟩, ?_⟩
  .rw[ae,<-aa,Cx,Bd om,List.take_set_of_le (A4 i)]
   simp
  .simp only
   rw[List.drop_set,if_pos om]
   have:=congrArg (List.drop 1) ab
   simpa[Dg,Dt]using this
  .exact at_n 2 (by simp[go_sem,List.map_set,yQ]) rfl (wb3 v _) (A4 _) (zF sg rfl)
 .have q2: ¬x=v.n:=by
   have:(x !=v.n)=true:=by rw[ah];simpa using w
   simpa using this
  have ae:=zO6 (n:=v.n) ak
  rw[if_neg q2,B9]at ae
  refine zG (i,j+1,ys) ⟨by simp only;omega,⟨by simp only;omega,by simp only;omega,ad,by rw[ae];exact aa, ?_⟩, ?_⟩
  .have:=congrArg (List.drop 1) ab
   simpa[Dg,Dt]using this
  .exact aN 2 (by simp[ltOb,ltC,ltK,yQ])
def zG8 (t:Nat):List Int:=if t=0 then [0,1]else if t=1 then [-1]else [1]
def cutR (l:List GExpr) (rs:List Int):List Int:=l.foldl (fun rs e=>match zf7 e [82]with|none=>rs|some (s,v)=>if s= [61]/\v.kind=2 then zj5 v.n rs else rs) rs
def za7 (t:Int) (st:GStmt):List Int:=if t=0 then cutR (zs9 st) [0,1]else if t=1 then [-1]else if t=2 then [1]else []
theorem xl7 {n:Int} (l:List Int):(zj5 n l).length<=l.length:=Bj _ _
theorem xl4 (l:List Int):wE (l.map yQ)=true:=by simp[wE,yQ,zC2]
theorem yS3 (l:List Int) (m:Nat):zb7 (l.map yQ) 0 m=(l.take m).map yQ:=by
 unfold zb7
 rw[B1,<-List.map_take,Bh]
 rfl
theorem xF1 (st:GStmt) (T:GTable) (l:List Int):([.box [.sl .ro wF,.sl .ro (tabsS.map GTable.row)],.box st.row,.box T.row,.lst (l.map yQ) 1]:St).all (ltOb 4)=true:=by simp[ltOb,ltC,ltK,yQ,GStmt.row,GTable.row]
theorem yC6 (T:GTable) (l:List Int):([.box T.row,.lst (l.map yQ) 1]:St).all (ltOb 2)=true:=by simp[ltOb,ltC,ltK,yQ,GTable.row]
theorem xc7 (n:Nat) (l:List Int):ltOb n (.lst (l.map yQ) 1)=true:=by simp[ltOb,ltC,ltK,yQ]
theorem yW6 (j:Nat) (hj:j<3): ∃s0:Nat,wN j 0=((s0:Int),0)/\s0+(zG8 j).length<5/\(∀(k:Nat) x,(zG8 j)[k]? =some x->ofS ((s0+k:Nat):Int)=((j:Int),x,0))/\
  ((ofS ((s0+(zG8 j).length:Nat):Int)).2.2≠0∨((ofS ((s0+(zG8 j).length:Nat):Int)).2.2=0/\(ofS ((s0+(zG8 j).length:Nat):Int)).1≠j)):=by
 match j,hj with
 |0,_=>exact⟨0,rfl,dc,fun k x h=>(by match k with
   |0=>cases h;rfl
   |1=>cases h;rfl
   |k+2=>cases h),.inr dc⟩
 |1,_=>exact⟨2,rfl,dc,fun k x h=>(by match k with
   |0=>cases h;rfl
   |k+1=>cases h),.inr dc⟩
 |2,_=>exact⟨3,rfl,dc,fun k x h=>(by match k with
   |0=>cases h;rfl
   |k+1=>cases h),.inl dc⟩
theorem yH0: ∀(l:List GExpr) (rs:List Int),(cutR l rs).length<=rs.length
 | [],_=>A4 _
 |e::l,rs=>by
  have h1:cutR (e::l) rs=cutR l (match zf7 e [82]with|none=>rs|some (s,v)=>if s= [61]/\v.kind=2 then zj5 v.n rs else rs):=rfl
  rw[h1]
  refine B3 (yH0 l _) ?_
  split
  .exact A4 _
  .split
   .exact xl7 _
   .exact A4 _
theorem xj4 (t:Int) (st:GStmt) (hl:(zs9 st).length<=maxLen):Pure prog 61 [schR tabsS,.int .i64 t,.agg st.row] (.sl .ro ((za7 t st).map yQ)):=by
 have al:=zY6 st
 generalize hM:za7 t st=M
 unfold za7 at hM
 generalize hL:zs9 st=L at al hM hl
 have an: ∀(g:Tag) (σ:St),[]=M->wret (some (.sl g [])) 0 (fun r s=>r= .sl .ro (M.map yQ)/\s= []) σ:=fun g σ h=>by subst h;exact xP zL ⟨rfl,rfl⟩
 have ah: ∀(id:Nat) (ys:List Int) (N m:Nat) (σ:St),σ[id]? =some (.lst (ys.map yQ) 1)->ys.length=N->m<=N->ys.take m=M->wret (some (.lsv id 1 N 0 m)) 0 (fun r s=>r= .sl .ro (M.map yQ)/\s= []) σ:=fun id ys N m σ h1 h2 h3 h4=>by
  refine yR0 id 1 (ys.map yQ) h1 (xl4 ys) ?_
  simp only[frzS,frzA,frzC,frzK,An,h2,Ae,h3,and_self,if_true,yS3,h4]
  exact xP zL ⟨rfl,rfl⟩
 refine iV 0 func61 ntmps61 results61 fun c hc hb=> ?_
 refine zA ?_
 simp[go_sem,schR]
 by_cases ht:0<=t/\t<3
 rotate_left
 .have ar: []=M:=by rw[<-hM,if_neg om,if_neg om,if_neg om]
  have h2:decide (t<0)=true∨(decide (t<0)=false/\decide ((tabsS.length:Int)<=t)=true):=by
   simp only[decide_eq_true_eq,decide_eq_false_iff_not,show tabsS.length=3 from rfl]
   omega
  refine h2.elim (fun q=> ?_) (fun q=> ?_)
  all_goals simp[go_sem,q]
  all_goals exact an _ _ ar
 obtain⟨j,rfl⟩: ∃j:Nat,t=j:=⟨t.toNat,om⟩
 have hj:j<3:=om
 obtain⟨T,hT⟩:=eX (tabsS[j]'(by exact hj))
 have ao:=xj3 j hj
 obtain⟨s0,au,av,hok,aa⟩:=yW6 j hj
 obtain⟨n,hn⟩:=eX ((zG8 j).length)
 rw[hn]at av aa
 rw[au]at ao
 have aw:decide ((j:Int)<0)=false:=decide_eq_false om
 have aG:decide ((tabsS.length:Int)<=j)=false:=decide_eq_false (by simp only[show tabsS.length=3 from rfl];omega)
 have ax:decide (tabsS.length<=j)=false:=decide_eq_false (by simp only[show tabsS.length=3 from rfl];omega)
 have ay:j<tabsS.length:=hj
 have hle:=xN3
 have e1:IntKind.i64.wrap ((j:Int)+1)=((j+1:Nat):Int):=by rw[i64_id om om];omega
 simp[go_sem,aw,ax,ay]
 refine zM6 8 1 dc sg ?_
 refine xA [(10,0),(11,0)] 4 sM kR kR ?_
 simp[go_sem,e1]
 refine zI ⟨om,by simp only[show tabsS.length=3 from rfl];omega,yd6 fun T=>rfl⟩ ?_
 simp[go_sem]
 refine zi5 hle cB (fun _=>zN (by simp[go_sem,schR]) rfl) rfl ?_
 simp[go_sem]
 refine zi5 ao cB (fun _=>zN (by simp[go_sem,schR]) rfl) rfl ?_
 simp[go_sem,yB5]
 refine zH (S:=Nat) [1,3,5,7,8,9] (fun k=> [.int .i64 j,.ptr 0 0,.ptr 1 0,.ptr 2 0,.lsv 3 1 k 0 k,.int .i64 ((s0+k:Nat):Int)])
  (fun k=> [.box [.sl .ro wF,.sl .ro (tabsS.map GTable.row)],.box st.row,.box T.row,.lst (((zG8 j).take k).map yQ) 1]) (fun k=>n - k) (fun k=>k<=n) hc hb 0 (A3 _) ?_ ?_
 .exact at_n 4 (by simp[go_sem,<-hT];exact⟨rfl,rfl,rfl,rfl,rfl,rfl,rfl,rfl,rfl,rfl,rfl⟩) rfl (xF1 st T _) (A3 _) (zF sg rfl)
 intro k hk
 have az:=Of_w (s0+k) om
 refine zA ?_
 simp[go_sem]
 refine zM az cB (zN (by simp[go_sem,schR]) rfl) rfl ?_
 by_cases aH:k<n
 .obtain⟨x,hx⟩: ∃x,(zG8 j)[k]? =some x:=⟨_,A0 om⟩
  rw[hok k x hx]
  have a1: ¬(k+1<=k):=om
  have ei:IntKind.i64.wrap (((s0:Int)+k)+1)=(s0:Int)+k+1:=by rw[i64_id om om]
  simp[go_sem,ofV,a1]
  refine zI ⟨om,zX rfl,om⟩ ?_
  simp[go_sem,ei]
  refine zG (k+1) ⟨om,om, ?_⟩
  exact at_n 4 (by simp[go_sem,Cx,hx,yQ]) rfl (xF1 st T _) (A3 _) (zF (by simp[go_sem];omega) rfl)
 .obtain rfl:k=n:=om
  obtain⟨⟨a,b2,e⟩,hp⟩: ∃p,ofS ((s0+k:Nat):Int)=p:=⟨_,rfl⟩
  rw[hp]at aa⊢
  simp only at aa
  have hY:((zG8 j).take k).length=k:=by simp;omega
  have ad:(e !=0)=true∨((e !=0)=false/\(a !=j)=true):=by
   rcases aa with h|h
   .exact .inl (sU h)
   .exact .inr ⟨by simpa using h.1,by simpa using h.2⟩
  by_cases ai:j=0
  rotate_left
  .have aj:(T.place !=0)=true:=by
    rw[<-hT]
    match j,hj,ai with
    |1,_,_=>rfl
    |2,_,_=>rfl
   have a6:(zG8 j)=M:=by
    rw[<-hM]
    match j,hj,ai with
    |1,_,_=>rfl
    |2,_,_=>rfl
   refine ad.elim (fun q=> ?_) (fun q=> ?_)
   all_goals simp[go_sem,ofV,q,aj]
   all_goals exact ah 3 ((zG8 j).take k) k k _ sg hY (A4 _) (by rw[List.take_take,Nat.min_self,Ap om];exact a6)
  subst ai
  have aj:(T.place !=0)=false:=by rw[<-hT];rfl
  have ab:T.cols= [⟨[82],2,false⟩,⟨[75],2,false⟩,⟨[86],3,true⟩,⟨[78],2,true⟩]:=by rw[<-hT];rfl
  have a7:k=2:=by rw[<-hn];rfl
  subst a7
  have ak:(e !=0)=true∨((e !=0)=false/\(a !=0)=true):=sU ad
  refine ak.elim (fun q=> ?_) (fun q=> ?_)
  all_goals simp[go_sem,ofV,q,aj,ab]
  all_goals refine zM al cB (zN sg rfl) rfl ?_
  all_goals simp[go_sem]
  all_goals refine zH (S:=Nat×List Int×List Int) [7,8,79,80,81] (fun u=> [.ptr 0 0,.lsv 1 1 2 0 u.2.1.length,.sl .ro (L.map GExpr.row),.int .i64 L.length,.int .i64 u.1]) (fun u=> [.box T.row,.lst (u.2.2.map yQ) 1]) (fun u=>L.length - u.1) (fun u=>u.1<=L.length/\u.2.1.length<=2/\u.2.2.length=2/\u.2.2.take u.2.1.length=u.2.1/\cutR (L.drop u.1) u.2.1=M) hc hb (0,[0,1],[0,1]) ⟨A3 _,A4 _,rfl,rfl,hM⟩ ?_ ?_
  all_goals try exact zK6 [2,3] dc rfl ⟨by simp[go_sem,yS,renC,renK,ab],by simp[go_sem,yS,renC,renK,zG8,yQ],tV⟩ ⟨.inl (by simp[go_sem,renS,renA,renC,renK,ren]),.inl (by simp[go_sem,renS,renA,renC,renK,ren]),zL,zC rfl,zC rfl,tV⟩
  all_goals rintro⟨i,rs,ys⟩ ⟨hi,ag,ae,af,hinv⟩
  all_goals simp only at hi ag ae af hinv
  all_goals (
   by_cases hq:i<L.length
   rotate_left
   .rw[A9 om]at hinv
    have a8:rs=M:=hinv
    refine zA ?_
    simp[go_sem,hq]
    exact ah 1 ys 2 rs.length _ sg ae ag (by rw[af];exact a8)
   have ei:=zS hq (by unfold maxLen at hl;omega)
   obtain⟨x,hx⟩:=eX (L[i])
   rw[A5 hq,hx]at hinv
   have aA:=yq8 x [82]
   refine zA ?_
   simp[go_sem,hq,hx,ab]
   refine xA [(6,0),(13,3)] 3 sM kR kR ?_
   simp[go_sem]
   refine zi5 aA cB (fun _=>zN sg (by rw[GExpr.row_eq];rfl)) (xb3 _) ?_
   cases ha:zf7 x [82]with
   |none=>
    simp only[cutR,Ba,ha]at hinv
    simp[go_sem,cutV,xe8,ei]
    refine zG (i+1,rs,ys) ⟨by simp only;omega,⟨by simp only;omega,ag,ae,af,hinv⟩, ?_⟩
    exact at_n 2 (by simp[go_sem,ab]) rfl (yC6 T _) (A3 _) (zF sg rfl)
   |some p=>
    obtain⟨s,v⟩:=p
    simp only[cutR,Ba,ha]at hinv
    simp[go_sem,cutV]
    by_cases hs:s= [61]/\v.kind=2
    .rw[if_pos hs]at hinv
     have aB:(s== [61])=true:=sU hs.1
     have aC:(v.kind==2)=true:=sU hs.2
     have aq:=xW9 v ys rs.length om om
     rw[af,ae]at aq
     simp[go_sem,aB,aC]
     refine xS0 3 1 aq cB dc sg sg rfl (xc7 _ _) ⟨.inl (by simp[go_sem,renS,renA,renC,renK,ren]),.inl (by simp[go_sem,renS,renA,renC,renK,ren]),tV⟩ (fun r s h=>by
      obtain⟨zs,_,_,_,_,rfl⟩:=h
      exact⟨_,_,rfl,rfl,xc7 _ _⟩) ?_
     rintro r o2 p2 ⟨zs,aI,aJ,aD,rfl,aE⟩
     obtain⟨rfl,rfl⟩:o2= .box v.row/\p2= .lst (zs.map yQ) 1:=sU aE
     simp[go_sem,renS,renA,renC,renK,ren,ei]
     refine zG (i+1,zj5 v.n rs,zs) ⟨by simp only;omega,⟨by simp only;omega,by simp only;omega,om,aD,hinv⟩, ?_⟩
     exact at_n 2 (by simp[go_sem,ab]) rfl (yC6 T _) (A3 _) (zF sg rfl)
    .rw[if_neg hs]at hinv
     have aF:(s== [61])=false∨((s== [61])=true/\(v.kind==2)=false):=by
      by_cases h1:s= [61]
      .exact .inr ⟨by simpa using h1,by simpa using fun h2=>hs ⟨h1,h2⟩⟩
      .exact .inl (sU h1)
     refine aF.elim (fun q1=> ?_) (fun q1=> ?_)
     all_goals simp[go_sem,q1,ei]
     all_goals refine zG (i+1,rs,ys) ⟨by simp only;omega,⟨by simp only;omega,ag,ae,af,hinv⟩, ?_⟩
     all_goals exact at_n 2 (by simp[go_sem,ab]) rfl (yC6 T _) (A3 _) (zF sg rfl))
def zf5 {α:Type} (p:α->Bool):List α->Nat->Int
 | [],_=> -1
 |x::l,i=>if p x=true then(i:Int)else zf5 p l (i+1)
theorem zr2 {α:Type} (p:α->Bool): ∀(l:List α) (i:Nat),zf5 p l i= -1∨((i:Int)<=zf5 p l i/\zf5 p l i<i+l.length)
 | [],i=> .inl rfl
 |x::l,i=>by
  unfold zf5
  split
  .right;simp;omega
  .have:=zr2 p l (i+1)
   simp only[Aa]
   omega
theorem we8 (t:GTable) (name:List UInt8):VCalls prog 105 [.agg t.row,.ptr 0 0] [.box [.str name]] (fun r s=>r= .bool (t.name==name)/\s= [.box [.str name]]):=by
 refine iW 1 func105 ntmps105 results105 fun c hc hb=>zK ?_
 simp[go_sem]
 exact zp7 1 rfl rfl (A4 _) (zC rfl) ⟨rfl,rfl⟩
theorem we5 (t:GCol) (name:List UInt8):VCalls prog 231 [.agg t.row,.ptr 0 0] [.box [.str name]] (fun r s=>r= .bool (t.name==name)/\s= [.box [.str name]]):=by
 refine iW 1 func231 ntmps231 results231 fun c hc hb=>zK ?_
 simp[go_sem]
 exact zp7 1 rfl rfl (A4 _) (zC rfl) ⟨rfl,rfl⟩
theorem xY4 (l:List GTable) (name:List UInt8) (hl:l.length<=maxLen):VCalls prog 104 [.sl .ro (l.map GTable.row),.fn 105 [.ptr 0 0]] [.box [.str name]] (fun r s=>r= .int .i64 (zf5 (fun t:GTable=>t.name==name) l 0)/\s= [.box [.str name]]):=by
 generalize hM:zf5 (fun t:GTable=>t.name==name) l 0=M
 have ret: ∀(r:Int) (σ:St),r=M->wret (some (.int .i64 r)) 1 (fun r s=>r= .int .i64 M/\s= [.box [.str name]]) (.box [.str name]::σ):=fun r σ h=>by subst h;exact zp7 1 rfl rfl (A4 _) (zC rfl) ⟨rfl,rfl⟩
 refine iV 1 func104 ntmps104 results104 fun c hc hb=> ?_
 refine zA ?_
 simp[go_sem]
 refine zH (S:=Nat) [0,1,7,8] (fun i=> [.sl .ro (l.map GTable.row),.fn 105 [.ptr 0 0],.int .i64 l.length,.int .i64 i]) (fun _=> [.box [.str name]]) (fun i=>l.length - i) (fun i=>i<=l.length/\zf5 (fun t:GTable=>t.name==name) (l.drop i) i=M) hc hb 0 ⟨A3 _,hM⟩ ?_ ?_
 .exact aN 1 rfl
 rintro i ⟨hi,hinv⟩
 by_cases q:i<l.length
 rotate_left
 .rw[C3 om,zf5]at hinv
  refine zA ?_
  simp[go_sem,q]
  exact ret _ _ hinv
 have ei:=zS q (by unfold maxLen at hl;omega)
 obtain⟨x,hx⟩:=eX (l[i])
 rw[A5 q,hx,zf5]at hinv
 obtain⟨b,ab⟩:=eX ((x.name==name))
 have aa:=we8 x name
 rw[ab]at aa hinv
 refine zA ?_
 simp[go_sem,q,hx]
 refine zm2 0 aa cB rfl rfl ⟨zC rfl,.inl rfl,tV⟩ (by rintro r s ⟨rfl,rfl⟩;exact⟨_,rfl,rfl⟩) ?_
 rintro r o ⟨rfl,ho⟩
 cases ho
 simp[go_sem]
 refine zR (fun w=> ?_) (fun w=> ?_)
 .rw[if_pos w]at hinv
  simp[go_sem]
  exact ret _ _ hinv
 .rw[if_neg (by rw[w];decide)]at hinv
  simp[go_sem,ei]
  exact zG (i+1) ⟨om,⟨q,hinv⟩,aN 1 rfl⟩
theorem xY1 (l:List GCol) (name:List UInt8) (hl:l.length<=maxLen):VCalls prog 230 [.sl .ro (l.map GCol.row),.fn 231 [.ptr 0 0]] [.box [.str name]] (fun r s=>r= .int .i64 (zf5 (fun t:GCol=>t.name==name) l 0)/\s= [.box [.str name]]):=by
 generalize hM:zf5 (fun t:GCol=>t.name==name) l 0=M
 have ret: ∀(r:Int) (σ:St),r=M->wret (some (.int .i64 r)) 1 (fun r s=>r= .int .i64 M/\s= [.box [.str name]]) (.box [.str name]::σ):=fun r σ h=>by subst h;exact zp7 1 rfl rfl (A4 _) (zC rfl) ⟨rfl,rfl⟩
 refine iV 1 func230 ntmps230 results230 fun c hc hb=> ?_
 refine zA ?_
 simp[go_sem]
 refine zH (S:=Nat) [0,1,7,8] (fun i=> [.sl .ro (l.map GCol.row),.fn 231 [.ptr 0 0],.int .i64 l.length,.int .i64 i]) (fun _=> [.box [.str name]]) (fun i=>l.length - i) (fun i=>i<=l.length/\zf5 (fun t:GCol=>t.name==name) (l.drop i) i=M) hc hb 0 ⟨A3 _,hM⟩ ?_ ?_
 .exact aN 1 rfl
 rintro i ⟨hi,hinv⟩
 by_cases q:i<l.length
 rotate_left
 .rw[C3 om,zf5]at hinv
  refine zA ?_
  simp[go_sem,q]
  exact ret _ _ hinv
 have ei:=zS q (by unfold maxLen at hl;omega)
 obtain⟨x,hx⟩:=eX (l[i])
 rw[A5 q,hx,zf5]at hinv
 obtain⟨b,ab⟩:=eX ((x.name==name))
 have aa:=we5 x name
 rw[ab]at aa hinv
 refine zA ?_
 simp[go_sem,q,hx]
 refine zm2 0 aa cB rfl rfl ⟨zC rfl,.inl rfl,tV⟩ (by rintro r s ⟨rfl,rfl⟩;exact⟨_,rfl,rfl⟩) ?_
 rintro r o ⟨rfl,ho⟩
 cases ho
 simp[go_sem]
 refine zR (fun w=> ?_) (fun w=> ?_)
 .rw[if_pos w]at hinv
  simp[go_sem]
  exact ret _ _ hinv
 .rw[if_neg (by rw[w];decide)]at hinv
  simp[go_sem,ei]
  exact zG (i+1) ⟨om,⟨q,hinv⟩,aN 1 rfl⟩
theorem xr8 (ts:List GTable) (name:List UInt8) (hl:ts.length<=maxLen):Pure prog 58 [schR ts,.str name] (.int .i64 (zf5 (fun t:GTable=>t.name==name) ts 0)):=by
 have hx:=xY4 ts name hl
 refine iW 0 func58 ntmps58 results58 fun c hc hb=>zK ?_
 simp[go_sem,schR]
 refine zm2 1 hx cB rfl rfl ⟨zC rfl,.inl rfl,tV⟩ (by rintro r s ⟨rfl,rfl⟩;exact⟨_,rfl,rfl⟩) ?_
 rintro r o ⟨rfl,ho⟩
 cases ho
 simp[go_sem]
 exact wR
theorem yq5 (t:GTable) (name:List UInt8) (hl:t.cols.length<=maxLen):Pure prog 156 [.agg t.row,.str name] (.int .i64 (zf5 (fun t:GCol=>t.name==name) t.cols 0)):=by
 have hx:=xY1 t.cols name hl
 refine iW 0 func156 ntmps156 results156 fun c hc hb=>zK ?_
 simp[go_sem]
 refine zm2 1 hx cB rfl rfl ⟨zC rfl,.inl rfl,tV⟩ (by rintro r s ⟨rfl,rfl⟩;exact⟨_,rfl,rfl⟩) ?_
 rintro r o ⟨rfl,ho⟩
 cases ho
 simp[go_sem]
 exact wR
def colF (T:GTable) (name:List UInt8):Int:=zf5 (fun c:GCol=>c.name==name) T.cols 0
def colK (T:GTable) (c:Int):Int:=((T.cols[c.toNat]?).map (·.kind)).getD 0
def zs3 (v:GValue):Bool:=v.kind==0&&(v.n==0&&v.s.isEmpty)
theorem yx1 (v:GValue):(!(v.kind==0)||(!(v.n==0)|| !v.s.isEmpty))= !zs3 v:=by unfold zs3;cases v.kind==0<;>cases v.n==0<;>cases v.s.isEmpty<;>rfl
mutual
def zk5 (T:GTable):GExpr->Int×Int
 | .mk k s v args=>
  if k=1 then(if s.isEmpty=false∨args.isEmpty=false∨mayF v=false then(0,9)else(v.kind,0))
  else if k=2 then(if colF T s<0 then(0,14)else if args.isEmpty=false∨zs3 v=false then(0,9)else(colK T (colF T s),0))
  else if k=3 then(if(wS T args).2≠0 then(0,(wS T args).2)else if zs3 v=false then(0,9)else zw5 s (wS T args).1)
  else(0,9)
def wS (T:GTable):List GExpr->List Int×Int
 | []=>([],0)
 |e::l=>if(zk5 T e).2≠0 then([],(zk5 T e).2)else((zk5 T e).1::(wS T l).1,(wS T l).2)
end
theorem yj4 (T:GTable) (e:GExpr):zk5 T e=
  if e.kind=1 then(if e.s.isEmpty=false∨e.args.isEmpty=false∨mayF e.v=false then(0,9)else(e.v.kind,0))
  else if e.kind=2 then(if colF T e.s<0 then(0,14)else if e.args.isEmpty=false∨zs3 e.v=false then(0,9)else(colK T (colF T e.s),0))
  else if e.kind=3 then(if(wS T e.args).2≠0 then(0,(wS T e.args).2)else if zs3 e.v=false then(0,9)else zw5 e.s (wS T e.args).1)
  else(0,9):=by cases e;rw[zk5];rfl
theorem zv7 {M:Int×Int} {a e:Int} {σ:St} (h:(a,e)=M):wret (some (.tup [.int .i64 a,.int .i64 e])) 0 (fun r s=>r=wK M/\s= []) σ:=by
 subst h
 exact wR
theorem zQ4 (T:GTable) (s:List UInt8) (h: ¬colF T s<0): ∃j:Nat,colF T s=j/\j<T.cols.length:=by
 have:=zr2 (fun c:GCol=>c.name==s) T.cols 0
 unfold colF at h⊢
 refine⟨(zf5 (fun c:GCol=>c.name==s) T.cols 0).toNat,om,om⟩
theorem xs7 (l:List GExpr):decide ((0:Int)<l.length)= !l.isEmpty:=by
 cases l with
 |nil=>rfl
 |cons _ _=>exact decide_eq_true (by simp only[Aa];omega)
theorem xj7 (l:List GExpr):decide (0<l.length)= !l.isEmpty:=by
 cases l with
 |nil=>rfl
 |cons _ _=>exact decide_eq_true (by simp only[Aa];omega)
theorem xi0 (T:GTable) (hT:T.cols.length<=maxLen): ∀(n:Nat) (e:GExpr),za0 e<=n->Wide e->Good e->Pure prog 253 [.agg T.row,.agg e.row] (wK (zk5 T e))
 |0,e,h,_,_=>by have:=zK8 e;omega
 |n+1,e,h,hw,hg=>by
  have ih:=xi0 T hT n
  have ay:=zk2 e
  have hlen:=hw.len
  have ak:=hw.sub
  have au:=hg.sub
  have al:=yq6 e.v
  have an:=yq5 T e.s hT
  obtain⟨M,hM⟩:=eX (zk5 T e)
  rw[hM]
  rw[yj4]at hM
  rw[show zf5 (fun c:GCol=>c.name==e.s) T.cols 0=colF T e.s from rfl]at an
  have hz:=yx1 e.v
  have av:=xs7 e.args
  have ah:=xj7 e.args
  have ret: ∀(a b:Int) (σ:St),(a,b)=M->wret (some (.tup [.int .i64 a,.int .i64 b])) 0 (fun r s=>r=wK M/\s= []) σ:=fun a b σ h=>zv7 h
  refine iV 0 func253 ntmps253 results253 fun c hc hb=> ?_
  refine zA ?_
  simp[go_sem]
  by_cases q1:e.kind=1
  .have af:(e.kind==1)=true:=sU q1
   rw[if_pos q1]at hM
   generalize mayF e.v=b at al hM
   generalize e.args.isEmpty=ae at av ah hM
   simp[go_sem,af]
   repeat' (first
    |(refine xB (fun q=> ?_) (fun q=> ?_)<;>simp[go_sem,q,ah])
    |(refine zR (fun q=> ?_) (fun q=> ?_)<;>simp[go_sem,q])
    |(refine zM al cB (zN sg rfl) rfl ?_;simp[go_sem]))
   all_goals exact ret _ _ _ (by rw[<-hM];simp_all)
  rw[if_neg q1]at hM
  have af:(e.kind==1)=false:=sU q1
  by_cases q2:e.kind=2
  .have ai:(e.kind==2)=true:=sU q2
   rw[if_pos q2]at hM
   simp[go_sem,af,ai]
   refine zM an cB (zN sg rfl) rfl ?_
   by_cases qc:colF T e.s<0
   .have aj:decide (colF T e.s<0)=true:=decide_eq_true qc
    rw[if_pos qc]at hM
    simp[go_sem,aj]
    exact ret _ _ _ hM
   have aj:decide (colF T e.s<0)=false:=decide_eq_false qc
   rw[if_neg qc]at hM
   obtain⟨j,hj,aw⟩:=zQ4 T e.s qc
   obtain⟨C,hC⟩:=eX (T.cols[j])
   have az:colK T (colF T e.s)=C.kind:=by
    unfold colK
    rw[hj,As,A0 aw,hC];rfl
   rw[az]at hM
   rw[hj]at aj⊢
   generalize zs3 e.v=z at hz hM
   generalize e.args.isEmpty=ae at av ah hM
   simp[go_sem,aj,ah]
   repeat' (first
    |(refine xB (fun q=> ?_) (fun q=> ?_)<;>simp[go_sem,q,hz])
    |(refine zR (fun q=> ?_) (fun q=> ?_)<;>simp[go_sem,q,aw,hC]))
   all_goals exact ret _ _ _ (by rw[<-hM];simp_all)
  rw[if_neg q2]at hM
  have ai:(e.kind==2)=false:=sU q2
  by_cases q3:e.kind=3
  rotate_left
  .rw[if_neg q3]at hM
   have ao:(e.kind==3)=false:=sU q3
   simp[go_sem,af,ai,ao]
   exact ret _ _ _ hM
  have ao:(e.kind==3)=true:=sU q3
  rw[if_pos q3]at hM
  obtain⟨args,ab⟩:=eX e.args
  rw[ab]at ay hlen ak au hM
  obtain⟨K,hK⟩:=eX (wS T args)
  rw[hK]at hM
  simp[go_sem,af,ai,ao,ab]
  refine zo5 7 1 dc sg ?_
  refine zH (S:=Nat×List Int) [2,3,7,61,62,63] (fun u=> [.ptr 0 0,.ptr 1 0,.sl (.app 2) (u.2.map fun n=> [V.int .i64 n]),.sl .ro (args.map GExpr.row),.int .i64 args.length,.int .i64 (u.1:Int)]) (fun u=> [.box T.row,.box e.row,.app u.2.length 1]) (fun u=>args.length - u.1)
   (fun u=>u.1<=args.length/\u.2.length=u.1/\(wS T (args.drop u.1)).2=K.2/\(K.2=0->u.2++(wS T (args.drop u.1)).1=K.1)) hc hb (0,[])
   ⟨A3 _,rfl,by simp only[B1];rw[hK],fun _=>by simp only[B1];rw[hK];rfl⟩ ?_ ?_
  .exact at_n 3 (by simp[go_sem,ab]) rfl (by simp[ltOb,ltC,ltK,GExpr.row_eq,GTable.row]) (A3 _) (zF sg rfl)
  rintro⟨i,l⟩ ⟨hi,hl,hinv,aa⟩
  simp only at hi hl hinv aa
  by_cases q:i<args.length
  rotate_left
  .rw[A9 om,wS]at hinv aa
   have ag:K.2=0:=hinv.symm
   have a1:l=K.1:=by have:=aa ag;simpa using this
   rw[if_neg (fun h=>h ag),<-a1]at hM
   have ax:=yW0 e.s l (by unfold maxLen;omega)
   generalize zw5 e.s l=o at ax hM
   generalize zs3 e.v=z at hz hM
   refine zA ?_
   simp[go_sem,q,hz]
   refine(A7 z).elim (fun w=> ?_) (fun w=> ?_)
   .rw[if_neg (by rw[w];decide)]at hM
    subst w
    simp[go_sem]
    refine pC ax ?_
    simp[go_sem,wK]
    exact ret _ _ _ hM
   .rw[if_pos w]at hM
    subst w
    simp[go_sem]
    exact ret _ _ _ hM
  have ei:=zS q om
  obtain⟨x,hx⟩:=eX (args[i])
  have aq:x∈args:=hx▸Ab q
  have a6:=zl8 args x aq
  rw[A5 q,hx,wS]at hinv aa
  have ad:=ih x om (ak x aq) (au x aq)
  generalize zk5 T x=kx at ad hinv aa
  by_cases q4:kx.2=0
  .rw[if_neg (fun h=>h q4)]at hinv aa
   have ar:(kx.2 !=0)=false:=sU q4
   refine zA ?_
   simp[go_sem,q,hx]
   refine zM ad cB (zN sg (by rw[GExpr.row_eq];rfl)) rfl ?_
   simp[go_sem,wK,ar]
   refine zI ⟨om,zX rfl⟩ ?_
   simp[go_sem,ei]
   refine zG (i+1,l++ [kx.1]) ⟨by simp only;omega,⟨by simp only;omega,by simp;omega,hinv,fun h=>by have:=aa h;simpa using this⟩, ?_⟩
   exact aN 3 (by simp[ltOb,ltC,ltK,GExpr.row_eq])
  .rw[if_pos q4]at hinv
   have ar:(kx.2 !=0)=true:=sU q4
   have ag:kx.2=K.2:=hinv
   rw[if_pos (by rw[<-ag];exact q4),<-ag]at hM
   refine zA ?_
   simp[go_sem,q,hx]
   refine zM ad cB (zN sg (by rw[GExpr.row_eq];rfl)) rfl ?_
   simp[go_sem,wK,ar]
   exact ret _ _ _ hM
def zb3 (T:GTable) (e:GExpr):Int×Int:=if za0 e<=64 then zk5 T e else(0,3)
theorem yr4: ∀(n:Nat) (e:GExpr),zr7 e<=n->za0 e<=n
 |0,e,h=>by grind[xq1]
 |n+1,e,h=>by
  rw[zJ3]at h
  rw[zk2]
  have: ∀l:List GExpr,zo0 l<=n->wI l<=n:=by
   intro l
   induction l with
   |nil=>intro _;simpa
   |cons x l ih=>
    intro hl
    rw[zo0]at hl
    rw[wI]
    have h1:=yr4 n x om
    omega
  grind
theorem yx3 (T:GTable) (hT:T.cols.length<=maxLen) (e:GExpr) (he:EOk e):Pure prog 176 [.agg T.row,.agg e.row] (wK (zb3 T e)):=by
 have hs:=he.size
 have hd:=yr4 4000 e hs
 have ab:=xh6 4000 e 1 0 hd he.wide om om om om
 have aa:=xi0 T hT 4000 e hd he.wide he.good
 generalize hM:zb3 T e=M
 unfold zb3 at hM
 generalize zk5 T e=k at aa hM
 have ret: ∀(x:Int×Int) (σ:St),x=M->wret (some (.tup [.int .i64 x.1,.int .i64 x.2])) 0 (fun r s=>r=wK M/\s= []) σ:=fun x σ h=>zv7 h
 refine iW 0 func176 ntmps176 results176 fun c hc hb=>zK ?_
 simp[go_sem]
 refine zm2 2 ab cB rfl (by rfl) ⟨.inl (by simp[go_sem,renS,renA,renC,renK]),zC rfl,.inl rfl,tV⟩ (fun r σ h=>by
  obtain⟨_,m2,rfl,_⟩:=h
  exact⟨_,rfl,rfl⟩) ?_
 rintro r o2 ⟨rfl,m2,h1,h2,h3⟩
 obtain rfl:o2= .box [.int .i64 m2]:=by grind
 by_cases q:za0 e<=64
 .rw[if_pos q]at hM
  rw[decide_eq_true om]
  simp[go_sem]
  refine zM aa cB (zN sg (by rw[GExpr.row_eq];rfl)) rfl ?_
  simp[go_sem,wK]
  exact ret _ _ hM
 .rw[if_neg q]at hM
  rw[decide_eq_false om]
  simp[go_sem]
  exact ret (0,3) _ hM
end Go.Proofs.YtefbicjgbaaieaaGreat
