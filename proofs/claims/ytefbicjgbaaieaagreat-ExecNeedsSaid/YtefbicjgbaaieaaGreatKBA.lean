/-
  The law ExecNeeds; used by the theorem at the end of the claim.
  Conditions: as the theorem states them.
-/
import Derived.Test.YtefbicjgbaaieaaGreatKAZ
import Derived.Test.YtefbicjgbaaieaaGreatKAT
set_option maxHeartbeats 8000000
namespace Go.Proofs.YtefbicjgbaaieaaGreat
open Go Go.Vx R Go.Proofs.Tryz
set_option maxRecDepth 100000
variable {lot:GLot}{P:List (List Pr)}{st:GStmt}{n:Nat}
def spB (y:List GSpan) (k:List UInt8):Bool:=y.any fun s=> !Op.bytesLess k s.lo&&Op.bytesLess k s.hi
def covB (U:US) (p:Pl):Bool:=U.any fun y=>decide (y.1=p.1)&&spB y.2 p.2
theorem xM5 {U:US} {r:Int} {x:GSpan} (h:Has U r x) {k:List UInt8} (h1:Op.bytesLess k x.lo=false) (h2:Op.bytesLess k x.hi=true):covB U (r,k)=true:=by
 obtain⟨y,hy,e,hx⟩:=h
 exact Cn.2 ⟨y,hy,by simp only[e,decide_true,B5];exact Cn.2 ⟨x,hx,by rw[h1,h2];rfl⟩⟩
theorem yJ5 {T:GTable} {row:List GValue}: ∀(r:List GExpr) (acc:List GValue),(evsX T row r acc).2=0->(evsX T row r acc).1=acc++r.map (fun e=>(evR T row e).1)/\ ∀e∈r,(evR T row e).2=0
 | [],acc,_=>⟨by simp[evsX],fun e he=>(by cases he)⟩
 |e::r,acc,h=>by
  rw[evsX]at h⊢
  by_cases q:(evR T row e).2≠0
  .rw[if_pos q]at h;exact absurd h q
  rw[if_neg q]at h⊢
  obtain⟨h1,h2⟩:=yJ5 r _ h
  refine⟨by rw[h1];simp,fun x hx=> ?_⟩
  rcases Ae.1 hx with rfl|hx
  .simpa using q
  .exact h2 x hx
theorem xm6 (h0:0<=yG st.table) {r:List GExpr} {p:Pl} (h:xe1 (yG st.table).toNat (tabsS.getD (yG st.table).toNat noT) r p):(p.1,⟨p.2,p.2++ [0]⟩)∈rowP (yG st.table) r:=by
 have ai:=zr5 st.table
 obtain⟨tn,aj⟩: ∃tn:Nat,yG st.table=tn:=⟨(yG st.table).toNat,om⟩
 rw[aj]at h ai⊢
 have h3:tn<3:=om
 rw[Ay]at h
 obtain⟨T,hT⟩: ∃T,tabsS[tn]? =some T:=⟨_,A0 (show tn<tabsS.length from h3)⟩
 rw[show tabsS.getD tn noT=T by rw[A7,hT];rfl]at h
 obtain⟨h1,h2⟩:=h
 obtain⟨e1,e2⟩:=yJ5 r [] h1
 rw[Cs]at e1
 rw[e1]at h2
 have ad: ∀i,i<r.length->(evN (r.getD i zeroE)).2=0/\(r.map fun e=>(evR noT [] e).1).getD i zeroV=(evN (r.getD i zeroE)).1:=fun i hi=>by
  have hg:r.getD i zeroE=r[i]:=by rw[A7,A0 hi];rfl
  rw[hg]
  refine⟨by rw[<-yJ4];exact e2 _ (Aa hi), ?_⟩
  rw[A7,B2,A0 hi]
  exact congrArg Prod.fst (yJ4 r[i])
 obtain⟨row,ab⟩: ∃row,(r.map fun e=>(evR noT [] e).1)=row:=⟨_,rfl⟩
 have ak:row.length=r.length:=by rw[<-ab,B1]
 rw[ab]at h2 ad
 unfold keyS at h2
 by_cases q1:mayT T.cols row≠0
 .rw[if_pos q1]at h2;exact absurd (congrArg (·.2.2) h2) q1
 rw[if_neg q1]at h2
 have ae:mayT T.cols row=0:=by simpa using q1
 have hlen:=zk1 ae
 have af:=zI5 _ _ hlen (yt5 ae)
 by_cases q2:tn=0/\ ¬((row.getD 0 zeroV).n=0∨(row.getD 0 zeroV).n=1)
 .rw[if_pos q2]at h2;exact absurd (show(19:Int)=0 from congrArg (·.2.2) h2) dC
 rw[if_neg q2]at h2
 have k1:p.1=(yV tn (zS1 tn row)).1:=(congrArg (·.1) h2).symm
 have k2:p.2=zj0 3 tn (row.getD T.key.toNat zeroV):=(congrArg (·.2.1) h2).symm
 have aq:T.key.toNat<T.cols.length:=(by decide: ∀T∈tabsS,T.key.toNat<T.cols.length) T (As hT)
 have aa: ∀i (C:GCol),T.cols[i]? =some C->C.null=false->(row.getD i zeroV).kind=C.kind:=fun i C hC hn=>by
  obtain⟨hi,ag⟩:=A3.1 hC
  have:=(af i hi om).2 (by rw[ag];exact hn)
  rw[A7,A0 (by omega:i<row.length),Option.getD_some,this,ag]
 obtain⟨a1,a2⟩:=ad T.key.toNat om
 have al:(evN (r.getD T.key.toNat zeroE)).1.kind≠0:=by
  rw[<-a2]
  match tn,h3 with
  |0,_=>cases hT;exact fun h=>absurd ((aa 1 _ rfl rfl).symm.trans h) dC
  |1,_=>cases hT;exact fun h=>absurd ((aa 0 _ rfl rfl).symm.trans h) dC
  |2,_=>cases hT;exact fun h=>absurd ((aa 0 _ rfl rfl).symm.trans h) dC
 have ah: ∃g,regN T r=some g/\yV tn g=((yV tn (zS1 tn row)).1,0):=by
  match tn,h3 with
  |0,_=>
   cases hT
   have an:0<r.length:=by rw[<-ak,hlen];decide
   obtain⟨b1,b2⟩:=ad 0 an
   have ao:=aa 0 _ rfl rfl
   have hn:(row.getD 0 zeroV).n=0∨(row.getD 0 zeroV).n=1:=Eg fun h=>q2 ⟨rfl,h⟩
   refine⟨(row.getD 0 zeroV).n, ?_, ?_⟩
   .unfold regN
    rw[if_pos (show tabT.place=0 from rfl),if_neg (fun h=>h.elim (fun h=>h b1) (fun h=>h (by rw[<-b2];exact ao))),<-b2]
    congr 1
    unfold regC
    rcases hn with h|h<;>rw[h]<;>rfl
   .unfold zS1
    rcases hn with h|h<;>simp only[h,if_true]<;>rfl
  |1,_=>cases hT;exact⟨0,rfl,rfl⟩
  |2,_=>cases hT;exact⟨0,rfl,rfl⟩
 obtain⟨g,g1,g2⟩:=ah
 unfold rowP
 rw[Ay,hT]
 simp only
 rw[if_neg om,if_neg (fun h=>h.elim (fun h=>h a1) al),g1]
 simp only
 rw[g2,if_neg (fun h=>h rfl),<-a2,k1,k2]
 exact Bl.2 rfl
theorem xC6 (hl:LOk lot) (h0:(zn5 lot).2=0): ∀st∈lot.stmts,Cv (covB (za6 lot)) st:=by
 obtain⟨_,hA,_⟩:=zU6 (lot.stmts.flatMap stP) xj6
 have hU:za6 lot=zi9 (lot.stmts.flatMap stP) []:=zI7 lot.stmts []
 rw[<-hU]at hA
 intro st aa
 have hok:=zI9 hl h0 st aa
 have ab:=hok.tab
 have hP: ∀r x k,(r,x)∈stP st->Op.bytesLess k x.lo=false->Op.bytesLess k x.hi=true->covB (za6 lot) (r,k)=true:=fun r x k hp h1 h2=>by
  rcases hA (r,x) (Dr.2 ⟨st,aa,hp⟩)with h|h
  .unfold ye9 at h
   simp only[Bv,beq_iff_eq]at h
   rcases h with h|h
   .rw[zq0 _ _ _ h2 h]at h1;cases h1
   .rw[h,h1]at h2;cases h2
  .exact xM5 h h1 h2
 refine⟨fun k2 x hx=> ?_,fun k2 r hr p hp=> ?_⟩
 .unfold zi8 at hx
  simp only[A6,Cn,beq_iff_eq,D8]at hx
  obtain⟨⟨g,hg,e⟩,h1,h2⟩:=hx
  rw[Int.toNat_of_nonneg ab]at hg e h1 h2
  show covB _ (x.r,x.k)=true
  rw[<-e]
  refine hP _ ⟨_,_⟩ _ ?_ h1 h2
  unfold stP
  rw[if_neg om,if_neg k2]
  exact Ac.2 ⟨g,hg,rfl⟩
 .refine hP p.1 ⟨p.2,p.2++ [0]⟩ p.2 ?_ (zd8 _) (xb8 _)
  unfold stP
  rw[if_neg om,if_pos k2]
  exact Dr.2 ⟨r,hr,xm6 ab hp⟩
theorem yt2 {vs:List Vw} (hd:((yA vs).map (·.1)).Nodup):Rise ((xN vs).map Ln.at)/\LsK (xN vs)/\(∀x∈xN vs,(x.at,yO x.v)∈yA vs)/\ ∀q∈yA vs,zq7 q.1.1 q.1.2 q.2=true-> ∃x∈xN vs,x.at=q.1/\yO x.v=q.2:=by
 obtain⟨m,hT⟩:=zI4 vs
 have hs:((yA vs).foldl zv3 ([],[])).1=yA vs:=by rw[yj5 (by simpa using hd)];rfl
 refine⟨hT.now.rise,fun x hx=>⟨hT.now.rows x hx,(hT.lines x hx).1⟩,fun x hx=>by rw[<-hs];exact(hT.lines x hx).2,fun q hq=>hT.rows q (by rw[hs];exact hq)⟩
theorem xf1 {x y:Ln} (hx:LnOk x) (hy:LnOk y) (h1:x.at=y.at) (h2:yO x.v=yO y.v):x=y:=by
 have e1:=hx.read
 have e2:=hy.read
 obtain⟨xr,xk,xv⟩:=x
 obtain⟨yr,yk,yv⟩:=y
 cases h1
 simp only at e1 e2 h2
 rw[h2,e2]at e1
 cases e1;rfl
theorem xB5 {vs ws:List Vw} {c:Pl->Bool} (hv:((yA vs).map (·.1)).Nodup) (hw:((yA ws).map (·.1)).Nodup) (h: ∀q,q∈yA ws↔q∈yA vs/\c q.1=true):xN ws=(xN vs).filter fun x=>c x.at:=by
 obtain⟨a1,a2,a3,a4⟩:=yt2 hw
 obtain⟨b1,b2,b3,b4⟩:=yt2 hv
 have nd: ∀{l:List Ln},Rise (l.map Ln.at)->l.Nodup:=fun h=>(C2.1 h.nodup).imp fun aa e=>aa (congrArg _ e)
 refine yu9 a1 (zB5 b1 _) ((List.perm_ext_iff_of_nodup (nd a1) (nd (zB5 b1 _))).2 fun x=> ?_)
 rw[Aw]
 constructor
 .intro hx
  obtain⟨h1,h2⟩:=(h _).1 (a3 x hx)
  obtain⟨y,hy,e1,e2⟩:=b4 _ h1 (a2 x hx).2
  rw[<-xf1 (b2 y hy).1 (a2 x hx).1 e1 e2]
  exact⟨hy,by rw[e1];exact h2⟩
 .rintro⟨hx,hc⟩
  obtain⟨y,hy,e1,e2⟩:=a4 _ ((h _).2 ⟨b3 x hx,hc⟩) (b2 x hx).2
  rw[<-xf1 (a2 y hy).1 (b2 x hx).1 e1 e2]
  exact hy
def zs8 (P:List (List Pr)) (y:Int×List GSpan):Vw:=(y.1.toNat,(P.getD y.1.toNat []).filter fun x=>spB y.2 x.1)
theorem yO3: ∀{vs:List Vw},vs.Pairwise (fun a b=>a.1<b.1)->(∀x∈vs,zw9 x.2)->Rise ((yA vs).map (·.1))
 | [],_,_=>List.Pairwise.nil
 |x::vs,h,hr=>by
  rw[Bw]at h
  rw[zr0,Ca]
  refine Cd.2 ⟨?_,yO3 h.2 fun y hy=>hr y (An _ hy),fun a ha b hb=> ?_⟩
  .unfold onF
   rw[Bk]
   refine C2.2 ((hr x (Au ..)).imp fun{a b} aa=> ?_)
   simp[xB,aa]
  .obtain⟨u,hu,rfl⟩:=Ac.1 ha
   obtain⟨w,hw,rfl⟩:=Ac.1 hb
   obtain⟨u2,_,rfl⟩:=Ac.1 hu
   obtain⟨y,hy,ab⟩:=Dr.1 hw
   obtain⟨w2,_,rfl⟩:=Ac.1 ab
   have:=h.1 y hy
   simp only[xB,Bv,decide_eq_true_eq]
   exact .inl om
theorem xC3 {r:Int} {x:GSpan} {U:US}: ∀y∈zq9 r x U,y.1=r∨ ∃z∈U,y.1=z.1:=fun y hy=>by
 unfold zq9 at hy
 split at hy
 .exact .inr ⟨y,hy,rfl⟩
 unfold addF at hy
 split at hy
 .obtain⟨i,hi⟩:=Aq.1 hy
  rw[List.getElem?_modify]at hi
  cases e:U[i]? with
  |none=>rw[e]at hi;cases hi
  |some z=>
   rw[e]at hi
   refine .inr ⟨z,As e, ?_⟩
   simp only[Option.map_eq_map,B8,Option.some.injEq]at hi
   rw[<-hi]
   split<;>rfl
 .rcases Av.1 hy with hy|hy
  .exact .inr ⟨y,Bs hy,rfl⟩
  .rcases Ae.1 hy with rfl|hy
   .exact .inl rfl
   .exact .inr ⟨y,C6 hy,rfl⟩
theorem xb2: ∀{ps:List (Int×GSpan)} {U:US},∀y∈zi9 ps U,(∃p∈ps,y.1=p.1)∨ ∃z∈U,y.1=z.1
 | [],U,y,hy=> .inr ⟨y,hy,rfl⟩
 |p::ps,U,y,hy=>by
  rcases xb2 (ps:=ps) (U:=zq9 p.1 p.2 U) y hy with ⟨q,hq,e⟩|⟨z,hz,e⟩
  .exact .inl ⟨q,An _ hq,e⟩
  .rcases xC3 z hz with h|⟨w,hw,h⟩
   .exact .inl ⟨p,Au ..,by rw[e,h]⟩
   .exact .inr ⟨w,hw,by rw[e,h]⟩
theorem yO8 (t g:Int):0<=(yV t g).1/\(yV t g).1<4:=by
 unfold yV
 repeat' split
 all_goals decide
theorem xT0: ∀p∈stP st,0<=p.1/\p.1<4:=fun p hp=>by
 unfold stP at hp
 split at hp
 .cases hp
 split at hp
 .obtain⟨r,_,hp⟩:=Dr.1 hp
  unfold rowP at hp
  split at hp
  .cases hp
  split at hp
  .cases hp
  split at hp
  .cases hp
  split at hp
  .cases hp
  split at hp
  .cases hp
  .rw[Bl.1 hp];exact yO8 _ _
 .obtain⟨g,_,rfl⟩:=Ac.1 hp
  exact yO8 _ _
theorem zm5 (lot:GLot): ∀y∈za6 lot,0<=y.1/\y.1<4:=fun y hy=>by
 have hU:za6 lot=zi9 (lot.stmts.flatMap stP) []:=zI7 lot.stmts []
 rw[hU]at hy
 rcases xb2 y hy with ⟨p,hp,e⟩|⟨z,hz,_⟩
 .obtain⟨st,_,hp⟩:=Dr.1 hp
  rw[e];exact xT0 p hp
 .cases hz
theorem xt8: ∀{ps:List (Int×GSpan)} {U:US} {n:Nat},Bd n U->Bd (n+ps.length) (zi9 ps U)
 | [],_,_,h=>h
 |p::ps,U,n,h=>by
  have:=xt8 (ps:=ps) (h.need p.1 p.2)
  rw[Ag,show n+(ps.length+1)=n+1+ps.length by omega]
  exact this
theorem yz7 {α β:Type} {f:α->List β} {n:Nat}: ∀{l:List α},(∀x∈l,(f x).length<=n)->(l.flatMap f).length<=n*l.length
 | [],_=>by simp
 |x::l,h=>by
  have h1:=h x (Au ..)
  have h2:=yz7 (l:=l) fun y hy=>h y (An _ hy)
  rw[C1,Ak,Ag,Nat.mul_add]
  omega
theorem xT1 (hs:SOk st):(stP st).length<=20:=by
 unfold stP
 split
 .simp
 split
 .refine Ax (yz7 (n:=1) fun r _=> ?_) (by have:=hs.rows.1;omega)
  unfold rowP
  repeat' split
  all_goals simp
 .rw[B1]
  unfold xS
  repeat' split
  .exact Ax (ye6 _ _) dC
  all_goals simp
theorem xp4 (hl:LOk lot): ∀y∈za6 lot,y.2.length<=1000:=fun y hy=>by
 have hU:za6 lot=zi9 (lot.stmts.flatMap stP) []:=zI7 lot.stmts []
 have h1:=yz7 (n:=20) (l:=lot.stmts) (f:=stP) fun st aa=>xT1 (hl.stmts.2 st aa)
 have h2:=(xt8 (ps:=lot.stmts.flatMap stP) (U:= []) (n:=0) ⟨A4 _,fun y hy=>by cases hy⟩).2 y (by rw[<-hU];exact hy)
 have:=hl.stmts.1
 omega
theorem zZ6 (h8:P.length=8) (q:Pl×List UInt8):q∈yA ((za6 lot).map (zs8 P))↔q∈yA (vsG 0 P)/\covB (za6 lot) q.1=true:=by
 obtain⟨⟨r,k⟩,d⟩:=q
 have e1:((r,k),d)∈yA ((za6 lot).map (zs8 P))↔ ∃y∈za6 lot,y.1=r/\(k,d)∈P.getD y.1.toNat []/\spB y.2 k=true:=by
  unfold yA onF zs8
  simp only[Dr,Ac]
  constructor
  .rintro⟨x,⟨y,hy,rfl⟩,z,hz,e⟩
   obtain⟨ab,aa⟩:=Aw.1 hz
   obtain⟨zk,zd⟩:=z
   have hr:=zm5 lot y hy
   simp only[Prod.mk.injEq]at e aa
   obtain⟨⟨e1,e2⟩,e3⟩:=e
   subst e2 e3
   exact⟨y,hy,om,ab,aa⟩
  .rintro⟨y,hy,e,h1,h2⟩
   have hr:=zm5 lot y hy
   refine⟨_,⟨y,hy,rfl⟩,(k,d),Aw.2 ⟨h1,h2⟩, ?_⟩
   rw[<-e]
   exact Et (Et (Int.toNat_of_nonneg hr.1) rfl) rfl
 rw[e1]
 constructor
 .rintro⟨y,hy,rfl,h1,h2⟩
  have hr:=zm5 lot y hy
  refine⟨ys1 ⟨hr.1,P[y.1.toNat]'om,A0 om, ?_⟩,Cn.2 ⟨y,hy,by simp[h2]⟩⟩
  rw[A7,A0 om]at h1
  exact h1
 .rintro⟨h1,h2⟩
  obtain⟨y,hy,h3⟩:=Cn.1 h2
  simp only[A6,decide_eq_true_eq]at h3
  obtain⟨_,l,hl,hm⟩:=yu2 h1
  refine⟨y,hy,h3.1, ?_,h3.2⟩
  rw[A7,h3.1,hl]
  exact hm
theorem yN3 (h:StI n P) (lot:GLot):((yA ((za6 lot).map (zs8 P))).map (·.1)).Nodup:=(yO3 (by
  have:=(yt9 lot).asc
  rw[C2]at this⊢
  refine(List.Pairwise.and_mem.1 this).imp fun{a b} aa=> ?_
  have h1:=zm5 lot a aa.1
  have h2:=zm5 lot b aa.2.1
  have:=aa.2.2
  show a.1.toNat<b.1.toNat
  omega) (fun x hx=>by
  obtain⟨y,_,rfl⟩:=Ac.1 hx
  refine List.Pairwise.sublist C5 ?_
  rw[A7]
  cases e:P[y.1.toNat]? with
  |none=>exact List.Pairwise.nil
  |some l=>exact h.rise l (As e))).nodup
theorem yW4 (h:StI n P) (hl:LOk lot):
  (lotF lot (xN ((za6 lot).map (zs8 P)))).1=(lotF lot (xN (vsG 0 P))).1/\zr1 lot (xN ((za6 lot).map (zs8 P)))=zr1 lot (xN (vsG 0 P)):=by
 have hv:((yA (vsG 0 P)).map (·.1)).Nodup:=(zE5 h.rise).nodup
 have hw:=yN3 h lot
 rw[xB5 (c:=covB (za6 lot)) hv hw fun q=>zZ6 h.eight q]
 obtain⟨m,hT⟩:=zI4 (vsG 0 P)
 exact xP7 hl hT.now (fun x hx=>⟨hT.now.rows x hx,(hT.lines x hx).1⟩) fun h0=>xC6 hl h0
theorem xC7 (h:StI n P) (hn:n<=7500) (lot:GLot):((za6 lot).map (zs8 P)).length<=4/\(∀x∈(za6 lot).map (zs8 P),x.1<1000/\x.2.length<=7500/\ ∀q∈x.2,q.2.length<=maxB)/\(yA ((za6 lot).map (zs8 P))).length<=7500:=by
 obtain⟨v1,v2,v3,v4⟩:=h.vs hn
 have ab:=(yt9 lot).asc
 refine⟨?_,fun x hx=> ?_, ?_⟩
 .have ad:((za6 lot).map (·.1)).Nodup:=ab.imp fun aa=>Int.ne_of_lt aa
  have:=ad.length_le_of_subset (l₂:= [0,1,2,3]) fun g hg=>by
   obtain⟨y,hy,rfl⟩:=Ac.1 hg
   have:=zm5 lot y hy
   simp only[Ae,Be,or_false]
   omega
  rw[B1]at this⊢
  exact this
 .obtain⟨y,hy,rfl⟩:=Ac.1 hx
  have hr:=zm5 lot y hy
  have hl:y.1.toNat<P.length:=by rw[h.eight];omega
  have hm:(y.1.toNat,P[y.1.toNat])∈vsG 0 P:=As (i:=y.1.toNat) (by rw[yd2,A0 hl,Ad];rfl)
  obtain⟨a1,a2,a3⟩:=v2 _ hm
  have hg:P.getD y.1.toNat []=P[y.1.toNat]:=by rw[A7,A0 hl];rfl
  unfold zs8
  rw[hg]
  exact⟨a1,Ax (Bo _ _) a2,fun q hq=>a3 q (Aw.1 hq).1⟩
 .have hw:(yA ((za6 lot).map (zs8 P))).Nodup:=(C2.1 (yN3 h lot)).imp fun aa e=>aa (congrArg _ e)
  exact Ax (hw.length_le_of_subset fun q hq=>((zZ6 h.eight q).1 hq).1) v4
def digL:Nat->Nat->List UInt8->List UInt8
 |0,_,acc=>acc
 |f+1,u,acc=>if u=0 then acc else digL f (u/10) ((48+UInt8.ofNat (u%10))::acc)
def digF (n:Nat):List UInt8:=if n=0 then [48]else digL 20 n []
theorem xw3 (r:Nat) (h:r<10):((48:UInt8)::List.take r [49,50,51,52,53,54,55,56,57]).drop r= [(48+UInt8.ofNat r)]:=by
 have:r=0∨r=1∨r=2∨r=3∨r=4∨r=5∨r=6∨r=7∨r=8∨r=9:=om
 rcases this with rfl|rfl|rfl|rfl|rfl|rfl|rfl|rfl|rfl|rfl<;>rfl
theorem yI6: ∀(f u:Nat) (acc:List UInt8),(digL f u acc).length<=f+acc.length
 |0,u,acc=>by rw[digL];omega
 |f+1,u,acc=>by
  rw[digL]
  split
  .omega
  .have:=yI6 f (u/10) ((48+UInt8.ofNat (u%10))::acc);simp only[Ag]at this;omega
theorem yI5 (n:Nat):(digF n).length<=20:=by
 unfold digF
 split
 .decide
 .have:=yI6 20 n [];simpa using this
theorem yF8 (n:Nat) (hn:n<=9223372036854775807):Pure prog 27 [.int .i64 n] (.str (digF n)):=by
 generalize hM:digF n=M
 unfold digF at hM
 have ret: ∀(r:List UInt8) (σ:St),r=M->wret (some (.str r)) 0 (fun r s=>r= .str M/\s= []) σ:=fun r σ h=>by subst h;exact wR
 refine iV 0 func27 ntmps27 results27 fun c hc hb=> ?_
 refine zA ?_
 simp[go_sem]
 by_cases q0:n=0
 .rw[if_pos q0]at hM
  simp[go_sem,q0]
  exact ret _ _ hM
 rw[if_neg q0]at hM
 have ae:((n:Int)==0)=false:=by simpa using q0
 have ab:decide ((n:Int)<0)=false:=decide_eq_false om
 have eu:IntKind.u64.wrap (n:Int)=(n:Int):=Vx.u64_id om om
 simp[go_sem,ae,ab,eu]
 refine zH (S:=Nat×List UInt8) [0,3,4] (fun u=> [.int .i64 n,.int .u64 (u.1:Int),.str u.2]) (fun _=> []) (fun u=>u.1)
  (fun u=>u.1<=n/\ ∃f,u.1<10^f/\u.2.length+f<=20/\digL f u.1 u.2=M) hc hb (n,[]) ⟨A5 _,20,by simp only;omega,sm,hM⟩ ?_ ?_
 .exact aO
 rintro⟨u,s⟩ ⟨hu,f,hf,hs,hinv⟩
 simp only at hu hf hs hinv
 by_cases q:u=0
 .subst q
  have hinv:s=M:=by
   rw[<-hinv]
   cases f with
   |zero=>rfl
   |succ f=>rw[digL,if_pos rfl]
  refine zA ?_
  simp[go_sem,ab]
  exact ret _ _ hinv
 obtain⟨f,rfl⟩: ∃g,f=g+1:=by
  cases f with
  |zero=>simp at hf;omega
  |succ f=>exact⟨f,rfl⟩
 rw[digL,if_neg q]at hinv
 have hq:0<u:=om
 have er:(u:Int).tmod 10=((u%10:Nat):Int):=by rw[Int.tmod_eq_emod_of_nonneg om];omega
 have aa:IntKind.u64.wrap (((u%10:Nat):Int)+1)=((u%10+1:Nat):Int):=by rw[Vx.u64_id om om];omega
 have af:(u:Int).tdiv 10=((u/10:Nat):Int):=by rw[Int.tdiv_eq_ediv_of_nonneg om];omega
 have ed:IntKind.u64.wrap ((u:Int).tdiv 10)=((u/10:Nat):Int):=by
  rw[Int.tdiv_eq_ediv_of_nonneg om,Vx.u64_id om om];omega
 have ad:=xw3 (u%10) (Do _ dC)
 obtain⟨r,hr⟩:=eX (u%10)
 have ah:r<10:=om
 rw[hr]at er aa ad hinv
 have ag:IntKind.u64.wrap ((u:Int)/10)=(u:Int)/10:=Vx.u64_id om om
 have ai:((r:Int)).toNat=r:=Ay r
 have aj:((r+1:Nat):Int).toNat=r+1:=Ay _
 refine zA ?_
 simp only[Int.natCast_add,Cr]at aa
 simp[go_sem,hq,er,aa]
 refine zI om ?_
 simp[go_sem,ad]
 refine zI om ?_
 simp[go_sem,af,ag]
 refine zG (u/10,(48+UInt8.ofNat r)::s) ⟨by simp only;omega,⟨by simp only;omega,f,by simp only;rw[Ex]at hf;omega,by simp;omega,hinv⟩, ?_⟩
 exact aO
theorem yb3 (k n:Int) (hk:i64R k) (h1:1<=n) (h2:n<=1000):Pure prog 80 [.int .i64 k,.int .i64 n] (.int .i64 (k%n)):=by
 obtain⟨ae,af⟩:=hk
 have q1:decide (n<1)=false:=decide_eq_false om
 have q0: ¬n<1:=om
 have qz: ¬n=0:=om
 have he:=Ew k (b:=n) om
 have hl:=En k (b:=n) om
 have ht:=Int.tmod_eq_emod (a:=k) (b:=n)
 obtain⟨r,hr⟩:=eX (k%n)
 obtain⟨t,ab⟩:=eX (k.tmod n)
 rw[hr]at he hl ht⊢
 rw[ab]at ht
 have ag:((n.natAbs:Nat):Int)=n:=om
 have ad:t=r∨t=r - n:=by
  split at ht
  .left;omega
  .right;omega
 have et:IntKind.i64.wrap t=t:=i64_id om om
 have er:IntKind.i64.wrap r=r:=i64_id om om
 have ret: ∀(v:Int) (σ:St),v=r->wret (some (.int .i64 v)) 0 (fun r' s=>r'= .int .i64 r/\s= []) σ:=fun v σ h=>by subst h;exact wR
 refine iV 0 func80 ntmps80 results80 fun c hc hb=> ?_
 refine zA ?_
 simp[go_sem,q0]
 refine zI qz ?_
 simp[go_sem,ab]
 rcases ad with e|e
 .have q2:decide (t<0)=false:=decide_eq_false om
  have aa: ¬t<0:=om
  simp[go_sem,aa]
  exact ret _ _ e
 .have q2:decide (t<0)=true:=decide_eq_true om
  have aa:t<0:=om
  have e3:t+n=r:=om
  simp[go_sem,aa,e3,er]
  exact wR
def numP (k:Int):List UInt8:=if k.tmod 41=40 then [57,50,50,51,51,55,50,48,51,54,56,53,52,55,55,53,56,48,55]else digF (k%12).toNat
theorem yN6 (k:Int):(numP k).length<=20:=by
 unfold numP
 split
 .decide
 .exact yI5 _
def wg6:List UInt8:= [57,50,50,51,51,55,50,48,51,54,56,53,52,55,55,53,56,48,55]
def nsL:List (List UInt8):=wg6::(List.range 12).map digF
theorem xg7 (k:Int):numP k∈nsL:=by
 unfold numP
 split
 .exact Au ..
 .exact An _ (Ac.2 ⟨(k%12).toNat,C3.2 om,rfl⟩)
theorem yi2 (k:Int) (hk:i64R k):Pure prog 81 [.int .i64 k] (.str (numP k)):=by
 have hp:=yb3 k 12 hk dC dC
 have hd:=yF8 (k%12).toNat om
 rw[show(((k%12).toNat:Nat):Int)=k%12 by omega]at hd
 obtain⟨aa,ab⟩:=hk
 have ht:=Int.tmod_eq_emod (a:=k) (b:=41)
 have et:IntKind.i64.wrap (k.tmod 41)=k.tmod 41:=by
  have:=Ew k (b:=41) dC
  have:=En k (b:=41) dC
  split at ht<;>exact i64_id om om
 generalize hM:numP k=M
 unfold numP at hM
 obtain⟨u,hu⟩:=eX (k.tmod 41)
 rw[hu]at et hM
 clear ht
 have ret: ∀(v:List UInt8) (σ:St),v=M->wret (some (.str v)) 0 (fun r' s=>r'= .str M/\s= []) σ:=fun v σ h=>by subst h;exact wR
 refine iV 0 func81 ntmps81 results81 fun c hc hb=> ?_
 refine zA ?_
 by_cases q:u=40
 .rw[if_pos q]at hM
  have q':(u==40)=true:=by simpa using q
  simp[go_sem,hu,q']
  exact ret _ _ hM
 .rw[if_neg q]at hM
  have q':(u==40)=false:=by simpa using q
  simp[go_sem,hu,q']
  refine pC hp ?_
  simp[go_sem]
  refine pC hd ?_
  simp[go_sem]
  exact ret _ _ hM
def gsL:List (List UInt8):= [[39,97,39],[39,98,39],[39,99,39],[39,100,39],[39,101,39]]
theorem wb2 (k:Int) (hk:i64R k): ∃t:List UInt8,t.length<=20/\Pure prog 82 [.int .i64 k] (.str t)/\t∈gsL:=by
 have hp:=yb3 k 5 hk dC dC
 have h0:=Ew k (b:=5) dC
 have h1:=En k (b:=5) dC
 obtain⟨r,hr⟩:=eX (k%5)
 rw[hr]at hp h0 h1
 have:r=0∨r=1∨r=2∨r=3∨r=4:=om
 have walk: ∀r:Int,(r=0∨r=1∨r=2∨r=3∨r=4)->Pure prog 80 [.int .i64 k,.int .i64 5] (.int .i64 r)->Pure prog 82 [.int .i64 k] (.str [39,97+UInt8.ofNat r.toNat,39]):=fun r aa hp=>by
  refine iV 0 func82 ntmps82 results82 fun c hc hb=> ?_
  refine zA ?_
  simp[go_sem]
  refine pC hp ?_
  rcases aa with rfl|rfl|rfl|rfl|rfl
  all_goals
   simp[go_sem]
   refine zI (fun x hx=>⟨_,Bl.1 hx⟩) ?_
   simp[go_sem,zp7]
   exact wR
 exact⟨_,sm,walk r this hp,by rcases this with rfl|rfl|rfl|rfl|rfl<;>decide⟩
def bsL:List (List UInt8):= [[84,82,85,69],[70,65,76,83,69]]
theorem xI0 (k:Int) (_hk:i64R k): ∃t:List UInt8,t.length<=20/\Pure prog 83 [.int .i64 k] (.str t)/\t∈bsL:=by
 have ht:=Int.tmod_eq_emod (a:=k) (b:=2)
 have et:IntKind.i64.wrap (k.tmod 2)=k.tmod 2:=by
  have:=Ew k (b:=2) dC
  have:=En k (b:=2) dC
  split at ht<;>exact i64_id om om
 obtain⟨u,hu⟩:=eX (k.tmod 2)
 rw[hu]at et
 clear ht
 by_cases q:u=0
 .refine⟨[84,82,85,69],dC, ?_,dC⟩
  have q':(u==0)=true:=by simpa using q
  refine iV 0 func83 ntmps83 results83 fun c hc hb=> ?_
  refine zA ?_
  simp[go_sem,hu,q']
  exact wR
 .refine⟨[70,65,76,83,69],dC, ?_,dC⟩
  have q':(u==0)=false:=by simpa using q
  refine iV 0 func83 ntmps83 results83 fun c hc hb=> ?_
  refine zA ?_
  simp[go_sem,hu,q']
  exact wR
def rsL:List (List UInt8):= [[48],[49]]
def stF (r n g v b:List UInt8):Nat->List UInt8
 |0=> [73,78,83,69,82,84,32,73,78,84,79,32,84,32,86,65,76,85,69,83,32,40]++r++ [44,32]++n++ [44,32,39,118]++v++ [39,44,32]++v++ [41]
 |1=> [73,78,83,69,82,84,32,73,78,84,79,32,84,32,86,65,76,85,69,83,32,40]++r++ [44,32]++n++ [44,32,39,118]++v++ [39,44,32]++v++ [41]
 |2=> [73,78,83,69,82,84,32,73,78,84,79,32,71,32,86,65,76,85,69,83,32,40]++g++ [44,32]++v++ [44,32,78,85,76,76,41]
 |3=> [85,80,68,65,84,69,32,84,32,83,69,84,32,78,32,61,32,78,32,43,32]++v++ [32,87,72,69,82,69,32,75,32,61,32]++n
 |4=> [85,80,68,65,84,69,32,84,32,83,69,84,32,78,32,61,32]++v++ [44,32,86,32,61,32,39,120,39,32,87,72,69,82,69,32,82,32,61,32]++r++ [32,65,78,68,32,75,32,62,61,32]++n
 |5=> [85,80,68,65,84,69,32,71,32,83,69,84,32,78,32,61,32,78,32,42,32]++v++ [32,87,72,69,82,69,32,75,32,61,32]++g
 |6=> [68,69,76,69,84,69,32,70,82,79,77,32,84,32,87,72,69,82,69,32,75,32,60,32]++v
 |7=> [68,69,76,69,84,69,32,70,82,79,77,32,71,32,87,72,69,82,69,32,75,32,61,32]++g
 |8=> [83,69,76,69,67,84,32,42,32,70,82,79,77,32,84]
 |9=> [83,69,76,69,67,84,32,75,44,32,78,32,43,32,49,32,70,82,79,77,32,84,32,87,72,69,82,69,32,82,32,61,32]++r++ [32,79,82,68,69,82,32,66,89,32,78,32,68,69,83,67,32,76,73,77,73,84,32]++v
 |10=> [83,69,76,69,67,84,32,42,32,70,82,79,77,32,71]
 |11=> [83,69,76,69,67,84,32,67,79,85,78,84,40,42,41,44,32,83,85,77,40,78,41,32,70,82,79,77,32,84,32,87,72,69,82,69,32,75,32,60,62,32]++n
 |12=> [83,69,76,69,67,84,32,42,32,70,82,79,77,32,71,32,87,72,69,82,69,32,75,32,61,32]++g
 |13=> [73,78,83,69,82,84,32,73,78,84,79,32,72,32,86,65,76,85,69,83,32,40]++b++ [44,32]++v++ [41]
 |14=> [85,80,68,65,84,69,32,72,32,83,69,84,32,78,32,61,32,78,32,45,32]++v
 |15=> [83,69,76,69,67,84,32,83,85,77,40,78,32,47,32]++v++ [41,32,70,82,79,77,32,72]
 |16=> [73,78,83,69,82,84,32,73,78,84,79,32,84,32,86,65,76,85,69,83,32,40]++r++ [44,32]++n++ [44,32,78,85,76,76,44,32]++v++ [41,44,32,40,49,44,32]++v++ [44,32,39,116,119,111,39,44,32,78,85,76,76,41]
 |17=> [83,69,76,69,67,84,32,78,32,70,82,79,77,32,84,32,87,72,69,82,69,32,75,32,61,32]++n
 |18=> [85,80,68,65,84,69,32,71,32,83,69,84,32,78,32,61,32,78,32,43,32,49,44,32,66,32,61,32,78,32,62,32]++v
 |_=> [83,69,76,69,67,84,32,86,32,70,82,79,77,32,84,32,87,72,69,82,69,32,78,32,73,83,32,78,85,76,76,32,79,82,32,75,32,62,61,32]++n++ [32,79,82,68,69,82,32,66,89,32,86]
theorem xS9 {r n g v b:List UInt8} (hr:r.length<=20) (hn:n.length<=20) (hg:g.length<=20) (hv:v.length<=20) (hb:b.length<=20) (k:Nat):(stF r n g v b k).length<=300:=by
 unfold stF
 split<;>simp<;>omega
def StT (t:List UInt8):Prop:= ∃r∈rsL,∃n∈nsL,∃g∈gsL,∃v∈nsL,∃b∈bsL,∃w<20,t=stF r n g v b w
theorem zT1 (a:GAct) (ha:a.ok): ∃t:List UInt8,t.length<=300/\Pure prog 37 [.agg a.row] (.str t)/\StT t:=by
 have hw:=yb3 a.what 20 ha.what dC dC
 have ag:=yb3 a.a 2 ha.a dC dC
 have ad:=yF8 (a.a%2).toNat om
 rw[show(((a.a%2).toNat:Nat):Int)=a.a%2 by omega]at ad
 have ah:=yi2 a.b ha.b
 have ai:=yi2 a.c ha.c
 obtain⟨g,au,hg,aj⟩:=wb2 a.b ha.b
 obtain⟨tr,av,ht,ak⟩:=xI0 a.a ha.a
 have h0:=Ew a.what (b:=20) dC
 have h1:=En a.what (b:=20) dC
 obtain⟨w,al⟩: ∃w:Nat,a.what%20=w:=⟨(a.what%20).toNat,om⟩
 have ae:w<20:=om
 rw[al]at hw
 clear al h0 h1
 obtain⟨r,hr⟩:=eX (digF (a.a%2).toNat)
 have aw:r.length<=20:=by rw[<-hr];exact yI5 _
 rw[hr]at ad
 have af:r∈rsL:=by
  have:(a.a%2).toNat=0∨(a.a%2).toNat=1:=om
  rcases this with h|h<;>rw[<-hr,h]<;>decide
 obtain⟨rm,an⟩:=eX (a.a%2)
 rw[an]at ag ad
 clear hr an
 obtain⟨n,hn⟩:=eX (numP a.b)
 have ax:n.length<=20:=by rw[<-hn];exact yN6 _
 rw[hn]at ah
 have ao:n∈nsL:=by rw[<-hn];exact xg7 _
 clear hn
 obtain⟨v,hv⟩:=eX (numP a.c)
 have ay:v.length<=20:=by rw[<-hv];exact yN6 _
 rw[hv]at ai
 have aq:v∈nsL:=by rw[<-hv];exact xg7 _
 clear hv ha
 obtain⟨wh,aa,ab,ac⟩:=a
 simp only at hw ag ah ai hg ht
 refine⟨stF r n g v tr w,xS9 aw ax au ay av w, ?_,r,af,n,ao,g,aj,v,aq,tr,ak,w,ae,rfl⟩
 clear af ao aj aq ak
 obtain⟨M,hM⟩:=eX (stF r n g v tr w)
 rw[hM]
 have ret: ∀(x:List UInt8) (σ:St),x=M->wret (some (.str x)) 0 (fun r s=>r= .str M/\s= []) σ:=fun x σ h=>by subst h;exact wR
 refine iV 0 func37 ntmps37 results37 fun c hc hb=> ?_
 refine zA ?_
 simp[go_sem]
 refine yS [(2,0),(3,0),(6,0),(9,0)] 1 rfl kR kR ?_
 simp[go_sem]
 refine pD ag ?_
 simp[go_sem]
 refine pD ad ?_
 simp[go_sem]
 refine pD ah ?_
 simp[go_sem]
 refine pD hg ?_
 simp[go_sem]
 refine pC ai ?_
 simp[go_sem]
 refine pC hw ?_
 have ar:w=0∨w=1∨w=2∨w=3∨w=4∨w=5∨w=6∨w=7∨w=8∨w=9∨w=10∨w=11∨w=12∨w=13∨w=14∨w=15∨w=16∨w=17∨w=18∨w=19:=om
 clear hw ae
 rcases ar with rfl|rfl|rfl|rfl|rfl|rfl|rfl|rfl|rfl|rfl|rfl|rfl|rfl|rfl|rfl|rfl|rfl|rfl|rfl|rfl
 .simp[go_sem]
  repeat (refine zI (by first|omega|(simp;omega)) ?_;simp[go_sem])
  exact ret _ _ (by rw[<-hM];simp[stF])
 .simp[go_sem]
  repeat (refine zI (by first|omega|(simp;omega)) ?_;simp[go_sem])
  exact ret _ _ (by rw[<-hM];simp[stF])
 .simp[go_sem]
  repeat (refine zI (by first|omega|(simp;omega)) ?_;simp[go_sem])
  exact ret _ _ (by rw[<-hM];simp[stF])
 .simp[go_sem]
  repeat (refine zI (by first|omega|(simp;omega)) ?_;simp[go_sem])
  exact ret _ _ (by rw[<-hM];simp[stF])
 .simp[go_sem]
  repeat (refine zI (by first|omega|(simp;omega)) ?_;simp[go_sem])
  exact ret _ _ (by rw[<-hM];simp[stF])
 .simp[go_sem]
  repeat (refine zI (by first|omega|(simp;omega)) ?_;simp[go_sem])
  exact ret _ _ (by rw[<-hM];simp[stF])
 .simp[go_sem]
  repeat (refine zI (by first|omega|(simp;omega)) ?_;simp[go_sem])
  exact ret _ _ (by rw[<-hM];simp[stF])
 .simp[go_sem]
  repeat (refine zI (by first|omega|(simp;omega)) ?_;simp[go_sem])
  exact ret _ _ (by rw[<-hM];simp[stF])
 .simp[go_sem]
  repeat (refine zI (by first|omega|(simp;omega)) ?_;simp[go_sem])
  exact ret _ _ (by rw[<-hM];simp[stF])
 .simp[go_sem]
  repeat (refine zI (by first|omega|(simp;omega)) ?_;simp[go_sem])
  exact ret _ _ (by rw[<-hM];simp[stF])
 .simp[go_sem]
  repeat (refine zI (by first|omega|(simp;omega)) ?_;simp[go_sem])
  exact ret _ _ (by rw[<-hM];simp[stF])
 .simp[go_sem]
  repeat (refine zI (by first|omega|(simp;omega)) ?_;simp[go_sem])
  exact ret _ _ (by rw[<-hM];simp[stF])
 .simp[go_sem]
  repeat (refine zI (by first|omega|(simp;omega)) ?_;simp[go_sem])
  exact ret _ _ (by rw[<-hM];simp[stF])
 .simp[go_sem]
  refine pC ht ?_
  simp[go_sem]
  repeat (refine zI (by first|omega|(simp;omega)) ?_;simp[go_sem])
  exact ret _ _ (by rw[<-hM];simp[stF])
 .simp[go_sem]
  repeat (refine zI (by first|omega|(simp;omega)) ?_;simp[go_sem])
  exact ret _ _ (by rw[<-hM];simp[stF])
 .simp[go_sem]
  repeat (refine zI (by first|omega|(simp;omega)) ?_;simp[go_sem])
  exact ret _ _ (by rw[<-hM];simp[stF])
 .simp[go_sem]
  repeat (refine zI (by first|omega|(simp;omega)) ?_;simp[go_sem])
  exact ret _ _ (by rw[<-hM];simp[stF])
 .simp[go_sem]
  repeat (refine zI (by first|omega|(simp;omega)) ?_;simp[go_sem])
  exact ret _ _ (by rw[<-hM];simp[stF])
 .simp[go_sem]
  repeat (refine zI (by first|omega|(simp;omega)) ?_;simp[go_sem])
  exact ret _ _ (by rw[<-hM];simp[stF])
 .simp[go_sem]
  repeat (refine zI (by first|omega|(simp;omega)) ?_;simp[go_sem])
  exact ret _ _ (by rw[<-hM];simp[stF])
end Go.Proofs.YtefbicjgbaaieaaGreat
namespace Go.Proofs.YtefbicjgbaaieaaGreat
open Go Go.Vx R Go.Proofs.Tryz
set_option maxRecDepth 100000
open Classical in
noncomputable def actT (a:GAct):List UInt8:=if h:a.ok then Classical.choose (zT1 a h)else []
theorem xt6 {a:GAct} (h:a.ok):(actT a).length<=300/\Pure prog 37 [.agg a.row] (.str (actT a))/\StT (actT a):=by
 unfold actT
 rw[dif_pos h]
 exact Classical.choose_spec (zT1 a h)
noncomputable def txF:List GAct->Nat->List UInt8->List UInt8
 | [],_,s=>s
 |a::l,i,s=>if i<3 then txF l (i+1) ((if 0<i then s++ [59,32]else s)++actT a)else s
theorem xj3: ∀{l:List GAct} {i:Nat} {s:List UInt8},(∀a∈l,a.ok)->i<=3->(txF l i s).length<=s.length+302*(3 - i)
 | [],i,s,_,_=>by rw[txF];omega
 |a::l,i,s,h,hi=>by
  rw[txF]
  split
  .rename_i q
   have ha:=(xt6 (h a (Au ..))).1
   refine Ax (xj3 (fun x hx=>h x (An _ hx)) om) ?_
   rw[Ak]
   have:(if 0<i then s++ [59,32]else s).length<=s.length+2:=by split<;>simp
   omega
  .omega
noncomputable def yk5 (l:List GAct):List UInt8:=if txF l 0 []= []then [83,69,76,69,67,84,32,42,32,70,82,79,77,32,71]else txF l 0 []
theorem yw1 {l:List GAct} (h: ∀a∈l,a.ok):(yk5 l).length<=2000:=by
 unfold yk5
 have:=xj3 (s:= []) h (A4 3)
 split
 .decide
 .simp at this;omega
theorem xH7 (l:List GAct) (_hl:l.length<=maxLen) (hok: ∀a∈l,a.ok):Pure prog 15 [.sl .ro (l.map GAct.row),.int .i64 0,.int .i64 0] (.str (yk5 l)):=by
 obtain⟨M,hM⟩:=eX (yk5 l)
 rw[hM]
 unfold yk5 at hM
 obtain⟨T,hT⟩:=eX (txF l 0 [])
 rw[hT]at hM
 have ret: ∀(x:List UInt8) (σ:St),x=M->wret (some (.str x)) 0 (fun r s=>r= .str M/\s= []) σ:=fun x σ h=>by subst h;exact wR
 refine iV 0 func15 ntmps15 results15 fun c hc hb=> ?_
 refine zA ?_
 simp[go_sem]
 refine zH (S:=Nat×List UInt8) [0,1,7,8] (fun u=> [.sl .ro (l.map GAct.row),.int .i64 0,.str u.2,.int .i64 u.1]) (fun _=> []) (fun u=>l.length - u.1) (fun u=>u.1<=l.length/\u.1<=3/\u.2.length<=302*u.1/\txF (l.drop u.1) u.1 u.2=T) hc hb (0,[]) ⟨A4 _,A4 _,A4 _,hT⟩ ?_ ?_
 .exact aO
 rintro⟨i,s⟩ ⟨hi,af,hs,hinv⟩
 simp only at hi af hs hinv
 by_cases q:i<l.length/\i<3
 rotate_left
 .have ab:s=T:=by
   by_cases q1:i<l.length
   .rw[A8 q1,txF,if_neg om]at hinv
    exact hinv
   .rw[Ab om]at hinv
    exact hinv
  refine zA ?_
  by_cases q1:i<l.length
  .have q3: ¬i<3:=om
   have ad:decide ((i:Int)<3)=false:=decide_eq_false om
   simp[go_sem,q1,ad]
   by_cases q0:s= []
   .have aa:s.isEmpty=true:=by simpa using q0
    rw[if_pos (by rw[<-ab];exact q0)]at hM
    simp[go_sem,aa]
    exact ret _ _ hM
   .have aa:s.isEmpty=false:=by simpa using q0
    rw[if_neg (by rw[<-ab];exact q0)]at hM
    simp[go_sem,aa]
    exact ret _ _ (by rw[ab];exact hM)
  .simp[go_sem,q1]
   by_cases q0:s= []
   .have aa:s.isEmpty=true:=by simpa using q0
    rw[if_pos (by rw[<-ab];exact q0)]at hM
    simp[go_sem,aa]
    exact ret _ _ hM
   .have aa:s.isEmpty=false:=by simpa using q0
    rw[if_neg (by rw[<-ab];exact q0)]at hM
    simp[go_sem,aa]
    exact ret _ _ (by rw[ab];exact hM)
 obtain⟨q1,q3⟩:=q
 have ei:=zQ q3 om
 have ad:decide ((i:Int)<3)=true:=decide_eq_true om
 obtain⟨a,ha⟩:=eX (l[i])
 obtain⟨ag,ae,_⟩:=xt6 (hok a (ha▸Aa q1))
 rw[A8 q1,ha,txF,if_pos q3]at hinv
 by_cases q0:0<i
 .have aa:decide (0<(i:Int))=true:=decide_eq_true om
  rw[if_pos q0]at hinv
  refine zA ?_
  simp[go_sem,q1,ad,q0]
  refine zI (by first|omega|(simp;omega)) ?_
  simp[go_sem,q1,ha]
  refine pC ae ?_
  simp[go_sem]
  refine zI (by first|omega|(simp;omega)) ?_
  simp[go_sem,ei]
  exact zG (i+1,s++ [59,32]++actT a) ⟨by show l.length - (i+1)<l.length - i;omega,⟨q1,q3,by simp;omega,hinv⟩,aO⟩
 .have aa:decide (0<(i:Int))=false:=decide_eq_false om
  rw[if_neg q0]at hinv
  refine zA ?_
  simp[go_sem,q1,ad,q0]
  simp[go_sem,ha]
  refine pC ae ?_
  simp[go_sem]
  refine zI (by first|omega|(simp;omega)) ?_
  simp[go_sem,ei]
  exact zG (i+1,s++actT a) ⟨by show l.length - (i+1)<l.length - i;omega,⟨q1,q3,by simp;omega,hinv⟩,aO⟩
end Go.Proofs.YtefbicjgbaaieaaGreat
namespace Go.Proofs.YtefbicjgbaaieaaGreat
open Go Go.Vx R Go.Proofs.Tryz
set_option maxRecDepth 100000
variable {P:List (List Pr)}
def yZ (P:List (List Pr)):List V:=P.map fun l=> .sl .ro (l.map prR)
theorem zO1 {i:Nat} (h:i<P.length):(yZ P)[i]? =some (.sl .ro ((P[i]).map prR)):=by simp[yZ,h]
theorem zD2 (P:List (List Pr)):(yZ P).length=P.length:=by simp[yZ]
theorem yk1 (P:List (List Pr)) (h8:P.length=8):VCalls prog 16 [.ptr 0 0] [.box (yZ P)] (fun r s=>r= .sl .ro ((vsG 0 P).map vwR)/\s= [.box (yZ P)]):=by
 obtain⟨C,hC⟩:=eX (yZ P)
 have ae:C.length=8:=by rw[<-hC,zD2,h8]
 have af: ∀i,i<8->C[i]? =some (.sl .ro ((P.getD i []).map prR)):=fun i hi=>by
  rw[<-hC,zO1 om,A7,A0 om];rfl
 have aa: ∀n,ltOb n (.box C)=true:=fun n=>by rw[<-hC];simp[ltOb,ltC,ltK,yZ]
 rw[hC]
 clear hC
 refine iV 1 func16 ntmps16 results16 fun c hc hb=> ?_
 refine zA ?_
 simp[go_sem]
 refine zi6 3 2 dC sg ?_
 refine zH (S:=Nat×List Vw) [0,3,4] (fun u=> [.ptr 0 0,.sl (.app 1) (u.2.map vwR),.int .i64 u.1]) (fun u=> [.box C,.app u.2.length 2]) (fun u=>8 - u.1) (fun u=>u.1<=8/\u.2=(vsG 0 P).take u.1) hc hb (0,[]) ⟨A4 _,sm⟩ ?_ ?_
 .exact aN 2 (by rw[Ar,aa];rfl)
 rintro⟨i,out⟩ ⟨hi,ho⟩
 simp only at hi ho
 by_cases q:i<8
 rotate_left
 .have h2:out=vsG 0 P:=by rw[ho];exact Al (by rw[yd3];omega)
  have q': ¬(i:Int)<8:=om
  refine zA ?_
  simp[go_sem,q']
  exact zw8 1 rfl (by simp[aa]) (A5 _) zK ⟨by rw[h2],rfl⟩
 have ag:out.length=i:=by rw[ho,Bi,yd3];omega
 have ei:=zQ q om
 have q':(i:Int)<8:=om
 have ab:(vsG 0 P)[i]? =some (i,P.getD i []):=by
  rw[yd2,A0 om,A7,A0 om]
  simp
 have ad:out++ [(i,P.getD i [])]=(vsG 0 P).take (i+1):=by
  rw[ho,Du,ab];rfl
 obtain⟨p,hp⟩:=eX (P.getD i [])
 have hC:=af i q
 rw[hp]at hC ad
 rw[A0 om]at hC
 have hC:=Option.some.inj hC
 refine zA ?_
 simp[go_sem,q,q',hC,ae]
 refine zI ⟨om,zV rfl⟩ ?_
 simp[go_sem,ei]
 exact zG (i+1,out++ [(i,p)]) ⟨by show 8 - (i+1)<8 - i;omega,⟨q,ad⟩,aM 2 (by rw[Ar,aa];rfl) (zF (by simp[go_sem,vwR]) rfl)⟩
theorem yO7 (l:List Pr):xM (l.map prR)=true:=by simp[xM,prR,zy4]
theorem yu5 (l:List Pr):za7 (l.map prR) 0 l.length=l.map prR:=by
 unfold za7
 rw[Bg,Al sm,Bk]
 exact B6 fun _ _=>rfl
theorem ye3 (id:Nat) (rows:List (List V)) (P:List (List Pr)):(yZ P).map (frzC id rows)=yZ P:=by
 unfold yZ
 rw[Bk]
 exact B6 fun _ _=>rfl
theorem yT7 (P:List (List Pr)) (i:Nat) (l:List Pr) (h:i<P.length):(yZ P).take i++ .sl .ro (l.map prR)::(yZ P).drop (i+1)=yZ (P.set i l):=by
 have h2:=List.set_eq_take_append_cons_drop (l:=yZ P) (i:=i) (a:=V.sl .ro (l.map prR))
 rw[if_pos (by rw[zD2];exact h)]at h2
 rw[<-h2]
 unfold yZ
 rw[E8]
theorem xr6 (P:List (List Pr)) (h8:P.length=8) (ad: ∀l∈P,l.length<=10000) (qs:List (Int×List Wr)) (hq:qs.length<=100000) (hw: ∀q∈qs,q.2.length<=100000):VCalls prog 17 [.ptr 0 0,.sl .ro (qs.map putR)] [.box (yZ P)] (fun r s=>r= .tup []/\s= [.box (yZ (doP P qs))]):=by
 obtain⟨F,hF⟩:=eX (doP P qs)
 rw[hF]
 have ae: ∀n (P:List (List Pr)),ltOb n (.box (yZ P))=true:=fun n P=>by simp[ltOb,ltC,ltK,yZ]
 refine iV 1 func17 ntmps17 results17 fun c hc hb=> ?_
 refine zA ?_
 simp[go_sem]
 refine zH (S:=Nat×List (List Pr)) [0,1,4] (fun u=> [.ptr 0 0,.sl .ro (qs.map putR),.int .i64 u.1]) (fun u=> [.box (yZ u.2)]) (fun u=>qs.length - u.1) (fun u=>u.1<=qs.length/\u.2.length=8/\(∀l∈u.2,l.length<=10000+100000*u.1)/\doP u.2 (qs.drop u.1)=F) hc hb (0,P) ⟨A4 _,h8,fun l hl=>by have:=ad l hl;simp only;omega,hF⟩ ?_ ?_
 .exact aN 1 (by rw[Ar,ae];rfl)
 rintro⟨i,P⟩ ⟨hi,h8,ad,hinv⟩
 simp only at hi h8 ad hinv
 by_cases q:i<qs.length
 rotate_left
 .have h2:P=F:=by rw[Ab om]at hinv;exact hinv
  refine zA ?_
  simp[go_sem,q]
  exact zw8 1 rfl (by simp[ae]) (A5 _) (zC rfl) ⟨rfl,by rw[h2];rfl⟩
 have ei:=zQ q om
 obtain⟨⟨g,ws⟩,hx⟩: ∃x,qs[i]=x:=⟨_,rfl⟩
 have ak:=hw (g,ws) (hx▸Aa q)
 simp only at ak
 rw[A8 q,hx]at hinv
 change doP (doQ P (g,ws)) (qs.drop (i+1))=F at hinv
 unfold doQ at hinv
 simp only at hinv
 by_cases qg:g<0∨8<=g
 .rw[if_pos qg]at hinv
  have fin: ∀l∈P,l.length<=10000+100000*(i+1):=fun l hl=>by have:=ad l hl;omega
  rcases Classical.em (g<0)with q0|q0
  .have ah:decide (g<0)=true:=decide_eq_true q0
   refine zA ?_
   simp[go_sem,q,hx,putR,q0,ei]
   exact zG (i+1,P) ⟨by show qs.length - (i+1)<qs.length - i;omega,⟨q,h8,fin,hinv⟩,aN 1 (by rw[Ar,ae];rfl)⟩
  .have ah:decide (g<0)=false:=decide_eq_false q0
   have q8:8<=g:=om
   have al:decide (8<=g)=true:=decide_eq_true q8
   refine zA ?_
   simp[go_sem,q,hx,putR,q0,q8,ei]
   exact zG (i+1,P) ⟨by show qs.length - (i+1)<qs.length - i;omega,⟨q,h8,fin,hinv⟩,aN 1 (by rw[Ar,ae];rfl)⟩
 rw[if_neg qg]at hinv
 obtain⟨gn,rfl⟩: ∃gn:Nat,g=gn:=⟨g.toNat,om⟩
 have ax:gn<8:=om
 have q0: ¬(gn:Int)<0:=om
 have q8: ¬8<=(gn:Int):=om
 have ah:decide ((gn:Int)<0)=false:=decide_eq_false q0
 have al:decide (8<=(gn:Int))=false:=decide_eq_false q8
 refine zA ?_
 simp[go_sem,q,hx,putR,ah,q8]
 refine zH (S:=Nat×List (List Pr)) [0,1,4,5] (fun u=> [.ptr 0 0,.sl .ro (qs.map putR),.int .i64 i,.int .i64 u.1]) (fun u=> [.box (yZ u.2)]) (fun u=>ws.length - u.1) (fun u=>u.1<=ws.length/\u.2.length=8/\(∀l∈u.2,l.length<=10000+100000*i+u.1)/\doP ((ws.drop u.1).foldl (doR gn) u.2) (qs.drop (i+1))=F) hc hb (0,P) ⟨A4 _,h8,ad,hinv⟩ ?_ ?_
 .exact aN 1 (by rw[Ar,ae];rfl)
 rintro⟨k,P⟩ ⟨hk,h8,ad,hinv⟩
 simp only at hk h8 ad hinv
 by_cases qk:k<ws.length
 rotate_left
 .rw[Ab om,Eq]at hinv
  refine zA ?_
  simp[go_sem,q,hx,putR,qk,ei]
  exact zG (i+1,P) ⟨by show qs.length - (i+1)<qs.length - i;omega,⟨q,h8,fun l hl=>by have:=ad l hl;simp only;omega,hinv⟩,aN 1 (by rw[Ar,ae];rfl)⟩
 have ek:=zQ qk om
 obtain⟨⟨⟨wr,wk⟩,wd,wb⟩,hy⟩: ∃x,ws[k]=x:=⟨_,rfl⟩
 rw[A8 qk,hy,Bb]at hinv
 obtain⟨p,hp⟩:=eX (P[gn]'om)
 have ay:=ad p (hp▸Aa _)
 have an:doR gn P ⟨(wr,wk),wd,wb⟩=P.set gn (insP wk wb wd p):=by
  unfold doR xA3
  rw[Ay,A7,A0 om,hp];rfl
 rw[an]at hinv
 have ao:(yZ P).length=8:=by rw[zD2,h8]
 have aq:(yZ P)[gn]'om= .sl .ro (p.map prR):=by
  have:=zO1 (P:=P) (i:=gn) om
  rw[A0 om,hp]at this
  exact Option.some.inj this
 have ar:(yZ P)[gn]? =some (.sl .ro (p.map prR)):=by rw[A0 om,aq]
 have az:p.length<40000000000:=om
 have af: ∀a:List Pr,([.box (yZ P),.box [.str wk,.bool wd,.str wb],.lst (a.map prR) 2]:St).all (ltOb 3)=true:=fun a=>by rw[Ar,ae,B5];simp[ltOb,ltC,ltK,prR]
 obtain⟨Z,hZ⟩:=eX (insP wk wb wd p)
 rw[hZ]at hinv
 have a1:Z.length<=p.length+1:=by
  rw[<-hZ,(zV8 wk wb wd p).length_eq,Ak]
  have:=Bo (fun x:Pr=> !decide (x.1=wk)) p
  split<;>simp<;>omega
 refine zO (zA ?_)
 simp[go_sem,q,hx,putR,qk]
 refine zO (za4 (zO (zA ?_)))
 simp[go_sem,q,hx,putR,qk,hy,wrR]
 refine zO (zA ?_)
 simp[go_sem]
 refine zM5 7 2 dC sg ?_
 refine zO (zA ?_)
 simp[go_sem]
 refine zO ?_
 refine zO ?_
 refine yS [] 3 rfl kR kR ?_
 simp[go_sem,q,hx,putR]
 refine zI om ?_
 simp[go_sem,ar]
 refine za4 ?_
 refine zH (S:=Nat×List Pr×Bool) [0,1,4,5,6,7,8,60,61,62] (fun u=> [.ptr 0 0,.sl .ro (qs.map putR),.int .i64 i,.int .i64 k,.ptr 1 0,.lsv 2 2 u.2.1.length 0 u.2.1.length,.bool u.2.2,.sl .ro (p.map prR),.int .i64 p.length,.int .i64 u.1])
   (fun u=> [.box (yZ P),.box [.str wk,.bool wd,.str wb],.lst (u.2.1.map prR) 2]) (fun u=>p.length - u.1)
   (fun u=>u.1<=p.length/\u.2.1.length<=2*u.1/\u.2.1++insP wk wb u.2.2 (p.drop u.1)=Z) hc hb (0,[],wd) ⟨A4 _,A4 _,hZ⟩ ?_ ?_
 .exact aN 3 (by rw[Ar,ae];rfl)
 .rintro⟨j,acc,b⟩ ⟨hj,au,aa⟩
  simp only at hj au aa
  by_cases qj:j<p.length
  rotate_left
  .rw[Ab om,insP]at aa
   refine zA ?_
   simp[go_sem,qj]
   refine ze9 (S:=Unit) [0,1,4,5,7] (fun _=> [.ptr 0 0,.sl .ro (qs.map putR),.int .i64 i,.int .i64 k,.lsv 2 2 Z.length 0 Z.length]) (fun _=> [.box (yZ P),.box [.str wk,.bool wd,.str wb],.lst (Z.map prR) 2]) (fun _=>True) hc hb ?_ ?_
   .cases b with
    |true=>
     have hz:acc=Z:=by simpa using aa
     refine zA ?_
     simp[go_sem]
     exact zG () ⟨tV,at_n 3 (by simp[go_sem,hz]) rfl (af _) dC (zF (by simp[go_sem,hz]) rfl)⟩
    |false=>
     have hz:acc++ [(wk,wb)]=Z:=by simpa using aa
     have av:Z.length=acc.length+1:=by rw[<-hz];simp
     refine zA ?_
     simp[go_sem,By]
     refine zI ⟨zV rfl,om⟩ ?_
     simp[go_sem]
     exact zG () ⟨tV,at_n 3 (by simp[go_sem,<-hz,prR]) rfl (af _) dC (zF (by simp[go_sem,av]) rfl)⟩
   rintro _ _
   refine zo2 2 2 (Z.map prR) rfl (yO7 Z) ?_
   refine yS [] 3 (by simp[zj7]) kR kR ?_
   simp[go_sem,frzS,frzA,frzC,frzK,zj7,zs7,q,hx,putR,yu5,ye3]
   refine zI om ?_
   have h7:gn<=7:=om
   simp[go_sem,ao,h7,yT7 P gn Z om]
   have aj: ∀l∈P.set gn Z,l.length<=10000+100000*i+(k+1):=fun l hl=>by
    rcases Cq hl with hl|rfl
    .have:=ad l hl;omega
    .omega
   refine zA ?_
   simp[go_sem,ek]
   exact zG (k+1,P.set gn Z) ⟨by show ws.length - (k+1)<ws.length - k;omega,⟨qk,by simp[h8],aj,hinv⟩,aN 1 (by rw[Ar,ae];rfl)⟩
  have ej:=zQ qj om
  obtain⟨⟨xk,xd⟩,ag⟩: ∃x,p[j]=x:=⟨_,rfl⟩
  rw[A8 qj,ag,insP]at aa
  simp only at aa
  have fin: ∀(ab:List Pr) (b':Bool),ab.length<=acc.length+2->ab++insP wk wb b' (p.drop (j+1))=Z->p.length - (j+1)<p.length - j/\(j+1<=p.length/\ab.length<=2*(j+1)/\ab++insP wk wb b' (p.drop (j+1))=Z):=fun ab b' h1 h2=>⟨om,qj,om,h2⟩
  by_cases e:xk=wk
  .subst e
   rw[zd8]at aa
   have hn:(xk !=xk)=false:=sm
   have hl:Op.bytesLess xk xk=false:=zd8 _
   obtain⟨g1,g2⟩:=fin acc b om (by simpa using aa)
   cases b with
   |true=>
    refine zA ?_
    simp[go_sem,qj,ag,prR,ej]
    exact zG (j+1,acc,true) ⟨g1,g2,aN 3 (af _)⟩
   |false=>
    refine zA ?_
    simp[go_sem,qj,ag,prR,hl,ej]
    exact zG (j+1,acc,false) ⟨g1,g2,aN 3 (af _)⟩
  have hn:(xk==wk)=false:=by simpa using e
  have a6: ¬xk=wk:=e
  rw[if_neg e]at aa
  have a7: ∀ab:List Pr,ab.length<=2*p.length+2->(ab.length+1)*32<=140737488355328:=fun _ h=>by omega
  cases b with
  |true=>
   obtain⟨g1,g2⟩:=fin (acc++ [(xk,xd)]) true sm (by simpa using aa)
   refine zA ?_
   simp[go_sem,qj,ag,prR,hn,By]
   refine zI ⟨zV rfl,om⟩ ?_
   simp[go_sem,ej]
   exact zG (j+1,acc++ [(xk,xd)],true) ⟨g1,g2,at_n 3 (by simp[go_sem,prR]) rfl (af _) dC (zF sg rfl)⟩
  |false=>
   by_cases hl:Op.bytesLess wk xk=true
   .rw[hl]at aa
    obtain⟨g1,g2⟩:=fin (acc++ [(wk,wb),(xk,xd)]) true sm (by simpa using aa)
    have ai:Op.bytesLess xk wk=false:=by
     cases z:Op.bytesLess xk wk with
     |false=>rfl
     |true=>have:=zq0 _ _ _ hl z;rw[zd8]at this;cases this
    refine zA ?_
    simp[go_sem,qj,ag,prR,hn,ai,By]
    refine zI ⟨zV rfl,om⟩ ?_
    simp[go_sem,hn,By]
    refine zI ⟨zV rfl,om⟩ ?_
    simp[go_sem,ej]
    exact zG (j+1,acc++ [(wk,wb),(xk,xd)],true) ⟨g1,g2,at_n 3 (by simp[go_sem,prR]) rfl (af _) dC (zF sg rfl)⟩
   .have aw:Op.bytesLess wk xk=false:=by simpa using hl
    rw[aw]at aa
    obtain⟨g1,g2⟩:=fin (acc++ [(xk,xd)]) false sm (by simpa using aa)
    have ai:Op.bytesLess xk wk=true:=by
     rcases zA3 xk wk with z|z|z
     .exact z
     .exact absurd z e
     .exact absurd z hl
    refine zA ?_
    simp[go_sem,qj,ag,prR,hn,ai,By]
    refine zI ⟨zV rfl,om⟩ ?_
    simp[go_sem,ej]
    exact zG (j+1,acc++ [(xk,xd)],false) ⟨g1,g2,at_n 3 (by simp[go_sem,prR]) rfl (af _) dC (zF sg rfl)⟩
theorem zE6:Pure prog 20 [] (schR tabsS):=by
 have aa:=xt4
 refine iV 0 func20 ntmps20 results20 fun c hc hb=> ?_
 refine zA ?_
 simp[go_sem]
 refine pC aa ?_
 simp[go_sem,schS]
 exact wG (r:=schR tabsS) xG1 ⟨rfl,rfl⟩
def tx22:List UInt8:= [73,78,83,69,82,84,32,73,78,84,79,32,71,32,86,65,76,85,69,83,32,40,39,97,39,44,32,49,44,32,78,85,76,76,41,59,32,83,69,76,69,67,84,32,78,32,70,82,79,77,32,71]
theorem wh4:(lotF (zl6 tx22).1 []).1=(0,0,[⟨1,[]⟩,⟨0,[[⟨2,1,[]⟩]]⟩]):=kR
theorem xE9:(zr1 (zl6 tx22).1 []).map (fun q=>q.2.length)= [1]:=kR
theorem yc6 (lot:GLot) (aa:List Ln):runV lot aa= .tup [.agg (ansR (lotF lot aa).1),.sl .ro ((zr1 lot aa).map putR)]:=rfl
theorem xl3:Pure prog 12 [] (.bool true):=by
 have hl:=xt3 tx22 dC
 have hr:=xi7 (zl6 tx22).1 (yi7 tx22) [] dC (fun x hx=>by cases hx) dC
 rw[yc6,show xN []= [] from rfl,wh4]at hr
 obtain⟨q,hq⟩: ∃q,zr1 (zl6 tx22).1 []= [q]:=by
  have h:=xE9
  cases e:zr1 (zl6 tx22).1 []with
  |nil=>rw[e]at h;cases h
  |cons x l=>cases l with
   |nil=>exact⟨x,rfl⟩
   |cons y l=>rw[e]at h;simp at h
 have aa:q.2.length=1:=by have h:=xE9;rw[hq]at h;simpa using h
 rw[hq]at hr
 obtain⟨L,hL⟩:=eX ((zl6 tx22).1)
 rw[hL]at hl hr
 obtain⟨g,ws⟩:=q
 simp only at aa
 have ab:=zE6
 unfold tx22 at hl
 refine iV 0 func12 ntmps12 results12 fun c hc hb=> ?_
 refine zA ?_
 simp[go_sem]
 refine pC ab ?_
 simp[go_sem,schR]
 refine yS [(1,0),(2,0)] 1 rfl kR kR ?_
 simp[go_sem]
 refine pD hl ?_
 simp[go_sem]
 refine pD hr ?_
 simp[go_sem,ansR,Ot.row,putR,aa]
 exact wR
def xb0 (x:List GAct):List V:= [.sl .ro (x.map GAct.row)]
theorem StI.small {n:Nat} (h:StI n P) (hn:n<=7500): ∀l∈P,l.length<=10000:=fun l hl=>by
 obtain⟨i,hi,rfl⟩:=Dn hl
 have hm:(i,P[i])∈vsG 0 P:=by
  refine As (i:=i) ?_
  rw[yd2,A0 hi,Ad];rfl
 have:=((h.vs hn).2.1 _ hm).2.1
 simp only at this
 omega
theorem zZ9 {n:Nat} (h:StI n P) (hn:n<=7500) {lot:GLot} (hl:LOk lot):
  (zr1 lot (xN (vsG 0 P))).length<=100000/\(∀q∈zr1 lot (xN (vsG 0 P)),q.2.length<=100000)/\StI (n+240) (doP P (zr1 lot (xN (vsG 0 P)))):=by
 obtain⟨m,hT⟩:=zI4 (vsG 0 P)
 have h1:=h.len
 have hlen:(xN (vsG 0 P)).length<=(yA (vsG 0 P)).length:=hT.len
 obtain⟨aa,ab⟩:=xF0 hl hT.now (fun x hx=>⟨hT.now.rows x hx,(hT.lines x hx).1⟩) (by show(xN (vsG 0 P)).length<=7500;omega)
 exact⟨aa,ab,h.step hl⟩
def P0:List (List Pr):= [[],[],[],[],[],[],[],[]]
theorem zu5 (n:Nat) (P:List (List Pr)):ltOb n (.box (yZ P))=true:=by simp[ltOb,ltC,ltK,yZ]
def frz8 (v:V):V:=frzS 8 [] (frzS 7 [] (frzS 6 [] (frzS 5 [] (frzS 4 [] (frzS 3 [] (frzS 2 [] (frzS 1 [] v)))))))
theorem xz1 (id:Nat) (rows:List (List V)) (k:IntKind) (x:Int):frzS id rows (.int k x)= .int k x:=rfl
theorem xy9 (k:IntKind) (x:Int):frz8 (.int k x)= .int k x:=by simp only[frz8,xz1]
theorem xz2 (id:Nat) (rows:List (List V)) (i o:Nat):frzS id rows (.ptr i o)= .ptr i o:=rfl
theorem xz0 (i o:Nat):frz8 (.ptr i o)= .ptr i o:=by simp only[frz8,xz2]
theorem xN5 (id:Nat) (rows:List (List V)) (rs:List (List V)):frzS id rows (.sl .ro rs)= .sl .ro rs:=rfl
theorem xN4 (rs:List (List V)):frz8 (.sl .ro rs)= .sl .ro rs:=by simp only[frz8,xN5]
theorem xJ3 {P:Program} {c:Ctx} {nt:Nat} {e:Env} {Q:QT} {y:Code} (hy:wVW P c nt y Q fx fx (fun t=>frz8 (e t)) [.box (yZ P0),.dead,.dead,.dead,.dead,.dead,.dead,.dead,.dead]):wVW P c nt y Q fx fx e [.box [.sl .full [],.sl .full [],.sl .full [],.sl .full [],.sl .full [],.sl .full [],.sl .full [],.sl .full []]]:=by
 refine zk9 0 0 2 _ dC rfl rfl ?_
 refine zo2 1 2 [] rfl rfl ?_
 refine zk9 0 1 2 _ dC rfl rfl ?_
 refine zo2 2 2 [] rfl rfl ?_
 refine zk9 0 2 2 _ dC rfl rfl ?_
 refine zo2 3 2 [] rfl rfl ?_
 refine zk9 0 3 2 _ dC rfl rfl ?_
 refine zo2 4 2 [] rfl rfl ?_
 refine zk9 0 4 2 _ dC rfl rfl ?_
 refine zo2 5 2 [] rfl rfl ?_
 refine zk9 0 5 2 _ dC rfl rfl ?_
 refine zo2 6 2 [] rfl rfl ?_
 refine zk9 0 6 2 _ dC rfl rfl ?_
 refine zo2 7 2 [] rfl rfl ?_
 refine zk9 0 7 2 _ dC rfl rfl ?_
 refine zo2 8 2 [] rfl rfl ?_
 exact hy
theorem xT3 (l:List (List GAct)) (hl:l.length<=30) (hok: ∀x∈l,x.length<=maxLen/\ ∀a∈x,a.ok):VCalls prog 18 [.sl .ro (l.map xb0)] [] (fun r s=>r= .ptr 0 0/\ ∃P,StI (240*l.length) P/\s= [.box (yZ P)]):=by
 have au:=zE6
 refine iV 0 func18 ntmps18 results18 fun c hc hb=> ?_
 refine zA ?_
 simp[go_sem]
 refine xJ3 ?_
 refine zH (S:=Nat×List (List Pr)) [0,3,4] (fun u=> [.sl .ro (l.map xb0),.ptr 0 0,.int .i64 u.1]) (fun u=> [.box (yZ u.2)]) (fun u=>l.length - u.1) (fun u=>u.1<=l.length/\StI (240*u.1) u.2) hc hb (0,P0) ⟨A4 _,wh6⟩ ?_ ?_
 .exact aM 1 (by rw[Ar,zu5];rfl) (zF (by simp[go_sem,xy9,xz0,xN4]) rfl)
 rintro⟨i,P⟩ ⟨hi,hS⟩
 simp only at hi hS
 by_cases q:i<l.length
 rotate_left
 .have e:i=l.length:=om
  rw[e]at hS
  refine zA ?_
  simp[go_sem,q]
  exact zw8 1 rfl (by simp[zu5]) dC (zg2 rfl) ⟨rfl,P,hS,rfl⟩
 have ei:=zQ q om
 obtain⟨ab,hx⟩: ∃x,l[i]=x:=⟨_,rfl⟩
 obtain⟨av,aj⟩:=hok ab (hx▸Aa q)
 have ad:=xH7 ab av aj
 have ak:=yw1 aj
 obtain⟨tx,al⟩:=eX (yk5 ab)
 rw[al]at ad ak
 have af:=xt3 tx (Ax ak dC)
 have ae:=yi7 tx
 obtain⟨L,hL⟩:=eX ((zl6 tx).1)
 rw[hL]at af ae
 have hn:240*i<=7500:=om
 have ag:=yk1 P hS.eight
 obtain⟨v1,v2,v3,v4⟩:=hS.vs hn
 have aa:=xi7 L ae (vsG 0 P) om (fun x hx=>⟨(v2 x hx).1,by have:=(v2 x hx).2.1;omega,(v2 x hx).2.2⟩) v4
 rw[yc6]at aa
 obtain⟨an,ao,ah⟩:=zZ9 hS hn ae
 have ai:=xr6 P hS.eight (hS.small hn) _ an ao
 obtain⟨A,hA⟩:=eX ((lotF L (xN (vsG 0 P))).1)
 obtain⟨U,hU⟩:=eX (zr1 L (xN (vsG 0 P)))
 rw[hA,hU]at aa
 rw[hU]at ai ah
 obtain⟨P2,aq⟩:=eX (doP P U)
 rw[aq]at ai ah
 obtain⟨vs,ar⟩:=eX (vsG 0 P)
 rw[ar]at ag aa
 clear hA hU aq ar an ao v1 v2 v3 v4 hL al
 refine zA ?_
 simp[go_sem,q]
 refine yS [(0,0),(5,0),(6,0),(8,1),(9,0)] 1 rfl kR kR ?_
 simp[go_sem]
 refine pD au ?_
 simp[go_sem,q,hx,xb0]
 refine pD ad ?_
 simp[go_sem]
 refine pD af ?_
 simp[go_sem]
 refine yl3 1 ag cB rfl rfl (by rw[Ar,zu5];rfl) rfl (fun i hi=>by simp[go_sem];omega) (fun _=>zb4 (n:=1) rfl) ?_
 simp[go_sem]
 refine pD aa ?_
 simp[go_sem,ansR]
 refine zo1 1 ai cB rfl rfl (by rw[Ar,zu5];rfl) (zb4 (n:=1) rfl) ?_ ?_
 .rintro r s' ⟨rfl,rfl⟩
  exact⟨rfl,by rw[Ar,zu5];rfl,rfl⟩
 rintro r s' ⟨rfl,rfl⟩
 simp[go_sem,ei]
 exact zG (i+1,P2) ⟨by show l.length - (i+1)<l.length - i;omega,⟨q,by rw[show 240*(i+1)=240*i+240 by omega];exact ah⟩,aN 1 (by rw[Ar,zu5];rfl)⟩
theorem xG6 {l:List GSpan} {x:GSpan} {k:List UInt8}:spB (l++ [x]) k=(spB l k||(!Op.bytesLess k x.lo&&Op.bytesLess k x.hi)):=by simp[spB]
theorem yJ7 (l:List (List GAct)) (hok: ∀x∈l,x.length<=maxLen/\ ∀a∈x,a.ok) (la:List GAct) (aR:la.length<=maxLen) (aB: ∀a∈la,a.ok):Pure prog 11 [.sl .ro (l.map xb0),.sl .ro (la.map GAct.row)] (.bool true):=by
 have ax:=xl3
 have a6:=zE6
 have ai:=xH7 la aR aB
 have aC:=yw1 aB
 obtain⟨tx,aD⟩:=eX (yk5 la)
 rw[aD]at ai aC
 have ay:=xt3 tx (Ax aC dC)
 have ab:=yi7 tx
 obtain⟨L,hL⟩:=eX ((zl6 tx).1)
 rw[hL]at ay ab
 have ag:=xC5 L (by have:=ab.stmts.1;omega) ab.stmts.2
 refine iV 0 func11 ntmps11 results11 fun c hc hb=> ?_
 refine zA ?_
 simp[go_sem]
 refine pC ax ?_
 simp[go_sem]
 by_cases aY:l.length<=15
 rotate_left
 .have q:15<(l.length:Int):=om
  simp[go_sem,q]
  exact wR
 have q: ¬15<(l.length:Int):=om
 have aE:=xT3 l om hok
 simp[go_sem,q]
 refine zJ9 aE cB ⟨zK,tV⟩ ?_
 rintro r s ⟨rfl,P,hS,rfl⟩
 have hn:240*l.length<=7500:=om
 have az:=yk1 P hS.eight
 obtain⟨v1,v2,v3,v4⟩:=hS.vs hn
 have ad:=xi7 L ab (vsG 0 P) om (fun x hx=>⟨(v2 x hx).1,by have:=(v2 x hx).2.1;omega,(v2 x hx).2.2⟩) v4
 rw[yc6]at ad
 obtain⟨n1,n2,n3⟩:=xC7 hS hn L
 have aa:=xi7 L ab ((za6 L).map (zs8 P)) om (fun x hx=>⟨(n2 x hx).1,by have:=(n2 x hx).2.1;omega,(n2 x hx).2.2⟩) n3
 rw[yc6]at aa
 obtain⟨s1,s2⟩:=yW4 hS ab
 rw[s1,s2]at aa
 have a1:=zm5 L
 obtain⟨ar,a7,_⟩:=zZ9 hS hn ab
 obtain⟨m,hT⟩:=zI4 (vsG 0 P)
 have hlen:(xN (vsG 0 P)).length<=(yA (vsG 0 P)).length:=hT.len
 obtain⟨aj,ak⟩:=xo1 ab hT.now (by show(xN (vsG 0 P)).length<=7500;omega)
 change (lotF L (xN (vsG 0 P))).1.2.2.length<=100000 at aj
 change∀x∈(lotF L (xN (vsG 0 P))).1.2.2,_ at ak
 obtain⟨A,hA⟩:=eX ((lotF L (xN (vsG 0 P))).1)
 obtain⟨U,hU⟩:=eX (zr1 L (xN (vsG 0 P)))
 rw[hA]at ad aa aj ak
 rw[hU]at ad aa ar a7
 obtain⟨er,ix,outs⟩:=A
 simp only at aj ak
 have a8:=xF9 er ix outs aj ak
 have al:=xn8 U ar
 have aS:=yY4 U ar a7
 obtain⟨vs,aF⟩:=eX (vsG 0 P)
 rw[aF]at az ad
 obtain⟨N,hN⟩:=eX (za6 L)
 rw[hN]at ag aa n1 n2 a1
 have an: ∀k,ltOb k (.box (yZ P))=true:=fun k=>zu5 k P
 have aT:=hS.small hn
 have h8:=hS.eight
 have aZ:N.length<=4:=by rw[B1]at n1;exact n1
 have aG: ∀y∈N,y.2.length<=1000:=hN▸xp4 ab
 have bb: ∀k,ltOb k (.box [.int .i64 L.mode,.int .i64 L.n,.sl .ro (L.stmts.map GStmt.row)])=true:=fun k=>rfl
 clear hA hU aF hL aD v1 v2 v3 v4 hT m aE ax hok n2 s1 s2 aj ak ar a7
 simp[go_sem]
 refine pC ai ?_
 simp[go_sem]
 refine pC ay ?_
 simp[go_sem]
 refine yS [(0,0),(3,1),(4,0)] 2 rfl kR kR ?_
 simp[go_sem]
 refine pD a6 ?_
 simp[go_sem]
 refine yl3 1 az cB rfl rfl (by rw[Ar,an];rfl) rfl (fun i hi=>by simp[go_sem];omega) (fun _=>zb4 (n:=1) rfl) ?_
 simp[go_sem]
 refine pD ad ?_
 simp[go_sem,ansR]
 refine yS [(0,0),(2,0)] 3 rfl kR kR ?_
 simp[go_sem]
 refine pD a6 ?_
 simp[go_sem]
 refine pD ag ?_
 simp[go_sem]
 obtain⟨bx,ah⟩:=eX (Ob.box (yZ P))
 obtain⟨bl,au⟩:=eX (Ob.box [.int .i64 L.mode,.int .i64 L.n,.sl .ro (L.stmts.map GStmt.row)])
 obtain⟨ba,av⟩:=eX (Ob.box [.int .i64 er,.int .i64 ix,.sl .ro (outs.map Ot.row)])
 have l1: ∀k,ltOb k bl=true:=fun k=>by rw[<-au];rfl
 have l2: ∀k,ltOb k ba=true:=fun k=>by rw[<-av];rfl
 rw[ah]at an
 have f0: ∀id rows,zs7 id rows bx=bx:=fun id rows=>by rw[<-ah];exact congrArg Ob.box (ye3 id rows P)
 have f1: ∀id rows,zs7 id rows bl=bl:=fun id rows=>by rw[<-au];rfl
 have f2: ∀id rows,zs7 id rows ba=ba:=fun id rows=>by rw[<-av];rfl
 have aH: ∀k n,([bx,bl,ba,.app n 2]:St).all (ltOb k)=true:=fun k n=>by
  simp only[Ar,Ch,an,l1,l2,B5,Cm];rfl
 refine zi6 9 2 dC sg ?_
 refine zH (S:=Nat×List Vw) [5,6,7,8,9,40,41,42] (fun u=> [.ptr 0 0,.ptr 1 0,.ptr 2 0,.sl .ro (U.map putR),.sl (.app 3) (u.2.map vwR),.sl .ro (N.map uRow),.int .i64 N.length,.int .i64 u.1]) (fun u=> [bx,bl,ba,.app u.2.length 2]) (fun u=>N.length - u.1)
  (fun u=>u.1<=N.length/\u.2=(N.take u.1).map (zs8 P)) hc hb (0,[]) ⟨A4 _,sm⟩ ?_ ?_
 .exact at_n 4 (by simp[go_sem,ah,au,av]) rfl (aH 4 _) dC (zF sg rfl)
 rintro⟨i,acc⟩ ⟨hi,ae⟩
 simp only at hi ae
 by_cases q:i<N.length
 rotate_left
 .rw[Al om]at ae
  rw[<-ae]at aa
  refine zA ?_
  simp[go_sem,q]
  refine yS [(0,0),(3,0)] 4 rfl kR kR ?_
  simp[go_sem]
  refine pD a6 ?_
  subst ah au av
  simp[go_sem]
  refine pD aa ?_
  simp[go_sem,ansR]
  refine pC a8 ?_
  simp[go_sem]
  refine pC al ?_
  simp[go_sem]
  refine pC al ?_
  simp[go_sem]
  refine pC aS ?_
  simp[go_sem]
  exact wR
 have ei:=zQ q om
 obtain⟨⟨g,sp⟩,hy⟩: ∃y,N[i]=y:=⟨_,rfl⟩
 have aI:(g,sp)∈N:=hy▸Aa q
 obtain⟨g0,g4⟩:=a1 _ aI
 have aU:=aG _ aI
 simp only at g0 g4 aU
 obtain⟨gn,rfl⟩: ∃gn:Nat,g=gn:=⟨g.toNat,om⟩
 have aJ:gn<P.length:=om
 obtain⟨p,hp⟩:=eX (P[gn])
 have bc:=aT p (hp▸Aa _)
 have aK:(N.take (i+1)).map (zs8 P)=acc++ [(gn,p.filter fun x=>spB sp x.1)]:=by
  rw[C0 q,hy,Ca,<-ae]
  show acc++ [zs8 P ((gn:Int),sp)]=_
  unfold zs8
  rw[Ay,A7,A0 aJ,hp];rfl
 have aL:(yZ P)[gn]? =some (.sl .ro (p.map prR)):=by rw[zO1 aJ,hp]
 have aV:(yZ P).length=8:=by rw[zD2,h8]
 have aW:(yZ P)[gn]'om= .sl .ro (p.map prR):=by
  have:=aL
  rw[A0 om]at this
  exact Option.some.inj this
 have g8:(gn:Int)<8:=om
 have g7:gn<8:=om
 refine zO (zA ?_)
 simp[go_sem,q]
 refine zO (zA ?_)
 simp[go_sem,q]
 refine zO (za4 (zO (zA ?_)))
 simp[go_sem,q,hy,uRow]
 refine zO (zA ?_)
 simp[go_sem]
 refine zk9 5 1 2 _ dC rfl rfl ?_
 refine zO ?_
 refine zO ?_
 refine yS [] 7 rfl kR kR ?_
 rw[<-ah]
 simp[go_sem,aL,aW,aV,g8,g7]
 refine za4 ?_
 rw[ah]
 have bd:acc.length<=4:=by rw[ae,B1,Bi];omega
 have aA: ∀n (z:List Pr),([bx,bl,ba,.app n 2,.box [.int .i64 gn,.sl .ro (sp.map GSpan.row)],.box [.int .i64 gn,.lsv 6 2 z.length 0 z.length],.lst (z.map prR) 2]:St).all (ltOb 7)=true:=fun n z=>by
  simp only[Ar,Ch,an,l1,l2,B5,Cm];simp[ltOb,ltC,ltK,prR]
 have ao: ∀n (z:List Pr) k d,([bx,bl,ba,.app n 2,.box [.int .i64 gn,.sl .ro (sp.map GSpan.row)],.box [.int .i64 gn,.lsv 6 2 z.length 0 z.length],.lst (z.map prR) 2,.box [.str k,.str d]]:St).all (ltOb 8)=true:=fun n z k d=>by
  simp only[Ar,Ch,an,l1,l2,B5,Cm];simp[ltOb,ltC,ltK,prR]
 have aX: ∀z:List Pr,zj7 6 (z.map prR) [bx,bl,ba,.app acc.length 2,.box [.int .i64 gn,.sl .ro (sp.map GSpan.row)],.box [.int .i64 gn,.lsv 6 2 z.length 0 z.length],.lst (z.map prR) 2]= [bx,bl,ba,.app acc.length 2,.box [.int .i64 gn,.sl .ro (sp.map GSpan.row)],.box [.int .i64 gn,.sl .ro (z.map prR)],.dead]:=fun z=>by
  show [zs7 6 _ bx,zs7 6 _ bl,zs7 6 _ ba,_,_,_,_]=_
  rw[f0,f1,f2]
  simp[zs7,frzC,frzK,yu5]
 refine zH (S:=Nat×List Pr) [5,6,7,8,9,11,12,40,41,42,55,56,57] (fun u=> [.ptr 0 0,.ptr 1 0,.ptr 2 0,.sl .ro (U.map putR),.sl (.app 3) (acc.map vwR),.ptr 4 0,.ptr 5 0,.sl .ro (N.map uRow),.int .i64 N.length,.int .i64 i,.sl .ro (p.map prR),.int .i64 p.length,.int .i64 u.1])
  (fun u=> [bx,bl,ba,.app acc.length 2,.box [.int .i64 gn,.sl .ro (sp.map GSpan.row)],.box [.int .i64 gn,.lsv 6 2 u.2.length 0 u.2.length],.lst (u.2.map prR) 2]) (fun u=>p.length - u.1)
  (fun u=>u.1<=p.length/\u.2=(p.take u.1).filter fun x=>spB sp x.1) hc hb (0,[]) ⟨A4 _,sm⟩ ?_ ?_
 .exact aN 7 (aA _ [])
 rintro⟨j,z⟩ ⟨hj,hz⟩
 simp only at hj hz
 by_cases qj:j<p.length
 rotate_left
 .rw[Al om]at hz
  rw[<-hz]at aK
  refine zA ?_
  simp[go_sem,qj]
  refine zo2 6 2 (z.map prR) rfl (yO7 z) ?_
  rw[aX z]
  refine zA ?_
  simp[go_sem,frzS,frzA,frzC,frzK]
  refine zI ⟨om,zV rfl⟩ ?_
  simp[go_sem]
  refine zA ?_
  simp[go_sem,ei]
  exact zG (i+1,acc++ [(gn,z)]) ⟨by show N.length - (i+1)<N.length - i;omega,⟨q,aK.symm⟩,aM 4 (aH 4 _) (zF (by simp[go_sem,vwR]) rfl)⟩
 have ej:=zQ qj om
 obtain⟨⟨k,d⟩,aP⟩: ∃x,p[j]=x:=⟨_,rfl⟩
 have bf:z.length<=j:=by
  rw[hz];exact Ax (Bo _ _) (by rw[Bi];omega)
 have aq:(p.take (j+1)).filter (fun x=>spB sp x.1)=z++(if spB sp k=true then [(k,d)]else []):=by
  rw[C0 qj,aP,Dd,<-hz,Ck];rfl
 refine zO (zA ?_)
 simp[go_sem,qj]
 refine zO (zA ?_)
 simp[go_sem,qj]
 refine zO (za4 (zO (zA ?_)))
 simp[go_sem,qj,aP,prR]
 refine zO (zA ?_)
 simp[go_sem]
 refine zO ?_
 refine zO (zA ?_)
 simp[go_sem]
 refine za4 ?_
 refine zH (S:=Nat×Bool) [5,6,7,8,9,11,12,14,15,40,41,42,55,56,57,62,63,64] (fun u=> [.ptr 0 0,.ptr 1 0,.ptr 2 0,.sl .ro (U.map putR),.sl (.app 3) (acc.map vwR),.ptr 4 0,.ptr 5 0,.ptr 7 0,.bool u.2,.sl .ro (N.map uRow),.int .i64 N.length,.int .i64 i,.sl .ro (p.map prR),.int .i64 p.length,.int .i64 j,.sl .ro (sp.map GSpan.row),.int .i64 sp.length,.int .i64 u.1])
  (fun u=> [bx,bl,ba,.app acc.length 2,.box [.int .i64 gn,.sl .ro (sp.map GSpan.row)],.box [.int .i64 gn,.lsv 6 2 z.length 0 z.length],.lst (z.map prR) 2,.box [.str k,.str d]]) (fun u=>sp.length - u.1)
  (fun u=>u.1<=sp.length/\u.2=spB (sp.take u.1) k) hc hb (0,false) ⟨A4 _,rfl⟩ ?_ ?_
 .exact aM 8 (ao ..) (zF (by simp[go_sem,prR]) rfl)
 rintro⟨m,b⟩ ⟨hm,aw⟩
 simp only at hm aw
 by_cases qm:m<sp.length
 rotate_left
 .rw[Al om]at aw
  rw[<-aw]at aq
  refine zA ?_
  simp[go_sem,qm]
  refine zO (zA ?_)
  simp[go_sem]
  refine(A9 b).elim (fun w=> ?_) (fun w=> ?_)
  .rw[if_pos w]at aq
   refine zA ?_
   simp[go_sem,w,By]
   refine zI ⟨zV rfl,om⟩ ?_
   simp[go_sem]
   refine zA ?_
   simp[go_sem,ej]
   exact zG (j+1,z++ [(k,d)]) ⟨by show p.length - (j+1)<p.length - j;omega,⟨qj,aq.symm⟩,at_n 7 (by simp[go_sem,prR]) rfl (aA _ (z++ [(k,d)])) dC (zF sg rfl)⟩
  .rw[if_neg (by rw[w];decide),Az]at aq
   refine zA ?_
   simp[go_sem,w]
   refine zA ?_
   simp[go_sem,ej]
   exact zG (j+1,z) ⟨by show p.length - (j+1)<p.length - j;omega,⟨qj,aq.symm⟩,aN 7 (aA _ z)⟩
 have em:=zQ qm om
 refine Exists.elim (show∃x,sp[m]'qm=x from⟨_,rfl⟩) fun x aQ=> ?_
 have af:spB (sp.take (m+1)) k=(b||(!Op.bytesLess k x.lo&&Op.bytesLess k x.hi)):=by
  rw[C0 qm,aQ,xG6,<-aw]
 have fin: ∀b',spB (sp.take (m+1)) k=b'->sp.length - (m+1)<sp.length - m/\m+1<=sp.length/\b'=spB (sp.take (m+1)) k:=fun b' h=>⟨om,qm,h.symm⟩
 refine zO (zA ?_)
 simp[go_sem,qm]
 refine zO (zA ?_)
 simp[go_sem,qm]
 refine zO (za4 (zO (zA ?_)))
 simp[go_sem,qm,aQ,GSpan.row]
 refine zA ?_
 refine(A9 b).elim (fun w=> ?_) (fun w=> ?_)
 .simp[go_sem,w]
  refine zA ?_
  simp[go_sem,em]
  exact zG (m+1,true) ⟨(fin true (by rw[af,w];rfl)).1,(fin true (by rw[af,w];rfl)).2,aN 8 (ao ..)⟩
 refine(A9 (Op.bytesLess k x.lo)).elim (fun w1=> ?_) (fun w1=> ?_)
 .simp[go_sem,w,w1]
  refine zA ?_
  simp[go_sem,em]
  exact zG (m+1,false) ⟨(fin false (by rw[af,w,w1];rfl)).1,(fin false (by rw[af,w,w1];rfl)).2,aN 8 (ao ..)⟩
 refine(A9 (Op.bytesLess k x.hi)).elim (fun w2=> ?_) (fun w2=> ?_)
 .simp[go_sem,w,w1,w2]
  refine zA ?_
  simp[go_sem,em]
  exact zG (m+1,true) ⟨(fin true (by rw[af,w,w1,w2];rfl)).1,(fin true (by rw[af,w,w1,w2];rfl)).2,aN 8 (ao ..)⟩
 .simp[go_sem,w,w1,w2]
  refine zA ?_
  simp[go_sem,em]
  exact zG (m+1,false) ⟨(fin false (by rw[af,w,w1,w2];rfl)).1,(fin false (by rw[af,w,w1,w2];rfl)).2,aN 8 (ao ..)⟩
end Go.Proofs.YtefbicjgbaaieaaGreat
