/-
  exec.run's stmt: what one statement of a lot does to what is there; used by the walk of exec.Run.
  Conditions: as the theorem states them.
-/
import Derived.Test.YtkigddpaonhmlaaGreatXBI
import Derived.Test.YtkigddpaonhmlaaGreatXBG
import Derived.Test.YtkigddpaonhmlaaGreatXBJ
import Derived.Test.YtkigddpaonhmlaaGreatXBF
set_option maxHeartbeats 8000000
namespace Go.Proofs.YtkigddpaonhmlaaGreat
open Go Go.Vx R Go.Proofs.Tryz
set_option maxRecDepth 100000
theorem NowOk.get {b:Mp (List UInt8)} {l:List Ln} (h:NowOk b l) {p:Pl} {d:List UInt8}:b.get p=some d↔ ∃x∈l,x.at=p/\yL x.v=d:=by
 rw[Mp.get_mem h.ok,h.perm.mem_iff,Ac]
 constructor
 .rintro⟨x,hx,he⟩
  simp only[Prod.mk.injEq]at he
  exact⟨x,hx,he⟩
 .rintro⟨x,hx,h1,h2⟩
  exact⟨x,hx,by rw[h1,h2]⟩
theorem NowOk.get_none {b:Mp (List UInt8)} {l:List Ln} (h:NowOk b l) {p:Pl}:b.get p=none↔atF l p=false:=get_isNone.trans h.at_none
def isN (a:Mp (List UInt8)) (e:Pl×List UInt8):Bool:=a.get e.1 !=some e.2
def isO (b:Mp (List UInt8)) (e:Pl×List UInt8):Bool:=(b.get e.1).isNone
def keyN (a:Mp (List UInt8)) (D:List (Pl×List UInt8)):List Pl:=(D.filter (isN a)).map (·.1)
def keyO (b:Mp (List UInt8)) (D:List (Pl×List UInt8)):List Pl:=(D.filter (isO b)).map (·.1)
def wrB (b:Mp (List UInt8)) (p:Pl):Wr:=⟨p,(b.get p).isNone,(b.get p).getD []⟩
theorem xn0 {a b:Mp (List UInt8)} {was now:List Ln} (ha:NowOk a was) (hb:NowOk b now) {L:List Pl} (hp:L.Perm (keyN a b.W++keyO b a.W)) (hs:L.Pairwise fun p q=> ¬ordP q p<0):L.map (wrB b)=chgF was now:=by
 have nN:(keyN a b.W).Nodup:=List.Nodup.sublist ((C0).map _) hb.keys
 have nO:(keyO b a.W).Nodup:=List.Nodup.sublist ((C0).map _) ha.keys
 have nL:L.Nodup:=by
  rw[hp.nodup_iff,Df]
  refine⟨nN,nO,fun p h1 q h2 e=> ?_⟩
  subst e
  obtain⟨e1,he1,rfl⟩:=Ac.1 h1
  obtain⟨e2,he2,h3⟩:=Ac.1 h2
  have h4:=(Mp.get_mem hb.ok).2 (B9.1 he1).1
  have h5:=(B9.1 he2).2
  unfold isO at h5
  rw[h3,h4]at h5
  cases h5
 have hr:Rise L:=by
  have:=xH2 (kx:=fun p:Pl=>p) (l:=L) hs (by rw[Dv];exact nL)
  rwa [Dv]at this
 obtain⟨c1,c2⟩:=yt7 ha.rise hb.rise
 refine yQ8 ?_ c1 fun w=> ?_
 .unfold zz0
  rw[Cl]
  exact hr
 rw[c2 w,Ac]
 have hm: ∀p,p∈L↔p∈keyN a b.W∨p∈keyO b a.W:=fun p=>by rw[hp.mem_iff,B4]
 constructor
 .rintro⟨p,hpL,rfl⟩
  rcases(hm p).1 hpL with h|h
  .obtain⟨⟨p',d⟩,he,rfl⟩:=Ac.1 h
   obtain⟨he1,he2⟩:=B9.1 he
   have hg:=(Mp.get_mem hb.ok).2 he1
   obtain⟨x,hx,hx1,hx2⟩:=hb.get.1 hg
   refine .inr ⟨by simp[wrB,hg],x,hx,hx1,by simp[wrB,hg,hx2],fun y hy hy1 hy2=> ?_⟩
   have:=ha.get.2 ⟨y,hy,hy1.trans hx1,hy2.trans hx2⟩
   simp[isN,this]at he2
  .obtain⟨⟨p',d⟩,he,rfl⟩:=Ac.1 h
   obtain⟨he1,he2⟩:=B9.1 he
   have hg:=(Mp.get_mem ha.ok).2 he1
   have hn:b.get p'=none:=by simpa[isO]using he2
   obtain⟨x,hx,hx1,hx2⟩:=ha.get.1 hg
   exact .inl ⟨by simp[wrB,hn],by simp[wrB,hn],⟨x,hx,hx1⟩,hb.get_none.1 hn⟩
 .rintro(⟨h1,h2,⟨x,hx,hx1⟩,h3⟩|⟨h1,x,hx,hx1,hx2,h3⟩)
  .have hn:=hb.get_none.2 h3
   have hg:=ha.get.2 ⟨x,hx,hx1,rfl⟩
   refine⟨w.p,(hm _).2 (.inr (Ac.2 ⟨(w.p,yL x.v),B9.2 ⟨(Mp.get_mem ha.ok).1 hg,by simp[isO,hn]⟩,rfl⟩)), ?_⟩
   obtain⟨p,dr,da⟩:=w
   simp only at h1 h2 hn
   simp[wrB,hn,h1,h2]
  .have hg:=hb.get.2 ⟨x,hx,hx1,hx2⟩
   refine⟨w.p,(hm _).2 (.inl (Ac.2 ⟨(w.p,w.data),B9.2 ⟨(Mp.get_mem hb.ok).1 hg, ?_⟩,rfl⟩)), ?_⟩
   .simp only[isN,bne_iff_ne,ne_eq]
    intro h
    obtain⟨y,hy,hy1,hy2⟩:=ha.get.1 h
    exact h3 y hy (hy1.trans hx1.symm) (hy2.trans hx2.symm)
   .obtain⟨p,dr,da⟩:=w
    simp only at h1 hg
    simp[wrB,hg,h1]
theorem xJ3 {P:Program} {c:Ctx} {σ:St} {f:FuncId} {caps args args':List V} {KV:V->St->Prop} {rows:List (List V)} {w n:Nat} (hc:VCalls P f args' [] fun r s=>r= .lsv 0 w n 0 n/\s= [.lst rows w]) (hb:wS P f=true) (hlt:ltOb 0 (.lst rows w)=true)
  (hargs:All2 (argS (ren [] σ.length)) args' (args++caps)) (hK:KV (.lsv σ.length w n 0 n) (σ++ [.lst rows w])):wVC P c (.fn f caps) args σ KV fx:=by
 refine VC.of hc hb [] D5 rfl (fun i j o h=>by simp at h) hargs fun r s h _=> ?_
 obtain⟨rfl,rfl⟩:=h
 have e:xE [] σ [.lst rows w]=σ++ [.lst rows w]:=by
  simp only[xE,mset,Bd,D7,Al,Br]
  rw[wD (n:=0) (fun _ h=>absurd h (Bg _)) hlt]
 rw[e]
 have e2:renS (ren [] σ.length) (.lsv 0 w n 0 n)= .lsv σ.length w n 0 n:=by
  simp[renS,renA,renC,renK,ren]
 rw[e2]
 exact hK
def updR (a:Mp (List UInt8)) (sn:Mp Int) (m:List Ln) (B:Mp (List UInt8)) (M:List Ln×Int) (r:V) (s:St):Prop:=
 s=runS a B sn++ [.lst (m.map Ln.row) 3]/\((M.2≠0/\r= .tup [.agg (Ot.row ⟨0,[]⟩),.int .i64 M.2])∨(M.2=0/\r= .tup [.agg (Ot.row ⟨m.length,[]⟩),.int .i64 0]/\NowOk B M.1))
def updB (T:GTable) (sets:List GAssign):List Ln->Mp (List UInt8)->Mp (List UInt8)
 | [],b=>b
 |x::m,b=>
  if(setF T x.v sets x.v).2≠0 then b
  else if mayT T.cols (setF T x.v sets x.v).1≠0 then b
  else updB T sets m (b.put x.at (yL (setF T x.v sets x.v).1))
theorem xi1 {b:Mp (List UInt8)} {r:Int} {k d:List UInt8} {w:Nat×List UInt8} (h:b.at (r,k)=some w):Ob.mp (((kvE V.str b.W).set (2*w.1) (.agg [.int .i64 r,.str k])).set (2*w.1+1) (.str d)) b.bs b.clk=(b.put (r,k) d).ob V.str:=by
 unfold Mp.put Mp.ob
 rw[h]
 show _=Ob.mp (kvE V.str (b.W.set w.1 ((r,k),d))) _ _
 rw[<-xs4]
 rfl
theorem yf9 {x:Ln} (h:LnOk x):1<=x.v.length/\x.v.length<=20:=by
 obtain⟨tn,T,_,hT,hm⟩:=h.tab
 have h1:=zj4 hm
 have h2:=(by decide: ∀T∈tabsS,1<=T.cols.length/\T.cols.length<=20) T (B1 hT)
 omega
theorem yV0 (T:GTable) (name:List UInt8):colF T name<T.cols.length:=by
 have h:=zt6 (fun c:GCol=>c.name==name) T.cols 0
 unfold colF
 omega
theorem xy8 (tn:Nat) (T:GTable) (hT:tabsS[tn]? =some T) (st:GStmt) (hst:SOk st) (hcol: ∀x∈st.sets,0<=colF T x.name) (a b:Mp (List UInt8)) (sn:Mp Int) (l m:List Ln) (hnow:NowOk b l) (hm: ∀x∈m,atF l x.at=true/\LnOk x/\(ofS x.r).1=(tn:Int)) (hl:m.length<=10000):
  VCalls prog 34 [.ptr 3 0,.agg T.row,.agg st.row,.lsv 4 3 m.length 0 m.length] (runS a b sn++ [.lst (m.map Ln.row) 3]) (updR a sn m (updB T st.sets m b) (updF T st.sets m l)):=by
 generalize hM:updF T st.sets m l=M
 generalize hB:updB T st.sets m b=B
 have ok5: ∀(b':Mp (List UInt8)),(runS a b' sn++([.lst (m.map Ln.row) 3]:St)).all (ltOb 5)=true:=fun b'=>by
  have h:=xM 5 (by decide) a b' sn
  rw[Ea,h]
  simp[ltOb,ltC,ltK,Ln.row]
 have good: ∀(b':Mp (List UInt8)) (σl:St) (l':List Ln),b'=B->M=(l',0)->NowOk b' l'->wret (some (.tup [.agg [.sl .full [],.int .i64 m.length],.int .i64 0])) 5 (updR a sn m B M) (a.ob .str::b'.ob .str::sn.ob (V.int .i64):: .box [.sl .ro xX,.sl .ro (tabsS.map GTable.row),.mp 0,.mp 1,.mp 2]:: .lst (m.map Ln.row) 3::σl):=fun b' σl l' h0 h1 h2=>
  xJ 5 (s:=runS a b' sn++ [.lst (m.map Ln.row) 3]) (r:= .tup [.agg (Ot.row ⟨m.length,[]⟩),.int .i64 0]) rfl rfl (ok5 b') (A2 _) (xT ⟨zc5 ⟨yX,zZ rfl,trivial⟩,za6 rfl,trivial⟩) ⟨by rw[h0],.inr ⟨by rw[h1],rfl,by rw[h1,<-h0];exact h2⟩⟩
 have bad: ∀(b':Mp (List UInt8)) (e:Int) (σl:St),b'=B->M.2=e->e≠0->wret (some (.tup [.agg [.sl .full [],.int .i64 0],.int .i64 e])) 5 (updR a sn m B M) (a.ob .str::b'.ob .str::sn.ob (V.int .i64):: .box [.sl .ro xX,.sl .ro (tabsS.map GTable.row),.mp 0,.mp 1,.mp 2]:: .lst (m.map Ln.row) 3::σl):=fun b' e σl h0 h1 h2=>
  xJ 5 (s:=runS a b' sn++ [.lst (m.map Ln.row) 3]) (r:= .tup [.agg (Ot.row ⟨0,[]⟩),.int .i64 e]) rfl rfl (ok5 b') (A2 _) (xT ⟨zc5 ⟨yX,zZ rfl,trivial⟩,za6 rfl,trivial⟩) ⟨by rw[h0],.inl ⟨by rw[h1];exact h2,by rw[h1]⟩⟩
 refine iV 5 func34 ntmps34 results34 fun c hc hb=> ?_
 refine zA ?_
 simp[go_sem,runS,runB]
 have okS: ∀(b':Mp (List UInt8)),([a.ob .str,b'.ob .str,sn.ob (V.int .i64),.box [.sl .ro xX,.sl .ro (tabsS.map GTable.row),.mp 0,.mp 1,.mp 2],.lst (m.map Ln.row) 3,.box T.row,.box st.row,.box out0]:St).all (ltOb 8)=true:=fun b'=>by
  have h:=xM 8 (by omega) a b' sn
  simp only[runS,runB,Am,Cp,Cx]at h⊢
  rw[A4,A4,A4]at h⊢
  refine⟨h.1,h.2.1,h.2.2.1, ?_⟩
  rw[A4]
  exact⟨h.2.2.2,by simp[ltOb,ltC,ltK,GStmt.row,GTable.row,Ln.row,out0]⟩
 have okS10: ∀(b':Mp (List UInt8)) (x:Ln) (row:List GValue),([a.ob .str,b'.ob .str,sn.ob (V.int .i64),.box [.sl .ro xX,.sl .ro (tabsS.map GTable.row),.mp 0,.mp 1,.mp 2],.lst (m.map Ln.row) 3,.box T.row,.box st.row,.box out0,.box x.row,.lst (row.map GValue.row) 3]:St).all (ltOb 10)=true:=fun b' x row=>by
  have h:=xM 10 (by omega) a b' sn
  simp only[runS,runB,Am,Cp,Cx]at h⊢
  rw[A4,A4,A4]at h⊢
  refine⟨h.1,h.2.1,h.2.2.1, ?_⟩
  rw[A4]
  exact⟨h.2.2.2,by simp[ltOb,ltC,ltK,GStmt.row,GTable.row,Ln.row,GValue.row,out0]⟩
 have hTc:T.cols.length<=maxLen:=(by decide: ∀T∈tabsS,T.cols.length<=maxLen) T (B1 hT)
 have hlen: ∀x,LnOk x->(ofS x.r).1=(tn:Int)->x.v.length=T.cols.length:=fun x hx hxt=>by
  obtain⟨tn',T',h1,h2,h3⟩:=hx.tab
  have:tn'=tn:=by omega
  subst this
  rw[hT]at h2
  cases h2
  exact zj4 h3
 refine zL (S:=Nat×Mp (List UInt8)×List Ln) [0,3,5,6,8,9,18,19,20] (fun u=> [.ptr 3 0,.lsv 4 3 m.length 0 m.length,.ptr 5 0,.ptr 6 0,.ptr 7 0,.int .i64 0,.lsv 4 3 m.length 0 m.length,.int .i64 m.length,.int .i64 u.1])
  (fun u=> [a.ob .str,u.2.1.ob .str,sn.ob (V.int .i64),.box [.sl .ro xX,.sl .ro (tabsS.map GTable.row),.mp 0,.mp 1,.mp 2],.lst (m.map Ln.row) 3,.box T.row,.box st.row,.box out0]) (fun u=>m.length - u.1)
  (fun u=>u.1<=m.length/\NowOk u.2.1 u.2.2/\(∀p,atF u.2.2 p=atF l p)/\updF T st.sets (m.drop u.1) u.2.2=M/\updB T st.sets (m.drop u.1) u.2.1=B) hc hb (0,b,l) ⟨A3 _,hnow,fun _=>rfl,hM,hB⟩ ?_ ?_
 .exact at_n 8 (by simp[go_sem,out0]) rfl (okS b) (by decide) (zG (by simp[go_sem]) rfl)
 rintro⟨i,b1,l1⟩ ⟨hi,hn1,hat1,hM1,hB1⟩
 simp only at hi hn1 hat1 hM1 hB1
 by_cases q:i<m.length
 rotate_left
 .rw[A9 (by omega),updF]at hM1
  rw[A9 (by omega),updB]at hB1
  refine zA ?_
  simp[go_sem,q,out0]
  exact good b1 _ l1 hB1 hM1.symm hn1
 have ei:=zV q (by omega)
 obtain⟨x,hx⟩:=eX (m[i])
 obtain⟨hxa,hxo,hxt⟩:=hm x (hx▸A8 q)
 refine zA ?_
 simp[go_sem,q,hx]
 have hxl:=yf9 hxo
 have hcl:=yC0 x.v (by omega) (fun h=>by rw[h]at hxl;simp at hxl)
 refine xJ3 hcl cB (by simp[ltOb,ltC,ltK,GValue.row]) ⟨zX,trivial⟩ ?_
 simp[go_sem,out0]
 obtain⟨E,hE⟩:=eX (setF T x.v st.sets x.v)
 rw[A6 q,hx,updF,hE]at hM1
 rw[A6 q,hx,updB,hE]at hB1
 have hsn:=hst.sets
 refine zL (S:=Nat×List GValue) [0,3,5,6,8,9,11,12,18,19,20,28,29,30] (fun u=> [.ptr 3 0,.lsv 4 3 m.length 0 m.length,.ptr 5 0,.ptr 6 0,.ptr 7 0,.int .i64 0,.ptr 8 0,.lsv 9 3 x.v.length 0 x.v.length,.lsv 4 3 m.length 0 m.length,.int .i64 m.length,.int .i64 i,.sl .ro (st.sets.map GAssign.row),.int .i64 st.sets.length,.int .i64 u.1])
  (fun u=> [a.ob .str,b1.ob .str,sn.ob (V.int .i64),.box [.sl .ro xX,.sl .ro (tabsS.map GTable.row),.mp 0,.mp 1,.mp 2],.lst (m.map Ln.row) 3,.box T.row,.box st.row,.box out0,.box x.row,.lst (u.2.map GValue.row) 3]) (fun u=>st.sets.length - u.1)
  (fun u=>u.1<=st.sets.length/\u.2.length=x.v.length/\setF T x.v (st.sets.drop u.1) u.2=E) hc hb (0,x.v) ⟨A3 _,rfl,hE⟩ ?_ ?_
 .exact at_n 10 (by simp[go_sem,out0]) rfl (okS10 b1 x x.v) (by decide) (zG (by simp[go_sem]) rfl)
 rintro⟨j,row⟩ ⟨hj,hrl,hE1⟩
 simp only at hj hrl hE1
 by_cases qj:j<st.sets.length
 .have ej:=zV qj (by omega)
  obtain⟨y,hy⟩:=eX (st.sets[j])
  have hyo:=(hsn.2 y (hy▸A8 qj)).2
  have hyc:=hcol y (hy▸A8 qj)
  rw[A6 qj,hy,setF]at hE1
  have hcall:=ys9 T hTc x.v hxo.ok y.e hyo
  have hcw:Pure prog 75 [.agg T.row,.str y.name] (.int .i64 (colF T y.name)):=ym4 T y.name hTc
  obtain⟨k,hk⟩: ∃k:Nat,colF T y.name=k:=⟨(colF T y.name).toNat,by omega⟩
  have hkl:k<row.length:=by
   have h1:=yV0 T y.name
   rw[hrl,hlen x hxo hxt]
   omega
  have hkx:k<x.v.length:=by omega
  rw[hk]at hcw hE1
  simp only[Ax]at hE1
  obtain⟨⟨v,er⟩,hv⟩: ∃kv,evR T x.v y.e=kv:=⟨_,rfl⟩
  rw[hv]at hE1 hcall
  simp only at hE1
  refine zA ?_
  simp[go_sem,qj,hy]
  refine zD hcall cB ⟨zC rfl,zX,zN2 y.e,trivial⟩ rfl ?_
  simp[go_sem,valP]
  by_cases q2:er=0
  rotate_left
  .have q2':(er !=0)=true:=by simpa using q2
   rw[if_pos q2]at hE1
   subst hE1
   simp only at hM1 hB1
   rw[if_pos q2]at hM1 hB1
   simp[go_sem,q2',out0]
   exact bad b1 er _ hB1 (by rw[<-hM1]) q2
  have q2':(er !=0)=false:=by simpa using q2
  rw[if_neg (fun h=>h q2)]at hE1
  simp[go_sem,q2']
  refine yU [(4,0)] 12 rfl (by kernel_rfl) (by kernel_rfl) ?_
  simp[go_sem]
  refine zW hcw cB (fun _=>⟨zC rfl,zC rfl,trivial⟩) rfl ?_
  simp[go_sem]
  refine zJ (by omega) ?_
  simp[go_sem,hrl,hkx,ej]
  exact zI (j+1,row.set k v) ⟨by show st.sets.length - (j+1)<st.sets.length - j;omega,⟨qj,by show(row.set k v).length=_;rw[E8];exact hrl,hE1⟩,at_n 10 (by simp[go_sem,out0,List.map_set]) rfl (okS10 b1 x _) (by decide) (zG (by simp[go_sem]) rfl)⟩
 rw[A9 (by omega),setF]at hE1
 subst hE1
 simp only at hM1 hB1
 rw[if_neg (fun h=>h rfl)]at hM1 hB1
 have hrx:=hlen x hxo hxt
 have hvo: ∀v∈row,v.ok:=by
  have h1:=zZ3 (T:=T) hxo.ok (sets:=st.sets) (row:=x.v) (fun y hy=>(hsn.2 y hy).2) hxo.ok
  rw[hE]at h1
  exact(h1 rfl).2
 have hmay:=yA4 T row (by unfold maxLen;omega)
 have hpu:xW (row.map GValue.row)=true:=by simp[xW,zg3,GValue.row]
 obtain⟨mr,hmr⟩:=eX (mayT T.cols row)
 rw[hmr]at hM1 hmay hB1
 have hLr:mr=0->LightR row:=fun h0=>zz9 ((by decide: ∀T∈tabsS,T.cols.length<=20) T (B1 hT)) hvo (hmr.trans h0)
 have hdata:=fun h0=>xk5 row (hLr h0)
 obtain⟨w0,hat⟩: ∃w0,b1.at x.at=some w0:=by
  cases h:b1.at x.at with
  |none=>have:=hat1 x.at;rw[hxa,hn1.at_none.1 h]at this;cases this
  |some w=>exact⟨w,rfl⟩
 have eB:b1.ob .str= .mp (kvE .str b1.W) b1.bs b1.clk:=rfl
 have hat':idxW (x.r,x.k) b1.W=some w0:=hat
 have hput:=xi1 (d:=yL row) (r:=x.r) (k:=x.k) hat
 have hnew:mr=0->NowOk (b1.put x.at (yL row)) (putF l1 x.at row):=fun h0=>hn1.turn x.at row (by rw[hat1];exact hxa) ⟨⟨tn,T,hxt,hT,hmr.trans h0⟩,hxo.err,hvo⟩
 have hch:za3 (row.map GValue.row) 0 x.v.length=row.map GValue.row:=by
  rw[<-hrl]
  unfold za3
  rw[Bd,Au (by simp),Bq]
  exact Bm fun _ _=>rfl
 refine zA ?_
 simp[go_sem,qj]
 refine xz3 hmay cB (.step 9 3 (row.map GValue.row) rfl hpu (.refl _ _)) (zR (by simp[frzS,frzA,frzC,frzK,hch,hrl,go_sem]) rfl) rfl ?_
 simp[go_sem]
 by_cases m0:mr=0
 rotate_left
 .have m0':(mr !=0)=true:=by simpa using m0
  rw[if_pos m0]at hM1 hB1
  simp[go_sem,m0',out0]
  exact bad b1 mr _ hB1 (by rw[<-hM1]) m0
 have m0':(mr !=0)=false:=by simpa using m0
 rw[if_neg (fun h=>h m0)]at hM1 hB1
 simp[go_sem,m0']
 refine yU [(7,1)] 10 rfl (by kernel_rfl) (by kernel_rfl) ?_
 simp[go_sem]
 refine xz5 (hdata m0) cB (fun s hs=>⟨_,_,.step 9 3 (row.map GValue.row) ((Kp.get (k:=Kp.pre 10) rfl hs).trans rfl) hpu (.refl _ _),zR (by simp[frzS,frzA,frzC,frzK,hch,hrl,go_sem]) rfl⟩) rfl ?_
 simp[go_sem,eB,zb4,hat',za2,zd2,hput,ei]
 exact zI (i+1,b1.put x.at (yL row),putF l1 x.at row) ⟨by show m.length - (i+1)<m.length - i;omega,⟨q,hnew m0,fun p=>by show atF (putF l1 x.at row) p=_;rw[yB0];exact hat1 p,hM1,hB1⟩,at_n 8 (by simp[go_sem,out0];rfl) rfl (okS _) (by decide) (zG (by simp[go_sem]) rfl)⟩
theorem yB9 (l:List GValue) (hl:l.length<=10000) (hz:l≠ []):Pure prog 79 [.sl .ro (l.map GValue.row)] (.sl .ro (l.map GValue.row)):=by
 refine(yC0 l hl hz).frz fun r s h=> ?_
 obtain⟨rfl,rfl⟩:=h
 have hch:za3 (l.map GValue.row) 0 l.length=l.map GValue.row:=by
  unfold za3
  rw[Bd,Au (by simp),Bq]
  exact Bm fun _ _=>rfl
 refine⟨_,_,.step 0 3 (l.map GValue.row) rfl (by simp[xW,zg3,GValue.row]) (.refl _ _), ?_⟩
 simp only[frzS,frzA,frzC,frzK,Aq,Aa,A2,and_self,if_true,hch]
 exact zX
def selV (r:Ot×Int):V:= .tup [.agg r.1.row,.int .i64 r.2]
theorem xC7 (T:GTable) (name:List UInt8) (h:0<=colF T name): ∃k:Nat,colF T name=k/\k<T.cols.length:=by
 have:=yV0 T name
 exact⟨(colF T name).toNat,by omega,by omega⟩
theorem xH5 (T:GTable) (st:GStmt) (l:List Ln) (h:zD9 st.items=false):selF T st l=(if(zv0 T st.items (limF st.limit (if 0<=colF T st.order then zg4 (colF T st.order).toNat st.down l else l)) []).2≠0 then(⟨0,[]⟩,(zv0 T st.items (limF st.limit (if 0<=colF T st.order then zg4 (colF T st.order).toNat st.down l else l)) []).2)else(⟨0,(zv0 T st.items (limF st.limit (if 0<=colF T st.order then zg4 (colF T st.order).toNat st.down l else l)) []).1⟩,0)):=by
 unfold selF
 rw[if_neg (by rw[h];decide)]
theorem zD6 (c:Nat) (down:Bool) (l:List Ln):(zg4 c down l).Perm l:=by
 unfold zg4
 have h: ∀(m out:List Ln),(m.foldl (fun out x=>insB (fun y=>decide (0<cmpC c down y x)) out x) out).Perm (out++m):=by
  intro m
  induction m with
  |nil=>intro out;simp
  |cons x m ih=>
   intro out
   refine(ih _).trans ?_
   refine((yo9 _ out x).append_right m).trans ?_
   exact Du.symm
 exact h l []
def chL (T:GTable) (st:GStmt) (l:List Ln):List Ln:=if zD9 st.items=true then l else if 0<=colF T st.order then zg4 (colF T st.order).toNat st.down l else l
theorem yu2 (tn:Nat) (T:GTable) (hT:tabsS[tn]? =some T) (st:GStmt) (hst:SOk st) (hit:st.items≠ []) (l:List Ln) (hl:l.length<=10000) (hok: ∀x∈l,LnOk x/\x.v.length=T.cols.length):
  VCalls prog 33 [.agg T.row,.agg st.row,.lsv 0 3 l.length 0 l.length] [.lst (l.map Ln.row) 3] (fun r s=>r=selV (selF T st l)/\s= [.lst ((chL T st l).map Ln.row) 3]):=by
 have hTc:T.cols.length<=maxLen:=(by decide: ∀T∈tabsS,T.cols.length<=maxLen) T (B1 hT)
 have hT20:T.cols.length<=20:=(by decide: ∀T∈tabsS,T.cols.length<=20) T (B1 hT)
 have hwh:=xK0 st hst
 have hone:=xW0 T hTc st hst l hl (fun x hx=>(hok x hx).1.ok)
 obtain⟨wb,hwb⟩:=eX (zD9 st.items)
 rw[hwb]at hwh
 have hcw:Pure prog 75 [.agg T.row,.str st.order] (.int .i64 (colF T st.order)):=ym4 T st.order hTc
 obtain⟨M,hM⟩:=eX (selF T st l)
 rw[hM]
 obtain⟨C,hC⟩:=eX (chL T st l)
 rw[hC]
 have hC1:wb=true->C=l:=fun h=>by rw[<-hC];unfold chL;rw[if_pos (hwb.trans h)]
 have hC2:wb=false->C=if 0<=colF T st.order then zg4 (colF T st.order).toNat st.down l else l:=fun h=>by rw[<-hC];unfold chL;rw[if_neg (by rw[hwb,h];decide)]
 have hM1:wb=true->oneV (zH3 T l st.items [])=selV M:=fun h=>by
  rw[<-hM]
  unfold oneV selV selF
  rw[if_pos (hwb.trans h)]
  by_cases q:(zH3 T l st.items []).2=0
  .rw[if_pos q,if_neg (fun h=>h q)]
  .rw[if_neg q,if_pos q]
 have hM2:=fun h:wb=false=>(xH5 T st l (hwb.trans h)).symm.trans hM
 clear hM
 refine iV 1 func33 ntmps33 results33 fun c hc hb=> ?_
 refine zS (zA ?_)
 simp[go_sem]
 refine zS (zA ?_)
 simp[go_sem]
 refine zD hwh cB ⟨zC rfl,trivial⟩ rfl ?_
 refine(A7 wb).elim (fun w=> ?_) (fun w=> ?_)
 .rw[hM1 w]at hone
  simp[go_sem,w]
  refine zl2 0 hone cB rfl (by simp[ltOb,ltC,ltK,Ln.row]) ⟨zC rfl,zC rfl,.inl rfl,trivial⟩ (by rintro r s ⟨rfl,rfl⟩;exact⟨_,rfl,by simp[ltOb,ltC,ltK,Ln.row]⟩) ?_
  rintro r o ⟨rfl,ho⟩
  cases ho
  simp[go_sem,selV,Ot.row]
  exact xJ 1 (s:= [.lst (l.map Ln.row) 3]) (r:= .tup [.agg (Ot.row M.1),.int .i64 M.2]) rfl rfl (by simp[ltOb,ltC,ltK,Ln.row]) (A2 _) (xT ⟨zc5 ⟨yX,zZ rfl,trivial⟩,za6 rfl,trivial⟩) ⟨rfl,by rw[hC1 w]⟩
 .have hM:=hM2 w
  clear hM1 hM2 hone
  obtain⟨m,hm⟩:=eX ((if 0<=colF T st.order then zg4 (colF T st.order).toNat st.down l else l))
  rw[hm]at hM
  have hCm:C=m:=(hC2 w).trans hm
  have hmp:m.Perm l:=by
   rw[<-hm]
   split
   .exact zD6 _ _ _
   .exact List.Perm.refl _
  have hmn:=hmp.length_eq
  have hsl:0<=colF T st.order-> ∃k:Nat,colF T st.order=k/\VCalls prog 76 [.ifc 118 [.lsv 0 3 l.length 0 l.length],.fn 77 [.ptr 3 0,.ptr 5 0,.ptr 2 0]] (chS T st k (l.map Ln.row) l.length) (fun r s=>r= .tup []/\s=chS T st k (m.map Ln.row) l.length):=fun h0=>by
   obtain⟨k,hk,hkl⟩:=xC7 T st.order h0
   have hs:=ym2 T st k (by omega) l hl (fun x hx=>by rw[(hok x hx).2];exact hkl)
   rw[if_pos h0,hk,Ax]at hm
   rw[hm]at hs
   exact⟨k,hk,hs⟩
  have hsl2: ¬0<=colF T st.order->m=l:=fun h=>by rw[<-hm,if_neg h]
  clear hm
  simp[go_sem,w]
  refine zc0 (S:=Unit) [3,4,5,6] (fun _=> [.ptr 1 0,.ptr 2 0,.ptr 3 0,.ptr 4 0]) (fun _=>chS T st (colF T st.order) (m.map Ln.row) l.length) (fun _=>True) hc hb ?_ ?_
  .by_cases h0:0<=colF T st.order
   .obtain⟨k,hk,hs⟩:=hsl h0
    rw[hk]at hcw⊢
    refine zA ?_
    simp[go_sem]
    refine zD hcw cB ⟨zC rfl,zC rfl,trivial⟩ rfl ?_
    simp[go_sem,zV5]
    refine zB0 (caps:= []) (args:= [.ifc 118 [.lsv 0 3 l.length 0 l.length],.fn 77 [.ptr 3 0,.ptr 5 0,.ptr 2 0]]) hs cB ?_
    rintro r s ⟨rfl,rfl⟩ _
    simp[go_sem]
    exact zI () ⟨trivial,at_n 6 (by simp[go_sem,chS]) rfl (zF2 T st k m l.length) (by decide) (zG (by simp[go_sem]) rfl)⟩
   .rw[hsl2 h0]
    refine zA ?_
    simp[go_sem]
    refine zD hcw cB ⟨zC rfl,zC rfl,trivial⟩ rfl ?_
    simp[go_sem,h0]
    exact zI () ⟨trivial,at_n 6 (by simp[go_sem,chS,out0]) rfl (zF2 T st _ l l.length) (by decide) (zG (by simp[go_sem]) rfl)⟩
  rintro _ _
  clear hsl hsl2 hcw
  generalize colF T st.order=col at*
  obtain⟨k,hkm,hkl⟩: ∃k,limF st.limit m=m.take k/\k<=m.length/\(k=if 0<=st.limit/\st.limit<m.length then st.limit.toNat else m.length):=by
   unfold limF
   by_cases h0:0<=st.limit
   .rw[if_pos h0]
    by_cases h1:st.limit<m.length
    .exact⟨st.limit.toNat,rfl,by omega,by rw[if_pos ⟨h0,h1⟩]⟩
    .exact⟨m.length,by rw[Au (by omega),Dp],A2 _,by rw[if_neg (fun h=>h1 h.2)]⟩
   .rw[if_neg h0]
    exact⟨m.length,by rw[Dp],A2 _,by rw[if_neg (fun h=>h0 h.1)]⟩
  obtain⟨hkl,hkv⟩:=hkl
  rw[hkm]at hM
  rw[hmn]at hkl hkv
  refine zc0 (S:=Unit) [3,4,5,6] (fun _=> [.ptr 1 0,.ptr 2 0,.ptr 3 0,.ptr 4 0]) (fun _=> [.lst (m.map Ln.row) 3,.box T.row,.box st.row,.box [.lsv 0 3 l.length 0 k],.box out0,.box [.int .i64 col]]) (fun _=>True) hc hb ?_ ?_
  .have ok6:([.lst (m.map Ln.row) 3,.box T.row,.box st.row,.box [.lsv 0 3 l.length 0 k],.box out0,.box [.int .i64 col]]:St).all (ltOb 6)=true:=by simp[ltOb,ltC,ltK,Ln.row,GTable.row,GStmt.row,out0]
   by_cases h0:0<=st.limit
   .by_cases h1:st.limit<l.length
    .rw[if_pos ⟨h0,h1⟩]at hkv
     refine zA ?_
     simp[go_sem,chS,h0,h1]
     refine zJ (by omega) ?_
     simp[go_sem,<-hkv]
     exact zI () ⟨trivial,aN 6 ok6⟩
    .rw[if_neg (fun h=>h1 h.2)]at hkv
     subst hkv
     refine zA ?_
     simp[go_sem,chS,h0,h1]
     exact zI () ⟨trivial,aN 6 ok6⟩
   .rw[if_neg (fun h=>h0 h.1)]at hkv
    subst hkv
    refine zA ?_
    simp[go_sem,chS,h0]
    exact zI () ⟨trivial,aN 6 ok6⟩
  rintro _ _
  clear hkv hkm
  refine zS (zA ?_)
  simp[go_sem]
  refine zH6 6 0 1 _ (by decide) rfl rfl ?_
  obtain⟨y0,ys,hys⟩: ∃y0 ys,st.items=y0::ys:=by
   cases h:st.items with
   |nil=>exact absurd h hit
   |cons y ys=>exact⟨y,ys,rfl⟩
  obtain⟨J,hJ⟩:=eX st.items
  obtain⟨hJl,hJx⟩:=hst.items
  rw[hJ]at hJl hJx hM
  have hJ0:J.head?.map (·.kind)=some y0.kind:=by rw[<-hJ,hys];rfl
  have hJ1: ∃h:0<J.length,J[0]=y0:=by rw[<-hJ,hys];exact⟨Nat.succ_pos _,rfl⟩
  obtain⟨hJp,hJ1⟩:=hJ1
  obtain⟨P,hP⟩:=eX (zv0 T J (m.take k) [])
  rw[hP]at hM
  have hmo: ∀x∈m,LnOk x:=fun x hx=>(hok x (hmp.mem_iff.1 hx)).1
  have fin: ∀(rows:List (List GValue)) (σl:St),P=(rows,0)->wret (some (.tup [.agg [.sl (.app 7) (rows.map fun r=> [V.sl .ro (r.map GValue.row)]),.int .i64 0],.int .i64 0])) 1 (fun r s=>r=selV M/\s= [.lst (C.map Ln.row) 3]) (.lst (m.map Ln.row) 3::σl):=fun rows σl h=>by
   rw[h,if_neg (fun h=>h rfl)]at hM
   exact xJ 1 (s:= [.lst (m.map Ln.row) 3]) (r:= .tup [.agg (Ot.row ⟨0,rows⟩),.int .i64 0]) rfl rfl (by simp[ltOb,ltC,ltK,Ln.row]) (A2 _) (xT ⟨zc5 ⟨yX,zZ rfl,trivial⟩,za6 rfl,trivial⟩) ⟨by rw[<-hM];rfl,by rw[hCm]⟩
  have bad: ∀(er:Int) (σl:St),P.2=er->er≠0->wret (some (.tup [.agg [.sl .full [],.int .i64 0],.int .i64 er])) 1 (fun r s=>r=selV M/\s= [.lst (C.map Ln.row) 3]) (.lst (m.map Ln.row) 3::σl):=fun er σl h h0=>by
   rw[h,if_pos h0]at hM
   exact xJ 1 (s:= [.lst (m.map Ln.row) 3]) (r:= .tup [.agg (Ot.row ⟨0,[]⟩),.int .i64 er]) rfl rfl (by simp[ltOb,ltC,ltK,Ln.row]) (A2 _) (xT ⟨zc5 ⟨yX,zZ rfl,trivial⟩,za6 rfl,trivial⟩) ⟨by rw[<-hM];rfl,by rw[hCm]⟩
  clear hM
  have ok8: ∀n:Nat,∀out:List (List GValue),([.lst (m.map Ln.row) 3,.box T.row,.box st.row,.box [.lsv 0 3 l.length 0 k],.box out0,.box [.int .i64 col],.box [.sl (.app 7) (out.map fun r=> [V.sl .ro (r.map GValue.row)]),.int .i64 0],.app n 1]:St).all (ltOb 8)=true:=fun n out=>by simp[ltOb,ltC,ltK,Ln.row,GTable.row,GStmt.row,out0]
  refine zS (zA ?_)
  simp[go_sem]
  refine zL (S:=Nat×List (List GValue)) [3,4,6,9,49,50,51] (fun u=> [.ptr 1 0,.ptr 2 0,.ptr 4 0,.ptr 6 0,.lsv 0 3 l.length 0 k,.int .i64 k,.int .i64 u.1])
   (fun u=> [.lst (m.map Ln.row) 3,.box T.row,.box st.row,.box [.lsv 0 3 l.length 0 k],.box out0,.box [.int .i64 col],.box [.sl (.app 7) (u.2.map fun r=> [V.sl .ro (r.map GValue.row)]),.int .i64 0],.app u.2.length 1]) (fun u=>k - u.1)
   (fun u=>u.1<=k/\u.2.length<=u.1/\zv0 T J ((m.take k).drop u.1) u.2=P) hc hb (0,[]) ⟨A3 _,A2 _,hP⟩ ?_ ?_
  .exact aN 8 (ok8 0 [])
  rintro⟨i,out⟩ ⟨hi,hol,hinv⟩
  simp only at hi hol hinv
  by_cases q:i<k
  rotate_left
  .rw[A9 (by rw[C2];omega),zv0]at hinv
   refine zA ?_
   simp[go_sem,q]
   refine zA ?_
   simp[go_sem,out0]
   exact fin out _ hinv.symm
  have ei:=zV q (by omega)
  have hqm:i<m.length:=by omega
  have hil:i<l.length:=by omega
  obtain⟨x,hx⟩:=eX (m[i])
  have hxq:m[i]? =some x:=by rw[A0 hqm,hx]
  have hxo:=hmo x (hx▸A8 hqm)
  have hxl:=yf9 hxo
  rw[A6 (by rw[C2];omega),Ed,hx,zv0,hJ0]at hinv
  by_cases k1:y0.kind=1
  .have k1':(y0.kind==1)=true:=by simpa using k1
   rw[if_pos (by rw[k1])]at hinv
   have hcl:=yB9 x.v (by omega) (fun h=>by rw[h]at hxl;simp at hxl)
   refine zA ?_
   simp[go_sem,q,hil,hmn,hx,hJ,hJp,hJ1,k1']
   refine zb7 [(3,2),(4,0),(6,3)] 7 (by simp) (by kernel_rfl) (by kernel_rfl) ?_
   simp[go_sem]
   refine zW hcl cB (fun _=>⟨zX,trivial⟩) rfl ?_
   simp[go_sem]
   refine zJ ⟨by omega,yC rfl⟩ ?_
   simp[go_sem,ei]
   exact zI (i+1,out++ [x.v]) ⟨by show k - (i+1)<k - i;omega,⟨q,by show(out++ [x.v]).length<=i+1;simp;omega,hinv⟩,at_n 8 (by simp[go_sem,hJ]) rfl (ok8 _ _) (by decide) (zG (by simp[go_sem]) rfl)⟩
  .have k1':(y0.kind==1)=false:=by simpa using k1
   rw[if_neg (fun h=>k1 (by simpa using h))]at hinv
   obtain⟨E,hE⟩:=eX (evsX T x.v (J.map (·.e)) [])
   rw[hE]at hinv
   have ok10: ∀n:Nat,∀out:List (List GValue),([.lst (m.map Ln.row) 3,.box T.row,.box st.row,.box [.lsv 0 3 l.length 0 k],.box out0,.box [.int .i64 col],.box [.sl (.app 7) (out.map fun r=> [V.sl .ro (r.map GValue.row)]),.int .i64 0],.app out.length 1,.box x.row,.app n 3]:St).all (ltOb 10)=true:=fun n out=>by simp[ltOb,ltC,ltK,Ln.row,GTable.row,GStmt.row,out0]
   refine zA ?_
   simp[go_sem,q,hil,hmn,hx,hJ,hJp,hJ1,k1']
   refine zn1 12 3 (by decide) (by simp[go_sem]) ?_
   refine zL (S:=Nat×List GValue) [3,4,6,9,11,12,49,50,51,70,71,72] (fun u=> [.ptr 1 0,.ptr 2 0,.ptr 4 0,.ptr 6 0,.ptr 8 0,.sl (.app 9) (u.2.map GValue.row),.lsv 0 3 l.length 0 k,.int .i64 k,.int .i64 i,.sl .ro (J.map GItem.row),.int .i64 J.length,.int .i64 u.1])
    (fun u=> [.lst (m.map Ln.row) 3,.box T.row,.box st.row,.box [.lsv 0 3 l.length 0 k],.box out0,.box [.int .i64 col],.box [.sl (.app 7) (out.map fun r=> [V.sl .ro (r.map GValue.row)]),.int .i64 0],.app out.length 1,.box x.row,.app u.2.length 3]) (fun u=>J.length - u.1)
    (fun u=>u.1<=J.length/\u.2.length<=u.1/\evsX T x.v ((J.drop u.1).map (·.e)) u.2=E) hc hb (0,[]) ⟨A3 _,A2 _,hE⟩ ?_ ?_
   .exact at_n 10 (by simp[go_sem,hJ]) rfl (ok10 _ _) (by decide) (zG (by simp[go_sem]) rfl)
   rintro⟨j,acc⟩ ⟨hj,hal,hinv2⟩
   simp only at hj hal hinv2
   by_cases p:j<J.length
   .have ej:=zV p (by omega)
    obtain⟨y,hy⟩:=eX (J[j])
    have hye:=(hJx y (hy▸A8 p)).2
    rw[A6 p,hy,Al,evsX]at hinv2
    have hcall:=ys9 T hTc x.v hxo.ok y.e hye
    obtain⟨⟨v,er⟩,hv⟩: ∃kv,evR T x.v y.e=kv:=⟨_,rfl⟩
    rw[hv]at hinv2 hcall
    simp only at hinv2
    refine zA ?_
    simp[go_sem,p,hy]
    refine zD hcall cB ⟨zC rfl,zX,zN2 y.e,trivial⟩ rfl ?_
    simp[go_sem,valP]
    by_cases q2:er=0
    rotate_left
    .have q2':(er !=0)=true:=by simpa using q2
     rw[if_pos q2]at hinv2
     subst hinv2
     simp only at hinv
     rw[if_pos q2]at hinv
     simp[go_sem,q2',out0]
     exact bad er _ (by rw[<-hinv]) q2
    have q2':(er !=0)=false:=by simpa using q2
    rw[if_neg (fun h=>h q2)]at hinv2
    simp[go_sem,q2']
    refine zJ ⟨by omega,yC rfl⟩ ?_
    simp[go_sem,ej]
    exact zI (j+1,acc++ [v]) ⟨by show J.length - (j+1)<J.length - j;omega,⟨p,by show(acc++ [v]).length<=j+1;simp;omega,hinv2⟩,aN 10 (ok10 _ _)⟩
   .rw[A9 (by omega),Br,evsX]at hinv2
    subst hinv2
    simp only at hinv
    rw[if_neg (fun h=>h rfl)]at hinv
    refine zA ?_
    simp[go_sem,p]
    refine zJ ⟨by omega,yC rfl⟩ ?_
    simp[go_sem,ei]
    exact zI (i+1,out++ [acc]) ⟨by show k - (i+1)<k - i;omega,⟨q,by show(out++ [acc]).length<=i+1;simp;omega,hinv⟩,aN 8 (ok8 _ _)⟩
@[go_sem] theorem wtop_delete {P:Program} {c:Ctx} {nt:Nat} {n0:Kp} {d:Option Tmp} {K:KT} {e:Env} {σ:St} {x k:Operand} {t1 t2:TypeId}:wtop P c nt n0 4 d (.call ⟨.builtin .delete, #[x,k], #[t1,t2]⟩) K fx fx e σ=wop P c nt d (.call ⟨.builtin .delete, #[x,k], #[t1,t2]⟩) K fx fx e σ:=zU4 (fun _ _ _ _ _ h=>by cases h) (fun _ _ h=>by cases h) (fun _ _ _ h=>by cases h)
theorem xz1 {P:Program} {c:Ctx} {σ:St} (k:Nat) {f:FuncId} {caps args args':List V} {σin:St} {KV:V->St->Prop} {R:V->St->Prop} (hc:VCalls P f args' σin R) (hb:wS P f=true) (hk:σ.take k=σin) (hl:σin.length=k) (hok:σin.all (ltOb k)=true)
  (hargs:All2 (argS (ren (List.range k) σ.length)) args' (args++caps)) (hR: ∀r s,R r s-> ∃s0 ex,s=s0++ex/\s0.length=k/\s0.all (ltOb k)=true/\ex.all (ltOb 0)=true)
  (hK: ∀r s0 ex,R r (s0++ex)->s0.length=k->KV (renS (ren (List.range k) σ.length) r) (s0++σ.drop k++ex)):wVC P c (.fn f caps) args σ KV fx:=by
 have hkl:k<=σ.length:=by rw[<-hl,<-hk];simp;exact Nat.min_le_right _ _
 refine VC.of hc hb (List.range k) C3 (by simp[hl]) (fun i j o h1 h2=> ?_) hargs fun r s h _=> ?_
 .obtain⟨h3,h4⟩:=A1.1 h1
  simp at h3 h4
  subst h4
  have ho:ltOb k o=true:=by
   rw[Af]at hok
   exact hok o (Av.2 ⟨i,h2⟩)
  rw[wD (n:=k) (fun i hi=>ze1 hi) ho]
  rw[<-hk,Ae,if_pos h3]at h2
  exact h2
 .obtain⟨s0,ex,rfl,h1,h2,h3⟩:=hR r s h
  have e:xE (List.range k) σ (s0++ex)=s0++σ.drop k++ex:=by
   have e0:=zW3 hkl h1 h2
   have ed:(s0++ex).drop (List.range k).length=ex:=by rw[Ds,<-h1,List.drop_left]
   have et:(s0++ex).take (List.range k).length=s0.take (List.range k).length:=by rw[Ds,<-h1,List.take_left,Dp]
   have e2:(s0.drop (List.range k).length).map (yN (ren (List.range k) σ.length))= []:=by
    rw[Ds,Bs (by omega)];rfl
   have e3:ex.map (yN (ren (List.range k) σ.length))=ex:=xV (fun o h=>wD (n:=0) (fun _ h=>absurd h (Bg _)) h) h3
   unfold xE at e0⊢
   rw[e2,B7]at e0
   rw[ed,et,e0,e3]
  rw[e]
  exact hK r s0 ex h h1
theorem xT1 {P:Program} {c:Ctx} {n0:Kp} {σ:St} (i:Nat) {o o2:Ob} {f:FuncId} {caps args args':List V} {v:V} {KV:V->St->Prop} (hc:VCalls P f args' [o] (fun r s=>r=v/\s= [o2])) (hb:wS P f=true) (ho:σ[i]? =some o) (hok:ltOb 0 o=true) (hok2:ltOb 0 o2=true)
  (hargs:All2 (argS (ren [i] σ.length)) args' (args++caps)) (hK:KV (renS (ren [i] σ.length) v) (σ.set i o2)):wVD P c n0 4 (.fn f caps) args σ KV fx:=by
 refine xz4 hc hb [i] (by simp) rfl (fun a j x h1 h2=> ?_) hargs ?_
 .have e:a=0:=by
   have:=(A1.1 h1).1
   simp at this;omega
  subst e
  have e1:x=o:=by simp at h2;exact h2.symm
  have e2:j=i:=by simp at h1;omega
  subst e1;subst e2
  rw[wD (n:=0) (fun _ h=>absurd h (Bg _)) hok]
  exact ho
 .have e:xE [i] σ [o2]=σ.set i o2:=by
   simp only[xE,Bh,By,Dq,Dk,Bd,Al,Br,mset,B7]
   rw[wD (n:=0) (fun _ h=>absurd h (Bg _)) hok2]
  rw[e];exact hK
theorem xH9 {a b:Mp (List UInt8)} {sn:Mp Int} {m:List Ln}: ∀n,4<=n->(runS a b sn++([.lst (m.map Ln.row) 3]:St)).all (ltOb n)=true:=fun n h=>by
 rw[Ea,xM n (by omega) a b sn]
 simp[ltOb,ltC,ltK,Ln.row]
structure StOk (st:GStmt):Prop where
 ok:SOk st
 vok:VOk st
 tab:0<=zd6 st.table
 items:st.kind=1->st.items≠ []
 sets:st.kind=3-> ∀x∈st.sets,0<=colF (tabsS.getD (zd6 st.table).toNat noT) x.name
theorem yj4 {tn:Nat} {T:GTable} (hT:tabsS[tn]? =some T) {st:GStmt} (hst:SOk st): ∀{m:List Ln} {b:Mp (List UInt8)} {l:List Ln},NowOk b l->(∀x∈m,atF l x.at=true/\LnOk x/\(ofS x.r).1=(tn:Int))->(updF T st.sets m l).2=0->NowOk (updB T st.sets m b) (updF T st.sets m l).1
 | [],_,_,hn,_,_=>hn
 |x::m,b,l,hn,hm,h0=>by
  obtain⟨hxa,hxo,hxt⟩:=hm x (Bb ..)
  rw[updF]at h0⊢
  rw[updB]
  obtain⟨E,hE⟩:=eX (setF T x.v st.sets x.v)
  rw[hE]at h0⊢
  by_cases q:E.2=0
  rotate_left
  .rw[if_pos q]at h0;exact absurd h0 q
  rw[if_neg (fun h=>h q)]at h0
  rw[if_neg (show ¬E.2≠0 from fun h=>h q),if_neg (show ¬E.2≠0 from fun h=>h q)]
  by_cases q2:mayT T.cols E.1=0
  rotate_left
  .rw[if_pos q2]at h0;exact absurd h0 q2
  rw[if_neg (fun h=>h q2)]at h0
  rw[if_neg (show ¬mayT T.cols E.1≠0 from fun h=>h q2),if_neg (show ¬mayT T.cols E.1≠0 from fun h=>h q2)]
  have hvo: ∀v∈E.1,v.ok:=by
   have h1:=zZ3 (T:=T) hxo.ok (sets:=st.sets) (row:=x.v) (fun y hy=>(hst.sets.2 y hy).2) hxo.ok
   rw[hE]at h1
   exact(h1 q).2
  refine yj4 hT hst (hn.turn x.at E.1 hxa ⟨⟨tn,T,hxt,hT,q2⟩,hxo.err,hvo⟩) (fun y hy=> ?_) h0
  obtain⟨h1,h2⟩:=hm y (B5 _ hy)
  exact⟨by rw[yB0];exact h1,h2⟩
def updV (n:Nat) (e:Int):V:= .tup [.agg (Ot.row (if e≠0 then⟨0,[]⟩else⟨n,[]⟩)),.int .i64 e]
theorem zI4 {tn:Nat} {st:GStmt} {x:Ln} (h3:tn<3) (h:zn4 tn st x=true):(ofS x.r).1=(tn:Int):=by
 unfold zn4 at h
 rw[A4,Da]at h
 obtain⟨⟨g,hg,he⟩,_⟩:=h
 have:=(yZ7 tn h3 hg).2.2
 rw[show(wJ (tn:Int) g).1=x.r by simpa using he]at this
 rw[this]
theorem xI5 {tn:Nat} {T:GTable} (hT:tabsS[tn]? =some T) {x:Ln} (hx:LnOk x) (hxt:(ofS x.r).1=(tn:Int)):x.v.length=T.cols.length:=by
 obtain⟨tn',T',h1,h2,h3⟩:=hx.tab
 have:tn'=tn:=by omega
 subst this
 rw[hT]at h2
 cases h2
 exact zj4 h3
theorem yj8 {T:GTable} {st:GStmt}: ∀{l acc:List Ln},(zv8 T st acc l).1.length<=acc.length+l.length
 | [],_=>A2 _
 |x::l,acc=>by
  rw[zv8]
  split
  .exact A3 _
  .refine Ay yj8 ?_
   split<;>simp<;>omega
theorem xs8 {t:Int} {T:GTable} {st:GStmt} {l:List Ln}:(metF t T st l).1.length<=l.length:=by
 unfold metF
 have:=Bk (zn4 t st) l
 split
 .refine Ay yj8 ?_
  simp;omega
 .exact this
theorem xE3 {a b:Mp (List UInt8)} {sn:Mp Int} {m:List Ln} {N k:Nat} {σ:St} (h4:σ.take 4=runS a b sn) (hσ:σ[k]? =some (.lst (m.map Ln.row) 3)) (i j:Nat) (o:Ob) (hij: [0,1,2,3,k][i]? =some j) (ho:(runS a b sn++([.lst (m.map Ln.row) 3]:St))[i]? =some o):σ[j]? =some (yN (ren [0,1,2,3,k] N) o):=by
 by_cases q:i<4
 .have e:j=i:=by
   match i,q with
   |0,_=>simp at hij;omega
   |1,_=>simp at hij;omega
   |2,_=>simp at hij;omega
   |3,_=>simp at hij;omega
  subst e
  have h1:(runS a b sn)[j]? =some o:=by rw[Ab (by exact q)]at ho;exact ho
  have hol:ltOb 4 o=true:=Af.1 (xM 4 (by decide) a b sn) o (B1 h1)
  rw[wD (n:=4) (fun x hx=> ?_) hol]
  .rw[<-h4,Cz q]at h1
   exact h1
  .rw[wE (by simp;omega)]
   match x,hx with
   |0,_=>rfl
   |1,_=>rfl
   |2,_=>rfl
   |3,_=>rfl
 .have e:i=4:=by
   have:=(A1.1 hij).1
   simp at this;omega
  subst e
  have e1:o= .lst (m.map Ln.row) 3:=by cases ho;rfl
  have e2:j=k:=by simp at hij;omega
  subst e1;subst e2
  rw[wD (n:=0) (fun _ h=>absurd h (Bg _)) (by simp[ltOb,ltC,ltK,Ln.row])]
  exact hσ
theorem xg5 {a b:Mp (List UInt8)} {sn:Mp Int} {m:List Ln} {o0 o1 o2 o3 o4 o5 o6:Ob}:xE [0,1,2,3,6] [o0,o1,o2,o3,o4,o5,o6] (runS a b sn++([.lst (m.map Ln.row) 3]:St))= [a.ob .str,b.ob .str,sn.ob (V.int .i64),runB,o4,o5,.lst (m.map Ln.row) 3]:=by
 have e:(runS a b sn++([.lst (m.map Ln.row) 3]:St)).map (yN (ren [0,1,2,3,6] 7))=runS a b sn++([.lst (m.map Ln.row) 3]:St):=
  xV (fun o h=>wD (n:=4) (fun x hx=>by
   match x,hx with
   |0,_=>rfl
   |1,_=>rfl
   |2,_=>rfl
   |3,_=>rfl) h) (xH9 4 (by decide))
 unfold xE
 rw[Au (by simp[runS]),Bs (by simp[runS])]
 show mset _ _ (List.map (yN (ren [0,1,2,3,6] 7)) _)++_=_
 rw[e]
 rfl
def xx8 (a:Mp (List UInt8)) (sn:Mp Int) (D:Ot×List Ln×Int) (r:V) (s:St):Prop:=
 ∃b',s=runS a b' sn/\r= .tup [.agg D.1.row,.int .i64 D.2.2]/\(D.2.2=0->NowOk b' D.2.1)
theorem xn6 {b:Mp (List UInt8)} {p:Pl} {w:Nat×List UInt8} (h:b.at p=some w):Ob.mp ((kvE V.str b.W).take (2*w.1)++(kvE V.str b.W).drop (2*w.1+2)) (b.bs.eraseIdx w.1) b.clk=(b.del p).ob V.str:=by
 show Ob.mp (zN6 (kvE V.str b.W) w.1) _ _=_
 unfold Mp.del Mp.ob
 rw[h]
 have:=(A1.1 (zi1 (W:=b.W) (i:=w.1) (v:=w.2) h)).1
 rw[xs3 _ _ this]
theorem xn7 {b:Mp (List UInt8)} {p:Pl} (h:b.at p=none):b.del p=b:=by
 unfold Mp.del
 rw[h]
theorem zv5 {a b:Mp (List UInt8)} {sn:Mp Int} {D:Ot×List Ln×Int} {σl:St} {g:Tag} (o:Ot) (e:Int) (h1:D.1=o) (h2:D.2.2=e) (h3:e=0->NowOk b D.2.1):
  wret (some (.tup [.agg [.sl g (o.rows.map fun r=> [.sl .ro (r.map GValue.row)]),.int .i64 o.count],.int .i64 e])) 4 (xx8 a sn D) (a.ob .str::b.ob .str::sn.ob (V.int .i64):: .box [.sl .ro xX,.sl .ro (tabsS.map GTable.row),.mp 0,.mp 1,.mp 2]::σl):=
 xJ 4 (s:=runS a b sn) (r:= .tup [.agg (Ot.row o),.int .i64 e]) rfl rfl (xM 4 (by decide) a b sn) (A2 _) (xT ⟨zc5 ⟨yX,zZ rfl,trivial⟩,za6 rfl,trivial⟩) ⟨b,rfl,by rw[h1,h2],fun h=>h3 (h2▸h)⟩
theorem xi4 (st:GStmt) (hst:StOk st) (a b:Mp (List UInt8)) (sn:Mp Int) (l:List Ln) (hnow:NowOk b l) (hl:l.length<=10000):
  VCalls prog 21 [.ptr 3 0,.agg st.row] (runS a b sn) (xx8 a sn (doS st l)):=by
 obtain⟨tn,htn⟩: ∃tn:Nat,zd6 st.table=tn:=⟨(zd6 st.table).toNat,by have:=hst.tab;omega⟩
 have htl:tn<3:=by
  have h:=zt6 (fun T:GTable=>T.name==st.table) tabsS 0
  have h2:tabsS.length=3:=rfl
  unfold zd6 at htn
  omega
 obtain⟨T,hT⟩: ∃T,tabsS[tn]? =some T:=⟨_,A0 (show tn<tabsS.length from htl)⟩
 obtain⟨htb,hTx⟩:=A1.1 hT
 have hTd:tabsS.getD (zd6 st.table).toNat noT=T:=by rw[htn,Ax,A5,hT];rfl
 have hsets:=hst.sets
 rw[hTd]at hsets
 have hfind:=xk7 tabsS st.table (by decide)
 have hfe:wN (fun t:GTable=>t.name==st.table) tabsS 0=tn:=htn
 rw[hfe]at hfind
 have hins:=yI9 tn T hT st hst.ok a b sn l hnow
 have hmet:=xV7 tn T hT st hst.ok hst.vok a b sn l hnow hl
 obtain⟨D,hD⟩:=eX (doS st l)
 rw[hD]
 have hD0:=hD
 unfold doS at hD0
 simp only[htn,Ax]at hD0
 rw[show tabsS.getD tn noT=T by rw[A5,hT];rfl]at hD0
 refine iV 4 func21 ntmps21 results21 fun c hc hb=> ?_
 refine zS (zA ?_)
 simp[go_sem,runS,runB]
 refine zS (zA ?_)
 simp[go_sem]
 refine yU [(6,0)] 6 rfl (by kernel_rfl) (by kernel_rfl) ?_
 simp[go_sem]
 refine zW hfind cB (fun _=>⟨zC rfl,zC rfl,trivial⟩) rfl ?_
 simp[go_sem]
 have ok4:=fun b':Mp (List UInt8)=>xM 4 (by decide) a b' sn
 by_cases k2:st.kind=2
 .rw[if_pos k2]at hD0
  have k2':(st.kind==2)=true:=by simpa using k2
  obtain⟨I,hI⟩:=eX (insF tn T st.rows l)
  rw[hI]at hD0 hins
  refine zA ?_
  simp[go_sem,k2']
  refine ze9 4 hins cB rfl rfl (ok4 b) (wU (n:=4) rfl) (fun r s h=> ?_) (fun r s h=> ?_)
  .obtain⟨b',rfl,h⟩:=h
   refine⟨rfl,ok4 b', ?_⟩
   rcases h with ⟨_,rfl⟩|⟨_,rfl,_⟩
   .rfl
   .rfl
  .obtain⟨b',rfl,h⟩:=h
   rcases h with ⟨h0,rfl⟩|⟨h0,rfl,hn⟩
   .rw[if_pos h0]at hD0
    simp[go_sem,runS,runB,Ot.row]
    exact zv5 ⟨0,[]⟩ I.2 (by rw[<-hD0]) (by rw[<-hD0]) (fun h=>absurd h h0)
   .rw[if_neg (fun h=>h h0)]at hD0
    simp[go_sem,runS,runB,Ot.row]
    exact zv5 ⟨st.rows.length,[]⟩ 0 (by rw[<-hD0]) (by rw[<-hD0]) (fun _=>by rw[<-hD0];exact hn)
 have k2':(st.kind==2)=false:=by simpa using k2
 rw[if_neg k2]at hD0
 clear hins
 obtain⟨⟨m,me⟩,hM⟩: ∃M,metF tn T st l=M:=⟨_,rfl⟩
 rw[hM]at hD0 hmet
 simp only at hD0
 refine zS (zA ?_)
 simp[go_sem,k2']
 refine zS (zA ?_)
 simp[go_sem]
 refine xz1 4 hmet cB rfl rfl (ok4 b) (wU (n:=4) rfl) (fun r s h=> ?_) (fun r s0 ex h h4=> ?_)
 .rcases h with ⟨_,rfl,_⟩|⟨_,rfl,_⟩
  .exact⟨_,[],(B7 _).symm,rfl,ok4 b,rfl⟩
  .exact⟨_,_,rfl,rfl,ok4 b,by simp[ltOb,ltC,ltK,Ln.row]⟩
 rcases h with ⟨m0,hs,rfl⟩|⟨m0,hs,rfl⟩
 .have hs':=List.append_inj (hs.trans (B7 _).symm) (h4.trans rfl)
  obtain⟨rfl,rfl⟩:=hs'
  have m0:me≠0:=m0
  have m0':(me !=0)=true:=by simpa using m0
  rw[if_pos m0]at hD0
  simp[go_sem,runS,runB]
  refine zS (zA ?_)
  simp[go_sem,m0']
  exact zv5 ⟨0,[]⟩ me (by rw[<-hD0]) (by rw[<-hD0]) (fun h=>absurd h m0)
 .have hs':=List.append_inj hs (h4.trans rfl)
  obtain⟨rfl,rfl⟩:=hs'
  have m0:me=0:=m0
  rw[if_neg (fun h=>h m0)]at hD0
  subst m0
  have er:ren [0,1,2,3] 6 4=6:=rfl
  have hml:m.length<=10000:=by have:=xs8 (t:=tn) (T:=T) (st:=st) (l:=l);rw[hM]at this;exact Ay this hl
  have hmm: ∀x∈m,x∈l/\(zn4 tn st x)=true:=fun x hx=>yg3 x (by rw[hM];exact hx)
  simp[go_sem,runS,runB,er]
  refine zS (zA ?_)
  simp[go_sem]
  refine zS (zS (zA ?_))
  simp[go_sem]
  refine zg0 (zS (zA ?_))
  simp[go_sem]
  by_cases k1:st.kind=1
  .have k1':(st.kind==1)=true:=by simpa using k1
   rw[if_pos k1]at hD0
   have hch:=yu2 tn T hT st hst.ok (hst.items k1) m hml (fun x hx=>⟨hnow.rows x (hmm x hx).1,xI5 hT (hnow.rows x (hmm x hx).1) (zI4 htl (hmm x hx).2)⟩)
   obtain⟨M,hM2⟩:=eX (selF T st m)
   rw[hM2]at hch hD0
   obtain⟨C,hC⟩:=eX (chL T st m)
   rw[hC]at hch
   refine zA ?_
   simp[go_sem,k1']
   refine zb7 [(10,4)] 6 (by simp) (by kernel_rfl) (by kernel_rfl) ?_
   simp[go_sem,htb,hTx]
   refine xT1 6 hch cB rfl (by simp[ltOb,ltC,ltK,Ln.row]) (by simp[ltOb,ltC,ltK,Ln.row]) ⟨zC rfl,zC rfl,.inl rfl,trivial⟩ ?_
   simp[go_sem,selV,Ot.row]
   exact zv5 M.1 M.2 (by rw[<-hD0]) (by rw[<-hD0]) (fun _=>by rw[<-hD0];exact hnow)
  have k1':(st.kind==1)=false:=by simpa using k1
  rw[if_neg k1]at hD0
  refine zA ?_
  simp[go_sem,k1']
  by_cases k3:st.kind=3
  .have k3':(st.kind==3)=true:=by simpa using k3
   rw[if_pos k3]at hD0
   have hmo: ∀x∈m,atF l x.at=true/\LnOk x/\(ofS x.r).1=(tn:Int):=fun x hx=>⟨atF_iff.2 (Ac.2 ⟨x,(hmm x hx).1,rfl⟩),hnow.rows x (hmm x hx).1,zI4 htl (hmm x hx).2⟩
   have hup:=xy8 tn T hT st hst.ok (hsets k3) a b sn l m hnow hmo hml
   have hun:=yj4 hT hst.ok hnow hmo
   obtain⟨U,hU⟩:=eX (updF T st.sets m l)
   obtain⟨B,hB⟩:=eX (updB T st.sets m b)
   rw[hU,hB]at hup hun
   rw[hU]at hD0
   have hup2:=hup.mono (R':=fun r s=>r=updV m.length U.2/\s=runS a B sn++ [.lst (m.map Ln.row) 3]) (fun r s h=>by
    obtain⟨h1,h2⟩:=h
    refine⟨?_,h1⟩
    unfold updV
    rcases h2 with ⟨q,h2⟩|⟨q,h2,_⟩
    .rw[if_pos q,h2]
    .rw[if_neg (fun h=>h q),h2,q])
   clear hup
   simp[go_sem,k3']
   refine zb7 [(11,4)] 5 (by simp) (by kernel_rfl) (by kernel_rfl) ?_
   simp[go_sem,htb,hTx]
   refine xz4 hup2 cB [0,1,2,3,6] (by decide) rfl (xE3 rfl rfl) ⟨.inl rfl,zC rfl,zC rfl,.inl rfl,trivial⟩ ?_
   rw[xg5]
   by_cases u0:U.2=0
   .rw[if_neg (fun h=>h u0)]at hD0
    simp[go_sem,updV,Ot.row,u0]
    exact zv5 ⟨m.length,[]⟩ 0 (by rw[<-hD0]) (by rw[<-hD0]) (fun _=>by rw[<-hD0];exact hun u0)
   .rw[if_pos u0]at hD0
    simp[go_sem,updV,Ot.row,u0]
    exact zv5 ⟨0,[]⟩ U.2 (by rw[<-hD0]) (by rw[<-hD0]) (fun h=>absurd h u0)
  .have k3':(st.kind==3)=false:=by simpa using k3
   rw[if_neg k3]at hD0
   have okS: ∀(b':Mp (List UInt8)),([a.ob .str,b'.ob .str,sn.ob (V.int .i64),.box [.sl .ro xX,.sl .ro (tabsS.map GTable.row),.mp 0,.mp 1,.mp 2],.box st.row,.box out0,.lst (m.map Ln.row) 3]:St).all (ltOb 7)=true:=fun b'=>by
    have h:=xM 7 (by omega) a b' sn
    simp only[runS,runB,Am,Cp,Cx]at h⊢
    rw[A4,A4,A4]at h⊢
    refine⟨h.1,h.2.1,h.2.2.1, ?_⟩
    rw[A4]
    exact⟨h.2.2.2,by simp[ltOb,ltC,ltK,GStmt.row,Ln.row,out0]⟩
   have hG: ∀(b':Mp (List UInt8)) (l':List Ln) (σl:St),NowOk b' l'->delF m l=l'->wret (some (.tup [.agg [.sl .full [],.int .i64 m.length],.int .i64 0])) 4 (xx8 a sn D) (a.ob .str::b'.ob .str::sn.ob (V.int .i64):: .box [.sl .ro xX,.sl .ro (tabsS.map GTable.row),.mp 0,.mp 1,.mp 2]::σl):=fun b' l' σl h1 h2=>
    zv5 ⟨m.length,[]⟩ 0 (by rw[<-hD0]) (by rw[<-hD0]) (fun _=>by rw[<-hD0];show NowOk b' (delF m l);rw[h2];exact h1)
   generalize hQ:delF m l=Q at hG
   clear hD0 hmm hmet hs
   simp[go_sem,k3']
   refine zS (zA ?_)
   simp[go_sem]
   refine zL (S:=Nat×Mp (List UInt8)×List Ln) [0,4,7,71,72,73] (fun u=> [.ptr 3 0,.ptr 5 0,.lsv 6 3 m.length 0 m.length,.lsv 6 3 m.length 0 m.length,.int .i64 m.length,.int .i64 u.1])
    (fun u=> [a.ob .str,u.2.1.ob .str,sn.ob (V.int .i64),.box [.sl .ro xX,.sl .ro (tabsS.map GTable.row),.mp 0,.mp 1,.mp 2],.box st.row,.box out0,.lst (m.map Ln.row) 3]) (fun u=>m.length - u.1)
    (fun u=>u.1<=m.length/\NowOk u.2.1 u.2.2/\delF (m.drop u.1) u.2.2=Q) hc hb (0,b,l) ⟨A3 _,hnow,hQ⟩ ?_ ?_
   .exact at_n 7 (by simp[go_sem,out0]) rfl (okS b) (by decide) (zG (by simp[go_sem]) rfl)
   rintro⟨i,b1,l1⟩ ⟨hi,hn1,hM1⟩
   simp only at hi hn1 hM1
   by_cases q:i<m.length
   rotate_left
   .rw[A9 (by omega),delF]at hM1
    refine zA ?_
    simp[go_sem,q,out0]
    refine zA ?_
    simp[go_sem]
    exact hG b1 l1 _ hn1 hM1.symm
   have ei:=zV q (by omega)
   obtain⟨x,hx⟩:=eX (m[i])
   rw[A6 q,hx,delF]at hM1
   have eB:b1.ob .str= .mp (kvE .str b1.W) b1.bs b1.clk:=rfl
   have hnew:=hn1.del x.at
   refine zA ?_
   simp[go_sem,q,hx]
   refine yU [] 8 rfl (by kernel_rfl) (by kernel_rfl) ?_
   simp[go_sem]
   cases hat:b1.at x.at with
   |none=>
    have hat':idxW (x.r,x.k) b1.W=none:=hat
    rw[xn7 hat]at hnew
    simp[go_sem,eB,zb4,hat',za2,zd2,ei]
    exact zI (i+1,b1,l1.filter fun y=> !decide (y.at=x.at)) ⟨by show m.length - (i+1)<m.length - i;omega,⟨q,hnew,hM1⟩,at_n 7 (by simp[go_sem,out0];rfl) rfl (okS _) (by decide) (zG (by simp[go_sem]) rfl)⟩
   |some w=>
    have hat':idxW (x.r,x.k) b1.W=some w:=hat
    have hdel:=xn6 hat
    simp[go_sem,eB,zb4,hat',za2,zd2,hdel,ei]
    exact zI (i+1,b1.del x.at,l1.filter fun y=> !decide (y.at=x.at)) ⟨by show m.length - (i+1)<m.length - i;omega,⟨q,hnew,hM1⟩,at_n 7 (by simp[go_sem,out0]) rfl (okS _) (by decide) (zG (by simp[go_sem]) rfl)⟩
end Go.Proofs.YtkigddpaonhmlaaGreat
