/-
  The document's turns: rows that go or turn; used by the walk of the document's Run.
  Conditions: as the theorem states them.
-/
import Derived.Test.YtefbicjgbaaieaaGreatKAX
import Derived.Test.YtefbicjgbaaieaaGreatKAU
import Derived.Test.YtefbicjgbaaieaaGreatKAJ
import Derived.Test.YtefbicjgbaaieaaGreatKAK
import Derived.Test.YtefbicjgbaaieaaGreatKAT
set_option maxHeartbeats 8000000
namespace Go.Proofs.YtefbicjgbaaieaaGreat
open Go Go.Vx R Go.Proofs.Tryz
set_option maxRecDepth 100000
variable {b:Mp (List UInt8)}{a:Mp (List UInt8)}{σ:St}{l:List Ln}{sn:Mp Int}{p:Pl}{P:Program}{c:Ctx}{r:Int}{k:Nat}{T:GTable}{st:GStmt}{f:FuncId}{caps:List V}{args':List V}{KV:V->St->Prop}{x:Ln}{m:List Ln}{C:List Wr}
def chS (T:GTable) (st:GStmt) (c:Int) (rows:List (List V)) (n:Nat):St:= [.lst rows 3,.box T.row,.box st.row,.box [.lsv 0 3 n 0 n],.box out0,.box [.int .i64 c]]
theorem zH0 (T:GTable) (st:GStmt) (c:Int) (l:List Ln) (n:Nat):(chS T st c (l.map Ln.row) n).all (ltOb 6)=true:=by simp[chS,out0,ltOb,ltC,ltK,Ln.row,GTable.row,GStmt.row]
theorem zD7 {α:Type} {l:List α} {i:Nat} (h:i<l.length) (d:α):l.getD i d=l[i]:=by rw[A7,A0 h];rfl
theorem wb3 (d:Ln) (T:GTable) (st:GStmt) (aa:Nat) (_hc0:aa<=10000) (l:List Ln) (ad: ∀x∈l,aa<x.v.length) (i j:Nat) (hi:i<l.length) (hj:j<l.length):
  VCalls prog 158 [.int .i64 i,.int .i64 j,.ptr 3 0,.ptr 5 0,.ptr 2 0] (chS T st aa (l.map Ln.row) l.length) (fun r s=>r= .bool (ltR d aa st.down l i j)/\s=chS T st aa (l.map Ln.row) l.length):=by
 obtain⟨x,hx⟩:=eX (l[i])
 obtain⟨y,hy⟩:=eX (l[j])
 have ae:=ad x (hx▸Aa hi)
 have af:=ad y (hy▸Aa hj)
 obtain⟨v,hv⟩:=eX (x.v[aa])
 obtain⟨u,hu⟩:=eX (y.v[aa])
 have ab:=yq2 v u
 obtain⟨a1,a2,a3,a4,a5,a6,a7,a8,dn,a9⟩:=st
 have hM:ltR d aa dn l i j=(if dn=true then decide (0<cmpV v u)else decide (cmpV v u<0)):=by
  unfold ltR cmpC
  rw[zD7 hi,zD7 hj,hx,hy,zD7 ae,zD7 af,hv,hu]
  obtain⟨h1,h2⟩:=yb6 v u
  obtain⟨h3,h4⟩:=yb6 u v
  split
  .rw[decide_eq_decide]
   exact⟨fun h=>h2.2 (h3.1 om),fun h=>by have:=h3.2 (h2.1 h);omega⟩
  .rw[decide_eq_decide]
   exact⟨fun h=>h1.2 (h4.1 h),fun h=>h4.2 (h1.1 h)⟩
 show VCalls _ _ _ _ (fun r s=>r= .bool (ltR d aa dn l i j)/\_)
 rw[hM]
 clear hM
 generalize cmpV v u=k at ab
 have hok:=zH0 T ⟨a1,a2,a3,a4,a5,a6,a7,a8,dn,a9⟩ aa l l.length
 generalize hB:(if dn=true then decide (0<k)else decide (k<0))=B
 have ret: ∀(r:Bool) (σl:St),r=B->wret (some (.bool r)) 6 (fun r s=>r= .bool B/\s=chS T ⟨a1,a2,a3,a4,a5,a6,a7,a8,dn,a9⟩ aa (l.map Ln.row) l.length) (chS T ⟨a1,a2,a3,a4,a5,a6,a7,a8,dn,a9⟩ aa (l.map Ln.row) l.length++σl):=fun r σl h=>by
  subst h
  exact xA 6 (D5 rfl) rfl hok (A5 _) (zC rfl) ⟨rfl,rfl⟩
 clear hok ad
 have hk:=Ee k 0
 cases dn<;>(
  refine iV 6 func158 ntmps158 results158 fun c hc hb=> ?_
  refine zA ?_
  simp[go_sem,chS]
  refine yS [(16,0)] 6 rfl kR kR ?_
  simp[go_sem,hi,hj,hx,hy,ae,af,hv,hu]
  refine pD ab ?_
  simp[go_sem]
  rcases hk with q|q|q
  .have q2: ¬0<k:=om
   simp[go_sem,q,q2]
   exact ret _ _ (by rw[<-hB];simp[q,q2])
  .subst q
   simp[go_sem]
   exact ret _ _ (by rw[<-hB];simp)
  .have q2: ¬k<0:=om
   simp[go_sem,q,q2]
   exact ret _ _ (by rw[<-hB];simp[q,q2]))
theorem yM8:(Tryz.prog.info? 200).map (fun i=>(i.size,i.hasPointers,i.bytes))=some (3,true,48):=kR
theorem xp2:(Tryz.prog.info? 195).map (fun i=>i.desc)=some (.slice 200):=kR
theorem xB9 (w:World):(Extern.Rtype.kind 200).run prog w= .ok 25 w:=kR
theorem xT5 {n:Nat} {ie:TypeInfo} (hn:2<=n) (h1:ie.hasPointers=true) (h2:ie.bytes=48):Lib.swapperK n ie 25=9:=by
 unfold Lib.swapperK
 have e1:(n==0)=false:=by simp;omega
 have e2:(n==1)=false:=by simp;omega
 rw[e1,e2,h1,h2]
 rfl
theorem wi0 (args:Array Value) (w:World):(callFunc 300 args).run prog w=((Extern.ReflectliteSwapper.swap false args).run prog w).andThen fun v w'=> .ok (.value v) w':=
 run_callFunc_extern func300 kR kR kR (e:=Extern.ReflectliteSwapper.swap false) kR args w
def lnD (col:Nat):Ln:=⟨0,[],List.replicate (col+1) zeroV⟩
noncomputable def ssS (T:GTable) (st:GStmt) (col:Int) (rows:List (List V)) (n:Nat):St:=chS T st col rows n++ [.box [.lsv 0 3 n 0 n],.box [.raw (typeHandle prog 195),.ptr 6 0,.int .u64 151]]
noncomputable def ssC (n:Nat):List V:=if n<=1 then []else [.lsv 0 3 n 0 n,.raw (typeHandle prog 200)]
theorem xX2 {aa:Nat} (f:Nat->Nat):lsF (ssS T st aa (l.map Ln.row) l.length) 0 3 l.length (fun k=>(l.getD k (lnD aa)).row) f=ssS T st aa (((List.range l.length).map fun k=>l.getD (f k) (lnD aa)).map Ln.row) l.length:=by
 unfold lsF ssS chS
 rw[Bk]
 rfl
theorem xS7 {d:Ln} (f:Nat->Nat):((List.range l.length).map fun k=>l.getD (f k) d).length=l.length:=sm
theorem wf1 (G:FuncId) (T:GTable) (st:GStmt) (aa:Nat) (ag:aa<=10000) (l:List Ln) (hl:l.length<=10000) (ah: ∀x∈l,aa<x.v.length) (hG:2<=l.length->G=300):
  SC prog 158 G [.ptr 3 0,.ptr 5 0,.ptr 2 0] (ssC l.length) (ssS T st aa (l.map Ln.row) l.length) 0 3 l.length (fun k=>(l.getD k (lnD aa)).row) (ltR (lnD aa) aa st.down l):=by
 have ae: ∀k,aa<(l.getD k (lnD aa)).v.length:=fun k=>by
  by_cases q:k<l.length
  .rw[zD7 q];exact ah _ (Aa q)
  .rw[A7,Bh om];simp[lnD]
 have ao: ∀rows n,(chS T st aa rows n).length=6:=fun _ _=>rfl
 refine⟨by simp[ssS,chS],om,rfl, ?_, ?_,fun k=> ?_,fun c τ f i j K hi hj ai hk=> ?_,fun c τ f i j K hi hj ai hk=> ?_⟩
 .unfold ssC
  split
  .rfl
  .simp[ssS,chS,ltK]
 .have h:=zH0 T st aa l l.length
  unfold ssS
  rw[Eb,A6]
  refine⟨?_,by simp[chS,ltOb,ltC,ltK]⟩
  rw[Af]at h⊢
  exact fun o ho=>zW5 (by simp[chS]) (h o ho)
 .simp[Ln.row,ltC,ltK]
 .rw[xX2]at hk⊢
  obtain⟨l',ab⟩: ∃l',((List.range l.length).map fun k=>l.getD (f k) (lnD aa))=l':=⟨_,rfl⟩
  have aj:l'.length=l.length:=by rw[<-ab,xS7]
  have hg: ∀k,k<l.length->l'.getD k (lnD aa)=l.getD (f k) (lnD aa):=fun k hk=>by
   rw[<-ab,zD7 (by simpa using hk)];simp
  have af:=wb3 (lnD aa) T st aa ag l' (fun x hx=>by
   rw[<-ab]at hx
   obtain⟨k,_,rfl⟩:=Ac.1 hx
   exact ae _) i j om om
  have ak:ltR (lnD aa) aa st.down l' i j=ltR (lnD aa) aa st.down l (f i) (f j):=by
   unfold ltR
   rw[hg i hi,hg j hj]
  rw[ak,aj]at af
  rw[ab]at hk⊢
  refine zo1 6 af cB ?_ rfl (by have:=zH0 T st aa l' l.length;exact this) ?_ ?_ ?_
  .show(chS _ _ _ _ _++_++τ).take 6=_
   rw[Cy]
   exact D5 rfl
  .exact zb4 rfl
  .rintro r s ⟨rfl,rfl⟩
   exact⟨rfl,zH0 T st aa l' l.length,rfl⟩
  .rintro r s ⟨rfl,rfl⟩
   have e:chS T st aa (l'.map Ln.row) l.length++(ssS T st aa (l'.map Ln.row) l.length++τ).drop 6=ssS T st aa (l'.map Ln.row) l.length++τ:=rfl
   rw[e]
   exact hk
 .have h2:2<=l.length:=om
  rw[hG h2]
  obtain⟨ie,al,ad⟩:=B0.1 yM8
  simp only[Prod.mk.injEq]at ad
  obtain⟨an,_,_⟩:=ad
  have e0:ssC l.length= [.lsv 0 3 l.length 0 l.length,.raw (typeHandle prog 200)]:=by unfold ssC;rw[if_neg om]
  rw[e0]
  refine xs4 wi0 al isAgg200 an sm (rows:=(List.range l.length).map fun k=>(l.getD (f k) (lnD aa)).row) (R:=(List.range l.length).map fun k=>(l.getD (sw f i j k) (lnD aa)).row) rfl hi hj ?_ hk
  have gd: ∀q,q<l.length->((List.range l.length).map fun k=>(l.getD (f k) (lnD aa)).row).getD q []=(l.getD (f q) (lnD aa)).row:=fun q hq=>by
   rw[zD7 (by simpa using hq)];simp
  rw[gd i hi,gd j hj]
  refine List.ext_getElem sm fun k h1 h2=> ?_
  rw[List.getElem_set,List.getElem_set]
  simp only[D7,List.getElem_range,sw]
  split
  .rename_i q;subst q
   rw[if_neg om,if_pos rfl]
  .split
   .rename_i q;subst q
    rw[if_pos rfl]
   .rename_i q1 q2
    rw[if_neg om,if_neg om]
theorem valF (args:Array Value) (w:World):(callFunc 232 args).run prog w=((Extern.ReflectliteValue.unpack (args.getD 0 (.tuple #[]))).run prog w).andThen fun v w'=> .ok (.value v) w':=
 run_callFunc_extern func232 kR kR kR (e:=fun args=>Extern.ReflectliteValue.unpack (args.getD 0 (.tuple #[]))) kR args w
theorem wi1 (args:Array Value) (w:World):(callFunc 233 args).run prog w=((Extern.ReflectliteSwapper.swapper "internal/reflectlite" (Extern.ReflectliteValue.valueError "Swapper") args).run prog w).andThen fun v w'=> .ok (.value v) w':=
 run_callFunc_extern func233 kR kR kR (e:=Extern.ReflectliteSwapper.swapper "internal/reflectlite" (Extern.ReflectliteValue.valueError "Swapper")) kR args w
theorem wi5 (args:Array Value) (w:World):(callFunc 235 args).run prog w=((Extern.ReflectliteValue.method (Extern.ReflectliteValue.valueError "reflectlite.Value.Len" 0) Extern.ReflectliteValue.len args).run prog w).andThen fun v w'=> .ok (.value v) w':=
 run_callFunc_extern func235 kR kR kR (e:=Extern.ReflectliteValue.method (Extern.ReflectliteValue.valueError "reflectlite.Value.Len" 0) Extern.ReflectliteValue.len) kR args w
theorem xN3:(Tryz.prog.funcs.findIdx? (·.name== "internal/reflectlite" ++ ".Swapper$" ++toString 1),Tryz.prog.funcs.findIdx? (·.name== "internal/reflectlite" ++ ".Swapper$" ++toString 2),Tryz.prog.funcs.findIdx? (·.name== "internal/reflectlite" ++ ".Swapper$" ++toString 9))=(some 292,some 293,some 300):=kR
@[go_sem] theorem zeroT_val:wI prog 304=some [.nilp,.nilp,.int .u64 0]:=kR
@[go_sem] theorem szT_val:szT prog 304=some 3:=kR
@[go_sem] theorem aggT_val:aggT prog 304=some true:=kR
theorem yp3 (T:GTable) (st:GStmt) (col:Nat) (hc0:col<=10000) (l:List Ln) (hl:l.length<=10000) (hcl: ∀x∈l,col<x.v.length):
  VCalls prog 157 [.ifc 195 [.lsv 0 3 l.length 0 l.length],.fn 158 [.ptr 3 0,.ptr 5 0,.ptr 2 0]] (chS T st col (l.map Ln.row) l.length) (fun r s=>r= .tup []/\s=chS T st col ((zw4 col st.down l).map Ln.row) l.length):=by
 obtain⟨ti,hti,htd⟩:=B0.1 xp2
 obtain⟨ie,hie,hie2⟩:=B0.1 yM8
 simp only[Prod.mk.injEq]at hie2
 obtain⟨hs3,hp,hby⟩:=hie2
 obtain⟨G,hG,hG2,hsel⟩: ∃G,Tryz.prog.funcs.findIdx? (·.name== "internal/reflectlite" ++ ".Swapper$" ++toString (Lib.swapperK l.length ie 25))=some G/\(2<=l.length->G=300)/\(Lib.swapperK l.length ie 25<=2↔l.length<=1):=by
  have h:=xN3
  simp only[Prod.mk.injEq]at h
  obtain⟨f1,f2,f3⟩:=h
  by_cases q:2<=l.length
  .rw[xT5 q hp hby]
   exact⟨_,f3,fun _=>rfl,om⟩
  .rcases(by omega:l.length=0∨l.length=1)with e|e
   .rw[e];exact⟨_,f1,fun h=>om,⟨fun _=>dC,fun _=>(by show 1<=2;decide)⟩⟩
   .rw[e];exact⟨_,f2,fun h=>om,⟨fun _=>dC,fun _=>(by show 2<=2;decide)⟩⟩
 have S:=wf1 G T st col hc0 l hl hcl hG2
 have hst:=xH1 S (xf5 (lnD col) col st.down l)
 have hls: ∀f,lsF (ssS T st col (l.map Ln.row) l.length) 0 3 l.length (fun k=>(l.getD k (lnD col)).row) f=ssS T st col (((List.range l.length).map fun k=>l.getD (f k) (lnD col)).map Ln.row) l.length:=fun f=>xX2 f
 have hidl:((List.range l.length).map fun k=>l.getD k (lnD col))=l:=by
  refine List.ext_getElem sm fun k h1 h2=> ?_
  simp[h2]
 have hst2:VCalls prog 234 [.agg [.fn 158 [.ptr 3 0,.ptr 5 0,.ptr 2 0],.fn G (ssC l.length)],.int .i64 l.length] (ssS T st col (l.map Ln.row) l.length) (fun r t=>r= .tup []/\t=ssS T st col ((zw4 col st.down l).map Ln.row) l.length):=by
  rw[hls,hidl]at hst
  refine hst.mono fun r t h=> ?_
  obtain⟨h1,g,h2,h3⟩:=h
  refine⟨h1, ?_⟩
  rw[h2,hls]
  congr 2
  exact yZ4 h3.1 h3.2
 have hok: ∀m:List Ln,(ssS T st col (m.map Ln.row) l.length).all (ltOb 8)=true:=fun m=>by
  have h:=zH0 T st col m l.length
  unfold ssS
  rw[Eb,A6]
  refine⟨?_,by simp[ltOb,ltC,ltK]⟩
  rw[Af]at h⊢
  exact fun o ho=>zW5 dC (h o ho)
 have hsc:ssC l.length=(if Lib.swapperK l.length ie 25<=2 then []else [.lsv 0 3 l.length 0 l.length,.raw (typeHandle prog 200)]):=by
  unfold ssC
  by_cases q:l.length<=1
  .rw[if_pos q,if_pos (hsel.2 q)]
  .rw[if_neg q,if_neg fun h=>q (hsel.1 h)]
 refine iV 6 func157 ntmps157 results157 fun c hc hb=> ?_
 refine zO (zA ?_)
 simp[go_sem]
 refine yS2 valF hti htd ?_
 simp[go_sem]
 have e6:(chS T st col (l.map Ln.row) l.length).length=6:=rfl
 rw[e6]
 refine zO (zA ?_)
 simp[go_sem]
 refine yS1 wi1 hti htd hie xB9 hG ?_
 rw[<-hsc]
 simp[go_sem]
 have h7:(chS T st col (l.map Ln.row) l.length++ [.box [.lsv 0 3 l.length 0 l.length],.box [.raw (typeHandle prog 195),.ptr 6 0,.int .u64 151]])[7]? =some (.box [.raw (typeHandle prog 195),.ptr 6 0,.int .u64 151]):=rfl
 refine zA ?_
 simp[go_sem,h7]
 refine yE7 wi5 hti htd kR (id:=0) (s:=3) (n:=l.length) (m:=l.length) (k:=6) rfl ?_
 simp[go_sem]
 have hσ:chS T st col (l.map Ln.row) l.length++ [.box [.lsv 0 3 l.length 0 l.length],.box [.raw (typeHandle prog 195),.ptr 6 0,.int .u64 151]]=ssS T st col (l.map Ln.row) l.length:=rfl
 rw[hσ]
 refine zo1 8 hst2 cB (Al (A5 8)) rfl (hok l) ?_ ?_ ?_
 .rw[Az]
  refine zb4 ?_
  have:=S.cs_ok
  have e8:(ssS T st (col:Int) (l.map Ln.row) l.length).length=8:=rfl
  rw[e8]at this
  simp[ltS,ltA,ltC,this,ltK]
 .rintro r s ⟨rfl,rfl⟩
  exact⟨rfl,hok _,rfl⟩
 .rintro r s ⟨rfl,rfl⟩
  have hd8:(ssS T st (col:Int) (l.map Ln.row) l.length).drop 8= []:=rfl
  rw[hd8]
  simp[go_sem]
  exact xA 6 (s:=chS T st col ((zw4 col st.down l).map Ln.row) l.length) rfl rfl (zH0 T st col _ _) (A5 _) (zC rfl) ⟨rfl,rfl⟩
theorem NowOk.get (h:NowOk b l) {d:List UInt8}:b.get p=some d↔ ∃x∈l,x.at=p/\yO x.v=d:=by
 rw[Mp.get_mem h.ok,h.perm.mem_iff,Ac]
 constructor
 .rintro⟨x,hx,he⟩
  simp only[Prod.mk.injEq]at he
  exact⟨x,hx,he⟩
 .rintro⟨x,hx,h1,h2⟩
  exact⟨x,hx,by rw[h1,h2]⟩
theorem NowOk.get_none (h:NowOk b l):b.get p=none↔atF l p=false:=get_isNone.trans h.at_none
def isN (a:Mp (List UInt8)) (e:Pl×List UInt8):Bool:=a.get e.1 !=some e.2
def isO (b:Mp (List UInt8)) (e:Pl×List UInt8):Bool:=(b.get e.1).isNone
def keyN (a:Mp (List UInt8)) (D:List (Pl×List UInt8)):List Pl:=(D.filter (isN a)).map (·.1)
def keyO (b:Mp (List UInt8)) (D:List (Pl×List UInt8)):List Pl:=(D.filter (isO b)).map (·.1)
def wrB (b:Mp (List UInt8)) (p:Pl):Wr:=⟨p,(b.get p).isNone,(b.get p).getD []⟩
theorem xv6 {ah now:List Ln} (ha:NowOk a ah) (hb:NowOk b now) {L:List Pl} (hp:L.Perm (keyN a b.W++keyO b a.W)) (hs:L.Pairwise fun p q=> ¬ordP q p<0):L.map (wrB b)=chgF ah now:=by
 have nN:(keyN a b.W).Nodup:=List.Nodup.sublist ((C5).map _) hb.keys
 have nO:(keyO b a.W).Nodup:=List.Nodup.sublist ((C5).map _) ha.keys
 have nL:L.Nodup:=by
  rw[hp.nodup_iff,Co]
  refine⟨nN,nO,fun p h1 q h2 e=> ?_⟩
  subst e
  obtain⟨e1,ad,rfl⟩:=Ac.1 h1
  obtain⟨e2,ae,h3⟩:=Ac.1 h2
  have h4:=(Mp.get_mem hb.ok).2 (Aw.1 ad).1
  have h5:=(Aw.1 ae).2
  unfold isO at h5
  rw[h3,h4]at h5
  cases h5
 have hr:Rise L:=by
  have:=xR8 (kx:=fun p:Pl=>p) (l:=L) hs (by rw[E7];exact nL)
  rwa [E7]at this
 obtain⟨c1,c2⟩:=zQ5 ha.rise hb.rise
 refine yj2 ?_ c1 fun w=> ?_
 .unfold zA2
  rw[C2]
  exact hr
 rw[c2 w,Ac]
 have hm: ∀p,p∈L↔p∈keyN a b.W∨p∈keyO b a.W:=fun p=>by rw[hp.mem_iff,Av]
 constructor
 .rintro⟨p,ai,rfl⟩
  rcases(hm p).1 ai with h|h
  .obtain⟨⟨p',d⟩,he,rfl⟩:=Ac.1 h
   obtain⟨ad,ae⟩:=Aw.1 he
   have hg:=(Mp.get_mem hb.ok).2 ad
   obtain⟨x,hx,aa,ab⟩:=hb.get.1 hg
   refine .inr ⟨by simp[wrB,hg],x,hx,aa,by simp[wrB,hg,ab],fun y hy af ag=> ?_⟩
   have:=ha.get.2 ⟨y,hy,af.trans aa,ag.trans ab⟩
   simp[isN,this]at ae
  .obtain⟨⟨p',d⟩,he,rfl⟩:=Ac.1 h
   obtain⟨ad,ae⟩:=Aw.1 he
   have hg:=(Mp.get_mem ha.ok).2 ad
   have hn:b.get p'=none:=by simpa[isO]using ae
   obtain⟨x,hx,aa,ab⟩:=ha.get.1 hg
   exact .inl ⟨by simp[wrB,hn],by simp[wrB,hn],⟨x,hx,aa⟩,hb.get_none.1 hn⟩
 .rintro(⟨h1,h2,⟨x,hx,aa⟩,h3⟩|⟨h1,x,hx,aa,ab,h3⟩)
  .have hn:=hb.get_none.2 h3
   have hg:=ha.get.2 ⟨x,hx,aa,rfl⟩
   refine⟨w.p,(hm _).2 (.inr (Ac.2 ⟨(w.p,yO x.v),Aw.2 ⟨(Mp.get_mem ha.ok).1 hg,by simp[isO,hn]⟩,rfl⟩)), ?_⟩
   obtain⟨p,dr,da⟩:=w
   simp only at h1 h2 hn
   simp[wrB,hn,h1,h2]
  .have hg:=hb.get.2 ⟨x,hx,aa,ab⟩
   refine⟨w.p,(hm _).2 (.inl (Ac.2 ⟨(w.p,w.data),Aw.2 ⟨(Mp.get_mem hb.ok).1 hg, ?_⟩,rfl⟩)), ?_⟩
   .simp only[isN,bne_iff_ne,ne_eq]
    intro h
    obtain⟨y,hy,af,ag⟩:=ha.get.1 h
    exact h3 y hy (af.trans aa.symm) (ag.trans ab.symm)
   .obtain⟨p,dr,da⟩:=w
    simp only at h1 hg
    simp[wrB,hg,h1]
theorem xU4 {args:List V} {rows:List (List V)} {w n:Nat} (hc:VCalls P f args' [] fun r s=>r= .lsv 0 w n 0 n/\s= [.lst rows w]) (hb:wB P f=true) (ab:ltOb 0 (.lst rows w)=true)
  (aa:All2 (argS (ren [] σ.length)) args' (args++caps)) (hK:KV (.lsv σ.length w n 0 n) (σ++ [.lst rows w])):wVC P c (.fn f caps) args σ KV fx:=by
 refine VC.of hc hb [] D9 rfl (fun i j o h=>by simp at h) aa fun r s h _=> ?_
 obtain⟨rfl,rfl⟩:=h
 have e:xD [] σ [.lst rows w]=σ++ [.lst rows w]:=by
  simp only[xD,mset,Bg,Dp,Aj,Bx]
  rw[xT (n:=0) (fun _ h=>absurd h (Bc _)) ab]
 rw[e]
 have e2:renS (ren [] σ.length) (.lsv 0 w n 0 n)= .lsv σ.length w n 0 n:=by
  simp[renS,renA,renC,renK,ren]
 rw[e2]
 exact hK
def updR (a:Mp (List UInt8)) (sn:Mp Int) (m:List Ln) (B:Mp (List UInt8)) (M:List Ln×Int) (r:V) (s:St):Prop:=
 s=runS a B sn++ [.lst (m.map Ln.row) 3]/\((M.2≠0/\r= .tup [.agg (Ot.row ⟨0,[]⟩),.int .i64 M.2])∨(M.2=0/\r= .tup [.agg (Ot.row ⟨m.length,[]⟩),.int .i64 0]/\NowOk B M.1))
def updB (T:GTable) (sets:List GAssign):List Ln->Mp (List UInt8)->Mp (List UInt8)
 | [],b=>b
 |x::m,b=>
  if(setF T x.v sets x.v).2≠0 then b
  else if mayT T.cols (setF T x.v sets x.v).1≠0 then b
  else updB T sets m (b.put x.at (yO (setF T x.v sets x.v).1))
theorem xq6 {k d:List UInt8} {w:Nat×List UInt8} (h:b.at (r,k)=some w):Ob.mp (((kvE V.str b.W).set (2*w.1) (.agg [.int .i64 r,.str k])).set (2*w.1+1) (.str d)) b.bs b.clk=(b.put (r,k) d).ob V.str:=by
 unfold Mp.put Mp.ob
 rw[h]
 show _=Ob.mp (kvE V.str (b.W.set w.1 ((r,k),d))) _ _
 rw[<-xB2]
 rfl
theorem yh2 (h:LnOk x):1<=x.v.length/\x.v.length<=20:=by
 obtain⟨tn,T,_,hT,hm⟩:=h.tab
 have h1:=zk1 hm
 have h2:=(by decide: ∀T∈tabsS,1<=T.cols.length/\T.cols.length<=20) T (As hT)
 omega
theorem xc2 (T:GTable) (name:List UInt8):colF T name<T.cols.length:=by
 have h:=zu6 (fun c:GCol=>c.name==name) T.cols 0
 unfold colF
 omega
theorem xI5 (tn:Nat) (T:GTable) (hT:tabsS[tn]? =some T) (st:GStmt) (aG:SOk st) (au: ∀x∈st.sets,0<=colF T x.name) (a b:Mp (List UInt8)) (sn:Mp Int) (l m:List Ln) (av:NowOk b l) (hm: ∀x∈m,atF l x.at=true/\LnOk x/\(ofS x.r).1=(tn:Int)) (hl:m.length<=10000):
  VCalls prog 92 [.ptr 3 0,.agg T.row,.agg st.row,.lsv 4 3 m.length 0 m.length] (runS a b sn++ [.lst (m.map Ln.row) 3]) (updR a sn m (updB T st.sets m b) (updF T st.sets m l)):=by
 generalize hM:updF T st.sets m l=M
 generalize hB:updB T st.sets m b=B
 have aw: ∀(b':Mp (List UInt8)),(runS a b' sn++([.lst (m.map Ln.row) 3]:St)).all (ltOb 5)=true:=fun b'=>by
  have h:=xQ 5 dC a b' sn
  rw[Eb,h]
  simp[ltOb,ltC,ltK,Ln.row]
 have good: ∀(b':Mp (List UInt8)) (σl:St) (l':List Ln),b'=B->M=(l',0)->NowOk b' l'->wret (some (.tup [.agg [.sl .full [],.int .i64 m.length],.int .i64 0])) 5 (updR a sn m B M) (a.ob .str::b'.ob .str::sn.ob (V.int .i64):: .box [.sl .ro xG,.sl .ro (tabsS.map GTable.row),.mp 0,.mp 1,.mp 2]:: .lst (m.map Ln.row) 3::σl):=fun b' σl l' h0 h1 h2=>
  xA 5 (s:=runS a b' sn++ [.lst (m.map Ln.row) 3]) (r:= .tup [.agg (Ot.row ⟨m.length,[]⟩),.int .i64 0]) rfl rfl (aw b') (A5 _) (wD ⟨zc7 ⟨yJ,zT rfl,tV⟩,zb8 rfl,tV⟩) ⟨by rw[h0],.inr ⟨by rw[h1],rfl,by rw[h1,<-h0];exact h2⟩⟩
 have bad: ∀(b':Mp (List UInt8)) (e:Int) (σl:St),b'=B->M.2=e->e≠0->wret (some (.tup [.agg [.sl .full [],.int .i64 0],.int .i64 e])) 5 (updR a sn m B M) (a.ob .str::b'.ob .str::sn.ob (V.int .i64):: .box [.sl .ro xG,.sl .ro (tabsS.map GTable.row),.mp 0,.mp 1,.mp 2]:: .lst (m.map Ln.row) 3::σl):=fun b' e σl h0 h1 h2=>
  xA 5 (s:=runS a b' sn++ [.lst (m.map Ln.row) 3]) (r:= .tup [.agg (Ot.row ⟨0,[]⟩),.int .i64 e]) rfl rfl (aw b') (A5 _) (wD ⟨zc7 ⟨yJ,zT rfl,tV⟩,zb8 rfl,tV⟩) ⟨by rw[h0],.inl ⟨by rw[h1];exact h2,by rw[h1]⟩⟩
 refine iV 5 func92 ntmps92 results92 fun c hc hb=> ?_
 refine zA ?_
 simp[go_sem,runS,runB]
 have ax: ∀(b':Mp (List UInt8)),([a.ob .str,b'.ob .str,sn.ob (V.int .i64),.box [.sl .ro xG,.sl .ro (tabsS.map GTable.row),.mp 0,.mp 1,.mp 2],.lst (m.map Ln.row) 3,.box T.row,.box st.row,.box out0]:St).all (ltOb 8)=true:=fun b'=>by
  have h:=xQ 8 om a b' sn
  simp only[runS,runB,Ar,Ch,Cm]at h⊢
  rw[A6,A6,A6]at h⊢
  refine⟨h.1,h.2.1,h.2.2.1, ?_⟩
  rw[A6]
  exact⟨h.2.2.2,by simp[ltOb,ltC,ltK,GStmt.row,GTable.row,Ln.row,out0]⟩
 have ah: ∀(b':Mp (List UInt8)) (x:Ln) (row:List GValue),([a.ob .str,b'.ob .str,sn.ob (V.int .i64),.box [.sl .ro xG,.sl .ro (tabsS.map GTable.row),.mp 0,.mp 1,.mp 2],.lst (m.map Ln.row) 3,.box T.row,.box st.row,.box out0,.box x.row,.lst (row.map GValue.row) 3]:St).all (ltOb 10)=true:=fun b' x row=>by
  have h:=xQ 10 om a b' sn
  simp only[runS,runB,Ar,Ch,Cm]at h⊢
  rw[A6,A6,A6]at h⊢
  refine⟨h.1,h.2.1,h.2.2.1, ?_⟩
  rw[A6]
  exact⟨h.2.2.2,by simp[ltOb,ltC,ltK,GStmt.row,GTable.row,Ln.row,GValue.row,out0]⟩
 have ay:T.cols.length<=maxLen:=(by decide: ∀T∈tabsS,T.cols.length<=maxLen) T (As hT)
 have hlen: ∀x,LnOk x->(ofS x.r).1=(tn:Int)->x.v.length=T.cols.length:=fun x hx aj=>by
  obtain⟨aH,T',h1,h2,h3⟩:=hx.tab
  have:aH=tn:=om
  subst this
  rw[hT]at h2
  cases h2
  exact zk1 h3
 refine zH (S:=Nat×Mp (List UInt8)×List Ln) [0,3,5,6,8,9,18,19,20] (fun u=> [.ptr 3 0,.lsv 4 3 m.length 0 m.length,.ptr 5 0,.ptr 6 0,.ptr 7 0,.int .i64 0,.lsv 4 3 m.length 0 m.length,.int .i64 m.length,.int .i64 u.1])
  (fun u=> [a.ob .str,u.2.1.ob .str,sn.ob (V.int .i64),.box [.sl .ro xG,.sl .ro (tabsS.map GTable.row),.mp 0,.mp 1,.mp 2],.lst (m.map Ln.row) 3,.box T.row,.box st.row,.box out0]) (fun u=>m.length - u.1)
  (fun u=>u.1<=m.length/\NowOk u.2.1 u.2.2/\(∀p,atF u.2.2 p=atF l p)/\updF T st.sets (m.drop u.1) u.2.2=M/\updB T st.sets (m.drop u.1) u.2.1=B) hc hb (0,b,l) ⟨A4 _,av,fun _=>rfl,hM,hB⟩ ?_ ?_
 .exact at_n 8 (by simp[go_sem,out0]) rfl (ax b) dC (zF sg rfl)
 rintro⟨i,b1,l1⟩ ⟨hi,ak,ag,aa,ab⟩
 simp only at hi ak ag aa ab
 by_cases q:i<m.length
 rotate_left
 .rw[Ab om,updF]at aa
  rw[Ab om,updB]at ab
  refine zA ?_
  simp[go_sem,q,out0]
  exact good b1 _ l1 ab aa.symm ak
 have ei:=zQ q om
 obtain⟨x,hx⟩:=eX (m[i])
 obtain⟨az,ae,aj⟩:=hm x (hx▸Aa q)
 refine zA ?_
 simp[go_sem,q,hx]
 have a1:=yh2 ae
 have aI:=yH6 x.v om (fun h=>by rw[h]at a1;simp at a1)
 refine xU4 aI cB (by simp[ltOb,ltC,ltK,GValue.row]) ⟨zK,tV⟩ ?_
 simp[go_sem,out0]
 obtain⟨E,hE⟩:=eX (setF T x.v st.sets x.v)
 rw[A8 q,hx,updF,hE]at aa
 rw[A8 q,hx,updB,hE]at ab
 have a6:=aG.sets
 refine zH (S:=Nat×List GValue) [0,3,5,6,8,9,11,12,18,19,20,28,29,30] (fun u=> [.ptr 3 0,.lsv 4 3 m.length 0 m.length,.ptr 5 0,.ptr 6 0,.ptr 7 0,.int .i64 0,.ptr 8 0,.lsv 9 3 x.v.length 0 x.v.length,.lsv 4 3 m.length 0 m.length,.int .i64 m.length,.int .i64 i,.sl .ro (st.sets.map GAssign.row),.int .i64 st.sets.length,.int .i64 u.1])
  (fun u=> [a.ob .str,b1.ob .str,sn.ob (V.int .i64),.box [.sl .ro xG,.sl .ro (tabsS.map GTable.row),.mp 0,.mp 1,.mp 2],.lst (m.map Ln.row) 3,.box T.row,.box st.row,.box out0,.box x.row,.lst (u.2.map GValue.row) 3]) (fun u=>st.sets.length - u.1)
  (fun u=>u.1<=st.sets.length/\u.2.length=x.v.length/\setF T x.v (st.sets.drop u.1) u.2=E) hc hb (0,x.v) ⟨A4 _,rfl,hE⟩ ?_ ?_
 .exact at_n 10 (by simp[go_sem,out0]) rfl (ah b1 x x.v) dC (zF sg rfl)
 rintro⟨j,row⟩ ⟨hj,af,ad⟩
 simp only at hj af ad
 by_cases qj:j<st.sets.length
 .have ej:=zQ qj om
  obtain⟨y,hy⟩:=eX (st.sets[j])
  have aJ:=(a6.2 y (hy▸Aa qj)).2
  have aP:=au y (hy▸Aa qj)
  rw[A8 qj,hy,setF]at ad
  have ai:=yx0 T ay x.v ae.ok y.e aJ
  have a7:Pure prog 156 [.agg T.row,.str y.name] (.int .i64 (colF T y.name)):=yp5 T y.name ay
  obtain⟨k,hk⟩: ∃k:Nat,colF T y.name=k:=⟨(colF T y.name).toNat,om⟩
  have aQ:k<row.length:=by
   have h1:=xc2 T y.name
   rw[af,hlen x ae aj]
   omega
  have aK:k<x.v.length:=om
  rw[hk]at a7 ad
  simp only[Ay]at ad
  obtain⟨⟨v,er⟩,hv⟩: ∃kv,evR T x.v y.e=kv:=⟨_,rfl⟩
  rw[hv]at ad ai
  simp only at ad
  refine zA ?_
  simp[go_sem,qj,hy]
  refine zJ ai cB ⟨zC rfl,zK,zQ2 y.e,tV⟩ rfl ?_
  simp[go_sem,valP]
  by_cases q2:er=0
  rotate_left
  .have an:(er !=0)=true:=by simpa using q2
   rw[if_pos q2]at ad
   subst ad
   simp only at aa ab
   rw[if_pos q2]at aa ab
   simp[go_sem,an,out0]
   exact bad b1 er _ ab (by rw[<-aa]) q2
  have an:(er !=0)=false:=by simpa using q2
  rw[if_neg (fun h=>h q2)]at ad
  simp[go_sem,an]
  refine yS [(4,0)] 12 rfl kR kR ?_
  simp[go_sem]
  refine pD a7 ?_
  simp[go_sem]
  refine zI om ?_
  simp[go_sem,af,aK,ej]
  exact zG (j+1,row.set k v) ⟨by show st.sets.length - (j+1)<st.sets.length - j;omega,⟨qj,by show(row.set k v).length=_;rw[Db];exact af,ad⟩,at_n 10 (by simp[go_sem,out0,E8]) rfl (ah b1 x _) dC (zF sg rfl)⟩
 rw[Ab om,setF]at ad
 subst ad
 simp only at aa ab
 rw[if_neg (fun h=>h rfl)]at aa ab
 have aR:=hlen x ae aj
 have a8: ∀v∈row,v.ok:=by
  have h1:=yc7 (T:=T) ae.ok (sets:=st.sets) (row:=x.v) (fun y hy=>(a6.2 y hy).2) ae.ok
  rw[hE]at h1
  exact(h1 rfl).2
 have al:=yF9 T row (by unfold maxLen;omega)
 have aA:xM (row.map GValue.row)=true:=by simp[xM,zy4,GValue.row]
 obtain⟨mr,ao⟩:=eX (mayT T.cols row)
 rw[ao]at aa al ab
 have aL:mr=0->LightR row:=fun h0=>zB2 ((by decide: ∀T∈tabsS,T.cols.length<=20) T (As hT)) a8 (ao.trans h0)
 have aq:=fun h0=>xt0 row (aL h0)
 obtain⟨w0,aB⟩: ∃w0,b1.at x.at=some w0:=by
  cases h:b1.at x.at with
  |none=>have:=ag x.at;rw[az,ak.at_none.1 h]at this;cases this
  |some w=>exact⟨w,rfl⟩
 have eB:b1.ob .str= .mp (kvE .str b1.W) b1.bs b1.clk:=rfl
 have aC:idxW (x.r,x.k) b1.W=some w0:=aB
 have aD:=xq6 (d:=yO row) (r:=x.r) (k:=x.k) aB
 have aE:mr=0->NowOk (b1.put x.at (yO row)) (putF l1 x.at row):=fun h0=>ak.turn x.at row (by rw[ag];exact az) ⟨⟨tn,T,aj,hT,ao.trans h0⟩,ae.err,a8⟩
 have aF:za7 (row.map GValue.row) 0 x.v.length=row.map GValue.row:=by
  rw[<-af]
  unfold za7
  rw[Bg,Al sm,Bk]
  exact B6 fun _ _=>rfl
 refine zA ?_
 simp[go_sem,qj]
 refine yS3 al cB (.step 9 3 (row.map GValue.row) rfl aA (.refl _ _)) (zN (by simp[frzS,frzA,frzC,frzK,aF,af,go_sem]) rfl) rfl ?_
 simp[go_sem]
 by_cases m0:mr=0
 rotate_left
 .have ar:(mr !=0)=true:=by simpa using m0
  rw[if_pos m0]at aa ab
  simp[go_sem,ar,out0]
  exact bad b1 mr _ ab (by rw[<-aa]) m0
 have ar:(mr !=0)=false:=by simpa using m0
 rw[if_neg (fun h=>h m0)]at aa ab
 simp[go_sem,ar]
 refine yS [(7,1)] 10 rfl kR kR ?_
 simp[go_sem]
 refine xJ1 (aq m0) cB (fun s hs=>⟨_,_,.step 9 3 (row.map GValue.row) ((Kp.get (k:=Kp.pre 10) rfl hs).trans rfl) aA (.refl _ _),zN (by simp[frzS,frzA,frzC,frzK,aF,af,go_sem]) rfl⟩) rfl ?_
 simp[go_sem,eB,zb5,aC,zc3,zd4,aD,ei]
 exact zG (i+1,b1.put x.at (yO row),putF l1 x.at row) ⟨by show m.length - (i+1)<m.length - i;omega,⟨q,aE m0,fun p=>by show atF (putF l1 x.at row) p=_;rw[yG5];exact ag p,aa,ab⟩,at_n 8 (by simp[go_sem,out0];rfl) rfl (ax _) dC (zF sg rfl)⟩
theorem yH5 (l:List GValue) (hl:l.length<=10000) (hz:l≠ []):Pure prog 160 [.sl .ro (l.map GValue.row)] (.sl .ro (l.map GValue.row)):=by
 refine(yH6 l hl hz).frz fun r s h=> ?_
 obtain⟨rfl,rfl⟩:=h
 have aa:za7 (l.map GValue.row) 0 l.length=l.map GValue.row:=by
  unfold za7
  rw[Bg,Al sm,Bk]
  exact B6 fun _ _=>rfl
 refine⟨_,_,.step 0 3 (l.map GValue.row) rfl (by simp[xM,zy4,GValue.row]) (.refl _ _), ?_⟩
 simp only[frzS,frzA,frzC,frzK,B1,Ad,A5,and_self,if_true,aa]
 exact zK
def selV (r:Ot×Int):V:= .tup [.agg r.1.row,.int .i64 r.2]
theorem xM4 (T:GTable) (name:List UInt8) (h:0<=colF T name): ∃k:Nat,colF T name=k/\k<T.cols.length:=by
 have:=xc2 T name
 exact⟨(colF T name).toNat,om,om⟩
theorem xS3 (T:GTable) (st:GStmt) (l:List Ln) (h:zK2 st.items=false):selF T st l=(if(zs9 T st.items (limF st.limit (if 0<=colF T st.order then zw4 (colF T st.order).toNat st.down l else l)) []).2≠0 then(⟨0,[]⟩,(zs9 T st.items (limF st.limit (if 0<=colF T st.order then zw4 (colF T st.order).toNat st.down l else l)) []).2)else(⟨0,(zs9 T st.items (limF st.limit (if 0<=colF T st.order then zw4 (colF T st.order).toNat st.down l else l)) []).1⟩,0)):=by
 unfold selF
 rw[if_neg (by rw[h];decide)]
theorem zP7 (c:Nat) (down:Bool) (l:List Ln):(zw4 c down l).Perm l:=by
 unfold zw4
 have h: ∀(m out:List Ln),(m.foldl (fun out x=>insB (fun y=>decide (0<cmpC c down y x)) out x) out).Perm (out++m):=by
  intro m
  induction m with
  |nil=>intro out;simp
  |cons x m ih=>
   intro out
   refine(ih _).trans ?_
   refine((ys4 _ out x).append_right m).trans ?_
   exact E0.symm
 exact h l []
def chL (T:GTable) (st:GStmt) (l:List Ln):List Ln:=if zK2 st.items=true then l else if 0<=colF T st.order then zw4 (colF T st.order).toNat st.down l else l
theorem yy4 (tn:Nat) (T:GTable) (hT:tabsS[tn]? =some T) (st:GStmt) (an:SOk st) (hit:st.items≠ []) (l:List Ln) (hl:l.length<=10000) (hok: ∀x∈l,LnOk x/\x.v.length=T.cols.length):
  VCalls prog 91 [.agg T.row,.agg st.row,.lsv 0 3 l.length 0 l.length] [.lst (l.map Ln.row) 3] (fun r s=>r=selV (selF T st l)/\s= [.lst ((chL T st l).map Ln.row) 3]):=by
 have ao:T.cols.length<=maxLen:=(by decide: ∀T∈tabsS,T.cols.length<=maxLen) T (As hT)
 have aT:T.cols.length<=20:=(by decide: ∀T∈tabsS,T.cols.length<=20) T (As hT)
 have ax:=xV1 st an
 have ae:=wh0 T ao st an l hl (fun x hx=>(hok x hx).1.ok)
 obtain⟨wb,af⟩:=eX (zK2 st.items)
 rw[af]at ax
 have ai:Pure prog 156 [.agg T.row,.str st.order] (.int .i64 (colF T st.order)):=yp5 T st.order ao
 obtain⟨M,hM⟩:=eX (selF T st l)
 rw[hM]
 obtain⟨C,hC⟩:=eX (chL T st l)
 rw[hC]
 have aH:wb=true->C=l:=fun h=>by rw[<-hC];unfold chL;rw[if_pos (af.trans h)]
 have aI:wb=false->C=if 0<=colF T st.order then zw4 (colF T st.order).toNat st.down l else l:=fun h=>by rw[<-hC];unfold chL;rw[if_neg (by rw[af,h];decide)]
 have ay:wb=true->oneV (zz2 T l st.items [])=selV M:=fun h=>by
  rw[<-hM]
  unfold oneV selV selF
  rw[if_pos (af.trans h)]
  by_cases q:(zz2 T l st.items []).2=0
  .rw[if_pos q,if_neg (fun h=>h q)]
  .rw[if_neg q,if_pos q]
 have az:=fun h:wb=false=>(xS3 T st l (af.trans h)).symm.trans hM
 clear hM
 refine iV 1 func91 ntmps91 results91 fun c hc hb=> ?_
 refine zO (zA ?_)
 simp[go_sem]
 refine zO (zA ?_)
 simp[go_sem]
 refine pC ax ?_
 refine(A9 wb).elim (fun w=> ?_) (fun w=> ?_)
 .rw[ay w]at ae
  simp[go_sem,w]
  refine zl9 0 ae cB rfl (by simp[ltOb,ltC,ltK,Ln.row]) ⟨zC rfl,zC rfl,.inl rfl,tV⟩ (by rintro r s ⟨rfl,rfl⟩;exact⟨_,rfl,by simp[ltOb,ltC,ltK,Ln.row]⟩) ?_
  rintro r o ⟨rfl,ho⟩
  cases ho
  simp[go_sem,selV,Ot.row]
  exact xA 1 (s:= [.lst (l.map Ln.row) 3]) (r:= .tup [.agg (Ot.row M.1),.int .i64 M.2]) rfl rfl (by simp[ltOb,ltC,ltK,Ln.row]) (A5 _) (wD ⟨zc7 ⟨yJ,zT rfl,tV⟩,zb8 rfl,tV⟩) ⟨rfl,by rw[aH w]⟩
 .have hM:=az w
  clear ay az ae
  obtain⟨m,hm⟩:=eX ((if 0<=colF T st.order then zw4 (colF T st.order).toNat st.down l else l))
  rw[hm]at hM
  have a1:C=m:=(aI w).trans hm
  have a6:m.Perm l:=by
   rw[<-hm]
   split
   .exact zP7 _ _ _
   .exact List.Perm.refl _
  have aq:=a6.length_eq
  have a7:0<=colF T st.order-> ∃k:Nat,colF T st.order=k/\VCalls prog 157 [.ifc 195 [.lsv 0 3 l.length 0 l.length],.fn 158 [.ptr 3 0,.ptr 5 0,.ptr 2 0]] (chS T st k (l.map Ln.row) l.length) (fun r s=>r= .tup []/\s=chS T st k (m.map Ln.row) l.length):=fun h0=>by
   obtain⟨k,hk,ag⟩:=xM4 T st.order h0
   have hs:=yp3 T st k om l hl (fun x hx=>by rw[(hok x hx).2];exact ag)
   rw[if_pos h0,hk,Ay]at hm
   rw[hm]at hs
   exact⟨k,hk,hs⟩
  have ak: ¬0<=colF T st.order->m=l:=fun h=>by rw[<-hm,if_neg h]
  clear hm
  simp[go_sem,w]
  refine ze9 (S:=Unit) [3,4,5,6] (fun _=> [.ptr 1 0,.ptr 2 0,.ptr 3 0,.ptr 4 0]) (fun _=>chS T st (colF T st.order) (m.map Ln.row) l.length) (fun _=>True) hc hb ?_ ?_
  .by_cases h0:0<=colF T st.order
   .obtain⟨k,hk,hs⟩:=a7 h0
    rw[hk]at ai⊢
    refine zA ?_
    simp[go_sem]
    refine pC ai ?_
    simp[go_sem,zY8]
    refine zu2 (caps:= []) (args:= [.ifc 195 [.lsv 0 3 l.length 0 l.length],.fn 158 [.ptr 3 0,.ptr 5 0,.ptr 2 0]]) hs cB ?_
    rintro r s ⟨rfl,rfl⟩ _
    simp[go_sem]
    exact zG () ⟨tV,at_n 6 (by simp[go_sem,chS]) rfl (zH0 T st k m l.length) dC (zF sg rfl)⟩
   .rw[ak h0]
    refine zA ?_
    simp[go_sem]
    refine pC ai ?_
    simp[go_sem,h0]
    exact zG () ⟨tV,at_n 6 (by simp[go_sem,chS,out0]) rfl (zH0 T st _ l l.length) dC (zF sg rfl)⟩
  rintro _ _
  clear a7 ak ai
  generalize colF T st.order=ad at*
  obtain⟨k,a8,ag⟩: ∃k,limF st.limit m=m.take k/\k<=m.length/\(k=if 0<=st.limit/\st.limit<m.length then st.limit.toNat else m.length):=by
   unfold limF
   by_cases h0:0<=st.limit
   .rw[if_pos h0]
    by_cases h1:st.limit<m.length
    .exact⟨st.limit.toNat,rfl,om,by rw[if_pos ⟨h0,h1⟩]⟩
    .exact⟨m.length,by rw[Al om,Dz],A5 _,by rw[if_neg (fun h=>h1 h.2)]⟩
   .rw[if_neg h0]
    exact⟨m.length,by rw[Dz],A5 _,by rw[if_neg (fun h=>h0 h.1)]⟩
  obtain⟨ag,ab⟩:=ag
  rw[a8]at hM
  rw[aq]at ag ab
  refine ze9 (S:=Unit) [3,4,5,6] (fun _=> [.ptr 1 0,.ptr 2 0,.ptr 3 0,.ptr 4 0]) (fun _=> [.lst (m.map Ln.row) 3,.box T.row,.box st.row,.box [.lsv 0 3 l.length 0 k],.box out0,.box [.int .i64 ad]]) (fun _=>True) hc hb ?_ ?_
  .have ar:([.lst (m.map Ln.row) 3,.box T.row,.box st.row,.box [.lsv 0 3 l.length 0 k],.box out0,.box [.int .i64 ad]]:St).all (ltOb 6)=true:=by simp[ltOb,ltC,ltK,Ln.row,GTable.row,GStmt.row,out0]
   by_cases h0:0<=st.limit
   .by_cases h1:st.limit<l.length
    .rw[if_pos ⟨h0,h1⟩]at ab
     refine zA ?_
     simp[go_sem,chS,h0,h1]
     refine zI om ?_
     simp[go_sem,<-ab]
     exact zG () ⟨tV,aN 6 ar⟩
    .rw[if_neg (fun h=>h1 h.2)]at ab
     subst ab
     refine zA ?_
     simp[go_sem,chS,h0,h1]
     exact zG () ⟨tV,aN 6 ar⟩
   .rw[if_neg (fun h=>h0 h.1)]at ab
    subst ab
    refine zA ?_
    simp[go_sem,chS,h0]
    exact zG () ⟨tV,aN 6 ar⟩
  rintro _ _
  clear ab a8
  refine zO (zA ?_)
  simp[go_sem]
  refine zK0 6 0 1 _ dC rfl rfl ?_
  obtain⟨y0,ys,aA⟩: ∃y0 ys,st.items=y0::ys:=by
   cases h:st.items with
   |nil=>exact absurd h hit
   |cons y ys=>exact⟨y,ys,rfl⟩
  obtain⟨J,hJ⟩:=eX st.items
  obtain⟨aJ,aB⟩:=an.items
  rw[hJ]at aJ aB hM
  have aK:J.head?.map (·.kind)=some y0.kind:=by rw[<-hJ,aA];rfl
  have aj: ∃h:0<J.length,J[0]=y0:=by rw[<-hJ,aA];exact⟨Nat.succ_pos _,rfl⟩
  obtain⟨aC,aj⟩:=aj
  obtain⟨P,hP⟩:=eX (zs9 T J (m.take k) [])
  rw[hP]at hM
  have aL: ∀x∈m,LnOk x:=fun x hx=>(hok x (a6.mem_iff.1 hx)).1
  have fin: ∀(rows:List (List GValue)) (σl:St),P=(rows,0)->wret (some (.tup [.agg [.sl (.app 7) (rows.map fun r=> [V.sl .ro (r.map GValue.row)]),.int .i64 0],.int .i64 0])) 1 (fun r s=>r=selV M/\s= [.lst (C.map Ln.row) 3]) (.lst (m.map Ln.row) 3::σl):=fun rows σl h=>by
   rw[h,if_neg (fun h=>h rfl)]at hM
   exact xA 1 (s:= [.lst (m.map Ln.row) 3]) (r:= .tup [.agg (Ot.row ⟨0,rows⟩),.int .i64 0]) rfl rfl (by simp[ltOb,ltC,ltK,Ln.row]) (A5 _) (wD ⟨zc7 ⟨yJ,zT rfl,tV⟩,zb8 rfl,tV⟩) ⟨by rw[<-hM];rfl,by rw[a1]⟩
  have bad: ∀(er:Int) (σl:St),P.2=er->er≠0->wret (some (.tup [.agg [.sl .full [],.int .i64 0],.int .i64 er])) 1 (fun r s=>r=selV M/\s= [.lst (C.map Ln.row) 3]) (.lst (m.map Ln.row) 3::σl):=fun er σl h h0=>by
   rw[h,if_pos h0]at hM
   exact xA 1 (s:= [.lst (m.map Ln.row) 3]) (r:= .tup [.agg (Ot.row ⟨0,[]⟩),.int .i64 er]) rfl rfl (by simp[ltOb,ltC,ltK,Ln.row]) (A5 _) (wD ⟨zc7 ⟨yJ,zT rfl,tV⟩,zb8 rfl,tV⟩) ⟨by rw[<-hM];rfl,by rw[a1]⟩
  clear hM
  have au: ∀n:Nat,∀out:List (List GValue),([.lst (m.map Ln.row) 3,.box T.row,.box st.row,.box [.lsv 0 3 l.length 0 k],.box out0,.box [.int .i64 ad],.box [.sl (.app 7) (out.map fun r=> [V.sl .ro (r.map GValue.row)]),.int .i64 0],.app n 1]:St).all (ltOb 8)=true:=fun n out=>by simp[ltOb,ltC,ltK,Ln.row,GTable.row,GStmt.row,out0]
  refine zO (zA ?_)
  simp[go_sem]
  refine zH (S:=Nat×List (List GValue)) [3,4,6,9,49,50,51] (fun u=> [.ptr 1 0,.ptr 2 0,.ptr 4 0,.ptr 6 0,.lsv 0 3 l.length 0 k,.int .i64 k,.int .i64 u.1])
   (fun u=> [.lst (m.map Ln.row) 3,.box T.row,.box st.row,.box [.lsv 0 3 l.length 0 k],.box out0,.box [.int .i64 ad],.box [.sl (.app 7) (u.2.map fun r=> [V.sl .ro (r.map GValue.row)]),.int .i64 0],.app u.2.length 1]) (fun u=>k - u.1)
   (fun u=>u.1<=k/\u.2.length<=u.1/\zs9 T J ((m.take k).drop u.1) u.2=P) hc hb (0,[]) ⟨A4 _,A5 _,hP⟩ ?_ ?_
  .exact aN 8 (au 0 [])
  rintro⟨i,out⟩ ⟨hi,aP,hinv⟩
  simp only at hi aP hinv
  by_cases q:i<k
  rotate_left
  .rw[Ab (by rw[Bi];omega),zs9]at hinv
   refine zA ?_
   simp[go_sem,q]
   refine zA ?_
   simp[go_sem,out0]
   exact fin out _ hinv.symm
  have ei:=zQ q om
  have aD:i<m.length:=om
  have aE:i<l.length:=om
  obtain⟨x,hx⟩:=eX (m[i])
  have aU:m[i]? =some x:=by rw[A0 aD,hx]
  have aF:=aL x (hx▸Aa aD)
  have aG:=yh2 aF
  rw[A8 (by rw[Bi];omega),Eo,hx,zs9,aK]at hinv
  by_cases k1:y0.kind=1
  .have av:(y0.kind==1)=true:=by simpa using k1
   rw[if_pos (by rw[k1])]at hinv
   have aQ:=yH5 x.v om (fun h=>by rw[h]at aG;simp at aG)
   refine zA ?_
   simp[go_sem,q,aE,aq,hx,hJ,aC,aj,av]
   refine wQ [(3,2),(4,0),(6,3)] 7 sm kR kR ?_
   simp[go_sem]
   refine pD aQ ?_
   simp[go_sem]
   refine zI ⟨om,zV rfl⟩ ?_
   simp[go_sem,ei]
   exact zG (i+1,out++ [x.v]) ⟨by show k - (i+1)<k - i;omega,⟨q,by show(out++ [x.v]).length<=i+1;simp;omega,hinv⟩,at_n 8 (by simp[go_sem,hJ]) rfl (au _ _) dC (zF sg rfl)⟩
  .have av:(y0.kind==1)=false:=by simpa using k1
   rw[if_neg (fun h=>k1 (by simpa using h))]at hinv
   obtain⟨E,hE⟩:=eX (evsX T x.v (J.map (·.e)) [])
   rw[hE]at hinv
   have al: ∀n:Nat,∀out:List (List GValue),([.lst (m.map Ln.row) 3,.box T.row,.box st.row,.box [.lsv 0 3 l.length 0 k],.box out0,.box [.int .i64 ad],.box [.sl (.app 7) (out.map fun r=> [V.sl .ro (r.map GValue.row)]),.int .i64 0],.app out.length 1,.box x.row,.app n 3]:St).all (ltOb 10)=true:=fun n out=>by simp[ltOb,ltC,ltK,Ln.row,GTable.row,GStmt.row,out0]
   refine zA ?_
   simp[go_sem,q,aE,aq,hx,hJ,aC,aj,av]
   refine zi6 12 3 dC sg ?_
   refine zH (S:=Nat×List GValue) [3,4,6,9,11,12,49,50,51,70,71,72] (fun u=> [.ptr 1 0,.ptr 2 0,.ptr 4 0,.ptr 6 0,.ptr 8 0,.sl (.app 9) (u.2.map GValue.row),.lsv 0 3 l.length 0 k,.int .i64 k,.int .i64 i,.sl .ro (J.map GItem.row),.int .i64 J.length,.int .i64 u.1])
    (fun u=> [.lst (m.map Ln.row) 3,.box T.row,.box st.row,.box [.lsv 0 3 l.length 0 k],.box out0,.box [.int .i64 ad],.box [.sl (.app 7) (out.map fun r=> [V.sl .ro (r.map GValue.row)]),.int .i64 0],.app out.length 1,.box x.row,.app u.2.length 3]) (fun u=>J.length - u.1)
    (fun u=>u.1<=J.length/\u.2.length<=u.1/\evsX T x.v ((J.drop u.1).map (·.e)) u.2=E) hc hb (0,[]) ⟨A4 _,A5 _,hE⟩ ?_ ?_
   .exact at_n 10 (by simp[go_sem,hJ]) rfl (al _ _) dC (zF sg rfl)
   rintro⟨j,acc⟩ ⟨hj,aR,aa⟩
   simp only at hj aR aa
   by_cases p:j<J.length
   .have ej:=zQ p om
    obtain⟨y,hy⟩:=eX (J[j])
    have aS:=(aB y (hy▸Aa p)).2
    rw[A8 p,hy,Aj,evsX]at aa
    have ah:=yx0 T ao x.v aF.ok y.e aS
    obtain⟨⟨v,er⟩,hv⟩: ∃kv,evR T x.v y.e=kv:=⟨_,rfl⟩
    rw[hv]at aa ah
    simp only at aa
    refine zA ?_
    simp[go_sem,p,hy]
    refine zJ ah cB ⟨zC rfl,zK,zQ2 y.e,tV⟩ rfl ?_
    simp[go_sem,valP]
    by_cases q2:er=0
    rotate_left
    .have aw:(er !=0)=true:=by simpa using q2
     rw[if_pos q2]at aa
     subst aa
     simp only at hinv
     rw[if_pos q2]at hinv
     simp[go_sem,aw,out0]
     exact bad er _ (by rw[<-hinv]) q2
    have aw:(er !=0)=false:=by simpa using q2
    rw[if_neg (fun h=>h q2)]at aa
    simp[go_sem,aw]
    refine zI ⟨om,zV rfl⟩ ?_
    simp[go_sem,ej]
    exact zG (j+1,acc++ [v]) ⟨by show J.length - (j+1)<J.length - j;omega,⟨p,by show(acc++ [v]).length<=j+1;simp;omega,aa⟩,aN 10 (al _ _)⟩
   .rw[Ab om,Bx,evsX]at aa
    subst aa
    simp only at hinv
    rw[if_neg (fun h=>h rfl)]at hinv
    refine zA ?_
    simp[go_sem,p]
    refine zI ⟨om,zV rfl⟩ ?_
    simp[go_sem,ei]
    exact zG (i+1,out++ [acc]) ⟨by show k - (i+1)<k - i;omega,⟨q,by show(out++ [acc]).length<=i+1;simp;omega,hinv⟩,aN 8 (au _ _)⟩
@[go_sem] theorem wtop_delete {nt:Nat} {n0:Kp} {d:Option Tmp} {K:KT} {e:Env} {x k:Operand} {t1 t2:TypeId}:wtop P c nt n0 4 d (.call ⟨.builtin .delete, #[x,k], #[t1,t2]⟩) K fx fx e σ=wop P c nt d (.call ⟨.builtin .delete, #[x,k], #[t1,t2]⟩) K fx fx e σ:=zX8 (fun _ _ _ _ _ h=>by cases h) (fun _ _ h=>by cases h) (fun _ _ _ h=>by cases h)
theorem xI8 (k:Nat) {args:List V} {σin:St} {R:V->St->Prop} (hc:VCalls P f args' σin R) (hb:wB P f=true) (hk:σ.take k=σin) (hl:σin.length=k) (hok:σin.all (ltOb k)=true)
  (aa:All2 (argS (ren (List.range k) σ.length)) args' (args++caps)) (hR: ∀r s,R r s-> ∃s0 ex,s=s0++ex/\s0.length=k/\s0.all (ltOb k)=true/\ex.all (ltOb 0)=true)
  (hK: ∀r s0 ex,R r (s0++ex)->s0.length=k->KV (renS (ren (List.range k) σ.length) r) (s0++σ.drop k++ex)):wVC P c (.fn f caps) args σ KV fx:=by
 have ab:k<=σ.length:=by rw[<-hl,<-hk];simp;exact Nat.min_le_right _ _
 refine VC.of hc hb (List.range k) Bm (by simp[hl]) (fun i j o h1 h2=> ?_) aa fun r s h _=> ?_
 .obtain⟨h3,h4⟩:=A3.1 h1
  simp at h3 h4
  subst h4
  have ho:ltOb k o=true:=by
   rw[Af]at hok
   exact hok o (Aq.2 ⟨i,h2⟩)
  rw[xT (n:=k) (fun i hi=>zb2 hi) ho]
  rw[<-hk,Ai,if_pos h3]at h2
  exact h2
 .obtain⟨s0,ex,rfl,h1,h2,h3⟩:=hR r s h
  have e:xD (List.range k) σ (s0++ex)=s0++σ.drop k++ex:=by
   have e0:=zZ5 ab h1 h2
   have ed:(s0++ex).drop (List.range k).length=ex:=by rw[Cc,<-h1,List.drop_left]
   have et:(s0++ex).take (List.range k).length=s0.take (List.range k).length:=by rw[Cc,<-h1,List.take_left,Dz]
   have e2:(s0.drop (List.range k).length).map (yF (ren (List.range k) σ.length))= []:=by
    rw[Cc,Bq om];rfl
   have e3:ex.map (yF (ren (List.range k) σ.length))=ex:=xX (fun o h=>xT (n:=0) (fun _ h=>absurd h (Bc _)) h) h3
   unfold xD at e0⊢
   rw[e2,Az]at e0
   rw[ed,et,e0,e3]
  rw[e]
  exact hK r s0 ex h h1
theorem we1 {n0:Kp} (i:Nat) {o o2:Ob} {args:List V} {v:V} (hc:VCalls P f args' [o] (fun r s=>r=v/\s= [o2])) (hb:wB P f=true) (ho:σ[i]? =some o) (hok:ltOb 0 o=true) (ab:ltOb 0 o2=true)
  (aa:All2 (argS (ren [i] σ.length)) args' (args++caps)) (hK:KV (renS (ren [i] σ.length) v) (σ.set i o2)):wVD P c n0 4 (.fn f caps) args σ KV fx:=by
 refine xJ0 hc hb [i] sm rfl (fun a j x h1 h2=> ?_) aa ?_
 .have e:a=0:=by
   have:=(A3.1 h1).1
   simp at this;omega
  subst e
  have e1:x=o:=by simp at h2;exact h2.symm
  have e2:j=i:=by simp at h1;omega
  subst e1;subst e2
  rw[xT (n:=0) (fun _ h=>absurd h (Bc _)) hok]
  exact ho
 .have e:xD [i] σ [o2]=σ.set i o2:=by
   simp only[xD,Bn,C8,Dt,Dm,Bg,Aj,Bx,mset,Az]
   rw[xT (n:=0) (fun _ h=>absurd h (Bc _)) ab]
  rw[e];exact hK
theorem xS8: ∀n,4<=n->(runS a b sn++([.lst (m.map Ln.row) 3]:St)).all (ltOb n)=true:=fun n h=>by
 rw[Eb,xQ n om a b sn]
 simp[ltOb,ltC,ltK,Ln.row]
structure StOk (st:GStmt):Prop where
 ok:SOk st
 vok:VOk st
 tab:0<=yG st.table
 items:st.kind=1->st.items≠ []
 sets:st.kind=3-> ∀x∈st.sets,0<=colF (tabsS.getD (yG st.table).toNat noT) x.name
theorem yk8 {tn:Nat} {T:GTable} (hT:tabsS[tn]? =some T) {st:GStmt} (ab:SOk st): ∀{m:List Ln} {b:Mp (List UInt8)} {l:List Ln},NowOk b l->(∀x∈m,atF l x.at=true/\LnOk x/\(ofS x.r).1=(tn:Int))->(updF T st.sets m l).2=0->NowOk (updB T st.sets m b) (updF T st.sets m l).1
 | [],_,_,hn,_,_=>hn
 |x::m,b,l,hn,hm,h0=>by
  obtain⟨ad,aa,ae⟩:=hm x (Au ..)
  rw[updF]at h0⊢
  rw[updB]
  obtain⟨E,hE⟩:=eX (setF T x.v st.sets x.v)
  rw[hE]at h0⊢
  by_cases q:E.2=0
  rotate_left
  .rw[if_pos q]at h0;exact absurd h0 q
  rw[if_neg (fun h=>h q)]at h0
  rw[if_neg (show ¬E.2≠0 from fun h=>h q),if_neg (show ¬E.2≠0 from fun h=>h q)]
  by_cases q2:mayT T.cols E.1=0
  rotate_left
  .rw[if_pos q2]at h0;exact absurd h0 q2
  rw[if_neg (fun h=>h q2)]at h0
  rw[if_neg (show ¬mayT T.cols E.1≠0 from fun h=>h q2),if_neg (show ¬mayT T.cols E.1≠0 from fun h=>h q2)]
  have af: ∀v∈E.1,v.ok:=by
   have h1:=yc7 (T:=T) aa.ok (sets:=st.sets) (row:=x.v) (fun y hy=>(ab.sets.2 y hy).2) aa.ok
   rw[hE]at h1
   exact(h1 q).2
  refine yk8 hT ab (hn.turn x.at E.1 ad ⟨⟨tn,T,ae,hT,q2⟩,aa.err,af⟩) (fun y hy=> ?_) h0
  obtain⟨h1,h2⟩:=hm y (An _ hy)
  exact⟨by rw[yG5];exact h1,h2⟩
def updV (n:Nat) (e:Int):V:= .tup [.agg (Ot.row (if e≠0 then⟨0,[]⟩else⟨n,[]⟩)),.int .i64 e]
theorem zK8 {tn:Nat} (h3:tn<3) (h:zi8 tn st x=true):(ofS x.r).1=(tn:Int):=by
 unfold zi8 at h
 rw[A6,Cn]at h
 obtain⟨⟨g,hg,he⟩,_⟩:=h
 have:=(xh8 tn h3 hg).2.2
 rw[show(yV (tn:Int) g).1=x.r by simpa using he]at this
 rw[this]
theorem xT6 {tn:Nat} (hT:tabsS[tn]? =some T) (hx:LnOk x) (ab:(ofS x.r).1=(tn:Int)):x.v.length=T.cols.length:=by
 obtain⟨aa,T',h1,h2,h3⟩:=hx.tab
 have:aa=tn:=om
 subst this
 rw[hT]at h2
 cases h2
 exact zk1 h3
theorem yl4 {T:GTable} {st:GStmt}: ∀{l acc:List Ln},(zw7 T st acc l).1.length<=acc.length+l.length
 | [],_=>A5 _
 |x::l,acc=>by
  rw[zw7]
  split
  .exact A4 _
  .refine Ax yl4 ?_
   split<;>simp<;>omega
theorem yM7 {t:Int}:(metF t T st l).1.length<=l.length:=by
 unfold metF
 have:=Bo (zi8 t st) l
 split
 .refine Ax yl4 ?_
  simp;omega
 .exact this
theorem xO5 {N:Nat} (h4:σ.take 4=runS a b sn) (hσ:σ[k]? =some (.lst (m.map Ln.row) 3)) (i j:Nat) (o:Ob) (aa: [0,1,2,3,k][i]? =some j) (ho:(runS a b sn++([.lst (m.map Ln.row) 3]:St))[i]? =some o):σ[j]? =some (yF (ren [0,1,2,3,k] N) o):=by
 by_cases q:i<4
 .have e:j=i:=by
   match i,q with
   |0,_=>simp at aa;omega
   |1,_=>simp at aa;omega
   |2,_=>simp at aa;omega
   |3,_=>simp at aa;omega
  subst e
  have h1:(runS a b sn)[j]? =some o:=by rw[Ah (by exact q)]at ho;exact ho
  have ab:ltOb 4 o=true:=Af.1 (xQ 4 dC a b sn) o (As h1)
  rw[xT (n:=4) (fun x hx=> ?_) ab]
  .rw[<-h4,Da q]at h1
   exact h1
  .rw[wM (by simp;omega)]
   match x,hx with
   |0,_=>rfl
   |1,_=>rfl
   |2,_=>rfl
   |3,_=>rfl
 .have e:i=4:=by
   have:=(A3.1 aa).1
   simp at this;omega
  subst e
  have e1:o= .lst (m.map Ln.row) 3:=by cases ho;rfl
  have e2:j=k:=by simp at aa;omega
  subst e1;subst e2
  rw[xT (n:=0) (fun _ h=>absurd h (Bc _)) (by simp[ltOb,ltC,ltK,Ln.row])]
  exact hσ
theorem xp1 {o0 o1 o2 o3 o4 o5 o6:Ob}:xD [0,1,2,3,6] [o0,o1,o2,o3,o4,o5,o6] (runS a b sn++([.lst (m.map Ln.row) 3]:St))= [a.ob .str,b.ob .str,sn.ob (V.int .i64),runB,o4,o5,.lst (m.map Ln.row) 3]:=by
 have e:(runS a b sn++([.lst (m.map Ln.row) 3]:St)).map (yF (ren [0,1,2,3,6] 7))=runS a b sn++([.lst (m.map Ln.row) 3]:St):=
  xX (fun o h=>xT (n:=4) (fun x hx=>by
   match x,hx with
   |0,_=>rfl
   |1,_=>rfl
   |2,_=>rfl
   |3,_=>rfl) h) (xS8 4 dC)
 unfold xD
 rw[Al (by simp[runS]),Bq (by simp[runS])]
 show mset _ _ (List.map (yF (ren [0,1,2,3,6] 7)) _)++_=_
 rw[e]
 rfl
def xH3 (a:Mp (List UInt8)) (sn:Mp Int) (D:Ot×List Ln×Int) (r:V) (s:St):Prop:=
 ∃b',s=runS a b' sn/\r= .tup [.agg D.1.row,.int .i64 D.2.2]/\(D.2.2=0->NowOk b' D.2.1)
theorem xw0 {w:Nat×List UInt8} (h:b.at p=some w):Ob.mp ((kvE V.str b.W).take (2*w.1)++(kvE V.str b.W).drop (2*w.1+2)) (b.bs.eraseIdx w.1) b.clk=(b.del p).ob V.str:=by
 show Ob.mp (zQ7 (kvE V.str b.W) w.1) _ _=_
 unfold Mp.del Mp.ob
 rw[h]
 have:=(A3.1 (zi2 (W:=b.W) (i:=w.1) (v:=w.2) h)).1
 rw[xB1 _ _ this]
theorem xw1 (h:b.at p=none):b.del p=b:=by
 unfold Mp.del
 rw[h]
theorem zw5 {D:Ot×List Ln×Int} {σl:St} {g:Tag} (o:Ot) (e:Int) (h1:D.1=o) (h2:D.2.2=e) (h3:e=0->NowOk b D.2.1):
  wret (some (.tup [.agg [.sl g (o.rows.map fun r=> [.sl .ro (r.map GValue.row)]),.int .i64 o.count],.int .i64 e])) 4 (xH3 a sn D) (a.ob .str::b.ob .str::sn.ob (V.int .i64):: .box [.sl .ro xG,.sl .ro (tabsS.map GTable.row),.mp 0,.mp 1,.mp 2]::σl):=
 xA 4 (s:=runS a b sn) (r:= .tup [.agg (Ot.row o),.int .i64 e]) rfl rfl (xQ 4 dC a b sn) (A5 _) (wD ⟨zc7 ⟨yJ,zT rfl,tV⟩,zb8 rfl,tV⟩) ⟨b,rfl,by rw[h1,h2],fun h=>h3 (h2▸h)⟩
theorem xq9 (st:GStmt) (ad:StOk st) (a b:Mp (List UInt8)) (sn:Mp Int) (l:List Ln) (ab:NowOk b l) (hl:l.length<=10000):
  VCalls prog 42 [.ptr 3 0,.agg st.row] (runS a b sn) (xH3 a sn (doS st l)):=by
 obtain⟨tn,ao⟩: ∃tn:Nat,yG st.table=tn:=⟨(yG st.table).toNat,by have:=ad.tab;omega⟩
 have ar:tn<3:=by
  have h:=zu6 (fun T:GTable=>T.name==st.table) tabsS 0
  have h2:tabsS.length=3:=rfl
  unfold yG at ao
  omega
 obtain⟨T,hT⟩: ∃T,tabsS[tn]? =some T:=⟨_,A0 (show tn<tabsS.length from ar)⟩
 obtain⟨a7,a8⟩:=A3.1 hT
 have aF:tabsS.getD (yG st.table).toNat noT=T:=by rw[ao,Ay,A7,hT];rfl
 have ag:=ad.sets
 rw[aF]at ag
 have ah:=yT0 tabsS st.table dC
 have aG:za2 (fun t:GTable=>t.name==st.table) tabsS 0=tn:=ao
 rw[aG]at ah
 have ai:=yP8 tn T hT st ad.ok a b sn l ab
 have aj:=wg7 tn T hT st ad.ok ad.vok a b sn l ab hl
 obtain⟨D,hD⟩:=eX (doS st l)
 rw[hD]
 have aa:=hD
 unfold doS at aa
 simp only[ao,Ay]at aa
 rw[show tabsS.getD tn noT=T by rw[A7,hT];rfl]at aa
 refine iV 4 func42 ntmps42 results42 fun c hc hb=> ?_
 refine zO (zA ?_)
 simp[go_sem,runS,runB]
 refine zO (zA ?_)
 simp[go_sem]
 refine yS [(6,0)] 6 rfl kR kR ?_
 simp[go_sem]
 refine pD ah ?_
 simp[go_sem]
 have ak:=fun b':Mp (List UInt8)=>xQ 4 dC a b' sn
 by_cases k2:st.kind=2
 .rw[if_pos k2]at aa
  have au:(st.kind==2)=true:=by simpa using k2
  obtain⟨I,hI⟩:=eX (insF tn T st.rows l)
  rw[hI]at aa ai
  refine zA ?_
  simp[go_sem,au]
  refine zo1 4 ai cB rfl rfl (ak b) (zb4 (n:=4) rfl) (fun r s h=> ?_) (fun r s h=> ?_)
  .obtain⟨b',rfl,h⟩:=h
   refine⟨rfl,ak b', ?_⟩
   rcases h with ⟨_,rfl⟩|⟨_,rfl,_⟩
   .rfl
   .rfl
  .obtain⟨b',rfl,h⟩:=h
   rcases h with ⟨h0,rfl⟩|⟨h0,rfl,hn⟩
   .rw[if_pos h0]at aa
    simp[go_sem,runS,runB,Ot.row]
    exact zw5 ⟨0,[]⟩ I.2 (by rw[<-aa]) (by rw[<-aa]) (fun h=>absurd h h0)
   .rw[if_neg (fun h=>h h0)]at aa
    simp[go_sem,runS,runB,Ot.row]
    exact zw5 ⟨st.rows.length,[]⟩ 0 (by rw[<-aa]) (by rw[<-aa]) (fun _=>by rw[<-aa];exact hn)
 have au:(st.kind==2)=false:=by simpa using k2
 rw[if_neg k2]at aa
 clear ai
 obtain⟨⟨m,me⟩,hM⟩: ∃M,metF tn T st l=M:=⟨_,rfl⟩
 rw[hM]at aa aj
 simp only at aa
 refine zO (zA ?_)
 simp[go_sem,au]
 refine zO (zA ?_)
 simp[go_sem]
 refine xI8 4 aj cB rfl rfl (ak b) (zb4 (n:=4) rfl) (fun r s h=> ?_) (fun r s0 ex h h4=> ?_)
 .rcases h with ⟨_,rfl,_⟩|⟨_,rfl,_⟩
  .exact⟨_,[],(Az _).symm,rfl,ak b,rfl⟩
  .exact⟨_,_,rfl,rfl,ak b,by simp[ltOb,ltC,ltK,Ln.row]⟩
 rcases h with ⟨m0,hs,rfl⟩|⟨m0,hs,rfl⟩
 .have av:=List.append_inj (hs.trans (Az _).symm) (h4.trans rfl)
  obtain⟨rfl,rfl⟩:=av
  have m0:me≠0:=m0
  have aH:(me !=0)=true:=by simpa using m0
  rw[if_pos m0]at aa
  simp[go_sem,runS,runB]
  refine zO (zA ?_)
  simp[go_sem,aH]
  exact zw5 ⟨0,[]⟩ me (by rw[<-aa]) (by rw[<-aa]) (fun h=>absurd h m0)
 .have av:=List.append_inj hs (h4.trans rfl)
  obtain⟨rfl,rfl⟩:=av
  have m0:me=0:=m0
  rw[if_neg (fun h=>h m0)]at aa
  subst m0
  have er:ren [0,1,2,3] 6 4=6:=rfl
  have aA:m.length<=10000:=by have:=yM7 (t:=tn) (T:=T) (st:=st) (l:=l);rw[hM]at this;exact Ax this hl
  have ae: ∀x∈m,x∈l/\(zi8 tn st x)=true:=fun x hx=>zI6 x (by rw[hM];exact hx)
  simp[go_sem,runS,runB,er]
  refine zO (zA ?_)
  simp[go_sem]
  refine zO (zO (zA ?_))
  simp[go_sem]
  refine za4 (zO (zA ?_))
  simp[go_sem]
  by_cases k1:st.kind=1
  .have aw:(st.kind==1)=true:=by simpa using k1
   rw[if_pos k1]at aa
   have ax:=yy4 tn T hT st ad.ok (ad.items k1) m aA (fun x hx=>⟨ab.rows x (ae x hx).1,xT6 hT (ab.rows x (ae x hx).1) (zK8 ar (ae x hx).2)⟩)
   obtain⟨M,aI⟩:=eX (selF T st m)
   rw[aI]at ax aa
   obtain⟨C,hC⟩:=eX (chL T st m)
   rw[hC]at ax
   refine zA ?_
   simp[go_sem,aw]
   refine wQ [(10,4)] 6 sm kR kR ?_
   simp[go_sem,a7,a8]
   refine we1 6 ax cB rfl (by simp[ltOb,ltC,ltK,Ln.row]) (by simp[ltOb,ltC,ltK,Ln.row]) ⟨zC rfl,zC rfl,.inl rfl,tV⟩ ?_
   simp[go_sem,selV,Ot.row]
   exact zw5 M.1 M.2 (by rw[<-aa]) (by rw[<-aa]) (fun _=>by rw[<-aa];exact ab)
  have aw:(st.kind==1)=false:=by simpa using k1
  rw[if_neg k1]at aa
  refine zA ?_
  simp[go_sem,aw]
  by_cases k3:st.kind=3
  .have ay:(st.kind==3)=true:=by simpa using k3
   rw[if_pos k3]at aa
   have aB: ∀x∈m,atF l x.at=true/\LnOk x/\(ofS x.r).1=(tn:Int):=fun x hx=>⟨atF_iff.2 (Ac.2 ⟨x,(ae x hx).1,rfl⟩),ab.rows x (ae x hx).1,zK8 ar (ae x hx).2⟩
   have az:=xI5 tn T hT st ad.ok (ag k3) a b sn l m ab aB aA
   have aC:=yk8 hT ad.ok ab aB
   obtain⟨U,hU⟩:=eX (updF T st.sets m l)
   obtain⟨B,hB⟩:=eX (updB T st.sets m b)
   rw[hU,hB]at az aC
   rw[hU]at aa
   have aD:=az.mono (R':=fun r s=>r=updV m.length U.2/\s=runS a B sn++ [.lst (m.map Ln.row) 3]) (fun r s h=>by
    obtain⟨h1,h2⟩:=h
    refine⟨?_,h1⟩
    unfold updV
    rcases h2 with ⟨q,h2⟩|⟨q,h2,_⟩
    .rw[if_pos q,h2]
    .rw[if_neg (fun h=>h q),h2,q])
   clear az
   simp[go_sem,ay]
   refine wQ [(11,4)] 5 sm kR kR ?_
   simp[go_sem,a7,a8]
   refine xJ0 aD cB [0,1,2,3,6] dC rfl (xO5 rfl rfl) ⟨.inl rfl,zC rfl,zC rfl,.inl rfl,tV⟩ ?_
   rw[xp1]
   by_cases u0:U.2=0
   .rw[if_neg (fun h=>h u0)]at aa
    simp[go_sem,updV,Ot.row,u0]
    exact zw5 ⟨m.length,[]⟩ 0 (by rw[<-aa]) (by rw[<-aa]) (fun _=>by rw[<-aa];exact aC u0)
   .rw[if_pos u0]at aa
    simp[go_sem,updV,Ot.row,u0]
    exact zw5 ⟨0,[]⟩ U.2 (by rw[<-aa]) (by rw[<-aa]) (fun h=>absurd h u0)
  .have ay:(st.kind==3)=false:=by simpa using k3
   rw[if_neg k3]at aa
   have a1: ∀(b':Mp (List UInt8)),([a.ob .str,b'.ob .str,sn.ob (V.int .i64),.box [.sl .ro xG,.sl .ro (tabsS.map GTable.row),.mp 0,.mp 1,.mp 2],.box st.row,.box out0,.lst (m.map Ln.row) 3]:St).all (ltOb 7)=true:=fun b'=>by
    have h:=xQ 7 om a b' sn
    simp only[runS,runB,Ar,Ch,Cm]at h⊢
    rw[A6,A6,A6]at h⊢
    refine⟨h.1,h.2.1,h.2.2.1, ?_⟩
    rw[A6]
    exact⟨h.2.2.2,by simp[ltOb,ltC,ltK,GStmt.row,Ln.row,out0]⟩
   have hG: ∀(b':Mp (List UInt8)) (l':List Ln) (σl:St),NowOk b' l'->delF m l=l'->wret (some (.tup [.agg [.sl .full [],.int .i64 m.length],.int .i64 0])) 4 (xH3 a sn D) (a.ob .str::b'.ob .str::sn.ob (V.int .i64):: .box [.sl .ro xG,.sl .ro (tabsS.map GTable.row),.mp 0,.mp 1,.mp 2]::σl):=fun b' l' σl h1 h2=>
    zw5 ⟨m.length,[]⟩ 0 (by rw[<-aa]) (by rw[<-aa]) (fun _=>by rw[<-aa];show NowOk b' (delF m l);rw[h2];exact h1)
   generalize hQ:delF m l=Q at hG
   clear aa ae aj hs
   simp[go_sem,ay]
   refine zO (zA ?_)
   simp[go_sem]
   refine zH (S:=Nat×Mp (List UInt8)×List Ln) [0,4,7,71,72,73] (fun u=> [.ptr 3 0,.ptr 5 0,.lsv 6 3 m.length 0 m.length,.lsv 6 3 m.length 0 m.length,.int .i64 m.length,.int .i64 u.1])
    (fun u=> [a.ob .str,u.2.1.ob .str,sn.ob (V.int .i64),.box [.sl .ro xG,.sl .ro (tabsS.map GTable.row),.mp 0,.mp 1,.mp 2],.box st.row,.box out0,.lst (m.map Ln.row) 3]) (fun u=>m.length - u.1)
    (fun u=>u.1<=m.length/\NowOk u.2.1 u.2.2/\delF (m.drop u.1) u.2.2=Q) hc hb (0,b,l) ⟨A4 _,ab,hQ⟩ ?_ ?_
   .exact at_n 7 (by simp[go_sem,out0]) rfl (a1 b) dC (zF sg rfl)
   rintro⟨i,b1,l1⟩ ⟨hi,a6,af⟩
   simp only at hi a6 af
   by_cases q:i<m.length
   rotate_left
   .rw[Ab om,delF]at af
    refine zA ?_
    simp[go_sem,q,out0]
    refine zA ?_
    simp[go_sem]
    exact hG b1 l1 _ a6 af.symm
   have ei:=zQ q om
   obtain⟨x,hx⟩:=eX (m[i])
   rw[A8 q,hx,delF]at af
   have eB:b1.ob .str= .mp (kvE .str b1.W) b1.bs b1.clk:=rfl
   have al:=a6.del x.at
   refine zA ?_
   simp[go_sem,q,hx]
   refine yS [] 8 rfl kR kR ?_
   simp[go_sem]
   cases aq:b1.at x.at with
   |none=>
    have an:idxW (x.r,x.k) b1.W=none:=aq
    rw[xw1 aq]at al
    simp[go_sem,eB,zb5,an,zc3,zd4,ei]
    exact zG (i+1,b1,l1.filter fun y=> !decide (y.at=x.at)) ⟨by show m.length - (i+1)<m.length - i;omega,⟨q,al,af⟩,at_n 7 (by simp[go_sem,out0];rfl) rfl (a1 _) dC (zF sg rfl)⟩
   |some w=>
    have an:idxW (x.r,x.k) b1.W=some w:=aq
    have aE:=xw0 aq
    simp[go_sem,eB,zb5,an,zc3,zd4,aE,ei]
    exact zG (i+1,b1.del x.at,l1.filter fun y=> !decide (y.at=x.at)) ⟨by show m.length - (i+1)<m.length - i;omega,⟨q,al,af⟩,at_n 7 (by simp[go_sem,out0]) rfl (a1 _) dC (zF sg rfl)⟩
def plR (p:Pl):List V:= [.int .i64 p.1,.str p.2]
def wrR (w:Wr):List V:= [.str w.p.2,.bool w.drop,.str w.data]
def putR (q:Int×List Wr):List V:= [.int .i64 q.1,.sl .ro (q.2.map wrR)]
def nPut (q:Int×List Wr×Nat):List V:= [.int .i64 q.1,.sl (.app (q.2.2+8)) (q.2.1.map wrR)]
def pOf (N:List (Int×List Wr×Nat)):List (Int×List Wr):=N.map fun q=>(q.1,q.2.1)
theorem xM2 (N:List (Int×List Wr×Nat)):za7 (N.map nPut) 0 N.length=(pOf N).map putR:=by
 unfold za7 pOf
 rw[Bg,Al sm,Bk,Bk]
 rfl
theorem wc9 (N:List (Int×List Wr×Nat)):xM (N.map nPut)=true:=by simp[xM,nPut,zy4]
def xV7 (N:List (Int×List Wr×Nat)) (τ:St) (i:Nat):Prop:= ∀O r C k,N=O++ [(r,C,k)]->τ[k]? =some (.app C.length 3)/\C.length<=i
theorem yA0 {α:Type} {g:α->V} {id:Nat} {rows:List (List V)} (hg: ∀v,frzA id rows (g v)=g v): ∀W:List (Pl×α),(kvE g W).map (frzA id rows)=kvE g W
 | []=>rfl
 |e::W=>by
  rw[kvE,Aj,Aj,yA0 hg W,hg]
  rfl
theorem xN6 {id:Nat} {rows:List (List V)}:(runS a b sn).map (zs7 id rows)=runS a b sn:=by
 unfold runS
 simp only[Aj,Bx,Mp.ob,zs7]
 rw[yA0 (fun _=>rfl),yA0 (fun _=>rfl),yA0 (fun _=>rfl)]
 rfl
theorem at_w {n0:Nat} {keep:List Nat} {vs:List V} {s:St} {e:Env} (hs:σ=s) (hn:n0<=σ.length) (h:keep.map e=vs):At n0 keep vs s e σ:=by
 subst hs
 exact zZ hn h
theorem xz7 {O:List (Int×List Wr×Nat)} {w:Wr} (h:w.p.1=r):grpS (pOf (O++ [(r,C,k)])) w=pOf (O++ [(r,C++ [w],k)]):=by
 unfold grpS pOf
 rw[Ca,List.getLast?_append]
 simp[h]
theorem xO4 {O:List (Int×List Wr×Nat)} {r0:Int} {k':Nat} {w:Wr} (h:w.p.1=r) (hr: ¬r0=r):grpS (pOf (O++ [(r0,C,k)])) w=pOf ((O++ [(r0,C,k)])++ [(r,[w],k')]):=by
 unfold grpS pOf
 rw[Ca,List.getLast?_append]
 simp[h,hr]
theorem zW2 {N:List (Int×List Wr×Nat)} {i:Nat} {τ:St} (h:τ[k]? =some (.app C.length 3)) (hl:C.length<=i):xV7 (N++ [(r,C,k)]) τ i:=fun O r' C' k' e=>by
 have h2:=List.append_inj_right' e rfl
 clear e
 cases h2
 exact⟨h,hl⟩
theorem xn4 (a:Mp (List UInt8)) (D:List (Pl×List UInt8)) (e:Pl×List UInt8):keyN a (D++ [e])=if isN a e=true then keyN a D++ [e.1]else keyN a D:=by
 unfold keyN
 by_cases q:isN a e=true
 .rw[if_pos q];simp[Dd,q]
 .rw[if_neg q];simp[Dd,q]
theorem xn5 (b:Mp (List UInt8)) (D:List (Pl×List UInt8)) (e:Pl×List UInt8):keyO b (D++ [e])=if isO b e=true then keyO b D++ [e.1]else keyO b D:=by
 unfold keyO
 by_cases q:isO b e=true
 .rw[if_pos q];simp[Dd,q]
 .rw[if_neg q];simp[Dd,q]
theorem xP2 (a:Mp (List UInt8)) (D:List (Pl×List UInt8)):(keyN a D).length<=D.length:=by
 unfold keyN;rw[B1];exact Bo _ _
theorem xP3 (a:Mp (List UInt8)) (D:List (Pl×List UInt8)):(keyO a D).length<=D.length:=by
 unfold keyO;rw[B1];exact Bo _ _
theorem MetD.le {α:Type} {seen:List Nat} {W:List (Pl×α)} {bs:List Nat} {D:List (Pl×α)} (h:MetD seen W bs D):D.length<=W.length:=by
 have:=h.length_eq
 simp at this
 omega
theorem wd1 (a b:Mp (List UInt8)) (sn:Mp Int) (au now:List Ln) (ha:NowOk a au) (hn:NowOk b now) (aQ:au.length<=10000) (aR:now.length<=10000):
  VCalls prog 43 [.ptr 3 0] (runS a b sn) (fun r s=>r= .sl .ro ((grpF (chgF au now)).map putR)/\s=runS a b sn):=by
 have eA:a.ob .str= .mp (kvE .str a.W) a.bs a.clk:=rfl
 have eB:b.ob .str= .mp (kvE .str b.W) b.bs b.clk:=rfl
 have aS:a.W.length<=10000:=by have:=ha.perm.length_eq;simp at this;omega
 have aT:b.W.length<=10000:=by have:=hn.perm.length_eq;simp at this;omega
 have aH: ∀x∈b.bs,x<b.clk:=hn.ok.lt
 have has: ∀x∈a.bs,x<a.clk:=ha.ok.lt
 have al: ∀(L:List Pl) (se:List Nat),([a.ob .str,b.ob .str,sn.ob (V.int .i64),.box [.sl .ro xG,.sl .ro (tabsS.map GTable.row),.mp 0,.mp 1,.mp 2],.lst (L.map plR) 2,.it (some 1) b.clk se b.clk]:St).all (ltOb 6)=true:=fun L se=>by
  have h:=xQ 6 om a b sn
  simp only[runS,runB,Ar,Ch,Cm]at h⊢
  rw[A6,A6,A6]at h⊢
  refine⟨h.1,h.2.1,h.2.2.1, ?_⟩
  rw[A6]
  exact⟨h.2.2.2,by simp[ltOb,ltC,ltK,plR]⟩
 refine iV 4 func43 ntmps43 results43 fun c hc hb=> ?_
 refine zO (zA ?_)
 simp[go_sem,runS,runB]
 refine zO (zA ?_)
 simp[go_sem]
 refine zM5 3 2 dC sg ?_
 refine zO (zA ?_)
 simp[go_sem,eB]
 refine zH (S:=List Nat×List (Pl×List UInt8)) [0,3,21] (fun u=> [.ptr 3 0,.lsv 4 2 (keyN a u.2).length 0 (keyN a u.2).length,.ptr 5 0])
   (fun u=> [a.ob .str,b.ob .str,sn.ob (V.int .i64),.box [.sl .ro xG,.sl .ro (tabsS.map GTable.row),.mp 0,.mp 1,.mp 2],.lst ((keyN a u.2).map plR) 2,.it (some 1) b.clk u.1 b.clk]) (fun u=>(ze4 u.1 b.W b.bs).length)
   (fun u=>MetD u.1 b.W b.bs u.2) hc hb ([],[]) (MetD.start hn.ok.len) ?_ ?_
 have k0:keyN a []= []:=rfl
 .exact at_n 6 (by simp[go_sem,k0];rfl) rfl (al _ _) dC (zF (by simp[go_sem,k0]) rfl)
 .rintro⟨se,D⟩ hD
  simp only at hD
  refine zr9 22 dC ?_
  refine zA ?_
  simp[go_sem,eB]
  have aA:=hD.le
  have aB:=xP2 a D
  refine yF1 (b:=b) (i:=5) (id:=1) (seen:=se) (clk:=b.clk) (by simp[go_sem,zh1]) rfl rfl aH (fun hL=> ?_) (fun p hp=> ?_)
  .have ag:=hD.done hL
   obtain⟨K1,av⟩:=eX (keyN a D)
   have a1:K1.Perm (keyN a b.W):=by rw[<-av];exact(ag.filter _).map _
   have aC:K1.length<=10000:=by rw[<-av];omega
   rw[av]
   clear av ag hL aB aA hD
   have aw: ∀(L:List Pl) (aD:List Nat),([a.ob .str,b.ob .str,sn.ob (V.int .i64),.box [.sl .ro xG,.sl .ro (tabsS.map GTable.row),.mp 0,.mp 1,.mp 2],.lst (L.map plR) 2,.it (some 1) b.clk se b.clk,.it (some 0) a.clk aD a.clk]:St).all (ltOb 7)=true:=fun L aD=>by
    have h:=xQ 7 om a b sn
    simp only[runS,runB,Ar,Ch,Cm]at h⊢
    rw[A6,A6,A6]at h⊢
    refine⟨h.1,h.2.1,h.2.2.1, ?_⟩
    rw[A6]
    exact⟨h.2.2.2,by simp[ltOb,ltC,ltK,plR]⟩
   simp[go_sem]
   refine zO (zA ?_)
   simp[go_sem,eA]
   have k0:keyO b []= []:=rfl
   refine zH (S:=List Nat×List (Pl×List UInt8)) [0,3,51] (fun u=> [.ptr 3 0,.lsv 4 2 (K1++keyO b u.2).length 0 (K1++keyO b u.2).length,.ptr 6 0])
     (fun u=> [a.ob .str,b.ob .str,sn.ob (V.int .i64),.box [.sl .ro xG,.sl .ro (tabsS.map GTable.row),.mp 0,.mp 1,.mp 2],.lst ((K1++keyO b u.2).map plR) 2,.it (some 1) b.clk se b.clk,.it (some 0) a.clk u.1 a.clk]) (fun u=>(ze4 u.1 a.W a.bs).length)
     (fun u=>MetD u.1 a.W a.bs u.2) hc hb ([],[]) (MetD.start ha.ok.len) ?_ ?_
   .exact at_n 7 (by simp[go_sem,k0,eA,eB]) rfl (aw _ _) dC (zF (by simp[go_sem,k0]) rfl)
   rintro⟨aj,D⟩ hD
   simp only at hD
   refine zr9 52 dC ?_
   refine zA ?_
   simp[go_sem,eA]
   have aA:=hD.le
   have aB:=xP3 b D
   refine yF1 (b:=a) (i:=6) (id:=0) (seen:=aj) (clk:=a.clk) (by simp[go_sem,zh1]) rfl rfl has (fun hL=> ?_) (fun p hp=> ?_)
   .have ag:=hD.done hL
    obtain⟨K2,an⟩:=eX (K1++keyO b D)
    have a6:K2.Perm (keyN a b.W++keyO b a.W):=by rw[<-an];exact a1.append ((ag.filter _).map _)
    have a7:K2.length<=20000:=by rw[<-an,Ak];omega
    have ao:(K1++keyO b D).map plR=K2.map plR:=by rw[an]
    have aq:(K1++keyO b D).length=K2.length:=by rw[an]
    rw[Ca]at ao
    rw[Ak]at aq
    clear an ag hL aB aA hD aC a1 k0 al aw
    simp[go_sem,ao,aq]
    refine zO (zA ?_)
    simp[go_sem]
    refine yS0 Tryz.sortPl rfl cB dC Tryz.sortPl_agg Tryz.sortPl_sz cB yO2 xh2 (f:=plR) (kx:=fun p=>p) (fun x=>⟨_,rfl,rfl⟩) K2 rfl om (fun L ax aE=> ?_)
    have a8:=xv6 ha hn (ax.symm.trans a6) aE
    have aU:L.length<=20000:=by rw[<-ax.length_eq];exact a7
    rw[ax.length_eq]
    clear ax aE a6 a7 aq ao
    simp[go_sem]
    refine zO (zA ?_)
    simp[go_sem]
    refine zM5 11 2 dC sg ?_
    refine zO (zA ?_)
    simp[go_sem]
    obtain⟨G,hG⟩:=eX (grpF (chgF au now))
    rw[hG]
    have aI:(L.map (wrB b)).foldl grpS (pOf [])=G:=by rw[a8];exact hG
    clear a8 hG
    refine zH (S:=Nat×List (Int×List Wr×Nat)×St) [0,11,73,74,75] (fun u=> [.ptr 3 0,.lsv 7 2 u.2.1.length 0 u.2.1.length,.lsv 4 2 L.length 0 L.length,.int .i64 L.length,.int .i64 u.1])
      (fun u=> [a.ob .str,b.ob .str,sn.ob (V.int .i64),.box [.sl .ro xG,.sl .ro (tabsS.map GTable.row),.mp 0,.mp 1,.mp 2],.lst (L.map plR) 2,.it (some 1) b.clk se b.clk,.it (some 0) a.clk aj a.clk,.lst (u.2.1.map nPut) 2]++u.2.2) (fun u=>L.length - u.1)
      (fun u=>u.1<=L.length/\u.2.1.length<=u.1/\xV7 u.2.1 u.2.2 u.1/\((L.map (wrB b)).drop u.1).foldl grpS (pOf u.2.1)=G) hc hb (0,[],[]) ⟨A4 _,A5 _,fun O r C k h=>by simp at h,aI⟩ ?_ ?_
    .exact zZ sm sg
    rintro⟨i,N,τ⟩ ⟨hi,aF,aG,aa⟩
    simp only at hi aF aG aa
    by_cases q:i<L.length
    rotate_left
    .rw[Ab (by rw[B1];omega),Eq]at aa
     refine zA ?_
     simp[go_sem,q]
     refine zA ?_
     simp[go_sem]
     refine yl9 7 2 (N.map nPut) rfl (wc9 N) ?_
     simp only[frzS,frzA,frzC,frzK,B1,Ad,A5,and_self,if_true,xM2,aa]
     refine xA 4 (s:=runS a b sn) (r:= .sl .ro (G.map putR)) ?_ rfl (xQ 4 dC a b sn) (A5 _) zK ⟨rfl,rfl⟩
     exact xN6
    have ei:=zQ q om
    obtain⟨⟨pr,pk⟩,hp⟩: ∃p,L[i]=p:=⟨_,rfl⟩
    rw[A8 (by rw[B1];exact q),Bb,D7,hp]at aa
    refine zO (zA ?_)
    simp[go_sem,q]
    refine zO (zA ?_)
    simp[go_sem]
    refine zO (za4 (zO (zA ?_)))
    simp[go_sem,q,hp,plR]
    refine ze9 (S:=Bool×List UInt8) [0,11,13,14,15,73,74,75] (fun u=> [.ptr 3 0,.lsv 7 2 N.length 0 N.length,.ptr (τ.length+8) 0,.str u.2,.bool (!u.1),.lsv 4 2 L.length 0 L.length,.int .i64 L.length,.int .i64 i])
      (fun u=> [a.ob .str,b.ob .str,sn.ob (V.int .i64),.box [.sl .ro xG,.sl .ro (tabsS.map GTable.row),.mp 0,.mp 1,.mp 2],.lst (L.map plR) 2,.it (some 1) b.clk se b.clk,.it (some 0) a.clk aj a.clk,.lst (N.map nPut) 2]++(τ++ [.box [.int .i64 pr,.str pk]]))
      (fun u=>wrB b (pr,pk)=⟨(pr,pk),u.1,u.2⟩) hc hb ?_ ?_
    .refine yS [] (τ.length+9) sm kR kR ?_
     simp[go_sem,eB]
     cases ae:b.at (pr,pk)with
     |none=>
      have ab:idxW (pr,pk) b.W=none:=ae
      have hw:wrB b (pr,pk)=⟨(pr,pk),true,[]⟩:=by simp[wrB,Mp.get,ae]
      simp[go_sem,zb5,ab,zc3,zd4]
      exact zG (true,[]) ⟨hw,zZ sm sg⟩
     |some w=>
      have ab:idxW (pr,pk) b.W=some w:=ae
      have hw:wrB b (pr,pk)=⟨(pr,pk),false,w.2⟩:=by simp[wrB,Mp.get,ae]
      simp[go_sem,zb5,ab,zc3,zd4]
      exact zG (false,w.2) ⟨hw,zZ sm sg⟩
    rintro⟨dr,ay⟩ hw
    simp only at hw
    rw[hw]at aa
    rcases List.eq_nil_or_concat N with hN|⟨O,⟨r0,C,k⟩,hN⟩
    .subst hN
     refine zO (zO ?_)
     refine yS [] (τ.length+9) sm kR kR ?_
     simp[go_sem]
     refine zU1 (b:=true) sg (fun _=> ?_) (fun h=>by cases h)
     refine ya6 4 rfl rfl rfl ?_
     simp[go_sem,By]
     refine zI (zV rfl) ?_
     simp[go_sem]
     refine zO (zA ?_)
     simp[go_sem]
     refine wQ [(4,2),(6,2),(12,3),(15,4)] 6 sm kR kR ?_
     simp[go_sem]
     refine zI ⟨(fun r hr=>by cases hr),zV rfl⟩ ?_
     simp[go_sem]
     refine zA ?_
     simp[go_sem,ei]
     exact zG (i+1,[(pr,[⟨(pr,pk),dr,ay⟩],τ.length+1)],τ++ [.box [.int .i64 pr,.str pk],.app 1 3]) ⟨by show L.length - (i+1)<L.length - i;omega,⟨q,by show 1<=i+1;omega,zW2 (N:= []) sm sm,aa⟩,at_w (by simp[nPut,wrR]) sm sg⟩
    rw[List.concat_eq_append]at hN
    subst hN
    obtain⟨hk,hC⟩:=aG O r0 C k rfl
    have az:=(A3.1 hk).1
    have aV:O.length+1<=i:=by simpa using aF
    have z0:((O.length:Int)+1==0)=false:=by simp;omega
    have es:IntKind.i64.wrap (O.length:Int)=O.length:=i64_id om om
    have aJ:IntKind.i64.wrap ((O.length:Int)+1)=((O.length+1:Nat):Int):=by rw[i64_id om om];omega
    by_cases hr:r0=pr
    .subst hr
     refine zO (zO ?_)
     refine yS [] (τ.length+9) sm kR kR ?_
     simp[go_sem,nPut,z0,es]
     refine zI om ?_
     simp[go_sem]
     refine zA ?_
     simp[go_sem]
     refine zO (zA ?_)
     simp[go_sem,es]
     refine zI om ?_
     simp[go_sem]
     refine wQ [(4,2),(6,2),(12,3),(15,4)] 6 sm kR kR ?_
     have aK:(τ++ [Ob.box [.int .i64 r0,.str pk]])[k]? =some (.app C.length 3):=by rw[Ah az];exact hk
     have aL: ∀o,(τ++ [Ob.box [.int .i64 r0,.str pk]]).set k o=τ.set k o++ [Ob.box [.int .i64 r0,.str pk]]:=fun o=>E3 _ _ az
     simp[go_sem,aK,aL]
     refine zI ⟨om,zV rfl⟩ ?_
     simp[go_sem]
     refine zA ?_
     simp[go_sem,ei]
     exact zG (i+1,O++ [(r0,C++ [⟨(r0,pk),dr,ay⟩],k)],τ.set k (.app (C.length+1) 3)++ [.box [.int .i64 r0,.str pk]]) ⟨by show L.length - (i+1)<L.length - i;omega,⟨q,by show(O++ [_]).length<=i+1;simp;omega,zW2 (by rw[Ah (by simpa using az),Ba az];simp) (by simp;omega),by rw[xz7 (r:=r0) (w:=⟨(r0,pk),dr,ay⟩) rfl]at aa;exact aa⟩,at_w (by simp[nPut,wrR]) sm sg⟩
    .have aP:(r0 !=pr)=true:=by simpa using hr
     refine zO (zO ?_)
     refine yS [] (τ.length+9) sm kR kR ?_
     simp[go_sem,nPut,z0,es]
     refine zI om ?_
     simp[go_sem,aP]
     refine zU1 (b:=true) sg (fun _=> ?_) (fun h=>by cases h)
     refine ya6 4 rfl rfl rfl ?_
     simp[go_sem,By]
     refine zI ⟨zV rfl,om⟩ ?_
     simp[go_sem]
     refine zO (zA ?_)
     simp[go_sem,aJ]
     refine zI om ?_
     simp[go_sem]
     refine wQ [(4,2),(6,2),(12,3),(15,4)] 6 sm kR kR ?_
     simp[go_sem]
     refine zI ⟨(fun r hr=>by cases hr),zV rfl⟩ ?_
     simp[go_sem]
     refine zA ?_
     simp[go_sem,ei]
     exact zG (i+1,(O++ [(r0,C,k)])++ [(pr,[⟨(pr,pk),dr,ay⟩],τ.length+1)],τ++ [.box [.int .i64 pr,.str pk],.app 1 3]) ⟨by show L.length - (i+1)<L.length - i;omega,⟨q,by show((O++ [_])++ [_]).length<=i+1;simp;omega,zW2 sm sm,by rw[xO4 (k':=τ.length+1) rfl hr]at aa;exact aa⟩,at_w (by simp[nPut,wrR]) sm sg⟩
   .have ar:=yy1 (g:=V.str) ha.ok.nd (zL6 hp)
    have ah:=hD.next ha.ok.nd hp
    have ak:=(zE1 ha.ok.nd hp).length_eq
    obtain⟨⟨⟨pr,pk⟩,data⟩,stamp⟩:=p
    simp only[plV]at ar ah ak
    have af:(ze4 (aj++ [stamp]) a.W a.bs).length<(ze4 aj a.W a.bs).length:=by rw[ak];exact Es _
    clear ak hp
    have ad:=xn5 b D ((pr,pk),data)
    have ai:isO b ((pr,pk),data)=((b.at (pr,pk)).map (·.2)).isNone:=rfl
    simp[go_sem,plV,zi0,ar]
    refine yS [] 8 rfl kR kR ?_
    simp[go_sem,eB]
    cases ae:b.at (pr,pk)with
    |none=>
     have ab:idxW (pr,pk) b.W=none:=ae
     rw[if_pos (by rw[ai,ae];rfl)]at ad
     simp[go_sem,zb5,ab,zc3,zd4,By]
     refine zI ⟨zV rfl,om⟩ ?_
     simp[go_sem]
     exact zG (aj++ [stamp],D++ [((pr,pk),data)]) ⟨af,ah,at_n 7 (by simp[go_sem,ad,plR,eA,eB]) rfl (aw _ _) dC (zF (by simp[go_sem,ad,Ds]) rfl)⟩
    |some w=>
     have ab:idxW (pr,pk) b.W=some w:=ae
     rw[ae]at ai
     rw[if_neg (by rw[ai];simp)]at ad
     simp[go_sem,zb5,ab,zc3,zd4]
     exact zG (aj++ [stamp],D++ [((pr,pk),data)]) ⟨af,ah,at_n 7 (by simp[go_sem,ad,eA,eB]) rfl (aw _ _) dC (zF (by simp[go_sem,ad]) rfl)⟩
  .have ar:=yy1 (g:=V.str) hn.ok.nd (zL6 hp)
   have ah:=hD.next hn.ok.nd hp
   have ak:=(zE1 hn.ok.nd hp).length_eq
   obtain⟨⟨⟨pr,pk⟩,data⟩,stamp⟩:=p
   simp only[plV]at ar ah ak
   have af:(ze4 (se++ [stamp]) b.W b.bs).length<(ze4 se b.W b.bs).length:=by rw[ak];exact Es _
   clear ak hp
   have ad:=xn4 a D ((pr,pk),data)
   have ai:isN a ((pr,pk),data)=((a.at (pr,pk)).map (·.2) !=some data):=rfl
   simp[go_sem,plV,zi0,ar]
   refine yS [] 7 rfl kR kR ?_
   simp[go_sem,eA]
   cases ae:a.at (pr,pk)with
   |none=>
    have ab:idxW (pr,pk) a.W=none:=ae
    rw[if_pos (by rw[ai,ae];rfl)]at ad
    simp[go_sem,zb5,ab,zc3,zd4,By]
    refine zI ⟨zV rfl,om⟩ ?_
    simp[go_sem]
    exact zG (se++ [stamp],D++ [((pr,pk),data)]) ⟨af,ah,at_n 6 (by simp[go_sem,ad,plR,eA];rfl) rfl (al _ _) dC (zF (by simp[go_sem,ad]) rfl)⟩
   |some w=>
    have ab:idxW (pr,pk) a.W=some w:=ae
    rw[ae]at ai
    by_cases q:w.2=data
    .have q':(w.2==data)=true:=by simpa using q
     rw[if_neg (by rw[ai];simpa using q)]at ad
     simp[go_sem,zb5,ab,zc3,zd4,q']
     exact zG (se++ [stamp],D++ [((pr,pk),data)]) ⟨af,ah,at_n 6 (by simp[go_sem,ad,eA];rfl) rfl (al _ _) dC (zF (by simp[go_sem,ad]) rfl)⟩
    .have q':(w.2==data)=false:=by simpa using q
     rw[if_pos (by rw[ai];simpa using q)]at ad
     simp[go_sem,zb5,ab,zc3,zd4,q',By]
     refine zI ⟨zV rfl,om⟩ ?_
     simp[go_sem]
     exact zG (se++ [stamp],D++ [((pr,pk),data)]) ⟨af,ah,at_n 6 (by simp[go_sem,ad,plR,eA];rfl) rfl (al _ _) dC (zF (by simp[go_sem,ad]) rfl)⟩
end Go.Proofs.YtefbicjgbaaieaaGreat
