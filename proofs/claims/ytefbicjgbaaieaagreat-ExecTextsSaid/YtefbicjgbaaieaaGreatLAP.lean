/-
  Loops over a map, plainly: what is met and what is left; that what is gathered by regions and sorted by place are the rows that a statement looks at, as they stand. Used by the walk of exec's met.
  Conditions: as each theorem states them.
-/
import Derived.Test.YtefbicjgbaaieaaGreatLAO
import Derived.Test.YtefbicjgbaaieaaGreatLAK
import Derived.Test.YtefbicjgbaaieaaGreatLAN
import Derived.Test.YtefbicjgbaaieaaGreatLAF
import Derived.Test.YtefbicjgbaaieaaGreatLAL
import Derived.Test.YtefbicjgbaaieaaGreatLAG
set_option maxHeartbeats 8000000
namespace Go.Proofs.YtefbicjgbaaieaaGreat
open Go Go.Vx R Go.Proofs.Tryz
set_option maxRecDepth 100000
attribute [go_sem] dW.row
def tZ(n:Nat)(t:Int)(name:aij)(l:List dW)(b:aij×aij):aij×aij:=l.foldl (λb c=>if c.name=name then jT (np n t c.v) c.sign b else b) b
def Gi(ts:List bH)(t:Int)(L:List dW):aij×aij:=if nk ts.length t=true then match(ts[t.toNat]?).bind xg with|none=>jw ts.length t|some name=>let b:=tZ ts.length t name L (jw ts.length t);(b.1,eS b.1 b.2)else jw ts.length t
theorem yV6(n:Nat)(aa:List (List V))(ts:List bH)(t:Int)(st:bQ)(hn:ts.length<=cu)(af:∀T∈ts,0<=T.key/\T.key<T.bP.length)(hd:xG st.bU<=n)(hz:jP st.bU<=4000)(hl:(n9 n st).length<=maxLen)(hv:∀c∈n9 n st,c.v.ok):Pure prog 194 [.agg [.sl .ro aa,.sl .ro (ts.map bH.row)],.int .i64 t,.agg st.row] (Eu (Gi ts t (n9 n st))):=by
 have ag:=H4 n st hd hz;generalize hL:n9 n st=L at ag hl hv;generalize hM:Gi ts t L=M;have ret:∀(r:aij×aij)(U:St),r=M->bW (some (.cm [.str r.1,.str r.2])) 0 (λr s=>r=Eu M/\s=[]) U:=λr U h=>by subst h;exact zV (zD rfl) (by trivial)
 have ab:=xQ1 aa (ts.map bH.row) t (sU hn);simp only[Bq]at ab;unfold Gi at hM;generalize hA:jw ts.length t=A at ab hM;refine iV 0 func194 ntmps194 results194 λc hc hb=>?_;refine zA ?_;simp[go_sem];refine pC ab ?_;simp[go_sem];refine(A1 (nk ts.length t)).elim (λh=>?_) (λh=>?_);rotate_left
 .simp only[h]at hM;have h2:decide (t<0)=true\/(decide (t<0)=false/\decide ((ts.length:Int)<=t)=true):=by simp_all[nk];omega
  refine h2.elim (λq=>?_) (λq=>?_);all_goals simp[go_sem,q]
  all_goals exact ret _ _ hM
 obtain⟨j,rfl,hj⟩:=F8 h;obtain⟨T,hT⟩:=eX (ts[j]);have au:decide ((ts.length:Int)<=j)=false:=(by grind);have ai:decide ((j:Int)<0)=false:=(by rfl);simp only[h,ai0,Ai,A0 hj,hT,An]at hM;have aj:decide (ts.length<=j)=false:=(by grind);obtain⟨av,aw⟩:=af T (by grind);obtain⟨m,hm⟩:∃m:Nat,T.key=m:=⟨T.key.toNat,om⟩;have ak:m<T.bP.length:=om;obtain⟨C,hC⟩:=eX (T.bP[m]);have al:xg T=some C.name:=by unfold xg;grind
 simp only[al]at hM;simp[go_sem,ai,aj,hj,hT];refine zJ ag cB (zK (by rfl) rfl) rfl ?_;simp[go_sem];refine zG (S:=Nat×aij×aij) [1,3,8,9,10,11,12] (λu=>[.int .i64 j,.ptr 0 0,.str u.2.1,.str u.2.2,.ptr 1 0,.sl .ro (L.map dW.row),.int .i64 u.1]) (λ_=>[.box [.sl .ro aa,.sl .ro (ts.map bH.row)],.box T.row]) (λu=>L.length-u.1) (λu=>u.1<=L.length/\tZ ts.length j C.name (L.drop u.1) u.2=tZ ts.length j C.name L A) hc hb (0,A) sm ?_ ?_
 .exact AL [0,2] dc rfl (by trivial) ⟨zD rfl,.inl (by rfl),zD rfl,zD rfl,.inl (by rfl),zP,zD rfl,tV⟩
 rintro⟨i,b⟩⟨hi,hinv⟩;simp only at hi hinv;by_cases q:i<L.length;rotate_left;.rw[A4 om]at hinv;have an:b=tZ ts.length j C.name L A:=hinv;rw[<-an]at hM;refine zA ?_;simp[go_sem,q];exact ret (b.1,eS b.1 b.2) _ hM
 have ei:=zR q (by unfold maxLen at hl;omega);obtain⟨x,hx⟩:=eX (L[i]);have ao:x∈L:=(by grind);rw[A2 q,hx]at hinv;have aq:=hv x ao;have ae:=SP aa (ts.map bH.row) j x.v (sU hn) aq;simp only[Bq]at ae;have ar:T.bP[m]?=some C:=by grind
 simp only[tZ,Ap]at hinv;have hlen:(np ts.length j x.v).length<=200:=by have:=SQ x.v;simp_all[np];omega
 generalize np ts.length j x.v=bd at ae hinv hlen;have go:∀(b':aij×aij)e U,tZ ts.length j C.name (L.drop (i+1)) b'=tZ ts.length j C.name L A->At 0 [1,3,8,9,10,11,12] [.int .i64 j,.ptr 0 0,.str b'.1,.str b'.2,.ptr 1 0,.sl .ro (L.map dW.row),.int .i64 ((i+1:Nat):Int)] [.box [.sl .ro aa,.sl .ro (ts.map bH.row)],.box T.row] e U->Vx.Next (λs':Nat×aij×aij=>L.length-s'.1<L.length-i/\(s'.1<=L.length/\tZ ts.length j C.name (L.drop s'.1) s'.2=tZ ts.length j C.name L A)/\At 0 [1,3,8,9,10,11,12] [.int .i64 j,.ptr 0 0,.str s'.2.1,.str s'.2.2,.ptr 1 0,.sl .ro (L.map dW.row),.int .i64 s'.1] [.box [.sl .ro aa,.sl .ro (ts.map bH.row)],.box T.row] e U) fx:=λb' e U h1 h2=>zH (i+1,b') ⟨om,(by grind),h2⟩;refine zA ?_;simp[go_sem,q];refine zW [] 2 sm (by rfl) kR ?_;simp[go_sem,q,hx,hm,ar];refine zF ak ?_;simp[go_sem];by_cases ah:x.name=C.name;rotate_left
 .have ad:(x.name==C.name)=false:=by grind
  rw[ahO ah]at hinv;simp[go_sem,ad,ei];exact go b _ _ hinv (bT 2 (by simp[go_sem,hm]) rfl (by rfl) om (zC (by rfl) rfl))
 have ad:(x.name==C.name)=true:=by grind
 rw[ahP ah]at hinv;simp[go_sem,ad];refine zW [(7,0)] 2 sm (by rfl) kR ?_;simp[go_sem,q,hx];refine yF ae cB (λ_=>zK (by rfl) rfl) rfl ?_;simp[go_sem,q,hx];repeat'(first |(refine zF om ?_;simp[go_sem,ei])|(refine zO (λq=>?_) (λq=>?_)<;>simp[go_sem,q,ei]))
 all_goals simp only[ahX,beq_eq_false_iff_ne]at*
 all_goals refine go (jT bd x.sign b) _ _ hinv ?_
 all_goals refine bT 2 (by simp[go_sem,hm]) rfl (by rfl) om (zC ?_ rfl)
 all_goals unfold jT
 all_goals(simp[go_sem, *];try first|exact(by trivial)|rfl)
def xw(name:aij)(l:List dW)(r:Int):Bool:=l.all λc=>!(c.name==name&&(c.sign==[61]&&(c.v.kind==2&&!(c.v.n==r))))
theorem wn6(n:Nat)(T:bH)(C:eG)(hC:T.bP[0]?=some C)(st:bQ)(r:Int)(hd:xG st.bU<=n)(hz:jP st.bU<=4000)(hl:(n9 n st).length<=maxLen):Pure prog 263 [.agg T.row,.agg st.row,.int .i64 r] (.bool (xw C.name (n9 n st) r)):=by
 have aa:=H4 n st hd hz;generalize hL:n9 n st=L at aa hl;generalize hM:xw C.name L r=M;unfold xw at hM;obtain⟨ai,aj⟩:=A5.1 hC;refine iV 0 func263 ntmps263 results263 λc hc hb=>?_;refine zA ?_;simp[go_sem];refine zJ aa cB (zK sg rfl) rfl ?_;simp[go_sem];refine zG (S:=Nat) [2,3,7,8] (λi=>[.int .i64 r,.ptr 0 0,.sl .ro (L.map dW.row),.int .i64 (i:Int)]) (λ_=>[.box T.row]) (λi=>L.length-i) (λi=>i<=L.length/\((L.drop i).all λc=>!(c.name==C.name&&(c.sign==[61]&&(c.v.kind==2&&!(c.v.n==r)))))=M) hc hb 0 ⟨A3 _,hM⟩ ?_ ?_;.exact aN 1 (by simp[bO,cH,cF,bH.row])
 rintro i⟨hi,hinv⟩;by_cases q:i<L.length;rotate_left;.rw[A4 om]at hinv;refine zA ?_;simp[go_sem,q];exact dg hinv
 have ei:=zR q (by unfold maxLen at hl;omega);obtain⟨x,hx⟩:=eX (L[i]);rw[rG _ _ _ q,hx]at hinv;obtain⟨tl,ab⟩:∃tl,((L.drop (i+1)).all λc=>!(c.name==C.name&&(c.sign==[61]&&(c.v.kind==2&&!(c.v.n==r)))))=tl:=⟨_,rfl⟩;rw[ab]at hinv;have go:∀e U,tl=M->At 0 [2,3,7,8] [.int .i64 r,.ptr 0 0,.sl .ro (L.map dW.row),.int .i64 ((i+1:Nat):Int)] [.box T.row] e U->Vx.Next (λs':Nat=>L.length-s'<L.length-i/\(s'<=L.length/\((L.drop s').all λc=>!(c.name==C.name&&(c.sign==[61]&&(c.v.kind==2&&!(c.v.n==r)))))=M)/\At 0 [2,3,7,8] [.int .i64 r,.ptr 0 0,.sl .ro (L.map dW.row),.int .i64 (s':Int)] [.box T.row] e U) fx:=λe U h1 h2=>zH (i+1) ⟨om,⟨om,ab.trans h1⟩,h2⟩;obtain⟨b1,ad⟩:∃b,(x.name==C.name)=b:=⟨_,rfl⟩;obtain⟨b2,ae⟩:∃b,(x.sign==[61])=b:=⟨_,rfl⟩;obtain⟨b3,af⟩:∃b,(x.v.kind==2)=b:=⟨_,rfl⟩;obtain⟨b4,ag⟩:∃b,(x.v.n==r)=b:=⟨_,rfl⟩;have ah:(x.v.n !=r)=!b4:=by rw[<-ag];rfl
 rw[ad,ae,af,ag]at hinv;refine zA ?_;simp[go_sem,q];refine zW [] 1 sm kR kR ?_;simp[go_sem,q,hx,ai,aj,ad];repeat'(first |(refine yA (λw=>?_) (λw=>?_)<;>simp[go_sem,q,hx,w,ae,af,ah,ei])|(refine zO (λw=>?_) (λw=>?_)<;>simp[go_sem,w,ei]))
 all_goals first |exact dg (by rw[<-hinv];simp_all)|exact go _ _ (by rw[<-hinv];simp_all) (aN 1 (by simp[bO,cH,cF,bH.row]))
def wq6:Option (V×St)->Option (List (List V)) |some (.sl _ r,_)=>some r|_=>none
theorem T3{f:FuncId}{l:List V}{rows:List (List V)}(h:wq6 (sj prog marks (qV prog Vx.eC marks 10000) (.fn f []) l [])=some rows):Pure prog f l (.sl .ro rows):=by obtain⟨o,ho⟩:=eX (sj prog marks (qV prog Vx.eC marks 10000) (.fn f []) l []);rw[ho]at h;match o,h with |some (.sl g r,s),h=>cases h;exact bL.GM (Rg nU wV marks 10000 ho) λr s h=>⟨_,_,.refl _ _,by grind[zP]⟩
theorem xA9:Pure prog 200 [cA bI] (.sl .ro [[.int .i64 0],[.int .i64 1]]):=T3 kR
theorem T4:Pure prog 67 [cA bI] (.sl .ro [[.int .i64 0,.int .i64 0],[.int .i64 0,.int .i64 1],[.int .i64 1,.int .i64 (-1)],[.int .i64 2,.int .i64 1]]):=T3 kR
def Gj(t:Int)(l:List dW):aim:=if t=0then[0,1].filter (xw [82] l)else if t=1then[-1]else if t=2then[1]else[]
theorem yI7(n:Nat)(t:Int)(st:bQ)(hd:xG st.bU<=n)(hz:jP st.bU<=4000)(hl:(n9 n st).length<=maxLen):Pure prog 195 [cA bI,.int .i64 t,.agg st.row] (.sl .ro ((Gj t (n9 n st)).map yG)):=by
 have ad:=λr=>wn6 n kY ⟨[82],2,false⟩ rfl st r hd hz hl;have af:=xA9;generalize n9 n st=L at ad;generalize hM:Gj t L=M;unfold Gj at hM;by_cases h0:t<0\/3<=t
 .rw[ahO om,ahO om,ahO om]at hM;subst hM;have h2:decide (t<0)=true\/(decide (t<0)=false/\decide (3<=t)=true):=by grind
  refine iW 0 func195 ntmps195 results195 λc hc hb=>zM ?_;simp[go_sem,cA];refine h2.elim (λq=>?_) (λq=>?_);all_goals simp[go_sem,q,bI]
  all_goals exact zV zP sm
 have hj:t=0\/t=1\/t=2:=om;rcases hj with rfl|rfl|rfl;rotate_left;.rw[ahO om,ahP rfl]at hM;subst hM;refine iW 0 func195 ntmps195 results195 λc hc hb=>zM ?_;simp[go_sem,cA,bI,kY,rE,rF,bH.row];exact zV zP sm
 .rw[ahO om,ahO om,ahP rfl]at hM;subst hM;refine iW 0 func195 ntmps195 results195 λc hc hb=>zM ?_;simp[go_sem,cA,bI,kY,rE,rF,bH.row];exact zV zP sm
 rw[ahP rfl]at hM;obtain⟨j,ab⟩:∃j:Nat,j=0:=⟨0,rfl⟩;have ag:j<bI.length:=by rw[ab];decide
 have hT:bI[j]=kY:=by subst ab;rfl
 have ht:(0:Int)=(j:Int):=om;have ah:decide ((j:Int)<0)=false:=(by rfl);have al:decide ((bI.length:Int)<=j)=false:=(by grind);have ai:decide (bI.length<=j)=false:=(by grind);rw[ht];clear ht ab;refine iV 0 func195 ntmps195 results195 λc hc hb=>?_;have aj:kY.place=0:=rfl;refine zA ?_;simp[go_sem,cA,ah,ai,ag,hT,aj];refine pC af ?_;simp[go_sem];refine wL 8 1 dc (by rfl) ?_;refine zG (S:=Nat×aim) [5,7,8,9,10] (λu=>[.ptr 1 0,.ptr 2 0,.sl (.app 3) (u.2.map yG),.sl .ro [[.int .i64 0],[.int .i64 1]],.int .i64 (u.1:Int)]) (λu=>[.box [.sl .ro yL,.sl .ro (bI.map bH.row)],.box st.row,.box kY.row,.app u.2.length 1]) (λu=>2-u.1) (λu=>u.1<=2/\u.2=([0,1].take u.1).filter (xw [82] L)) hc hb (0,[]) sm ?_ ?_;.exact bT 4 (by rfl) rfl (by rfl) om (zC (by rfl) rfl)
 rintro⟨i,out⟩⟨hi,hinv⟩;simp only at hi hinv;by_cases q:i<2;rotate_left
 .have ae:i=2:=om;rw[ae]at hinv;have ho:out=M:=by grind
  refine zA ?_;simp[go_sem,ae];rw[ho];exact zV zP sm
 obtain⟨r,hr,hw⟩:∃r:Int,[[V.int .i64 0],[V.int .i64 1]][i]?=some [V.int .i64 r]/\([0,1].take (i+1)).filter (xw [82] L)=out++(if xw [82] L r=true then[r]else[]):=by grind
 obtain⟨an,ao⟩:=A5.1 hr;have aa:=ad r;have ei:=zR q om;obtain⟨b,ak⟩:=eX (xw [82] L r);simp only[ak]at aa hw;refine zA ?_;have q':decide ((i:Int)<2)=true:=(by grind);simp[go_sem,q'];refine zW [(6,0)] 3 sm (by rfl) kR ?_;simp[go_sem,hr];refine zF om ?_;simp[go_sem];refine yF aa cB (λ_=>zK (by rfl) rfl) rfl ?_;have aq:(([0,1]:aim).take (i+1)).length<=2:=by grind
 refine(A1 b).elim (λp=>?_) (λp=>?_)
 .rw[ahP p]at hw;have ar:out.length<=2:=by grind
  simp[go_sem,p,hr];refine zF om ?_;simp[go_sem];refine zF ⟨om,zT rfl⟩ ?_;simp[go_sem,ei];exact zH (i+1,out++[r]) ⟨om,(by grind),bT 4 sm rfl (by rfl) om (zC (by simp[go_sem,yG]) rfl)⟩
 .rw[ahO (by grind),Ay]at hw;simp[go_sem,p,ei];exact zH (i+1,out) ⟨om,(by grind),bT 4 (by rfl) rfl (by rfl) om (zC (by rfl) rfl)⟩
def xx(v:bF)(C:eG):Bool:=dw v&&(v.kind==0||v.kind==C.kind)
def ua(cs:List eG)(row:List bF):Bool:=decide (row.length=cs.length)&&(row.zip cs).all λp=>xx p.1 p.2
theorem yV9(T:bH)(row:List bF)(hT:T.bP.length<=maxLen):Pure prog 259 [.agg T.row,.sl .ro (row.map bF.row)] (.bool (ua T.bP row)):=by
 generalize hM:ua T.bP row=M;unfold ua at hM;by_cases hlen:row.length=T.bP.length;rotate_left
 .have h1:((row.length:Int)!=T.bP.length)=true:=by simp;omega
  rw[ahQ hlen,B2]at hM;refine iW 0 func259 ntmps259 results259 λc hc hb=>zM ?_;simp[go_sem,h1];exact dg hM
 have h1:((row.length:Int)!=T.bP.length)=false:=by simp;omega
 rw[ahR hlen,Ah]at hM;refine iV 0 func259 ntmps259 results259 λc hc hb=>?_;refine zA ?_;simp[go_sem,h1];refine zG (S:=Nat) [1,2,5] (λi=>[.sl .ro (row.map bF.row),.ptr 0 0,.int .i64 (i:Int)]) (λ_=>[.box T.row]) (λi=>row.length-i) (λi=>i<=row.length/\(((row.zip T.bP).drop i).all λp=>xx p.1 p.2)=M) hc hb 0 ⟨A3 _,hM⟩ ?_ ?_;.exact aN 1 (by simp[bO,cH,cF,bH.row])
 rintro i⟨hi,hinv⟩;by_cases q:i<row.length;rotate_left;.rw[A4 (by rw[List.length_zip];omega)]at hinv;refine zA ?_;simp[go_sem,q];exact dg hinv
 have qc:i<T.bP.length:=om;have ei:=zR q (by unfold maxLen at hT;omega);obtain⟨v,hv⟩:=eX (row[i]);obtain⟨C,hC⟩:=eX (T.bP[i]);have qz:i<(row.zip T.bP).length:=by rw[List.length_zip];omega
 rw[rG _ _ _ qz,List.getElem_zip,hv,hC]at hinv;obtain⟨tl,af⟩:∃tl,(((row.zip T.bP).drop (i+1)).all λp=>xx p.1 p.2)=tl:=⟨_,rfl⟩;rw[af]at hinv;unfold xx at hinv;have ag:=F4 v;simp only at hinv;generalize dw v=mv at ag hinv;have go:∀e U,tl=M->At 0 [1,2,5] [.sl .ro (row.map bF.row),.ptr 0 0,.int .i64 ((i+1:Nat):Int)] [.box T.row] e U->Vx.Next (λs':Nat=>row.length-s'<row.length-i/\(s'<=row.length/\(((row.zip T.bP).drop s').all λp=>xx p.1 p.2)=M)/\At 0 [1,2,5] [.sl .ro (row.map bF.row),.ptr 0 0,.int .i64 (s':Int)] [.box T.row] e U) fx:=λe U h1 h2=>zH (i+1) ⟨om,⟨om,af.trans h1⟩,h2⟩;refine zA ?_;simp[go_sem,q];refine zW [(4,0)] 1 sm kR kR ?_;simp[go_sem,q,hv];refine pD ag ?_;refine(A1 mv).elim (λp=>?_) (λp=>?_);rotate_left;.rw[p]at hinv;simp[go_sem,p];exact dg hinv
 rw[p,Ah]at hinv;simp[go_sem,p,q,hv];by_cases k0:v.kind=0;.have ad:(v.kind !=0)=false:=sU k0;have aa:(v.kind==0)=true:=sU k0;rw[aa,Cd,Ah]at hinv;simp[go_sem,ad,ei];exact go _ _ hinv (aN 1 (by simp[bO,cH,cF,bH.row]))
 have ad:(v.kind !=0)=true:=sU k0;have aa:(v.kind==0)=false:=sU k0;rw[aa,Bf]at hinv;simp[go_sem,ad,q,hv,qc,hC];by_cases k1:v.kind=C.kind;.have ae:(v.kind !=C.kind)=false:=sU k1;have ab:(v.kind==C.kind)=true:=sU k1;rw[ab,Ah]at hinv;simp[go_sem,ae,ei];exact go _ _ hinv (aN 1 (by simp[bO,cH,cF,bH.row]))
 .have ae:(v.kind !=C.kind)=true:=sU k1;have ab:(v.kind==C.kind)=false:=sU k1;rw[ab,B2]at hinv;simp[go_sem,ae];exact dg hinv
theorem OB{T:bH}{row:List bF}(h:ua T.bP row)(hv:∀v∈row,v.ok):mj T row:=by
 unfold ua at h;rw[A8,ahS]at h;refine⟨h.1,λj C v hC hV=>?_⟩;have hz:(row.zip T.bP)[j]?=some (v,C):=by rw[List.getElem?_zip_eq_some];exact⟨hV,hC⟩
 have h2:=Aj.1 h.2 _ (B9 hz);unfold xx at h2;simp only[A8,Ce,ahX]at h2;have aa:=hv v (B9 hV);exact⟨h2.1,⟨aa.n.1,aa.n.2⟩,h2.2.elim .inr .inl⟩
def fN(T:bH)(row:List bF)(e:bG):bF×Int:=if(xO T e).2≠0then(zeroV,(xO T e).2)else if ua T.bP row=false then(zeroV,9)else lS T row e
theorem OC (e:bG):fN eC [] e=BG e:=rfl
theorem H5(T:bH)(hT:T.bP.length<=maxLen)(row:List bF)(hv:∀v∈row,v.ok)(e:bG)(he:jS e):Pure prog 193 [.agg T.row,.sl .ro (row.map bF.row),.agg e.row] (dP (fN T row e)):=by
 have ae:=HS T hT e he;have ab:=yV9 T row hT;have cK:=@OB T row;generalize hM:fN T row e=M;unfold fN at hM;have ret:∀(v:bF)(e:Int)(U:St),(v,e)=M->bW (some (.cm [.agg v.row,.int .i64 e])) 0 (λr s=>r=dP M/\s=[]) U:=λv e U h=>sF h;generalize ua T.bP row=mr at ab cK hM;refine iW 0 func193 ntmps193 results193 λc hc hb=>zM ?_;simp[go_sem];refine zJ ae cB (zK sg (by rw[bG.bK];rfl)) rfl ?_;simp[go_sem,yN];by_cases q:(xO T e).2=0;rotate_left;.have q':((xO T e).2!=0)=true:=sU q;rw[ahP q]at hM;simp[go_sem,q'];exact ret zeroV _ _ hM
 have q':((xO T e).2!=0)=false:=sU q;have n1:¬(xO T e).2≠0:=λh=>h q;rw[ahO n1]at hM;simp[go_sem,q'];refine pC ab ?_;refine(A1 mr).elim (λp=>?_) (λp=>?_);rotate_left;.rw[ahP p]at hM;simp[go_sem,p];exact ret zeroV 9 _ hM
 rw[ahO (by rw[p];decide)]at hM;have ad:=cK p hv;have aa:Pure prog 260 [.agg T.row,.sl .ro (row.map bF.row),.agg e.row] (dP (lS T row e)):=by
  unfold xO at q;by_cases d:xG e<=64;.rw[ahP d]at q;exact TW ad hT 64 e d he.wide he.cN q
  .rw[ahO d]at q;cases q
 rw[hM]at aa;simp[go_sem,p];refine zJ aa cB ⟨zD rfl,zP,oI e,tV⟩ rfl ?_;simp[go_sem,dP];exact sF rfl
section
variable{b:List V}{rows:List (List V)}{A:aik}{τ:St}
end
variable{st:bQ}{e:bG}{a:aij}{J:Type}{I:Type}
theorem wr5{v:bF}{k:Int}(h:VK v k):v.ok/\v.s.length<=500:=by
 have hm:=h.may;have hn:=h.n;unfold dw at hm;have:dq v.kind/\v.s.length<=64:=by
  unfold dq;split at hm;.rename_i q;rw[q];simp at hm;exact⟨dc,by rw[hm.2];decide⟩
  split at hm;.rename_i q;rw[q];simp at hm;exact⟨dc,by rw[hm.2];decide⟩
  split at hm;.rename_i q;rw[q];simp at hm;exact⟨dc,by rw[hm];decide⟩
  split at hm;.rename_i q;rw[q];simp at hm;exact⟨dc,hm.2⟩
  .cases hm
 exact⟨⟨this.1,hn,by unfold maxLen;omega⟩,om⟩
theorem OD:∀(n:Nat)(q l:List bG),(∀e∈q,Good e)->(∀e∈l,Good e)->∀e∈pv n q l,Good e
 |0,_,_,_,hl=>hl|n+1,[],_,_,hl=>by rw[pv];exact hl|n+1,x::q,l,hq,hl=>by
  have hx:=hq x (Ax ..);have aa:∀e∈q,Good e:=λe he=>hq e (Bd _ he)
  rw[pv];split;.exact OD n _ _ (λe he=>by
    rcases Ak.1 he with he|he;.exact aa e he
    .exact hx.sub e he) hl
  .exact OD n _ _ aa (λe he=>by
    rcases Ak.1 he with he|he;.exact hl e he
    .rw[Cu]at he;subst he;exact hx)
theorem xU9(h:Good st.bU):N9 st:=λe he name s v ha=>by
 have hg:Good e:=by
  unfold lQ at he;split at he;.exact OD 4096 [st.bU] [] (λe he=>by rw[Cu]at he;subst he;exact h) (λe he=>by cases he) e he
  .cases he
 have aa:∃a∈e.args,a.v=v:=by
  unfold lu at ha;split at ha
  .rename_i a b heq ab;rw[ab];split at ha
   .split at ha;.cases ha;exact⟨a,sm,rfl⟩
    .cases ha
   .split at ha;.cases ha;exact⟨b,sm,rfl⟩
    .cases ha
  .cases ha
 obtain⟨a,ad,rfl⟩:=aa;exact(hg.sub a ad).v
def jU (st:bQ):List dW:=n9 4000 st
theorem T5(hs:gR st):(jU st).length<=4000:=by
 unfold jU n9;split;.exact Ao (H3 _ _) hs.bU.size
 simp
theorem T6:∀(n:Nat)(e:bG),Good e->∀x∈lA n e,Good x
 |0,e,h,x,hx=>by grind[lA]|n+1,e,h,x,hx=>by
  rw[lA]at hx;split at hx;.obtain⟨y,hy,aa⟩:=List.mem_flatMap.1 hx;exact T6 n y (h.sub y hy) x aa
  .rw[Cu]at hx;subst hx;exact h
theorem xZ0{c:dW}(h:c∈ml e):∃a∈e.args,a.v=c.v:=by unfold ml at h;grind
theorem wc8(hs:gR st):∀c∈jU st,c.v.ok:=λc hc=>by
 unfold jU n9 at hc;split at hc;.obtain⟨x,hx,aa⟩:=List.mem_flatMap.1 hc;obtain⟨a,ha,hv⟩:=xZ0 aa;have:=(T6 _ _ hs.bU.cN x hx).sub a ha;rw[<-hv];exact this.v
 grind
theorem xu7(t:Int)(st:bQ)(hs:gR st):Pure prog 194 [cA bI,.int .i64 t,.agg st.row] (Eu (Gi bI t (jU st))):=yV6 4000 yL bI t st dc dc (Gd 4000 _ hs.bU.size) hs.bU.size (by have:=T5 hs;unfold maxLen;exact Ao this dc) (wc8 hs)
theorem xg8(t:Int)(st:bQ)(hs:gR st):Pure prog 195 [cA bI,.int .i64 t,.agg st.row] (.sl .ro ((Gj t (jU st)).map yG)):=yI7 4000 t st (Gd 4000 _ hs.bU.size) hs.bU.size (by have:=T5 hs;unfold maxLen;exact Ao this dc)
theorem OE{J I:Type}{f g:J->List I}:∀{l:List J},(∀x∈l,f x=g x)->l.flatMap f=l.flatMap g |[],_=>rfl|x::l,h=>by rw[Bu,Bu,h x (Ax ..),OE λy hy=>h y (Bd _ hy)]
theorem T7:∀(d:Nat)(e:bG),xG e<=d->lA (d+1) e=lA d e
 |0,e,h=>by grind[u9]|d+1,e,h=>by
  rw[lA,lA];by_cases q:nj e=true;.rw[ahP q,ahP q];have aa:=nH e;refine OE λx hx=>T7 d x ?_;have:=wF e.args x hx;omega
  grind
theorem yS2{d:Nat}(h:xG e<=d)(q:nj e):lA d e=e.args.flatMap (lA d):=by match d,h with|0,h=>grind[u9]|d+1,h=>rw[lA,ahP q];have aa:=nH e;refine OE λx hx=>(T7 d x ?_).symm;have:=wF e.args x hx;omega
theorem xe1{d:Nat}(q:¬nj e):lA d e=[e]:=by cases d with|zero=>rfl|succ d=>simp_all[lA]
theorem T8:∀a b:List bG,j6 (a++b)=j6 a+j6 b
 |[],b=>by simp[j6]|x::a,b=>by have:=T8 a b;simp only[Bg,j6]at this⊢;omega
theorem OF(d:Nat):∀(n:Nat)(q l:List bG),j6 q<=n->(∀e∈q,xG e<=d)->(pv n q l).Perm (l++q.flatMap (lA d))
 |0,[],l,_,_=>by simp[pv]|0,e::q,l,h,_=>by grind[F0,j6]|n+1,[],l,_,_=>by simp[pv]|n+1,e::q,l,h,hd=>by
  have hs:jP e+j6 q<=n+1:=by simpa
  have hp:=F0 e;have ab:=wy e;have ad:=hd e (Ax ..);have aa:∀x∈q,xG x<=d:=(by grind);rw[pv,Bu];by_cases w:nj e=true
  .rw[ahP w];have ae:∀x∈e.args,xG x<=d:=λx hx=>by have h1:=nH e;have h2:=wF e.args x hx;omega
   refine(OF d n (q++e.args) l (by grind[T8]) (by grind)).trans ?_;grind[yS2,List.Perm.append_left,List.perm_append_comm]
  .rw[ahO w];refine(OF d n q (l++[e]) om aa).trans ?_;rw[xe1 w,Cb]
theorem T9(hs:gR st):(lQ st).Perm (if st.cz=true then lA 4000 st.bU else[]):=by
 unfold lQ;split;.have:=OF 4000 4096 [st.bU] [] (by have:=hs.bU.size;grind[j6]) (λe he=>by rw[Cu]at he;subst he;exact Gd 4000 _ hs.bU.size);grind
 rfl
theorem Ua(st:bQ):jU st=(if st.cz=true then lA 4000 st.bU else[]).flatMap ml:=by unfold jU n9 mm;grind
theorem Ub{b:aij}(h:Op.bytesLess a b):Op.bytesLess b a=false:=by cases q:Op.bytesLess b a with|false=>rfl|true=>grind[tY,vi]
theorem Ud(x y:aij):eS x y=eS y x:=by unfold eS;rcases xu x y with h|h|h;all_goals simp_all[Ub]
theorem xy9(x y:aij):iq x y=iq y x:=by unfold iq;rcases xu x y with h|h|h;all_goals simp_all[Ub]
theorem wc2(x a b:aij):eS (eS x a) b=eS (eS x b) a:=by
 by_cases h1:Op.bytesLess x a=true<;>by_cases h2:Op.bytesLess x b=true;.rw[show eS x a=a by simp_all[eS],show eS x b=b by simp_all[eS]];grind[Ud]
 .rw[show eS x a=a by simp_all[eS],show eS x b=x by simp_all[eS],show eS x a=a by simp_all[eS]];unfold eS;rw[ahO (by grind[tY])]
 .rw[show eS x a=x by simp_all[eS],show eS x b=b by simp_all[eS]];unfold eS;rw[ahO (by grind[tY])]
 simp_all[eS]
theorem wn9{x:aij}(h:Op.bytesLess x a=true\/x=a):iq x a=x:=by simp_all[iq]
theorem wo0{x:aij}(h:¬(Op.bytesLess x a=true\/x=a)):iq x a=a/\Op.bytesLess a x=true:=by refine⟨by simp_all[iq],?_⟩;grind[xu]
theorem wc4(x a b:aij):iq (iq x a) b=iq (iq x b) a:=by by_cases h1:Op.bytesLess x a=true\/x=a<;>by_cases h2:Op.bytesLess x b=true\/x=b;all_goals grind[wn9,wo0,tY,xy9]
def ub(n:Nat)(t:Int)(name:aij)(b:aij×aij)(e:bG):aij×aij:=match lu e name with|none=>b|some (s,v)=>jT (np n t v) s b
def H6(n:Nat)(t:Int)(name:aij)(b:aij×aij)(c:dW):aij×aij:=if c.name=name then jT (np n t c.v) c.sign b else b
theorem xc2(A s:aij):∃f g:aij->aij,((f=λx=>x)\/∃a,f=λx=>eS x a)/\((g=λx=>x)\/∃a,g=λx=>iq x a)/\∀b,jT A s b=(f b.1,g b.2):=by
 unfold jT;by_cases h1:s=[61];.exact⟨_,_,.inr ⟨A,rfl⟩,.inr ⟨A++[0],rfl⟩,(by grind)⟩
 by_cases h2:s=[60];.exact⟨_,_,.inl rfl,.inr ⟨A,rfl⟩,(by grind)⟩
 by_cases h3:s=[60,61];.exact⟨_,_,.inl rfl,.inr ⟨A++[0],rfl⟩,(by grind)⟩
 by_cases h4:s=[62];.exact⟨_,_,.inr ⟨A++[0],rfl⟩,.inl rfl,(by grind)⟩
 by_cases h5:s=[62,61];.exact⟨_,_,.inr ⟨A,rfl⟩,.inl rfl,(by grind)⟩
 simp_all
theorem Ue(n:Nat)(t:Int)(name:aij)(e:bG):∃f g:aij->aij,((f=λx=>x)\/∃a,f=λx=>eS x a)/\((g=λx=>x)\/∃a,g=λx=>iq x a)/\∀b,ub n t name b e=(f b.1,g b.2):=by unfold ub;cases lu e name with|none=>simp|some p=>exact xc2 _ _
theorem xT5(n:Nat)(t:Int)(name:aij)(b:aij×aij)(e1 e2:bG):ub n t name (ub n t name b e1) e2=ub n t name (ub n t name b e2) e1:=by
 obtain⟨f1,g1,aa,ab,h1⟩:=Ue n t name e1;obtain⟨f2,g2,ad,ae,h2⟩:=Ue n t name e2;rw[h1,h2,h2,h1];simp only[ai1];constructor;.rcases aa with rfl|⟨a1,rfl⟩<;>rcases ad with rfl|⟨a2,rfl⟩<;>first|rfl|exact wc2 _ _ _
 .rcases ab with rfl|⟨a1,rfl⟩<;>rcases ae with rfl|⟨a2,rfl⟩<;>first|rfl|exact wc4 _ _ _
theorem xd4(f:I->J->I)(hf:∀b x y,f (f b x) y=f (f b y) x){l l':List J}(h:l.Perm l'):∀b,l.foldl f b=l'.foldl f b:=by induction h<;>grind
theorem xc1{A s:aij}(h:eU.contains s=false)(b:aij×aij):jT A s b=b:=by simp_all[eU,jT]
theorem yZ1{s:aij}(h:eU.contains s=false):uN s=s:=by simp_all[eU,uN]
theorem Uf(e:bG)(name:aij):(eU.contains e.s=true->lu e name=((ml e).find? λc=>c.name==name).map λc=>(c.sign,c.v))/\(eU.contains e.s=false->ml e=[]/\∀s v,lu e name=some (s,v)->s=e.s):=by
 unfold lu ml;constructor;.grind
 .intro hc;constructor;.grind
  .intro s v h;split at h
   .split at h;.grind[yZ1]
    grind
   grind
theorem xv5(f:I->dW->I)(name:aij)(e:bG)(b:I)(hf:∀b c,¬c.name=name->f b c=b):(ml e).foldl f b=match(ml e).find? λc=>c.name==name with|none=>b|some c=>f b c:=by have hl:=KG e;match ml e,hl with |[],_=>rfl|[c],_=>grind
theorem wf3(n:Nat)(t:Int)(name:aij)(e:bG)(b:aij×aij):(ml e).foldl (H6 n t name) b=ub n t name b e:=by
 obtain⟨h1,h2⟩:=Uf e name;by_cases hc:eU.contains e.s=true;.rw[xv5 (H6 n t name) name e b (by simp_all[H6])];unfold ub;rw[h1 hc];cases hf:(ml e).find? λc=>c.name==name with |none=>rfl|some c=>
   have hn:c.name=name:=by grind
   simp_all[H6]
 .have hc:eU.contains e.s=false:=by grind
  obtain⟨h3,h4⟩:=h2 hc;rw[h3];unfold ub;cases ha:lu e name with|none=>rfl|some p=>obtain⟨s,v⟩:=p;simp only;rw[h4 s v ha,xc1 hc];rfl
theorem Ug{J I γ:Type}(f:γ->I->γ)(g:J->List I):∀(l:List J)(b:γ),(l.flatMap g).foldl f b=l.foldl (λb a=>(g a).foldl f b) b|[],_=>rfl|x::l,b=>by rw[Bu,Bv,Ap,Ug f g l]
theorem xZ1(n:Nat)(t:Int)(name:aij)(hs:gR st)(b:aij×aij):tZ n t name (jU st) b=va n t name (lQ st) b:=by have h1:va n t name (lQ st) b=(lQ st).foldl (ub n t name) b:=rfl;have h2:tZ n t name (jU st) b=(jU st).foldl (H6 n t name) b:=rfl;rw[h1,h2,xd4 (ub n t name) (by grind[xT5]) (T9 hs),Ua,Ug];congr 1;simp[wf3]
theorem xu8(hs:gR st)(t:Int):Gi bI t (jU st)=mR bI t st:=by
 unfold Gi mR;split;.cases(bI[t.toNat]?).bind xg with|none=>rfl|some name=>grind[xZ1,Ud]
 .rfl
def H7(r:Int)(e:bG):Bool:=match lu e [82]with|none=>true|some (s,v)=>!(s==[61]&&(v.kind==2&&!(v.n==r)))
theorem KH:∀(l:List bG)(rs:aim),ku l rs=rs.filter λr=>l.all (H7 r)
 |[],rs=>(De.2 sm).symm|e::l,rs=>by
  have ih:=KH l;have h:ku (e::l) rs=ku l (match lu e [82]with|none=>rs|some (s,v)=>if s=[61]/\v.kind=2then lv v.n rs else rs):=rfl;rw[h,ih];have h2:(match lu e [82]with|none=>rs|some (s,v)=>if s=[61]/\v.kind=2then lv v.n rs else rs)=rs.filter (H7 · e):=by unfold H7;cases lu e [82]with |none=>exact(De.2 sm).symm|some p=>
    obtain⟨s,v⟩:=p;simp only;by_cases q:s=[61]/\v.kind=2;.rw[ahP q];unfold lv;grind
    .rw[ahO q];refine(De.2 λr _=>?_).symm;grind
  simp_all[Bool.and_comm]
theorem xx1(e:bG)(r:Int):((ml e).all λc=>!(c.name==[82]&&(c.sign==[61]&&(c.v.kind==2&&!(c.v.n==r)))))=H7 r e:=by
 obtain⟨h1,h2⟩:=Uf e [82];unfold H7;by_cases hc:eU.contains e.s=true;.rw[h1 hc];have hl:=KG e;match ml e,hl with |[],_=>rfl|[c],_=>by_cases h:c.name=[82];all_goals grind
 .have hc:eU.contains e.s=false:=by grind
  obtain⟨h3,h4⟩:=h2 hc;rw[h3];cases ha:lu e [82]with |none=>rfl|some p=>
   obtain⟨s,v⟩:=p;simp only;rw[h4 s v ha];have:(e.s==[61])=false:=by
    have h:¬e.s=[61]/\¬e.s=[60]/\¬e.s=[60,61]/\¬e.s=[62]/\¬e.s=[62,61]:=by simpa[eU]using hc
    grind
   grind
theorem xE4(p:J->Bool){l l':List J}(h:l.Perm l'):l.all p=l'.all p:=by grind
theorem yD5(p:I->Bool)(g:J->List I):∀l:List J,(l.flatMap g).all p=l.all λa=>(g a).all p|[]=>rfl|x::l=>by simp
theorem xg9(hs:gR st)(t:Int):Gj t (jU st)=wE t st:=by
 unfold Gj wE;split;.rw[KH];refine aie λr _=>?_;rw[xE4 _ (T9 hs)];unfold xw;rw[Ua,yD5];congr 1;funext e;grind[xx1]
 .rfl
def xy(tn:Nat)(row:List bF):Int:=if tn=0then(row.getD 0 zeroV).n else if tn=1then-1 else 1
theorem OG(t:bH)(row:List bF)(hr:row.length<=maxLen):Pure prog 47 [.agg t.row,.sl .ro (row.map bF.row)] (.int .i64 (dS t.bP row)):=by
 obtain⟨name,bP,key,place,region,kW⟩:=t;refine iV 0 func47 ntmps47 results47 λc hc hb=>?_;refine zA ?_;have ret:∀(r:Int)(U:St),r=dS bP row->bW (some (.int .i64 r)) 0 (λr s=>r=.int .i64 (dS bP row)/\s=[]) U:=λr U h=>by subst h;exact wR
 simp[go_sem];refine zO (λh=>?_) (λh=>?_)
 .have h:row.length≠bP.length:=by simp at h;omega
  simp[go_sem];exact ret _ _ (by rw[dS,ahP h])
 have h:row.length=bP.length:=by simp at h;omega
 rw[dS,ahO om]at ret⊢;simp[go_sem];refine zG (S:=Nat) [1,2,5] (λi=>[.sl .ro (row.map bF.row),.ptr 0 0,.int .i64 i]) (λ_=>[.box (bH.row ⟨name,bP,key,place,region,kW⟩)]) (λi=>row.length-i) (λi=>i<=row.length/\tU (bP.drop i) (row.drop i)=tU bP row) hc hb 0 ⟨A3 _,rfl⟩ ?_ ?_;.exact aN 1 rfl
 rintro i⟨hi,hinv⟩;refine zA ?_;simp[go_sem];refine zO (λq=>?_) (λq=>?_)
 .have q:i<row.length:=sU q;have q2:i<bP.length:=om;have ei:=zR q (by unfold maxLen at hr;omega);rw[A2 q,A2 q2]at hinv;obtain⟨⟨k,n,s⟩,hv⟩:∃v,row[i]=v:=⟨_,rfl⟩;obtain⟨⟨cn,ck,cb⟩,ab⟩:∃v,bP[i]=v:=⟨_,rfl⟩;rw[hv,ab,tU]at hinv;simp only at hinv;simp[go_sem,q,hv];refine pC (F4 ⟨k,n,s⟩) ?_;simp[go_sem];refine zO (λh1=>?_) (λh1=>?_);.have h1:dw ⟨k,n,s⟩=false:=sU h1;rw[ahP h1]at hinv;simp[go_sem];exact ret _ _ hinv
  have h1:¬dw ⟨k,n,s⟩=false:=sU h1;rw[ahO h1]at hinv;simp[go_sem,q,hv];refine yA (λh2=>?_) (λh2=>?_)
  .have aa:k=0:=sU h2;simp[go_sem,h2,q2,ab];refine zO (λh3=>?_) (λh3=>?_);.have h3:cb=false:=sU h3;rw[ahP ⟨aa,h3⟩]at hinv;simp[go_sem];exact ret _ _ hinv
   have h3:¬cb=false:=sU h3;rw[ahO (λw=>h3 w.2),ahO (λw=>w.1 aa)]at hinv;simp[go_sem];refine yB [] 1 rfl kR kR ?_;simp[go_sem,aa,q,hv,ei];exact zH (i+1) ⟨om,⟨q,hinv⟩,aN 1 rfl⟩
  .have aa:¬k=0:=sU h2;rw[ahO (λw=>aa w.1)]at hinv;simp[go_sem,h2];refine yB [] 1 rfl kR kR ?_;have ad:(k !=0)=true:=sU aa;simp[go_sem,ad,q,hv,q2,ab];refine zO (λh4=>?_) (λh4=>?_);.have h4:¬k=ck:=sU h4;rw[ahP ⟨aa,h4⟩]at hinv;simp[go_sem];exact ret _ _ hinv
   have h4:k=ck:=sU h4;rw[ahO (λw=>w.2 h4)]at hinv;simp[go_sem,ei];exact zH (i+1) ⟨om,⟨q,hinv⟩,aN 1 rfl⟩
 .have q:¬i<row.length:=sU q;have ae:i=row.length:=om;have e:row.drop i=[]:=A4 om;rw[e]at hinv;simp[go_sem];exact ret _ _ (by rw[<-hinv];cases List.drop i bP<;>rfl)
theorem Uh(t r:Int)(h:(t=0/\(r=0\/r=1))\/(t=1/\r=0)\/(t=2/\r=0)):Pure prog 49 [cA bI,.int .i64 t,.int .i64 r] (Ew (wY t r)):=by rcases h with⟨rfl,rfl|rfl⟩|⟨rfl,rfl⟩|⟨rfl,rfl⟩;all_goals exact pf nU wV marks 10000 kR
theorem xA7(i:Int)(h0:0<=i)(h4:i<4):Pure prog 48 [cA bI,.int .i64 i] (.bool (decide (i<2))):=by have h:i=0\/i=1\/i=2\/i=3:=om;rcases h with rfl|rfl|rfl|rfl;all_goals exact pf nU wV marks 10000 kR
def eK(tn:Nat)(T:bH)(row:List bF):Int×aij×Int:=if dS T.bP row≠0then(0,[],dS T.bP row)else if tn=0/\¬((row.getD 0 zeroV).n=0\/(row.getD 0 zeroV).n=1)then(0,[],19)else((wY tn (xy tn row)).1,np 3 tn (row.getD T.key.toNat zeroV),0)
theorem Ui(tn:Nat)(T:bH)(hT:bI[tn]?=some T)(row:List bF)(hr:row.length<=maxLen)(hv:∀v∈row,v.ok):Pure prog 24 [cA bI,.int .i64 tn,.sl .ro (row.map bF.row)] (k9 (eK tn T row)):=by
 obtain⟨an,ax⟩:=A5.1 hT;have h3:tn<3:=an;obtain⟨a6,a7⟩:=(by decide:∀T∈bI,0<=T.key/\T.key<T.bP.length) T (ax▸A7 an);have ak:=OG T row hr;have ay:=HP yL (bI.map bH.row) tn;have hlen:=λh=>vh (bP:=T.bP) (row:=row) h;generalize aa:eK tn T row=res;unfold eK at aa;generalize dS T.bP row=m at ak hlen aa;have ao:T.place=0↔tn=0:=by match tn,h3 with |0,_=>cases hT;decide|1,_=>cases hT;decide|2,_=>cases hT;decide
 refine iV 0 func24 ntmps24 results24 λc hc hb=>?_;refine zA ?_;simp[go_sem,cA];refine zJ ay cB (zK sm rfl) rfl ?_;simp[go_sem,an,ax];refine zJ ak cB (zK sg rfl) rfl ?_;by_cases w0:m=0;rotate_left;.have ag:(m !=0)=true:=sU w0;rw[ahP w0]at aa;simp[go_sem,ag];exact tX aa.symm
 have ag:(m !=0)=false:=sU w0;rw[ahO (λh=>h w0)]at aa;have hl:=hlen w0;obtain⟨q,hq⟩:∃q:Nat,T.key=q:=⟨T.key.toNat,om⟩;have ah:q<row.length:=om;have ab:0<row.length:=om;obtain⟨kv,ai⟩:∃v,row[q]=v:=⟨_,rfl⟩;obtain⟨v0,ad⟩:∃v,row[0]=v:=⟨_,rfl⟩;have e2:row.getD T.key.toNat zeroV=kv:=by rw[hq,Ai,A9,A0 ah,ai];rfl
 have e0:row.getD 0 zeroV=v0:=by rw[A9,A0 ab,ad];rfl
 have aj:=SP yL (bI.map bH.row) tn kv dc (hv kv (ai▸A7 ah));rw[show(bI.map bH.row).length=3from rfl]at aj;have al:xy tn row=if tn=0then v0.n else if tn=1then-1 else 1:=by unfold xy;rw[e0]
 rw[e2,e0]at aa;generalize np 3 tn kv=bd at aj aa;obtain⟨pl,ae⟩:=eX T.place;rw[ae]at ao;by_cases wp:pl=0;rotate_left
 .have aq:(pl==0)=false:=sU wp;have af:¬tn=0:=λh=>wp (ao.2 h);rw[ahO (λh=>af h.1)]at aa;have ar:=Uh tn 0 om;have az:(wY tn 0).1=(wY tn (xy tn row)).1:=by match tn,h3,af with |1,_,_=>rfl|2,_,_=>rfl
  rw[<-az]at aa;simp[go_sem,ag,ae,aq];refine zJ ar cB (zK (by simp[go_sem,cA]) rfl) rfl ?_;simp[go_sem,Ew];refine zW [(8,0)] 2 sm kR kR ?_;simp[go_sem,hq,ah,ai];refine yF aj cB (λ_=>zK sg rfl) rfl ?_;simp[go_sem];exact tX aa.symm
 have aq:(pl==0)=true:=sU wp;have af:tn=0:=ao.1 wp;rw[ahP af]at al;have bad:¬(v0.n=0\/v0.n=1)->(0,[],19)=res:=λh=>by rw[ahP ⟨af,h⟩]at aa;exact aa
 have cN:(v0.n=0\/v0.n=1)->((wY tn v0.n).1,bd,0)=res:=λh=>by rw[ahO (λg=>g.2 h),al]at aa;exact aa
 clear aa;simp[go_sem,ag,ae,aq];refine zW [(18,0)] 2 sm kR kR ?_;simp[go_sem,ab,ad];by_cases c1:v0.n<0;.have au:decide (v0.n<0)=true:=ahR c1;simp[go_sem,au];exact tX (bad om).symm
 have au:decide (v0.n<0)=false:=ahQ c1;simp[go_sem,au,ab,ad];by_cases c2:4<=v0.n;.have av:decide (4<=v0.n)=true:=ahR c2;simp[go_sem,av];exact tX (bad om).symm
 have av:decide (4<=v0.n)=false:=ahQ c2;simp[go_sem,av,ab,ad];refine yF (xA7 v0.n om om) cB (λ_=>zK (by simp[go_sem,cA]) rfl) rfl ?_;by_cases c3:v0.n<2;rotate_left;.have aw:decide (v0.n<2)=false:=ahQ c3;simp[go_sem,aw];exact tX (bad om).symm
 have aw:decide (v0.n<2)=true:=ahR c3;have a1:=cN om;have ar:=Uh tn v0.n om;simp[go_sem,aw,ab,ad];refine zJ ar cB (zK (by simp[go_sem,cA]) rfl) rfl ?_;simp[go_sem,Ew];refine zW [(8,0)] 2 sm kR kR ?_;simp[go_sem,hq,ah,ai];refine yF aj cB (λ_=>zK sg rfl) rfl ?_;simp[go_sem];exact tX a1.symm
end Go.Proofs.YtefbicjgbaaieaaGreat
namespace Go.Proofs.YtefbicjgbaaieaaGreat
open Go Go.Vx Go.Proofs.Tryz
set_option maxRecDepth 100000
variable {J:Type}
abbrev Pl:=Int×aij
def gT(p:Pl):V:=.agg [.int .i64 p.1,.str p.2]
abbrev uc:Kk:= .st [.i .i64,.s]
def gb{J:Type}(g:J->V):List (Pl×J)->List V|[]=>[]|e::W=>gT e.1::g e.2::gb g W
structure Mp(J:Type)where
 W:List (Pl×J)bs:aik
 cM:Nat
def Mp.ob(g:J->V)(m:Mp J):Ob:=.mp (gb g m.W) m.bs m.cM
structure Mp.ok{J:Type}(m:Mp J):Prop where
 len:m.bs.length=m.W.length
 nd:m.bs.Nodup
 lt:∀b∈m.bs,b<m.cM
 keys:(m.W.map (·.1)).Nodup
def vj (J:Type):Mp J:=⟨[],[],0⟩
theorem Uj(J:Type):(vj J).ok:=⟨rfl,C5,λb hb=>(by cases hb),C5⟩
def dI{J:Type}(p:Pl):List (Pl×J)->Option (Nat×J) |[]=>none|e::W=>if e.1=p then some (0,e.2)else(dI p W).map λq=>(q.1+1,q.2)
def Mp.at(m:Mp J)(p:Pl):Option (Nat×J):=dI p m.W
def Mp.get(m:Mp J)(p:Pl):Option J:=(m.at p).map (·.2)
def Mp.put(m:Mp J)(p:Pl)(v:J):Mp J:=match m.at p with |some (i,_)=>⟨m.W.set i (p,v),m.bs,m.cM⟩|none=>⟨m.W++[(p,v)],m.bs++[m.cM],m.cM+1⟩
def Mp.del(m:Mp J)(p:Pl):Mp J:=match m.at p with |some (i,_)=>⟨m.W.eraseIdx i,m.bs.eraseIdx i,m.cM⟩|none=>m
theorem OH(p q:Pl):kS uc (gT p) (gT q)=some (decide (p=q)):=by obtain⟨a,b⟩:=p;obtain⟨c,d⟩:=q;simp only[kS,gT,lG,jJ,and_self,ai0,An,Bi,D3,ahT];grind
theorem Uk(p:Pl):nf uc (gT p)=true:=by rfl
section
variable {J:Type} {g:J->V}
variable{m:Mp J}{p:Pl}{U:St}{z:J}{i:Nat}{r:Int}{k:aij}
theorem OI(p:Pl):∀(W:List (Pl×J))(i:Nat),oC uc (gT p) (gb g W) i=some ((dI p W).map λq=>(i+q.1,g q.2))
 |[],_=>rfl|e::W,i=>by
  rw[gb,oC,OH,dI];by_cases h:e.1=p;.grind
  .rw[ahO h];have:decide (p=e.1)=false:=(by grind);rw[this];simp only;rw[OI p W (i+1)];cases dI p W<;>grind
theorem Um(m:Mp J)(p:Pl):oC uc (gT p) (gb g m.W) 0=some ((m.at p).map λq=>(q.1,g q.2)):=by grind[OI,Mp.at]
theorem xz{p:Pl}{i:Nat}{v:J}:∀{W:List (Pl×J)},dI p W=some (i,v)->W[i]?=some (p,v)
 |[],h=>by trivial|e::W,h=>by
  rw[dI]at h;by_cases q:e.1=p;.grind
  .rw[ahO q]at h;simp only[Ar,ai1]at h;obtain⟨⟨j,u⟩,h1,rfl,rfl⟩:=h;simpa using xz h1
theorem KI{p:Pl}:∀{W:List (Pl×J)},dI p W=none->∀e∈W,e.1≠p
 |[],_,e,he=>by cases he|e::W,h,x,hx=>by
  rw[dI]at h;by_cases q:e.1=p;.grind
  .rw[ahO q]at h;simp only[Option.map_eq_none_iff]at h;rcases Ag.1 hx with rfl|hx;.exact q
   .exact KI h x hx
theorem Un{p:Pl}{v:J}:∀{W:List (Pl×J)},(W.map (·.1)).Nodup->(p,v)∈W->∃i,dI p W=some (i,v)
 |[],_,h=>by cases h|e::W,hn,h=>by
  rw[Ad,Bk]at hn;rw[dI];rcases Ag.1 h with rfl|h;.simp
  .have:e.1≠p:=(by grind);obtain⟨i,hi⟩:=Un hn.2 h;grind
theorem Mp.get_mem(hm:m.ok){v:J}:m.get p=some v↔(p,v)∈m.W:=by
 constructor;.intro h;unfold Mp.get Mp.at at h;rw[Ar]at h;obtain⟨⟨i,u⟩,h1,rfl⟩:=h;exact B9 (xz h1)
 .intro h;obtain⟨i,hi⟩:=Un hm.keys h;unfold Mp.get Mp.at;grind
theorem Uo(W:List (Pl×J))(p:Pl)(v:J):gb g W++[gT p,g v]=gb g (W++[(p,v)]):=by induction W with|nil=>rfl|cons e W ih=>rw[gb,Bg,Bg,ih];rfl
theorem Up(p:Pl)(v:J):∀(W:List (Pl×J))(i:Nat),qv (gb g W) i (gT p) (g v)=gb g (W.set i (p,v))
 |[],i=>by rfl|e::W,0=>by rfl|e::W,i+1=>by have ih:=Up p v W i;unfold qv at ih⊢;rw[show 2*(i+1)=2*i+1+1by omega,gb];simp only[Bz];rw[ih];rfl
theorem OJ(v:J):∀(W:List (Pl×J))(i:Nat)(p:Pl)(u:J),W[i]?=some (p,u)->(gb g W).set (2*i+1) (g v)=gb g (W.set i (p,v))
 |[],i,_,_,h=>by rfl|e::W,0,p,u,h=>by grind[gb]|e::W,i+1,p,u,h=>by have ih:=OJ v W i p u (sU h);rw[show 2*(i+1)+1=2*i+1+1+1by omega,gb];simp only[Bz];rw[ih];rfl
theorem Uq:∀(W:List (Pl×J))(i:Nat),i<W.length->y9 (gb g W) i=gb g (W.eraseIdx i)
 |[],i,h=>by grind|e::W,0,_=>by rfl|e::W,i+1,h=>by have ih:=Uq W i (sU h);unfold y9 at ih⊢;rw[show 2*(i+1)=2*i+1+1by omega,show 2*i+1+1+2=2*i+2+1+1by omega,gb];simp only[C3,Cx,Bg];rw[ih];rfl
theorem KJ{z:V}{id:Nat}(cD:U[id]?=some (m.ob g))(p:Pl)(ok:Bool):wI (some (uc,z)) U (.mp id) (gT p) ok=.ok (match m.get p with |some v=>if ok then .cm [g v,.bool true]else g v|none=>if ok then .cm [z,.bool false]else z):=by unfold wI;simp only[Uk,ai0,cD,Mp.ob,Um];unfold Mp.get;cases m.at p<;>rfl
def Mp.mV{J:Type}(m:Mp J)(p:Pl)(z:J):Mp J:=match m.at p with|some _=>m|none=>⟨m.W++[(p,z)],m.bs++[m.cM],m.cM+1⟩
def Mp.dX{J:Type}(m:Mp J)(p:Pl):Nat:=match m.at p with |some (i,_)=>m.bs.getD i 0|none=>m.cM
theorem Ur{id:Nat}(hm:m.ok)(cD:U[id]?=some (m.ob g))(p:Pl):wN (some (uc,g z)) U (.mp id) (gT p)=(match m.at p with |some (_,v)=>.ok (.cm [g v,.int .i64 (m.dX p:Int)])|none=>.st (.cm [g z,.int .i64 (m.dX p:Int)]) (U.set id ((m.mV p z).ob g))):=by unfold wN Mp.dX Mp.mV;simp only[Uk,ai0,cD,Mp.ob,Um];cases h:m.at p with |none=>grind[Uo]|some q=>
  have:=(A5.1 (xz (W:=m.W) (i:=q.1) (v:=q.2) h)).1;have hb:m.bs[q.1]?=some (m.bs.getD q.1 0):=by rw[A9,A0 (by rw[hm.len];omega)];rfl
  grind
theorem Us{bs:aik}(hn:bs.Nodup){b:Nat}(h:bs[i]?=some b):bs.findIdx? (λ(x:Nat)=>((x:Int)==(b:Int)))=some i:=by obtain⟨hi,rfl⟩:=A5.1 h;rw[List.findIdx?_eq_some_iff_getElem];refine⟨hi,sm,λj hj=>?_⟩;intro q;rw[ahX]at q;grind[List.getElem_inj]
theorem Ut{id:Nat}(hm:m.ok)(hg:∀v,nu (g v))(p:Pl)(cD:U[id]?=some ((m.mV p z).ob g))(v:J):wB U (.mp id) (.int .i64 (m.dX p:Int)) (g v)=.st .u (U.set id ((m.put p v).ob g)):=by unfold wB;simp only[hg,ai0,cD];unfold Mp.ob Mp.mV Mp.dX Mp.put;cases h:m.at p with
 |none=>
  have hf:(m.bs++[m.cM]).findIdx? (λ(b:Nat)=>((b:Int)==(m.cM:Int)))=some m.W.length:=by
   refine Us ?_ ?_;.rw[Dc];refine⟨hm.nd,sm,λa ha b hb=>?_⟩;have:=hm.lt a ha;grind
   .rw[<-hm.len];simp
  grind[OJ]|some q=>
  have h1:=xz (W:=m.W) (i:=q.1) (v:=q.2) h;have hl:=(A5.1 h1).1;have hb:m.bs[q.1]?=some (m.bs.getD q.1 0):=by rw[A9,A0 (by rw[hm.len];exact hl)];rfl
  simp only[Us hm.nd hb];grind[OJ]
theorem Mp.my(hm:m.ok)(p:Pl)(z:J):(m.mV p z).ok:=by unfold Mp.mV;cases h:m.at p with |some q=>exact hm|none=>
  refine⟨by simp[hm.len],?_,λb hb=>?_,?_⟩;.rw[Dc];refine⟨hm.nd,sm,λa ha b hb=>?_⟩;have:=hm.lt a ha;grind
  .rcases Ak.1 hb with hb|hb;.have:=hm.lt b hb;grind
   grind
  .rw[Da,Dc];refine⟨hm.keys,sm,λa ha b hb=>?_⟩;obtain⟨e,he,rfl⟩:=Aa.1 ha;simp at hb;subst hb;exact KI h e he
theorem Mp.lg(hm:m.ok)(p:Pl)(v:J):(m.put p v).ok:=by unfold Mp.put;cases h:m.at p with
 |some q=>
  have h1:=xz (W:=m.W) (i:=q.1) (v:=q.2) h;have:((m.W.set q.1 (p,v)).map (·.1))=m.W.map (·.1):=by rw[E1];exact yQ _ _ _ (by grind)
  exact⟨by simp[hm.len],hm.nd,hm.lt,by rw[this];exact hm.keys⟩|none=>have:=Mp.my hm p v;unfold Mp.mV at this;grind
theorem Mp.EA(hm:m.ok)(p:Pl):(m.del p).ok:=by unfold Mp.del;cases h:m.at p with
 |some q=>
  refine⟨?_,ahY (by grind) hm.nd,λb hb=>hm.lt b (List.mem_of_mem_eraseIdx hb),?_⟩;.simp only[List.length_eraseIdx,hm.len]
  .exact ahY (by grind) hm.keys|none=>exact hm
theorem Mp.ud{q:Nat×J}(h:m.at p=some q):m.mV p z=m:=by grind[Mp.mV]
theorem KK{p:Pl}{v:J}:∀{W:List (Pl×J)},dI p W=none->dI p (W++[(p,v)])=some (W.length,v)
 |[],_=>by simp[dI]|e::W,h=>by
  rw[dI]at h;by_cases q:e.1=p;.grind
  .rw[ahO q,Option.map_eq_none_iff]at h;rw[Bg,dI,ahO q,KK h];rfl
theorem Mp.x5(h:m.at p=none):(m.mV p z).get p=some z:=by unfold Mp.get Mp.at Mp.mV;rw[h];simp only;unfold Mp.at at h;rw[KK h];rfl
theorem Mp.get_none(h:m.at p=none):m.get p=none:=by unfold Mp.get;grind
theorem Mp.get_some{v:J}(h:m.at p=some (i,v)):m.get p=some v:=by unfold Mp.get;grind
theorem xI0{md:Option (Kk×V)}(hz:md=some (uc,g z))(h:m.at p=none):wI md [(m.mV p z).ob g] (.mp 0) (gT p) false=wI md [m.ob g] (.mp 0) (gT p) false:=by subst hz;rw[KJ (m:=m.mV p z) rfl,KJ (m:=m) rfl,Mp.x5 h,Mp.get_none h];rfl
theorem Uu{p:Pl}{v u:J}:∀{W:List (Pl×J)}{i:Nat},dI p W=some (i,u)->dI p (W.set i (p,v))=some (i,v)
 |[],_,h=>by trivial|e::W,i,h=>by
  rw[dI]at h;by_cases q:e.1=p;.rw[ahP q]at h;simp only[ahT,ai1]at h;obtain⟨rfl,rfl⟩:=h;rw[Cg,dI,ahP rfl]
  .rw[ahO q,Ar]at h;obtain⟨⟨j,w⟩,h1,h2⟩:=h;simp only[ai1]at h2;obtain⟨rfl,rfl⟩:=h2;rw[Bz,dI,ahO q,Uu h1];rfl
theorem Mp.ue(m:Mp J)(p:Pl)(v:J):∃i,dI p (m.put p v).W=some (i,v):=by unfold Mp.put;cases h:m.at p with |none=>exact⟨_,KK h⟩|some q=>exact⟨q.1,Uu (u:=q.2) h⟩
theorem pE{W:List (Pl×J)}:oC (.st [.i .i64,.s]) (.agg [.int .i64 r,.str k]) (gb g W) 0=some ((dI (r,k) W).map λq=>(q.1,g q.2)):=by show oC uc (gT (r,k)) (gb g W) 0=_;simp[OI]
theorem Uv{id:Nat}(hm:m.ok)(cD:U[id]?=some (m.ob g))(h:m.at p=none):wN (some (uc,g z)) U (.mp id) (gT p)=.st (.cm [g z,.int .i64 (m.dX p:Int)]) (U.set id ((m.mV p z).ob g)):=by have:=Ur hm (z:=z) cD p;grind
theorem xH9{id:Nat}(hm:m.ok){v:J}(cD:U[id]?=some (m.ob g))(h:m.at p=some (i,v)):wN (some (uc,g z)) U (.mp id) (gT p)=.ok (.cm [g v,.int .i64 (m.dX p:Int)]):=by have:=Ur hm (z:=z) cD p;grind
theorem Uw{id:Nat}{m:Mp Int}(hm:m.ok)(h:m.at (r,k)=none)(cD:U[id]?=some (m.ob (V.int .i64))):wN (some (.st [.i .i64,.s],.int .i64 0)) U (.mp id) (.agg [.int .i64 r,.str k])=.st (.cm [.int .i64 0,.int .i64 (m.dX (r,k):Int)]) (U.set id ((m.mV (r,k) 0).ob (V.int .i64))):=Uv (g:=V.int .i64) hm (z:=0) cD h
theorem Ux{id:Nat}{m:Mp Int}{v:Int}(hm:m.ok)(h:m.at (r,k)=some (i,v))(cD:U[id]?=some (m.ob (V.int .i64))):wN (some (.st [.i .i64,.s],.int .i64 0)) U (.mp id) (.agg [.int .i64 r,.str k])=.ok (.cm [.int .i64 v,.int .i64 (m.dX (r,k):Int)]):=xH9 (g:=V.int .i64) hm (z:=0) cD h
theorem KL{id:Nat}{m:Mp aij}(hm:m.ok)(h:m.at (r,k)=none)(cD:U[id]?=some (m.ob V.str)):wN (some (.st [.i .i64,.s],.str [])) U (.mp id) (.agg [.int .i64 r,.str k])=.st (.cm [.str [],.int .i64 (m.dX (r,k):Int)]) (U.set id ((m.mV (r,k) []).ob V.str)):=Uv (g:=V.str) hm (z:=[]) cD h
theorem Uy{id:Nat}{m:Mp Int}{v:Int}(hm:m.ok)(cD:U[id]?=some ((m.mV p 0).ob (V.int .i64))):wB U (.mp id) (.int .i64 (m.dX p:Int)) (.int .i64 v)=.st .u (U.set id ((m.put p v).ob (V.int .i64))):=Ut (g:=V.int .i64) hm (λ_=>rfl) p cD v
theorem KM{id:Nat}{m:Mp aij}{v:aij}(hm:m.ok)(cD:U[id]?=some ((m.mV p []).ob V.str)):wB U (.mp id) (.int .i64 (m.dX p:Int)) (.str v)=.st .u (U.set id ((m.put p v).ob V.str)):=Ut (g:=V.str) hm (λ_=>rfl) p cD v
theorem yE7{id:Nat}{m:Mp Int}{q:Nat×Int}{v:Int}(hm:m.ok)(h:m.at p=some q)(cD:U[id]?=some (m.ob (V.int .i64))):wB U (.mp id) (.int .i64 (m.dX p:Int)) (.int .i64 v)=.st .u (U.set id ((m.put p v).ob (V.int .i64))):=(by grind[Uy,Mp.ud])
end
end Go.Proofs.YtefbicjgbaaieaaGreat
namespace Go.Proofs.YtefbicjgbaaieaaGreat
open Go Go.Vx R Go.Proofs.Tryz
set_option maxRecDepth 100000
structure Ln where
 r:Int
 k:aij
 v:List bF
variable{J:Type}{b:Mp aij}{W:List (Pl×J)}{bs:aik}{p:Pl}{seen:aik}
@[go_sem]def Ln.row(x:Ln):List V:=[.int .i64 x.r,.str x.k,.sl .ro (x.v.map bF.row)]
def Ln.at (x:Ln):Pl:=(x.r,x.k)
def yZ(a b:Pl):Bool:=decide (a.1<b.1)||(decide (a.1=b.1)&&Op.bytesLess a.2 b.2)
theorem KN(a:Pl):yZ a a=false:=by simp[yZ,vi]
theorem H8{a b c:Pl}(h:yZ a b)(g:yZ b c):yZ a c=true:=by
 simp only[yZ,Ce,A8,ahS]at h g⊢;rcases h with h|⟨h,h'⟩<;>rcases g with g|⟨g,g'⟩;.exact .inl om
 .exact .inl om
 .exact .inl om
 .exact .inr ⟨om,tY _ _ _ h' g'⟩
theorem H9(a b:Pl):yZ a b=true\/a=b\/yZ b a=true:=by
 simp only[yZ,Ce,A8,ahS];rcases aif a.1 b.1with h|h|h;.exact .inl (.inl h)
 .rcases xu a.2 b.2with g|g|g;.exact .inl (.inr ⟨h,g⟩)
  .exact .inr (.inl (aih h g))
  .exact .inr (.inr (.inr ⟨h.symm,g⟩))
 .exact .inr (.inr (.inl h))
theorem Uz{a b:Pl}(h:yZ a b):yZ b a=false:=by
 cases q:yZ b a;.rfl
 .have:=H8 h q;rw[KN]at this;cases this
def gv(l:List Pl):Prop:=l.Pairwise λa b=>yZ a b=true
def oc(l:List Ln)(x:Ln):List Ln:=l.takeWhile (λy=>yZ y.at x.at)++x::l.dropWhile (λy=>yZ y.at x.at)
def fT(l:List Ln)(p:Pl):Bool:=l.any λx=>x.at==p
def mn(t:Int)(st:bQ)(x:Ln):Bool:=(wE t st).any (λg=>(wY t g).1==x.r)&&(!Op.bytesLess x.k (mR bI t st).1&&Op.bytesLess x.k (mR bI t st).2)
def oL(T:bH)(st:bQ):List Ln->List Ln->List Ln×Int|acc,[]=>(acc,0)|acc,x::l=>if(fN T x.v st.bU).2≠0then([],(fN T x.v st.bU).2)else oL T st (if vg (fN T x.v st.bU).1=true then acc++[x]else acc) l
def fb(t:Int)(T:bH)(st:bQ)(l:List Ln):List Ln×Int:=if st.cz=true then oL T st [] (l.filter (mn t st))else(l.filter (mn t st),0)
def dJ(T:bH)(row:List bF):List bG->List bF->List bF×Int |[],acc=>(acc,0)|e::l,acc=>if(fN T row e).2≠0then([],(fN T row e).2)else dJ T row l (acc++[(fN T row e).1])
def fy(t:Nat)(T:bH):List (List bG)->List Ln->List Ln×Int |[],l=>(l,0)|r::rs,l=>if(dJ eC [] r []).2≠0then([],(dJ eC [] r []).2)else if(eK t T (dJ eC [] r []).1).2.2≠0then([],(eK t T (dJ eC [] r []).1).2.2)else if fT l ((eK t T (dJ eC [] r []).1).1,(eK t T (dJ eC [] r []).1).2.1)=true then([],18)else fy t T rs (oc l ⟨(eK t T (dJ eC [] r []).1).1,(eK t T (dJ eC [] r []).1).2.1,(dJ eC [] r []).1⟩)
def fH(T:bH)(oM:List bF):List bX->List bF->List bF×Int |[],row=>(row,0)|x::l,row=>if(fN T oM x.e).2≠0then([],(fN T oM x.e).2)else fH T oM l (row.set (cq T x.name).toNat (fN T oM x.e).1)
def fB(l:List Ln)(p:Pl)(row:List bF):List Ln:=l.map λy=>if y.at=p then⟨y.r,y.k,row⟩else y
def gh(T:bH)(cp:List bX):List Ln->List Ln->List Ln×Int |[],l=>(l,0)|x::m,l=>if(fH T x.v cp x.v).2≠0then([],(fH T x.v cp x.v).2)else if dS T.bP (fH T x.v cp x.v).1≠0then([],dS T.bP (fH T x.v cp x.v).1)else gh T cp m (fB l x.at (fH T x.v cp x.v).1)
def ja:List Ln->List Ln->List Ln|[],l=>l|x::m,l=>ja m (l.filter λy=>!decide (y.at=x.at))
def sG(items:List cJ):Bool:=items.any λx=>x.kind==3||x.kind==4
def jb(T:bH)(e:bG):List Ln->bF->bF×Int |[],acc=>(acc,0)|x::l,acc=>if(fN T x.v e).2≠0then(zeroV,(fN T x.v e).2)else if(fN T x.v e).1.kind=0then jb T e l acc else if(dL (acc.n+(fN T x.v e).1.n)).2≠0then(zeroV,(dL (acc.n+(fN T x.v e).1.n)).2)else jb T e l ⟨2,(dL (acc.n+(fN T x.v e).1.n)).1,[]⟩
def lB(T:bH)(l:List Ln):List cJ->List bF->List bF×Int |[],acc=>(acc,0)|x::xs,acc=>if x.kind=4then(if(jb T x.e l zeroV).2≠0then([],(jb T x.e l zeroV).2)else lB T l xs (acc++[(jb T x.e l zeroV).1]))else lB T l xs (acc++[⟨2,l.length,[]⟩])
def oh(gt:Ln->Bool)(out:List Ln)(x:Ln):List Ln:=(out.reverse.dropWhile gt).reverse++x::(out.reverse.takeWhile gt).reverse
def kB(c:Nat)(down:Bool)(x y:Ln):Int:=if down=true then-(fw (x.v.getD c zeroV) (y.v.getD c zeroV))else fw (x.v.getD c zeroV) (y.v.getD c zeroV)
def nq(c:Nat)(down:Bool)(l:List Ln):List Ln:=l.foldl (λout x=>oh (λy=>decide (0<kB c down y x)) out x) []
def kC(cG:Int)(l:List Ln):List Ln:=if 0<=cG then l.take cG.toNat else l
def mW(T:bH)(items:List cJ):List Ln->List (List bF)->List (List bF)×Int |[],acc=>(acc,0)|x::l,acc=>if(items.head?.map (·.kind))=some 1then mW T items l (acc++[x.v])else if(dJ T x.v (items.map (·.e)) []).2≠0then([],(dJ T x.v (items.map (·.e)) []).2)else mW T items l (acc++[(dJ T x.v (items.map (·.e)) []).1])
structure Ot where
 count:Int
 rows:List (List bF)
def Ot.row(x:Ot):List V:=[.sl .ro (x.rows.map λr=>[.sl .ro (r.map bF.row)]),.int .i64 x.count]
def jz(T:bH)(st:bQ)(l:List Ln):Ot×Int:=if sG st.items=true then(if(lB T l st.items []).2≠0then(⟨0,[]⟩,(lB T l st.items []).2)else(⟨0,[(lB T l st.items []).1]⟩,0))else let m:=kC st.cG (if 0<=cq T st.order then nq (cq T st.order).toNat st.down l else l)
  if(mW T st.items m []).2≠0then(⟨0,[]⟩,(mW T st.items m []).2)else(⟨0,(mW T st.items m []).1⟩,0)
def kM(st:bQ)(l:List Ln):Ot×List Ln×Int:=let t:=(ir st.table).toNat
 let T:=bI.getD t eC
 if st.kind=2then(if(fy t T st.rows l).2≠0then(⟨0,[]⟩,[],(fy t T st.rows l).2)else(⟨st.rows.length,[]⟩,(fy t T st.rows l).1,0))else if(fb t T st l).2≠0then(⟨0,[]⟩,[],(fb t T st l).2)else if st.kind=1then((jz T st (fb t T st l).1).1,l,(jz T st (fb t T st l).1).2)else if st.kind=3then(if(gh T st.cp (fb t T st l).1 l).2≠0then(⟨0,[]⟩,[],(gh T st.cp (fb t T st l).1 l).2)else(⟨(fb t T st l).1.length,[]⟩,(gh T st.cp (fb t T st l).1 l).1,0))else(⟨(fb t T st l).1.length,[]⟩,ja (fb t T st l).1 l,0)
def kD:List bQ->Nat->List Ot->List Ln->(Int×Int×List Ot)×List Ln|[],_,acc,l=>((0,0,acc),l)|x::ss,i,acc,l=>if(kM x l).2.2≠0then(((kM x l).2.2,(i:Int),[]),[])else kD ss (i+1) (acc++[(kM x l).1]) (kM x l).2.1
def ee(df:dR)(l:List Ln):(Int×Int×List Ot)×List Ln:=if(mh df).2≠0then(((mh df).2,(mh df).1,[]),l)else if(kD df.stmts 0 [] l).1.1≠0then((kD df.stmts 0 [] l).1,l)else kD df.stmts 0 [] l
structure Wr where
 p:Pl
 drop:Bool
 data:aij
def gi(l:List Wr)(w:Wr):List Wr:=l.takeWhile (λy=>yZ y.p w.p)++w::l.dropWhile (λy=>yZ y.p w.p)
def gj(dy now:List Ln):List Wr:=(now.filter λx=>!(dy.any λy=>decide (y.at=x.at)&&decide (yK y.v=yK x.v))).foldl (λl x=>gi l ⟨x.at,false,yK x.v⟩) ((dy.filter λx=>!fT now x.at).foldl (λl x=>gi l ⟨x.at,true,[]⟩) [])
theorem xM3(x y:Ln):Pure prog 192 [.agg x.row,.agg y.row] (.bool (yZ x.at y.at)):=by
 obtain⟨B,hB⟩:=eX (Op.bytesLess x.k y.k);have hM:yZ x.at y.at=(decide (x.r<y.r)||(decide (x.r=y.r)&&B)):=by rw[<-hB];rfl
 rw[hM];obtain⟨xr,xk,xv⟩:=x;obtain⟨yr,yk,yv⟩:=y;simp only at hB⊢;refine iW 0 func192 ntmps192 results192 λc hc hb=>zM ?_;simp[go_sem,Ln.row];by_cases h1:xr<yr;.simp[go_sem,h1];exact wR
 .by_cases h2:xr=yr;.subst h2;simp[go_sem,hB];exact wR
  .have aa:(xr==yr)=false:=sU h2;simp[go_sem,h1,h2,aa];exact wR
def uf(p:Pl)(x:Ln):Bool:=(x.r==p.1)&&(x.k==p.2)
theorem p9{x:Ln}:uf p x=true↔x.at=p:=by unfold uf;simp only[A8,ahX];exact⟨λh=>aih h.1 h.2,λh=>by subst h;exact⟨rfl,rfl⟩⟩
theorem OK(l:List Ln)(p:Pl)(hl:l.length<=maxLen):Pure prog 130 [.sl .ro (l.map Ln.row),.int .i64 p.1,.str p.2] (.int .i64 (xE (uf p) l 0)):=by
 obtain⟨r,k⟩:=p;generalize hM:xE (uf (r,k)) l 0=M;have ret:∀(m:Int)(U:St),m=M->bW (some (.int .i64 m)) 0 (λr s=>r=.int .i64 M/\s=[]) U:=λm U h=>by subst h;exact wR
 refine iV 0 func130 ntmps130 results130 λc hc hb=>?_;refine zA ?_;simp[go_sem];refine zG (S:=Nat) [0,1,2,7] (λi=>[.sl .ro (l.map Ln.row),.int .i64 r,.str k,.int .i64 i]) (λ_=>[]) (λi=>l.length-i) (λi=>i<=l.length/\xE (uf (r,k)) (l.drop i) i=M) hc hb 0 ⟨A3 _,hM⟩ ?_ ?_;.exact aO
 rintro i⟨hi,hinv⟩;by_cases q:i<l.length;rotate_left;.rw[Bj om,xE]at hinv;refine zA ?_;simp[go_sem,q];exact ret _ _ hinv
 have ei:=zR q (by unfold maxLen at hl;omega);obtain⟨x,hx⟩:=eX (l[i]);rw[A2 q,hx,xE]at hinv;have aa:uf (r,k) x=((x.r==r)&&(x.k==k)):=rfl;rw[aa]at hinv;refine(A1 (x.r==r)).elim (λw=>?_) (λw=>?_);rotate_left;.rw[ahO (by rw[w];simp)]at hinv;refine zA ?_;simp[go_sem,q,hx,w,ei];exact zH (i+1) ⟨by show l.length-(i+1)<l.length-i;omega,⟨q,hinv⟩,aO⟩
 refine(A1 (x.k==k)).elim (λw2=>?_) (λw2=>?_);.rw[ahP (by rw[w,w2];rfl)]at hinv;refine zA ?_;simp[go_sem,q,hx,w,w2];exact ret _ _ hinv
 .rw[ahO (by rw[w,w2];decide)]at hinv;refine zA ?_;simp[go_sem,q,hx,w,w2,ei];exact zH (i+1) ⟨by show l.length-(i+1)<l.length-i;omega,⟨q,hinv⟩,aO⟩
theorem xK4(l:aim)(g:Int)(hl:l.length<=maxLen):Pure prog 196 [.sl .ro (l.map yG),.int .i64 g] (.bool (l.any λx=>x==g)):=by
 generalize hM:(l.any λx=>x==g)=M;have ret:∀(m:Bool)(U:St),m=M->bW (some (.bool m)) 0 (λr s=>r=.bool M/\s=[]) U:=λm U h=>by subst h;exact wR
 refine iV 0 func196 ntmps196 results196 λc hc hb=>?_;refine zA ?_;simp[go_sem];refine zG (S:=Nat) [0,1,5] (λi=>[.sl .ro (l.map yG),.int .i64 g,.int .i64 i]) (λ_=>[]) (λi=>l.length-i) (λi=>i<=l.length/\((l.drop i).any λx=>x==g)=M) hc hb 0 ⟨A3 _,hM⟩ ?_ ?_;.exact aO
 rintro i⟨hi,hinv⟩;by_cases q:i<l.length;rotate_left;.rw[Bj om,aii]at hinv;refine zA ?_;simp[go_sem,q];exact ret _ _ hinv
 have ei:=zR q (by unfold maxLen at hl;omega);obtain⟨x,hx⟩:=eX (l[i]);rw[A2 q,hx,Bx]at hinv;refine(A1 (x==g)).elim (λw=>?_) (λw=>?_);.rw[w,Cd]at hinv;refine zA ?_;simp[go_sem,q,hx,yG,w];exact ret _ _ hinv
 .rw[w,Bf]at hinv;refine zA ?_;simp[go_sem,q,hx,yG,w,ei];exact zH (i+1) ⟨by show l.length-(i+1)<l.length-i;omega,⟨q,hinv⟩,aO⟩
theorem UA(l:List aij)(g:aij)(hl:l.length<=maxLen):Pure prog 123 [.sl .ro (l.map λx=>[V.str x]),.str g] (.bool (l.any λx=>x==g)):=by
 generalize hM:(l.any λx=>x==g)=M;have ret:∀(m:Bool)(U:St),m=M->bW (some (.bool m)) 0 (λr s=>r=.bool M/\s=[]) U:=λm U h=>by subst h;exact wR
 refine iV 0 func123 ntmps123 results123 λc hc hb=>?_;refine zA ?_;simp[go_sem];refine zG (S:=Nat) [0,1,5] (λi=>[.sl .ro (l.map λx=>[V.str x]),.str g,.int .i64 i]) (λ_=>[]) (λi=>l.length-i) (λi=>i<=l.length/\((l.drop i).any λx=>x==g)=M) hc hb 0 ⟨A3 _,hM⟩ ?_ ?_;.exact aO
 rintro i⟨hi,hinv⟩;by_cases q:i<l.length;rotate_left;.rw[Bj om,aii]at hinv;refine zA ?_;simp[go_sem,q];exact ret _ _ hinv
 have ei:=zR q (by unfold maxLen at hl;omega);obtain⟨x,hx⟩:=eX (l[i]);rw[A2 q,hx,Bx]at hinv;refine(A1 (x==g)).elim (λw=>?_) (λw=>?_);.rw[w,Cd]at hinv;refine zA ?_;simp[go_sem,q,hx,w];exact ret _ _ hinv
 .rw[w,Bf]at hinv;refine zA ?_;simp[go_sem,q,hx,w,ei];exact zH (i+1) ⟨by show l.length-(i+1)<l.length-i;omega,⟨q,hinv⟩,aO⟩
theorem Gk{bP:List eG}{row:List bF}(hc:bP.length<=20)(hv:∀v∈row,v.ok)(h:dS bP row=0):il row:=by have hl:=vh h;refine⟨om,λv aa=>?_,hv⟩;rcases Oy (TT h v aa)with⟨_,_,h3⟩|⟨_,_,h3⟩|⟨_,h3⟩|⟨_,_,h3⟩;all_goals grind
theorem xw7(tn:Nat)(T:bH)(hT:bI[tn]?=some T)(row:List bF):tW 3 tn T row (wY tn)=eK tn T row:=by
 unfold tW eK;by_cases h:dS T.bP row≠0;.rw[ahP h,ahP h]
 .rw[ahO h,ahO h];have hl:=vh (Classical.not_not.1 h);have e0:row.headD v0=row.getD 0 zeroV:=by cases row<;>rfl
  rw[e0];have ev:v0=zeroV:=rfl;rw[ev];obtain⟨aa,ab⟩:=A5.1 hT;have h3:tn<3:=aa;unfold xy wY;generalize row.getD 0 zeroV=x;match tn,h3 with
  |0,_=>
   have hp:T.place=0:=by cases hT;decide
   simp only[hp,ai0,true_and];by_cases q0:x.n=0;.simp[q0,show min (max (0:Int) (-1)) 4=0 by decide]
   .by_cases q1:x.n=1;.simp[q1,show min (max (1:Int) (-1)) 4=1by decide]
    .have n0:¬min (max x.n (-1)) 4=0:=om;have n1:¬min (max x.n (-1)) 4=1:=om;simp[q0,q1,n0,n1]|1,_=>
   have hp:¬T.place=0:=by cases hT;decide
   simp|2,_=>
   have hp:¬T.place=0:=by cases hT;decide
   simp
theorem UB(tn:Nat)(T:bH)(hT:bI[tn]?=some T)(row:List bF)(hr:row.length<=maxLen)(hv:∀v∈row,v.ok):Pure prog 88 [cA bI,.int .i64 tn,.sl .ro (row.map bF.row)] (k9 (eK tn T row)):=by
 obtain⟨aa,ab⟩:=A5.1 hT;have hk:=(by decide:∀T∈bI,0<=T.key/\T.key<T.bP.length/\T.bP.length<=20) T (by grind);rw[<-xw7 tn T hT row];exact xD8 yL bI tn aa T ab row hr (Gk hk.2.2 hv) dc om (wY tn) λr h1 h2 h3=>by have ad:tn<3:=aa;exact SU tn r om om
def fI:Ob:=.box [.sl .ro yL,.sl .ro (bI.map bH.row),.mp 0,.mp 1,.mp 2]
def cT(a b:Mp aij)(c:Mp Int):St:=[a.ob .str,b.ob .str,c.ob (V.int .i64),fI]
theorem UC{J:Type}{g:J->V}(hg:∀v,l8 0 (g v))(n:Nat):∀W:List (Pl×J),(gb g W).all (l8 n)=true
 |[]=>rfl|e::W=>by rw[gb,Aq,Aq,UC hg n W,QY om (hg e.2)];rfl
theorem UD{g:J->V}(hg:∀v,l8 0 (g v))(n:Nat)(m:Mp J):bO n (m.ob g)=true:=UC hg n m.W
theorem wK(n:Nat)(h:3<=n)(a b:Mp aij)(c:Mp Int):(cT a b c).all (bO n)=true:=by have h0:decide (0<n)=true:=(by grind);have h1:decide (1<n)=true:=(by grind);have h2:decide (2<n)=true:=(by grind);simp only[cT,Aq,Cs,D3,UD (g:=V.str) (λ_=>rfl),UD (g:=V.int .i64) (λ_=>rfl),Ah];simp_all[fI,bO,cH,cF]
def lT(c:Mp Int)(p:Pl):Int:=(c.get p).getD 0
def lC(gU:Int)(key data:aij):Bool:=decide ((dY gU).2.2=0)&&(decide ((eO bI (dY gU).1 data).2=0)&&decide (eK (dY gU).1.toNat (bI.getD (dY gU).1.toNat eC) (eO bI (dY gU).1 data).1=(gU,key,0)))
def rJ(m:Mp aij×Mp aij×Mp Int):St:=cT m.1 m.2.1 m.2.2
abbrev M3:=Mp aij×Mp aij×Mp Int
def BH(p:Pl)(data:aij)(m:M3):M3:=if lT m.2.2 p=0/\lC p.1 p.2 data=true then(m.1.put p data,m.2.1.put p data,m.2.2.put p (lT m.2.2 p+1))else(m.1,m.2.1,m.2.2.put p (lT m.2.2 p+1))
theorem xX0{u:Nat}(h:u<18446744073709551616):-9223372036854775808<=ju u/\ju u<=9223372036854775807:=by grind[ju]
theorem UE:(v0:bF).ok:=⟨dc,dc,dc⟩
theorem OL{k n:Int}{s:aij}(h1:-9223372036854775808<=k/\k<=9223372036854775807)(h2:-9223372036854775808<=n/\n<=9223372036854775807)(h3:s.length<=maxLen):(bF.mk k n s).ok:=⟨h1,h2,h3⟩
theorem xC5:∀b:aij,(kJ b).v.ok
 |[]=>UE|c::rest=>by grind[kJ,jh,UE,pz,OL,xX0,F6,maxLen]
theorem UF:∀(n:Nat)(b:aij)(l:List bF),fX n b=some l->l.length=n/\∀v∈l,v.ok
 |0,b,l,h=>by rw[fX]at h;grind|n+1,b,l,h=>by
  rw[fX]at h;split at h;.rw[Ar]at h;obtain⟨l',h1,rfl⟩:=h;obtain⟨h2,h3⟩:=UF n _ l' h1;refine⟨by grind,λv hv=>?_⟩;rcases Ag.1 hv with rfl|hv;all_goals grind[xC5]
  grind
theorem OM(t:Nat)(data:aij):(eO bI t data).1.length<=maxLen/\∀v∈(eO bI t data).1,v.ok:=by
 have h0:([]:List bF).length<=maxLen/\∀v∈([]:List bF),v.ok:=sm;unfold eO;split
 .rename_i h;have hc:=(by decide:∀T∈bI,T.bP.length<=maxLen) (bI[(t:Int).toNat]'om) sm;unfold R.iU;split;.unfold rD;grind[UF]
  omega
 omega
theorem wr1(g:Nat)(hg:g<1000)(key data:aij)(hd:data.length<=cu)(a b:Mp aij)(sn:Mp Int)(ha:a.ok)(ah:b.ok)(hs:sn.ok)(az:sn.at (g,key)=none->a.at (g,key)=none/\b.at (g,key)=none)(au:∀i v,sn.at (g,key)=some (i,v)->1<=v/\v<=1000000):bL prog 41 [.ptr 3 0,.int .i64 g,.agg [.str key,.str data]] (cT a b sn) (λr s=>r=.cm []/\s=rJ (BH (g,key) data (a,b,sn))):=by
 obtain⟨M,hM⟩:=eX (BH (g,key) data (a,b,sn));rw[hM];have ret:∀(a' b':Mp aij)(ai:Mp Int)(Ul:St),M=(a',b',ai)->bW (some (.cm [])) 4 (λr s=>r=.cm []/\s=rJ M) (a'.ob .str::b'.ob .str::ai.ob (V.int .i64)::.box [.sl .ro yL,.sl .ro (bI.map bH.row),.mp 0,.mp 1,.mp 2]::Ul):=λa' b' ai Ul h=>by subst h;exact wC 4 rfl rfl (wK 4 dc a' b' ai) om (zD rfl) (by trivial)
 have a1:=HQ g hg;refine iV 4 func41 ntmps41 results41 λc hc hb=>?_;refine zA ?_;simp[go_sem,cT,fI];refine pC a1 ?_;simp[go_sem,mg];obtain⟨ob,an⟩:∃ob:Ob->R,ob=λo=>wI (some (uc,.int .i64 0)) [o] (.mp 0) (gT (g,key)) false:=⟨_,rfl⟩;obtain⟨k1,av⟩:=eX (lT sn (g,key));cases aa:sn.at (g,key)with
 |none=>
  have ad:=Mp.get_none aa;have ae:k1=0:=by rw[<-av];unfold lT;grind
  subst ae;refine MW [(5,1),(7,3)] ⟨0,6,[2],some (2,ob)⟩ sm (by rfl) kR ?_;simp[go_sem];refine Rk (kv:=gT (g,key)) (id:=2) (n0:=⟨0,6,[2],some (2,ob)⟩) (by rfl) (by rfl) Tryz.pZ an rfl sm (KJ (m:=sn) rfl (g,key) false) ?_;simp[go_sem,ad];refine JQ ?_ ?_;.simp[go_sem,Uw hs aa];refine⟨sm,λ_=>.inr ?_⟩;exact Kp.z8 (k:=⟨0,6,[2],some (2,ob)⟩) (U:=[a.ob .str,b.ob .str,sn.ob (V.int .i64),fI,.box [.str key,.str data],.box [.int .i64 g,.str key]]) (id:=2) (o:=sn.ob (V.int .i64)) (o':=(sn.mV (g,key) 0).ob (V.int .i64)) rfl rfl (λq hq _=>by cases hq;rw[an];first|done|exact xI0 rfl aa)
  simp[go_sem,Uw hs aa,Uy hs];obtain⟨i1,ao⟩:=Mp.ue sn (g,key) 1;by_cases he:(dY g).2.2=0;rotate_left
  .have ab:((dY g).2.2!=0)=true:=by grind
   refine yB [] 6 sm (by rfl) kR ?_;simp[go_sem,ab];exact ret a b _ _ (by grind[BH,lC])
  have ab:((dY g).2.2!=0)=false:=by grind
  have e1:(sn.put (g,key) 1).ob (V.int .i64)=.mp (gb (V.int .i64) (sn.put (g,key) 1).W) (sn.put (g,key) 1).bs (sn.put (g,key) 1).cM:=rfl;refine yB [] 6 sm (by rfl) kR ?_;simp[go_sem,ab,e1,pE,ao,lI,l6];rw[<-e1];obtain⟨aw,ax⟩:=az aa;obtain⟨tn,T,a6,hT⟩:∃(tn:Nat)(T:bH),(dY g).1=(tn:Int)/\bI[tn]?=some T:=by
   unfold dY at he⊢;split at he<;>rename_i q0;.rw[ahP q0];exact⟨0,_,rfl,rfl⟩
   .rw[ahO q0];split at he<;>rename_i q1;.rw[ahP q1];exact⟨0,_,rfl,rfl⟩
    .rw[ahO q1];split at he<;>rename_i q2;.rw[ahP q2];exact⟨1,_,rfl,rfl⟩
     .rw[ahO q2];split at he<;>rename_i q3;.rw[ahP q3];exact⟨2,_,rfl,rfl⟩
      grind
  have aD:bI.getD tn eC=T:=by grind
  have ak:=SG yL bI tn data hd dc;have af:=OM tn data;obtain⟨rf,a7⟩:=eX (eO bI tn data);rw[a7]at ak af;have al:=UB tn T hT rf.1 af.1 af.2;obtain⟨ks,a8⟩:=eX (eK tn T rf.1);rw[a8]at al;have aA:lC g key data=(decide (rf.2=0)&&decide (ks=(((g:Nat):Int),key,0))):=by grind[lC]
  have aB:M=if lC g key data=true then(a.put (g,key) data,b.put (g,key) data,sn.put (g,key) 1)else(a,b,sn.put (g,key) 1):=by grind[BH]
  rw[aA]at aB;obtain⟨kr,kk,ke⟩:=ks;refine zA ?_;refine yB [(7,0)] 6 sm (by rfl) kR ?_;simp[go_sem,a6];refine pD ak ?_;simp[go_sem,jv];by_cases r0:rf.2=0;rotate_left
  .have aq:(rf.2!=0)=true:=by grind
   simp[go_sem,aq];exact ret a b _ _ (by grind)
  have aq:(rf.2!=0)=false:=by grind
  simp[go_sem,aq];refine pC al ?_;simp[go_sem,k9];by_cases k0:ke=0;rotate_left
  .have ag:(ke==0)=false:=by grind
   simp[go_sem,ag];exact ret a b _ _ (by grind)
  have ag:(ke==0)=true:=by grind
  by_cases k2:kr=((g:Nat):Int);rotate_left
  .have aj:(kr==((g:Nat):Int))=false:=by grind
   simp[go_sem,ag,aj];exact ret a b _ _ (by grind)
  have aj:(kr==((g:Nat):Int))=true:=by grind
  by_cases k3:kk=key;rotate_left
  .have ar:(kk==key)=false:=by grind
   simp[go_sem,ag,aj,ar];exact ret a b _ _ (by grind)
  have ar:(kk==key)=true:=by grind
  simp[go_sem,ag,aj,ar];refine MW [(14,3),(16,3),(17,3),(19,3)] ⟨0,6,[0,1],none⟩ sm (by rfl) kR ?_;simp[go_sem];have keep:∀(τ:St)(i:Nat)(o o':Ob),([0,1]:aik).contains i=true->τ[i]?=some o->Kp.of ⟨0,6,[0,1],none⟩ (τ.set i o')=Kp.of ⟨0,6,[0,1],none⟩ τ:=(by grind[Kp.z8]);refine JQ ?_ ?_;.simp[go_sem,KL ha aw];refine⟨sm,λ_=>.inr ?_⟩;rfl
  simp[go_sem,KL ha aw];refine Ri ?_ ?_;.simp[go_sem,KM ha];refine⟨sm,λ_=>.inr ?_⟩;rfl
  simp[go_sem,KM ha];refine JQ ?_ ?_;.simp[go_sem,KL ah ax];refine⟨sm,λ_=>.inr ?_⟩;rfl
  simp[go_sem,KL ah ax];refine Ri ?_ ?_;.simp[go_sem,KM ah];refine⟨sm,λ_=>.inr ?_⟩;rfl
  simp[go_sem,KM ah];exact ret (a.put (g,key) data) (b.put (g,key) data) _ _ (by grind)|some q=>
  obtain⟨i,v⟩:=q;obtain⟨aE,aF⟩:=au i v aa;have ad:=Mp.get_some aa;have ae:k1=v:=by rw[<-av];unfold lT;grind
  subst ae;have aC:IntKind.i64.wrap (k1+1)=k1+1:=(by grind[bR]);have ay:M=(a,b,sn.put (g,key) (k1+1)):=by rw[<-hM];unfold BH;grind
  refine MW [(5,1),(7,3)] ⟨0,6,[2],some (2,ob)⟩ sm (by rfl) kR ?_;simp[go_sem];refine Rk (kv:=gT (g,key)) (id:=2) (n0:=⟨0,6,[2],some (2,ob)⟩) (by rfl) (by rfl) Tryz.pZ an rfl sm (KJ (m:=sn) rfl (g,key) false) ?_;simp[go_sem,ad,aC];refine JQ ?_ ?_;.simp[go_sem,Ux hs aa];trivial
  simp[go_sem,Ux hs aa,yE7 hs aa];obtain⟨i1,ao⟩:=Mp.ue sn (g,key) (k1+1);by_cases he:(dY g).2.2=0;rotate_left
  .have ab:((dY g).2.2!=0)=true:=by grind
   refine yB [] 6 sm (by rfl) kR ?_;simp[go_sem,ab];exact ret a b _ _ ay
  have ab:((dY g).2.2!=0)=false:=by grind
  have e1:(sn.put (g,key) (k1+1)).ob (V.int .i64)=.mp (gb (V.int .i64) (sn.put (g,key) (k1+1)).W) (sn.put (g,key) (k1+1)).bs (sn.put (g,key) (k1+1)).cM:=rfl;have h1:decide (k1+1>1)=true:=(by grind);have aG:decide (1<k1+1)=true:=om;refine yB [] 6 sm (by rfl) kR ?_;simp[go_sem,ab,e1,pE,ao,lI,l6,h1];exact ret a b _ _ ay
structure eP(x:Ln):Prop where
 jl:∃(tn:Nat)(T:bH),(dY x.r).1=(tn:Int)/\bI[tn]?=some T/\dS T.bP x.v=0
 err:(dY x.r).2.2=0
 ok:∀v∈x.v,v.ok
structure cE(b:Mp aij)(l:List Ln):Prop where
 ok:b.ok
 fY:gv (l.map Ln.at)perm:b.W.Perm (l.map λx=>(x.at,yK x.v))rows:∀x∈l,eP x
theorem gv.nodup{l:List Pl}(h:gv l):l.Nodup:=h.imp (by grind[KN])
theorem x6(l:List Ln)(x:Ln):(oc l x).Perm (x::l):=by grind[oc,B5,Dg]
theorem fj{l:List Ln}:fT l p=true↔p∈l.map Ln.at:=by grind[fT]
theorem UG{p:Pl}:∀{l:List Ln},gv (l.map Ln.at)->p∉l.map Ln.at->∀y∈l.dropWhile (λy=>yZ y.at p),yZ p y.at=true
 |[],_,_,y,hy=>by simp_all|z::l,hr,hn,y,hy=>by
  unfold gv at hr;rw[Ad,C8]at hr;rw[aia]at hy;by_cases q:yZ z.at p=true;.rw[ahP q]at hy;exact UG (l:=l) hr.2 (by grind) y hy
  .rw[ahO q]at hy;have hz:yZ p z.at:=by grind[H9]
   rcases Ag.1 hy with rfl|hy;.exact hz
   .exact H8 hz (by grind)
theorem ON{J:Type}{p:J->Bool}:∀{l:List J},∀y∈l.takeWhile p,p y=true
 |[],y,hy=>by simp_all|z::l,y,hy=>by
  rw[Cy]at hy;by_cases q:p z=true
  .rw[ahP q]at hy;rcases Ag.1 hy with rfl|hy;.exact q
   .exact ON (l:=l) y hy
  grind
theorem xk3{l:List Ln}{x:Ln}(h:gv (l.map Ln.at))(hn:fT l x.at=false):gv ((oc l x).map Ln.at):=by
 have aa:x.at∉l.map Ln.at:=λq=>by rw[fj.2 q]at hn;cases hn
 have hd:=UG h aa;have ht:∀y∈l.takeWhile (λy:Ln=>yZ y.at x.at),yZ y.at x.at=true:=ON;have hl:=B5 (p:=λy:Ln=>yZ y.at x.at) (l:=l);unfold oc;rw[<-hl]at h;revert hd ht h;generalize l.takeWhile (λy:Ln=>yZ y.at x.at)=t;generalize l.dropWhile (λy:Ln=>yZ y.at x.at)=d;intro h hd ht;unfold gv at h⊢;rw[Da,By]at h;rw[Da,Ad,By,C8];grind
theorem cE.gI{l:List Ln}(h:cE b l):b.at p=none↔fT l p=false:=by
 constructor;.intro q;cases r:fT l p with |false=>rfl|true=>obtain⟨x,hx,he⟩:=Aa.1 (fj.1 r);have:(p,yK x.v)∈b.W:=h.perm.mem_iff.2 (by grind);exact absurd rfl (KI q _ this)
 .intro q;cases r:b.at p with|none=>rfl|some w=>have hm:(p,w.2)∈b.W:=B9 (xz (W:=b.W) (i:=w.1) (v:=w.2) r);obtain⟨x,hx,he⟩:=Aa.1 (h.perm.mem_iff.1 hm);have:x.at=p:=(by grind);rw[fj.2 (by grind)]at q;cases q
theorem cE.ins{l:List Ln}(h:cE b l){x:Ln}(hx:eP x)(hn:fT l x.at=false):cE (b.put x.at (yK x.v)) (oc l x):=by
 have hb:=h.gI.2 hn;refine⟨Mp.lg h.ok _ _,xk3 h.fY hn,?_,λy hy=>?_⟩
 .have e:(b.put x.at (yK x.v)).W=b.W++[(x.at,yK x.v)]:=by grind[Mp.put]
  rw[e];have h1:=((x6 l x).map λx:Ln=>(x.at,yK x.v)).symm;refine List.Perm.trans ?_ h1;rw[Ad];exact(List.perm_append_singleton _ _).trans (h.perm.cons _)
 .rcases Ag.1 ((x6 l x).mem_iff.1 hy)with rfl|hy;.exact hx
  .exact h.rows y hy
theorem Ia:∀(r:List bG)(acc:List bF),(∀e∈r,jS e)->(∀v∈acc,v.ok)->(dJ eC [] r acc).2=0->(dJ eC [] r acc).1.length=acc.length+r.length/\∀v∈(dJ eC [] r acc).1,v.ok
 |[],acc,_,ha,_=>⟨rfl,ha⟩|e::r,acc,he,ha,h=>by
  rw[dJ]at h⊢;by_cases q:(fN eC [] e).2=0
  .rw[ahO (λh=>h q)]at h⊢;have hv:(fN eC [] e).1.ok:=by have:=wm1 (he e sm) (by rw[<-OC];exact q);rw[OC];exact(wr5 this).1
   have ih:=Ia r (acc++[(fN eC [] e).1]) (λx hx=>he x (by simp[hx])) (λv aa=>by
    rcases Ak.1 aa with h|h;.exact ha v h
    .simp at h;subst h;exact hv) h;exact⟨by rw[ih.1];simp;omega,ih.2⟩
  .rw[ahP q]at h;exact absurd h q
def di:List V:=[.sl .full [],.int .i64 0]
def Ib(a:Mp aij)(sn:Mp Int)(OO:Int)(M:List Ln×Int)(r:V)(s:St):Prop:=∃(b':Mp aij),s=cT a b' sn/\((M.2≠0/\r=.cm [.agg (Ot.row ⟨0,[]⟩),.int .i64 M.2])\/(M.2=0/\r=.cm [.agg (Ot.row ⟨OO,[]⟩),.int .i64 0]/\cE b' M.1))
theorem xP6{r:Int}{k d:aij}(h:b.at (r,k)=none):Ob.mp (gb V.str b.W++[.agg [.int .i64 r,.str k],.str d]) (b.bs++[b.cM]) (b.cM+1)=(b.put (r,k) d).ob V.str:=by unfold Mp.put Mp.ob;rw[h];show _=Ob.mp (gb V.str (b.W++[((r,k),d)])) _ _;rw[<-Uo];rfl
theorem KO(tn:Nat)(T:bH)(hT:bI[tn]?=some T)(row:List bF)(h:(eK tn T row).2.2=0):dS T.bP row=0/\(dY (eK tn T row).1).1=(tn:Int)/\(dY (eK tn T row).1).2.2=0:=by
 obtain⟨aa,_⟩:=A5.1 hT;have h3:tn<3:=aa;unfold eK at h⊢;by_cases h1:dS T.bP row≠0;.rw[ahP h1]at h;exact absurd h h1
 .rw[ahO h1]at h⊢;refine⟨Classical.not_not.1 h1,?_⟩;unfold xy;generalize row.getD 0 zeroV=x at h⊢;match tn,h3 with
  |0,_=>
   by_cases h2:x.n=0\/x.n=1
   .rw[ahO (λq=>q.2 h2)];rcases h2 with h2|h2;.simp[wY,dY,h2]
    .simp[wY,dY,h2]
   .rw[ahP ⟨rfl,h2⟩]at h;cases h|1,_=>simp[wY,dY]|2,_=>simp[wY,dY]
theorem yX1(tn:Nat)(T:bH)(hT:bI[tn]?=some T)(st:bQ)(a1:gR st)(a b:Mp aij)(sn:Mp Int)(l:List Ln)(au:cE b l):bL prog 89 [.ptr 3 0,.int .i64 tn,.agg st.row] (cT a b sn) (Ib a sn st.rows.length (fy tn T st.rows l)):=by
 obtain⟨R,hR⟩:=eX st.rows;obtain⟨a6,av⟩:=a1.rows;rw[hR]at a6 av⊢;generalize hM:fy tn T R l=M;have bad:∀(b':Mp aij)(e:Int)(Ul:St),M.2=e->e≠0->bW (some (.cm [.agg [.sl .full [],.int .i64 0],.int .i64 e])) 4 (Ib a sn R.length M) (a.ob .str::b'.ob .str::sn.ob (V.int .i64)::.box [.sl .ro yL,.sl .ro (bI.map bH.row),.mp 0,.mp 1,.mp 2]::Ul):=λb' e Ul h1 h2=>wC 4 (s:=cT a b' sn) (r:=.cm [.agg (Ot.row ⟨0,[]⟩),.int .i64 e]) rfl rfl (wK 4 dc a b' sn) (A6 _) (yJ ⟨xS ⟨yH,zU rfl,tV⟩,xJ rfl,tV⟩) ⟨b',rfl,.inl ⟨by rw[h1];exact h2,by rw[h1]⟩⟩;have an:∀(b':Mp aij)(n:Nat),6<=n->([a.ob .str,b'.ob .str,sn.ob (V.int .i64),.box [.sl .ro yL,.sl .ro (bI.map bH.row),.mp 0,.mp 1,.mp 2],.box st.row,.box di]:St).all (bO n)=true:=λb' n hn=>by have h:=wK n om a b' sn;simp only[cT,fI,Aq,Cs,D3]at h⊢;rw[A8,A8,A8]at h⊢;refine⟨h.1,h.2.1,h.2.2.1,?_⟩;rw[A8];exact⟨h.2.2.2,by simp[bO,cH,cF,bQ.row,di]⟩
 have aj:∀(b':Mp aij)(k:Nat),([a.ob .str,b'.ob .str,sn.ob (V.int .i64),.box [.sl .ro yL,.sl .ro (bI.map bH.row),.mp 0,.mp 1,.mp 2],.box st.row,.box di,.app k 3]:St).all (bO 7)=true:=λb' k=>by have h:=an b' 7 dc;simp only[Aq,Cs,D3]at h⊢;rw[show bO 7 (.app k 3)=true from rfl,D3];exact h
 refine iV 4 func89 ntmps89 results89 λc hc hb=>?_;refine zA ?_;simp[go_sem,cT,fI,hR];refine zG (S:=Nat×Mp aij×List Ln) [0,1,5,6,22,23,24] (λu=>[.ptr 3 0,.int .i64 tn,.ptr 4 0,.ptr 5 0,.sl .ro (R.map λ(l:List bG)=>[V.sl .ro (l.map bG.row)]),.int .i64 R.length,.int .i64 u.1]) (λu=>[a.ob .str,u.2.1.ob .str,sn.ob (V.int .i64),.box [.sl .ro yL,.sl .ro (bI.map bH.row),.mp 0,.mp 1,.mp 2],.box st.row,.box di]) (λu=>R.length-u.1) (λu=>u.1<=R.length/\cE u.2.1 u.2.2/\fy tn T (R.drop u.1) u.2.2=M) hc hb (0,b,l) ⟨A3 _,au,hM⟩ ?_ ?_;.exact bT 6 (by simp[go_sem,hR,di]) rfl (an b 6 dc) dc (zC sg rfl)
 rintro⟨i,b1,l1⟩⟨hi,af,aa⟩;simp only at hi af aa;by_cases q:i<R.length;rotate_left;.rw[A4 om,fy]at aa;subst aa;refine zA ?_;simp[go_sem,q,hR,di];exact wC 4 (s:=cT a b1 sn) (r:=.cm [.agg (Ot.row ⟨R.length,[]⟩),.int .i64 0]) rfl rfl (wK 4 dc a b1 sn) (A6 _) (yJ ⟨xS ⟨yH,zU rfl,tV⟩,xJ rfl,tV⟩) ⟨b1,rfl,.inr ⟨rfl,rfl,af⟩⟩
 have ei:=zR q om;obtain⟨x,hx⟩:=eX (R[i]);obtain⟨aF,aw⟩:=av x (hx▸A7 q);have ax:=Ia x [] aw (λv hv=>by cases hv);rw[A2 q,hx,fy]at aa;obtain⟨E,hE⟩:=eX (dJ eC [] x []);rw[hE]at aa ax;refine zA ?_;simp[go_sem,q,hx];refine wL 10 3 dc sg ?_;refine zG (S:=Nat×List bF) [0,1,5,6,10,22,23,24,28,29,30] (λu=>[.ptr 3 0,.int .i64 tn,.ptr 4 0,.ptr 5 0,.sl (.app 6) (u.2.map bF.row),.sl .ro (R.map λ(l:List bG)=>[V.sl .ro (l.map bG.row)]),.int .i64 R.length,.int .i64 i,.sl .ro (x.map bG.row),.int .i64 x.length,.int .i64 u.1]) (λu=>[a.ob .str,b1.ob .str,sn.ob (V.int .i64),.box [.sl .ro yL,.sl .ro (bI.map bH.row),.mp 0,.mp 1,.mp 2],.box st.row,.box di,.app u.2.length 3]) (λu=>x.length-u.1) (λu=>u.1<=x.length/\u.2.length<=u.1/\dJ eC [] (x.drop u.1) u.2=E) hc hb (0,[]) ⟨A3 _,A6 _,hE⟩ ?_ ?_;.exact bT 7 (by simp[go_sem,di]) rfl (aj b1 _) dc (zC sg rfl)
 rintro⟨j,acc⟩⟨hj,a7,ab⟩;simp only at hj a7 ab;by_cases qj:j<x.length
 .have ej:=zR qj om;obtain⟨e,he⟩:=eX (x[j]);have a8:=aw e (he▸A7 qj);rw[A2 qj,he,dJ,OC]at ab;have ag:=xX5 e a8;obtain⟨kv,aA⟩:=eX (BG e);rw[aA]at ab ag;refine zA ?_;simp[go_sem,qj,he];refine zJ ag cB ⟨uM ⟨zU rfl,yH,zU rfl,zU rfl,zU rfl,yH,yH,yH,zU rfl,zU rfl,zU rfl,tV⟩,zP,zK sg (by rw[bG.bK];rfl)⟩ rfl ?_;simp[go_sem,dP];by_cases q2:kv.2=0;rotate_left;.have ao:(kv.2!=0)=true:=sU q2;rw[ahP q2]at ab;subst ab;simp only at aa;rw[ahP q2]at aa;simp[go_sem,ao,di];exact bad b1 kv.2 _ (by rw[<-aa]) q2
  have ao:(kv.2!=0)=false:=sU q2;rw[ahO (λh=>h q2)]at ab;simp[go_sem,ao];refine zF ⟨om,zT rfl⟩ ?_;simp[go_sem,ej];exact zH (j+1,acc++[kv.1]) ⟨by show x.length-(j+1)<x.length-j;omega,⟨qj,by show(acc++[kv.1]).length<=j+1;simp;omega,ab⟩,bT 7 (by simp[go_sem,di]) rfl (aj b1 _) dc (zC sg rfl)⟩
 rw[A4 om,dJ]at ab;subst ab;obtain⟨_,ai⟩:=ax rfl;simp only at aa ai;rw[ahO (λh=>h rfl)]at aa;have ak:=UB tn T hT acc (by unfold maxLen;omega) ai;have ah:=KO tn T hT acc;obtain⟨⟨kr,kk,ke⟩,aB⟩:∃ks,eK tn T acc=ks:=⟨_,rfl⟩;rw[aB]at aa ak ah;simp only at aa ah;refine zA ?_;simp[go_sem,qj];refine pC ak ?_;simp[go_sem,k9];by_cases k0:ke=0;rotate_left;.have aq:(ke !=0)=true:=sU k0;rw[ahP k0]at aa;simp[go_sem,aq,di];exact bad b1 ke _ (by rw[<-aa]) k0
 have aq:(ke !=0)=false:=sU k0;rw[ahO (λh=>h k0)]at aa;obtain⟨al,aC,aD⟩:=ah k0;have aE:=Gk ((by decide:∀T∈bI,T.bP.length<=20) T (B9 hT)) ai al;have ar:=SB acc aE;have eB:b1.ob .str=.mp (gb .str b1.W) b1.bs b1.cM:=rfl;simp[go_sem,aq];cases ae:b1.at (kr,kk)with
 |some w=>
  have hA:fT l1 (kr,kk)=true:=by cases r:fT l1 (kr,kk)with|true=>rfl|false=>rw[af.gI.2 r]at ae;cases ae
  rw[ahP hA]at aa;have ad:dI (kr,kk) b1.W=some w:=ae;refine yB [] 8 sm kR kR ?_;simp[go_sem,eB,pE,ad,lI,l6,di];rw[<-eB];exact bad b1 18 _ (by rw[<-aa]) dc|none=>have hA:=af.gI.1 ae;rw[ahO (by rw[hA];decide)]at aa;have ad:dI (kr,kk) b1.W=none:=ae;have ay:=xP6 (d:=yK acc) ae;have az:=af.ins (x:=⟨kr,kk,acc⟩) ⟨⟨tn,T,aC,hT,al⟩,aD,ai⟩ hA;refine yB [] 8 sm kR kR ?_;simp[go_sem,eB,pE,ad,lI,l6];refine zA ?_;refine yB [(6,0)] 8 sm kR kR ?_;simp[go_sem];refine pD ar ?_;simp[go_sem,pE,ad,lI,l6,ay,ei];exact zH (i+1,b1.put (kr,kk) (yK acc),oc l1 ⟨kr,kk,acc⟩) ⟨by show R.length-(i+1)<R.length-i;omega,⟨q,az,aa⟩,bT 6 (by simp[go_sem,di]) rfl (an _ 6 dc) dc (zC sg rfl)⟩
theorem UH(l:List bF)(hl:l.length<=10000)(hz:l≠[]):bL prog 160 [.sl .ro (l.map bF.row)] [] (λr s=>r=.cL 0 3 l.length 0 l.length/\s=[.cj (l.map bF.row) 3]):=by
 refine iV 0 func160 ntmps160 results160 λc hc hb=>?_;refine qQ 7 dc ?_;refine zA ?_;have hp:0<l.length:=by cases l with |nil=>exact absurd rfl hz|cons a l=>simp
 have hu:eM 3 (l.map bF.row):=by intro r hr;obtain⟨v,_,rfl⟩:=Aa.1 hr;rfl
 simp[go_sem,hp];refine zF ⟨om,by simp[eM],hu⟩ ?_;simp[go_sem];exact Mj sm ⟨rfl,rfl⟩
theorem KP(T:bH)(hT:T.bP.length<=maxLen)(row:List bF)(hv:∀v∈row,v.ok)(e:bG)(he:jS e):Pure prog 106 [.agg T.row,.sl .ro (row.map bF.row),.agg e.row] (dP (fN T row e)):=by
 have an:=Ks T hT e he;have cK:=@OB T row;generalize hM:fN T row e=M;unfold fN at hM;have ret:∀(v:bF)(e:Int)(U:St),(v,e)=M->bW (some (.cm [.agg v.row,.int .i64 e])) 0 (λr s=>r=dP M/\s=[]) U:=λv e U h=>sF h;refine iV 0 func106 ntmps106 results106 λc hc hb=>?_;refine zA ?_;simp[go_sem];refine zJ an cB (zK sg (by rw[bG.bK];rfl)) rfl ?_;simp[go_sem,yN];by_cases q:(xO T e).2=0;rotate_left;.have q':((xO T e).2!=0)=true:=sU q;rw[ahP q]at hM;simp[go_sem,q'];exact ret zeroV _ _ hM
 have q':((xO T e).2!=0)=false:=sU q;have n1:¬(xO T e).2≠0:=λh=>h q;rw[ahO n1]at hM;by_cases hlen:row.length=T.bP.length;rotate_left
 .have h1:((row.length:Int)!=T.bP.length)=true:=by simp;omega
  rw[ahP (by unfold ua;rw[ahQ hlen,B2])]at hM;simp[go_sem,q',h1];exact ret zeroV 9 _ hM
 have h1:((row.length:Int)!=T.bP.length)=false:=by simp;omega
 obtain⟨mr,ai⟩:=eX (ua T.bP row);have aa:=ai;unfold ua at aa;rw[ahR hlen,Ah]at aa;rw[ai]at hM cK;simp[go_sem,q',h1];refine zG (S:=Nat×bF) [1,3,5,6,29,30,31] (λu=>[.sl .ro (row.map bF.row),.ptr 0 0,.ptr 1 0,.ptr 2 0,.sl .ro (row.map bF.row),.int .i64 row.length,.int .i64 u.1]) (λu=>[.box T.row,.box e.row,.box u.2.row]) (λu=>row.length-u.1) (λu=>u.1<=row.length/\(((row.zip T.bP).drop u.1).all λp=>xx p.1 p.2)=mr) hc hb (0,zeroV) ⟨A3 _,aa⟩ ?_ ?_;.exact bT 3 (by simp[go_sem,zeroV]) rfl (by simp[bO,cH,cF,bG.bK,bH.row,bF.row]) (A3 _) (zC sg rfl)
 rintro⟨i,v0⟩⟨hi,hinv⟩;simp only at hi hinv;by_cases p:i<row.length;rotate_left
 .rw[A4 (by rw[List.length_zip];omega)]at hinv;have hm:mr:=hinv.symm;rw[ahO (by rw[hm];decide)]at hM;have aj:=cK hm hv;have ab:Pure prog 178 [.agg T.row,.sl .ro (row.map bF.row),.agg e.row] (dP (lS T row e)):=by
   unfold xO at q;by_cases d:xG e<=64;.rw[ahP d]at q;exact Ow aj hT 64 e d he.wide he.cN q
   .rw[ahO d]at q;cases q
  rw[hM]at ab;refine zA ?_;simp[go_sem,p];refine zJ ab cB ⟨zD rfl,zP,oI e,tV⟩ rfl ?_;simp[go_sem,dP];exact sF rfl
 have qc:i<T.bP.length:=om;have ei:=zR p (by unfold maxLen at hT;omega);obtain⟨v,ak⟩:=eX (row[i]);obtain⟨C,hC⟩:=eX (T.bP[i]);have qz:i<(row.zip T.bP).length:=by rw[List.length_zip];omega
 rw[rG _ _ _ qz,List.getElem_zip,ak,hC]at hinv;obtain⟨tl,af⟩:∃tl,(((row.zip T.bP).drop (i+1)).all λp=>xx p.1 p.2)=tl:=⟨_,rfl⟩;rw[af]at hinv;unfold xx at hinv;have al:=F3 v;simp only at hinv;generalize dw v=mv at al hinv;refine zA ?_;simp[go_sem,p,ak];refine yB [(1,0)] 4 sm kR kR ?_;simp[go_sem];refine pD al ?_;refine(A1 mv).elim (λp2=>?_) (λp2=>?_);rotate_left
 .have hm:mr=false:=by rw[<-hinv,p2];simp
  rw[ahP hm]at hM;simp[go_sem,p2];exact ret zeroV 9 _ hM
 rw[p2,Ah]at hinv;simp[go_sem,p2];by_cases k1:v.kind=C.kind;.have ag:(v.kind !=C.kind)=false:=sU k1;have ad:(v.kind==C.kind)=true:=sU k1;rw[ad,Dz,Ah]at hinv;simp[go_sem,ag,qc,hC,ei];exact zH (i+1,v0) ⟨by show row.length-(i+1)<row.length-i;omega,⟨p,af.trans hinv⟩,bT 3 (by simp[go_sem,bG.bK]) rfl (by simp[bO,cH,cF,bG.bK]) dc (zC sg rfl)⟩
 have ag:(v.kind !=C.kind)=true:=sU k1;have ad:(v.kind==C.kind)=false:=sU k1;rw[ad,Dd]at hinv;simp[go_sem,ag,qc,hC];by_cases k0:v.kind=0;.have ah:(v.kind !=0)=false:=sU k0;have ae:(v.kind==0)=true:=sU k0;rw[ae,Ah]at hinv;simp[go_sem,ah,ei];exact zH (i+1,v0) ⟨by show row.length-(i+1)<row.length-i;omega,⟨p,af.trans hinv⟩,bT 3 (by simp[go_sem,bG.bK]) rfl (by simp[bO,cH,cF,bG.bK]) dc (zC sg rfl)⟩
 have ah:(v.kind !=0)=true:=sU k0;have ae:(v.kind==0)=false:=sU k0;rw[ae,B2]at hinv;rw[ahP hinv.symm]at hM;simp[go_sem,ah];exact ret zeroV 9 _ hM
theorem OP{T:bH}{row:List bF}(hv:∀v∈row,v.ok){e:bG}(he:jS e)(h:(fN T row e).2=0):VK (fN T row e).1 (xO T e).1:=by
 unfold fN at h⊢;by_cases q:(xO T e).2=0;rotate_left;.rw[ahP q]at h;exact absurd h q
 have n1:¬(xO T e).2≠0:=λh=>h q;rw[ahO n1]at h⊢;cases hm:ua T.bP row with|false=>rw[hm]at h;simp at h|true=>
  rw[hm]at h;simp only[Bool.true_eq_false,ai3]at h⊢;unfold xO at q⊢;by_cases d:xG e<=64;.rw[ahP d]at q⊢;exact KE (OB hm hv) 64 e d he.cN q h
  .rw[ahO d]at q;cases q
theorem UJ(T:bH)(e:bG)(x:Ln)(l:List Ln)(acc:bF):jb T e (x::l) acc=if(fN T x.v e).2≠0then(zeroV,(fN T x.v e).2)else if(fN T x.v e).1.kind=0then jb T e l acc else if(dL (acc.n+(fN T x.v e).1.n)).2≠0then(zeroV,(dL (acc.n+(fN T x.v e).1.n)).2)else jb T e l ⟨2,(dL (acc.n+(fN T x.v e).1.n)).1,[]⟩:=rfl
theorem wg0(T:bH)(hT:T.bP.length<=maxLen)(e:bG)(he:jS e)(l:List Ln)(hl:l.length<=10000)(cK:∀x∈l,∀v∈x.v,v.ok):bL prog 229 [.agg T.row,.agg e.row,.cL 0 3 l.length 0 l.length] [.cj (l.map Ln.row) 3] (λr s=>r=dP (jb T e l zeroV)/\s=[.cj (l.map Ln.row) 3]):=by
 generalize hM:jb T e l zeroV=M;have ret:∀(v:bF)(er:Int)(U:St),(v,er)=M->U.take 1=[.cj (l.map Ln.row) 3]->bW (some (.cm [.agg v.row,.int .i64 er])) 1 (λr s=>r=dP M/\s=[.cj (l.map Ln.row) 3]) U:=by rintro v er U rfl h;exact wC 1 h rfl (by simp[bO,cH,cF,Ln.row]) (A6 _) (zD rfl) ⟨rfl,rfl⟩
 refine iV 1 func229 ntmps229 results229 λc hc hb=>?_;refine zA ?_;simp[go_sem];refine zG (S:=Nat×bF) [3,4,6,7,8,13,14,15] (λu=>[.ptr 1 0,.ptr 2 0,.ptr 3 0,.int .i64 0,.ptr 4 0,.cL 0 3 l.length 0 l.length,.int .i64 l.length,.int .i64 u.1]) (λu=>[.cj (l.map Ln.row) 3,.box T.row,.box e.row,.box zeroV.row,.box u.2.row]) (λu=>l.length-u.1) (λu=>u.1<=l.length/\eY u.2.n/\u.2.s=[]/\jb T e (l.drop u.1) u.2=M) hc hb (0,zeroV) ⟨A3 _,dc,rfl,hM⟩ ?_ ?_;.exact bT 5 (by simp[go_sem,zeroV,bG.bK]) rfl (by simp[bO,cH,cF,bG.bK,bH.row,bF.row,Ln.row]) dc (zC sg rfl)
 rintro⟨i,acc⟩⟨hi,ha,has,hinv⟩;simp only at hi ha has hinv;by_cases q:i<l.length;rotate_left;.rw[A4 om]at hinv;refine zA ?_;simp[go_sem,q];exact ret acc 0 _ hinv rfl
 have ei:=zR q om;obtain⟨x,hx⟩:=eX (l[i]);have ai:x∈l:=hx▸A7 q;rw[A2 q,hx,UJ]at hinv;have aa:=KP T hT x.v (cK x ai) e he;have ad:=OP (cK x ai) (T:=T) he;obtain⟨⟨v,er⟩,hv⟩:∃kv,fN T x.v e=kv:=⟨_,rfl⟩;rw[hv]at hinv aa ad;simp only at hinv ad;refine zA ?_;simp[go_sem,q,hx];refine zJ aa cB ⟨zD rfl,zP,oI e,tV⟩ rfl ?_;simp[go_sem,dP];by_cases q2:er=0;rotate_left;.have ae:(er !=0)=true:=sU q2;rw[ahP q2]at hinv;simp[go_sem,ae];exact ret zeroV er _ hinv rfl
 have ae:(er !=0)=false:=sU q2;rw[ahO (λh=>h q2)]at hinv;have aj:=ad q2;simp[go_sem,ae];by_cases k0:v.kind=0;.have af:(v.kind==0)=true:=sU k0;rw[ahP k0]at hinv;simp[go_sem,af,ei];exact zH (i+1,acc) ⟨by show l.length-(i+1)<l.length-i;omega,⟨q,ha,has,hinv⟩,bT 5 (by simp[go_sem,zeroV,bG.bK]) rfl (by simp[bO,cH,cF,bG.bK,Ln.row]) dc (zC sg rfl)⟩
 have af:(v.kind==0)=false:=sU k0;rw[ahO k0]at hinv;have ab:=Od acc.n v.n ha aj.n;have ag:=KC (acc.n+v.n);obtain⟨⟨sn,se⟩,hs⟩:∃s,dL (acc.n+v.n)=s:=⟨_,rfl⟩;rw[hs]at hinv ab ag;simp only at hinv ag;simp[go_sem,af];refine pC ab ?_;simp[go_sem,yN];by_cases q3:se=0;rotate_left;.have ah:(se !=0)=true:=sU q3;rw[ahP q3]at hinv;simp[go_sem,ah];exact ret zeroV se _ hinv rfl
 have ah:(se !=0)=false:=sU q3;rw[ahO (λh=>h q3)]at hinv;simp[go_sem,ah,ei];exact zH (i+1,⟨2,sn,[]⟩) ⟨by show l.length-(i+1)<l.length-i;omega,⟨q,ag,rfl,hinv⟩,bT 5 (by simp[go_sem,zeroV,bG.bK,has]) rfl (by simp[bO,cH,cF,bG.bK,Ln.row]) dc (zC sg rfl)⟩
def rK(r:List bF×Int):V:=if r.2=0then .cm [.agg (Ot.row ⟨0,[r.1]⟩),.int .i64 0]else .cm [.agg (Ot.row ⟨0,[]⟩),.int .i64 r.2]
theorem wu5(T:bH)(hT:T.bP.length<=maxLen)(st:bQ)(af:gR st)(l:List Ln)(hl:l.length<=10000)(cK:∀x∈l,∀v∈x.v,v.ok):bL prog 155 [.agg T.row,.agg st.row,.cL 0 3 l.length 0 l.length] [.cj (l.map Ln.row) 3] (λr s=>r=rK (lB T l st.items [])/\s=[.cj (l.map Ln.row) 3]):=by
 generalize hM:lB T l st.items []=M;obtain⟨R,hR⟩:=eX st.items;obtain⟨ag,ae⟩:=af.items;rw[hR]at ag ae hM;have bad:∀(er:Int)(U:St),([],er)=M->er≠0->U.take 1=[.cj (l.map Ln.row) 3]->bW (some (.cm [.agg [.sl .full [],.int .i64 0],.int .i64 er])) 1 (λr s=>r=rK M/\s=[.cj (l.map Ln.row) 3]) U:=by rintro er U rfl h0 h;refine wC 1 (r:=.cm [.agg (Ot.row ⟨0,[]⟩),.int .i64 er]) h rfl (by simp[bO,cH,cF,Ln.row]) (A6 _) (yJ ⟨xS ⟨yH,zU rfl,tV⟩,xJ rfl,tV⟩) ⟨?_,rfl⟩;unfold rK;rw[ahO h0]
 have cN:∀(acc:List bF)(U:St),(acc,0)=M->U.take 1=[.cj (l.map Ln.row) 3]->bW (some (.cm [.agg [.sl .full [[.sl .ro (acc.map bF.row)]],.int .i64 0],.int .i64 0])) 1 (λr s=>r=rK M/\s=[.cj (l.map Ln.row) 3]) U:=by rintro acc U rfl h;exact wC 1 (r:=.cm [.agg (Ot.row ⟨0,[acc]⟩),.int .i64 0]) h rfl (by simp[bO,cH,cF,Ln.row]) (A6 _) (yJ ⟨xS ⟨yH,zU rfl,tV⟩,xJ rfl,tV⟩) ⟨rfl,rfl⟩
 refine iV 1 func155 ntmps155 results155 λc hc hb=>?_;refine zA ?_;simp[go_sem,hR];refine wL 8 3 dc sg ?_;refine zG (S:=Nat×List bF) [2,3,4,6,7,8,15,16,17] (λu=>[.cL 0 3 l.length 0 l.length,.ptr 1 0,.ptr 2 0,.ptr 3 0,.int .i64 0,.sl (.app 4) (u.2.map bF.row),.sl .ro (R.map cJ.row),.int .i64 R.length,.int .i64 u.1]) (λu=>[.cj (l.map Ln.row) 3,.box T.row,.box st.row,.box [.sl .full [],.int .i64 0],.app u.2.length 3]) (λu=>R.length-u.1) (λu=>u.1<=R.length/\u.2.length<=u.1/\lB T l (R.drop u.1) u.2=M) hc hb (0,[]) ⟨A3 _,A6 _,hM⟩ ?_ ?_;.exact bT 5 (by simp[go_sem,hR]) rfl (by simp[bO,cH,cF,bH.row,bQ.row,Ln.row]) dc (zC sg rfl)
 rintro⟨i,acc⟩⟨hi,ha,hinv⟩;simp only at hi ha hinv;by_cases q:i<R.length;rotate_left;.rw[A4 om]at hinv;refine zA ?_;simp[go_sem,q];exact cN acc _ hinv rfl
 have ei:=zR q om;obtain⟨x,hx⟩:=eX (R[i]);have ah:=(ae x (hx▸A7 q)).2;rw[A2 q,hx,lB]at hinv;refine zA ?_;simp[go_sem,q,hx];by_cases k4:x.kind=4;rotate_left;.have ab:(x.kind==4)=false:=sU k4;rw[ahO k4]at hinv;simp[go_sem,ab];refine zF ⟨om,zT rfl⟩ ?_;simp[go_sem,ei];exact zH (i+1,acc++[⟨2,l.length,[]⟩]) ⟨by show R.length-(i+1)<R.length-i;omega,⟨q,by show(acc++[_]).length<=i+1;simp;omega,hinv⟩,aN 5 (by simp[bO,cH,cF,Ln.row])⟩
 have ab:(x.kind==4)=true:=sU k4;rw[ahP k4]at hinv;simp[go_sem,ab];have aa:=wg0 T hT x.e ah l hl cK;obtain⟨⟨v,er⟩,hv⟩:∃kv,jb T x.e l zeroV=kv:=⟨_,rfl⟩;rw[hv]at hinv aa;simp only at hinv;refine pd 0 aa cB rfl (by simp[bO,cH,cF,Ln.row]) ⟨zD rfl,oI x.e,.inl rfl,tV⟩ (by rintro r s⟨rfl,rfl⟩;exact⟨_,rfl,by simp[bO,cH,cF,Ln.row]⟩) ?_;rintro r o⟨rfl,ho⟩;cases ho;simp[go_sem,dP];by_cases q2:er=0;rotate_left;.have ad:(er !=0)=true:=sU q2;rw[ahP q2]at hinv;simp[go_sem,ad];exact bad er _ hinv q2 rfl
 have ad:(er !=0)=false:=sU q2;rw[ahO (λh=>h q2)]at hinv;simp[go_sem,ad];refine zF ⟨om,zT rfl⟩ ?_;simp[go_sem,ei];exact zH (i+1,acc++[v]) ⟨by show R.length-(i+1)<R.length-i;omega,⟨q,by show(acc++[_]).length<=i+1;simp;omega,hinv⟩,aN 5 (by simp[bO,cH,cF,Ln.row])⟩
theorem xk2(y:cJ):Pure prog 228 [.agg y.row] (.bool (y.kind==3||y.kind==4)):=by
 refine iV 0 func228 ntmps228 results228 λc hc hb=>?_;refine zA ?_;by_cases k:y.kind=3;.have k':(y.kind==3)=true:=sU k;simp[go_sem,k'];exact wR
 .have k':(y.kind==3)=false:=sU k;simp[go_sem,k'];exact wR
theorem wn1(l:List cJ)(hl:l.length<=12):Pure prog 290 [.sl .ro (l.map cJ.row),.fn 228 []] (.int .i64 (k6 (λy=>y.kind==3||y.kind==4) l 0)):=by
 generalize hM:k6 (λy:cJ=>y.kind==3||y.kind==4) l 0=M;have ret:∀(r:Int)(U:St),r=M->bW (some (.int .i64 r)) 0 (λr s=>r=.int .i64 M/\s=[]) U:=λr U h=>by subst h;exact wR
 refine iV 0 func290 ntmps290 results290 λc hc hb=>?_;refine zA ?_;simp[go_sem];refine zG (S:=Nat) [0,1,6,7,8] (λi=>[.sl .ro (l.map cJ.row),.fn 228 [],.sl .ro (l.map cJ.row),.int .i64 l.length,.int .i64 (i:Int)]) (λ_=>[]) (λi=>l.length-i) (λi=>i<=l.length/\k6 (λy=>y.kind==3||y.kind==4) (l.drop i) i=M) hc hb 0 ⟨A3 _,hM⟩ ?_ ?_;.exact aN 0 sm
 rintro i⟨hi,hinv⟩;by_cases q:i<l.length;rotate_left;.rw[A4 om]at hinv;refine zA ?_;simp[go_sem,q];exact ret _ _ hinv
 have ei:=zR q om;obtain⟨y,hy⟩:=eX (l[i]);rw[A2 q,hy,k6]at hinv;have aa:=xk2 y;generalize(y.kind==3||y.kind==4)=b at aa hinv;refine zA ?_;simp[go_sem,q,hy];refine pC aa ?_;refine(A1 b).elim (λp=>?_) (λp=>?_);.rw[ahP p]at hinv;simp[go_sem,p];exact ret _ _ hinv
 .rw[ahO (by rw[p];decide)]at hinv;simp[go_sem,p,ei];exact zH (i+1) ⟨om,⟨om,hinv⟩,aN 0 sm⟩
theorem wm5(l:List cJ)(hl:l.length<=12):Pure prog 227 [.sl .ro (l.map cJ.row),.fn 228 []] (.bool (sG l)):=by have h:=wn1 l hl;have hg:=HW (λy:cJ=>y.kind==3||y.kind==4) l 0;unfold sG;rw[<-hg];generalize k6 (λy:cJ=>y.kind==3||y.kind==4) l 0=n at h⊢;refine iW 0 func227 ntmps227 results227 λc hc hb=>zM ?_;simp[go_sem];refine pC h ?_;simp[go_sem];exact wR
theorem wh3(st:bQ)(aa:gR st):Pure prog 154 [.agg st.row] (.bool (sG st.items)):=by have h:=wm5 st.items aa.items.1;generalize sG st.items=b at h⊢;refine iW 0 func154 ntmps154 results154 λc hc hb=>zM ?_;simp[go_sem];refine pC h ?_;simp[go_sem];exact wR
theorem UK:∀{W:List (Pl×J)},(∀e∈W,e.1≠p)->W.filter (λe=>!decide (e.1=p))=W:=λ{W}h=>De.2 λe he=>by simp[h e he]
theorem UL{J:Type}{p:Pl}{v:J}:∀{W:List (Pl×J)}{i:Nat},(W.map (·.1)).Nodup->W[i]?=some (p,v)->W.eraseIdx i=W.filter (λe=>!decide (e.1=p))
 |[],i,_,h=>by simp at h|e::W,0,hn,h=>by simp only[List.getElem?_cons_zero,ahT]at h;subst h;rw[Ad,Bk]at hn;rw[List.eraseIdx_cons_zero,C1,ahO sm];exact(UK λe he q=>hn.1 (Aa.2 ⟨e,he,q⟩)).symm|e::W,i+1,hn,h=>by rw[Ch]at h;rw[Ad,Bk]at hn;have aa:e.1≠p:=λq=>hn.1 (Aa.2 ⟨(p,v),B9 h,q.symm⟩);rw[List.eraseIdx_cons_succ,C1,ahP (by simp[aa]),UL hn.2 h]
theorem wt5(hn:(b.W.map (·.1)).Nodup)(p:Pl):(b.del p).W=b.W.filter (λe=>!decide (e.1=p)):=by unfold Mp.del;cases h:b.at p with |none=>exact(UK (KI h)).symm|some q=>exact UL hn (xz (i:=q.1) (v:=q.2) h)
theorem UM{J:Type}{p:Pl}{u v:J}:∀{W:List (Pl×J)}{i:Nat},(W.map (·.1)).Nodup->W[i]?=some (p,u)->W.set i (p,v)=W.map (λe=>if e.1=p then(p,v)else e)
 |[],i,_,h=>by simp at h|e::W,0,hn,h=>by simp only[List.getElem?_cons_zero,ahT]at h;subst h;rw[Ad,Bk]at hn;rw[Cg,Ad,ahP rfl];congr 1;refine(List.map_id _).symm.trans (B6 λe he=>?_);rw[ahO λq=>hn.1 (Aa.2 ⟨e,he,q⟩)];rfl|e::W,i+1,hn,h=>by rw[Ch]at h;rw[Ad,Bk]at hn;have aa:e.1≠p:=λq=>hn.1 (Aa.2 ⟨(p,u),B9 h,q.symm⟩);rw[Bz,Ad,ahO aa,UM hn.2 h]
theorem cE.keys{l:List Ln}(h:cE b l):(b.W.map (·.1)).Nodup:=by have h1:=h.perm.map (·.1);rw[B8]at h1;exact h1.nodup_iff.2 h.fY.nodup
theorem cE.del{l:List Ln}(h:cE b l)(p:Pl):cE (b.del p) (l.filter λy=>!decide (y.at=p)):=by
 refine⟨Mp.EA h.ok _,?_,?_,λy hy=>h.rows y (Bl.1 hy).1⟩;.exact List.Pairwise.sublist ((Bo).map _) h.fY
 .rw[wt5 h.keys];have h1:=h.perm.filter (λe=>!decide (e.1=p));rw[List.filter_map]at h1;exact h1
theorem cE.Ie{l:List Ln}(h:cE b l)(p:Pl)(row:List bF)(hp:fT l p)(aa:eP ⟨p.1,p.2,row⟩):cE (b.put p (yK row)) (fB l p row):=by
 have ab:(fB l p row).map Ln.at=l.map Ln.at:=by
  unfold fB;rw[B8];refine B6 λy _=>?_;by_cases q:y.at=p;.simp only[Function.comp,ahP q];rfl
  .simp only[Function.comp,ahO q]
 refine⟨Mp.lg h.ok _ _,?_,?_,λy hy=>?_⟩;.rw[ab];exact h.fY
 .have e:(b.put p (yK row)).W=b.W.map (λe=>if e.1=p then(p,yK row)else e):=by unfold Mp.put;cases r:b.at p with|none=>rw[h.gI.1 r]at hp;cases hp|some q=>exact UM h.keys (xz (i:=q.1) (v:=q.2) r)
  rw[e];have h1:=h.perm.map (λe=>if e.1=p then(p,yK row)else e);rw[B8]at h1;refine h1.trans (aib ?_);unfold fB;rw[B8];refine B6 λy _=>?_;by_cases q:y.at=p;.simp only[Function.comp,ahP q];show _=((y.r,y.k),yK row);rw[<-q];rfl
  .simp only[Function.comp,ahO q]
 .unfold fB at hy;obtain⟨z,hz,rfl⟩:=Aa.1 hy;by_cases q:z.at=p;.rw[ahP q];subst q;exact aa
  .rw[ahO q];exact h.rows z hz
theorem VK.okV{v:bF}{k:Int}(h:VK v k):v.ok:=by have hm:=h.may;have hn:=h.n;rcases Oy hm with⟨h1,_,h3⟩|⟨h1,_,h3⟩|⟨h1,h3⟩|⟨h1,_,h3⟩;all_goals refine⟨by rw[h1];decide,hn,?_⟩;first|(rw[h3];decide)|(unfold maxLen;omega)
theorem KQ{T:bH}{oM:List bF}(ho:∀v∈oM,v.ok):∀{cp:List bX}{row:List bF},(∀x∈cp,jS x.e)->(∀v∈row,v.ok)->(fH T oM cp row).2=0->(fH T oM cp row).1.length=row.length/\∀v∈(fH T oM cp row).1,v.ok
 |[],row,_,hr,_=>(by trivial)|x::l,row,hs,hr,h=>by
  rw[fH]at h⊢;by_cases q:(fN T oM x.e).2=0;.rw[ahO om]at h⊢;have hv:=(OP ho (by grind) q).okV;have h2:=KQ ho (cp:=l) (row:=row.set (cq T x.name).toNat (fN T oM x.e).1) (by grind) (by grind) h;grind
  grind
theorem UN{T:bH}{st:bQ}:∀{l acc:List Ln},∀x∈(oL T st acc l).1,x∈acc\/x∈l
 |[],_,_,h=>.inl h|y::l,acc,x,h=>by
  rw[oL]at h;by_cases q:(fN T y.v st.bU).2=0;.rw[ahO om]at h;rcases UN (l:=l) x h with h|h;all_goals grind
  grind
theorem Ig{t:Int}{T:bH}{st:bQ}{l:List Ln}:∀x∈(fb t T st l).1,x∈l/\(mn t st x)=true:=λx h=>by
 unfold fb at h;have hf:x∈l.filter (mn t st):=by
  by_cases q:st.cz=true;.rw[ahP q]at h;rcases UN x h with h|h;all_goals grind
  grind
 grind
theorem UO(l:List Ln)(p:Pl)(row:List bF):(fB l p row).map Ln.at=l.map Ln.at:=by
 unfold fB;rw[B8];refine B6 λy _=>?_;by_cases q:y.at=p;.simp only[Function.comp,ahP q];rfl
 grind
theorem OQ(l:List Ln)(p q:Pl)(row:List bF):fT (fB l p row) q=fT l q:=by rw[Cp,fj,fj,UO]
def lh(p q:Pl):Int:=oK [fR p.1 q.1,gH p.2 q.2]
theorem OR(p q:Pl):decide (lh p q<0)=yZ p q:=by
 obtain⟨a,s⟩:=p;obtain⟨b,t⟩:=q;simp only[lh,oK,fR,gH,yZ];by_cases h1:a<b;.simp[h1]
 .by_cases h2:a>b;.have h3:¬a=b:=om;simp[h1,h2,h3]
  .have h3:a=b:=om;subst h3;by_cases h4:Op.bytesLess s t=true;.simp[h4]
   .have aa:Op.bytesLess s t=false:=sU h4;by_cases h5:Op.bytesLess t s=true;.simp[aa,h5]
    .simp[aa,h5]
theorem UP:Go.Sort.SWO λa b=>decide (lh a b<0):=by have e:(λa b=>decide (lh a b<0))=yZ:=funext λa=>funext λb=>OR a b;rw[e];refine⟨KN,λx y z h g=>H8 h g,λx y z h g=>?_⟩;cases q:yZ x z with |false=>rfl|true=>
  rcases H9 x y with r|r|r;.rw[r]at h;cases h
  .subst r;rw[q]at g;cases g
  .have:=H8 r q;rw[this]at g;cases g
theorem we3{X:Type}{kx:X->Pl}{l:List X}(h:l.Pairwise λa b=>¬lh (kx b) (kx a)<0)(hn:(l.map kx).Nodup):gv (l.map kx):=by
 unfold gv;rw[Cv];rw[List.Nodup,Cv]at hn;refine(h.and hn).imp λ{a b}⟨h1,h2⟩=>?_;rcases H9 (kx a) (kx b)with r|r|r;.exact r
 .exact absurd r h2
 .rw[<-OR]at r;exact absurd (ahV r) h1
theorem UQ(p q:Pl):Pure prog 94 [gT p,gT q] (.int .i64 (lh p q)):=by have h:=HZ [fR p.1 q.1,gH p.2 q.2] (by simp[maxLen]);have h1:=Tp p.1 q.1;have h2:=TB p.2 q.2;unfold lh;generalize oK [fR p.1 q.1,gH p.2 q.2]=M at*;refine iW 0 func94 ntmps94 results94 λc hc hb=>zM ?_;simp[go_sem,gT];refine yB [(4,0),(9,0),(11,0)] 2 rfl kR kR ?_;simp[go_sem];refine pD h1 ?_;simp[go_sem];refine pD h2 ?_;simp[go_sem];refine pD h ?_;simp[go_sem];exact wR
theorem xP1(p q:Pl):Pure prog 152 [.agg (.int .i64 p.1::.str p.2::List.replicate (3-2) .u),.agg (.int .i64 q.1::.str q.2::List.replicate (3-2) .u)] (.int .i64 (lh p q)):=by have h:=UQ p q;rw[gT,gT]at h;show Pure prog 152 [.agg [.int .i64 p.1,.str p.2,.u],.agg [.int .i64 q.1,.str q.2,.u]] (.int .i64 (lh p q));refine iW 0 func152 ntmps152 results152 λc hc hb=>zM ?_;simp[go_sem];refine pC h ?_;simp[go_sem];exact wR
def j8(seen:aik)(W:List (Pl×J))(bs:aik):List ((Pl×J)×Nat):=(W.zip bs).filter λp=>!seen.contains p.2
theorem UR{J:Type}{g:J->V}{seen:aik}:∀{W:List (Pl×J)}{bs:aik},zd seen (gb g W) bs=(j8 seen W bs).map λp=>(gT p.1.1,g p.1.2,p.2)
 |[],bs=>by cases bs<;>rfl|e::W,[]=>rfl|e::W,b::bs=>by
  rw[gb,zd,UR];unfold j8;rw[Dv,C1];cases h:seen.contains b;.simp only[Cf,ai3,Bool.not_false,ai0,Ad]
  .simp only[ai0,Bool.not_true,Cf,ai3]
theorem KR{J:Type}{g:J->V}:∀{W:List (Pl×J)}{bs:aik}{p:(Pl×J)×Nat},bs.Nodup->p∈W.zip bs->EP p.2 (gb g W) bs=some (gT p.1.1,g p.1.2)
 |[],_,_,_,h=>by simp at h|e::W,[],_,_,h=>by simp at h|e::W,b::bs,p,hn,h=>by
  rw[Bk]at hn;rw[gb,EP];rw[Dv]at h;rcases Ag.1 h with rfl|h;.rw[ahP rfl]
  .have:b≠p.2:=λq=>hn.1 (q▸(List.of_mem_zip h).2);rw[ahO this];exact KR hn.2 h
theorem US{J:Type}:∀{W:List J}{bs:aik},bs.Nodup->((W.zip bs).map (·.2)).Nodup
 |[],_,_=>by simp|e::W,[],_=>by simp|e::W,b::bs,h=>by rw[Bk]at h;rw[Dv,Ad,Bk];refine⟨λq=>?_,US h.2⟩;obtain⟨p,hp,rfl⟩:=Aa.1 q;exact h.1 (List.of_mem_zip hp).2
theorem UT{J:Type}{p:J×Nat}:∀{L:List (J×Nat)},(L.map (·.2)).Nodup->p∈L->L.Perm (p::L.filter λq=>!decide (q.2=p.2))
 |[],_,h=>by cases h|x::L,hn,h=>by
  rw[Ad,Bk]at hn;rcases Ag.1 h with rfl|h
  .have:(p::L).filter (λq=>!decide (q.2=p.2))=L:=by
    rw[C1,ahO sm];exact De.2 λq hq=>by have:q.2≠p.2:=λe=>hn.1 (Aa.2 ⟨q,hq,e⟩);simp[this]
   rw[this]
  .have:x.2≠p.2:=λe=>hn.1 (Aa.2 ⟨p,h,e.symm⟩);rw[C1,ahP (by simp[this])];exact((UT hn.2 h).cons x).trans (List.Perm.swap ..)
theorem KS(hn:bs.Nodup){p:(Pl×J)×Nat}(hp:p∈j8 seen W bs):(j8 seen W bs).Perm (p::j8 (seen++[p.2]) W bs):=by
 have h1:((j8 seen W bs).map (·.2)).Nodup:=ahY ((Bo).map _) (US hn);refine(UT h1 hp).trans (aib ?_);congr 1;unfold j8;rw[List.filter_filter];refine aie λq _=>?_;by_cases e:q.2=p.2;.simp[e]
 .simp[e]
theorem KU{p:(Pl×J)×Nat}(hp:p∈j8 seen W bs):p∈W.zip bs:=(Bl.1 hp).1
theorem wb8(h:bs.length=W.length):(j8 [] W bs).map (·.1)=W:=by unfold j8;rw[De.2 λq _=>sm,List.map_fst_zip om]
def gV(seen:aik)(W:List (Pl×J))(bs:aik)(D:List (Pl×J)):Prop:=(D++(j8 seen W bs).map (·.1)).Perm W
theorem gV.start(h:bs.length=W.length):gV [] W bs []:=by unfold gV;rw[wb8 h];exact List.Perm.refl _
theorem gV.next{D:List (Pl×J)}(hn:bs.Nodup)(h:gV seen W bs D){p:(Pl×J)×Nat}(hp:p∈j8 seen W bs):gV (seen++[p.2]) W bs (D++[p.1]):=by unfold gV at h⊢;refine List.Perm.trans ?_ h;rw[Cb];have h1:=(KS hn hp).map λx:(Pl×J)×Nat=>x.1;rw[Ad]at h1;exact List.Perm.append_left _ h1.symm
theorem gV.done{D:List (Pl×J)}(h:gV seen W bs D)(h0:j8 seen W bs=[]):D.Perm W:=by unfold gV at h;rw[h0]at h;simpa using h
theorem UU{J:Type}{p q:J->Bool}:∀{l:List J},(∀x∈l,p x=true->q x=false)->(l.filter p++l.filter q).Perm (l.filter λx=>p x||q x)
 |[],_=>List.Perm.refl _|x::l,h=>by have ih:=UU (l:=l) λy hy=>h y (Bd _ hy);have hx:=h x (Ax ..);simp only[C1];cases hp:p x with|true=>simp only[hx hp,Cd,ai0,Cf,ai3,Bg];exact ih.cons x|false=>cases hq:q x with |true=>simp only[Bf,ai0,Cf,ai3];exact Dg.trans (ih.cons x)|false=>simp only[Bf,Cf,ai3];exact ih
theorem UW{l:List Ln}{c:Ln->Bool}{rg:Int->Int}:∀{G:aim},(G.map rg).Nodup->(G.flatMap λg=>l.filter λx=>(rg g==x.r)&&c x).Perm (l.filter λx=>(G.any λg=>rg g==x.r)&&c x)
 |[],_=>by simp|g::G,hn=>by
  rw[Ad,Bk]at hn;rw[Bu];refine(List.Perm.append_left _ (UW (l:=l) (c:=c) hn.2)).trans ((UU λx _ hp=>?_).trans (aib (aie λx _=>?_)))
  .simp only[A8,ahX]at hp;have:(G.any λg=>rg g==x.r)=false:=by cases q:G.any λg=>rg g==x.r with|false=>rfl|true=>obtain⟨g',h1,h2⟩:=C2.1 q;exact absurd (Aa.2 ⟨g',h1,(beq_iff_eq.1 h2).trans hp.1.symm⟩) hn.1
   rw[this,B2]
  .rw[Bx,Bool.and_or_distrib_right]
theorem xC1{l m:List Ln}(hr:gv (l.map Ln.at))(hp:m.Perm l)(hs:m.Pairwise λa b=>yZ b.at a.at=false):m=l:=by
 have aa:(m.map Ln.at).Nodup:=(hp.map Ln.at).nodup_iff.2 hr.nodup;have h1:l.Pairwise λa b=>yZ a.at b.at=true:=Cv.1 hr;have h2:m.Pairwise λa b=>yZ a.at b.at=true:=by
  refine(hs.and (Cv.1 aa)).imp λ{a b}h=>?_;rcases H9 a.at b.at with q|q|q;.exact q
  .exact absurd q h.2
  .rw[h.1]at q;cases q
 exact hp.eq_of_pairwise (λa b _ _ h g=>by rw[Uz h]at g;cases g) h2 h1
end Go.Proofs.YtefbicjgbaaieaaGreat
