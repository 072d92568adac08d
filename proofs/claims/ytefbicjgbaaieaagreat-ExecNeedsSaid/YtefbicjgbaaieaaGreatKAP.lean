/-
  The kinds of expressions by the document, over trees (the library Vx); used by the theorem at the end of the claim.
  Conditions: as each theorem states them.
-/
import Derived.Test.YtefbicjgbaaieaaGreatKAO
import Derived.Test.YtefbicjgbaaieaaGreatKAN
set_option maxHeartbeats 8000000
namespace Go.Proofs.YtefbicjgbaaieaaGreat
open Go Go.Vx R Go.Proofs.Tryz
set_option maxRecDepth 100000
def zG2 (t:Nat):List Int:=if t=0 then [0,1]else if t=1 then [-1]else [1]
def cutR (l:List GExpr) (rs:List Int):List Int:=l.foldl (fun rs e=>match zc6 e [82]with|none=>rs|some (s,v)=>if s= [61]/\v.kind=2 then zh5 v.n rs else rs) rs
def xS (t:Int) (st:GStmt):List Int:=if t=0 then cutR (zs5 st) [0,1]else if t=1 then [-1]else if t=2 then [1]else []
theorem xn2 {n:Int} (l:List Int):(zh5 n l).length<=l.length:=Bo _ _
theorem xn0 (l:List Int):xM (l.map yQ)=true:=by simp[xM,yQ,zy4]
theorem yT8 (l:List Int) (m:Nat):za7 (l.map yQ) 0 m=(l.take m).map yQ:=by
 unfold za7
 rw[Bg,<-List.map_take,Bk]
 rfl
theorem xG9 (st:GStmt) (T:GTable) (l:List Int):([.box [.sl .ro xG,.sl .ro (tabsS.map GTable.row)],.box st.row,.box T.row,.lst (l.map yQ) 1]:St).all (ltOb 4)=true:=by simp[ltOb,ltC,ltK,yQ,GStmt.row,GTable.row]
theorem yD7 (T:GTable) (l:List Int):([.box T.row,.lst (l.map yQ) 1]:St).all (ltOb 2)=true:=by simp[ltOb,ltC,ltK,yQ,GTable.row]
theorem xe2 (n:Nat) (l:List Int):ltOb n (.lst (l.map yQ) 1)=true:=by simp[ltOb,ltC,ltK,yQ]
theorem yX7 (j:Nat) (hj:j<3): ∃s0:Nat,yV j 0=((s0:Int),0)/\s0+(zG2 j).length<5/\(∀(k:Nat) x,(zG2 j)[k]? =some x->ofS ((s0+k:Nat):Int)=((j:Int),x,0))/\
  ((ofS ((s0+(zG2 j).length:Nat):Int)).2.2≠0∨((ofS ((s0+(zG2 j).length:Nat):Int)).2.2=0/\(ofS ((s0+(zG2 j).length:Nat):Int)).1≠j)):=by
 match j,hj with
 |0,_=>exact⟨0,rfl,dC,fun k x h=>(by match k with
   |0=>cases h;rfl
   |1=>cases h;rfl
   |k+2=>cases h),.inr dC⟩
 |1,_=>exact⟨2,rfl,dC,fun k x h=>(by match k with
   |0=>cases h;rfl
   |k+1=>cases h),.inr dC⟩
 |2,_=>exact⟨3,rfl,dC,fun k x h=>(by match k with
   |0=>cases h;rfl
   |k+1=>cases h),.inl dC⟩
theorem ye6: ∀(l:List GExpr) (rs:List Int),(cutR l rs).length<=rs.length
 | [],_=>A5 _
 |e::l,rs=>by
  have h1:cutR (e::l) rs=cutR l (match zc6 e [82]with|none=>rs|some (s,v)=>if s= [61]/\v.kind=2 then zh5 v.n rs else rs):=rfl
  rw[h1]
  refine Ax (ye6 l _) ?_
  split
  .exact A5 _
  .split
   .exact xn2 _
   .exact A5 _
theorem yp8 (t:Int) (st:GStmt) (hl:(zs5 st).length<=maxLen):Pure prog 61 [schR tabsS,.int .i64 t,.agg st.row] (.sl .ro ((xS t st).map yQ)):=by
 have al:=zY3 st
 generalize hM:xS t st=M
 unfold xS at hM
 generalize hL:zs5 st=L at al hM hl
 have an: ∀(g:Tag) (σ:St),[]=M->wret (some (.sl g [])) 0 (fun r s=>r= .sl .ro (M.map yQ)/\s= []) σ:=fun g σ h=>by subst h;exact wG zK ⟨rfl,rfl⟩
 have ah: ∀(id:Nat) (ys:List Int) (N m:Nat) (σ:St),σ[id]? =some (.lst (ys.map yQ) 1)->ys.length=N->m<=N->ys.take m=M->wret (some (.lsv id 1 N 0 m)) 0 (fun r s=>r= .sl .ro (M.map yQ)/\s= []) σ:=fun id ys N m σ h1 h2 h3 h4=>by
  refine yl9 id 1 (ys.map yQ) h1 (xn0 ys) ?_
  simp only[frzS,frzA,frzC,frzK,B1,h2,Ad,h3,and_self,if_true,yT8,h4]
  exact wG zK ⟨rfl,rfl⟩
 refine iV 0 func61 ntmps61 results61 fun c hc hb=> ?_
 refine zA ?_
 simp[go_sem,schR]
 by_cases ht:0<=t/\t<3
 rotate_left
 .have ar: []=M:=by rw[<-hM,if_neg om,if_neg om,if_neg om]
  have h2:decide (t<0)=true∨(decide (t<0)=false/\decide ((tabsS.length:Int)<=t)=true):=by
   simp only[decide_eq_true_eq,decide_eq_false_iff_not,show tabsS.length=3 from rfl]
   omega
  refine h2.elim (fun q=> ?_) (fun q=> ?_)
  all_goals simp[go_sem,q]
  all_goals exact an _ _ ar
 obtain⟨j,rfl⟩: ∃j:Nat,t=j:=⟨t.toNat,om⟩
 have hj:j<3:=om
 obtain⟨T,hT⟩:=eX (tabsS[j]'(by exact hj))
 have ao:=xk8 j hj
 obtain⟨s0,au,av,hok,aa⟩:=yX7 j hj
 obtain⟨n,hn⟩:=eX ((zG2 j).length)
 rw[hn]at av aa
 rw[au]at ao
 have aw:decide ((j:Int)<0)=false:=decide_eq_false om
 have aG:decide ((tabsS.length:Int)<=j)=false:=decide_eq_false (by simp only[show tabsS.length=3 from rfl];omega)
 have ax:decide (tabsS.length<=j)=false:=decide_eq_false (by simp only[show tabsS.length=3 from rfl];omega)
 have ay:j<tabsS.length:=hj
 have hle:=xP4
 have e1:IntKind.i64.wrap ((j:Int)+1)=((j+1:Nat):Int):=by rw[i64_id om om];omega
 simp[go_sem,aw,ax,ay]
 refine zM5 8 1 dC sg ?_
 refine yS [(10,0),(11,0)] 4 sm kR kR ?_
 simp[go_sem,e1]
 refine zI ⟨om,by simp only[show tabsS.length=3 from rfl];omega,yc9 fun T=>rfl⟩ ?_
 simp[go_sem]
 refine zh8 hle cB (fun _=>zN (by simp[go_sem,schR]) rfl) rfl ?_
 simp[go_sem]
 refine zh8 ao cB (fun _=>zN (by simp[go_sem,schR]) rfl) rfl ?_
 simp[go_sem,zP0]
 refine zH (S:=Nat) [1,3,5,7,8,9] (fun k=> [.int .i64 j,.ptr 0 0,.ptr 1 0,.ptr 2 0,.lsv 3 1 k 0 k,.int .i64 ((s0+k:Nat):Int)])
  (fun k=> [.box [.sl .ro xG,.sl .ro (tabsS.map GTable.row)],.box st.row,.box T.row,.lst (((zG2 j).take k).map yQ) 1]) (fun k=>n - k) (fun k=>k<=n) hc hb 0 (A4 _) ?_ ?_
 .exact at_n 4 (by simp[go_sem,<-hT];exact⟨rfl,rfl,rfl,rfl,rfl,rfl,rfl,rfl,rfl,rfl,rfl⟩) rfl (xG9 st T _) (A4 _) (zF sg rfl)
 intro k hk
 have az:=Of_w (s0+k) om
 refine zA ?_
 simp[go_sem]
 refine zJ az cB (zN (by simp[go_sem,schR]) rfl) rfl ?_
 by_cases aH:k<n
 .obtain⟨x,hx⟩: ∃x,(zG2 j)[k]? =some x:=⟨_,A0 om⟩
  rw[hok k x hx]
  have a1: ¬(k+1<=k):=om
  have ei:IntKind.i64.wrap (((s0:Int)+k)+1)=(s0:Int)+k+1:=by rw[i64_id om om]
  simp[go_sem,ofV,a1]
  refine zI ⟨om,zV rfl,om⟩ ?_
  simp[go_sem,ei]
  refine zG (k+1) ⟨om,om, ?_⟩
  exact at_n 4 (by simp[go_sem,Du,hx,yQ]) rfl (xG9 st T _) (A4 _) (zF (by simp[go_sem];omega) rfl)
 .obtain rfl:k=n:=om
  obtain⟨⟨a,b2,e⟩,hp⟩: ∃p,ofS ((s0+k:Nat):Int)=p:=⟨_,rfl⟩
  rw[hp]at aa⊢
  simp only at aa
  have hY:((zG2 j).take k).length=k:=by simp;omega
  have ad:(e !=0)=true∨((e !=0)=false/\(a !=j)=true):=by
   rcases aa with h|h
   .exact .inl (by simpa using h)
   .exact .inr ⟨by simpa using h.1,by simpa using h.2⟩
  by_cases ai:j=0
  rotate_left
  .have aj:(T.place !=0)=true:=by
    rw[<-hT]
    match j,hj,ai with
    |1,_,_=>rfl
    |2,_,_=>rfl
   have a6:(zG2 j)=M:=by
    rw[<-hM]
    match j,hj,ai with
    |1,_,_=>rfl
    |2,_,_=>rfl
   refine ad.elim (fun q=> ?_) (fun q=> ?_)
   all_goals simp[go_sem,ofV,q,aj]
   all_goals exact ah 3 ((zG2 j).take k) k k _ sg hY (A5 _) (by rw[E4,Nat.min_self,Al om];exact a6)
  subst ai
  have aj:(T.place !=0)=false:=by rw[<-hT];rfl
  have ab:T.cols= [⟨[82],2,false⟩,⟨[75],2,false⟩,⟨[86],3,true⟩,⟨[78],2,true⟩]:=by rw[<-hT];rfl
  have a7:k=2:=by rw[<-hn];rfl
  subst a7
  have ak:(e !=0)=true∨((e !=0)=false/\(a !=0)=true):=by simpa using ad
  refine ak.elim (fun q=> ?_) (fun q=> ?_)
  all_goals simp[go_sem,ofV,q,aj,ab]
  all_goals refine zJ al cB (zN sg rfl) rfl ?_
  all_goals simp[go_sem]
  all_goals refine zH (S:=Nat×List Int×List Int) [7,8,79,80,81] (fun u=> [.ptr 0 0,.lsv 1 1 2 0 u.2.1.length,.sl .ro (L.map GExpr.row),.int .i64 L.length,.int .i64 u.1]) (fun u=> [.box T.row,.lst (u.2.2.map yQ) 1]) (fun u=>L.length - u.1) (fun u=>u.1<=L.length/\u.2.1.length<=2/\u.2.2.length=2/\u.2.2.take u.2.1.length=u.2.1/\cutR (L.drop u.1) u.2.1=M) hc hb (0,[0,1],[0,1]) ⟨A4 _,A5 _,rfl,rfl,hM⟩ ?_ ?_
  all_goals try exact zC9 [2,3] dC rfl ⟨by simp[go_sem,yF,renC,renK,ab],by simp[go_sem,yF,renC,renK,zG2,yQ],tV⟩ ⟨.inl (by simp[go_sem,renS,renA,renC,renK,ren]),.inl (by simp[go_sem,renS,renA,renC,renK,ren]),zK,zC rfl,zC rfl,tV⟩
  all_goals rintro⟨i,rs,ys⟩ ⟨hi,ag,ae,af,hinv⟩
  all_goals simp only at hi ag ae af hinv
  all_goals (
   by_cases hq:i<L.length
   rotate_left
   .rw[Ab om]at hinv
    have a8:rs=M:=hinv
    refine zA ?_
    simp[go_sem,hq]
    exact ah 1 ys 2 rs.length _ sg ae ag (by rw[af];exact a8)
   have ei:=zQ hq (by unfold maxLen at hl;omega)
   obtain⟨x,hx⟩:=eX (L[i])
   rw[A8 hq,hx]at hinv
   have aA:=yq0 x [82]
   refine zA ?_
   simp[go_sem,hq,hx,ab]
   refine yS [(6,0),(13,3)] 3 sm kR kR ?_
   simp[go_sem]
   refine zh8 aA cB (fun _=>zN sg (by rw[GExpr.row_eq];rfl)) (xc3 _) ?_
   cases ha:zc6 x [82]with
   |none=>
    simp only[cutR,Bb,ha]at hinv
    simp[go_sem,cutV,xg4,ei]
    refine zG (i+1,rs,ys) ⟨by simp only;omega,⟨by simp only;omega,ag,ae,af,hinv⟩, ?_⟩
    exact at_n 2 (by simp[go_sem,ab]) rfl (yD7 T _) (A4 _) (zF sg rfl)
   |some p=>
    obtain⟨s,v⟩:=p
    simp only[cutR,Bb,ha]at hinv
    simp[go_sem,cutV]
    by_cases hs:s= [61]/\v.kind=2
    .rw[if_pos hs]at hinv
     have aB:(s== [61])=true:=by simpa using hs.1
     have aC:(v.kind==2)=true:=by simpa using hs.2
     have aq:=xZ4 v ys rs.length om om
     rw[af,ae]at aq
     simp[go_sem,aB,aC]
     refine xU7 3 1 aq cB dC sg sg rfl (xe2 _ _) ⟨.inl (by simp[go_sem,renS,renA,renC,renK,ren]),.inl (by simp[go_sem,renS,renA,renC,renK,ren]),tV⟩ (fun r s h=>by
      obtain⟨zs,_,_,_,_,rfl⟩:=h
      exact⟨_,_,rfl,rfl,xe2 _ _⟩) ?_
     rintro r o2 p2 ⟨zs,aI,aJ,aD,rfl,aE⟩
     obtain⟨rfl,rfl⟩:o2= .box v.row/\p2= .lst (zs.map yQ) 1:=by simpa using aE
     simp[go_sem,renS,renA,renC,renK,ren,ei]
     refine zG (i+1,zh5 v.n rs,zs) ⟨by simp only;omega,⟨by simp only;omega,by simp only;omega,om,aD,hinv⟩, ?_⟩
     exact at_n 2 (by simp[go_sem,ab]) rfl (yD7 T _) (A4 _) (zF sg rfl)
    .rw[if_neg hs]at hinv
     have aF:(s== [61])=false∨((s== [61])=true/\(v.kind==2)=false):=by
      by_cases h1:s= [61]
      .exact .inr ⟨by simpa using h1,by simpa using fun h2=>hs ⟨h1,h2⟩⟩
      .exact .inl (by simpa using h1)
     refine aF.elim (fun q1=> ?_) (fun q1=> ?_)
     all_goals simp[go_sem,q1,ei]
     all_goals refine zG (i+1,rs,ys) ⟨by simp only;omega,⟨by simp only;omega,ag,ae,af,hinv⟩, ?_⟩
     all_goals exact at_n 2 (by simp[go_sem,ab]) rfl (yD7 T _) (A4 _) (zF sg rfl))
def za2 {α:Type} (p:α->Bool):List α->Nat->Int
 | [],_=> -1
 |x::l,i=>if p x=true then(i:Int)else za2 p l (i+1)
theorem zu6 {α:Type} (p:α->Bool): ∀(l:List α) (i:Nat),za2 p l i= -1∨((i:Int)<=za2 p l i/\za2 p l i<i+l.length)
 | [],i=> .inl rfl
 |x::l,i=>by
  unfold za2
  split
  .right;simp;omega
  .have:=zu6 p l (i+1)
   simp only[Ag]
   omega
theorem wg1 (t:GTable) (name:List UInt8):VCalls prog 105 [.agg t.row,.ptr 0 0] [.box [.str name]] (fun r s=>r= .bool (t.name==name)/\s= [.box [.str name]]):=by
 refine iW 1 func105 ntmps105 results105 fun c hc hb=>zL ?_
 simp[go_sem]
 exact zw8 1 rfl rfl (A5 _) (zC rfl) ⟨rfl,rfl⟩
theorem wf8 (t:GCol) (name:List UInt8):VCalls prog 231 [.agg t.row,.ptr 0 0] [.box [.str name]] (fun r s=>r= .bool (t.name==name)/\s= [.box [.str name]]):=by
 refine iW 1 func231 ntmps231 results231 fun c hc hb=>zL ?_
 simp[go_sem]
 exact zw8 1 rfl rfl (A5 _) (zC rfl) ⟨rfl,rfl⟩
theorem wa9 (l:List GTable) (name:List UInt8) (hl:l.length<=maxLen):VCalls prog 104 [.sl .ro (l.map GTable.row),.fn 105 [.ptr 0 0]] [.box [.str name]] (fun r s=>r= .int .i64 (za2 (fun t:GTable=>t.name==name) l 0)/\s= [.box [.str name]]):=by
 generalize hM:za2 (fun t:GTable=>t.name==name) l 0=M
 have ret: ∀(r:Int) (σ:St),r=M->wret (some (.int .i64 r)) 1 (fun r s=>r= .int .i64 M/\s= [.box [.str name]]) (.box [.str name]::σ):=fun r σ h=>by subst h;exact zw8 1 rfl rfl (A5 _) (zC rfl) ⟨rfl,rfl⟩
 refine iV 1 func104 ntmps104 results104 fun c hc hb=> ?_
 refine zA ?_
 simp[go_sem]
 refine zH (S:=Nat) [0,1,7,8] (fun i=> [.sl .ro (l.map GTable.row),.fn 105 [.ptr 0 0],.int .i64 l.length,.int .i64 i]) (fun _=> [.box [.str name]]) (fun i=>l.length - i) (fun i=>i<=l.length/\za2 (fun t:GTable=>t.name==name) (l.drop i) i=M) hc hb 0 ⟨A4 _,hM⟩ ?_ ?_
 .exact aN 1 rfl
 rintro i ⟨hi,hinv⟩
 by_cases q:i<l.length
 rotate_left
 .rw[Bq om,za2]at hinv
  refine zA ?_
  simp[go_sem,q]
  exact ret _ _ hinv
 have ei:=zQ q (by unfold maxLen at hl;omega)
 obtain⟨x,hx⟩:=eX (l[i])
 rw[A8 q,hx,za2]at hinv
 obtain⟨b,ab⟩:=eX ((x.name==name))
 have aa:=wg1 x name
 rw[ab]at aa hinv
 refine zA ?_
 simp[go_sem,q,hx]
 refine zl9 0 aa cB rfl rfl ⟨zC rfl,.inl rfl,tV⟩ (by rintro r s ⟨rfl,rfl⟩;exact⟨_,rfl,rfl⟩) ?_
 rintro r o ⟨rfl,ho⟩
 cases ho
 simp[go_sem]
 refine zR (fun w=> ?_) (fun w=> ?_)
 .rw[if_pos w]at hinv
  simp[go_sem]
  exact ret _ _ hinv
 .rw[if_neg (by rw[w];decide)]at hinv
  simp[go_sem,ei]
  exact zG (i+1) ⟨om,⟨q,hinv⟩,aN 1 rfl⟩
theorem wa5 (l:List GCol) (name:List UInt8) (hl:l.length<=maxLen):VCalls prog 230 [.sl .ro (l.map GCol.row),.fn 231 [.ptr 0 0]] [.box [.str name]] (fun r s=>r= .int .i64 (za2 (fun t:GCol=>t.name==name) l 0)/\s= [.box [.str name]]):=by
 generalize hM:za2 (fun t:GCol=>t.name==name) l 0=M
 have ret: ∀(r:Int) (σ:St),r=M->wret (some (.int .i64 r)) 1 (fun r s=>r= .int .i64 M/\s= [.box [.str name]]) (.box [.str name]::σ):=fun r σ h=>by subst h;exact zw8 1 rfl rfl (A5 _) (zC rfl) ⟨rfl,rfl⟩
 refine iV 1 func230 ntmps230 results230 fun c hc hb=> ?_
 refine zA ?_
 simp[go_sem]
 refine zH (S:=Nat) [0,1,7,8] (fun i=> [.sl .ro (l.map GCol.row),.fn 231 [.ptr 0 0],.int .i64 l.length,.int .i64 i]) (fun _=> [.box [.str name]]) (fun i=>l.length - i) (fun i=>i<=l.length/\za2 (fun t:GCol=>t.name==name) (l.drop i) i=M) hc hb 0 ⟨A4 _,hM⟩ ?_ ?_
 .exact aN 1 rfl
 rintro i ⟨hi,hinv⟩
 by_cases q:i<l.length
 rotate_left
 .rw[Bq om,za2]at hinv
  refine zA ?_
  simp[go_sem,q]
  exact ret _ _ hinv
 have ei:=zQ q (by unfold maxLen at hl;omega)
 obtain⟨x,hx⟩:=eX (l[i])
 rw[A8 q,hx,za2]at hinv
 obtain⟨b,ab⟩:=eX ((x.name==name))
 have aa:=wf8 x name
 rw[ab]at aa hinv
 refine zA ?_
 simp[go_sem,q,hx]
 refine zl9 0 aa cB rfl rfl ⟨zC rfl,.inl rfl,tV⟩ (by rintro r s ⟨rfl,rfl⟩;exact⟨_,rfl,rfl⟩) ?_
 rintro r o ⟨rfl,ho⟩
 cases ho
 simp[go_sem]
 refine zR (fun w=> ?_) (fun w=> ?_)
 .rw[if_pos w]at hinv
  simp[go_sem]
  exact ret _ _ hinv
 .rw[if_neg (by rw[w];decide)]at hinv
  simp[go_sem,ei]
  exact zG (i+1) ⟨om,⟨q,hinv⟩,aN 1 rfl⟩
theorem yT0 (ts:List GTable) (name:List UInt8) (hl:ts.length<=maxLen):Pure prog 58 [schR ts,.str name] (.int .i64 (za2 (fun t:GTable=>t.name==name) ts 0)):=by
 have hx:=wa9 ts name hl
 refine iW 0 func58 ntmps58 results58 fun c hc hb=>zL ?_
 simp[go_sem,schR]
 refine zl9 1 hx cB rfl rfl ⟨zC rfl,.inl rfl,tV⟩ (by rintro r s ⟨rfl,rfl⟩;exact⟨_,rfl,rfl⟩) ?_
 rintro r o ⟨rfl,ho⟩
 cases ho
 simp[go_sem]
 exact wR
theorem yp5 (t:GTable) (name:List UInt8) (hl:t.cols.length<=maxLen):Pure prog 156 [.agg t.row,.str name] (.int .i64 (za2 (fun t:GCol=>t.name==name) t.cols 0)):=by
 have hx:=wa5 t.cols name hl
 refine iW 0 func156 ntmps156 results156 fun c hc hb=>zL ?_
 simp[go_sem]
 refine zl9 1 hx cB rfl rfl ⟨zC rfl,.inl rfl,tV⟩ (by rintro r s ⟨rfl,rfl⟩;exact⟨_,rfl,rfl⟩) ?_
 rintro r o ⟨rfl,ho⟩
 cases ho
 simp[go_sem]
 exact wR
def colF (T:GTable) (name:List UInt8):Int:=za2 (fun c:GCol=>c.name==name) T.cols 0
def colK (T:GTable) (c:Int):Int:=((T.cols[c.toNat]?).map (·.kind)).getD 0
def zs0 (v:GValue):Bool:=v.kind==0&&(v.n==0&&v.s.isEmpty)
theorem yw8 (v:GValue):(!(v.kind==0)||(!(v.n==0)|| !v.s.isEmpty))= !zs0 v:=by unfold zs0;cases v.kind==0<;>cases v.n==0<;>cases v.s.isEmpty<;>rfl
mutual
def zk0 (T:GTable):GExpr->Int×Int
 | .mk k s v args=>
  if k=1 then(if s.isEmpty=false∨args.isEmpty=false∨mayF v=false then(0,9)else(v.kind,0))
  else if k=2 then(if colF T s<0 then(0,14)else if args.isEmpty=false∨zs0 v=false then(0,9)else(colK T (colF T s),0))
  else if k=3 then(if(wL T args).2≠0 then(0,(wL T args).2)else if zs0 v=false then(0,9)else zv8 s (wL T args).1)
  else(0,9)
def wL (T:GTable):List GExpr->List Int×Int
 | []=>([],0)
 |e::l=>if(zk0 T e).2≠0 then([],(zk0 T e).2)else((zk0 T e).1::(wL T l).1,(wL T l).2)
end
theorem yg8 (T:GTable) (e:GExpr):zk0 T e=
  if e.kind=1 then(if e.s.isEmpty=false∨e.args.isEmpty=false∨mayF e.v=false then(0,9)else(e.v.kind,0))
  else if e.kind=2 then(if colF T e.s<0 then(0,14)else if e.args.isEmpty=false∨zs0 e.v=false then(0,9)else(colK T (colF T e.s),0))
  else if e.kind=3 then(if(wL T e.args).2≠0 then(0,(wL T e.args).2)else if zs0 e.v=false then(0,9)else zv8 e.s (wL T e.args).1)
  else(0,9):=by cases e;rw[zk0];rfl
theorem zv2 {M:Int×Int} {a e:Int} {σ:St} (h:(a,e)=M):wret (some (.tup [.int .i64 a,.int .i64 e])) 0 (fun r s=>r=wC M/\s= []) σ:=by
 subst h
 exact wR
theorem zQ6 (T:GTable) (s:List UInt8) (h: ¬colF T s<0): ∃j:Nat,colF T s=j/\j<T.cols.length:=by
 have:=zu6 (fun c:GCol=>c.name==s) T.cols 0
 unfold colF at h⊢
 refine⟨(za2 (fun c:GCol=>c.name==s) T.cols 0).toNat,om,om⟩
theorem xu1 (l:List GExpr):decide ((0:Int)<l.length)= !l.isEmpty:=by
 cases l with
 |nil=>rfl
 |cons _ _=>exact decide_eq_true (by simp only[Ag];omega)
theorem xl1 (l:List GExpr):decide (0<l.length)= !l.isEmpty:=by
 cases l with
 |nil=>rfl
 |cons _ _=>exact decide_eq_true (by simp only[Ag];omega)
theorem xj4 (T:GTable) (hT:T.cols.length<=maxLen): ∀(n:Nat) (e:GExpr),wE e<=n->Wide e->Good e->Pure prog 253 [.agg T.row,.agg e.row] (wC (zk0 T e))
 |0,e,h,_,_=>by have:=zL0 e;omega
 |n+1,e,h,hw,hg=>by
  have ih:=xj4 T hT n
  have ay:=zj5 e
  have hlen:=hw.len
  have ak:=hw.sub
  have au:=hg.sub
  have al:=yp6 e.v
  have an:=yp5 T e.s hT
  obtain⟨M,hM⟩:=eX (zk0 T e)
  rw[hM]
  rw[yg8]at hM
  rw[show za2 (fun c:GCol=>c.name==e.s) T.cols 0=colF T e.s from rfl]at an
  have hz:=yw8 e.v
  have av:=xu1 e.args
  have ah:=xl1 e.args
  have ret: ∀(a b:Int) (σ:St),(a,b)=M->wret (some (.tup [.int .i64 a,.int .i64 b])) 0 (fun r s=>r=wC M/\s= []) σ:=fun a b σ h=>zv2 h
  refine iV 0 func253 ntmps253 results253 fun c hc hb=> ?_
  refine zA ?_
  simp[go_sem]
  by_cases q1:e.kind=1
  .have af:(e.kind==1)=true:=by simpa using q1
   rw[if_pos q1]at hM
   generalize mayF e.v=b at al hM
   generalize e.args.isEmpty=ae at av ah hM
   simp[go_sem,af]
   repeat' (first
    |(refine xE (fun q=> ?_) (fun q=> ?_)<;>simp[go_sem,q,ah])
    |(refine zR (fun q=> ?_) (fun q=> ?_)<;>simp[go_sem,q])
    |(refine zJ al cB (zN sg rfl) rfl ?_;simp[go_sem]))
   all_goals exact ret _ _ _ (by rw[<-hM];simp_all)
  rw[if_neg q1]at hM
  have af:(e.kind==1)=false:=by simpa using q1
  by_cases q2:e.kind=2
  .have ai:(e.kind==2)=true:=by simpa using q2
   rw[if_pos q2]at hM
   simp[go_sem,af,ai]
   refine zJ an cB (zN sg rfl) rfl ?_
   by_cases qc:colF T e.s<0
   .have aj:decide (colF T e.s<0)=true:=decide_eq_true qc
    rw[if_pos qc]at hM
    simp[go_sem,aj]
    exact ret _ _ _ hM
   have aj:decide (colF T e.s<0)=false:=decide_eq_false qc
   rw[if_neg qc]at hM
   obtain⟨j,hj,aw⟩:=zQ6 T e.s qc
   obtain⟨C,hC⟩:=eX (T.cols[j])
   have az:colK T (colF T e.s)=C.kind:=by
    unfold colK
    rw[hj,Ay,A0 aw,hC];rfl
   rw[az]at hM
   rw[hj]at aj⊢
   generalize zs0 e.v=z at hz hM
   generalize e.args.isEmpty=ae at av ah hM
   simp[go_sem,aj,ah]
   repeat' (first
    |(refine xE (fun q=> ?_) (fun q=> ?_)<;>simp[go_sem,q,hz])
    |(refine zR (fun q=> ?_) (fun q=> ?_)<;>simp[go_sem,q,aw,hC]))
   all_goals exact ret _ _ _ (by rw[<-hM];simp_all)
  rw[if_neg q2]at hM
  have ai:(e.kind==2)=false:=by simpa using q2
  by_cases q3:e.kind=3
  rotate_left
  .rw[if_neg q3]at hM
   have ao:(e.kind==3)=false:=by simpa using q3
   simp[go_sem,af,ai,ao]
   exact ret _ _ _ hM
  have ao:(e.kind==3)=true:=by simpa using q3
  rw[if_pos q3]at hM
  obtain⟨args,ab⟩:=eX e.args
  rw[ab]at ay hlen ak au hM
  obtain⟨K,hK⟩:=eX (wL T args)
  rw[hK]at hM
  simp[go_sem,af,ai,ao,ab]
  refine zi6 7 1 dC sg ?_
  refine zH (S:=Nat×List Int) [2,3,7,61,62,63] (fun u=> [.ptr 0 0,.ptr 1 0,.sl (.app 2) (u.2.map fun n=> [V.int .i64 n]),.sl .ro (args.map GExpr.row),.int .i64 args.length,.int .i64 (u.1:Int)]) (fun u=> [.box T.row,.box e.row,.app u.2.length 1]) (fun u=>args.length - u.1)
   (fun u=>u.1<=args.length/\u.2.length=u.1/\(wL T (args.drop u.1)).2=K.2/\(K.2=0->u.2++(wL T (args.drop u.1)).1=K.1)) hc hb (0,[])
   ⟨A4 _,rfl,by simp only[Bg];rw[hK],fun _=>by simp only[Bg];rw[hK];rfl⟩ ?_ ?_
  .exact at_n 3 (by simp[go_sem,ab]) rfl (by simp[ltOb,ltC,ltK,GExpr.row_eq,GTable.row]) (A4 _) (zF sg rfl)
  rintro⟨i,l⟩ ⟨hi,hl,hinv,aa⟩
  simp only at hi hl hinv aa
  by_cases q:i<args.length
  rotate_left
  .rw[Ab om,wL]at hinv aa
   have ag:K.2=0:=hinv.symm
   have a1:l=K.1:=by have:=aa ag;simpa using this
   rw[if_neg (fun h=>h ag),<-a1]at hM
   have ax:=yX2 e.s l (by unfold maxLen;omega)
   generalize zv8 e.s l=o at ax hM
   generalize zs0 e.v=z at hz hM
   refine zA ?_
   simp[go_sem,q,hz]
   refine(A9 z).elim (fun w=> ?_) (fun w=> ?_)
   .rw[if_neg (by rw[w];decide)]at hM
    subst w
    simp[go_sem]
    refine pC ax ?_
    simp[go_sem,wC]
    exact ret _ _ _ hM
   .rw[if_pos w]at hM
    subst w
    simp[go_sem]
    exact ret _ _ _ hM
  have ei:=zQ q om
  obtain⟨x,hx⟩:=eX (args[i])
  have aq:x∈args:=hx▸Aa q
  have a6:=zl5 args x aq
  rw[A8 q,hx,wL]at hinv aa
  have ad:=ih x om (ak x aq) (au x aq)
  generalize zk0 T x=kx at ad hinv aa
  by_cases q4:kx.2=0
  .rw[if_neg (fun h=>h q4)]at hinv aa
   have ar:(kx.2 !=0)=false:=by simpa using q4
   refine zA ?_
   simp[go_sem,q,hx]
   refine zJ ad cB (zN sg (by rw[GExpr.row_eq];rfl)) rfl ?_
   simp[go_sem,wC,ar]
   refine zI ⟨om,zV rfl⟩ ?_
   simp[go_sem,ei]
   refine zG (i+1,l++ [kx.1]) ⟨by simp only;omega,⟨by simp only;omega,by simp;omega,hinv,fun h=>by have:=aa h;simpa using this⟩, ?_⟩
   exact aN 3 (by simp[ltOb,ltC,ltK,GExpr.row_eq])
  .rw[if_pos q4]at hinv
   have ar:(kx.2 !=0)=true:=by simpa using q4
   have ag:kx.2=K.2:=hinv
   rw[if_pos (by rw[<-ag];exact q4),<-ag]at hM
   refine zA ?_
   simp[go_sem,q,hx]
   refine zJ ad cB (zN sg (by rw[GExpr.row_eq];rfl)) rfl ?_
   simp[go_sem,wC,ar]
   exact ret _ _ _ hM
def za9 (T:GTable) (e:GExpr):Int×Int:=if wE e<=64 then zk0 T e else(0,3)
theorem yq4: ∀(n:Nat) (e:GExpr),zn7 e<=n->wE e<=n
 |0,e,h=>by have:=xr2 e;omega
 |n+1,e,h=>by
  rw[zJ5]at h
  rw[zj5]
  have: ∀l:List GExpr,zj2 l<=n->xZ l<=n:=by
   intro l
   induction l with
   |nil=>intro _;exact A4 _
   |cons x l ih=>
    intro hl
    rw[zj2]at hl
    rw[xZ]
    have h1:=yq4 n x om
    have h2:=ih om
    omega
  have:=this e.args om
  omega
theorem yx1 (T:GTable) (hT:T.cols.length<=maxLen) (e:GExpr) (he:EOk e):Pure prog 176 [.agg T.row,.agg e.row] (wC (za9 T e)):=by
 have hs:=he.size
 have hd:=yq4 4000 e hs
 have ab:=xj1 4000 e 1 0 hd he.wide (Int.le_refl _) om om om
 have aa:=xj4 T hT 4000 e hd he.wide he.good
 generalize hM:za9 T e=M
 unfold za9 at hM
 generalize zk0 T e=k at aa hM
 have ret: ∀(x:Int×Int) (σ:St),x=M->wret (some (.tup [.int .i64 x.1,.int .i64 x.2])) 0 (fun r s=>r=wC M/\s= []) σ:=fun x σ h=>zv2 h
 refine iW 0 func176 ntmps176 results176 fun c hc hb=>zL ?_
 simp[go_sem]
 refine zl9 2 ab cB rfl (by rfl) ⟨.inl (by simp[go_sem,renS,renA,renC,renK]),zC rfl,.inl rfl,tV⟩ (fun r σ h=>by
  obtain⟨_,m2,rfl,_⟩:=h
  exact⟨_,rfl,rfl⟩) ?_
 rintro r o2 ⟨rfl,m2,h1,h2,h3⟩
 obtain rfl:o2= .box [.int .i64 m2]:=by simpa using h1
 by_cases q:wE e<=64
 .rw[if_pos q]at hM
  rw[decide_eq_true (show(wE e:Int)+1<=65 by omega)]
  simp[go_sem]
  refine zJ aa cB (zN sg (by rw[GExpr.row_eq];rfl)) rfl ?_
  simp[go_sem,wC]
  exact ret _ _ hM
 .rw[if_neg q]at hM
  rw[decide_eq_false (show ¬(wE e:Int)+1<=65 by omega)]
  simp[go_sem]
  exact ret (0,3) _ hM
end Go.Proofs.YtefbicjgbaaieaaGreat
