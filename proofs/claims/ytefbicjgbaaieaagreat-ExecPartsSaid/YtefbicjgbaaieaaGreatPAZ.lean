/-
  The law ExecParts; used by the theorem at the end of the claim.
  Conditions: as the theorem states them.
-/
import Derived.Test.YtefbicjgbaaieaaGreatPAY
import Derived.Test.YtefbicjgbaaieaaGreatPAT
set_option maxHeartbeats 8000000
namespace Go.Proofs.YtefbicjgbaaieaaGreat
open Go Go.Vx R Go.Proofs.Tryz
set_option maxRecDepth 100000
variable {n:Nat}{P:List (List Pr)}
theorem zD8:Pure prog 20 [] (schR tabsS):=by
 have aa:=xm4
 refine iV 0 func20 ntmps20 results20 fun c hc hb=> ?_
 refine zA ?_
 simp[go_sem]
 refine pC aa ?_
 simp[go_sem,schS]
 exact wW (r:=schR tabsS) xy2 ⟨rfl,rfl⟩
def tx22:List UInt8:= [73,78,83,69,82,84,32,73,78,84,79,32,71,32,86,65,76,85,69,83,32,40,39,97,39,44,32,49,44,32,78,85,76,76,41,59,32,83,69,76,69,67,84,32,78,32,70,82,79,77,32,71]
theorem xY2:(lotF (za2 tx22).1 []).1=(0,0,[⟨1,[]⟩,⟨0,[[⟨2,1,[]⟩]]⟩]):=kR
theorem xx1:(zw3 (za2 tx22).1 []).map (fun q=>q.2.length)= [1]:=kR
theorem yy1 (lot:GLot) (was:List Ln):runV lot was= .tup [.agg (ansR (lotF lot was).1),.sl .ro ((zw3 lot was).map putR)]:=rfl
theorem xe0:Pure prog 12 [] (.bool true):=by
 have hl:=xm3 tx22 dc
 have hr:=xy1 (za2 tx22).1 (yf8 tx22) [] dc (fun x hx=>by cases hx) dc
 rw[yy1,show wU []= [] from rfl,xY2]at hr
 obtain⟨q,hq⟩: ∃q,zw3 (za2 tx22).1 []= [q]:=by
  have h:=xx1
  cases e:zw3 (za2 tx22).1 []with
  |nil=>rw[e]at h;cases h
  |cons x l=>cases l with
   |nil=>exact⟨x,rfl⟩
   |cons y l=>rw[e]at h;simp at h
 have aa:q.2.length=1:=by have h:=xx1;rw[hq]at h;simpa using h
 rw[hq]at hr
 obtain⟨L,hL⟩:=eX ((za2 tx22).1)
 rw[hL]at hl hr
 obtain⟨g,ws⟩:=q
 simp only at aa
 have ab:=zD8
 unfold tx22 at hl
 refine iV 0 func12 ntmps12 results12 fun c hc hb=> ?_
 refine zA ?_
 simp[go_sem]
 refine pC ab ?_
 simp[go_sem,schR]
 refine yV [(1,0),(2,0)] 1 rfl kR kR ?_
 simp[go_sem]
 refine pD hl ?_
 simp[go_sem]
 refine pD hr ?_
 simp[go_sem,ansR,Ot.row,putR,aa]
 exact wR
def yU6 (x:List GAct):List V:= [.sl .ro (x.map GAct.row)]
theorem StI.small (h:StI n P) (hn:n<=7500): ∀l∈P,l.length<=10000:=fun l hl=>by
 obtain⟨i,hi,rfl⟩:=List.getElem_of_mem hl
 have hm:(i,P[i])∈vsG 0 P:=by
  refine B5 (i:=i) ?_
  rw[yz4,A4 hi,Af];rfl
 have:=((h.vs hn).2.1 _ hm).2.1
 simp only at this
 omega
theorem yK5 (h:StI n P) (hn:n<=7500) {lot:GLot} (hl:LOk lot):
  (zw3 lot (wU (vsG 0 P))).length<=100000/\(∀q∈zw3 lot (wU (vsG 0 P)),q.2.length<=100000)/\StI (n+240) (doP P (zw3 lot (wU (vsG 0 P)))):=by
 obtain⟨m,hT⟩:=ye3 (vsG 0 P)
 have h1:=h.len
 have hlen:(wU (vsG 0 P)).length<=(yL (vsG 0 P)).length:=hT.len
 obtain⟨aa,ab⟩:=xx2 hl hT.now (fun x hx=>⟨hT.now.rows x hx,(hT.lines x hx).1⟩) (by show(wU (vsG 0 P)).length<=7500;omega)
 exact⟨aa,ab,h.step hl⟩
def P0:List (List Pr):= [[],[],[],[],[],[],[],[]]
theorem wZ (n:Nat) (P:List (List Pr)):ltOb n (.box (yT P))=true:=by simp[ltOb,ltC,ltK,yT]
def frz8 (v:V):V:=frzS 8 [] (frzS 7 [] (frzS 6 [] (frzS 5 [] (frzS 4 [] (frzS 3 [] (frzS 2 [] (frzS 1 [] v)))))))
theorem xs3 (id:Nat) (rows:List (List V)) (k:IntKind) (x:Int):frzS id rows (.int k x)= .int k x:=rfl
theorem xr9 (k:IntKind) (x:Int):frz8 (.int k x)= .int k x:=by simp only[frz8,xs3]
theorem xs4 (id:Nat) (rows:List (List V)) (i o:Nat):frzS id rows (.ptr i o)= .ptr i o:=rfl
theorem xs0 (i o:Nat):frz8 (.ptr i o)= .ptr i o:=by simp only[frz8,xs4]
theorem xF2 (id:Nat) (rows:List (List V)) (rs:List (List V)):frzS id rows (.sl .ro rs)= .sl .ro rs:=rfl
theorem xF1 (rs:List (List V)):frz8 (.sl .ro rs)= .sl .ro rs:=by simp only[frz8,xF2]
theorem xB1 {P:Program} {c:Ctx} {nt:Nat} {e:Env} {Q:QT} {y:Code} (hy:wVW P c nt y Q fx fx (fun t=>frz8 (e t)) [.box (yT P0),.dead,.dead,.dead,.dead,.dead,.dead,.dead,.dead]):wVW P c nt y Q fx fx e [.box [.sl .full [],.sl .full [],.sl .full [],.sl .full [],.sl .full [],.sl .full [],.sl .full [],.sl .full []]]:=by
 refine zr9 0 0 2 _ dc rfl rfl ?_
 refine zq3 1 2 [] rfl rfl ?_
 refine zr9 0 1 2 _ dc rfl rfl ?_
 refine zq3 2 2 [] rfl rfl ?_
 refine zr9 0 2 2 _ dc rfl rfl ?_
 refine zq3 3 2 [] rfl rfl ?_
 refine zr9 0 3 2 _ dc rfl rfl ?_
 refine zq3 4 2 [] rfl rfl ?_
 refine zr9 0 4 2 _ dc rfl rfl ?_
 refine zq3 5 2 [] rfl rfl ?_
 refine zr9 0 5 2 _ dc rfl rfl ?_
 refine zq3 6 2 [] rfl rfl ?_
 refine zr9 0 6 2 _ dc rfl rfl ?_
 refine zq3 7 2 [] rfl rfl ?_
 refine zr9 0 7 2 _ dc rfl rfl ?_
 refine zq3 8 2 [] rfl rfl ?_
 exact hy
def tblT:GTable:=tabsS.getD 0 noT
theorem xe5 (l:List Ln):chgF l l= []:=by
 unfold chgF
 have h1:(l.filter fun x=> !atF l x.at)= []:=by
  rw[List.filter_eq_nil_iff]
  intro x hx
  have:atF l x.at=true:=atF_iff.2 (Ag.2 ⟨x,hx,rfl⟩)
  simp[this]
 have h2:(l.filter fun x=> !(l.any fun y=>decide (y.at=x.at)&&decide (yH y.v=yH x.v)))= []:=by
  rw[List.filter_eq_nil_iff]
  intro x hx
  have:(l.any fun y=>decide (y.at=x.at)&&decide (yH y.v=yH x.v))=true:=Dd.2 ⟨x,hx,sm⟩
  simp[this]
 rw[h1,h2];rfl
def rowV (r:List GValue):List V:= [.sl .ro (r.map GValue.row)]
theorem xI8 (hS:StI n P) (hn:n<=7500) {tx:List UInt8} (ai:tx.length<=maxLen) {R:List (List GValue)} (af:(lotF (za2 tx).1 (wU (vsG 0 P))).1=(0,0,[⟨0,R⟩])) (ag:zw3 (za2 tx).1 (wU (vsG 0 P))= []):
  VCalls prog 26 [.ptr 0 0,.str tx] [.box (yT P)] (fun r s=>r= .tup [.sl .ro (R.map rowV),.bool true]/\s= [.box (yT P)]):=by
 have ab:=xm3 tx ai
 have ad:=yf8 tx
 have ae:=yh0 P hS.eight
 obtain⟨v1,v2,v3,v4⟩:=hS.vs hn
 have aa:=xy1 (za2 tx).1 ad (vsG 0 P) om (fun x hx=>⟨(v2 x hx).1,by have:=(v2 x hx).2.1;omega,(v2 x hx).2.2⟩) v4
 rw[yy1,af,ag]at aa
 obtain⟨L,hL⟩:=eX ((za2 tx).1)
 rw[hL]at ab aa
 obtain⟨vs,ah⟩:=eX (vsG 0 P)
 rw[ah]at ae aa
 have aj:=zD8
 clear af ag hL ah v1 v2 v3 v4 ad
 refine iV 1 func26 ntmps26 results26 fun c hc hb=> ?_
 refine zA ?_
 simp[go_sem]
 refine pC aj ?_
 simp[go_sem,schR]
 refine pC ab ?_
 simp[go_sem]
 refine ze1 1 ae cB rfl rfl (by rw[Am,wZ];rfl) (zb8 (n:=1) rfl) ?_ ?_
 .rintro r s' ⟨rfl,rfl⟩
  exact⟨rfl,by rw[Am,wZ];rfl,rfl⟩
 rintro r s' ⟨rfl,rfl⟩
 simp[go_sem]
 refine pC aa ?_
 simp[go_sem,ansR,Ot.row]
 exact zs6 1 (r:= .tup [.sl .ro (R.map rowV),.bool true]) rfl (by simp[wZ]) (A6 _) (xT ⟨zt3,zb3 rfl,tV⟩) ⟨rfl,rfl⟩
mutual
def beqE:GExpr->GExpr->Bool
 | .mk k s v a,.mk k2 s2 v2 a2=>decide (k=k2)&&(s==s2&&(decide (v=v2)&&yb2 a a2))
def yb2:List GExpr->List GExpr->Bool
 | [],[]=>true
 |x::l,y::m=>beqE x y&&yb2 l m
 |_,_=>false
end
mutual
theorem yV4: ∀(a b:GExpr),beqE a b=true->a=b
 | .mk k s v a,.mk k2 s2 v2 a2,h=>by
  rw[beqE]at h
  simp only[A8,decide_eq_true_eq,beq_iff_eq]at h
  obtain⟨rfl,rfl,rfl,h4⟩:=h
  rw[yb3 a a2 h4]
theorem yb3: ∀(a b:List GExpr),yb2 a b=true->a=b
 | [],[],_=>rfl
 |x::l,y::m,h=>by
  rw[yb2,A8]at h
  rw[yV4 x y h.1,yb3 l m h.2]
 | [],_::_,h=>by simp[yb2]at h
 |_::_,[],h=>by simp[yb2]at h
end
variable {d:Nat}{i:Nat}{was:List Ln}{m:Nat}
def xN (s:List UInt8):GExpr:= .mk 2 s zeroV []
def xI (n:Int):GExpr:= .mk 1 [] ⟨2,n,[]⟩ []
def xS (s:List UInt8):GExpr:= .mk 1 [] ⟨3,0,s⟩ []
def xO (s:List UInt8) (l:List GExpr):GExpr:= .mk 3 s zeroV l
def cndT (i d:Nat):List UInt8:=
 match i with
 |0=> [78,32,62,32]++digF d
 |1=> [75,32,61,32]++digF d
 |2=> [86,32,61,32,39,120,39]
 |3=> [78,32,37,32,50,32,61,32,49,32,65,78,68,32,75,32,60,32]++digF d
 |_=> [86,32,73,83,32,78,85,76,76,32,79,82,32,78,32,60,62,32]++digF d
def cndE (i d:Nat):GExpr:=
 match i with
 |0=>xO [62] [xN [78],xI d]
 |1=>xO [61] [xN [75],xI d]
 |2=>xO [61] [xN [86],xS [120]]
 |3=>xO [65,78,68] [xO [61] [xO [37] [xN [78],xI 2],xI 1],xO [60] [xN [75],xI d]]
 |_=>xO [79,82] [xO [73,83,78,85,76,76] [xN [86]],xO [60,62] [xN [78],xI d]]
def txP (m:Nat) (c:List UInt8):List UInt8:=
 [83,69,76,69,67,84,32,75,32,70,82,79,77,32,84]++(match m with
 |0=> []
 |1=> [32,87,72,69,82,69,32]++c
 |2=> [32,87,72,69,82,69,32,78,79,84,32,40]++c++ [41]
 |_=> [32,87,72,69,82,69,32,40]++c++ [41,32,73,83,32,78,85,76,76])
def cndM (m:Nat) (e:GExpr):GExpr:=match m with
 |2=>xO [78,79,84] [e]
 |3=>xO [73,83,78,85,76,76] [e]
 |_=>e
def chkP (m i d:Nat):Bool:=
 match (za2 (txP m (cndT i d))).1.stmts with
 | [s0]=>([decide ((zy4 (za2 (txP m (cndT i d))).1).2=0),decide (s0.kind=1),decide (zd9 s0.table=0),decide ((s0.items.map (·.kind))= [2]),yb2 (s0.items.map (·.e)) [xN [75]],!zE8 s0.items,
   s0.filtered==decide (m≠0),decide (colF tblT s0.order<0),decide (s0.limit= -1),decide (wQ 0 s0= [0,1]),decide (m=0)||beqE s0.where_ (cndM m (cndE i d)),decide (m=0)||decide ((zb2 tblT s0.where_).2=0)]:List Bool).all id
 |_=>false
def TV (v:GValue):Prop:=v=zeroV∨ ∃b,v=zp4 b
theorem yL2 (b:Bool):zk9 (zp4 b)=b:=by cases b<;>rfl
theorem zN9 {w:Int}: ∀{l:List GValue} {b:Bool},(∀v∈l,TV v)->TV (zq4 w l b)
 | [],b,_=>by
  rw[zq4]
  split
  .exact .inl rfl
  .exact .inr ⟨_,rfl⟩
 |v::l,b,h=>by
  rw[zq4]
  have h2: ∀v∈l,TV v:=fun x hx=>h x (B1 _ hx)
  split
  .exact zN9 h2
  .split
   .exact h v (B8 ..)
   .exact zN9 h2
theorem yL1 {v:GValue} (h:TV v):(if zk9 v=true then 1 else 0)+(if zk9 (za0 [78,79,84] [v]).1=true then 1 else 0)+(if zk9 (za0 [73,83,78,85,76,76] [v]).1=true then 1 else 0)=1/\(za0 [78,79,84] [v]).2=0/\(za0 [73,83,78,85,76,76] [v]).2=0:=by
 rcases h with rfl|⟨b,rfl⟩
 .decide
 .cases b<;>decide
structure RowT (row:List GValue):Prop where
 four: ∃r k v n:GValue,row= [r,k,v,n]/\(v.kind=3∨v.kind=0)/\k.kind=2/\(n.kind=2∨n.kind=0)
theorem zG1 {s:List UInt8} (hs:s= [62]∨s= [61]∨s= [60]∨s= [60,62]) (x y:GValue):TV (za0 s [x,y]).1/\(za0 s [x,y]).2=0:=by
 unfold za0
 rcases hs with rfl|rfl|rfl|rfl
 all_goals
  simp only[Dq,E1]
  rw[if_neg dc,if_neg dc,if_neg dc,if_neg dc]
  split
  .exact⟨.inl rfl,rfl⟩
  .rw[if_neg dc,if_neg dc,if_pos dc]
   exact⟨.inr ⟨_,rfl⟩,rfl⟩
theorem xo9 {row:List GValue} (h:RowT row) (i d:Nat):TV (evF tblT row (cndE i d)).1/\(evF tblT row (cndE i d)).2=0:=by
 obtain⟨r,k,v,n,rfl,hv,hk,hn⟩:=h.four
 have eN:evF tblT [r,k,v,n] (xN [78])=(n,0):=rfl
 have eK:evF tblT [r,k,v,n] (xN [75])=(k,0):=rfl
 have eV:evF tblT [r,k,v,n] (xN [86])=(v,0):=rfl
 have eI: ∀m:Int,evF tblT [r,k,v,n] (xI m)=(⟨2,m,[]⟩,0):=fun m=>rfl
 have eS: ∀s,evF tblT [r,k,v,n] (xS s)=(⟨3,0,s⟩,0):=fun s=>rfl
 have two: ∀(s:List UInt8) (a b:GExpr) (x y:GValue),evF tblT [r,k,v,n] a=(x,0)->evF tblT [r,k,v,n] b=(y,0)->evF tblT [r,k,v,n] (xO s [a,b])=za0 s [x,y]:=fun s a b x y ha hb=>by
  unfold xO
  rw[evF]
  simp[evsF,ha,hb]
 have one: ∀(s:List UInt8) (a:GExpr) (x:GValue),evF tblT [r,k,v,n] a=(x,0)->evF tblT [r,k,v,n] (xO s [a])=za0 s [x]:=fun s a x ha=>by
  unfold xO
  rw[evF]
  simp[evsF,ha]
 have fst: ∀{p:GValue×Int},p.2=0->p=(p.1,0):=fun{p} h=>by rw[<-h]
 unfold cndE
 split
 .rw[two _ _ _ _ _ eN (eI _)];exact zG1 (.inl rfl) _ _
 .rw[two _ _ _ _ _ eK (eI _)];exact zG1 (.inr (.inl rfl)) _ _
 .rw[two _ _ _ _ _ eV (eS _)];exact zG1 (.inr (.inl rfl)) _ _
 .have hm:(za0 [37] [n,⟨2,2,[]⟩]).2=0:=by
   unfold za0
   simp only[Dq,E1]
   rw[if_neg dc,if_neg dc,if_neg dc,if_neg dc]
   split
   .rfl
   .rw[if_neg dc,if_neg dc,if_neg dc]
    unfold zp9
    rw[if_neg dc,if_neg dc,if_neg dc,if_neg dc,if_pos rfl]
    rfl
  obtain⟨a1,a2⟩:=zG1 (s:= [61]) (.inr (.inl rfl)) (za0 [37] [n,⟨2,2,[]⟩]).1 ⟨2,1,[]⟩
  obtain⟨b1,b2⟩:=zG1 (s:= [60]) (.inr (.inr (.inl rfl))) k ⟨2,d,[]⟩
  rw[two _ _ _ _ _ ((two _ _ _ _ _ ((two _ _ _ _ _ eN (eI 2)).trans (fst hm)) (eI 1)).trans (fst a2)) ((two _ _ _ _ _ eK (eI _)).trans (fst b2))]
  refine⟨?_,rfl⟩
  refine zN9 fun x hx=> ?_
  rcases Ak.1 hx with rfl|hx
  .exact a1
  .rw[Ca]at hx;rw[hx];exact b1
 .obtain⟨b1,b2⟩:=zG1 (s:= [60,62]) (.inr (.inr (.inr rfl))) n ⟨2,d,[]⟩
  have a0:evF tblT [r,k,v,n] (xO [73,83,78,85,76,76] [xN [86]])=(zp4 (v.kind==0),0):=by rw[one _ _ _ eV];rfl
  rw[two _ _ _ _ _ a0 ((two _ _ _ _ _ eN (eI _)).trans (fst b2))]
  refine⟨?_,rfl⟩
  refine zN9 fun x hx=> ?_
  rcases Ak.1 hx with rfl|hx
  .exact .inr ⟨_,rfl⟩
  .rw[Ca]at hx;rw[hx];exact b1
theorem yV9 {row:List GValue} (e:GExpr) (h:(evF tblT row e).2=0):evF tblT row (cndM 2 e)=za0 [78,79,84] [(evF tblT row e).1]/\evF tblT row (cndM 3 e)=za0 [73,83,78,85,76,76] [(evF tblT row e).1]:=by
 have one: ∀(s:List UInt8),evF tblT row (xO s [e])=za0 s [(evF tblT row e).1]:=fun s=>by
  unfold xO
  rw[evF]
  simp[evsF,h]
 exact⟨one _,one _⟩
theorem yp9 {α:Type} (p q r:α->Bool): ∀(l:List α),(∀x∈l,(if p x=true then 1 else 0)+(if q x=true then 1 else 0)+(if r x=true then 1 else 0)=(1:Nat))->l.length=(l.filter p).length+(l.filter q).length+(l.filter r).length
 | [],_=>rfl
 |x::l,h=>by
  have ih:=yp9 p q r l fun y hy=>h y (B1 _ hy)
  have hx:=h x (B8 ..)
  rw[Co,Co,Co,Al]
  revert hx
  cases p x<;>cases q x<;>cases r x<;>simp<;>omega
theorem zP8: ∀(cs:List GCol) (vs:List GValue),vs.length=cs.length->zn6 cs vs=0->((vs.zip cs).all fun p=>zV6 p.1 p.2&&(p.1.kind !=0||p.2.null))=true
 | [],[],_,_=>rfl
 |c::cs,v::vs,hl,h=>by
  rw[zn6]at h
  by_cases h1:mayF v=false
  .rw[if_pos h1]at h;cases h
  rw[if_neg h1]at h
  by_cases h2:v.kind=0/\c.null=false
  .rw[if_pos h2]at h;cases h
  rw[if_neg h2]at h
  by_cases h3:v.kind≠0/\v.kind≠c.kind
  .rw[if_pos h3]at h;cases h
  rw[if_neg h3]at h
  rw[Dw,Am,zP8 cs vs (by simpa using hl) h,Cl]
  have aa:mayF v=true:=by simpa using h1
  unfold zV6
  simp only[aa,Be,A8,Bn,beq_iff_eq,bne_iff_ne,ne_eq]
  by_cases z:v.kind=0
  .refine⟨.inl z,.inr ?_⟩
   cases hn:c.null with
   |true=>rfl
   |false=>exact absurd ⟨z,hn⟩ h2
  .refine⟨.inr ?_,.inl z⟩
   exact E9 fun w=>h3 ⟨z,w⟩
theorem yP6 {x:Ln} (hk:LnOk x/\LnK x) (hr:x.r=0∨x.r=1):RowT x.v/\zl5 tblT.cols x.v=true/\ ∃k,x.v.getD 1 zeroV=k/\k.kind=2/\mayF k=true/\k.ok/\x.k=wY 3 0 k:=by
 obtain⟨tn,T,ah,hT,hm⟩:=hk.1.tab
 have h0:(ofS x.r).1=0:=by rcases hr with e|e<;>rw[e]<;>rfl
 have:tn=0:=om
 subst this
 have af:T=tblT:=by
  have:tabsS[0]? =some tblT:=rfl
  rw[this]at hT;exact(Option.some.inj hT).symm
 subst af
 have aa:=yY5 hk.1 hk.2 (tn:=0) om (show tabsS[0]? =some tblT from rfl)
 have hlen:=zk1 hm
 have hok:=hk.1.ok
 obtain⟨xr,xk,row⟩:=x
 simp only at hm hlen hok aa hr⊢
 have ad:zn6 tblT.cols row=0:=by
  unfold mayT at hm
  rw[if_neg (by rw[hlen];simp)]at hm
  exact hm
 have ab:=zP8 _ _ hlen ad
 match row,hlen with
 | [r,k,v,n],_=>
  have ag:xk=wY 3 0 k:=by
   unfold keyS at aa
   rw[if_neg (by rw[hm];simp)]at aa
   split at aa
   .simp only[Prod.mk.injEq]at aa;exact absurd aa.2.2 dc
   .simp only[Prod.mk.injEq]at aa;exact aa.2.1.symm
  have hB:zl5 tblT.cols [r,k,v,n]=true:=by
   unfold zl5
   rw[A8]
   refine⟨decide_eq_true rfl, ?_⟩
   rw[Aj]at ab⊢
   intro p hp
   have:=ab p hp
   rw[A8]at this
   exact this.1
  simp only[tblT,tabsS,tabT,Dq,Dw,Am]at ab
  simp only[zV6,A8,Bn,beq_iff_eq,bne_iff_ne]at ab
  obtain⟨_,⟨⟨k1,k2⟩,k3⟩,⟨⟨_,v2⟩,_⟩,⟨⟨_,n2⟩,_⟩,_⟩:=ab
  have ae:k.kind=2:=by
   rcases k2 with e|e
   .rcases k3 with w|w
    .exact absurd e w
    .cases w
   .exact e
  exact⟨⟨r,k,v,n,rfl,v2.symm,ae,n2.symm⟩,hB,k,rfl,ae,k1,hok k sm,ag⟩
theorem yi0 {T:GTable} {st:GStmt}: ∀{l acc:List Ln},(∀x∈l,(evR T x.v st.where_).2=0)->zo4 T st acc l=(acc++l.filter (fun x=>zk9 (evR T x.v st.where_).1),0)
 | [],acc,_=>by rw[zo4];simp
 |x::l,acc,h=>by
  rw[zo4,if_neg (by rw[h x (B8 ..)];simp),yi0 fun y hy=>h y (B1 _ hy),Co]
  by_cases q:zk9 (evR T x.v st.where_).1=true
  .simp[q]
  .simp[q]
def bndP (m i d:Nat):List UInt8×List UInt8:=
 if m=1/\i=1 then(wY 3 0 ⟨2,d,[]⟩,wY 3 0 ⟨2,d,[]⟩++ [0])else if m=1/\i=3 then((allF 3 0).1,wY 3 0 ⟨2,d,[]⟩)else allF 3 0
def chkB (m i d:Nat):Bool:=(za2 (txP m (cndT i d))).1.stmts.all fun s0=>decide (zl2 tabsS 0 s0=bndP m i d)
def inR (x:Ln):Bool:=x.r==0||x.r==1
theorem xD2 {kv:GValue}:Op.bytesLess (wY 3 0 kv) (allF 3 0).1=false/\Op.bytesLess (wY 3 0 kv) (allF 3 0).2=true:=by
 constructor
 .simp[wY,allF,isF,Op.bytesLess]
 .simp[wY,allF,isF,Op.bytesLess]
theorem yV5: ∀a:List UInt8,Op.bytesLess a (a++ [0])=true
 | []=>rfl
 |c::a=>by have:=yV5 a;simp[Op.bytesLess,this]
theorem xW6 {st:GStmt} (al:d<12) (ab:wQ 0 st= [0,1]) (hb:zl2 tabsS 0 st=bndP m i d) (hk:LsK was) (c:Ln->Bool)
  (hc: ∀x∈was,inR x=true->c x=true-> ∀k,x.v.getD 1 zeroV=k->(m=1->i=1->cmpV k ⟨2,d,[]⟩=0)/\(m=1->i=3->cmpV k ⟨2,d,[]⟩<0)):
  (was.filter (zj2 0 st)).filter c=(was.filter inR).filter c:=by
 rw[List.filter_filter,List.filter_filter]
 refine E0 fun x hx=> ?_
 have aa:(wQ 0 st).any (fun g=>(za3 0 g).1==x.r)=inR x:=by
  have ec: ∀a b:Int,(a==b)=(b==a):=fun a b=>Dn.2 (by rw[beq_iff_eq,beq_iff_eq];exact eq_comm)
  rw[ab]
  show(((0:Int)==x.r)||(((1:Int)==x.r)||false))=(x.r==0||x.r==1)
  rw[ec 0,ec 1,Bool.or_false]
 unfold zj2
 rw[aa,hb]
 cases ad:c x with
 |false=>simp
 |true=>
  cases hr:inR x with
  |false=>simp
  |true=>
   have ae:x.r=0∨x.r=1:=by simpa[inR]using hr
   obtain⟨_,_,k,af,ag,ah,ai,aj⟩:=yP6 (hk x hx) ae
   obtain⟨c1,c2⟩:=hc x hx hr ad k af
   rw[aj]
   have hd:mayF (⟨2,d,[]⟩:GValue)=true:=by rfl
   have ak:(⟨2,d,[]⟩:GValue).ok:=⟨by show -9223372036854775808<=(2:Int)/\(2:Int)<=9223372036854775807;omega,by show -9223372036854775808<=(d:Int)/\(d:Int)<=9223372036854775807;omega,by show 0<=maxLen;omega⟩
   obtain⟨o1,o2,_⟩:=xG7 (t:=0) (by rfl) ah hd ag ai ak
   obtain⟨a1,a2⟩:=xD2 (kv:=k)
   unfold bndP
   by_cases w1:m=1/\i=1
   .rw[if_pos w1,o2 (c1 w1.1 w1.2),wH,yV5];rfl
   rw[if_neg w1]
   by_cases w3:m=1/\i=3
   .rw[if_pos w3,a1,o1 (c2 w3.1 w3.2)];rfl
   rw[if_neg w3,a1,a2];rfl
def cP (m i d:Nat) (x:Ln):Bool:=m==0||zk9 (evF tblT x.v (cndM m (cndE i d))).1
theorem xe2 {a b:GValue} (ha:TV a) (hb:TV b) (h:zk9 (zq4 0 [a,b] false)=true):zk9 b=true:=by
 rcases ha with rfl|⟨x,rfl⟩<;>rcases hb with rfl|⟨y,rfl⟩
 .revert h;decide
 .revert h;cases y<;>decide
 .revert h;cases x<;>decide
 .revert h;cases x<;>cases y<;>decide
theorem yL3 {s:List UInt8} {x y:GValue} (hs:s= [61]∨s= [60]) (h:zk9 (za0 s [x,y]).1=true):zD1 s (cmpV x y)=true:=by
 unfold za0 at h
 simp only[Dq,E1]at h
 rcases hs with rfl|rfl
 all_goals
  rw[if_neg dc,if_neg dc,if_neg dc,if_neg dc]at h
  split at h
  .exact absurd h dc
  .rw[if_neg dc,if_neg dc,if_pos dc]at h
   rw[yL2]at h
   exact h
theorem ev3 (r k v n:GValue) (d:Nat): ∃A,TV A/\TV (za0 [60] [k,⟨2,d,[]⟩]).1/\evF tblT [r,k,v,n] (cndE 3 d)=(zq4 0 [A,(za0 [60] [k,⟨2,d,[]⟩]).1] false,0):=by
 have eN:evF tblT [r,k,v,n] (xN [78])=(n,0):=rfl
 have eK:evF tblT [r,k,v,n] (xN [75])=(k,0):=rfl
 have eI: ∀m:Int,evF tblT [r,k,v,n] (xI m)=(⟨2,m,[]⟩,0):=fun m=>rfl
 have two: ∀(s:List UInt8) (a b:GExpr) (x y:GValue),evF tblT [r,k,v,n] a=(x,0)->evF tblT [r,k,v,n] b=(y,0)->evF tblT [r,k,v,n] (xO s [a,b])=za0 s [x,y]:=fun s a b x y ha hb=>by
  unfold xO
  rw[evF]
  simp[evsF,ha,hb]
 have fst: ∀{p:GValue×Int},p.2=0->p=(p.1,0):=fun{p} h=>by rw[<-h]
 have hm:(za0 [37] [n,⟨2,2,[]⟩]).2=0:=by
  unfold za0
  simp only[Dq,E1]
  rw[if_neg dc,if_neg dc,if_neg dc,if_neg dc]
  split
  .rfl
  .rw[if_neg dc,if_neg dc,if_neg dc]
   unfold zp9
   rw[if_neg dc,if_neg dc,if_neg dc,if_neg dc,if_pos rfl]
   rfl
 obtain⟨a1,a2⟩:=zG1 (s:= [61]) (.inr (.inl rfl)) (za0 [37] [n,⟨2,2,[]⟩]).1 ⟨2,1,[]⟩
 obtain⟨b1,b2⟩:=zG1 (s:= [60]) (.inr (.inr (.inl rfl))) k ⟨2,d,[]⟩
 refine⟨_,a1,b1, ?_⟩
 show evF tblT [r,k,v,n] (xO [65,78,68] [xO [61] [xO [37] [xN [78],xI 2],xI 1],xO [60] [xN [75],xI d]])=_
 rw[two _ _ _ _ _ ((two _ _ _ _ _ ((two _ _ _ _ _ eN (eI 2)).trans (fst hm)) (eI 1)).trans (fst a2)) ((two _ _ _ _ _ eK (eI _)).trans (fst b2))]
 rfl
theorem xP9 {row:List GValue} (h:RowT row) {k:GValue} (hk:row.getD 1 zeroV=k):
  (zk9 (evF tblT row (cndE 1 d)).1=true->cmpV k ⟨2,d,[]⟩=0)/\(zk9 (evF tblT row (cndE 3 d)).1=true->cmpV k ⟨2,d,[]⟩<0):=by
 obtain⟨r,k',v,n,rfl,_,_,_⟩:=h.four
 have aa:k'=k:=hk
 subst aa
 refine⟨fun h=> ?_,fun h=> ?_⟩
 .have h2:zk9 (za0 [61] [k',⟨2,d,[]⟩]).1=true:=h
  have:=yL3 (.inl rfl) h2
  unfold zD1 at this
  rw[if_pos rfl]at this
  simpa using this
 .obtain⟨A,hA,hB,e⟩:=ev3 r k' v n d
  rw[e]at h
  have:=yL3 (.inr rfl) (xe2 hA hB h)
  unfold zD1 at this
  rw[if_neg dc,if_neg dc,if_pos rfl]at this
  simpa using this
theorem xE1 {row:List GValue} (h:RowT row) (m i d:Nat):(evF tblT row (cndM m (cndE i d))).2=0:=by
 obtain⟨h1,h2⟩:=xo9 h i d
 obtain⟨e2,e3⟩:=yV9 (cndE i d) h2
 obtain⟨_,t2,t3⟩:=yL1 h1
 match m with
 |0=>exact h2
 |1=>exact h2
 |2=>rw[e2];exact t2
 |3=>rw[e3];exact t3
 |m+4=>exact h2
theorem xo0 {x:Ln} (h:RowT x.v) (i d:Nat):(if cP 1 i d x=true then 1 else 0)+(if cP 2 i d x=true then 1 else 0)+(if cP 3 i d x=true then 1 else 0)=(1:Nat):=by
 obtain⟨h1,h2⟩:=xo9 h i d
 obtain⟨e2,e3⟩:=yV9 (cndE i d) h2
 obtain⟨t1,_,_⟩:=yL1 h1
 unfold cP
 rw[e2,e3]
 exact t1
theorem xa8 {items:List GItem} (hk:(items.map (·.kind))= [2]) (he:(items.map (·.e))= [xN [75]]): ∀{l:List Ln} {acc:List (List GValue)},(∀x∈l,zl5 tblT.cols x.v=true)->zt0 tblT items l acc=(acc++l.map (fun x=> [x.v.getD 1 zeroV]),0)
 | [],acc,_=>by rw[zt0];simp
 |x::l,acc,h=>by
  have hh:(items.head?.map (·.kind))=some 2:=by
   cases items with
   |nil=>simp at hk
   |cons y ys=>simp at hk;simp[hk.1]
  have aa:evR tblT x.v (xN [75])=(x.v.getD 1 zeroV,0):=by
   unfold evR
   rw[if_neg dc,if_neg (by rw[h x (B8 ..)];decide)]
   rfl
  have hX:evsX tblT x.v [xN [75]] []=([x.v.getD 1 zeroV],0):=by
   rw[evsX,aa]
   simp[evsX]
  rw[zt0,hh,if_neg dc,he,hX,if_neg sm,xa8 hk he fun y hy=>h y (B1 _ hy)]
  simp
theorem xU8 (hd:d<12) (hP:chkP m i d=true) (hB:chkB m i d=true) (hk:LsK was):
  (lotF (za2 (txP m (cndT i d))).1 was).1=(0,0,[⟨0,((was.filter inR).filter (cP m i d)).map fun x=> [x.v.getD 1 zeroV]⟩])/\zw3 (za2 (txP m (cndT i d))).1 was= []:=by
 unfold chkP at hP
 unfold chkB at hB
 obtain⟨L,hL⟩:=eX ((za2 (txP m (cndT i d))).1)
 rw[hL]at hP hB⊢
 split at hP
 rotate_left
 .cases hP
 rename_i st ak
 rw[ak]at hB
 simp only[Am,Cp,Cl,id,A8,Bn,Cr,decide_eq_true_eq,beq_iff_eq]at hP hB
 obtain⟨h1,h2,h3,h4,h5,h6,h7,h8,h9,al,ao,aq⟩:=hP
 have he:=yb3 _ _ h5
 have hT: ∀x∈was,inR x=true->RowT x.v/\zl5 tblT.cols x.v=true/\ ∃k,x.v.getD 1 zeroV=k/\k.kind=2/\mayF k=true/\k.ok/\x.k=wY 3 0 k:=fun x hx hr=>yP6 (hk x hx) (by simpa[inR]using hr)
 have ad: ∀x∈was.filter (zj2 0 st),x∈was/\inR x=true:=fun x hx=>by
  obtain⟨ab,aa⟩:=Bd.1 hx
  refine⟨ab, ?_⟩
  unfold zj2 at aa
  rw[al,A8]at aa
  have h0:(((0:Int)==x.r)||(((1:Int)==x.r)||false))=true:=aa.1
  simp at h0
  unfold inR
  rcases h0 with e|e
  .simp[<-e]
  .simp[<-e]
 have ae:m≠0->st.where_=cndM m (cndE i d):=fun hm=>by
  rcases ao with h|h
  .exact absurd h hm
  .exact yV4 _ _ h
 have af:m≠0-> ∀x∈was,inR x=true->evR tblT x.v st.where_=evF tblT x.v (cndM m (cndE i d)):=fun hm x hx hr=>by
  obtain⟨_,ar,_⟩:=hT x hx hr
  unfold evR
  rw[if_neg (by
    rcases aq with h|h;· exact absurd h hm
    .rw[h];simp),if_neg (by rw[ar];decide),ae hm]
 have ai: ∀x∈was,inR x=true->cP m i d x=true-> ∀k,x.v.getD 1 zeroV=k->(m=1->i=1->cmpV k ⟨2,d,[]⟩=0)/\(m=1->i=3->cmpV k ⟨2,d,[]⟩<0):=fun x hx hr hc k au=>by
  obtain⟨c1,c3⟩:=xP9 (hT x hx hr).1 (d:=d) au
  refine⟨fun hm hi=> ?_,fun hm hi=> ?_⟩
  .subst hm hi;exact c1 hc
  .subst hm hi;exact c3 hc
 have ag:=xW6 hd al hB hk (cP m i d) ai
 have an:metF 0 tblT st was=((was.filter inR).filter (cP m i d),0):=by
  unfold metF
  by_cases hm:m=0
  .rw[h7,if_neg (by simp[hm]),<-ag]
   have:(was.filter (zj2 0 st)).filter (cP m i d)=was.filter (zj2 0 st):=D9.2 fun x _=>by unfold cP;simp[hm]
   rw[this]
  .rw[h7,if_pos (by simp[hm])]
   rw[yi0 fun x hx=>by
    obtain⟨ab,aa⟩:=ad x hx
    rw[af hm x ab aa]
    exact xE1 (hT x ab aa).1 m i d]
   rw[Ck,<-ag]
   congr 1
   refine E0 fun x hx=> ?_
   obtain⟨ab,aa⟩:=ad x hx
   rw[af hm x ab aa]
   unfold cP
   simp[hm]
 have aj:zt0 tblT st.items ((was.filter inR).filter (cP m i d)) []=(((was.filter inR).filter (cP m i d)).map (fun x=> [x.v.getD 1 zeroV]),0):=by
  rw[xa8 h4 he fun x hx=>by
   obtain⟨ab,aa⟩:=Bd.1 (Bd.1 hx).1
   exact(hT x ab aa).2.1]
  rfl
 have av:doS st was=(⟨0,((was.filter inR).filter (cP m i d)).map (fun x=> [x.v.getD 1 zeroV])⟩,was,0):=by
  unfold doS
  simp only[h3]
  rw[if_neg om,show((0:Int).toNat:Int)=0 from rfl,show tabsS.getD (0:Int).toNat noT=tblT from rfl,an,if_neg sm,if_pos h2]
  unfold selF
  rw[h6,if_neg dc,h9]
  have aw: ¬0<=colF tblT st.order:=om
  have hlim: ∀l:List Ln,limF (-1) l=l:=fun l=>by unfold limF;rw[if_neg dc]
  simp only[hlim,if_neg aw,aj]
  rfl
 have ax:doL [st] 0 [] was=((0,0,[⟨0,((was.filter inR).filter (cP m i d)).map (fun x=> [x.v.getD 1 zeroV])⟩]),was):=by
  rw[doL,av]
  simp only[ne_eq,not_true_eq_false,if_false,doL,Ck]
 have ah:lotF L was=((0,0,[⟨0,((was.filter inR).filter (cP m i d)).map (fun x=> [x.v.getD 1 zeroV])⟩]),was):=by
  unfold lotF
  rw[if_neg (by rw[h1];decide),ak,ax]
  rfl
 refine⟨by rw[ah], ?_⟩
 unfold zw3
 rw[ah,if_neg sm,xe5]
 rfl
theorem xj3 (hk:LsK was) (i d:Nat):((was.filter inR).filter (cP 0 i d)).length=((was.filter inR).filter (cP 1 i d)).length+((was.filter inR).filter (cP 2 i d)).length+((was.filter inR).filter (cP 3 i d)).length:=by
 have h0:(was.filter inR).filter (cP 0 i d)=was.filter inR:=D9.2 fun x _=>rfl
 rw[h0]
 refine yp9 _ _ _ _ fun x hx=> ?_
 obtain⟨aa,ab⟩:=Bd.1 hx
 exact xo0 (yP6 (hk x aa) (by simpa[inR]using ab)).1 i d
theorem xW7:((List.range 4).all fun m=>(List.range 5).all fun i=>(List.range 12).all fun d=>chkP m i d&&chkB m i d)=true:=kR
theorem xQ0 (hm:m<4) (hi:i<5) (hd:d<12):chkP m i d=true/\chkB m i d=true:=by
 have h:=Aj.1 (Aj.1 (Aj.1 xW7 m (C0.2 hm)) i (C0.2 hi)) d (C0.2 hd)
 rwa [A8]at h
def zy9 (m i d:Nat) (was:List Ln):List (List GValue):=((was.filter inR).filter (cP m i d)).map fun x=> [x.v.getD 1 zeroV]
theorem xj2 (hi:i<5) (hd:d<12) (hk:LsK was):(∀m,m<4->(lotF (za2 (txP m (cndT i d))).1 was).1=(0,0,[⟨0,zy9 m i d was⟩])/\zw3 (za2 (txP m (cndT i d))).1 was= []/\(zy9 m i d was).length<=was.length)/\
  (zy9 0 i d was).length=(zy9 1 i d was).length+(zy9 2 i d was).length+(zy9 3 i d was).length:=by
 refine⟨fun m hm=> ?_, ?_⟩
 .obtain⟨h1,h2⟩:=xQ0 hm hi hd
  obtain⟨t1,t2⟩:=xU8 hd h1 h2 hk
  refine⟨t1,t2, ?_⟩
  unfold zy9
  rw[Aw]
  exact B2 (Bl _ _) (Bl _ _)
 .unfold zy9
  simp only[Aw]
  exact xj3 hk i d
theorem xJ8 (l:List (List GAct)) (hl:l.length<=30) (hok: ∀x∈l,x.length<=maxLen/\ ∀a∈x,a.ok):VCalls prog 18 [.sl .ro (l.map yU6)] [] (fun r s=>r= .ptr 0 0/\ ∃P,StI (240*l.length) P/\s= [.box (yT P)]):=by
 have au:=zD8
 refine iV 0 func18 ntmps18 results18 fun c hc hb=> ?_
 refine zA ?_
 simp[go_sem]
 refine xB1 ?_
 refine zI (S:=Nat×List (List Pr)) [0,3,4] (fun u=> [.sl .ro (l.map yU6),.ptr 0 0,.int .i64 u.1]) (fun u=> [.box (yT u.2)]) (fun u=>l.length - u.1) (fun u=>u.1<=l.length/\StI (240*u.1) u.2) hc hb (0,P0) ⟨A7 _,xY4⟩ ?_ ?_
 .exact aM 1 (by rw[Am,wZ];rfl) (zF (by simp[go_sem,xr9,xs0,xF1]) rfl)
 rintro⟨i,P⟩ ⟨hi,hS⟩
 simp only at hi hS
 by_cases q:i<l.length
 rotate_left
 .have e:i=l.length:=om
  rw[e]at hS
  refine zA ?_
  simp[go_sem,q]
  exact zs6 1 rfl (by simp[wZ]) dc (zp6 rfl) ⟨rfl,P,hS,rfl⟩
 have ei:=zS q om
 obtain⟨ab,hx⟩: ∃x,l[i]=x:=⟨_,rfl⟩
 obtain⟨av,aj⟩:=hok ab (hx▸Ac q)
 have ad:=xU6 ab av aj
 have ak:=xk9 aj
 obtain⟨tx,al⟩:=eX (yr6 ab)
 rw[al]at ad ak
 have af:=xm3 tx (B2 ak dc)
 have ae:=yf8 tx
 obtain⟨L,hL⟩:=eX ((za2 tx).1)
 rw[hL]at af ae
 have hn:240*i<=7500:=om
 have ag:=yh0 P hS.eight
 obtain⟨v1,v2,v3,v4⟩:=hS.vs hn
 have aa:=xy1 L ae (vsG 0 P) om (fun x hx=>⟨(v2 x hx).1,by have:=(v2 x hx).2.1;omega,(v2 x hx).2.2⟩) v4
 rw[yy1]at aa
 obtain⟨an,ao,ah⟩:=yK5 hS hn ae
 have ai:=xk6 P hS.eight (hS.small hn) _ an ao
 obtain⟨A,hA⟩:=eX ((lotF L (wU (vsG 0 P))).1)
 obtain⟨U,hU⟩:=eX (zw3 L (wU (vsG 0 P)))
 rw[hA,hU]at aa
 rw[hU]at ai ah
 obtain⟨P2,aq⟩:=eX (doP P U)
 rw[aq]at ai ah
 obtain⟨vs,ar⟩:=eX (vsG 0 P)
 rw[ar]at ag aa
 clear hA hU aq ar an ao v1 v2 v3 v4 hL al
 refine zA ?_
 simp[go_sem,q]
 refine yV [(0,0),(5,0),(6,0),(8,1),(9,0)] 1 rfl kR kR ?_
 simp[go_sem]
 refine pD au ?_
 simp[go_sem,q,hx,yU6]
 refine pD ad ?_
 simp[go_sem]
 refine pD af ?_
 simp[go_sem]
 refine yM3 1 ag cB rfl rfl (by rw[Am,wZ];rfl) rfl (fun i hi=>by simp[go_sem];omega) (fun _=>zb8 (n:=1) rfl) ?_
 simp[go_sem]
 refine pD aa ?_
 simp[go_sem,ansR]
 refine ze1 1 ai cB rfl rfl (by rw[Am,wZ];rfl) (zb8 (n:=1) rfl) ?_ ?_
 .rintro r s' ⟨rfl,rfl⟩
  exact⟨rfl,by rw[Am,wZ];rfl,rfl⟩
 rintro r s' ⟨rfl,rfl⟩
 simp[go_sem,ei]
 exact zH (i+1,P2) ⟨by show l.length - (i+1)<l.length - i;omega,⟨q,by rw[show 240*(i+1)=240*i+240 by omega];exact ah⟩,aN 1 (by rw[Am,wZ];rfl)⟩
theorem xO6: ∀k<256,IntKind.u8.wrap ((k:Nat):Int)=k:=dc
theorem yD9 (l:List (List GAct)) (hok: ∀x∈l,x.length<=maxLen/\ ∀a∈x,a.ok) (k aa:Int) (hk:0<=k/\k<=255) (hw:0<=aa/\aa<=255):Pure prog 10 [.sl .ro (l.map yU6),.int .u8 k,.int .u8 aa] (.bool true):=by
 have ae:=xe0
 refine iV 0 func10 ntmps10 results10 fun c hc hb=> ?_
 refine zA ?_
 simp[go_sem]
 refine pC ae ?_
 simp[go_sem]
 by_cases aC:l.length<=15
 rotate_left
 .have q:15<(l.length:Int):=om
  simp[go_sem,q]
  exact wR
 have q: ¬15<(l.length:Int):=om
 have aj:=xJ8 l om hok
 simp[go_sem,q]
 refine zI3 aj cB ⟨zL,tV⟩ ?_
 rintro r s ⟨rfl,P,hS,rfl⟩
 have hn:240*l.length<=7500:=om
 obtain⟨km,av,ak⟩: ∃km:Nat,k.tmod 12=km/\km<12:=⟨(k%12).toNat,by rw[Int.tmod_eq_emod_of_nonneg hk.1];omega,om⟩
 obtain⟨wi,aw,ax⟩: ∃wi:Nat,aa.tmod 5=wi/\wi<5:=⟨(aa%5).toNat,by rw[Int.tmod_eq_emod_of_nonneg hw.1];omega,om⟩
 have e8:IntKind.u8.wrap (km:Int)=km:=xO6 km om
 have ay:IntKind.i64.wrap (km:Int)=km:=i64_id om om
 have f8:IntKind.u8.wrap (wi:Int)=wi:=xO6 wi om
 have hd:=yb0 km om
 have az:=yb7 km
 obtain⟨m,hT⟩:=ye3 (vsG 0 P)
 have al:LsK (wU (vsG 0 P)):=fun x hx=>⟨hT.now.rows x hx,(hT.lines x hx).1⟩
 have a1:(wU (vsG 0 P)).length<=(yL (vsG 0 P)).length:=hT.len
 have aD:=hS.len
 obtain⟨ab,ad⟩:=xj2 ax ak al
 have hr: ∀m,m<4->VCalls prog 26 [.ptr 0 0,.str (txP m (cndT wi km))] [.box (yT P)] (fun r s=>r= .tup [.sl .ro ((zy9 m wi km (wU (vsG 0 P))).map rowV),.bool true]/\s= [.box (yT P)]):=fun m hm=>by
  obtain⟨t1,t2,_⟩:=ab m hm
  refine xI8 hS hn ?_ t1 t2
  have h1:(cndT wi km).length<=100:=by
   unfold cndT;split<;>simp<;>omega
  have h2:(txP m (cndT wi km)).length<=200:=by
   unfold txP;split<;>simp<;>omega
  unfold maxLen;omega
 have hl: ∀m,m<4->(zy9 m wi km (wU (vsG 0 P))).length<=7500:=fun m hm=>by have:=(ab m hm).2.2;omega
 have af:=hr 0 dc
 have ag:=hr 1 dc
 have ah:=hr 2 dc
 have ai:=hr 3 dc
 have a6:=hl 0 dc
 have a7:=hl 1 dc
 have a8:=hl 2 dc
 have aA:=hl 3 dc
 obtain⟨A0,an⟩: ∃x,zy9 0 wi km (wU (vsG 0 P))=x:=⟨_,rfl⟩
 obtain⟨A1,ao⟩: ∃x,zy9 1 wi km (wU (vsG 0 P))=x:=⟨_,rfl⟩
 obtain⟨A2,aq⟩: ∃x,zy9 2 wi km (wU (vsG 0 P))=x:=⟨_,rfl⟩
 obtain⟨A3,ar⟩: ∃x,zy9 3 wi km (wU (vsG 0 P))=x:=⟨_,rfl⟩
 rw[an]at af a6 ad
 rw[ao]at ag a7 ad
 rw[aq]at ah a8 ad
 rw[ar]at ai aA ad
 obtain⟨D,hD⟩:=eX (digF km)
 rw[hD]at hd az
 obtain⟨C,hC⟩:=eX (cndT wi km)
 have aE:C.length<=100:=by
  rw[<-hC];unfold cndT;rw[hD];split<;>simp<;>omega
 have aB:([[.str (78::32::62::32::D)],[.str (75::32::61::32::D)],[.str [86,32,61,32,39,120,39]],[.str (78::32::37::32::50::32::61::32::49::32::65::78::68::32::75::32::60::32::D)],[.str (86::32::73::83::32::78::85::76::76::32::79::82::32::78::32::60::62::32::D)]]:List (List V))[wi]? =some [.str C]:=by
  rw[<-hC,<-hD]
  have h5:wi=0∨wi=1∨wi=2∨wi=3∨wi=4:=om
  rcases h5 with rfl|rfl|rfl|rfl|rfl<;>rfl
 rw[hC]at af ag ah ai
 clear hr hl ab an ao aq ar hT al a1 hok aj ae m
 simp[go_sem,av,e8,ay]
 refine pC hd ?_
 have n4:4+D.length<=9223372036854775807:=om
 have n18:18+D.length<=9223372036854775807:=om
 have w5:(wi:Int)<5:=om
 have au:22+C.length<=9223372036854775807:=om
 have aF:27+C.length<=9223372036854775807:=om
 have aG:23+C.length<=9223372036854775807:=om
 have s1:IntKind.i64.wrap ((A1.length:Int)+A2.length)=(A1.length:Int)+A2.length:=i64_id om om
 have s2:IntKind.i64.wrap ((A1.length:Int)+A2.length+A3.length)=(A1.length:Int)+A2.length+A3.length:=i64_id om om
 have s3:(((A0.length:Nat):Int)==(A1.length:Int)+A2.length+A3.length)=true:=by rw[beq_iff_eq];omega
 simp[go_sem,n4,n18,aw,f8,aB,w5]
 refine ze1 1 af cB rfl rfl (by rw[Am,wZ];rfl) (zF (by simp[txP]) rfl) ?_ ?_
 .rintro r s' ⟨rfl,rfl⟩
  exact⟨rfl,by rw[Am,wZ];rfl,rfl⟩
 rintro r s' ⟨rfl,rfl⟩
 simp[go_sem,au]
 refine ze1 1 ag cB rfl rfl (by rw[Am,wZ];rfl) (zF (by simp[txP]) rfl) ?_ ?_
 .rintro r s' ⟨rfl,rfl⟩
  exact⟨rfl,by rw[Am,wZ];rfl,rfl⟩
 rintro r s' ⟨rfl,rfl⟩
 simp[go_sem,au]
 refine zG om ?_
 simp[go_sem]
 refine zG om ?_
 simp[go_sem]
 refine ze1 1 ah cB rfl rfl (by rw[Am,wZ];rfl) (zF (by simp[txP]) rfl) ?_ ?_
 .rintro r s' ⟨rfl,rfl⟩
  exact⟨rfl,by rw[Am,wZ];rfl,rfl⟩
 rintro r s' ⟨rfl,rfl⟩
 simp[go_sem]
 refine zG om ?_
 simp[go_sem]
 refine zG om ?_
 simp[go_sem]
 refine ze1 1 ai cB rfl rfl (by rw[Am,wZ];rfl) (zF (by simp[txP]) rfl) ?_ ?_
 .rintro r s' ⟨rfl,rfl⟩
  exact⟨rfl,by rw[Am,wZ];rfl,rfl⟩
 rintro r s' ⟨rfl,rfl⟩
 simp[go_sem,s1,s2,s3]
 exact wR
end Go.Proofs.YtefbicjgbaaieaaGreat
