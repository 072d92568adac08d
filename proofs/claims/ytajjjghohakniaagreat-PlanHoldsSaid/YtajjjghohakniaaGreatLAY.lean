/-
  The document's lexer, over trees (the library Vx); used by the theorem at the end of the claim.
  Conditions: as each theorem states them.
-/
import Derived.Test.YtajjjghohakniaaGreatLAX
namespace Go.Proofs.YtajjjghohakniaaGreat
open Go Go.Vx
set_option maxRecDepth 100000
variable {L:List GToken}
def whE (L:List GToken) (s:RS):Bool×GExpr:=if isT L zI6 s=true then(true,(exF L (zM s)).1)else(false,zeroE)
theorem xu4 (L:List GToken) (s:RS) (a b:List V): ∃g:Tag,whB L s a b (.box (a++ [.bool false,.int .i64 0,.str [],.int .i64 0,.int .i64 0,.str [],.sl .full []]++b))=
  .box (a++ [.bool (whE L s).1,.int .i64 (whE L s).2.kind,.str (whE L s).2.s,.int .i64 (whE L s).2.v.kind,.int .i64 (whE L s).2.v.n,.str (whE L s).2.v.s,.sl g ((whE L s).2.args.map GExpr.row)]++b):=by
 unfold whB whE
 by_cases q:isT L zI6 s=true
 ·exact⟨.ro,by rw[if_pos q,if_pos q];simp[rowC]⟩
 ·exact⟨.full,by rw[if_neg q,if_neg q];rfl⟩
theorem zZ4 (L:List GToken) (hL:LIn L) (s:RS) (hs:RIn L s) (ho:s.opn=0) (τ:St) (j:Nat) (c0 c1 c2 c3 c4 c12 c13 c14:V) (hj:τ[j]? =some (.box [c0,c1,c2,c3,c4,.bool false,.int .i64 0,.str [],.int .i64 0,.int .i64 0,.str [],.sl .full [],c12,c13,c14])):
  ∃g:Tag,VCalls Tryz.prog 118 [.ptr 0 0,.ptr (j+1) 0] (rB L s::τ) (fun r σ=>r= .tup []∧σ=rB L (whS L s)::τ.set j (.box [c0,c1,c2,c3,c4,.bool (whE L s).1,.int .i64 (whE L s).2.kind,.str (whE L s).2.s,.int .i64 (whE L s).2.v.kind,.int .i64 (whE L s).2.v.n,.str (whE L s).2.v.s,.sl g ((whE L s).2.args.map GExpr.row),c12,c13,c14])):=by
 obtain⟨g,hg⟩:=xu4 L s [c0,c1,c2,c3,c4] [c12,c13,c14]
 refine⟨g, ?_⟩
 have:=xn2 L hL s hs ho τ j c0 c1 c2 c3 c4 _ _ _ _ _ _ _ c12 c13 c14 hj
 simp only[List.cons_append,List.nil_append]at hg
 rw[hg]at this
 exact this
def zw1:List UInt8:= [70,82,79,77]
def yC4:List UInt8:= [79,82,68,69,82]
def wBY:List UInt8:= [66,89]
def wASC:List UInt8:= [65,83,67]
def xd6:List UInt8:= [68,69,83,67]
def zz2:List UInt8:= [76,73,77,73,84]
def zB6 (L:List GToken) (s:RS):(List UInt8×Bool)×RS:=
 if isT L yC4 s=true then
  if isT L wASC (yX L (yB L wBY (zM s))).2=true then(((yX L (yB L wBY (zM s))).1,false),zM (yX L (yB L wBY (zM s))).2)
  else if isT L xd6 (yX L (yB L wBY (zM s))).2=true then(((yX L (yB L wBY (zM s))).1,true),zM (yX L (yB L wBY (zM s))).2)
  else(((yX L (yB L wBY (zM s))).1,false),(yX L (yB L wBY (zM s))).2)
 else(([],false),s)
def zB4 (L:List GToken) (s:RS):Int×RS:=if isT L zz2 s=true then numF L (zM s)else(-1,s)
theorem zX1 (hL:LIn L) {s:RS} (h:RIn L s):UI L s (zB6 L s).2:=by
 unfold zB6
 split
 ·rename_i hi
  have h1:=yW hL h hi
  have h2:=h1.trans (yG hL wBY h1.rin)
  have h3:=h2.trans (zb1 hL h2.rin)
  split
  ·exact h3.trans (yW hL h3.rin ‹_›)
  split
  ·exact h3.trans (yW hL h3.rin ‹_›)
  ·exact h3
 ·exact UI.refl h
theorem yp9 (hL:LIn L) {s:RS} (h:RIn L s):UI L s (zB4 L s).2:=by
 unfold zB4
 split
 ·rename_i hi
  have h1:=yW hL h hi
  exact h1.trans (yy9 hL h1.rin)
 ·exact UI.refl h
def zi1 (L:List GToken) (s:RS):GStmt×RS:=
 let x:=zl7 L s
 let n:=yX L (yB L zw1 x.2)
 let w:=whE L n.2
 let o:=zB6 L (whS L n.2)
 let l:=zB4 L o.2
 (⟨1,n.1,x.1,[],[],w.1,w.2,o.1.1,o.1.2,l.1⟩,l.2)
theorem yd1 (hL:LIn L): ∀(n:Nat) (l:List GItem) (s:RS),RIn L s→s.opn=0→UI L s (zr3 L n l s).2
 |0,_,_,h,_=>UI.refl h
 |n+1,l,s,h,ho=>by
  unfold zr3
  split
  ·rename_i he
   have h1:=yi1 hL h ho
   split
   ·have h2:=h1.trans (yW hL h1.rin ‹_›)
    exact h2.trans (yd1 hL n _ _ h2.rin (h2.opn.trans ho))
   ·exact h1
  ·exact zk7 h
theorem zV6 (hL:LIn L) {s:RS} (h:RIn L s) (ho:s.opn=0):UI L s (zl7 L s).2:=by
 unfold zl7
 split
 ·exact yW hL h ‹_›
 ·exact yd1 hL 7 [] s h ho
def RT (L:List GToken) (x:GStmt×RS):V→St→Prop:=fun r σ=>r= .agg x.1.row∧σ= [rB L x.2]
theorem zf4 {g1 g2 g3 g4:Tag} {τ:St} {st:GStmt} {s:RS} {M:GStmt×RS} (h:(st,s)=M):
  wret (some (.agg [.int .i64 st.kind,.str st.table,.sl g1 (st.items.map GItem.row),.sl g2 (st.rows.map fun l=> [V.sl .ro (l.map GExpr.row)]),.sl g3 (st.sets.map GAssign.row),.bool st.filtered,.int .i64 st.where_.kind,.str st.where_.s,.int .i64 st.where_.v.kind,.int .i64 st.where_.v.n,.str st.where_.v.s,.sl g4 (st.where_.args.map GExpr.row),.str st.order,.bool st.down,.int .i64 st.limit])) 1 (RT L M) (rB L s::τ):=by
 subst h
 exact xH (L:=L) (r:= .agg st.row) (zn0 ⟨zZ rfl,zZ rfl,wD,wD,wD,zZ rfl,zZ rfl,zZ rfl,zZ rfl,zZ rfl,zZ rfl,wD,zZ rfl,zZ rfl,zZ rfl,trivial⟩) ⟨rfl,rfl⟩
theorem zW6 (st:GStmt):noS (.agg st.row)=true:=rfl
set_option maxHeartbeats 2000000 in
theorem yQ7 (L:List GToken) (hL:LIn L) (s:RS) (hs:RIn L s) (ho:s.opn=0):VCalls Tryz.prog 114 [.ptr 0 0] [rB L s] (RT L (zi1 L s)):=by
 generalize hM:zi1 L s=M
 unfold zi1 at hM
 have hx:=xi5 L hL s hs ho
 have hu1:=zV6 hL hs ho
 generalize zl7 L s=x at hx hu1 hM
 obtain⟨xl,s1⟩:=x
 simp only at hx hu1 hM
 have hm:=zb7 L hL s1 hu1.rin zw1
 have hu2:=hu1.trans (yG hL zw1 hu1.rin)
 generalize yB L zw1 s1=s2 at hm hu2 hM
 have hn:=zH9 L hL s2 hu2.rin
 have hu3:=hu2.trans (zb1 hL hu2.rin)
 generalize yX L s2=n at hn hu3 hM
 obtain⟨nm,s3⟩:=n
 simp only at hn hu3 hM
 obtain⟨gw,hw⟩:=zZ4 L hL s3 hu3.rin (hu3.opn.trans ho) [.box [.int .i64 0,.str [],.sl .full [],.sl .full [],.sl .full [],.bool false,.int .i64 0,.str [],.int .i64 0,.int .i64 0,.str [],.sl .full [],.str [],.bool false,.int .i64 0],.box [.int .i64 1,.str nm,.sl .ro (xl.map GItem.row),.sl .full [],.sl .full [],.bool false,.int .i64 0,.str [],.int .i64 0,.int .i64 0,.str [],.sl .full [],.str [],.bool false,.int .i64 (-1)]] 1 _ _ _ _ _ _ _ _ rfl
 have hu4:=hu3.trans (yf9 hL hu3.rin (hu3.opn.trans ho))
 generalize whS L s3=s4 at hw hu4 hM
 generalize whE L s3=w at hw hM
 obtain⟨wb,we⟩:=w
 simp only[List.set_cons_succ,List.set_cons_zero]at hw hM
 have hou:=zX1 hL hu4.rin
 generalize hO:zB6 L s4=o at hou hM
 obtain⟨⟨on,od⟩,s5⟩:=o
 simp only at hou hM
 have hu5:=hu4.trans hou
 generalize hl:zB4 L s5=l at hM
 obtain⟨ll,s6⟩:=l
 simp only at hM
 unfold zB6 at hO
 unfold zB4 at hl
 refine VCalls.intro 1 Tryz.func114 Tryz.ntmps114 Tryz.results114 rfl rfl (Nat.le_of_ble_eq_true rfl) fun c hc hb=>zJ ?_
 simp[go_sem]
 refine zH hx Tryz.callB159 rd_1 rfl ?_
 simp[go_sem]
 refine zH hm Tryz.callB71 (zL ⟨zA rfl,trivial⟩) rfl ?_
 simp[go_sem]
 refine zH hn Tryz.callB117 rd_1 rfl ?_
 simp[go_sem]
 refine zw2 hw Tryz.callB118 ?_
 rintro r σ ⟨rfl,rfl⟩ _
 simp[go_sem]
 by_cases qO:isT L yC4 s4=true
 rotate_left
 ·have qO:isT L yC4 s4=false:=by simpa using qO
  rw[if_neg (by rw[qO];decide)]at hO
  obtain⟨⟨rfl,rfl⟩,rfl⟩:([]=on∧false=od)∧s4=s5:=by simpa using hO
  refine zH (wC L hL s4 hu4.rin _ qO) Tryz.callB68 (zL ⟨zA rfl,trivial⟩) rfl ?_
  simp[go_sem]
  by_cases qL:isT L zz2 s4=true
  ·rw[if_pos qL]at hl
   have hnu:=yd7 L hL (zM s4) (hu5.rin.next hL qL)
   rw[hl]at hnu
   refine zH (xM L hL s4 hu5.rin _ qL) Tryz.callB68 (zL ⟨zA rfl,trivial⟩) rfl ?_
   simp[go_sem]
   refine zH hnu Tryz.callB72 rd_1 rfl ?_
   simp[go_sem]
   exact zf4 (st:=⟨1,nm,xl,[],[],wb,we,_,_,ll⟩) hM
  ·have qL:isT L zz2 s4=false:=by simpa using qL
   rw[if_neg (by rw[qL];decide)]at hl
   obtain⟨rfl,rfl⟩: -1=ll∧s4=s6:=by simpa using hl
   refine zH (wC L hL s4 hu5.rin _ qL) Tryz.callB68 (zL ⟨zA rfl,trivial⟩) rfl ?_
   simp[go_sem]
   exact zf4 (st:=⟨1,nm,xl,[],[],wb,we,_,_,-1⟩) hM
 rw[if_pos qO]at hO
 have h1:=yW hL hu4.rin qO
 have hb1:=zb7 L hL _ h1.rin wBY
 have h2:=yG hL wBY h1.rin
 generalize yB L wBY (zM s4)=t1 at hb1 h2 hO
 have hb2:=zH9 L hL _ h2.rin
 have h3:=zb1 hL h2.rin
 generalize yX L t1=n2 at hb2 h3 hO
 obtain⟨nm2,t2⟩:=n2
 simp only at hb2 h3 hO
 refine zH (xM L hL s4 hu4.rin _ qO) Tryz.callB68 (zL ⟨zA rfl,trivial⟩) rfl ?_
 simp[go_sem]
 refine zH hb1 Tryz.callB71 (zL ⟨zA rfl,trivial⟩) rfl ?_
 simp[go_sem]
 refine zH hb2 Tryz.callB117 rd_1 rfl ?_
 simp[go_sem]
 by_cases qA:isT L wASC t2=true
 ·rw[if_pos qA]at hO
  obtain⟨⟨rfl,rfl⟩,rfl⟩:(nm2=on∧false=od)∧zM t2=s5:=by simpa using hO
  refine zH (xM L hL t2 h3.rin _ qA) Tryz.callB68 (zL ⟨zA rfl,trivial⟩) rfl ?_
  simp[go_sem]
  by_cases qL:isT L zz2 (zM t2)=true
  ·rw[if_pos qL]at hl
   have hnu:=yd7 L hL (zM (zM t2)) (hu5.rin.next hL qL)
   rw[hl]at hnu
   refine zH (xM L hL (zM t2) hu5.rin _ qL) Tryz.callB68 (zL ⟨zA rfl,trivial⟩) rfl ?_
   simp[go_sem]
   refine zH hnu Tryz.callB72 rd_1 rfl ?_
   simp[go_sem]
   exact zf4 (st:=⟨1,nm,xl,[],[],wb,we,_,_,ll⟩) hM
  ·have qL:isT L zz2 (zM t2)=false:=by simpa using qL
   rw[if_neg (by rw[qL];decide)]at hl
   obtain⟨rfl,rfl⟩: -1=ll∧(zM t2)=s6:=by simpa using hl
   refine zH (wC L hL (zM t2) hu5.rin _ qL) Tryz.callB68 (zL ⟨zA rfl,trivial⟩) rfl ?_
   simp[go_sem]
   exact zf4 (st:=⟨1,nm,xl,[],[],wb,we,_,_,-1⟩) hM
 have qA:isT L wASC t2=false:=by simpa using qA
 rw[if_neg (by rw[qA];decide)]at hO
 refine zH (wC L hL t2 h3.rin _ qA) Tryz.callB68 (zL ⟨zA rfl,trivial⟩) rfl ?_
 simp[go_sem]
 by_cases qD:isT L xd6 t2=true
 ·rw[if_pos qD]at hO
  obtain⟨⟨rfl,rfl⟩,rfl⟩:(nm2=on∧true=od)∧zM t2=s5:=by simpa using hO
  refine zH (xM L hL t2 h3.rin _ qD) Tryz.callB68 (zL ⟨zA rfl,trivial⟩) rfl ?_
  simp[go_sem]
  by_cases qL:isT L zz2 (zM t2)=true
  ·rw[if_pos qL]at hl
   have hnu:=yd7 L hL (zM (zM t2)) (hu5.rin.next hL qL)
   rw[hl]at hnu
   refine zH (xM L hL (zM t2) hu5.rin _ qL) Tryz.callB68 (zL ⟨zA rfl,trivial⟩) rfl ?_
   simp[go_sem]
   refine zH hnu Tryz.callB72 rd_1 rfl ?_
   simp[go_sem]
   exact zf4 (st:=⟨1,nm,xl,[],[],wb,we,_,_,ll⟩) hM
  ·have qL:isT L zz2 (zM t2)=false:=by simpa using qL
   rw[if_neg (by rw[qL];decide)]at hl
   obtain⟨rfl,rfl⟩: -1=ll∧(zM t2)=s6:=by simpa using hl
   refine zH (wC L hL (zM t2) hu5.rin _ qL) Tryz.callB68 (zL ⟨zA rfl,trivial⟩) rfl ?_
   simp[go_sem]
   exact zf4 (st:=⟨1,nm,xl,[],[],wb,we,_,_,-1⟩) hM
 ·have qD:isT L xd6 t2=false:=by simpa using qD
  rw[if_neg (by rw[qD];decide)]at hO
  obtain⟨⟨rfl,rfl⟩,rfl⟩:(nm2=on∧false=od)∧t2=s5:=by simpa using hO
  refine zH (wC L hL t2 h3.rin _ qD) Tryz.callB68 (zL ⟨zA rfl,trivial⟩) rfl ?_
  simp[go_sem]
  by_cases qL:isT L zz2 t2=true
  ·rw[if_pos qL]at hl
   have hnu:=yd7 L hL (zM t2) (hu5.rin.next hL qL)
   rw[hl]at hnu
   refine zH (xM L hL t2 hu5.rin _ qL) Tryz.callB68 (zL ⟨zA rfl,trivial⟩) rfl ?_
   simp[go_sem]
   refine zH hnu Tryz.callB72 rd_1 rfl ?_
   simp[go_sem]
   exact zf4 (st:=⟨1,nm,xl,[],[],wb,we,_,_,ll⟩) hM
  ·have qL:isT L zz2 t2=false:=by simpa using qL
   rw[if_neg (by rw[qL];decide)]at hl
   obtain⟨rfl,rfl⟩: -1=ll∧t2=s6:=by simpa using hl
   refine zH (wC L hL t2 hu5.rin _ qL) Tryz.callB68 (zL ⟨zA rfl,trivial⟩) rfl ?_
   simp[go_sem]
   exact zf4 (st:=⟨1,nm,xl,[],[],wb,we,_,_,-1⟩) hM
end Go.Proofs.YtajjjghohakniaaGreat
namespace Go.Proofs.YtajjjghohakniaaGreat
open Go Go.Vx
set_option maxRecDepth 100000
variable {L:List GToken}
def rowL (L:List GToken):Nat→List GExpr→RS→Bool×List GExpr×RS
 |0,l,s=>(false,l,s)
 |n+1,l,s=>
  if(zd8 L l.length 6 (begF L false s) s).err=0 then
   (if isT L [44] (exF L s).2=true then rowL L n (l++ [(exF L s).1]) (zM (exF L s).2)else(true,l++ [(exF L s).1],(exF L s).2))
  else(false,l,zd8 L l.length 6 (begF L false s) s)
def zz8 (L:List GToken):Nat→List (List GExpr)→RS→List (List GExpr)×RS
 |0,R,s=>(R,s)
 |n+1,R,s=>
  if(zd8 L R.length 16 (isT L [40] s) s).err=0 then
   (if(rowL L 7 [] (yB L [40] s)).1=true then
    (if isT L [44] (yB L [41] (rowL L 7 [] (yB L [40] s)).2.2)=true then zz8 L n (R++ [(rowL L 7 [] (yB L [40] s)).2.1]) (zM (yB L [41] (rowL L 7 [] (yB L [40] s)).2.2))
    else(R++ [(rowL L 7 [] (yB L [40] s)).2.1],yB L [41] (rowL L 7 [] (yB L [40] s)).2.2))
   else(R,(rowL L 7 [] (yB L [40] s)).2.2))
  else(R,zd8 L R.length 16 (isT L [40] s) s)
def zZ2:List UInt8:= [73,78,84,79]
def zF0:List UInt8:= [86,65,76,85,69,83]
def zh8 (L:List GToken) (s:RS):GStmt×RS:=
 let n:=yX L (yB L zZ2 s)
 let r:=zz8 L 17 [] (yB L zF0 n.2)
 (⟨2,n.1,[],r.1,[],false,zeroE,[],false,0⟩,r.2)
theorem yj6 (hL:LIn L): ∀(n:Nat) (l:List GExpr) (s:RS),RIn L s→s.opn=0→UI L s (rowL L n l s).2.2
 |0,_,_,h,_=>UI.refl h
 |n+1,l,s,h,ho=>by
  unfold rowL
  split
  ·have h1:=zF9 hL h ho
   split
   ·have h2:=h1.trans (yW hL h1.rin ‹_›)
    exact h2.trans (yj6 hL n _ _ h2.rin (h2.opn.trans ho))
   ·exact h1
  ·exact zk7 h
theorem ys9 (hL:LIn L): ∀(n:Nat) (R:List (List GExpr)) (s:RS),RIn L s→s.opn=0→UI L s (zz8 L n R s).2
 |0,_,_,h,_=>UI.refl h
 |n+1,R,s,h,ho=>by
  unfold zz8
  split
  ·have h1:=yG hL [40] h
   have h2:=h1.trans (yj6 hL 7 [] _ h1.rin (h1.opn.trans ho))
   split
   ·have h3:=h2.trans (yG hL [41] h2.rin)
    split
    ·have h4:=h3.trans (yW hL h3.rin ‹_›)
     exact h4.trans (ys9 hL n _ _ h4.rin (h4.opn.trans ho))
    ·exact h3
   ·exact h2
  ·exact zk7 h
theorem yx2 (hL:LIn L) {s:RS} (h:RIn L s) (ho:s.opn=0):UI L s (zh8 L s).2:=by
 unfold zh8
 have h1:=yG hL zZ2 h
 have h2:=h1.trans (zb1 hL h1.rin)
 have h3:=h2.trans (yG hL zF0 h2.rin)
 exact h3.trans (ys9 hL 17 [] _ h3.rin (h3.opn.trans ho))
def inB (nm:List UInt8) (R:List (List GExpr)):Ob:= .box [.int .i64 2,.str nm,.sl .full [],.sl (.app 3) (R.map fun l=> [V.sl .ro (l.map GExpr.row)]),.sl .full [],.bool false,.int .i64 0,.str [],.int .i64 0,.int .i64 0,.str [],.sl .full [],.str [],.bool false,.int .i64 0]
def zSt:Ob:= .box [.int .i64 0,.str [],.sl .full [],.sl .full [],.sl .full [],.bool false,.int .i64 0,.str [],.int .i64 0,.int .i64 0,.str [],.sl .full [],.str [],.bool false,.int .i64 0]
set_option maxHeartbeats 2000000 in
theorem yM7 (L:List GToken) (hL:LIn L) (s0:RS) (hs0:RIn L s0) (ho0:s0.opn=0):VCalls Tryz.prog 115 [.ptr 0 0] [rB L s0] (RT L (zh8 L s0)):=by
 generalize hM:zh8 L s0=M
 unfold zh8 at hM
 have hm1:=zb7 L hL s0 hs0 zZ2
 have hu1:=yG hL zZ2 hs0
 generalize yB L zZ2 s0=s1 at hm1 hu1 hM
 have hn:=zH9 L hL s1 hu1.rin
 have hu2:=hu1.trans (zb1 hL hu1.rin)
 generalize yX L s1=n at hn hu2 hM
 obtain⟨nm,s2⟩:=n
 simp only at hn hu2 hM
 have hm2:=zb7 L hL s2 hu2.rin zF0
 have hu3:=hu2.trans (yG hL zF0 hu2.rin)
 generalize yB L zF0 s2=s3 at hm2 hu3 hM
 obtain⟨X,hX⟩: ∃X,zz8 L 17 [] s3=X:=⟨_,rfl⟩
 rw[hX]at hM
 have ret: ∀(R:List (List GExpr)) (s:RS) (τ:St),(R,s)=X→wret (some (.agg [.int .i64 2,.str nm,.sl .full [],.sl (.app 3) (R.map fun l=> [V.sl .ro (l.map GExpr.row)]),.sl .full [],.bool false,.int .i64 0,.str [],.int .i64 0,.int .i64 0,.str [],.sl .full [],.str [],.bool false,.int .i64 0])) 1 (RT L M) (rB L s::τ):=fun R s τ h=>by
  subst h
  exact zf4 (st:=⟨2,nm,[],R,[],false,zeroE,[],false,0⟩) hM
 refine VCalls.introV 1 Tryz.func115 Tryz.ntmps115 Tryz.results115 rfl rfl (Nat.le_of_ble_eq_true rfl) fun c hc hb=> ?_
 refine zC ?_
 simp[go_sem]
 refine zH hm1 Tryz.callB71 (zL ⟨zA rfl,trivial⟩) rfl ?_
 simp[go_sem]
 refine zH hn Tryz.callB117 rd_1 rfl ?_
 simp[go_sem]
 refine zH hm2 Tryz.callB71 (zL ⟨zA rfl,trivial⟩) rfl ?_
 simp[go_sem]
 refine zZ3 2 3 1 _ (by decide) rfl rfl ?_
 simp only[List.set_cons_succ,List.set_cons_zero]
 refine zN (S:=List (List GExpr)×RS) [0,2,3] (fun u=> [.ptr 0 0,.ptr 1 0,.ptr 2 0]) (fun u=> [rB L u.2,zSt,inB nm u.1,.app u.1.length 1]) (fun u=>17 - u.1.length) (fun u=>u.1.length≤16∧UI L s0 u.2∧zz8 L (17 - u.1.length) u.1 u.2=X) hc hb ([],s3) ⟨Nat.zero_le _,hu3,hX⟩ ?_ ?_
 ·exact at_n 4 (by simp[go_sem];exact⟨rfl,rfl⟩) rfl (by simp[rB,zSt,inB,ltOb,ltC,ltK]) (by decide) (zE (by simp[go_sem]) rfl)
 rintro⟨R,s⟩ ⟨hR,hu,hinv⟩
 simp only at hR hu hinv
 have hs:=hu.rin
 have ho:=hu.opn.trans ho0
 have hbeg:=is_w L hL s hs [40]
 have hmore:=zW3 L hL s hs R.length 16 (isT L [40] s)
 have hme:=ze4 (L:=L) (n:=R.length) (most:=16) (b:=isT L [40] s) (s:=s)
 rw[show 17 - R.length=(16 - R.length)+1 by omega,zz8]at hinv
 generalize isT L [40] s=bg at hbeg hmore hme hinv
 generalize zd8 L R.length 16 bg s=m at hmore hme hinv
 by_cases q:m.err=0
 rotate_left
 ·have q':(m.err==0)=false:=by simpa using q
  rw[if_neg q]at hinv
  rw[q']at hmore
  refine zC ?_
  simp[go_sem]
  refine wT [(5,3),(6,3)] 1 4 (by simp) (by kernel_rfl) (by kernel_rfl) ?_
  simp[go_sem,inB]
  refine zs9 hbeg Tryz.callB69 (zL ⟨zA rfl,trivial⟩) rfl ?_
  simp[go_sem]
  refine zs9 hmore Tryz.callB66 (zL ⟨zA rfl,zA rfl,zA rfl,trivial⟩) rfl ?_
  simp[go_sem]
  exact ret _ _ _ hinv
 have q':(m.err==0)=true:=by simpa using q
 obtain⟨he,hl6,rfl⟩:=hme q
 rw[if_pos q]at hinv
 rw[q']at hmore
 have hm4:=zb7 L hL m hs [40]
 have hu4:=hu.trans (yG hL [40] hs)
 generalize yB L [40] m=s4 at hm4 hu4 hinv
 obtain⟨Y,hY⟩: ∃Y,rowL L 7 [] s4=Y:=⟨_,rfl⟩
 rw[hY]at hinv
 refine zC ?_
 simp[go_sem]
 refine wT [(5,3),(6,3)] 1 4 (by simp) (by kernel_rfl) (by kernel_rfl) ?_
 simp[go_sem,inB]
 refine zs9 hbeg Tryz.callB69 (zL ⟨zA rfl,trivial⟩) rfl ?_
 simp[go_sem]
 refine zs9 hmore Tryz.callB66 (zL ⟨zA rfl,zA rfl,zA rfl,trivial⟩) rfl ?_
 simp[go_sem]
 refine zH hm4 Tryz.callB71 (zL ⟨zA rfl,trivial⟩) rfl ?_
 simp[go_sem]
 refine zu4 4 6 (by decide) (by simp[go_sem]) ?_
 refine zN (S:=List GExpr×RS) [0,2,3,4] (fun u=> [.ptr 0 0,.ptr 1 0,.ptr 2 0,.sl (.app 4) (u.1.map GExpr.row)]) (fun u=> [rB L u.2,zSt,inB nm R,.app R.length 1,.app u.1.length 6]) (fun u=>7 - u.1.length) (fun u=>u.1.length≤6∧UI L s0 u.2∧rowL L (7 - u.1.length) u.1 u.2=Y) hc hb ([],s4) ⟨Nat.zero_le _,hu4,hY⟩ ?_ ?_
 ·exact at_n 5 (by simp[go_sem];rfl) rfl (by simp[rB,zSt,inB,ltOb,ltC,ltK]) (by decide) (zE (by simp[go_sem]) rfl)
 rintro⟨l,t⟩ ⟨hl,hut,hrow⟩
 simp only at hl hut hrow
 have ht:=hut.rin
 have hto:=hut.opn.trans ho0
 have hbeg2:=ym2 L hL t ht false
 have hmore2:=zW3 L hL t ht l.length 6 (begF L false t)
 have hme2:=ze4 (L:=L) (n:=l.length) (most:=6) (b:=begF L false t) (s:=t)
 rw[show 7 - l.length=(6 - l.length)+1 by omega,rowL]at hrow
 generalize begF L false t=bg2 at hbeg2 hmore2 hme2 hrow
 generalize zd8 L l.length 6 bg2 t=m2 at hmore2 hme2 hrow
 by_cases q2:m2.err=0
 rotate_left
 ·have q2':(m2.err==0)=false:=by simpa using q2
  rw[if_neg q2]at hrow
  rw[q2']at hmore2
  have hY1:Y.1=false:=by rw[←hrow]
  have hY2:Y.2.2=m2:=by rw[←hrow]
  rw[if_neg (by rw[hY1];decide),hY2]at hinv
  refine zC ?_
  simp[go_sem]
  refine zH hbeg2 Tryz.callB160 (zL ⟨zA rfl,trivial⟩) rfl ?_
  simp[go_sem]
  refine zH hmore2 Tryz.callB66 (zL ⟨zA rfl,zA rfl,zA rfl,trivial⟩) rfl ?_
  simp[go_sem,inB]
  exact ret _ _ _ hinv
 have q2':(m2.err==0)=true:=by simpa using q2
 obtain⟨he2,hl62,rfl⟩:=hme2 q2
 rw[if_pos q2]at hrow
 rw[q2']at hmore2
 have hx:=ex_w L hL m2 ht hto
 have hux:=hut.trans (zF9 hL ht hto)
 generalize exF L m2=x at hx hux hrow
 by_cases q3:isT L [44] x.2=true
 ·rw[if_pos q3]at hrow
  refine zC ?_
  simp[go_sem]
  refine zH hbeg2 Tryz.callB160 (zL ⟨zA rfl,trivial⟩) rfl ?_
  simp[go_sem]
  refine zH hmore2 Tryz.callB66 (zL ⟨zA rfl,zA rfl,zA rfl,trivial⟩) rfl ?_
  simp[go_sem]
  refine wP hx Tryz.callB161 rd_1 ?_
  simp[go_sem,GExpr.row_eq]
  refine zO ⟨by omega,xD rfl⟩ ?_
  simp[go_sem]
  refine zH (xM L hL x.2 hux.rin _ q3) Tryz.callB68 (zL ⟨zA rfl,trivial⟩) rfl ?_
  simp[go_sem]
  refine zP (l++ [x.1],zM x.2) ⟨by simp;omega,⟨by simp;omega,hux.trans (yW hL hux.rin q3),by simp only[List.length_append,List.length_singleton,show 7 - (l.length+1)=6 - l.length by omega];exact hrow⟩, ?_⟩
  exact at_n 5 (by simp[go_sem]) rfl (by simp[rB,zSt,inB,ltOb,ltC,ltK]) (by decide) (zE (by simp[go_sem,GExpr.row_eq]) rfl)
 have q3:isT L [44] x.2=false:=by simpa using q3
 rw[if_neg (by rw[q3];decide)]at hrow
 have hY1:Y.1=true:=by rw[←hrow]
 have hY2:Y.2.2=x.2:=by rw[←hrow]
 have hY3:Y.2.1=l++ [x.1]:=by rw[←hrow]
 rw[if_pos hY1,hY2,hY3]at hinv
 have hm5:=zb7 L hL x.2 hux.rin [41]
 have hu5:=hux.trans (yG hL [41] hux.rin)
 generalize yB L [41] x.2=s5 at hm5 hu5 hinv
 refine zC ?_
 simp[go_sem]
 refine zH hbeg2 Tryz.callB160 (zL ⟨zA rfl,trivial⟩) rfl ?_
 simp[go_sem]
 refine zH hmore2 Tryz.callB66 (zL ⟨zA rfl,zA rfl,zA rfl,trivial⟩) rfl ?_
 simp[go_sem]
 refine wP hx Tryz.callB161 rd_1 ?_
 simp[go_sem,GExpr.row_eq]
 refine zO ⟨by omega,xD rfl⟩ ?_
 simp[go_sem]
 refine zH (wC L hL x.2 hux.rin _ q3) Tryz.callB68 (zL ⟨zA rfl,trivial⟩) rfl ?_
 simp[go_sem]
 refine zH hm5 Tryz.callB71 (zL ⟨zA rfl,trivial⟩) rfl ?_
 simp[go_sem,inB]
 refine zO ⟨by omega,xD rfl⟩ ?_
 simp[go_sem]
 by_cases q5:isT L [44] s5=true
 ·rw[if_pos q5]at hinv
  refine zH (xM L hL s5 hu5.rin _ q5) Tryz.callB68 (zL ⟨zA rfl,trivial⟩) rfl ?_
  simp[go_sem]
  refine zP (R++ [l++ [x.1]],zM s5) ⟨by simp;omega,⟨by simp;omega,hu5.trans (yW hL hu5.rin q5),by simp only[List.length_append,List.length_singleton,show 17 - (R.length+1)=16 - R.length by omega];exact hinv⟩, ?_⟩
  exact at_n 4 (by simp[go_sem,GExpr.row_eq]) rfl (by simp[rB,zSt,ltOb,ltC,ltK]) (by decide) (zE (by simp[go_sem]) rfl)
 ·have q5:isT L [44] s5=false:=by simpa using q5
  rw[if_neg (by rw[q5];decide)]at hinv
  refine zH (wC L hL s5 hu5.rin _ q5) Tryz.callB68 (zL ⟨zA rfl,trivial⟩) rfl ?_
  simp[go_sem]
  have hr:=ret (R++ [l++ [x.1]]) s5
  simp[GExpr.row_eq]at hr
  exact hr _ hinv
end Go.Proofs.YtajjjghohakniaaGreat
namespace Go.Proofs.YtajjjghohakniaaGreat
open Go Go.Vx
set_option maxRecDepth 100000
variable {L:List GToken}
def zN3 (L:List GToken) (s:RS):Bool:=(tokF L s).kind==1&&zi6 (tokF L s).s
def wSET:List UInt8:= [83,69,84]
def zv8 (L:List GToken):Nat→List GAssign→RS→Bool×List GAssign×RS
 |0,l,s=>(false,l,s)
 |n+1,l,s=>
  if(zd8 L l.length 6 (zN3 L s) s).err=0 then
   (if isT L [44] (exF L (yB L [61] (yX L s).2)).2=true then zv8 L n (l++ [⟨(yX L s).1,(exF L (yB L [61] (yX L s).2)).1⟩]) (zM (exF L (yB L [61] (yX L s).2)).2)
   else(true,l++ [⟨(yX L s).1,(exF L (yB L [61] (yX L s).2)).1⟩],(exF L (yB L [61] (yX L s).2)).2))
  else(false,l,zd8 L l.length 6 (zN3 L s) s)
def zi3 (L:List GToken) (s:RS):GStmt×RS:=
 let n:=yX L s
 let r:=zv8 L 7 [] (yB L wSET n.2)
 if r.1=true then(⟨3,n.1,[],[],r.2.1,(whE L r.2.2).1,(whE L r.2.2).2,[],false,0⟩,whS L r.2.2)
 else(⟨3,n.1,[],[],r.2.1,false,zeroE,[],false,0⟩,r.2.2)
theorem zY2 (hL:LIn L): ∀(n:Nat) (l:List GAssign) (s:RS),RIn L s→s.opn=0→UI L s (zv8 L n l s).2.2
 |0,_,_,h,_=>UI.refl h
 |n+1,l,s,h,ho=>by
  unfold zv8
  split
  ·have h1:=zb1 hL h
   have h2:=h1.trans (yG hL [61] h1.rin)
   have h3:=h2.trans (zF9 hL h2.rin (h2.opn.trans ho))
   split
   ·have h4:=h3.trans (yW hL h3.rin ‹_›)
    exact h4.trans (zY2 hL n _ _ h4.rin (h4.opn.trans ho))
   ·exact h3
  ·exact zk7 h
theorem yC1 (hL:LIn L) {s:RS} (h:RIn L s) (ho:s.opn=0):UI L s (zi3 L s).2:=by
 unfold zi3
 have h1:=zb1 hL h
 have h2:=h1.trans (yG hL wSET h1.rin)
 have h3:=h2.trans (zY2 hL 7 [] _ h2.rin (h2.opn.trans ho))
 simp only
 split
 ·exact h3.trans (yf9 hL h3.rin (h3.opn.trans ho))
 ·exact h3
def upB (nm:List UInt8) (l:List GAssign):Ob:= .box [.int .i64 3,.str nm,.sl .full [],.sl .full [],.sl (.app 3) (l.map GAssign.row),.bool false,.int .i64 0,.str [],.int .i64 0,.int .i64 0,.str [],.sl .full [],.str [],.bool false,.int .i64 0]
set_option maxHeartbeats 2000000 in
theorem yR4 (L:List GToken) (hL:LIn L) (s0:RS) (hs0:RIn L s0) (ho0:s0.opn=0):VCalls Tryz.prog 116 [.ptr 0 0] [rB L s0] (RT L (zi3 L s0)):=by
 generalize hM:zi3 L s0=M
 unfold zi3 at hM
 have hn:=zH9 L hL s0 hs0
 have hu2:=zb1 hL hs0
 generalize yX L s0=n at hn hu2 hM
 obtain⟨nm,s2⟩:=n
 simp only at hn hu2 hM
 have hm2:=zb7 L hL s2 hu2.rin wSET
 have hu3:=hu2.trans (yG hL wSET hu2.rin)
 generalize yB L wSET s2=s3 at hm2 hu3 hM
 obtain⟨X,hX⟩: ∃X,zv8 L 7 [] s3=X:=⟨_,rfl⟩
 rw[hX]at hM
 refine VCalls.introV 1 Tryz.func116 Tryz.ntmps116 Tryz.results116 rfl rfl (Nat.le_of_ble_eq_true rfl) fun c hc hb=> ?_
 refine zC ?_
 simp[go_sem]
 refine zH hn Tryz.callB117 rd_1 rfl ?_
 simp[go_sem]
 refine zH hm2 Tryz.callB71 (zL ⟨zA rfl,trivial⟩) rfl ?_
 simp[go_sem]
 refine zZ3 2 4 7 _ (by decide) rfl rfl ?_
 simp only[List.set_cons_succ,List.set_cons_zero]
 refine zN (S:=List GAssign×RS) [0,2,3] (fun u=> [.ptr 0 0,.ptr 1 0,.ptr 2 0]) (fun u=> [rB L u.2,zSt,upB nm u.1,.app u.1.length 7]) (fun u=>7 - u.1.length) (fun u=>u.1.length≤6∧UI L s0 u.2∧zv8 L (7 - u.1.length) u.1 u.2=X) hc hb ([],s3) ⟨Nat.zero_le _,hu3,hX⟩ ?_ ?_
 ·exact at_n 4 (by simp[go_sem];exact⟨rfl,rfl⟩) rfl (by simp[rB,zSt,upB,ltOb,ltC,ltK]) (by decide) (zE (by simp[go_sem]) rfl)
 rintro⟨l,s⟩ ⟨hl,hu,hinv⟩
 simp only at hl hu hinv
 have hs:=hu.rin
 have ho:=hu.opn.trans ho0
 have htok:=zn8 L hL s hs
 have hwd:=zO1 (tokF L s).s (hL.txt _ (zv9 hs))
 have hmore:=zW3 L hL s hs l.length 6 (zN3 L s)
 have hme:=ze4 (L:=L) (n:=l.length) (most:=6) (b:=zN3 L s) (s:=s)
 rw[show 7 - l.length=(6 - l.length)+1 by omega,zv8]at hinv
 generalize hbg:zN3 L s=bg at hmore hme hinv
 unfold zN3 at hbg
 have hn1:=zH9 L hL s hs
 have hun:=hu.trans (zb1 hL hs)
 generalize tokF L s=tk at htok hwd hbg
 generalize zi6 tk.s=wd at hwd hbg
 generalize zd8 L l.length 6 bg s=m at hmore hme hinv
 have key:((tk.kind==1)=true∧wd=bg)∨((tk.kind==1)=false∧false=bg):=by
  revert hbg
  cases tk.kind==1<;>simp
 by_cases q:m.err=0
 rotate_left
 ·have q':(m.err==0)=false:=by simpa using q
  rw[if_neg q]at hinv
  rw[q']at hmore
  have hX1:X.1=false:=by rw[←hinv]
  have hX2:X.2.1=l:=by rw[←hinv]
  have hX3:X.2.2=m:=by rw[←hinv]
  rw[if_neg (by rw[hX1];decide),hX2,hX3]at hM
  refine zC ?_
  simp[go_sem]
  refine zH htok Tryz.callB70 rd_1 rfl ?_
  simp[go_sem,upB]
  refine wT [(10,0),(12,3)] 1 5 (by simp) (by kernel_rfl) (by kernel_rfl) ?_
  simp[go_sem]
  refine key.elim (fun⟨k1,k2⟩=> ?_) (fun⟨k1,k2⟩=> ?_)
  ·simp[go_sem,k1]
   refine zT hwd Tryz.callB147 (fun _=>zG rfl) rfl ?_
   simp[go_sem,k2]
   refine zs9 hmore Tryz.callB66 (zL ⟨zA rfl,zA rfl,zA rfl,trivial⟩) rfl ?_
   simp[go_sem]
   exact zf4 (st:=⟨3,nm,[],[],l,false,zeroE,[],false,0⟩) hM
  ·rw[←k2]at hmore
   simp[go_sem,k1]
   refine zs9 hmore Tryz.callB66 (zL ⟨zA rfl,zA rfl,zA rfl,trivial⟩) rfl ?_
   simp[go_sem]
   exact zf4 (st:=⟨3,nm,[],[],l,false,zeroE,[],false,0⟩) hM
 have q':(m.err==0)=true:=by simpa using q
 obtain⟨he,hl6,rfl⟩:=hme q
 rw[if_pos q]at hinv
 rw[q']at hmore
 generalize yX L m=n1 at hn1 hun hinv
 obtain⟨nm1,t1⟩:=n1
 simp only at hn1 hun hinv
 have hm4:=zb7 L hL t1 hun.rin [61]
 have hu4:=hun.trans (yG hL [61] hun.rin)
 generalize yB L [61] t1=t2 at hm4 hu4 hinv
 have hx:=ex_w L hL t2 hu4.rin (hu4.opn.trans ho0)
 have hu5:=hu4.trans (zF9 hL hu4.rin (hu4.opn.trans ho0))
 generalize exF L t2=x at hx hu5 hinv
 obtain⟨e,t3⟩:=x
 simp only at hu5 hinv
 by_cases q3:isT L [44] t3=true
 ·rw[if_pos q3]at hinv
  refine zC ?_
  simp[go_sem]
  refine zH htok Tryz.callB70 rd_1 rfl ?_
  simp[go_sem,upB]
  refine wT [(10,0),(12,3)] 1 5 (by simp) (by kernel_rfl) (by kernel_rfl) ?_
  simp[go_sem]
  refine key.elim (fun⟨k1,k2⟩=> ?_) (fun⟨k1,k2⟩=> ?_)
  ·simp[go_sem,k1]
   refine zT hwd Tryz.callB147 (fun _=>zG rfl) rfl ?_
   simp[go_sem,k2]
   refine zs9 hmore Tryz.callB66 (zL ⟨zA rfl,zA rfl,zA rfl,trivial⟩) rfl ?_
   simp[go_sem]
   refine zH hn1 Tryz.callB117 rd_1 rfl ?_
   simp[go_sem]
   refine zH hm4 Tryz.callB71 (zL ⟨zA rfl,trivial⟩) rfl ?_
   simp[go_sem]
   refine wP hx Tryz.callB161 rd_1 ?_
   simp[go_sem,GExpr.row_eq]
   refine zO ⟨by omega,xD rfl⟩ ?_
   simp[go_sem]
   refine zH (xM L hL t3 hu5.rin _ q3) Tryz.callB68 (zL ⟨zA rfl,trivial⟩) rfl ?_
   simp[go_sem]
   refine zP (l++ [⟨nm1,e⟩],zM t3) ⟨by simp;omega,⟨by simp;omega,hu5.trans (yW hL hu5.rin q3),by simp only[List.length_append,List.length_singleton,show 7 - (l.length+1)=6 - l.length by omega];exact hinv⟩, ?_⟩
   exact at_n 4 (by simp[go_sem]) rfl (by simp[rB,zSt,ltOb,ltC,ltK]) (by decide) (zE (by simp[go_sem]) rfl)
  ·rw[←k2]at hmore
   simp[go_sem,k1]
   refine zs9 hmore Tryz.callB66 (zL ⟨zA rfl,zA rfl,zA rfl,trivial⟩) rfl ?_
   simp[go_sem]
   refine zH hn1 Tryz.callB117 rd_1 rfl ?_
   simp[go_sem]
   refine zH hm4 Tryz.callB71 (zL ⟨zA rfl,trivial⟩) rfl ?_
   simp[go_sem]
   refine wP hx Tryz.callB161 rd_1 ?_
   simp[go_sem,GExpr.row_eq]
   refine zO ⟨by omega,xD rfl⟩ ?_
   simp[go_sem]
   refine zH (xM L hL t3 hu5.rin _ q3) Tryz.callB68 (zL ⟨zA rfl,trivial⟩) rfl ?_
   simp[go_sem]
   refine zP (l++ [⟨nm1,e⟩],zM t3) ⟨by simp;omega,⟨by simp;omega,hu5.trans (yW hL hu5.rin q3),by simp only[List.length_append,List.length_singleton,show 7 - (l.length+1)=6 - l.length by omega];exact hinv⟩, ?_⟩
   exact at_n 4 (by simp[go_sem]) rfl (by simp[rB,zSt,ltOb,ltC,ltK]) (by decide) (zE (by simp[go_sem]) rfl)
 have q3:isT L [44] t3=false:=by simpa using q3
 rw[if_neg (by rw[q3];decide)]at hinv
 have hX1:X.1=true:=by rw[←hinv]
 have hX2:X.2.1=l++ [⟨nm1,e⟩]:=by rw[←hinv]
 have hX3:X.2.2=t3:=by rw[←hinv]
 rw[if_pos hX1,hX2,hX3]at hM
 obtain⟨gw,hw⟩:=zZ4 L hL t3 hu5.rin (hu5.opn.trans ho0) [zSt,.box [.int .i64 3,.str nm,.sl .full [],.sl .full [],.sl (.app 3) (l.map GAssign.row++ [[.str nm1,.int .i64 e.kind,.str e.s,.int .i64 e.v.kind,.int .i64 e.v.n,.str e.v.s,.sl .ro (e.args.map GExpr.row)]]),.bool false,.int .i64 0,.str [],.int .i64 0,.int .i64 0,.str [],.sl .full [],.str [],.bool false,.int .i64 0],
  .app (l.length+1) 7,.box [.int .i64 tk.kind,.int .i64 tk.place,.str tk.s,.int .i64 tk.n],.box [.str nm1,.int .i64 e.kind,.str e.s,.int .i64 e.v.kind,.int .i64 e.v.n,.str e.v.s,.sl .ro (e.args.map GExpr.row)]] 1 _ _ _ _ _ _ _ _ rfl
 generalize whS L t3=s9 at hw hM
 generalize whE L t3=w9 at hw hM
 have hr:=fun τ=>zf4 (L:=L) (g1:= .full) (g2:= .full) (g3:= .app 3) (g4:=gw) (τ:=τ) (st:=⟨3,nm,[],[],l++ [⟨nm1,e⟩],w9.1,w9.2,[],false,0⟩) hM
 simp at hr
 refine zC ?_
 simp[go_sem]
 refine zH htok Tryz.callB70 rd_1 rfl ?_
 simp[go_sem,upB]
 refine wT [(10,0),(12,3)] 1 5 (by simp) (by kernel_rfl) (by kernel_rfl) ?_
 simp[go_sem]
 refine key.elim (fun⟨k1,k2⟩=> ?_) (fun⟨k1,k2⟩=> ?_)
 ·simp[go_sem,k1]
  refine zT hwd Tryz.callB147 (fun _=>zG rfl) rfl ?_
  simp[go_sem,k2]
  refine zs9 hmore Tryz.callB66 (zL ⟨zA rfl,zA rfl,zA rfl,trivial⟩) rfl ?_
  simp[go_sem]
  refine zH hn1 Tryz.callB117 rd_1 rfl ?_
  simp[go_sem]
  refine zH hm4 Tryz.callB71 (zL ⟨zA rfl,trivial⟩) rfl ?_
  simp[go_sem]
  refine wP hx Tryz.callB161 rd_1 ?_
  simp[go_sem,GExpr.row_eq]
  refine zO ⟨by omega,xD rfl⟩ ?_
  simp[go_sem]
  refine zH (wC L hL t3 hu5.rin _ q3) Tryz.callB68 (zL ⟨zA rfl,trivial⟩) rfl ?_
  simp[go_sem]
  refine zw2 hw Tryz.callB118 ?_
  rintro r σ ⟨rfl,rfl⟩ _
  simp[go_sem]
  exact hr _
 ·rw[←k2]at hmore
  simp[go_sem,k1]
  refine zs9 hmore Tryz.callB66 (zL ⟨zA rfl,zA rfl,zA rfl,trivial⟩) rfl ?_
  simp[go_sem]
  refine zH hn1 Tryz.callB117 rd_1 rfl ?_
  simp[go_sem]
  refine zH hm4 Tryz.callB71 (zL ⟨zA rfl,trivial⟩) rfl ?_
  simp[go_sem]
  refine wP hx Tryz.callB161 rd_1 ?_
  simp[go_sem,GExpr.row_eq]
  refine zO ⟨by omega,xD rfl⟩ ?_
  simp[go_sem]
  refine zH (wC L hL t3 hu5.rin _ q3) Tryz.callB68 (zL ⟨zA rfl,trivial⟩) rfl ?_
  simp[go_sem]
  refine zw2 hw Tryz.callB118 ?_
  rintro r σ ⟨rfl,rfl⟩ _
  simp[go_sem]
  exact hr _
end Go.Proofs.YtajjjghohakniaaGreat
namespace Go.Proofs.YtajjjghohakniaaGreat
open Go Go.Vx
set_option maxRecDepth 100000
def zH1 (c:UInt8):Bool:=decide (c.toNat=9)||(decide (c.toNat=10)||(decide (c.toNat=13)||decide (c.toNat=32)))
theorem zY9 (c:UInt8) (n:Nat):(((c.toNat:Nat):Int)==(n:Int))=decide (c.toNat=n):=by
 rw[Bool.eq_iff_iff]
 simp only[beq_iff_eq,decide_eq_true_eq]
 omega
theorem yz9 (c:UInt8):Pure Tryz.prog 112 [.int .u8 c.toNat] (.bool (zH1 c)):=by
 generalize hM:zH1 c=M
 unfold zH1 at hM
 have h9:=zY9 c 9
 have h10:=zY9 c 10
 have h13:=zY9 c 13
 have h32:=zY9 c 32
 simp only[Int.cast_ofNat_Int]at h9 h10 h13 h32
 have ret: ∀(r:Bool) (τ:St),r=M→wret (some (.bool r)) 0 (fun r σ=>r= .bool M∧σ= []) τ:=fun r τ h=>by subst h;exact zQ (zA rfl) ⟨rfl,rfl⟩
 refine VCalls.intro 0 Tryz.func112 Tryz.ntmps112 Tryz.results112 rfl rfl (Nat.le_of_ble_eq_true rfl) fun c hc hb=>zJ ?_
 simp[go_sem]
 repeat' (first
  |(refine yT (fun q=> ?_) (fun q=> ?_)<;>simp[go_sem,q])
  |(refine zS (fun q=> ?_) (fun q=> ?_)<;>simp[go_sem,q]))
 all_goals exact ret _ _ (by rw[←hM];simp_all)
abbrev TR:=GToken×Nat×Int
def trV (x:TR):V:= .tup [.agg x.1.row,.int .i64 x.2.1,.int .i64 x.2.2]
theorem yk5 (x:TR):noS (trV x)=true:=rfl
theorem zb3 {τ:St} {t:GToken} {n:Nat} {e:Int} {M:TR} (h:(t,n,e)=M):wret (some (.tup [.agg [.int .i64 t.kind,.int .i64 t.place,.str t.s,.int .i64 t.n],.int .i64 n,.int .i64 e])) 0 (fun r σ=>r=trV M∧σ= []) τ:=by
 subst h
 exact zQ (zA rfl) ⟨rfl,rfl⟩
def numL (v:Int):List UInt8→Option Int
 | []=>some v
 |c::l=>if wB c=true then(if(9223372036854775807 - ((c.toNat:Int) - 48))/10<v then none else numL (v*10+((c.toNat:Int) - 48)) l)else some v
def numT (at_:Nat) (l:List UInt8):TR:=
 match numL 0 l with
 |none=>(zj9,0,5)
 |some v=>if wR ((l.dropWhile wB).headD 0)=true then(zj9,0,13)else(⟨2,0,[],v⟩,at_+(l.takeWhile wB).length,0)
theorem zU5 {c:UInt8} (h:wB c=true):48≤c.toNat∧c.toNat≤57:=by unfold wB at h;simpa using h
set_option maxHeartbeats 1000000 in
theorem ys5 (s:List UInt8) (hl:s.length≤maxLen) (a:Nat) (ha:a≤s.length):Pure Tryz.prog 157 [.str s,.int .i64 a] (trV (numT a (s.drop a))):=by
 generalize hM:numT a (s.drop a)=M
 unfold numT at hM
 unfold maxLen at hl
 have hlet0:wR 0=false:=by decide
 refine VCalls.introV 0 Tryz.func157 Tryz.ntmps157 Tryz.results157 rfl rfl (Nat.le_of_ble_eq_true rfl) fun c hc hb=> ?_
 refine zC ?_
 simp[go_sem]
 refine zN (S:=Nat×Int) [0,1,4,7] (fun u=> [.str s,.int .i64 u.1,.ptr 0 0,.int .i64 u.2]) (fun _=> [.box [.int .i64 0,.int .i64 0,.str [],.int .i64 0]]) (fun u=>s.length - u.1)
  (fun u=>u.1≤s.length∧0≤u.2∧u.2≤9223372036854775807∧(match numL u.2 (s.drop u.1)with|none=>(zj9,0,5)|some v=>if wR (((s.drop u.1).dropWhile wB).headD 0)=true then(zj9,0,13)else((⟨2,0,[],v⟩,u.1+((s.drop u.1).takeWhile wB).length,0):TR))=M) hc hb (a,0) ⟨ha,Int.le_refl _,by simp,hM⟩ ?_ ?_
 ·exact at_n 1 (by simp[go_sem]) rfl (by rfl) (Nat.zero_le _) (zE (by simp[go_sem]) rfl)
 rintro⟨i,v⟩ ⟨hi,hv0,hv1,hinv⟩
 simp only at hi hv0 hv1 hinv
 by_cases q:i<s.length
 rotate_left
 ·obtain rfl:i=s.length:=by omega
  rw[List.drop_length]at hinv
  have hinv:(⟨⟨2,0,[],v⟩,s.length,0⟩:TR)=M:=by rw[←hinv];rfl
  refine zC ?_
  simp[go_sem]
  exact zb3 (t:=⟨2,0,[],v⟩) hinv
 have ei:=zU q (by omega)
 obtain⟨x,hx⟩: ∃x,s[i]=x:=⟨_,rfl⟩
 rw[List.drop_eq_getElem_cons q,hx]at hinv
 have hdg:=zs1 x
 have hlt:=zt9 x
 by_cases qd:wB x=true
 rotate_left
 ·have qd:wB x=false:=by simpa using qd
  rw[numL,if_neg (by rw[qd];decide),List.dropWhile_cons_of_neg (by rw[qd];decide),List.takeWhile_cons_of_neg (by rw[qd];decide)]at hinv
  simp only[List.headD_cons,List.length_nil,Nat.add_zero]at hinv
  rw[qd]at hdg
  by_cases ql:wR x=true
  ·simp only[ql,if_true]at hinv
   rw[ql]at hlt
   refine zC ?_
   simp[go_sem,q,hx]
   refine zD hdg Tryz.callB155 (zG rfl) rfl ?_
   simp[go_sem,q,hx]
   refine zD hlt Tryz.callB154 (zG rfl) rfl ?_
   simp[go_sem]
   exact zb3 (t:=zj9) hinv
  ·have ql:wR x=false:=by simpa using ql
   simp only[ql,Bool.false_eq_true,if_false]at hinv
   rw[ql]at hlt
   refine zC ?_
   simp[go_sem,q,hx]
   refine zD hdg Tryz.callB155 (zG rfl) rfl ?_
   simp[go_sem,q,hx]
   refine zD hlt Tryz.callB154 (zG rfl) rfl ?_
   simp[go_sem]
   exact zb3 (t:=⟨2,0,[],v⟩) hinv
 have hr:=zU5 qd
 rw[numL,if_pos qd,List.dropWhile_cons_of_pos qd,List.takeWhile_cons_of_pos qd]at hinv
 rw[qd]at hdg
 have e1:IntKind.u8.wrap ((x.toNat:Int) - 48)=(x.toNat:Int) - 48:=yk6 (by omega) (by omega)
 have e2:IntKind.i64.wrap ((x.toNat:Int) - 48)=(x.toNat:Int) - 48:=i64_id (by omega) (by omega)
 have e3:IntKind.i64.wrap (9223372036854775807 - ((x.toNat:Int) - 48))=9223372036854775807 - ((x.toNat:Int) - 48):=i64_id (by omega) (by omega)
 obtain⟨d,hd⟩: ∃d:Int,(x.toNat:Int) - 48=d:=⟨_,rfl⟩
 rw[hd]at hinv e1 e2 e3
 have hd0:0≤d∧d≤9:=by omega
 have e4:IntKind.i64.wrap ((9223372036854775807 - d).tdiv 10)=(9223372036854775807 - d)/10:=by
  rw[Int.tdiv_eq_ediv_of_nonneg (by omega),i64_id (by omega) (by omega)]
 refine zC ?_
 simp[go_sem,q,hx]
 refine zD hdg Tryz.callB155 (zG rfl) rfl ?_
 simp[go_sem,q,hx,e1,e2,e3,e4,hd]
 by_cases qg:(9223372036854775807 - d)/10<v
 ·have qg':decide ((9223372036854775807 - d)/10<v)=true:=decide_eq_true qg
  simp only[qg,if_true]at hinv
  simp[go_sem,qg']
  exact zb3 (t:=zj9) hinv
 ·have qg':decide ((9223372036854775807 - d)/10<v)=false:=decide_eq_false qg
  simp only[qg,if_false]at hinv
  have e5:IntKind.i64.wrap (v*10)=v*10:=i64_id (by omega) (by omega)
  have e6:IntKind.i64.wrap (v*10+d)=v*10+d:=i64_id (by omega) (by omega)
  simp[go_sem,qg',e5,e6,ei]
  refine zP (i+1,v*10+d) ⟨by simp only;omega,⟨by simp only;omega,by simp only;omega,by simp only;omega, ?_⟩, ?_⟩
  ·simp only[List.length_cons]at hinv
   rw[←hinv]
   simp only[Nat.add_assoc,Nat.add_comm 1]
  ·exact at_n 1 (by simp[go_sem]) rfl (by rfl) (Nat.zero_le _) (zE (by simp[go_sem]) rfl)
end Go.Proofs.YtajjjghohakniaaGreat
