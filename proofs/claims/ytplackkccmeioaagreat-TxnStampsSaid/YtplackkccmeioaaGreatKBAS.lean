/-
  TxnPushes: who meets a lock asks its home, settles it, and asks again what it asked; used by the theorem at the end of the claim.
  Conditions: as each theorem states them.
-/
import Derived.Test.YtplackkccmeioaaGreatKBAH
import Derived.Test.YtplackkccmeioaaGreatKBAE
import Derived.Test.YtplackkccmeioaaGreatKBAR
set_option maxHeartbeats 8000000
namespace Go.Proofs.YtplackkccmeioaaGreat
open Go Go.Vx Go.Proofs.Tryz
set_option maxRecDepth 100000
theorem VO (fn:FuncId) (aa:xF prog fn) (rows:List (List V)) (hl:rows.length<=100000) (hu:eI 6 rows) (ab: ∀r∈rows,gA (.agg r)=true/\nD (.agg r)=true/\r.map ly=r) (hx: ∀r∈rows,Pure prog fn [.agg r] (.agg r)):
  Pure prog 53 [.sl .ro rows,.fn fn []] (.sl .ro rows):=by
 refine iV 0 func53 ntmps53 results53 λc hc hb=> ?_
 refine zA ?_
 simp[go_sem]
 refine lE 5 6 dC sg ?_
 refine zI (S:=Nat×List (List V)) [1,5,8,9,10] (λu=> [.fn fn [],.sl (.app 0) u.2,.sl .ro rows,.int .i64 rows.length,.int .i64 u.1]) (λu=> [.app u.2.length 6]) (λu=>rows.length - u.1) (λu=>u.1<=rows.length/\u.2=rows.take u.1) hc hb (0,[]) ⟨A4 _,sm⟩ ?_ ?_
 .exact aN 1 rfl
 rintro⟨i,out⟩ ⟨hi,ho⟩
 simp only at hi ho
 have ai:out.length=i:=by rw[ho,B0];omega
 by_cases q:i<rows.length
 rotate_left
 .have h2:out=rows:=by rw[ho];exact Aa om
  refine zA ?_
  simp[go_sem,q]
  exact zX (by rw[h2];exact zK) ⟨rfl,rfl⟩
 have ei:=zQ q om
 obtain⟨r,hy⟩: ∃y,rows[i]=y:=⟨_,rfl⟩
 have hr:r∈rows:=hy▸A8 q
 have hw:=hu r hr
 have hn:=ab r hr
 have ad:=hx r hr
 have ae:out++ [r]=rows.take (i+1):=by rw[ho,Ah q,hy]
 obtain⟨hn,af,ah⟩:=hn
 have ht:r.take 6=r:=Aa om
 refine zA ?_
 simp[go_sem,q,hy,hw,ht]
 refine zL ad aa ⟨zC hn,tV⟩ hn ?_
 simp[go_sem]
 refine zJ ⟨by simpa[go_sem]using af,hw⟩ ?_
 simp[go_sem,ah]
 refine zJ ⟨om,zY hw⟩ ?_
 simp[go_sem,ei]
 exact zH (i+1,out++ [r]) ⟨by show rows.length - (i+1)<rows.length - i;omega,⟨q,ae⟩,aN 1 rfl⟩
theorem yX5 (fn:FuncId) (aa:xF prog fn) (rows:List (List V)) (hl:rows.length<=100000) (hu:eI 15 rows) (ab: ∀r∈rows,gA (.agg r)=true/\nD (.agg r)=true/\r.map ly=r) (hx: ∀r∈rows,Pure prog fn [.agg r] (.agg r)):
  Pure prog 46 [.sl .ro rows,.fn fn []] (.sl .ro rows):=by
 refine iV 0 func46 ntmps46 results46 λc hc hb=> ?_
 refine zA ?_
 simp[go_sem]
 refine lE 5 15 dC sg ?_
 refine zI (S:=Nat×List (List V)) [1,5,8,9,10] (λu=> [.fn fn [],.sl (.app 0) u.2,.sl .ro rows,.int .i64 rows.length,.int .i64 u.1]) (λu=> [.app u.2.length 15]) (λu=>rows.length - u.1) (λu=>u.1<=rows.length/\u.2=rows.take u.1) hc hb (0,[]) ⟨A4 _,sm⟩ ?_ ?_
 .exact aN 1 rfl
 rintro⟨i,out⟩ ⟨hi,ho⟩
 simp only at hi ho
 have ai:out.length=i:=by rw[ho,B0];omega
 by_cases q:i<rows.length
 rotate_left
 .have h2:out=rows:=by rw[ho];exact Aa om
  refine zA ?_
  simp[go_sem,q]
  exact zX (by rw[h2];exact zK) ⟨rfl,rfl⟩
 have ei:=zQ q om
 obtain⟨r,hy⟩: ∃y,rows[i]=y:=⟨_,rfl⟩
 have hr:r∈rows:=hy▸A8 q
 have hw:=hu r hr
 have hn:=ab r hr
 have ad:=hx r hr
 have ae:out++ [r]=rows.take (i+1):=by rw[ho,Ah q,hy]
 obtain⟨hn,af,ah⟩:=hn
 have ht:r.take 15=r:=Aa om
 refine zA ?_
 simp[go_sem,q,hy,hw,ht]
 refine zL ad aa ⟨zC hn,tV⟩ hn ?_
 simp[go_sem]
 refine zJ ⟨by simpa[go_sem]using af,hw⟩ ?_
 simp[go_sem,ah]
 refine zJ ⟨om,zY hw⟩ ?_
 simp[go_sem,ei]
 exact zH (i+1,out++ [r]) ⟨by show rows.length - (i+1)<rows.length - i;omega,⟨q,ae⟩,aN 1 rfl⟩
theorem yX4 (fn:FuncId) (aa:xF prog fn) (rows:List (List V)) (hl:rows.length<=100000) (hu:eI 7 rows) (ab: ∀r∈rows,gA (.agg r)=true/\nD (.agg r)=true/\r.map ly=r) (hx: ∀r∈rows,Pure prog fn [.agg r] (.agg r)):
  Pure prog 48 [.sl .ro rows,.fn fn []] (.sl .ro rows):=by
 refine iV 0 func48 ntmps48 results48 λc hc hb=> ?_
 refine zA ?_
 simp[go_sem]
 refine lE 5 7 dC sg ?_
 refine zI (S:=Nat×List (List V)) [1,5,8,9,10] (λu=> [.fn fn [],.sl (.app 0) u.2,.sl .ro rows,.int .i64 rows.length,.int .i64 u.1]) (λu=> [.app u.2.length 7]) (λu=>rows.length - u.1) (λu=>u.1<=rows.length/\u.2=rows.take u.1) hc hb (0,[]) ⟨A4 _,sm⟩ ?_ ?_
 .exact aN 1 rfl
 rintro⟨i,out⟩ ⟨hi,ho⟩
 simp only at hi ho
 have ai:out.length=i:=by rw[ho,B0];omega
 by_cases q:i<rows.length
 rotate_left
 .have h2:out=rows:=by rw[ho];exact Aa om
  refine zA ?_
  simp[go_sem,q]
  exact zX (by rw[h2];exact zK) ⟨rfl,rfl⟩
 have ei:=zQ q om
 obtain⟨r,hy⟩: ∃y,rows[i]=y:=⟨_,rfl⟩
 have hr:r∈rows:=hy▸A8 q
 have hw:=hu r hr
 have hn:=ab r hr
 have ad:=hx r hr
 have ae:out++ [r]=rows.take (i+1):=by rw[ho,Ah q,hy]
 obtain⟨hn,af,ah⟩:=hn
 have ht:r.take 7=r:=Aa om
 refine zA ?_
 simp[go_sem,q,hy,hw,ht]
 refine zL ad aa ⟨zC hn,tV⟩ hn ?_
 simp[go_sem]
 refine zJ ⟨by simpa[go_sem]using af,hw⟩ ?_
 simp[go_sem,ah]
 refine zJ ⟨om,zY hw⟩ ?_
 simp[go_sem,ei]
 exact zH (i+1,out++ [r]) ⟨by show rows.length - (i+1)<rows.length - i;omega,⟨q,ae⟩,aN 1 rfl⟩
theorem yX3 (fn:FuncId) (aa:xF prog fn) (rows:List (List V)) (hl:rows.length<=100000) (hu:eI 7 rows) (ab: ∀r∈rows,gA (.agg r)=true/\nD (.agg r)=true/\r.map ly=r) (hx: ∀r∈rows,Pure prog fn [.agg r] (.agg r)):
  Pure prog 54 [.sl .ro rows,.fn fn []] (.sl .ro rows):=by
 refine iV 0 func54 ntmps54 results54 λc hc hb=> ?_
 refine zA ?_
 simp[go_sem]
 refine lE 5 7 dC sg ?_
 refine zI (S:=Nat×List (List V)) [1,5,8,9,10] (λu=> [.fn fn [],.sl (.app 0) u.2,.sl .ro rows,.int .i64 rows.length,.int .i64 u.1]) (λu=> [.app u.2.length 7]) (λu=>rows.length - u.1) (λu=>u.1<=rows.length/\u.2=rows.take u.1) hc hb (0,[]) ⟨A4 _,sm⟩ ?_ ?_
 .exact aN 1 rfl
 rintro⟨i,out⟩ ⟨hi,ho⟩
 simp only at hi ho
 have ai:out.length=i:=by rw[ho,B0];omega
 by_cases q:i<rows.length
 rotate_left
 .have h2:out=rows:=by rw[ho];exact Aa om
  refine zA ?_
  simp[go_sem,q]
  exact zX (by rw[h2];exact zK) ⟨rfl,rfl⟩
 have ei:=zQ q om
 obtain⟨r,hy⟩: ∃y,rows[i]=y:=⟨_,rfl⟩
 have hr:r∈rows:=hy▸A8 q
 have hw:=hu r hr
 have hn:=ab r hr
 have ad:=hx r hr
 have ae:out++ [r]=rows.take (i+1):=by rw[ho,Ah q,hy]
 obtain⟨hn,af,ah⟩:=hn
 have ht:r.take 7=r:=Aa om
 refine zA ?_
 simp[go_sem,q,hy,hw,ht]
 refine zL ad aa ⟨zC hn,tV⟩ hn ?_
 simp[go_sem]
 refine zJ ⟨by simpa[go_sem]using af,hw⟩ ?_
 simp[go_sem,ah]
 refine zJ ⟨om,zY hw⟩ ?_
 simp[go_sem,ei]
 exact zH (i+1,out++ [r]) ⟨by show rows.length - (i+1)<rows.length - i;omega,⟨q,ae⟩,aN 1 rfl⟩
theorem xr3 (fn:FuncId) (aa:xF prog fn) (rows:List (List V)) (hl:rows.length<=100000) (hu:eI 2 rows) (ab: ∀r∈rows,gA (.agg r)=true/\nD (.agg r)=true/\r.map ly=r) (hx: ∀r∈rows,Pure prog fn [.agg r] (.agg r)):
  Pure prog 92 [.sl .ro rows,.fn fn []] (.sl .ro rows):=by
 refine iV 0 func92 ntmps92 results92 λc hc hb=> ?_
 refine zA ?_
 simp[go_sem]
 refine lE 5 2 dC sg ?_
 refine zI (S:=Nat×List (List V)) [1,5,8,9,10] (λu=> [.fn fn [],.sl (.app 0) u.2,.sl .ro rows,.int .i64 rows.length,.int .i64 u.1]) (λu=> [.app u.2.length 2]) (λu=>rows.length - u.1) (λu=>u.1<=rows.length/\u.2=rows.take u.1) hc hb (0,[]) ⟨A4 _,sm⟩ ?_ ?_
 .exact aN 1 rfl
 rintro⟨i,out⟩ ⟨hi,ho⟩
 simp only at hi ho
 have ai:out.length=i:=by rw[ho,B0];omega
 by_cases q:i<rows.length
 rotate_left
 .have h2:out=rows:=by rw[ho];exact Aa om
  refine zA ?_
  simp[go_sem,q]
  exact zX (by rw[h2];exact zK) ⟨rfl,rfl⟩
 have ei:=zQ q om
 obtain⟨r,hy⟩: ∃y,rows[i]=y:=⟨_,rfl⟩
 have hr:r∈rows:=hy▸A8 q
 have hw:=hu r hr
 have hn:=ab r hr
 have ad:=hx r hr
 have ae:out++ [r]=rows.take (i+1):=by rw[ho,Ah q,hy]
 obtain⟨hn,af,ah⟩:=hn
 have ht:r.take 2=r:=Aa om
 refine zA ?_
 simp[go_sem,q,hy,hw,ht]
 refine zL ad aa ⟨zC hn,tV⟩ hn ?_
 simp[go_sem]
 refine zJ ⟨by simpa[go_sem]using af,hw⟩ ?_
 simp[go_sem,ah]
 refine zJ ⟨om,zY hw⟩ ?_
 simp[go_sem,ei]
 exact zH (i+1,out++ [r]) ⟨by show rows.length - (i+1)<rows.length - i;omega,⟨q,ae⟩,aN 1 rfl⟩
theorem yL5 (fn:FuncId) (ab:xF prog fn) (rows:List (List V)) (hl:rows.length<=100000) (hu:eI 1 rows) (ad: ∀r∈rows,∃q,r= [.sl .ro q]) (hx: ∀r∈rows,Pure prog fn [r.getD 0 (.int .i64 0)] (r.getD 0 (.int .i64 0))):
  Pure prog 51 [.sl .ro rows,.fn fn []] (.sl .ro rows):=by
 refine iV 0 func51 ntmps51 results51 λc hc hb=> ?_
 refine zA ?_
 simp[go_sem]
 refine lE 5 1 dC sg ?_
 refine zI (S:=Nat×List (List V)) [1,5,8,9,10] (λu=> [.fn fn [],.sl (.app 0) u.2,.sl .ro rows,.int .i64 rows.length,.int .i64 u.1]) (λu=> [.app u.2.length 1]) (λu=>rows.length - u.1) (λu=>u.1<=rows.length/\u.2=rows.take u.1) hc hb (0,[]) ⟨A4 _,sm⟩ ?_ ?_
 .exact aN 1 rfl
 rintro⟨i,out⟩ ⟨hi,ho⟩
 simp only at hi ho
 have af:out.length=i:=by rw[ho,B0];omega
 by_cases q:i<rows.length
 rotate_left
 .have h2:out=rows:=by rw[ho];exact Aa om
  refine zA ?_
  simp[go_sem,q]
  exact zX (by rw[h2];exact zK) ⟨rfl,rfl⟩
 have ei:=zQ q om
 obtain⟨r,hy⟩: ∃y,rows[i]=y:=⟨_,rfl⟩
 have hr:r∈rows:=hy▸A8 q
 have hw:=hu r hr
 have hn:=ad r hr
 have aa:=hx r hr
 have ae:out++ [r]=rows.take (i+1):=by rw[ho,Ah q,hy]
 obtain⟨v,rfl⟩:=hn
 change Pure prog fn [.sl .ro v] (.sl .ro v)at aa
 refine zA ?_
 simp[go_sem,q,hy]
 refine zL aa ab ⟨zK,tV⟩ rfl ?_
 simp[go_sem]
 refine zJ ⟨om,zY rfl⟩ ?_
 simp[go_sem,ei]
 exact zH (i+1,out++ [[.sl .ro v]]) ⟨by show rows.length - (i+1)<rows.length - i;omega,⟨q,ae⟩,aN 1 rfl⟩
theorem yX6 (fn:FuncId) (ab:xF prog fn) (rows:List (List V)) (hl:rows.length<=100000) (hu:eI 1 rows) (ad: ∀r∈rows,∃q,r= [.sl .ro q]) (hx: ∀r∈rows,Pure prog fn [r.getD 0 (.int .i64 0)] (r.getD 0 (.int .i64 0))):
  Pure prog 94 [.sl .ro rows,.fn fn []] (.sl .ro rows):=by
 refine iV 0 func94 ntmps94 results94 λc hc hb=> ?_
 refine zA ?_
 simp[go_sem]
 refine lE 5 1 dC sg ?_
 refine zI (S:=Nat×List (List V)) [1,5,8,9,10] (λu=> [.fn fn [],.sl (.app 0) u.2,.sl .ro rows,.int .i64 rows.length,.int .i64 u.1]) (λu=> [.app u.2.length 1]) (λu=>rows.length - u.1) (λu=>u.1<=rows.length/\u.2=rows.take u.1) hc hb (0,[]) ⟨A4 _,sm⟩ ?_ ?_
 .exact aN 1 rfl
 rintro⟨i,out⟩ ⟨hi,ho⟩
 simp only at hi ho
 have af:out.length=i:=by rw[ho,B0];omega
 by_cases q:i<rows.length
 rotate_left
 .have h2:out=rows:=by rw[ho];exact Aa om
  refine zA ?_
  simp[go_sem,q]
  exact zX (by rw[h2];exact zK) ⟨rfl,rfl⟩
 have ei:=zQ q om
 obtain⟨r,hy⟩: ∃y,rows[i]=y:=⟨_,rfl⟩
 have hr:r∈rows:=hy▸A8 q
 have hw:=hu r hr
 have hn:=ad r hr
 have aa:=hx r hr
 have ae:out++ [r]=rows.take (i+1):=by rw[ho,Ah q,hy]
 obtain⟨v,rfl⟩:=hn
 change Pure prog fn [.sl .ro v] (.sl .ro v)at aa
 refine zA ?_
 simp[go_sem,q,hy]
 refine zL aa ab ⟨zK,tV⟩ rfl ?_
 simp[go_sem]
 refine zJ ⟨om,zY rfl⟩ ?_
 simp[go_sem,ei]
 exact zH (i+1,out++ [[.sl .ro v]]) ⟨by show rows.length - (i+1)<rows.length - i;omega,⟨q,ae⟩,aN 1 rfl⟩
theorem yL9 (a b:List cp) (ha:a.length<=100000) (ae:b.length<=100000):Pure prog 125 [.sl .ro (a.map cp.row),.sl .ro (b.map cp.row)] (.bool (decide (a=b))):=by
 obtain⟨M,hM⟩:=eX (decide (a=b))
 rw[hM]
 have ret: ∀(r:Bool) (I:St),r=M->cw (some (.bool r)) 0 (λr s=>r= .bool M/\s= []) I:=λr I h=>by subst h;exact wR
 refine iV 0 func125 ntmps125 results125 λc hc hb=> ?_
 by_cases ql:a.length=b.length
 rotate_left
 .have aa:((a.length:Int) !=b.length)=true:=by simp;omega
  refine zA ?_
  simp[go_sem,aa]
  exact ret _ _ (by rw[<-hM];exact(ahh λh=>ql (by rw[h])).symm)
 have aa:((a.length:Int) !=b.length)=false:=by simp;omega
 refine zA ?_
 simp[go_sem,aa]
 refine zI (S:=Nat) [0,1,12,13] (λi=> [.sl .ro (a.map cp.row),.sl .ro (b.map cp.row),.int .i64 a.length,.int .i64 (i:Int)]) (λ_=> []) (λi=>a.length - i) (λi=>i<=a.length/\a.take i=b.take i) hc hb 0 ⟨A4 _,sm⟩ ?_ ?_
 .exact aO
 rintro i ⟨hi,ht⟩
 by_cases q:i<a.length
 rotate_left
 .refine zA ?_
  simp[go_sem,q]
  exact ret _ _ (by rw[<-hM,Aa om,Aa om]at*;exact(ahi ht).symm)
 have q2:i<b.length:=om
 have ei:=zQ q om
 obtain⟨x,hx⟩:=eX (a[i])
 obtain⟨y,hy⟩:=eX (b[i])
 by_cases e:x=y
 .have ab:a.take (i+1)=b.take (i+1):=by rw[Ah q,Ah q2,hx,hy,ht,e]
  subst e
  refine zA ?_
  simp[go_sem,q]
  refine yL [] 0 rfl kR kR ?_
  simp[go_sem,q,q2,hx,hy,ei]
  exact zH (i+1) ⟨om,⟨om,ab⟩,aO⟩
 .have ad:decide (a=b)=false:=ahh λh=>e (by subst h;rw[<-hx,<-hy])
  have e2:(x.lo==y.lo&&x.hi==y.hi)=false:=by
   obtain⟨x1,x2⟩:=x
   obtain⟨y1,y2⟩:=y
   simp at e⊢
   exact e
  refine zA ?_
  simp[go_sem,q]
  refine yL [] 0 rfl kR kR ?_
  simp[go_sem,q,q2,hx,hy,e2]
  exact ret _ _ (by rw[<-hM,ad])
theorem yA5 (a b:List eC) (ha:a.length<=100000) (ae:b.length<=100000):Pure prog 126 [.sl .ro (a.map eC.row),.sl .ro (b.map eC.row)] (.bool (decide (a=b))):=by
 obtain⟨M,hM⟩:=eX (decide (a=b))
 rw[hM]
 have ret: ∀(r:Bool) (I:St),r=M->cw (some (.bool r)) 0 (λr s=>r= .bool M/\s= []) I:=λr I h=>by subst h;exact wR
 refine iV 0 func126 ntmps126 results126 λc hc hb=> ?_
 by_cases ql:a.length=b.length
 rotate_left
 .have aa:((a.length:Int) !=b.length)=true:=by simp;omega
  refine zA ?_
  simp[go_sem,aa]
  exact ret _ _ (by rw[<-hM];exact(ahh λh=>ql (by rw[h])).symm)
 have aa:((a.length:Int) !=b.length)=false:=by simp;omega
 refine zA ?_
 simp[go_sem,aa]
 refine zI (S:=Nat) [0,1,12,13] (λi=> [.sl .ro (a.map eC.row),.sl .ro (b.map eC.row),.int .i64 a.length,.int .i64 (i:Int)]) (λ_=> []) (λi=>a.length - i) (λi=>i<=a.length/\a.take i=b.take i) hc hb 0 ⟨A4 _,sm⟩ ?_ ?_
 .exact aO
 rintro i ⟨hi,ht⟩
 by_cases q:i<a.length
 rotate_left
 .refine zA ?_
  simp[go_sem,q]
  exact ret _ _ (by rw[<-hM,Aa om,Aa om]at*;exact(ahi ht).symm)
 have q2:i<b.length:=om
 have ei:=zQ q om
 obtain⟨x,hx⟩:=eX (a[i])
 obtain⟨y,hy⟩:=eX (b[i])
 by_cases e:x=y
 .have ab:a.take (i+1)=b.take (i+1):=by rw[Ah q,Ah q2,hx,hy,ht,e]
  subst e
  refine zA ?_
  simp[go_sem,q]
  refine yL [] 0 rfl kR kR ?_
  simp[go_sem,q,q2,hx,hy,ei]
  exact zH (i+1) ⟨om,⟨om,ab⟩,aO⟩
 .have ad:decide (a=b)=false:=ahh λh=>e (by subst h;rw[<-hx,<-hy])
  have e2:(x.key==y.key&&(x.drop==y.drop&&x.data==y.data))=false:=by
   obtain⟨x1,x2,x3⟩:=x
   obtain⟨y1,y2,y3⟩:=y
   simp at e⊢
   exact e
  refine zA ?_
  simp[go_sem,q]
  refine yL [] 0 rfl kR kR ?_
  simp[go_sem,q,q2,hx,hy,e2]
  exact ret _ _ (by rw[<-hM,ad])
theorem VP (rows:List (List V)) (hl:rows.length<=100000) (hu:eI 2 rows):Pure prog 76 [.sl .ro rows] (.sl .ro rows):=by
 refine iV 0 func76 ntmps76 results76 λc hc hb=> ?_
 refine zA ?_
 by_cases hp:0<rows.length
 .simp[go_sem,hp]
  refine zJ ⟨om,by simp[eI],hu⟩ ?_
  simp[go_sem]
  exact zX zK ⟨rfl,rfl⟩
 .obtain rfl:rows= []:=Aq om
  simp[go_sem]
  refine IS (λb=> ?_)
  cases b
  .simp[go_sem]
   refine zJ (λr h=>by cases h) ?_
   simp[go_sem]
   exact zX zK ⟨rfl,rfl⟩
  .simp[go_sem]
   exact zX zK ⟨rfl,rfl⟩
theorem VQ (rows:List (List V)) (hl:rows.length<=100000) (hu:eI 3 rows):Pure prog 77 [.sl .ro rows] (.sl .ro rows):=by
 refine iV 0 func77 ntmps77 results77 λc hc hb=> ?_
 refine zA ?_
 by_cases hp:0<rows.length
 .simp[go_sem,hp]
  refine zJ ⟨om,by simp[eI],hu⟩ ?_
  simp[go_sem]
  exact zX zK ⟨rfl,rfl⟩
 .obtain rfl:rows= []:=Aq om
  simp[go_sem]
  refine IS (λb=> ?_)
  cases b
  .simp[go_sem]
   refine zJ (λr h=>by cases h) ?_
   simp[go_sem]
   exact zX zK ⟨rfl,rfl⟩
  .simp[go_sem]
   exact zX zK ⟨rfl,rfl⟩
theorem VR (rows:List (List V)) (hl:rows.length<=100000) (hu:eI 2 rows):Pure prog 81 [.sl .ro rows] (.sl .ro rows):=by
 refine iV 0 func81 ntmps81 results81 λc hc hb=> ?_
 refine zA ?_
 by_cases hp:0<rows.length
 .simp[go_sem,hp]
  refine zJ ⟨om,by simp[eI],hu⟩ ?_
  simp[go_sem]
  exact zX zK ⟨rfl,rfl⟩
 .obtain rfl:rows= []:=Aq om
  simp[go_sem]
  refine IS (λb=> ?_)
  cases b
  .simp[go_sem]
   refine zJ (λr h=>by cases h) ?_
   simp[go_sem]
   exact zX zK ⟨rfl,rfl⟩
  .simp[go_sem]
   exact zX zK ⟨rfl,rfl⟩
theorem xT4 (rows:List (List V)) (hl:rows.length<=100000) (hu:eI 3 rows):Pure prog 95 [.sl .ro rows] (.sl .ro rows):=by
 refine iV 0 func95 ntmps95 results95 λc hc hb=> ?_
 refine zA ?_
 by_cases hp:0<rows.length
 .simp[go_sem,hp]
  refine zJ ⟨om,by simp[eI],hu⟩ ?_
  simp[go_sem]
  exact zX zK ⟨rfl,rfl⟩
 .obtain rfl:rows= []:=Aq om
  simp[go_sem]
  refine IS (λb=> ?_)
  cases b
  .simp[go_sem]
   refine zJ (λr h=>by cases h) ?_
   simp[go_sem]
   exact zX zK ⟨rfl,rfl⟩
  .simp[go_sem]
   exact zX zK ⟨rfl,rfl⟩
def nZ (c:ow):Prop:=c.eL.length<=100000/\c.writes.length<=100000
theorem xe5 (a b:ow) (ha:nZ a) (aa:nZ b):Pure prog 80 [.agg a.row,.agg b.row] (.bool (decide (a=b))):=by
 have h1:=yL9 a.eL b.eL ha.1 aa.1
 have h2:=yA5 a.writes b.writes ha.2 aa.2
 obtain⟨M,hM⟩:=eX (decide (a=b))
 rw[hM]
 have ret: ∀(r:Bool) (I:St),r=M->cw (some (.bool r)) 0 (λr s=>r= .bool M/\s= []) I:=λr I h=>by subst h;exact wR
 obtain⟨ak,ae,an,ah,⟨a1,a2,a3,a4⟩,⟨a5,a6⟩,aw,ay,ab,ad⟩:=a
 obtain⟨bk,be,bn,bh,⟨b1,b2,b3,b4⟩,⟨b5,b6⟩,bw,gB,af,ai⟩:=b
 simp only at h1 h2
 simp only[ow.mk.injEq,gF.mk.injEq,fh.mk.injEq,Bool.decide_and]at hM
 generalize decide (ab=af)=d1 at h1 hM
 generalize decide (ad=ai)=d2 at h2 hM
 refine iW 0 func80 ntmps80 results80 λc hc hb=>zM ?_
 simp[go_sem]
 repeat' (first
  |(refine xE (λq=> ?_) (λq=> ?_)<;>simp[go_sem,q])
  |(refine pC h1 ?_;simp[go_sem])
  |(refine pC h2 ?_;simp[go_sem]))
 all_goals exact ret _ _ (by rw[<-hM];simp_all)
end Go.Proofs.YtplackkccmeioaaGreat
namespace Go.Proofs.YtplackkccmeioaaGreat
open Go Go.Vx R Go.Proofs.Tryz
set_option maxRecDepth 100000
theorem OS (e:bJ):gA (.agg e.row)=true:=by rw[bJ.bS];rfl
theorem VS (e:bJ):gA (.agg e.row)=true/\nD (.agg e.row)=true/\e.row.map ly=e.row:=by rw[bJ.bS];exact⟨rfl,rfl,rfl⟩
theorem VT (e:bJ):e.row.length=6:=by rw[bJ.bS];rfl
theorem VU: ∀(l:List bJ),l.length<=mC l
 | []=>A4 _
 |e::l=>by
  have h1:=VU l
  have h2:=Ns e
  rw[mC,Ak]
  omega
theorem VV: ∀(n:Nat) (e:bJ),mb e<=n->n<=100000->Pure prog 50 [.agg e.row] (.agg e.row)
 |0,e,hn,_=>by
  have:=Ns e
  omega
 |n+1,e,hn,h1=>by
  have ab:=Fo e
  have hlen:=VU e.args
  have aa:=VO 50 cB (e.args.map bJ.row) (by rw[Ag];omega) (lU VT)
   (λr hr=>by obtain⟨x,_,rfl⟩:=Ac.1 hr;exact VS x)
   (λr hr=>by
    obtain⟨x,hx,rfl⟩:=Ac.1 hr
    have:=Rz _ _ hx
    exact VV n x om om)
  obtain⟨L,hL⟩:=eX (e.args.map bJ.row)
  rw[bJ.bS,hL]
  rw[hL]at aa
  refine iV 0 func50 ntmps50 results50 λc hc hb=> ?_
  refine zA ?_
  simp[go_sem]
  refine pC aa ?_
  simp[go_sem]
  exact wR
theorem K3 (e:bJ) (he:ja e):Pure prog 50 [.agg e.row] (.agg e.row):=VV 4000 e he.size dC
theorem xd7 (x:cM) (hx:ja x.e):Pure prog 49 [.agg x.row] (.agg x.row):=by
 have h:=K3 x.e hx
 refine iV 0 func49 ntmps49 results49 λc hc hb=> ?_
 refine zA ?_
 simp[go_sem]
 refine zL h cB ⟨by rw[bJ.bS];exact zC rfl,tV⟩ (OS _) ?_
 simp[go_sem]
 exact wR
theorem xx8 (x:cm) (hx:ja x.e):Pure prog 55 [.agg x.row] (.agg x.row):=by
 have h:=K3 x.e hx
 refine iV 0 func55 ntmps55 results55 λc hc hb=> ?_
 refine zA ?_
 simp[go_sem]
 refine zL h cB ⟨by rw[bJ.bS];exact zC rfl,tV⟩ (OS _) ?_
 simp[go_sem]
 exact wR
theorem xx7 (l:List bJ) (hl:l.length<=100000) (hx: ∀x∈l,ja x):Pure prog 52 [.sl .ro (l.map bJ.row)] (.sl .ro (l.map bJ.row)):=by
 have aa:=VO 50 cB (l.map bJ.row) (by rw[Ag];exact hl) (lU VT)
  (λr hr=>by obtain⟨x,_,rfl⟩:=Ac.1 hr;exact VS x)
  (λr hr=>by obtain⟨x,ab,rfl⟩:=Ac.1 hr;exact K3 x (hx x ab))
 refine iV 0 func52 ntmps52 results52 λc hc hb=> ?_
 refine zA ?_
 simp[go_sem]
 refine pC aa ?_
 simp[go_sem]
 exact wR
theorem xd9 (st:bW) (hs:kO st):Pure prog 47 [.agg st.row] (.agg st.row):=by
 have h1:=yX4 49 cB (st.items.map cM.row) (by rw[Ag];have:=hs.items.1;omega) (lU λ_=>rfl)
  (λr hr=>by obtain⟨x,_,rfl⟩:=Ac.1 hr;exact⟨rfl,rfl,rfl⟩)
  (λr hr=>by obtain⟨x,hx,rfl⟩:=Ac.1 hr;exact xd7 x (hs.items.2 x hx).2)
 have h2:=yL5 52 cB (st.rows.map λ(l:List bJ)=> [V.sl .ro (l.map bJ.row)]) (by rw[Ag];have:=hs.rows.1;omega) (lU λ_=>rfl)
  (λr hr=>by obtain⟨x,_,rfl⟩:=Ac.1 hr;exact⟨_,rfl⟩)
  (λr hr=>by obtain⟨x,hx,rfl⟩:=Ac.1 hr;exact xx7 x (by have:=(hs.rows.2 x hx).1;omega) (hs.rows.2 x hx).2)
 have h3:=yX3 55 cB (st.cD.map cm.row) (by rw[Ag];have:=hs.cD.1;omega) (lU λ_=>rfl)
  (λr hr=>by obtain⟨x,_,rfl⟩:=Ac.1 hr;exact⟨rfl,rfl,rfl⟩)
  (λr hr=>by obtain⟨x,hx,rfl⟩:=Ac.1 hr;exact xx8 x (hs.cD.2 x hx).2)
 have h4:=K3 st.cE hs.cE
 refine iV 0 func47 ntmps47 results47 λc hc hb=> ?_
 refine zA ?_
 simp[go_sem]
 refine pC h1 ?_
 simp[go_sem]
 refine pC h2 ?_
 simp[go_sem]
 refine pC h3 ?_
 simp[go_sem]
 refine zL h4 cB ⟨by rw[bJ.bS];exact zC rfl,tV⟩ (OS _) ?_
 simp[go_sem]
 exact wR
theorem VX (l:dR) (hl:ki l):Pure prog 21 [.agg l.row] (.agg l.row):=by
 have h1:=yX5 47 cB (l.stmts.map bW.row) (by rw[Ag];have:=hl.stmts.1;omega) (lU λ_=>rfl)
  (λr hr=>by obtain⟨x,_,rfl⟩:=Ac.1 hr;exact⟨rfl,rfl,rfl⟩)
  (λr hr=>by obtain⟨x,hx,rfl⟩:=Ac.1 hr;exact xd9 x (hl.stmts.2 x hx))
 refine iV 0 func21 ntmps21 results21 λc hc hb=> ?_
 refine zA ?_
 simp[go_sem]
 refine pC h1 ?_
 simp[go_sem]
 exact wR
def VY (a:KZ):Prop:=a.2.2.length<=100000/\ ∀x∈a.2.2,x.rows.length<=100000/\ ∀r∈x.rows,r.length<=100000
theorem xx6 (o:Ot) (hl:o.rows.length<=100000/\ ∀r∈o.rows,r.length<=100000):Pure prog 93 [.agg o.row] (.agg o.row):=by
 have h1:=yX6 95 cB (o.rows.map λr=> [.sl .ro (r.map bK.row)]) (by rw[Ag];exact hl.1) (lU λ_=>rfl)
  (λr hr=>by obtain⟨x,_,rfl⟩:=Ac.1 hr;exact⟨_,rfl⟩)
  (λr hr=>by obtain⟨x,hx,rfl⟩:=Ac.1 hr;exact xT4 _ (by rw[Ag];exact hl.2 x hx) (lU λ_=>rfl))
 refine iV 0 func93 ntmps93 results93 λc hc hb=> ?_
 refine zA ?_
 simp[go_sem,Ot.row]
 refine pC h1 ?_
 simp[go_sem]
 exact wR
theorem VZ (a:KZ) (ha:VY a):Pure prog 45 [.agg (oW a)] (.agg (oW a)):=by
 have h1:=xr3 93 cB (a.2.2.map Ot.row) (by rw[Ag];exact ha.1) (lU λ_=>rfl)
  (λr hr=>by obtain⟨x,_,rfl⟩:=Ac.1 hr;exact⟨rfl,rfl,rfl⟩)
  (λr hr=>by obtain⟨x,hx,rfl⟩:=Ac.1 hr;exact xx6 x (ha.2 x hx))
 refine iV 0 func45 ntmps45 results45 λc hc hb=> ?_
 refine zA ?_
 simp[go_sem,oW]
 refine pC h1 ?_
 simp[go_sem]
 exact wR
theorem xx5 (l:cu) (hl:jN l):Pure prog 124 [.agg l.row] (.agg l.row):=by
 have h1:=VP (l.eL.map cp.row) (by rw[Ag];exact hl.eL) (lU λ_=>rfl)
 have h2:=VQ (l.writes.map eC.row) (by rw[Ag];exact hl.writes) (lU λ_=>rfl)
 have h3:=VR (l.dy.map ig.row) (by rw[Ag];have:=hl.dy.1;omega) (lU λ_=>rfl)
 refine iV 0 func124 ntmps124 results124 λc hc hb=> ?_
 refine zA ?_
 simp[go_sem]
 refine yL [(2,0),(5,0),(8,0)] 2 rfl kR kR ?_
 simp[go_sem]
 refine pD h1 ?_
 simp[go_sem]
 refine pD h2 ?_
 simp[go_sem]
 refine pD h3 ?_
 simp[go_sem]
 exact wR
theorem tQ (n:Nat) (l:List cu):bT n (.cj (l.map cu.row) 11)=true:=by simp[bT,cQ,cL,cu.row]
theorem H7 (l:List cu):xQ (l.map cu.row)=true:=by simp[xQ,cu.row,pc]
theorem xr2 (l:List cu) (hl:l.length<=100000) (hg: ∀x∈l,jN x):bN prog 123 [.sl .ro (l.map cu.row),.fn 124 []] [] (λr s=>r= .cJ 0 11 l.length 0 l.length/\s= [.cj (l.map cu.row) 11]):=by
 refine iV 0 func123 ntmps123 results123 λc hc hb=> ?_
 refine zA ?_
 simp[go_sem]
 refine Fb 5 11 dC sg ?_
 refine zI (S:=Nat×List cu) [1,5,8,9,10] (λu=> [.fn 124 [],.cJ 0 11 u.2.length 0 u.2.length,.sl .ro (l.map cu.row),.int .i64 l.length,.int .i64 u.1]) (λu=> [.cj (u.2.map cu.row) 11]) (λu=>l.length - u.1) (λu=>u.1<=l.length/\u.2=l.take u.1) hc hb (0,[]) ⟨A4 _,sm⟩ ?_ ?_
 .exact aN 1 rfl
 rintro⟨i,out⟩ ⟨hi,ho⟩
 simp only at hi ho
 have ad:out.length=i:=by rw[ho,B0];omega
 by_cases q:i<l.length
 rotate_left
 .have h2:out=l:=by rw[ho];exact Aa om
  refine zA ?_
  simp[go_sem,q]
  exact GI sm ⟨by rw[h2],by rw[h2]⟩
 have ei:=zQ q om
 obtain⟨y,hy⟩:=eX (l[i])
 have aa:=xx5 y (hg y (hy▸A8 q))
 have ab:out++ [y]=l.take (i+1):=by rw[ho,Ah q,hy]
 refine zA ?_
 simp[go_sem,q,hy]
 refine pC aa ?_
 simp[go_sem,Cl]
 refine zJ ⟨zY rfl,om⟩ ?_
 simp[go_sem,ei]
 exact zH (i+1,out++ [y]) ⟨by show l.length - (i+1)<l.length - i;omega,⟨q,ab⟩,aN 1 (by rw[Bv,tQ];rfl)⟩
theorem wb7 {P:Program} {c:Ctx} {I:St} {f:FuncId} {bY args cc:List V} {KV:V->St->Prop} {rows:List (List V)} {w n:Nat} (hc:bN P f cc [] λr s=>r= .cJ 0 w n 0 n/\s= [.cj rows w]) (hb:xF P f) (ab:bT 0 (.cj rows w))
  (aa:bP (cP (cH [] I.length)) cc (args++bY)) (hK:KV (.cJ I.length w n 0 n) (I++ [.cj rows w])):iZ P c (.fn f bY) args I KV fx:=by
 refine VC.of hc hb [] C1 rfl sm aa λr s h _=> ?_
 obtain⟨rfl,rfl⟩:=h
 have e:xB [] I [.cj rows w]=I++ [.cj rows w]:=by
  simp only[xB,fO,Bj,Ct,Ai,Bh]
  rw[yW (n:=0) om ab]
 grind[dF,cH,dK,de,di]
theorem xd8 (l:List cu) (hl:l.length<=100000) (hg: ∀x∈l,jN x):bN prog 78 [.sl .ro (l.map cu.row)] [] (λr s=>r= .cJ 0 11 l.length 0 l.length/\s= [.cj (l.map cu.row) 11]):=by
 have h:=xr2 l hl hg
 refine iV 0 func78 ntmps78 results78 λc hc hb=> ?_
 refine zA ?_
 simp[go_sem]
 refine wb7 h cB (tQ 0 l) ⟨zK,zC rfl,tV⟩ ?_
 simp[go_sem]
 exact GI sm ⟨rfl,rfl⟩
@[go_sem] def Tx.fF (t:Tx) (k:Nat):List V:= [.int .i64 t.id.node,.int .i64 t.id.gM,.int .i64 t.id.seq,.int .i64 t.id.attempt,.int .i64 t.cK.mode,.int .i64 t.cK.n,.sl .ro (t.cK.stmts.map bW.row),.int .i64 t.phase,.int .i64 t.at_.wall,.int .i64 t.at_.tie,.int .i64 t.bump,.int .i64 t.home,.cJ k 11 t.bV.length 0 t.bV.length,.int .i64 t.gW.1,.int .i64 t.gW.2.1,.sl .ro (t.gW.2.2.map Ot.row)]
theorem xx9 (t:Tx) (ht:jH t):bN prog 31 [.agg t.row] [] (λr s=>r= .agg (t.fF 0)/\s= [.cj (t.bV.map cu.row) 11]):=by
 have h1:=VX t.cK ht.cK
 have h2:=VZ t.gW ht.outs
 have h3:=xd8 t.bV (by have:=ht.bV;omega) ht.mH
 refine iV 0 func31 ntmps31 results31 λc hc hb=> ?_
 refine zA ?_
 simp[go_sem]
 refine yL [(2,0),(5,0),(8,3)] 2 rfl kR kR ?_
 simp[go_sem]
 refine pD h1 ?_
 simp[go_sem]
 refine pD h2 ?_
 simp[go_sem,oW]
 refine Yf h3 cB ⟨zK,tV⟩ ?_
 have e:yE (cH [] 2) (.cj (t.bV.map cu.row) 11)= .cj (t.bV.map cu.row) 11:=yW (n:=0) (λi hi=>om) (tQ 0 _)
 simp[go_sem,dF,dK,de,di,xY5,e]
 exact xy6 [2] sm rfl (s:= [.cj (t.bV.map cu.row) 11]) ⟨by simp[yW (n:=0) (ρ:=cH [2] 3) (λi hi=>om) (tQ 0 t.bV)],tV⟩ (r:= .agg (t.fF 0)) (.inl (by simp[dF,dK,de,di,cH,Tx.fF])) ⟨rfl,rfl⟩
theorem OT (t:Tx):Pure prog 22 [.agg t.row] (.agg (qQ t).row):=by
 refine iV 0 func22 ntmps22 results22 λc hc hb=> ?_
 refine zA ?_
 simp[go_sem]
 exact zX (VN (qQ t) (g:= .full) (rows:= []) rfl) ⟨rfl,rfl⟩
theorem xB9 (t:Tx):Pure prog 30 [.agg t.row] (.agg (OR t).row):=by
 refine iV 0 func30 ntmps30 results30 λc hc hb=> ?_
 refine zA ?_
 simp[go_sem]
 exact zX (xA0 (OR t) (g:= .full) (k:= .full)) ⟨rfl,rfl⟩
theorem V0 (t:Tx) (yes:Bool) (hl:t.bV.length<=100000):Pure prog 35 [.agg t.row,.bool yes] (.sl .ro ((FZ t yes).map cV.row)):=by
 obtain⟨M,hM⟩:=eX (FZ t yes)
 rw[hM]
 unfold FZ at hM
 refine iV 0 func35 ntmps35 results35 λc hc hb=> ?_
 refine zA ?_
 simp[go_sem]
 refine lE 5 15 dC sg ?_
 refine zI (S:=Nat×List cV) [1,2,5,9,10,11] (λu=> [.bool yes,.ptr 0 0,.sl (.app 1) (u.2.map cV.row),.sl .ro (t.bV.map cu.row),.int .i64 t.bV.length,.int .i64 u.1]) (λu=> [.box t.row,.app u.2.length 15]) (λu=>t.bV.length - u.1) (λu=>u.1<=t.bV.length/\u.2=(t.bV.take u.1).map λx=>Ec x.range t.id yes) hc hb (0,[]) ⟨A4 _,sm⟩ ?_ ?_
 .exact aN 2 (by simp[bT,cQ,cL,Tx.row])
 rintro⟨i,out⟩ ⟨hi,ho⟩
 simp only at hi ho
 have ab:out.length=i:=by rw[ho,Ag,B0];omega
 by_cases q:i<t.bV.length
 rotate_left
 .have h2:out=M:=by rw[ho,<-hM,Aa om]
  refine zA ?_
  simp[go_sem,q]
  exact zX (by rw[h2];exact zK) ⟨rfl,rfl⟩
 have ei:=zQ q om
 obtain⟨y,hy⟩:=eX (t.bV[i])
 have aa:out++ [Ec y.range t.id yes]=(t.bV.take (i+1)).map λx=>Ec x.range t.id yes:=by rw[ho,Ah q,hy,C3];rfl
 refine zA ?_
 simp[go_sem,q,hy]
 refine zJ ⟨om,zY rfl⟩ ?_
 simp[go_sem,ei]
 exact zH (i+1,out++ [Ec y.range t.id yes]) ⟨by show t.bV.length - (i+1)<t.bV.length - i;omega,⟨q,aa⟩,aM 2 (by simp[bT,cQ,cL]) (zD (by simp[go_sem,Ec]) rfl)⟩
def OU:cV:=⟨0,OQ⟩
def lx (t:Tx) (l:cu):cV×Bool:=match gq t l with
 |some a=>(a,true)
 |none=>(OU,false)
theorem V1 (t:Tx) (l:cu) (hl:jN l):Pure prog 29 [.agg t.row,.agg l.row] (.cy [.agg (lx t l).1.row,.bool (lx t l).2]):=by
 have h1:=VP (l.eL.map cp.row) (by rw[Ag];exact hl.eL) (lU λ_=>rfl)
 have h2:=VQ (l.writes.map eC.row) (by rw[Ag];exact hl.writes) (lU λ_=>rfl)
 obtain⟨a,hM⟩:=eX (lx t l)
 rw[hM]
 unfold lx gq at hM
 have ret: ∀(x:cV) (b:Bool) (I:St),(x,b)=a->cw (some (.cy [.agg x.row,.bool b])) 0 (λr s=>r= .cy [.agg a.1.row,.bool a.2]/\s= []) I:=λx b I h=>by
  subst h
  exact wR
 refine iV 0 func29 ntmps29 results29 λc hc hb=> ?_
 refine zA ?_
 by_cases s1:l.state=1
 .have aa:(l.state==1)=true:=sU s1
  rw[ahg s1]at hM
  simp[go_sem,aa]
  refine yL [(6,0)] 4 rfl kR kR ?_
  simp[go_sem]
  refine pD h1 ?_
  simp[go_sem]
  exact zX (by rw[<-hM];exact yZ ⟨H6 _ (g:= .ro) (k:= .full),xZ rfl,tV⟩) ⟨rfl,rfl⟩
 have aa:(l.state==1)=false:=sU s1
 rw[ahf s1]at hM
 by_cases s2:l.state=2
 .have ab:(l.state==2)=true:=sU s2
  rw[ahg s2]at hM
  simp[go_sem,aa,ab]
  refine yL [(8,0)] 4 rfl kR kR ?_
  simp[go_sem]
  refine pD h2 ?_
  simp[go_sem]
  exact zX (by rw[<-hM];exact yZ ⟨H6 _ (g:= .full) (k:= .ro),xZ rfl,tV⟩) ⟨rfl,rfl⟩
 have ab:(l.state==2)=false:=sU s2
 rw[ahf s2]at hM
 by_cases s3:l.state=3
 .have ad:(l.state==3)=true:=sU s3
  rw[ahg s3]at hM
  simp[go_sem,aa,ab,ad]
  exact zX (by rw[<-hM];exact yZ ⟨H6 _ (g:= .full) (k:= .full),xZ rfl,tV⟩) ⟨rfl,rfl⟩
 have ad:(l.state==3)=false:=sU s3
 rw[ahf s3]at hM
 by_cases s4:l.state=4
 .have ae:(l.state==4)=true:=sU s4
  rw[ahg s4]at hM
  simp[go_sem,aa,ab,ad,ae]
  exact zX (by rw[<-hM];exact yZ ⟨H6 _ (g:= .full) (k:= .full),xZ rfl,tV⟩) ⟨rfl,rfl⟩
 have ae:(l.state==4)=false:=sU s4
 rw[ahf s4]at hM
 simp[go_sem,aa,ab,ad,ae]
 exact zX (by rw[<-hM];exact yZ ⟨H6 _ (g:= .full) (k:= .full),xZ rfl,tV⟩) ⟨rfl,rfl⟩
def AD (t:Tx) (l:List cu):List cV:=l.filterMap (gq t)
theorem xp8 (t:Tx) (l:cu):AD t [l]=if(lx t l).2=true then [(lx t l).1]else []:=by
 unfold AD lx
 rw[List.filterMap_cons]
 cases gq t l<;>simp
theorem OV (t:Tx) (hl:t.bV.length<=100000) (hg: ∀x∈t.bV,jN x):Pure prog 11 [.agg t.row] (.sl .ro ((kM t).map cV.row)):=by
 obtain⟨M,hM⟩:=eX (kM t)
 rw[hM]
 unfold kM at hM
 have ad:=xB9 t
 by_cases hp:t.phase=1\/t.phase=2
 .rw[ahg hp]at hM
  have ae: ∀i (h:i<t.bV.length),AD t (t.bV.take (i+1))=AD t (t.bV.take i)++AD t [t.bV[i]]:=λi h=>by
   unfold AD
   rw[Ah h,List.filterMap_append]
  have af:((t.phase==1)=true/\(t.phase==1)=true)\/((t.phase==1)=false/\(t.phase==2)=true):=by
   rcases hp with hp|hp<;>rw[hp]
   .exact .inl ⟨rfl,rfl⟩
   .exact .inr ⟨rfl,rfl⟩
  refine iV 0 func11 ntmps11 results11 λc hc hb=> ?_
  rcases af with ⟨h0,h1⟩|⟨h0,h1⟩
  all_goals
   refine zA ?_
   simp[go_sem,h0,h1]
   refine lE 3 15 dC sg ?_
   refine zI (S:=Nat×List cV) [1,3,14,15,16] (λu=> [.ptr 0 0,.sl (.app 1) (u.2.map cV.row),.sl .ro (t.bV.map cu.row),.int .i64 t.bV.length,.int .i64 u.1]) (λu=> [.box t.row,.app u.2.length 15]) (λu=>t.bV.length - u.1) (λu=>u.1<=t.bV.length/\u.2.length<=u.1/\u.2=AD t (t.bV.take u.1)) hc hb (0,[]) ⟨A4 _,A7 _,by simp[AD]⟩ ?_ ?_
   .exact aN 2 (by simp[bT,cQ,cL,Tx.row])
   rintro⟨i,out⟩ ⟨hi,ah,ho⟩
   simp only at hi ah ho
   by_cases q:i<t.bV.length
   rotate_left
   .have h2:out=M:=by rw[ho,<-hM,Aa om];rfl
    refine zA ?_
    simp[go_sem,q]
    exact zX (by rw[h2];exact zK) ⟨rfl,rfl⟩
   have ei:=zQ q om
   have aa:=ae i q
   rw[<-ho]at aa
   obtain⟨y,hy⟩:=eX (t.bV[i])
   have ab:=V1 t y (hg y (hy▸A8 q))
   rw[hy,xp8]at aa
   obtain⟨⟨a,b⟩,ai⟩: ∃p,lx t y=p:=⟨_,rfl⟩
   rw[ai]at ab aa
   simp only at ab aa
   refine zA ?_
   simp[go_sem,q,hy]
   refine pC ab ?_
   cases b with
   |true=>
    rw[ahg rfl]at aa
    simp[go_sem]
    refine zJ ⟨om,zY rfl⟩ ?_
    simp[go_sem,ei]
    exact zH (i+1,out++ [a]) ⟨by show t.bV.length - (i+1)<t.bV.length - i;omega,⟨q,by show(out++ [a]).length<=i+1;simp;omega,aa.symm⟩,aN 2 (by simp[bT,cQ,cL])⟩
   |false=>
    rw[ahf dC,Ax]at aa
    simp[go_sem,ei]
    exact zH (i+1,out) ⟨by show t.bV.length - (i+1)<t.bV.length - i;omega,⟨q,by show out.length<=i+1;omega,aa.symm⟩,aN 2 (by simp[bT,cQ,cL])⟩
 rw[ahf hp]at hM
 have h1:(t.phase==1)=false:=by simp;omega
 have h2:(t.phase==2)=false:=by simp;omega
 by_cases p3:t.phase=3
 .have h3:(t.phase==3)=true:=sU p3
  rw[ahg p3]at hM
  refine iV 0 func11 ntmps11 results11 λc hc hb=> ?_
  refine zA ?_
  simp[go_sem,h1,h2,h3]
  refine pC ad ?_
  simp[go_sem]
  refine zJ ⟨by simp[eI],zY rfl⟩ ?_
  simp[go_sem]
  exact zX (r:= .sl .ro (M.map cV.row)) (by rw[<-hM];exact zK) ⟨rfl,rfl⟩
 .have h3:(t.phase==3)=false:=sU p3
  rw[ahf p3]at hM
  refine iV 0 func11 ntmps11 results11 λc hc hb=> ?_
  refine zA ?_
  simp[go_sem,h1,h2,h3]
  exact zX (r:= .sl .ro (M.map cV.row)) (by rw[<-hM];exact zK) ⟨rfl,rfl⟩
theorem V2 (a b:cV) (ha:nZ a.cmd) (aa:nZ b.cmd):Pure prog 34 [.agg a.row,.agg b.row] (.bool (decide (a=b))):=by
 have h:=xe5 a.cmd b.cmd ha aa
 have hM:decide (a=b)=(a.range==b.range&&decide (a.cmd=b.cmd)):=by
  obtain⟨a1,a2⟩:=a
  obtain⟨b1,b2⟩:=b
  simp
  rfl
 rw[hM]
 generalize decide (a.cmd=b.cmd)=d at h⊢
 obtain⟨M,hM⟩:=eX ((a.range==b.range&&d))
 rw[hM]
 have ret: ∀(r:Bool) (I:St),r=M->cw (some (.bool r)) 0 (λr s=>r= .bool M/\s= []) I:=λr I h=>by subst h;exact wR
 refine iW 0 func34 ntmps34 results34 λc hc hb=>zM ?_
 simp[go_sem]
 refine xE (λq=> ?_) (λq=> ?_)<;>simp[go_sem,q]
 .refine pC h ?_
  simp[go_sem]
  exact ret _ _ (by rw[<-hM];simp_all)
 .exact ret _ _ (by rw[<-hM];simp_all)
theorem H8 (n:Nat) (a:cV):bT n (.box a.row)=true:=by simp[bT,cQ,cL,cV.row]
theorem xL6 (a x:cV) (ha:nZ a.cmd) (hx:nZ x.cmd):bN prog 33 [.agg x.row,.ptr 0 0] [.box a.row] (λr I=>r= .bool (decide (x=a))/\I= [.box a.row]):=by
 have h:=V2 x a hx ha
 refine iW 1 func33 ntmps33 results33 λc hc hb=>zM ?_
 simp[go_sem]
 refine pC h ?_
 simp[go_sem]
 exact yX 1 rfl rfl (by simp[bT,cQ,cL]) (A7 _) (zC rfl) ⟨rfl,rfl⟩
theorem xF9 (a:cV) (ha:nZ a.cmd) (l:List cV) (hl:l.length<=100000) (hx: ∀x∈l,nZ x.cmd):bN prog 79 [.sl .ro (l.map cV.row),.fn 33 [.ptr 0 0]] [.box a.row] (λr I=>r= .int .i64 (xR (λy=>decide (y=a)) l 0)/\I= [.box a.row]):=by
 generalize hM:xR (λy:cV=>decide (y=a)) l 0=M
 have ret: ∀(r:Int) (I:St),r=M->cw (some (.int .i64 r)) 1 (λr s=>r= .int .i64 M/\s= [.box a.row]) (.box a.row::I):=λr I h=>by subst h;exact yX 1 rfl rfl (by simp[bT,cQ,cL,cV.row]) (A7 _) (zC rfl) ⟨rfl,rfl⟩
 refine iV 1 func79 ntmps79 results79 λc hc hb=> ?_
 refine zA ?_
 simp[go_sem]
 refine zI (S:=Nat) [0,1,6,7,8] (λi=> [.sl .ro (l.map cV.row),.fn 33 [.ptr 0 0],.sl .ro (l.map cV.row),.int .i64 l.length,.int .i64 (i:Int)]) (λ_=> [.box a.row]) (λi=>l.length - i)
  (λi=>i<=l.length/\xR (λy=>decide (y=a)) (l.drop i) i=M) hc hb 0 ⟨A4 _,hM⟩ ?_ ?_
 .exact aN 1 (by simp[bT,cQ,cL,cV.row])
 rintro i ⟨hi,hinv⟩
 by_cases q:i<l.length
 rotate_left
 .rw[A9 om]at hinv
  refine zA ?_
  simp[go_sem,q]
  exact ret _ _ hinv
 have ei:=zQ q om
 obtain⟨y,hy⟩:=eX (l[i])
 rw[A5 q,hy,xR]at hinv
 have aa:=xL6 a y ha (hx y (hy▸A8 q))
 generalize decide (y=a)=b at aa hinv
 refine zA ?_
 simp[go_sem,q,hy]
 refine lV 0 aa cB rfl (H8 0 a) ⟨zC rfl,.inl rfl,tV⟩ (λr I h=>⟨_,h.2,H8 0 a⟩) ?_
 rintro r o2 ⟨rfl,h2⟩
 obtain rfl:o2= .box a.row:=sU h2
 refine(A6 b).elim (λp=> ?_) (λp=> ?_)
 .rw[ahg p]at hinv
  simp[go_sem,p]
  exact ret _ _ hinv
 .rw[ahf (by rw[p];decide)]at hinv
  simp[go_sem,p,ei]
  exact zH (i+1) ⟨om,⟨om,hinv⟩,aN 1 (by simp[bT,cQ,cL])⟩
theorem xF6 (a:cV) (ha:nZ a.cmd) (l:List cV) (hl:l.length<=100000) (hx: ∀x∈l,nZ x.cmd):bN prog 32 [.sl .ro (l.map cV.row),.fn 33 [.ptr 0 0]] [.box a.row] (λr I=>r= .bool (l.any λy=>decide (y=a))/\I= [.box a.row]):=by
 have h:=xF9 a ha l hl hx
 have hg:=DQ (λy:cV=>decide (y=a)) l 0
 rw[<-hg]
 generalize xR (λy:cV=>decide (y=a)) l 0=n at h⊢
 refine iW 1 func32 ntmps32 results32 λc hc hb=>zM ?_
 simp[go_sem]
 refine lV 0 h cB rfl (H8 0 a) ⟨zC rfl,.inl (by simp[dF,dK,de,di,cH]),tV⟩ (λr I h=>⟨_,h.2,H8 0 a⟩) ?_
 rintro r o2 ⟨rfl,h2⟩
 obtain rfl:o2= .box a.row:=sU h2
 simp[go_sem]
 exact yX 1 rfl rfl (by simp[bT,cQ,cL]) (A7 _) (zC rfl) ⟨rfl,rfl⟩
theorem xL7 (x:cu):Pure prog 39 [.agg x.row] (.bool (x.state !=5)):=by
 refine iW 0 func39 ntmps39 results39 λc hc hb=>zM ?_
 simp[go_sem]
 exact wR
theorem xG0 (l:List cu) (hl:l.length<=100000):Pure prog 83 [.sl .ro (l.map cu.row),.fn 39 []] (.int .i64 (xR (λy=>y.state !=5) l 0)):=by
 generalize hM:xR (λy:cu=>y.state !=5) l 0=M
 have ret: ∀(r:Int) (I:St),r=M->cw (some (.int .i64 r)) 0 (λr s=>r= .int .i64 M/\s= []) I:=λr I h=>by subst h;exact wR
 refine iV 0 func83 ntmps83 results83 λc hc hb=> ?_
 refine zA ?_
 simp[go_sem]
 refine zI (S:=Nat) [0,1,6,7,8] (λi=> [.sl .ro (l.map cu.row),.fn 39 [],.sl .ro (l.map cu.row),.int .i64 l.length,.int .i64 (i:Int)]) (λ_=> []) (λi=>l.length - i)
  (λi=>i<=l.length/\xR (λy=>y.state !=5) (l.drop i) i=M) hc hb 0 ⟨A4 _,hM⟩ ?_ ?_
 .exact aN 0 sm
 rintro i ⟨hi,hinv⟩
 by_cases q:i<l.length
 rotate_left
 .rw[A9 om]at hinv
  refine zA ?_
  simp[go_sem,q]
  exact ret _ _ hinv
 have ei:=zQ q om
 obtain⟨y,hy⟩:=eX (l[i])
 rw[A5 q,hy,xR]at hinv
 have aa:=xL7 y
 generalize (y.state !=5)=b at aa hinv
 refine zA ?_
 simp[go_sem,q,hy]
 refine pC aa ?_
 refine(A6 b).elim (λp=> ?_) (λp=> ?_)
 .rw[ahg p]at hinv
  simp[go_sem,p]
  exact ret _ _ hinv
 .rw[ahf (by rw[p];decide)]at hinv
  simp[go_sem,p,ei]
  exact zH (i+1) ⟨om,⟨om,hinv⟩,aN 0 sm⟩
theorem xF7 (l:List cu) (hl:l.length<=100000):Pure prog 38 [.sl .ro (l.map cu.row),.fn 39 []] (.bool (l.any λy=>y.state !=5)):=by
 have h:=xG0 l hl
 have hg:=DQ (λy:cu=>y.state !=5) l 0
 rw[<-hg]
 generalize xR (λy:cu=>y.state !=5) l 0=n at h⊢
 refine iW 0 func38 ntmps38 results38 λc hc hb=>zM ?_
 simp[go_sem]
 refine pC h ?_
 simp[go_sem]
 exact wR
theorem OW (w n:Int) (hw:dp w) (hn:0<=n/\n<=100):Pure prog 82 [.int .i64 w,.int .i64 n] (.int .i64 (tO w n)):=by
 unfold dp at hw
 have e1:IntKind.i64.wrap (4611686018427387904 - n)=4611686018427387904 - n:=bX om om
 have e2:IntKind.i64.wrap (tO w n)=tO w n:=bX (by unfold tO mn;split<;>omega) (by unfold tO mn;split<;>omega)
 unfold tO mn at e2⊢
 refine iW 0 func82 ntmps82 results82 λc hc hb=>zM ?_
 simp[go_sem,e1]
 simp[e2]
 exact wR
theorem V3 (t:Tx) (ht:jH t) (wall:Int):Pure prog 19 [.agg t.row,.int .i64 wall] (if t.phase=4/\t.at_.wall<=wall then .cy [.agg (oW t.gW),.bool true]else .cy [.agg (oW (0,0,[])),.bool false]):=by
 have h:=VZ t.gW ht.outs
 obtain⟨M,hM⟩: ∃M,(if t.phase=4/\t.at_.wall<=wall then V.cy [.agg (oW t.gW),.bool true]else .cy [.agg (oW (0,0,[])),.bool false])=M:=⟨_,rfl⟩
 rw[hM]
 refine iV 0 func19 ntmps19 results19 λc hc hb=> ?_
 refine zA ?_
 by_cases q1:t.phase=4
 .have aa:(t.phase !=4)=false:=sU q1
  by_cases q2:t.at_.wall<=wall
  .have ab:decide (wall<t.at_.wall)=false:=by simp;omega
   rw[ahg ⟨q1,q2⟩]at hM
   simp[go_sem,aa,ab]
   refine pC h ?_
   simp[go_sem,oW]
   exact zX (r:=M) (by rw[<-hM];exact zC rfl) ⟨rfl,rfl⟩
  .have ab:decide (wall<t.at_.wall)=true:=by simp;omega
   rw[ahf (λh=>q2 h.2)]at hM
   simp[go_sem,aa,ab]
   exact zX (r:=M) (by rw[<-hM];exact yZ ⟨wT ⟨zF rfl,zF rfl,zW,tV⟩,xZ rfl,tV⟩) ⟨rfl,rfl⟩
 .have aa:(t.phase !=4)=true:=sU q1
  rw[ahf (λh=>q1 h.1)]at hM
  simp[go_sem,aa]
  exact zX (r:=M) (by rw[<-hM];exact yZ ⟨wT ⟨zF rfl,zF rfl,zW,tV⟩,xZ rfl,tV⟩) ⟨rfl,rfl⟩
structure eZ (r:dN):Prop where
 dy:r.dy.length<=1000/\ ∀p∈r.dy,p.data.length<=du
 wall:dp r.wall
 at_:dp r.at_.wall
def fI (t:Tx) (n:Nat) (l:List cu):St:= [.box (t.eD (.cJ 1 11 n 0 n)),.cj (l.map cu.row) 11]
def Ed (t:Tx) (l:List cu) (i:Nat) (x:dN) (o:cu×Int×Bool×Bool) (r:V) (I:St):Prop:=
 r= .cy [.int .i64 o.2.1,.bool o.2.2.1]/\I=(if o.2.2.2=true then [.box (qQ {t with gW:=(x.err,0,[])}).row,.cj (l.map cu.row) 11]else fI t l.length (l.set i o.1))
theorem xW5 (t:Tx) (n k:Nat) (l:List cu) (hk:2<=k):(fI t n l).all (bT k)=true:=by
 have:1<k:=om
 simp[fI,bT,cQ,cL,cu.row,Tx.eD,this]
theorem xQ1 (t:Tx) (n:Nat) (rows:List (List V)) (hr:bT 0 (.cj rows 11)):bN prog 22 [.agg (t.eD (.cJ 0 11 n 0 n))] [.cj rows 11] (λr s=>r= .agg (qQ t).row/\s= [.cj rows 11]):=by
 refine iV 1 func22 ntmps22 results22 λc hc hb=> ?_
 refine zA ?_
 simp[go_sem]
 exact yX (s:= [.cj rows 11]) 1 rfl rfl (by simp only[Bv,Dj,Dn];exact Jo (A4 _) hr) (A7 _) (VN (qQ t) (g:= .full) (rows:= []) rfl) ⟨rfl,rfl⟩
theorem wp1 (t:Tx) (l:List cu) (i:Nat) (hi:i<l.length) (x:dN) (hx:eZ x):
  bN prog 37 [.ptr 0 0,.iH 1 11 l.length i 0,.agg x.row] (fI t l.length l) (Ed t l i x (gR t.phase l[i] x)):=by
 have ay:=OW x.wall 1 hx.wall om
 have ax:=OW x.wall 24 hx.wall om
 have az:=OW x.at_.wall 1 hx.at_ om
 have a1:=VR (x.dy.map ig.row) (by rw[Ag];have:=hx.dy.1;omega) (lU λ_=>rfl)
 have a6:=xQ1 {t with gW:=(x.err,0,[])} l.length (l.map cu.row) (tQ 0 l)
 obtain⟨y,hy⟩:=eX (l[i])
 rw[hy]
 have aa:(l.map cu.row)[i]? =some y.row:=by rw[B3,A0 hi,hy];rfl
 have ad:(l.map cu.row).getD i []=y.row:=by rw[Ae,aa];rfl
 obtain⟨o,hM⟩:=eX (gR t.phase y x)
 rw[hM]
 unfold gR at hM
 have ret: ∀(b:Int) (g:Bool) (l':cu) (rows:List (List V)) (I:St),(l',b,g,false)=o->rows=(l.set i l').map cu.row->cw (some (.cy [.int .i64 b,.bool g])) 2 (Ed t l i x o) (.box (t.eD (.cJ 1 11 l.length 0 l.length)):: .cj rows 11::I):=λb g l' rows I h hr=>by
  subst h
  subst hr
  exact ud 2 rfl (xW5 t l.length 2 (l.set i l') (A7 _)) (A7 _) (zC rfl) ⟨rfl,by rw[ahf sm];rfl⟩
 have same:l.map cu.row=(l.set i y).map cu.row:=by rw[<-hy,List.set_getElem_self]
 refine iV 2 func37 ntmps37 results37 λc hc hb=> ?_
 refine zA ?_
 by_cases s3:y.state=3
 .have af:(y.state==3)=true:=sU s3
  have ah:(y.state==4)=false:=by rw[s3];rfl
  by_cases e0:x.err=0
  .have ab:(x.err==0)=true:=sU e0
   rw[ahg ⟨s3,e0⟩]at hM
   simp[go_sem,fI,hi,hy,af,ab]
   refine wH [(6,3),(9,3)] 2 3 sm kR kR ?_
   simp[go_sem,hi,hy]
   exact ret _ _ {y with state:=4,yes:=x.yes} _ _ hM (by simp[cu.row])
  .have ab:(x.err==0)=false:=sU e0
   rw[ahf (λh=>e0 h.2),ahf (λh=>e0 h.2),ahg (.inl s3)]at hM
   simp[go_sem,fI,hi,hy,af,ah,ab]
   exact ret _ _ y _ _ hM same
 have af:(y.state==3)=false:=sU s3
 rw[ahf (λh=>s3 h.1)]at hM
 by_cases s4:y.state=4
 .have ah:(y.state==4)=true:=sU s4
  by_cases e0:x.err=0
  .have ab:(x.err==0)=true:=sU e0
   rw[ahg ⟨s4,e0⟩]at hM
   by_cases p2:t.phase=2
   .have aw:(t.phase==2)=true:=sU p2
    rw[ahg p2]at hM
    simp[go_sem,fI,hi,hy,af,ah,ab,aw]
    exact ret _ _ {y with state:=2,gB:=zT,home:=0,yes:=false} _ _ hM (by simp[cu.row,zT])
   .have aw:(t.phase==2)=false:=sU p2
    rw[ahf p2]at hM
    simp[go_sem,fI,hi,hy,af,ah,ab,aw]
    exact ret _ _ {y with state:=1,gB:=zT,home:=0,yes:=false} _ _ hM (by simp[cu.row,zT])
  .have ab:(x.err==0)=false:=sU e0
   rw[ahf (λh=>e0 h.2),ahg (.inr s4)]at hM
   simp[go_sem,fI,hi,hy,af,ah,ab]
   exact ret _ _ y _ _ hM same
 have ah:(y.state==4)=false:=sU s4
 rw[ahf (λh=>s4 h.1),ahf (λh=>h.elim s3 s4)]at hM
 by_cases ao:x.err=20
 .have ae:(x.err==20)=true:=sU ao
  rw[ahg ao]at hM
  simp[go_sem,fI,hi,hy,af,ah,ae]
  refine wH [(9,3),(12,3),(15,3)] 2 3 sm kR kR ?_
  simp[go_sem,hi,hy]
  exact ret _ _ {y with state:=3,gB:=x.gB,home:=x.home} _ _ hM (by simp[cu.row])
 have ae:(x.err==20)=false:=sU ao
 rw[ahf ao]at hM
 by_cases e0:x.err=0
 .have ab:(x.err==0)=true:=sU e0
  rw[ahg e0]at hM
  by_cases s1:y.state=1
  .have ai:(y.state==1)=true:=sU s1
   rw[ahg s1]at hM
   simp[go_sem,fI,hi,hy,af,ah,ae,ab,ai]
   refine pC a1 ?_
   simp[go_sem,hi,hy]
   exact ret _ _ {y with state:=5,dy:=x.dy} _ _ hM (by simp[cu.row])
  .have ai:(y.state==1)=false:=sU s1
   rw[ahf s1]at hM
   simp[go_sem,fI,hi,hy,af,ah,ae,ab,ai]
   exact ret _ _ {y with state:=5,dy:=y.dy} _ _ hM (by simp[cu.row])
 have ab:(x.err==0)=false:=sU e0
 rw[ahf e0]at hM
 by_cases s1:y.state=1
 .have ai:(y.state==1)=true:=sU s1
  by_cases aq:x.err=24
  .have al:(x.err==24)=true:=sU aq
   rw[ahg ⟨s1,aq⟩]at hM
   simp[go_sem,fI,hi,hy,af,ah,ae,ab,ai,al]
   refine pC ay ?_
   simp[go_sem]
   exact ret _ _ y _ _ hM same
  .have al:(x.err==24)=false:=sU aq
   rw[ahf (λh=>aq h.2),ahg s1]at hM
   simp[go_sem,fI,hi,hy,af,ah,ae,ab,ai,al]
   refine lV 1 a6 cB rfl (tQ 0 l) ⟨wL ⟨zF rfl,zF rfl,zF rfl,zF rfl,zF rfl,zF rfl,zW,zF rfl,zF rfl,zF rfl,zF rfl,zF rfl,.inl rfl,zF rfl,zF rfl,zW,tV⟩,tV⟩ (λr I h=>⟨_,h.2,tQ 0 l⟩) ?_
   rintro r o2 ⟨rfl,h2⟩
   obtain rfl:o2= .cj (l.map cu.row) 11:=sU h2
   simp[go_sem]
   subst hM
   exact ud 2 rfl (by simp[bT,cQ,cL,cu.row]) (A7 _) (zC rfl) ⟨rfl,by rw[ahg rfl];rfl⟩
 have ai:(y.state==1)=false:=sU s1
 rw[ahf (λh=>s1 h.1),ahf s1]at hM
 by_cases ar:x.err=21
 .have aj:(x.err==21)=true:=sU ar
  rw[ahg ar]at hM
  simp[go_sem,fI,hi,hy,af,ah,ae,ab,ai,aj]
  refine pC ax ?_
  simp[go_sem]
  exact ret _ _ y _ _ hM same
 have aj:(x.err==21)=false:=sU ar
 rw[ahf ar]at hM
 by_cases au:x.err=22
 .have ak:(x.err==22)=true:=sU au
  rw[ahg au]at hM
  simp[go_sem,fI,hi,hy,af,ah,ae,ab,ai,aj,ak]
  refine pC az ?_
  simp[go_sem]
  exact ret _ _ y _ _ hM same
 have ak:(x.err==22)=false:=sU au
 rw[ahf au]at hM
 by_cases av:x.err=26
 .have an:(x.err==26)=true:=sU av
  rw[ahg av]at hM
  simp[go_sem,fI,hi,hy,af,ah,ae,ab,ai,aj,ak,an]
  exact ret _ _ y _ _ hM same
 have an:(x.err==26)=false:=sU av
 rw[ahf av]at hM
 simp[go_sem,fI,hi,hy,af,ah,ae,ab,ai,aj,ak,an]
 exact ret _ _ y _ _ hM same
end Go.Proofs.YtplackkccmeioaaGreat
namespace Go.Vx
open Go
section
variable {P:Program} {c:Ctx} {n0:Kp} {I:St}
theorem OX {f:FuncId} {bY args cc:List V} {fb s1:St} {v:V} {KV:V->St->Prop} (hc:bN P f cc fb (λr s=>r=v/\s=s1)) (hb:xF P f) (cZ:ahQ) (ab:cZ.Nodup) (hlen:fb.length=cZ.length)
  (ad: ∀(i j:Nat) (o:Ob),cZ[i]? =some j->fb[i]? =some o->I[j]? =some (yE (cH cZ I.length) o)) (aa:bP (cP (cH cZ I.length)) cc (args++bY))
  (hk:KV (dF (cH cZ I.length) v) (xB cZ I s1)):pf P c n0 4 (.fn f bY) args I KV fx:=by
 refine⟨_,_, ?_,om,om,by grind[E7],hk⟩
 rw[ahf dC,ahf dC]
 refine VC.of hc hb cZ ab hlen ad aa ?_
 simp
end
end Go.Vx
namespace Go.Proofs.YtplackkccmeioaaGreat
open Go Go.Vx R Go.Proofs.Tryz
set_option maxRecDepth 100000
def eN:List V:= [.sl .ro xJ,.sl .ro (bO.map bL.row)]
theorem xW4 (p:Int) (l:cu) (r:dN) (h:(gR p l r).2.2.1):(gR p l r).2.2.2=false:=by
 revert h
 unfold gR
 repeat' split
 all_goals simp
theorem OY (p:Int) {l:cu} (hl:jN l) {r:dN} (hr:eZ r):jN (gR p l r).1:=by
 obtain⟨h1,h2,h3,h4⟩:=hl
 have h5:=hr.dy
 unfold gR
 repeat' split
 all_goals first|exact⟨h1,h2,h3,h4⟩|exact⟨h1,h2,h3,h5⟩
theorem K4 {t:Tx} (hg: ∀x∈t.bV,jN x): ∀x∈kM t,nZ x.cmd:=λx hx=>by
 unfold kM at hx
 split at hx
 .obtain⟨l,hl,aa⟩:=List.mem_filterMap.1 hx
  have h:=hg l hl
  unfold gq at aa
  repeat' split at aa
  all_goals first|(cases aa;exact⟨h.eL,A4 _⟩)|(cases aa;exact⟨A4 _,h.writes⟩)|(cases aa;exact⟨A4 _,A4 _⟩)|cases aa
 .split at hx
  .rw[Bb]at hx
   subst hx
   exact⟨A4 _,A4 _⟩
  .cases hx
theorem xA1 {t:Tx}:(kM t).length<=t.bV.length+1:=by
 unfold kM
 split
 .have:=List.length_filterMap_le (gq t) t.bV
  omega
 .split<;>simp
theorem wb0 {ρ:Nat->Nat} (t:Tx) {g:Tag} {rows:List (List V)} (h:t.bV.map cu.row=rows):mP ρ (.agg t.row) (.agg (t.eD (.sl g rows))):=by
 subst h
 unfold Tx.row Tx.eD
 exact wT ⟨zF rfl,zF rfl,zF rfl,zF rfl,zF rfl,zF rfl,zW,zF rfl,zF rfl,zF rfl,zF rfl,zF rfl,zW,zF rfl,zF rfl,zW,tV⟩
theorem OZ (l:List cu):iz (l.map cu.row) 0 l.length=l.map cu.row:=by
 have:(λr:List V=>r.map ly)∘cu.row=cu.row:=funext λx=>rfl
 simp[iz,this]
 exact Aa sm
theorem wb9 {P:Program} {c:Ctx} {I:St} {t:Tx} {f:FuncId} {bY args cc:List V} {KV:V->St->Prop} (hc:bN P f cc [] λr s=>r= .agg (t.fF 0)/\s= [.cj (t.bV.map cu.row) 11]) (hb:xF P f)
  (aa:bP (cP (cH [] I.length)) cc (args++bY)) (hK:KV (.agg (t.eD (.cJ I.length 11 t.bV.length 0 t.bV.length))) (I++ [.cj (t.bV.map cu.row) 11])):iZ P c (.fn f bY) args I KV fx:=by
 refine VC.of hc hb [] C1 rfl sm aa λr s h _=> ?_
 obtain⟨rfl,rfl⟩:=h
 have e:xB [] I [.cj (t.bV.map cu.row) 11]=I++ [.cj (t.bV.map cu.row) 11]:=by
  simp only[xB,fO,Bj,Ct,Ai,Bh]
  rw[yW (n:=0) om (tQ 0 _)]
 have e2:dF (cH [] I.length) (.agg (t.fF 0))= .agg (t.eD (.cJ I.length 11 t.bV.length 0 t.bV.length)):=by
  simp[dF,dK,de,di,cH,Tx.fF,Tx.eD]
 rw[e,e2]
 exact hK
def kf (t:Tx) (B:cV) (r:dN) (cur:List cu):St:= [.box eN,.box t.row,.box B.row,.box r.row,.box (t.eD (.cJ 5 11 t.bV.length 0 t.bV.length)),.cj (cur.map cu.row) 11]
theorem H9 (t:Tx) (B:cV) (r:dN) (cur:List cu):(kf t B r cur).all (bT 6)=true:=by
 simp[kf,bT,cQ,cL,cu.row,Tx.eD,Tx.row,cV.row,dN.row,eN]
theorem V4 {a b c d u l x:Ob} (t:Tx) (n:Nat) (l2:List cu):xB [4,5] [a,b,c,d,u,l,x] (fI t n l2)= [a,b,c,d,.box (t.eD (.cJ 5 11 n 0 n)),.cj (l2.map cu.row) 11,x]:=by
 have e1:yE (cH [4,5] 7) (.cj (l2.map cu.row) 11)= .cj (l2.map cu.row) 11:=yW (n:=0) (λi hi=>om) (tQ 0 _)
 have e2:yE (cH [4,5] 7) (.box (t.eD (.cJ 1 11 n 0 n)))= .box (t.eD (.cJ 5 11 n 0 n)):=by simp[yE,de,di,cH,Tx.eD]
 simp[xB,fO,fI,e1,e2]
theorem xb7 {a b c d u l x:Ob} (t:Tx) (l2:List cu):xB [4,5] [a,b,c,d,u,l,x] [.box t.row,.cj (l2.map cu.row) 11]= [a,b,c,d,.box t.row,.cj (l2.map cu.row) 11,x]:=by
 have e1:yE (cH [4,5] 7) (.cj (l2.map cu.row) 11)= .cj (l2.map cu.row) 11:=yW (n:=0) (λi hi=>om) (tQ 0 _)
 have e2:yE (cH [4,5] 7) (.box t.row)= .box t.row:=by simp[yE,de,di,Tx.row]
 simp[xB,fO,e1,e2]
theorem O0 {a b c d x:Ob} (t:Tx) (n:Nat) (l:List cu) (i j:Nat) (o:Ob) (h1: [4,5][i]? =some j) (h2:(fI t n l)[i]? =some o): [a,b,c,d,.box (t.eD (.cJ 5 11 n 0 n)),.cj (l.map cu.row) 11,x][j]? =some (yE (cH [4,5] 7) o):=by
 have e1:yE (cH [4,5] 7) (.cj (l.map cu.row) 11)= .cj (l.map cu.row) 11:=yW (n:=0) (λi hi=>om) (tQ 0 _)
 have e2:yE (cH [4,5] 7) (.box (t.eD (.cJ 1 11 n 0 n)))= .box (t.eD (.cJ 5 11 n 0 n)):=by simp[yE,de,di,cH,Tx.eD]
 rcases i with _|_|i
 .simp[fI]at h1 h2
  subst h1 h2
  rw[e2]
  rfl
 .simp[fI]at h1 h2
  subst h1 h2
  rw[e1]
  rfl
 .simp at h1
theorem xL8 (ag:Tx->Int->Int->Tx×List cV) (ru:Tx->Tx)
  (aS: ∀t bump bQ,jH t->Pure prog 36 [dG bO,.agg t.row,.int .i64 bump,.int .i64 bQ] (.cy [.agg (ag t bump bQ).1.row,.sl .ro ((ag t bump bQ).2.map cV.row)]))
  (bc: ∀t,jH t->Pure prog 40 [dG bO,.agg t.row] (.agg (ru t).row))
  (t:Tx) (ht:jH t) (a:cV) (ha:nZ a.cmd) (r:dN) (hr:eZ r) (bQ:Int):
  Pure prog 14 [dG bO,.agg t.row,.agg a.row,.agg r.row,.int .i64 bQ] (.cy [.agg (AB ag ru t a r bQ).1.row,.sl .ro ((AB ag ru t a r bQ).2.map cV.row)]):=by
 have bd:=xx9 t ht
 have bq:=ht.bV
 have aw:=OV t om ht.mH
 have aq:=xF6 (mw a) ha (kM t) (by have:= @xA1 t;omega) (K4 ht.mH)
 have ab:=V0 {t with phase:=4} true (by show t.bV.length<=100000;omega)
 have ax:=aS t 0 bQ ht
 obtain⟨M,hM⟩:=eX (AB ag ru t a r bQ)
 rw[hM]
 unfold AB at hM
 obtain⟨asked,af⟩: ∃b,((kM t).any λy=>decide (y=mw a))=b:=⟨_,rfl⟩
 have aT:asked=true->t.phase≠3->(t.phase==4)=false:=λh1 h3=>by
  have h4:t.phase≠4:=λh4=>by
   rw[<-af]at h1
   unfold kM at h1
   rw[ahf om,ahf h3]at h1
   cases h1
  simpa using h4
 rw[af]at hM aq
 clear af
 have av:=OZ t.bV
 obtain⟨B,hB⟩:=eX (mw a)
 have ah:B.row= [.int .i64 a.range,.int .i64 a.cmd.kind,.int .i64 0,.int .i64 a.cmd.node,.int .i64 a.cmd.home,.int .i64 a.cmd.gB.node,.int .i64 a.cmd.gB.gM,.int .i64 a.cmd.gB.seq,.int .i64 a.cmd.gB.attempt,.int .i64 a.cmd.at_.wall,.int .i64 a.cmd.at_.tie,.int .i64 a.cmd.wall,.bool a.cmd.yes,.sl .ro (a.cmd.eL.map cp.row),.sl .ro (a.cmd.writes.map eC.row)]:=by rw[<-hB];rfl
 rw[hB]at aq hM
 have ay:bT 0 (.box B.row):=H8 0 B
 refine iV 0 func14 ntmps14 results14 λc hc hb=> ?_
 refine zN (zA ?_)
 simp[go_sem,dG]
 refine zN (zA ?_)
 simp[go_sem]
 refine wb9 bd cB ⟨zC rfl,tV⟩ ?_
 simp[go_sem]
 refine zN (zA ?_)
 simp[go_sem]
 refine zN (zA ?_)
 simp[go_sem]
 refine pC aw ?_
 simp[go_sem]
 refine lV 2 aq cB (by rw[ah];rfl) ay ⟨zK,.inl (by simp[dF,dK,de,di,cH]),tV⟩ (λr I h=>⟨_,h.2,ay⟩) ?_
 rintro r2 o2 ⟨rfl,h2⟩
 obtain rfl:o2= .box B.row:=sU h2
 simp[go_sem]
 have ret: ∀(x:Tx) (y:List cV) (g gy:Tag) (rows:List (List V)) (I:St),(x,y)=M->x.bV.map cu.row=rows->cw (some (.cy [.agg (x.eD (.sl g rows)),.sl gy (y.map cV.row)])) 0 (λr s=>r= .cy [.agg M.1.row,.sl .ro (M.2.map cV.row)]/\s= []) I:=λx y g gy rows I h hr=>by
  subst h
  exact zX (r:= .cy [.agg x.row,.sl .ro (y.map cV.row)]) (yZ ⟨wb0 x hr,vF,tV⟩) ⟨rfl,rfl⟩
 by_cases hE: ¬asked=true\/r.err=25\/r.err=27
 .rw[ahg hE]at hM
  refine E8 5 11 (t.bV.map cu.row) rfl (H7 _) ?_
  refine zA ?_
  cases asked with
  |false=>
   simp[go_sem,fZ,fY,gi,fP,jx,mR,av]
   exact ret t [] _ .full _ _ hM rfl
  |true=>
   by_cases az:r.err=25
   .have aa:(r.err==25)=true:=sU az
    simp[go_sem,fZ,fY,gi,fP,jx,mR,av,aa]
    exact ret t [] _ .full _ _ hM rfl
   .have aa:(r.err==25)=false:=sU az
    have ae:(r.err==27)=true:=by simp at hE;simpa using hE.resolve_left az
    simp[go_sem,fZ,fY,gi,fP,jx,mR,av,aa,ae]
    exact ret t [] _ .full _ _ hM rfl
 rw[ahf hE]at hM
 obtain⟨rfl,az,bf⟩:asked=true/\ ¬r.err=25/\ ¬r.err=27:=sU hE
 have aa:(r.err==25)=false:=sU az
 have ae:(r.err==27)=false:=sU bf
 by_cases p3:t.phase=3
 .have a1:(t.phase==3)=true:=sU p3
  rw[ahg p3]at hM
  refine E8 5 11 (t.bV.map cu.row) rfl (H7 _) ?_
  refine zA ?_
  by_cases e0:r.err=0
  .have aC:(r.err !=0)=false:=sU e0
   rw[ahf (λh=>h e0)]at hM
   by_cases hy:r.yes=true
   .rw[ahg hy]at hM
    simp[go_sem,fZ,fY,gi,fP,jx,mR,av,aa,ae,a1,aC,hy]
    refine yL [(2,0)] 6 rfl kR kR ?_
    simp[go_sem]
    refine pD ab ?_
    simp[go_sem]
    exact ret {t with phase:=4} _ _ _ _ _ hM rfl
   .have bg:r.yes=false:=sU hy
    rw[ahf hy]at hM
    obtain⟨G,hG⟩:=eX (ag t 0 bQ)
    rw[hG]at hM ax
    simp[go_sem,fZ,fY,gi,fP,jx,mR,av,aa,ae,a1,aC,bg]
    refine pC ax ?_
    simp[go_sem]
    exact ret G.1 G.2 _ _ _ _ hM rfl
  .have aC:(r.err !=0)=true:=sU e0
   rw[ahg e0]at hM
   simp[go_sem,fZ,fY,gi,fP,jx,mR,av,aa,ae,a1,aC]
   exact ret t [] _ .full _ _ hM rfl
 have a1:(t.phase==3)=false:=sU p3
 rw[ahf p3]at hM
 refine nI (S:=Unit) [4,5,6,7,8,10] (λ_=> [.int .i64 bQ,.ptr 0 0,.ptr 1 0,.ptr 2 0,.ptr 3 0,.ptr 4 0]) (λ_=>kf t B r t.bV) (λ_=>True) hc hb ?_ ?_
 .refine zA ?_
  simp[go_sem,aa,ae,a1]
  exact zH () ⟨tV,cd 6 (by simp[go_sem,kf,eN]) rfl (H9 ..) dC (zD sg rfl)⟩
 rintro _ _
 obtain⟨a6,aD⟩:=eX (kb t B r [] t.bV)
 rw[aD]at hM
 clear aw aq ab ax
 refine zN (zA ?_)
 simp[go_sem,kf]
 refine zI (S:=Nat×List cu) [4,5,6,7,8,10,74,75] (λu=> [.int .i64 bQ,.ptr 0 0,.ptr 1 0,.ptr 2 0,.ptr 3 0,.ptr 4 0,.int .i64 t.bV.length,.int .i64 u.1]) (λu=>kf t B r u.2) (λu=>t.bV.length - u.1)
  (λu=>u.1<=t.bV.length/\u.2.length=t.bV.length/\u.2.drop u.1=t.bV.drop u.1/\(∀x∈u.2,jN x)/\kb t B r (u.2.take u.1) (t.bV.drop u.1)=a6) hc hb (0,t.bV) ⟨A4 _,rfl,rfl,ht.mH,aD⟩ ?_ ?_
 .exact cd 6 (by simp[go_sem,kf]) rfl (H9 ..) dC (zD sg rfl)
 rintro⟨i,cur⟩ ⟨hi,ai,a7,a8,hinv⟩
 simp only at hi ai a7 a8 hinv
 have aE:=OZ cur
 by_cases q:i<t.bV.length
 rotate_left
 .have bh:i=t.bV.length:=om
  subst bh
  rw[Ck,kb,Aa om]at hinv
  subst hinv
  rw[K0]at hM
  refine zN (zA ?_)
  simp[go_sem]
  have aI:jH {t with bV:=cur}:=⟨ht.cK,ht.my,by show cur.length<=4;omega,a8,ht.outs⟩
  have aU:=xF7 cur om
  have aF:=bc {t with bV:=cur} aI
  unfold qR at hM
  obtain⟨dn,bj⟩:=eX (cur.any (λl=>l.state !=5))
  rw[bj]at hM aU
  rw[ai]at aE
  refine zN (zA ?_)
  simp[go_sem]
  refine E8 5 11 (cur.map cu.row) rfl (H7 _) ?_
  refine zA ?_
  simp[go_sem,fZ,fY,gi,fP,jx,mR,aE,ai,kf,eN]
  refine pC aU ?_
  cases dn with
  |true=>
   rw[ahg rfl]at hM
   simp[go_sem]
   exact ret {t with bV:=cur} [] _ .full _ _ hM rfl
  |false=>
   rw[ahf dC]at hM
   by_cases p1:t.phase=1
   .have aJ:(t.phase==1)=true:=sU p1
    rw[ahg p1]at hM
    obtain⟨G,hG⟩: ∃G,ru {t with bV:=cur}=G:=⟨_,rfl⟩
    rw[hG]at hM aF
    simp[go_sem,aJ]
    refine pC aF ?_
    simp[go_sem]
    exact ret G [] _ .full _ _ hM rfl
   .have aJ:(t.phase==1)=false:=sU p1
    rw[ahf p1]at hM
    simp[go_sem,aJ]
    exact ret {t with bV:=cur,phase:=3} [] _ .full _ _ hM rfl
 have aK:=A5 q
 have aV:=A5 (l:=cur) (i:=i) om
 obtain⟨y,hy⟩:=eX (t.bV[i])
 have aW:cur[i]=y:=by rw[aK,aV]at a7;exact(List.cons.inj a7).1.trans hy
 have ar:cur.drop (i+1)=t.bV.drop (i+1):=by rw[aK,aV]at a7;exact(List.cons.inj a7).2
 rw[aK,hy,kb]at hinv
 have aL:=ht.mH y (hy▸A8 q)
 have aA:=V1 t y aL
 have aP:=zQ q om
 have al:lx t y=match gq t y with|some a=>(a,true)|none=>(OU,false):=rfl
 obtain⟨⟨ak,b⟩,bk⟩: ∃p,lx t y=p:=⟨_,rfl⟩
 rw[bk]at aA al
 simp only at aA
 refine zN (zA ?_)
 simp[go_sem,q]
 refine zN (zA ?_)
 simp[go_sem]
 refine zN (y4 (zN (zA ?_)))
 simp[go_sem]
 refine zN (zN ?_)
 refine yL [(6,0)] 6 rfl kR kR ?_
 simp[go_sem,q,hy,kf]
 refine pD aA ?_
 simp[go_sem]
 have aQ: ∀(l2:List cu),l2.length=t.bV.length->l2.drop (i+1)=t.bV.drop (i+1)->(∀x∈l2,jN x)->kb t B r (l2.take (i+1)) (t.bV.drop (i+1))=a6->(i+1<=t.bV.length/\l2.length=t.bV.length/\l2.drop (i+1)=t.bV.drop (i+1)/\(∀x∈l2,jN x)/\kb t B r (l2.take (i+1)) (t.bV.drop (i+1))=a6):=λl2 h1 h2 h3 h4=>⟨q,h1,h2,h3,h4⟩
 have aX:cur.take (i+1)=cur.take i++ [y]:=by rw[Ah om,aW]
 cases b with
 |false=>
  have bm:gq t y=none:=by
   cases hq:gq t y with
   |none=>rfl
   |some a=>rw[hq]at al;cases al
  rw[ahf (by rw[bm];simp),<-aX]at hinv
  refine zA ?_
  simp[go_sem]
  refine zA ?_
  simp[go_sem,aP]
  exact zH (i+1,cur) ⟨by show t.bV.length - (i+1)<t.bV.length - i;omega,aQ cur ai ar a8 hinv,cd 6 (by simp[go_sem]) rfl (H9 ..) dC (zD sg rfl)⟩
 |true=>
  have aY:gq t y=some ak:=by
   cases hq:gq t y with
   |none=>rw[hq]at al;cases al
   |some a=>rw[hq]at al;cases al;rfl
  rw[aY]at hinv
  have bn:nZ ak.cmd:=by
   have h:ak∈ [ak]:=Bb.2 rfl
   have:=K4 (t:={t with phase:=1,bV:= [y]}) (λx hx=>by rw[Bb.1 hx];exact aL) ak (by
    unfold kM
    rw[ahg (.inl rfl)]
    exact List.mem_filterMap.2 ⟨y,Bb.2 rfl,aY⟩)
   exact this
  have aj:=V2 ak B bn (by rw[<-hB];exact ha)
  by_cases e:ak=B
  rotate_left
  .rw[ahh e]at aj
   rw[ahf (λh=>e (ahu h)),<-aX]at hinv
   refine zA ?_
   simp[go_sem]
   refine pC aj ?_
   simp[go_sem]
   refine zA ?_
   simp[go_sem,aP]
   exact zH (i+1,cur) ⟨by show t.bV.length - (i+1)<t.bV.length - i;omega,aQ cur ai ar a8 hinv,cd 6 (by simp[go_sem]) rfl (H9 ..) dC (zD sg rfl)⟩
  rw[ahi e]at aj
  rw[ahg (by rw[e])]at hinv
  have ad:=wp1 t cur i om r hr
  rw[aW]at ad
  have hex:=xW4 t.phase y r
  have aR:=OY t.phase aL hr
  obtain⟨⟨l',bump,au,wt⟩,hO⟩: ∃o,gR t.phase y r=o:=⟨_,rfl⟩
  rw[hO]at ad hex aR hinv
  simp only at hinv hex aR
  refine zN (zA ?_)
  simp[go_sem]
  refine pC aj ?_
  simp[go_sem]
  refine zA ?_
  simp[go_sem]
  rw[ai]at ad
  have ab:(cur.set i l').length=t.bV.length:=by rw[List.length_set,ai]
  have an: ∀x∈cur.set i l',jN x:=λx hx=>by
   rcases List.mem_or_eq_of_mem_set hx with hx|rfl
   .exact a8 x hx
   .exact aR
  have ao:cur.set i l'=cur.take i++l'::t.bV.drop (i+1):=by
   rw[List.set_eq_take_append_cons_drop,ahg om,ar]
  cases wt with
  |true=>
   have bo:au=false:=by
    cases au with
    |false=>rfl
    |true=>exact absurd (hex rfl) dC
   subst bo
   rw[ahf dC,ahg rfl]at hinv
   subst hinv
   rw[K0]at hM
   have aB:bN prog 37 [.ptr 0 0,.iH 1 11 t.bV.length i 0,.agg r.row] (fI t t.bV.length cur) (λx s=>x= .cy [.int .i64 bump,.bool false]/\s= [.box (qQ {t with gW:=(r.err,0,[])}).row,.cj (cur.map cu.row) 11]):=ad
   refine zN ?_
   refine yL [] 7 rfl kR kR ?_
   simp[go_sem]
   refine zJ q ?_
   simp[go_sem]
   refine OX aB cB [4,5] dC rfl (O0 t t.bV.length cur) ⟨.inl rfl,.inl rfl,zC rfl,tV⟩ ?_
   rw[xb7]
   simp[go_sem]
   refine E8 5 11 (cur.map cu.row) rfl (H7 _) ?_
   refine zA ?_
   simp[go_sem,fZ,fY,gi,fP,jx,mR,qQ]
   exact ret (qQ {t with gW:=(r.err,0,[])}) [] _ .full _ _ hM rfl
  |false=>
   have aB:bN prog 37 [.ptr 0 0,.iH 1 11 t.bV.length i 0,.agg r.row] (fI t t.bV.length cur) (λx s=>x= .cy [.int .i64 bump,.bool au]/\s=fI t t.bV.length (cur.set i l')):=by
    unfold Ed at ad
    rw[ai]at ad
    exact ad
   have aZ:(cur.set i l').drop (i+1)=t.bV.drop (i+1):=by rw[List.drop_set_of_lt om,ar]
   have ba:kb t B r (cur.take i++ [l']) (t.bV.drop (i+1))=a6->kb t B r ((cur.set i l').take (i+1)) (t.bV.drop (i+1))=a6:=λh=>by
    rw[ao,List.take_append,B0,Aa (by rw[B0];omega),show i+1 - min i cur.length=1 by omega]
    exact h
   obtain⟨l2,bb⟩:=eX (cur.set i l')
   rw[bb]at aB aZ ba ab an ao
   cases au with
   |true=>
    rw[ahg rfl,<-ao]at hinv
    subst hinv
    rw[K0]at hM
    have aI:jH {t with bV:=l2}:=⟨ht.cK,ht.my,by show l2.length<=4;omega,an,ht.outs⟩
    have aG:=aS {t with bV:=l2} bump bQ aI
    obtain⟨G,hG⟩: ∃G,ag {t with bV:=l2} bump bQ=G:=⟨_,rfl⟩
    rw[hG]at hM aG
    have aH:=OZ l2
    rw[ab]at aH
    refine zN ?_
    refine yL [] 7 rfl kR kR ?_
    simp[go_sem]
    refine zJ q ?_
    simp[go_sem]
    refine OX aB cB [4,5] dC rfl (O0 t t.bV.length cur) ⟨.inl rfl,.inl rfl,zC rfl,tV⟩ ?_
    rw[V4]
    simp[go_sem]
    refine E8 5 11 (l2.map cu.row) rfl (H7 _) ?_
    refine zA ?_
    simp[go_sem,fZ,fY,gi,fP,jx,mR,aH,ab,eN]
    refine pC aG ?_
    simp[go_sem]
    exact ret G.1 G.2 _ _ _ _ hM rfl
   |false=>
    rw[ahf dC,ahf dC]at hinv
    have bp:=aT rfl p3
    refine zN ?_
    refine yL [] 7 rfl kR kR ?_
    simp[go_sem]
    refine zJ q ?_
    simp[go_sem]
    refine OX aB cB [4,5] dC rfl (O0 t t.bV.length cur) ⟨.inl rfl,.inl rfl,zC rfl,tV⟩ ?_
    rw[V4]
    simp[go_sem]
    refine zA ?_
    simp[go_sem,bp]
    refine zA ?_
    simp[go_sem,aP]
    exact zH (i+1,l2) ⟨by show t.bV.length - (i+1)<t.bV.length - i;omega,aQ l2 ab aZ an (ba hinv),cd 6 (by simp[go_sem]) rfl (H9 ..) dC (zD sg rfl)⟩
end Go.Proofs.YtplackkccmeioaaGreat
namespace Go.Proofs.YtplackkccmeioaaGreat
open Go Go.Vx R Go.Proofs.Tryz
set_option maxRecDepth 100000
variable {t:Tx}
theorem V5 (cK:dR) (aa:List Ln):wu cK aa= .cy [.agg (oW (ff cK aa).1),.sl .ro ((nY cK aa).map kL)]:=rfl
theorem wb6 {l:cu} (h:jN l):tK (lv l)= [.int .i64 l.range,.sl .ro (l.dy.map ig.row)]:=by
 have:=h.range
 unfold tK lv
 simp only[B9]
 rw[show((l.range.toNat:Nat):Int)=l.range by omega]
 rfl
theorem V6 {l:List cu} (hl:l.length<=4) (hg: ∀x∈l,jN x):(jM (l.map lv)).length<=7500:=by
 have h1:=KX (n:=1000) (l:=l.map lv) (f:=λx=>tL x.1 x.2) λx hx=>by
  obtain⟨y,hy,rfl⟩:=Ac.1 hx
  have:=(hg y hy).dy.1
  simpa[tL,lv]using this
 unfold jM
 rw[Ag]at h1
 omega
theorem K5 {cK:dR} (hl:ki cK) {vs:List Vw} (hN:(jM vs).length<=7500):VY (ff cK (lq vs)).1/\lH (nY cK (lq vs))/\ ∀q∈nY cK (lq vs),q.2.length<=100000:=by
 obtain⟨m,hT⟩:=Vf vs
 have hlen:(lq vs).length<=(jM vs).length:=hT.len
 have hk:oU (lq vs):=λx hx=>⟨hT.now.rows x hx,(hT.lines x hx).1⟩
 obtain⟨aa,ab⟩:=xt3 hl hT.now (by show(lq vs).length<=7500;omega)
 obtain⟨_,ad⟩:=xL0 hl hT.now hk (by show(lq vs).length<=7500;omega)
 exact⟨⟨aa,ab⟩,iS hl hT.now hk,ad⟩
theorem lH.four {Q:List (Int×List Wr)} (h:lH Q):Q.length<=4:=by
 have aa:(Q.map (·.1)).Nodup:=Cf.2 (h.up.imp λab=>Int.ne_of_lt ab)
 have:=aa.length_le_of_subset (l₂:= [0,1,2,3]) λg hg=>by
  obtain⟨y,hy,rfl⟩:=Ac.1 hg
  have:=h.dv y hy
  simp only[Af,Be,aht]
  omega
 rw[Ag]at this
 exact this
def zx:List V:= [.int .i64 0,.int .i64 0,.int .i64 0,.int .i64 0,.int .i64 0,.int .i64 0,.sl .full [],.int .i64 0,.int .i64 0,.int .i64 0,.int .i64 0,.int .i64 0,.sl .full [],.int .i64 0,.int .i64 0,.sl .full []]
theorem V7 {g:Tag} {rows:List (List V)} {I:St} (M:Tx) (hM:t.eD (.sl .ro rows)=M.row):cw (some (.agg (t.eD (.sl g rows)))) 0 (λr s=>r= .agg M.row/\s= []) I:=
 zX (r:= .agg M.row) (by rw[<-hM];exact wb1 t) ⟨rfl,rfl⟩
theorem V8 (t:Tx) (ht:jH t):Pure prog 40 [dG bO,.agg t.row] (.agg (mI t).row):=by
 have hN:=V6 ht.bV ht.mH
 have aa:=U5 t.cK ht.cK (t.bV.map lv) (by rw[Ag];have:=ht.bV;omega) (λx hx=>by
  obtain⟨y,hy,rfl⟩:=Ac.1 hx
  have hg:=ht.mH y hy
  have h1:=hg.range
  have h2:=hg.dy
  refine⟨by show y.range.toNat<1000;omega,by show(y.dy.map _).length<=100000;rw[Ag];omega,λq hq=> ?_⟩
  obtain⟨p,hp,rfl⟩:=Ac.1 (show q∈y.dy.map (λp=>(p.key,p.data)) from hq)
  exact h2.2 p hp) hN
 rw[V5]at aa
 have ab:=(K5 ht.cK hN).2
 obtain⟨M,hM⟩:=eX (mI t)
 rw[hM]
 unfold mI at hM
 obtain⟨A,hA⟩:=eX ((ff t.cK (lq (t.bV.map lv))).1)
 obtain⟨P,hP⟩:=eX (nY t.cK (lq (t.bV.map lv)))
 rw[hA]at aa hM
 rw[hP]at aa hM ab
 have ah: ∀i (h:i<t.bV.length),tK (lv t.bV[i])= [.int .i64 t.bV[i].range,.sl .ro (t.bV[i].dy.map ig.row)]:=λi h=>wb6 (ht.mH _ (A8 h))
 have al:=ht.bV
 have an:=ab.1.four
 clear hA hP hN
 refine iV 0 func40 ntmps40 results40 λc hc hb=> ?_
 refine zN (zA ?_)
 simp[go_sem,dG]
 refine zN (zA ?_)
 simp[go_sem]
 refine zN (zA ?_)
 simp[go_sem]
 refine lE 5 2 dC sg ?_
 refine zI (S:=Nat×List Vw) [2,3,4,5,13,14,15] (λu=> [.ptr 0 0,.ptr 1 0,.ptr 2 0,.sl (.app 3) (u.2.map tK),.sl .ro (t.bV.map cu.row),.int .i64 t.bV.length,.int .i64 u.1])
  (λu=> [.box eN,.box t.row,.box zx,.app u.2.length 2]) (λu=>t.bV.length - u.1) (λu=>u.1<=t.bV.length/\u.2=(t.bV.take u.1).map lv) hc hb (0,[]) ⟨A4 _,sm⟩ ?_ ?_
 .exact cd 4 (by simp[go_sem,eN,zx]) rfl (by simp[bT,cQ,cL,eN,zx,Tx.row]) dC (zD sg rfl)
 rintro⟨i,out⟩ ⟨hi,ho⟩
 simp only at hi ho
 have ao:out.length=i:=by rw[ho,Ag,B0];omega
 by_cases q:i<t.bV.length
 .have ei:=zQ q om
  have hv:=ah i q
  obtain⟨y,hy⟩:=eX (t.bV[i])
  rw[hy]at hv
  have ad:out++ [lv y]=(t.bV.take (i+1)).map lv:=by rw[ho,Ah q,hy,C3];rfl
  refine zA ?_
  simp[go_sem,q,hy]
  refine zJ ⟨om,zY rfl⟩ ?_
  simp[go_sem,ei]
  exact zH (i+1,out++ [lv y]) ⟨by show t.bV.length - (i+1)<t.bV.length - i;omega,⟨q,ad⟩,cd 4 (by simp[go_sem,eN,zx]) rfl (by simp[bT,cQ,cL,eN,zx]) dC (zD (by simp[go_sem,hv]) rfl)⟩
 have h2:out=t.bV.map lv:=by rw[ho,Aa om]
 rw[<-h2]at aa
 clear ho ah h2
 refine zN (zA ?_)
 simp[go_sem,q]
 refine zN (zA ?_)
 simp[go_sem]
 refine zN (zA ?_)
 simp[go_sem,eN]
 refine pC aa ?_
 simp[go_sem]
 refine zN (zA ?_)
 simp[go_sem]
 by_cases ae:P= []
 .subst ae
  simp only at hM
  refine zA ?_
  simp[go_sem]
  exact V7 (t:={t with phase:=4,gW:=A,bV:= []}) (g:= .full) (rows:= []) M (by rw[<-hM];rfl)
 have ai:0<P.length:=List.length_pos_iff.2 ae
 obtain⟨p,hp⟩:=eX (P[0])
 have aj:{t with gW:=A,phase:=2,home:=p.1,bV:=P.map tN}=M:=by
  cases P with
  |nil=>cases ae rfl
  |cons x l=>simp only[List.getElem_cons_zero]at hp;subst hp;exact hM
 have ak:((P.length:Int)==0)=false:=by simp;omega
 clear aa ab hM
 obtain⟨tm,af⟩: ∃tm:Tx,{t with gW:=A,phase:=2,home:=p.1}=tm:=⟨_,rfl⟩
 refine zN (zA ?_)
 simp[go_sem,ak]
 refine zN ?_
 refine wH [(5,3),(7,3)] 2 5 sm kR kR ?_
 simp[go_sem,ai,hp,kL]
 refine zN (zA ?_)
 simp[go_sem]
 refine CC 1 12 11 (tm.eD (.sl .full [])) dC (by rw[<-af];rfl) rfl ?_
 refine zI (S:=Nat×List cu) [3,4,50,51,52] (λu=> [.ptr 1 0,.ptr 2 0,.sl .ro (P.map kL),.int .i64 P.length,.int .i64 u.1])
  (λu=> [.box eN,.box (tm.eD (.sl (.app 5) (u.2.map cu.row))),.box zx,.app out.length 2,.box (oW A),.app u.2.length 11]) (λu=>P.length - u.1) (λu=>u.1<=P.length/\u.2=(P.take u.1).map tN) hc hb (0,[]) ⟨A4 _,sm⟩ ?_ ?_
 .exact cd 6 (by simp[go_sem,eN,zx,<-af]) rfl (by simp[bT,cQ,cL,eN,zx,Tx.eD,oW]) dC (zD (by simp[go_sem]) rfl)
 rintro⟨j,bV⟩ ⟨hj,hl⟩
 simp only at hj hl
 have aq:bV.length=j:=by rw[hl,Ag,B0];omega
 by_cases qj:j<P.length
 rotate_left
 .have h2:bV=P.map tN:=by rw[hl,Aa om]
  refine zA ?_
  simp[go_sem,qj]
  refine zA ?_
  simp[go_sem,zx]
  exact V7 (t:=tm) (rows:=bV.map cu.row) M (by rw[<-aj,<-af,h2];rfl)
 have ej:=zQ qj om
 obtain⟨y,hy⟩:=eX (P[j])
 have ad:bV++ [tN y]=(P.take (j+1)).map tN:=by rw[hl,Ah qj,hy,C3];rfl
 refine zA ?_
 simp[go_sem,qj,hy,kL]
 refine zJ ⟨om,zY rfl⟩ ?_
 simp[go_sem,ej]
 exact zH (j+1,bV++ [tN y]) ⟨by show P.length - (j+1)<P.length - j;omega,⟨qj,ad⟩,cd 6 (by simp[go_sem];exact⟨rfl,rfl,rfl,rfl,by show _=(y.2.map wG).map eC.row;rw[B9];rfl,rfl,rfl,rfl,rfl,rfl,rfl⟩) rfl (by simp[bT,cQ,cL,eN,zx]) dC (zD (by simp[go_sem]) rfl)⟩
theorem V9 (cK:dR):(wX cK).length<=4:=by
 have aa:=(TT cK).qC
 have ab:((wX cK).map (·.1)).Nodup:=aa.imp λad=>Int.ne_of_lt ad
 have:=ab.length_le_of_subset (l₂:= [0,1,2,3]) λg hg=>by
  obtain⟨y,hy,rfl⟩:=Ac.1 hg
  have:=VL cK y hy
  simp only[Af,Be,aht]
  omega
 rw[Ag]at this
 exact this
theorem xL3 {cK:dR} (hl:ki cK): ∀x∈(wX cK).map oZ,jN x:=λx hx=>by
 obtain⟨y,hy,rfl⟩:=Ac.1 hx
 have h1:=VL cK y hy
 have h2:=xu6 hl y hy
 exact⟨by show 0<=y.1/\y.1<1000;omega,by show y.2.length<=100000;omega,A4 _,A4 _,λp hp=>by cases hp⟩
theorem xK8 {Q:List (Int×List Wr)} (h:lH Q) (hw: ∀q∈Q,q.2.length<=100000): ∀x∈Q.map tN,jN x:=λx hx=>by
 obtain⟨y,hy,rfl⟩:=Ac.1 hx
 have h1:=h.dv y hy
 have h2:=hw y hy
 exact⟨by show 0<=y.1/\y.1<1000;omega,A4 _,by show(y.2.map wG).length<=100000;rw[Ag];exact h2,A4 _,λp hp=>by cases hp⟩
theorem Wa (ht:jH t):jH (mI t):=by
 obtain⟨h1,h2,h3⟩:=K5 ht.cK (V6 ht.bV ht.mH)
 unfold mI
 obtain⟨P,hP⟩:=eX (nY t.cK (lq (t.bV.map lv)))
 rw[hP]at h2 h3⊢
 cases P with
 |nil=>exact⟨ht.cK,ht.my,A4 _,λx hx=>(by cases hx),h1⟩
 |cons p l=>exact⟨ht.cK,ht.my,by show((p::l).map tN).length<=4;rw[Ag];exact h2.four,xK8 h2 h3,h1⟩
theorem O1 (ht:jH t) (bQ:Int):jH (rL t bQ):=⟨ht.cK,ht.my,by show((wX t.cK).map oZ).length<=4;rw[Ag];exact V9 _,xL3 ht.cK,A4 _,λx hx=>by cases hx⟩
theorem Wb (ht:jH t) (bQ:Int):jH (pE t bQ):=by
 unfold pE
 split
 .exact Wa (O1 ht bQ)
 .exact O1 ht bQ
def kg (t:Tx) (bQ:Int) (v:V):List V:= [.int .i64 t.id.node,.int .i64 t.id.gM,.int .i64 t.id.seq,.int .i64 t.id.attempt,.int .i64 t.cK.mode,.int .i64 t.cK.n,.sl .ro (t.cK.stmts.map bW.row),.int .i64 1,.int .i64 (if bQ<t.bump then t.bump else bQ),.int .i64 (ka t.id),.int .i64 t.bump,.int .i64 0,v,.int .i64 0,.int .i64 0,.sl .full []]
theorem xS9 {ρ:Nat->Nat} (t:Tx) (bQ:Int) {g:Tag} {rows:List (List V)} (h:((wX t.cK).map oZ).map cu.row=rows):cP ρ (.agg (rL t bQ).row) (.agg (kg t bQ (.sl g rows))):=by
 subst h
 unfold Tx.row kg rL mx
 exact wL ⟨zF rfl,zF rfl,zF rfl,zF rfl,zF rfl,zF rfl,zW,zF rfl,zF rfl,zF rfl,zF rfl,zF rfl,zW,zF rfl,zF rfl,zW,tV⟩
theorem Wc (t:Tx) (ht:jH t) (bQ:Int):Pure prog 25 [dG bO,.agg t.row,.int .i64 bQ] (.agg (pE t bQ).row):=by
 have ad:=xI6 t.cK (by have:=ht.cK.stmts.1;omega) ht.cK.stmts.2
 have af:=wn7 t.id
 have h4:=V9 t.cK
 have ab:=V8 (rL t bQ) (O1 ht bQ)
 obtain⟨M,hM⟩:=eX (pE t bQ)
 rw[hM]
 unfold pE at hM
 obtain⟨N,hN⟩:=eX (wX t.cK)
 have ah: ∀(ρ:Nat->Nat) (g:Tag) (bV:List cu),bV=N.map oZ->cP ρ (.agg (rL t bQ).row) (.agg (kg t bQ (.sl g (bV.map cu.row)))):=λρ g bV h=>xS9 t bQ (by rw[h,hN])
 obtain⟨tm,aj⟩:=eX (rL t bQ)
 rw[hN]at ad h4 hM
 rw[aj]at ab hM ah
 clear hN aj
 obtain⟨te,ak⟩: ∃te:Int,(if FY t.id=true then(1:Int)else 0)=te:=⟨_,rfl⟩
 rw[ak]at af
 refine iV 0 func25 ntmps25 results25 λc hc hb=> ?_
 refine zN (zA ?_)
 simp[go_sem,dG]
 refine zN (zA ?_)
 simp[go_sem]
 refine pC af ?_
 simp[go_sem]
 refine zN (zA ?_)
 simp[go_sem]
 refine zN (zA ?_)
 simp[go_sem]
 refine zN (zA ?_)
 simp[go_sem]
 refine pC ad ?_
 simp[go_sem]
 refine CC 1 12 11 _ dC rfl rfl ?_
 refine zI (S:=Nat×List cu) [3,4,6,42,43,44] (λu=> [.ptr 0 0,.ptr 1 0,.ptr 2 0,.sl .ro (N.map oJ),.int .i64 N.length,.int .i64 u.1])
  (λu=> [.box eN,.box (kg t bQ (.sl (.app 3) (u.2.map cu.row))),.box zx,.app u.2.length 11]) (λu=>N.length - u.1) (λu=>u.1<=N.length/\u.2=(N.take u.1).map oZ) hc hb (0,[]) ⟨A4 _,sm⟩ ?_ ?_
 .exact cd 4 (by simp[go_sem,eN,zx,kg]) rfl (by simp[bT,cQ,cL,eN,zx,kg]) dC (zD sg rfl)
 rintro⟨i,bV⟩ ⟨hi,hl⟩
 simp only at hi hl
 have an:bV.length=i:=by rw[hl,Ag,B0];omega
 by_cases q:i<N.length
 rotate_left
 .have h2:bV=N.map oZ:=by rw[hl,Aa om]
  have aa:=λρ g=>ah ρ g bV h2
  unfold kg at aa
  refine zN (zA ?_)
  simp[go_sem,q]
  refine zN (zA ?_)
  simp[go_sem]
  by_cases ae:N= []
  .have ai:bV= []:=by rw[h2,ae];rfl
   rw[ahg ae]at hM
   rw[hM]at ab
   subst ai
   refine zA ?_
   simp[go_sem,kg,eN]
   refine zL ab cB ⟨zC rfl,aa _ _,tV⟩ rfl ?_
   simp[go_sem,zx]
   exact zX (r:= .agg M.row) (zC rfl) ⟨rfl,rfl⟩
  .have ai:((bV.length:Int)==0)=false:=by
    have:N.length≠0:=λh=>ae (Aq h)
    have:bV.length≠0:=by rw[h2,Ag];exact this
    simp
    exact λh=>this (by rw[h];rfl)
   rw[ahf ae]at hM
   rw[hM]at aa
   refine zA ?_
   simp[go_sem,kg,ai,zx]
   exact zX (r:= .agg M.row) (aa _ _) ⟨rfl,rfl⟩
 have ei:=zQ q om
 obtain⟨y,hy⟩:=eX (N[i])
 have al:bV++ [oZ y]=(N.take (i+1)).map oZ:=by rw[hl,Ah q,hy,C3];rfl
 refine zA ?_
 simp[go_sem,q,hy,kg]
 refine zJ ⟨om,zY rfl⟩ ?_
 simp[go_sem,ei]
 exact zH (i+1,bV++ [oZ y]) ⟨by show N.length - (i+1)<N.length - i;omega,⟨q,al⟩,cd 4 (by simp[go_sem];exact⟨rfl,rfl,rfl,rfl,rfl,rfl,rfl,rfl,rfl,rfl,rfl⟩) rfl (by simp[bT,cQ,cL,eN,zx]) dC (zD sg rfl)⟩
theorem xS4 (t:Tx) (ht:jH t) (bump bQ:Int):Pure prog 36 [dG bO,.agg t.row,.int .i64 bump,.int .i64 bQ] (.cy [.agg (uT t bump bQ).1.row,.sl .ro ((uT t bump bQ).2.map cV.row)]):=by
 have ab:=V0 t false (by have:=ht.bV;omega)
 have af:=ht.my
 have e1:IntKind.i64.wrap (t.id.attempt+1)=t.id.attempt+1:=bX om om
 obtain⟨M,hM⟩:=eX (uT t bump bQ)
 rw[hM]
 unfold uT at hM
 obtain⟨tidy,aa⟩: ∃l,(if t.phase=1 then []else FZ t false)=l:=⟨_,rfl⟩
 rw[aa]at hM
 have ae:([.box eN,.box t.row,.box zx]:St).all (bT 3)=true:=by simp[bT,cQ,cL,eN,zx,Tx.row]
 refine iV 0 func36 ntmps36 results36 λc hc hb=> ?_
 refine zN (zA ?_)
 simp[go_sem,dG]
 refine zN (zA ?_)
 simp[go_sem]
 refine nI (S:=Unit) [2,3,4,5,8,10] (λ_=> [.int .i64 bump,.int .i64 bQ,.ptr 0 0,.ptr 1 0,.ptr 2 0,.sl .ro (tidy.map cV.row)]) (λ_=> [.box eN,.box t.row,.box zx]) (λ_=>True) hc hb ?_ ?_
 .by_cases p1:t.phase=1
  .have ad:(t.phase !=1)=false:=sU p1
   rw[ahg p1]at aa
   subst aa
   refine zA ?_
   simp[go_sem,ad]
   exact zH () ⟨tV,cd 3 (by simp[go_sem,eN,zx]) rfl ae dC ⟨zC rfl,zC rfl,lR rfl,lR rfl,lR rfl,zK,tV⟩⟩
  .have ad:(t.phase !=1)=true:=sU p1
   rw[ahf p1]at aa
   rw[aa]at ab
   refine zA ?_
   simp[go_sem,ad]
   refine pC ab ?_
   simp[go_sem]
   exact zH () ⟨tV,cd 3 (by simp[go_sem,eN,zx]) rfl ae dC ⟨zC rfl,zC rfl,lR rfl,lR rfl,lR rfl,zK,tV⟩⟩
 rintro _ _
 by_cases q:10<=t.id.attempt+1
 .have q':decide (10<=t.id.attempt+1)=true:=sU q
  rw[ahg q]at hM
  unfold mx at hM
  have hw:=OT {t with bump:=if t.bump<bump then bump else t.bump,id:={t.id with attempt:=t.id.attempt+1},gW:=(28,0,[])}
  obtain⟨W,hW⟩: ∃W,qQ {t with bump:=if t.bump<bump then bump else t.bump,id:={t.id with attempt:=t.id.attempt+1},gW:=(28,0,[])}=W:=⟨_,rfl⟩
  rw[hW]at hw hM
  subst hM
  refine zA ?_
  simp[go_sem,e1,q',zx]
  refine zL hw cB ⟨wL ⟨zF rfl,zF rfl,zF rfl,zF rfl,zF rfl,zF rfl,zW,zF rfl,zF rfl,zF rfl,zF rfl,zF rfl,zW,zF rfl,zF rfl,zW,tV⟩,tV⟩ rfl ?_
  simp[go_sem]
  exact wR
 .have q':decide (10<=t.id.attempt+1)=false:=sU q
  rw[ahf q]at hM
  unfold mx at hM
  have hw:=Wc {t with bump:=if t.bump<bump then bump else t.bump,id:={t.id with attempt:=t.id.attempt+1}} ⟨ht.cK,by show 0<=t.id.attempt+1/\t.id.attempt+1<=10;omega,ht.bV,ht.mH,ht.outs⟩ bQ
  obtain⟨W,hW⟩: ∃W,pE {t with bump:=if t.bump<bump then bump else t.bump,id:={t.id with attempt:=t.id.attempt+1}} bQ=W:=⟨_,rfl⟩
  rw[hW]at hw hM
  subst hM
  refine zA ?_
  simp[go_sem,e1,q',zx,eN]
  refine pC hw ?_
  simp[go_sem]
  exact wR
theorem O2 (ht:jH t) (h9:t.id.attempt<=9) (bump bQ:Int):jH (uT t bump bQ).1:=by
 have h0:=ht.my
 unfold uT
 split
 .exact⟨ht.cK,by show 0<=t.id.attempt+1/\t.id.attempt+1<=10;omega,A4 _,λx hx=>(by cases hx),A4 _,λx hx=>by cases hx⟩
 .exact Wb (t:={t with bump:=mx t.bump bump,id:={t.id with attempt:=t.id.attempt+1}}) ⟨ht.cK,by show 0<=t.id.attempt+1/\t.id.attempt+1<=10;omega,ht.bV,ht.mH,ht.outs⟩ bQ
theorem Wd (t:Tx) (ht:jH t) (a:cV) (ha:nZ a.cmd) (r:dN) (hr:eZ r) (bQ:Int):
  Pure prog 14 [dG bO,.agg t.row,.agg a.row,.agg r.row,.int .i64 bQ] (.cy [.agg (qS t a r bQ).1.row,.sl .ro ((qS t a r bQ).2.map cV.row)]):=
 xL8 uT mI (λt b l h=>xS4 t h b l) (λt h=>V8 t h) t ht a ha r hr bQ
theorem We (id:gF) (l:dR) (hl:ki l) (bQ:Int):Pure prog 8 [dG bO,.agg id.row,.agg l.row,.int .i64 bQ] (.agg (o7 id l bQ).row):=by
 have aj:=VX l hl
 have ae:=Tl l hl
 have aa:=U5 l hl [] dC (λx hx=>by cases hx) dC
 rw[V5,show lq []= [] from rfl]at aa
 obtain⟨M,hM⟩:=eX (o7 id l bQ)
 rw[hM]
 unfold o7 at hM
 obtain⟨A,hA⟩:=eX ((ff l []).1)
 obtain⟨uJ,hU⟩:=eX (nY l [])
 rw[hA]at aa hM
 rw[hU]at aa
 have af:=OT ⟨{id with attempt:=0},l,0,zS,0,0,[],(1,0,[])⟩
 have ah:=OT ⟨{id with attempt:=0},l,0,zS,0,0,[],A⟩
 have ai:=Wc ⟨{id with attempt:=0},l,0,zS,0,0,[],(0,0,[])⟩ ⟨hl,⟨E1 _,by show(0:Int)<=10;decide⟩,A4 _,λx hx=>(by cases hx),A4 _,λx hx=>by cases hx⟩ bQ
 obtain⟨⟨ci,cr⟩,hP⟩: ∃P,mF l=P:=⟨_,rfl⟩
 rw[hP]at ae hM
 simp only at hM
 refine iV 0 func8 ntmps8 results8 λc hc hb=> ?_
 refine zN (zA ?_)
 simp[go_sem,dG]
 refine zN (zA ?_)
 simp[go_sem]
 refine zN ?_
 refine yL [(2,0)] 4 rfl kR kR ?_
 simp[go_sem]
 refine pD aj ?_
 simp[go_sem]
 by_cases q1:l.mode=0
 rotate_left
 .have ab:(l.mode !=0)=true:=sU q1
  rw[ahg q1]at hM
  rw[show qQ ⟨{id with attempt:=0},l,0,zS,0,0,[],(1,0,[])⟩=M from hM]at af
  refine zA ?_
  simp[go_sem,ab]
  refine zL af cB ⟨wL ⟨zF rfl,zF rfl,zF rfl,zF rfl,zF rfl,zF rfl,zW,zF rfl,zF rfl,zF rfl,zF rfl,zF rfl,zW,zF rfl,zF rfl,zW,tV⟩,tV⟩ rfl ?_
  simp[go_sem]
  exact zX (r:= .agg M.row) (zC rfl) ⟨rfl,rfl⟩
 have ab:(l.mode !=0)=false:=sU q1
 rw[ahf (λh=>h q1)]at hM
 refine zA ?_
 simp[go_sem,ab]
 refine pC ae ?_
 simp[go_sem,wF]
 by_cases q2:cr=0
 rotate_left
 .have ad:(cr !=0)=true:=sU q2
  rw[ahg q2]at hM
  rw[show qQ ⟨{id with attempt:=0},l,0,zS,0,0,[],A⟩=M from hM]at ah
  simp[go_sem,ad]
  refine pC aa ?_
  simp[go_sem]
  refine zL ah cB ⟨wL ⟨zF rfl,zF rfl,zF rfl,zF rfl,zF rfl,zF rfl,zW,zF rfl,zF rfl,zF rfl,zF rfl,zF rfl,zW,zF rfl,zF rfl,zW,tV⟩,tV⟩ rfl ?_
  simp[go_sem]
  exact zX (r:= .agg M.row) (zC rfl) ⟨rfl,rfl⟩
 have ad:(cr !=0)=false:=sU q2
 rw[ahf (λh=>h q2)]at hM
 rw[hM]at ai
 simp[go_sem,ad]
 refine zL ai cB ⟨zC rfl,wL ⟨zF rfl,zF rfl,zF rfl,zF rfl,zF rfl,zF rfl,zW,zF rfl,zF rfl,zF rfl,zF rfl,zF rfl,zW,zF rfl,zF rfl,zW,tV⟩,zC rfl,tV⟩ rfl ?_
 simp[go_sem]
 exact zX (r:= .agg M.row) (zC rfl) ⟨rfl,rfl⟩
end Go.Proofs.YtplackkccmeioaaGreat
namespace Go.Proofs.YtplackkccmeioaaGreat.R
open Go Go.Vx Go.Proofs.Tryz
set_option maxRecDepth 100000
end Go.Proofs.YtplackkccmeioaaGreat.R
namespace Go.Proofs.YtplackkccmeioaaGreat
open Go Go.Vx R Go.Proofs.Tryz
set_option maxRecDepth 100000
variable {t:Tx}{L:dR}{x:cu}
theorem Wf {t:Tx} {a:cV} {r:dN}: ∀{ls acc:List cu},(∀l∈ls,gq t l≠some a)->kb t a r acc ls= .done (acc++ls)
 | [],acc,_=>by rw[kb,Ax]
 |l::ls,acc,h=>by
  rw[kb,ahf (h l (Av ..)),Wf λx hx=>h x (B5 _ hx),Ce]
  rfl
theorem Wg (ht:jH t) {bV:List cu} (hl:bV.length<=4) (hg: ∀x∈bV,jN x):jH (qR mI t bV):=by
 unfold qR
 split
 .exact⟨ht.cK,ht.my,hl,hg,ht.outs⟩
 split
 .exact Wa (t:={t with bV:=bV}) ⟨ht.cK,ht.my,hl,hg,ht.outs⟩
 .exact⟨ht.cK,ht.my,hl,hg,ht.outs⟩
def O3:tP->Prop
 | .done l=>l.length<=4/\ ∀x∈l,jN x
 | .wait=>True
 | .again l _=>l.length<=4/\ ∀x∈l,jN x
theorem O4 {t:Tx} {a:cV} {r:dN} (hr:eZ r): ∀{ls acc:List cu},acc.length+ls.length<=4->(∀x∈acc,jN x)->(∀x∈ls,jN x)->O3 (kb t a r acc ls)
 | [],acc,hl,ha,_=>by rw[kb];exact⟨hl,ha⟩
 |l::ls,acc,hl,ha,hg=>by
  have ab:=hg l (Av ..)
  have ad: ∀x∈ls,jN x:=λx hx=>hg x (B5 _ hx)
  rw[Ak]at hl
  have aa: ∀y:cu,jN y-> ∀x∈acc++ [y],jN x:=λy hy x hx=>by
   rcases Al.1 hx with hx|hx
   .exact ha x hx
   .rw[Bb.1 hx];exact hy
  rw[kb]
  split
  .split
   .refine⟨by simp;omega,λx hx=> ?_⟩
    rcases Al.1 hx with hx|hx
    .exact ha x hx
    .rcases Af.1 hx with rfl|hx
     .exact OY _ ab hr
     .exact ad x hx
   split
   .trivial
   .exact O4 hr (by simp;omega) (aa _ (OY _ ab hr)) ad
  .exact O4 hr (by simp;omega) (aa _ ab) ad
theorem xw1 (ht:jH t) (h9:t.id.attempt<=9) (a:cV) {r:dN} (hr:eZ r) (bQ:Int):jH (qS t a r bQ).1:=by
 unfold qS AB
 split
 .exact ht
 split
 .split
  .exact ht
  split
  .exact⟨ht.cK,ht.my,ht.bV,ht.mH,ht.outs⟩
  .exact O2 ht h9 0 bQ
 .have h:=O4 (t:=t) (a:=mw a) hr (ls:=t.bV) (acc:= []) (by simpa using ht.bV) (λx hx=>by cases hx) ht.mH
  revert h
  generalize kb t (mw a) r [] t.bV=L
  intro h
  cases L with
  |done l=>exact Wg ht h.1 h.2
  |wait=>exact⟨ht.cK,ht.my,A4 _,λx hx=>(by cases hx),A4 _,λx hx=>by cases hx⟩
  |again l b=>exact O2 (t:={t with bV:=l}) ⟨ht.cK,ht.my,h.1,h.2,ht.outs⟩ h9 b bQ
theorem xq0 {l:dR} (hl:ki l) (id:gF):jH ⟨{id with attempt:=0},l,0,zS,0,0,[],(0,0,[])⟩:=
 ⟨hl,⟨E1 _,by show(0:Int)<=10;decide⟩,A4 _,λx hx=>(by cases hx),A4 _,λx hx=>by cases hx⟩
theorem Wh {l:dR} (hl:ki l) (id:gF) (bQ:Int):jH (o7 id l bQ):=by
 unfold o7
 split
 .exact⟨hl,⟨E1 _,by show(0:Int)<=10;decide⟩,A4 _,λx hx=>(by cases hx),A4 _,λx hx=>by cases hx⟩
 split
 .exact⟨hl,⟨E1 _,by show(0:Int)<=10;decide⟩,A4 _,λx hx=>(by cases hx),(K5 hl (vs:= []) dC).1⟩
 .exact Wb (xq0 hl id) bQ
theorem O5 (t:Tx):(mI t).id=t.id/\(mI t).at_=t.at_:=by
 unfold mI
 split<;>exact⟨rfl,rfl⟩
theorem yz3 (t:Tx) (bQ:Int):(pE t bQ).id=t.id/\(pE t bQ).at_=⟨mx bQ t.bump,ka t.id⟩:=by
 unfold pE
 split
 .exact O5 _
 .exact⟨rfl,rfl⟩
theorem Wi (id:gF) (l:dR) (bQ:Int):(o7 id l bQ).id={id with attempt:=0}:=by
 unfold o7
 split
 .rfl
 split
 .rfl
 .exact(yz3 _ _).1
theorem Wj:Pure prog 7 [] (dG bO):=by
 have aa:=xz1
 refine iV 0 func7 ntmps7 results7 λc hc hb=> ?_
 refine zA ?_
 simp[go_sem]
 refine pC aa ?_
 simp[go_sem,DM]
 exact zX (r:=dG bO) xM6 ⟨rfl,rfl⟩
def o8:ahP:= [83,69,76,69,67,84,32,42,32,70,82,79,77,32,71]
def qT:gF:=⟨1,1,1,0⟩
def r0:dN:=⟨0,[],zT,0,zS,0,false⟩
def n4:Tx:=o7 qT (rG o8).1 10
def a24:cV:=(kM n4).getD 0 OU
theorem wq2:((kM n4).length,a24.range,n4.at_.wall)=(1,2,10):=kR
theorem wl5:((qS n4 a24 r0 20).1.phase,(qS n4 a24 r0 20).1.at_.wall)=(4,10):=kR
theorem O6:eZ r0:=⟨⟨A4 _,λp hp=>by cases hp⟩,dC,dC⟩
theorem O7 {ρ:Nat->Nat} (r:dN) {g:Tag}:cP ρ (.agg r.row) (.agg [.int .i64 r.err,.sl g (r.dy.map ig.row),.int .i64 r.gB.node,.int .i64 r.gB.gM,.int .i64 r.gB.seq,.int .i64 r.gB.attempt,.int .i64 r.home,.int .i64 r.at_.wall,.int .i64 r.at_.tie,.int .i64 r.wall,.bool r.yes]):=by
 unfold dN.row
 exact wL ⟨zF rfl,zW,zF rfl,zF rfl,zF rfl,zF rfl,zF rfl,zF rfl,zF rfl,zF rfl,zF rfl,tV⟩
theorem xq1 (l:dR) (hl:ki l) (bQ:Int):jH (o7 qT l bQ)/\(o7 qT l bQ).id.attempt<=9:=⟨Wh hl qT bQ,by rw[Wi];show(0:Int)<=9;decide⟩
theorem xq2:Pure prog 6 [] (.bool true):=by
 have hl:=RV o8 dC
 have ae:=R3 o8
 have aa:=We qT (rG o8).1 ae 10
 obtain⟨hT,h9⟩:=xq1 (rG o8).1 ae 10
 have ab:=OV n4 (by have:=hT.bV;show n4.bV.length<=_;unfold n4;omega) hT.mH
 have hr:=wq2
 have ah:=wl5
 obtain⟨a,ha⟩: ∃a,kM n4= [a]:=by
  have h:=ahj Prod.fst hr
  simp only at h
  cases e:kM n4 with
  |nil=>rw[e]at h;cases h
  |cons x l=>cases l with
   |nil=>exact⟨x,rfl⟩
   |cons y l=>rw[e]at h;simp at h
 have ai:a24=a:=by unfold a24;rw[ha];rfl
 have aj:nZ a.cmd:=K4 hT.mH a (by show a∈kM n4;rw[ha];exact Bb.2 rfl)
 have af:=Wd n4 hT a aj r0 O6 20
 have ad:=xw1 (t:=n4) hT h9 a O6 20
 rw[ai]at hr ah
 obtain⟨ar,ak⟩:=Prod.mk.inj (Prod.mk.inj hr).2
 obtain⟨al,au⟩:=Prod.mk.inj ah
 obtain⟨uJ,hU⟩:=eX (qS n4 a r0 20)
 rw[hU]at af ad al au
 have an:=V3 uJ.1 ad 10
 have ao:=V3 uJ.1 ad 9
 rw[ahg ⟨al,om⟩]at an
 rw[ahf (λh=>by have:=h.2;omega)]at ao
 rw[ha]at ab
 change Pure prog 8 _ (.agg n4.row)at aa
 obtain⟨L,hL⟩:=eX ((rG o8).1)
 rw[hL]at hl aa
 obtain⟨T,aq⟩:=eX n4
 rw[aq]at aa ab af ak
 have g1:(a.range !=2)=false:=by rw[ar];rfl
 have g2:(T.at_.wall !=10)=false:=by rw[ak];rfl
 have av:=Wj
 clear hr ah hU ad aj ai ha hL hT h9 ae aq
 unfold o8 at hl
 unfold qT at aa
 refine iV 0 func6 ntmps6 results6 λc hc hb=> ?_
 refine zA ?_
 simp[go_sem]
 refine pC av ?_
 simp[go_sem,dG]
 refine yL [(2,0),(3,0)] 1 rfl kR kR ?_
 simp[go_sem]
 refine pD hl ?_
 simp[go_sem]
 refine pD aa ?_
 simp[go_sem]
 refine pC ab ?_
 simp[go_sem,g1,g2]
 refine yL [(6,0)] 2 rfl kR kR ?_
 simp[go_sem]
 refine pg af cB (λ_=>⟨zC rfl,zC rfl,zC rfl,O7 r0 (g:= .full),zC rfl,tV⟩) rfl ?_
 simp[go_sem]
 refine pC an ?_
 simp[go_sem,oW]
 refine pC ao ?_
 simp[go_sem,oW]
 exact wR
theorem xu7 {cK:dR} (hl:ki cK) (h0:(mF cK).2=0) (hn:wX cK= []):nY cK []= []:=by
 have aa:=xI7 hl h0
 rw[hn]at aa
 obtain⟨m,hT⟩:=Vf []
 have ab:cI m.2.1 []:=hT.now
 have h1:=VG (c:=qP []) (ss:=cK.stmts) (i:=0) (acc:= []) (l:= []) (λst ad=>⟨H4 hl h0 st ad,aa st ad⟩) ab
 have h2:(jF cK.stmts 0 [] []).2= []:=by
  have h3:=ahj Prod.snd h1
  simp only[List.filter_nil]at h3
  rw[h3]
  exact Dy.2 λx _=>by simp[qP]
 unfold nY
 split
 .rfl
 .rename_i hz
  have ae:(ff cK []).2= []:=by
   unfold ff at hz⊢
   rw[ahf om]at hz⊢
   split
   .rfl
   .exact h2
  rw[ae,xB7]
  rfl
structure AE (L:dR) (bQ:Int) (t:Tx) (last:fh):Prop where
 at_:t.at_=⟨mx bQ t.bump,ka t.id⟩
 last:last=t.at_
 pG:wX L≠ []
 up:(t.bV.map (·.range)).Pairwise (· < ·)
 ph:(t.phase=1/\(∀x∈t.bV,(x.state=1\/x.state=5)/\x.dy= [])/\ ∃x∈t.bV,x.state=1)\/(t.phase=2/\t.bV≠ []/\ ∀x∈t.bV,x.state=2)
structure SI (L:dR) (bQ:Int) (t:Tx) (last:fh):Prop where
 ok:jH t
 cK:t.cK=L
 id:t.id=⟨1,1,1,t.id.attempt⟩
 my:t.id.attempt<=9
 st:(t.phase=4/\(bQ<=t.at_.wall\/t.gW.1≠0))\/AE L bQ t last
theorem Ee (a b:Int):a<=mx a b/\b<=mx a b:=by
 unfold mx
 split<;>omega
theorem yZ2 {bV:List cu} (h: ∀x∈bV,x.dy= []):lq (bV.map lv)= []:=by
 have:jM (bV.map lv)= []:=by
  unfold jM
  refine List.flatMap_eq_nil_iff.2 λv hv=> ?_
  obtain⟨x,hx,rfl⟩:=Ac.1 hv
  unfold lv tL
  rw[h x hx]
  rfl
 unfold lq
 rw[this]
 rfl
theorem xb1 (hL:ki L):lH (nY L []):=(K5 hL (vs:= []) dC).2.1
theorem Wk {t:Tx} {a:cV} {r:dN} {ls:List cu}: ∀{pre acc:List cu},(∀l∈pre,gq t l≠some a)->kb t a r acc (pre++ls)=kb t a r (acc++pre) ls
 | [],acc,_=>by rw[Bu,Ax]
 |l::pre,acc,h=>by
  rw[Bm,kb,ahf (h l (Av ..)),Wk λx hx=>h x (B5 _ hx),Ce]
  rfl
theorem O8 (h:x.state=1):gq t x=some ⟨x.range,⟨2,0,0,0,t.id,t.at_,0,false,x.eL,[]⟩⟩:=by
 unfold gq
 rw[ahg h]
theorem Wl (h:x.state=2):gq t x=some ⟨x.range,⟨3,0,0,t.home,t.id,t.at_,0,false,[],x.writes⟩⟩:=by
 unfold gq
 rw[ahf om,ahg h]
theorem Wm (h:x.state=5):gq t x=none:=by
 unfold gq
 rw[ahf om,ahf om,ahf om,ahf om]
def xS (a:cV) (w:Int):dN:=if a.cmd.kind=3 then⟨21,[],zT,0,zS,w,false⟩else r0
def Wn (L:dR) (bQ:Int) (t:Tx) (last:fh) (w:Int) (u:Tx):Prop:=
 (¬t.id.attempt<u.id.attempt/\SI L bQ u last)\/
 (t.id.attempt<u.id.attempt/\u.phase=4/\u.gW.1=28/\u.id.attempt=10/\u.at_=zS)\/
 (t.id.attempt<u.id.attempt/\u.phase≠4/\w+24<=u.at_.wall/\bQ<=u.at_.wall/\last.wall<=u.at_.wall/\u.at_≠last/\SI L bQ u u.at_)
theorem xO3: ∀k:Nat,k<9->ka ⟨1,1,1,(k:Int)+1⟩≠ka ⟨1,1,1,k⟩:=by decide+kernel
theorem Wo {bQ:Int} (aa:t.cK=L) (hn:wX L≠ []):AE L bQ (rL t bQ) (rL t bQ).at_:=by
 refine⟨rfl,rfl,hn, ?_,.inl ⟨rfl,λx hx=> ?_, ?_⟩⟩
 .show(((wX t.cK).map oZ).map (·.range)).Pairwise (· < ·)
  rw[B9]
  exact(TT t.cK).qC
 .obtain⟨y,_,rfl⟩:=Ac.1 (show x∈(wX t.cK).map oZ from hx)
  exact⟨.inl rfl,rfl⟩
 .cases e:wX L with
  |nil=>exact absurd e hn
  |cons y l=>exact⟨oZ y,by show oZ y∈(wX t.cK).map oZ;rw[aa,e];exact Av ..,rfl⟩
theorem wl7 {bQ:Int} {last:fh} (h:SI L bQ t last) {a:cV} {rest:List cV} (ha:kM t=a::rest) {w:Int} (hw:0<=w/\w<1000):Wn L bQ t last w (qS t a (xS a w) bQ).1:=by
 rcases h.st with ⟨h4,_⟩|hG
 .unfold kM at ha
  rw[ahf om,ahf om]at ha
  cases ha
 have ax:a∈kM t:=by rw[ha];exact Av ..
 rcases hG.ph with ⟨p1,ab,_⟩|⟨p2,aB,ab⟩
 ·
  have af:=ha
  unfold kM at af
  rw[ahg (.inl p1)]at af
  obtain⟨pre,y,post,hl,ay,hy,_⟩:=List.filterMap_eq_cons_iff.1 af
  have az:y∈t.bV:=by rw[hl];simp
  have an:y.state=1:=by
   rcases(ab y az).1 with e|e
   .exact e
   .rw[Wm e]at hy;cases hy
  rw[O8 an]at hy
  have ae:=ahu hy
  have hk:a.cmd.kind=2:=by rw[<-ae]
  have ao:mw a=a:=by rw[<-ae];rfl
  have hx:xS a w=r0:=by unfold xS;rw[ahf om]
  have a1:=hG.up
  rw[hl,C3,Ai,Bl,Cb]at a1
  have aq: ∀x∈post,gq t x≠some a:=λx a6 e=>by
   have aC:x∈t.bV:=by rw[hl];simp[a6]
   rcases(ab x aC).1 with s|s
   .rw[O8 s]at e
    have:=ahu e
    have hr:x.range=y.range:=by rw[<-ae]at this;exact ahj cV.range this
    have:=a1.2.1.1 x.range (Ac.2 ⟨x,a6,rfl⟩)
    omega
   .rw[Wm s]at e;cases e
  have ar:gR t.phase y r0=({y with state:=5,dy:= []},0,false,false):=by
   unfold gR r0
   simp[an]
  have ah:kb t a r0 [] t.bV= .done (pre++{y with state:=5,dy:= []}::post):=by
   rw[hl,Wk λx hx=>by rw[ay x hx];simp,Bu,kb,ahg (by rw[O8 an,ae]),ar,ahf sm,ahf sm,Wf aq,Ce]
   rfl
  have aj:(qS t a (xS a w) bQ).1=qR mI t (pre++{y with state:=5,dy:= []}::post):=by
   unfold qS AB
   rw[hx,ao,ahf (by
    rw[Cd.2 ⟨a,ax,sm⟩]
    simp[r0]),ahf om,ah]
   rfl
  rw[aj]
  obtain⟨bV,ad⟩: ∃bV,pre++{y with state:=5,dy:= []}::post=bV:=⟨_,rfl⟩
  have ak:bV.map (·.range)=t.bV.map (·.range):=by
   rw[<-ad,hl]
   simp
  have au: ∀x∈bV,(x.state=1\/x.state=5)/\x.dy= []:=λx hx=>by
   rw[<-ad]at hx
   rcases Al.1 hx with hx|hx
   .exact ab x (by rw[hl];simp[hx])
   .rcases Af.1 hx with rfl|hx
    .exact⟨.inr rfl,rfl⟩
    .exact ab x (by rw[hl];simp[hx])
  have aD: ∀x∈bV,jN x:=λx hx=>by
   rw[<-ad]at hx
   have hg:=h.ok.mH
   rcases Al.1 hx with hx|hx
   .exact hg x (by rw[hl];simp[hx])
   .rcases Af.1 hx with rfl|hx
    .have:=hg y az
     exact⟨this.range,this.eL,this.writes,A4 _,λp hp=>by cases hp⟩
    .exact hg x (by rw[hl];simp[hx])
  have aE:bV.length<=4:=by
   have h1:=h.ok.bV
   have h2:=ahj List.length ak
   simp only[Ag]at h2
   omega
  rw[ad]
  have cN:=Wg h.ok aE aD
  unfold qR at cN⊢
  split
  .rename_i ai
   rw[ahg ai]at cN
   obtain⟨x,hx,a7⟩:=Cd.1 ai
   refine .inl ⟨Int.lt_irrefl _,cN,h.cK,h.id,h.my,.inr ⟨hG.at_,hG.last,hG.pG,by show(bV.map (·.range)).Pairwise _;rw[ak];exact hG.up,.inl ⟨p1,au,x,hx, ?_⟩⟩⟩
   rcases(au x hx).1 with e|e
   .exact e
   .rw[e]at a7;cases a7
  .rename_i ai
   rw[ahf ai,ahg p1]at cN
   show Wn L bQ t last w (mI {t with bV:=bV})
   obtain⟨e1,e2⟩:=O5 {t with bV:=bV}
   obtain⟨u,hu⟩: ∃u,mI {t with bV:=bV}=u:=⟨_,rfl⟩
   have aa:=hu
   unfold mI at aa
   simp only at aa
   rw[yZ2 λx hx=>(au x hx).2]at aa
   rw[hu]at cN e1 e2⊢
   have av:bQ<=t.at_.wall:=by rw[hG.at_];exact(Ee bQ t.bump).1
   have al:u.id.attempt=t.id.attempt:=by rw[e1]
   have a8:=xb1 (L:=t.cK) h.ok.cK
   refine .inl ⟨om,cN, ?_,by rw[e1];exact h.id,by rw[al];exact h.my, ?_⟩
   .rw[<-aa]
    split<;>exact h.cK
   .cases hp:nY t.cK []with
    |nil=>
     rw[hp]at aa
     simp only at aa
     exact .inl ⟨by rw[<-aa],.inl (by rw[e2];exact av)⟩
    |cons p l=>
     rw[hp]at aa a8
     simp only at aa
     refine .inr ⟨?_,by rw[e2];exact hG.last,hG.pG, ?_,.inr ⟨by rw[<-aa],by rw[<-aa];simp,λx hx=> ?_⟩⟩
     .rw[e2,e1,show u.bump=t.bump by rw[<-aa]]
      exact hG.at_
     .rw[<-aa]
      show(((p::l).map tN).map (·.range)).Pairwise (· < ·)
      rw[B9,Cf]
      exact a8.up
     .rw[<-aa]at hx
      obtain⟨q,_,rfl⟩:=Ac.1 (show x∈(p::l).map tN from hx)
      rfl
 ·
  obtain⟨y,ls,hl⟩: ∃y ls,t.bV=y::ls:=by
   cases e:t.bV with
   |nil=>exact absurd e aB
   |cons y ls=>exact⟨y,ls,rfl⟩
  have aw:y.state=2:=ab y (by rw[hl];exact Av ..)
  have af:=ha
  unfold kM at af
  rw[ahg (.inr p2),hl,List.filterMap_cons,Wl aw]at af
  have ae:=(List.cons.inj af).1
  have hk:a.cmd.kind=3:=by rw[<-ae]
  have ao:mw a=a:=by rw[<-ae];rfl
  have hx:xS a w=⟨21,[],zT,0,zS,w,false⟩:=by unfold xS;rw[ahg hk]
  have aF:tO w 24=w+24:=by
   unfold tO mn
   rw[ahf om]
  have ar:gR t.phase y ⟨21,[],zT,0,zS,w,false⟩=(y,w+24,true,false):=by
   unfold gR
   simp[aw,aF]
  have ah:kb t a ⟨21,[],zT,0,zS,w,false⟩ [] t.bV= .again t.bV (w+24):=by
   rw[hl,kb,ahg (by rw[Wl aw,ae]),ar,ahg rfl]
   rfl
  have aj:(qS t a (xS a w) bQ).1=(uT t (w+24) bQ).1:=by
   unfold qS AB
   rw[hx,ao,ahf (by
    rw[Cd.2 ⟨a,ax,sm⟩]
    simp),ahf om,ah]
   rfl
  rw[aj]
  have cN:=O2 h.ok h.my (w+24) bQ
  have al:=h.ok.my
  unfold uT at cN⊢
  simp only at cN⊢
  by_cases q:10<=t.id.attempt+1
  .rw[ahg q]
   exact .inr (.inl ⟨by show t.id.attempt<t.id.attempt+1;omega,rfl,rfl,by show t.id.attempt+1=10;have:=h.my;omega,rfl⟩)
  .rw[ahf q]at cN⊢
   have hn:wX t.cK≠ []:=by rw[h.cK];exact hG.pG
   unfold pE at cN⊢
   simp only at cN⊢
   rw[ahf hn]at cN⊢
   have aH:=(Ee t.bump (w+24)).1
   have aI:=(Ee t.bump (w+24)).2
   have aA:=(Ee bQ (mx t.bump (w+24))).1
   have aJ:=(Ee bQ (mx t.bump (w+24))).2
   refine .inr (.inr ⟨by show t.id.attempt<t.id.attempt+1;omega,by show(1:Int)≠4;decide,by show w+24<=mx bQ (mx t.bump (w+24));omega,aA, ?_, ?_,cN,h.cK,by show gF.mk t.id.node t.id.gM t.id.seq (t.id.attempt+1)=⟨1,1,1,t.id.attempt+1⟩;rw[h.id],by show t.id.attempt+1<=9;omega,.inr (Wo h.cK hG.pG)⟩)
   .rw[hG.last,hG.at_]
    show mx bQ t.bump<=mx bQ (mx t.bump (w+24))
    have:bQ<=mx bQ (mx t.bump (w+24))/\t.bump<=mx bQ (mx t.bump (w+24)):=⟨aA,om⟩
    generalize mx bQ (mx t.bump (w+24))=z at this⊢
    unfold mx
    split<;>omega
   .rw[hG.last,hG.at_]
    intro e
    have ht:ka ⟨t.id.node,t.id.gM,t.id.seq,t.id.attempt+1⟩=ka t.id:=ahj fh.tie e
    rw[h.id]at ht
    obtain⟨k,aG⟩: ∃k:Nat,t.id.attempt=k:=⟨t.id.attempt.toNat,om⟩
    simp only at ht
    rw[aG]at ht
    exact xO3 k om ht
theorem xT0 (hL:ki L) (bQ:Int):SI L bQ (o7 qT L bQ) (o7 qT L bQ).at_:=by
 have cN:=Wh hL qT bQ
 have hid:=Wi qT L bQ
 refine⟨cN, ?_,by rw[hid];rfl,by rw[hid];show(0:Int)<=9;decide, ?_⟩
 .unfold o7 pE mI rL
  repeat' split
  all_goals rfl
 .unfold o7
  split
  .exact .inl ⟨rfl,.inr (by show(1:Int)≠0;decide)⟩
  split
  .rename_i h2
   refine .inl ⟨rfl,.inr ?_⟩
   show(ff L []).1.1≠0
   unfold ff
   rw[ahg h2]
   exact h2
  .rename_i h1 h2
   unfold pE
   split
   .rename_i hn
    have hp:=xu7 hL (sU h2) hn
    refine .inl ⟨?_,.inl ?_⟩
    .unfold mI rL
     simp only
     have aa:wX L= []:=hn
     rw[aa,Bh,Bh,show lq []= [] from rfl,hp]
    .rw[(O5 _).2]
     exact(Ee bQ 0).1
   .rename_i hn
    exact .inr (Wo rfl hn)
theorem wo9:dp 0:=dC
end Go.Proofs.YtplackkccmeioaaGreat
