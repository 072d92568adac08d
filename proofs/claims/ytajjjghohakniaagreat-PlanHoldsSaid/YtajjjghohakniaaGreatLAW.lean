/-
  The document's reader of expressions: the walks of its other rules, over trees (the library Vx); used by the theorem at the end of the claim.
  Conditions: as each theorem states them.
-/
import Derived.Test.YtajjjghohakniaaGreatLAV
namespace Go.Proofs.YtajjjghohakniaaGreat
open Go Go.Vx
set_option maxRecDepth 100000
structure PW (L:List GToken) (rec:Nat→RS→PR) (o:Int):Prop where
 ok: ∀w s,RIn L s→s.opn=o→PI L s (rec w s)
 chain: ∀k:Nat,k≤1→ ∀s,RIn L s→s.opn=o→VCalls Tryz.prog 189 [.ptr 0 0,.int .i64 (k:Int)] [rB L s] (RR L (rec k s))
 not: ∀s,RIn L s→s.opn=o→VCalls Tryz.prog 231 [.ptr 0 0] [rB L s] (RR L (rec 2 s))
 cmp: ∀s,RIn L s→s.opn=o→VCalls Tryz.prog 242 [.ptr 0 0] [rB L s] (RR L (rec 3 s))
 sum: ∀s,RIn L s→s.opn=o→VCalls Tryz.prog 246 [.ptr 0 0] [rB L s] (RR L (rec 4 s))
 prod: ∀s,RIn L s→s.opn=o→VCalls Tryz.prog 247 [.ptr 0 0] [rB L s] (RR L (rec 5 s))
 unary: ∀s,RIn L s→s.opn=o→VCalls Tryz.prog 248 [.ptr 0 0] [rB L s] (RR L (rec 6 s))
theorem zu5 {g:Tag} {τ:St} {L:List GToken} {e:GExpr} {s:RS} {x:PR} (h:x=(e,s)):wret (some (.agg [.int .i64 e.kind,.str e.s,.int .i64 e.v.kind,.int .i64 e.v.n,.str e.v.s,.sl g (e.args.map GExpr.row)])) 1 (RR L x) (rB L s::τ):=by
 subst h
 refine xH (r:= .agg [.int .i64 e.kind,.str e.s,.int .i64 e.v.kind,.int .i64 e.v.n,.str e.v.s,.sl .ro (e.args.map GExpr.row)]) (zn0 ⟨zZ rfl,zZ rfl,zZ rfl,zZ rfl,zZ rfl,wD,trivial⟩) ⟨by rw[GExpr.row_eq],rfl⟩
def zB:Ob:= .box [.int .i64 0,.str [],.int .i64 0,.int .i64 0,.str [],.sl .full []]
theorem zy0 {o:Int} (h0:0≤o) (h1:o≤1000):IntKind.i64.wrap (o - 1)=o - 1:=i64_id (by omega) (by omega)
theorem xw4 (L:List GToken) (hL:LIn L) (rec:Nat→RS→PR) (s:RS) (hs:RIn L s) (h2:s.opn≤200) (hrec:s.opn+1≤200→PW L rec (s.opn+1)):
  VCalls Tryz.prog 246 [.ptr 0 0] [rB L s] (RR L (zd0 L (zf0 L rec 4) s)):=by
 have hr:=zI3 L hL s hs (by omega)
 have hrin:=zi0 hs h2
 have hro:=wZ (L:=L) s
 have hre:=ze5 (L:=L) (s:=s)
 have ho:=hs.opn
 have hM:zd0 L (zf0 L rec 4) s=if(yM L s).err=0 then((opsF L zj3 (rec 5) L.length (rec 5 (yM L s))).1,outF (opsF L zj3 (rec 5) L.length (rec 5 (yM L s))).2)else(zeroE,outF (yM L s)):=rfl
 generalize zd0 L (zf0 L rec 4) s=M at hM⊢
 generalize yM L s=s1 at hr hrin hro hre hM
 have eo:=zy0 (o:=s1.opn) (by omega) (by omega)
 refine VCalls.introV 1 Tryz.func246 Tryz.ntmps246 Tryz.results246 rfl rfl (Nat.le_of_ble_eq_true rfl) fun c hc hb=> ?_
 by_cases q1:s1.err=0
 rotate_left
 ·have q1':(s1.err==0)=false:=by simpa using q1
  rw[if_neg q1]at hM
  rw[q1']at hr
  refine zC ?_
  simp[go_sem]
  refine zH hr Tryz.callB214 rd_1 rfl ?_
  simp[go_sem,rB,eo]
  exact zu5 (e:=zeroE) (s:=outF s1) hM
 have q1':(s1.err==0)=true:=by simpa using q1
 rw[if_pos q1]at hM
 rw[q1']at hr
 have hP:=hrec (hre q1).2
 have hx0:=hP.ok 5 s1 hrin hro
 have hc0:=hP.prod s1 hrin hro
 generalize rec 5 s1=x0 at hx0 hc0 hM
 have hany:=zP5 L hL x0.2 hx0.rin zj3 (by decide)
 obtain⟨N,hN⟩: ∃N,L.length=N:=⟨_,rfl⟩
 rw[hN]at hM
 refine zC ?_
 simp[go_sem]
 refine zH hr Tryz.callB214 rd_1 rfl ?_
 simp[go_sem]
 refine wP hc0 Tryz.callB247 rd_1 ?_
 simp[go_sem]
 refine zH hany Tryz.callB65 (zL ⟨zW,trivial⟩) rfl ?_
 simp[go_sem]
 refine zN (S:=PR) [0,2,3,4] (fun x=> [.ptr 0 0,.ptr 1 0,.ptr 2 0,.str (anyF L x.2 zj3)]) (fun x=> [rB L x.2,zB,.box x.1.row]) (fun x=>N - x.2.at_) (fun x=>PI L s1 x∧ ∃n,N≤n+x.2.at_∧((opsF L zj3 (rec 5) n x).1,outF (opsF L zj3 (rec 5) n x).2)=M) hc hb x0 ⟨hx0,N,by omega,hM.symm⟩ ?_ ?_
 ·exact at_n 3 (by simp[go_sem,zB]) rfl (by simp[rB,zB,ltOb,ltC,ltK,GExpr.row_eq]) (by decide) (zE (by simp[go_sem]) rfl)
 rintro x ⟨hx,n,hn,hinv⟩
 have hxi:=hx.rin.at_
 have hany:=zP5 L hL x.2 hx.rin zj3 (by decide)
 have htok:=zn8 L hL x.2 hx.rin
 have hxo:=hx.opn
 by_cases q:anyF L x.2 zj3= []
 ·have hxM:M=(x.1,outF x.2):=by
   cases n with
   |zero=>exact hinv.symm
   |succ n=>rw[opsF,if_pos q]at hinv;exact hinv.symm
  have eo2:IntKind.i64.wrap (x.2.opn - 1)=x.2.opn - 1:=by rw[hxo];exact eo
  refine zC ?_
  simp[go_sem,q,rB,eo2]
  exact xT (s:=outF x.2) hxM
 obtain⟨n,rfl⟩: ∃m,n=m+1:=⟨n - 1,by omega⟩
 rw[opsF,if_neg q]at hinv
 have hi:=zw5 q
 have hnx:=hx.rin.next hL hi
 have hy:=hP.ok 5 (zM x.2) hnx (by show x.2.opn=_;rw[hxo,hro])
 have hcy:=hP.prod (zM x.2) hnx (by show x.2.opn=_;rw[hxo,hro])
 generalize rec 5 (zM x.2)=y at hy hcy hinv
 have hup:=hy.up
 rw[wW]at hup
 have hz:PI L s1 (opF (tokF L x.2).place (anyF L x.2 zj3) [x.1,y.1] y.2):=zF3 _ _ hy.rin (by rw[hy.opn];exact hxo) (by have:=hx.up;omega) (fun he=>(hx.err (hy.err he).1).1) (by simp) (fun e he=>by
  simp only[List.mem_cons,List.not_mem_nil,or_false]at he
  rcases he with rfl|rfl
  ·exact hx.wide
  ·exact hy.wide)
 have hop:=op_w L y.2 (tokF L x.2).place (anyF L x.2 zj3) [x.1,y.1] (by simp) (fun e he=>by
  simp only[List.mem_cons,List.not_mem_nil,or_false]at he
  rcases he with rfl|rfl
  ·exact hx.wide
  ·exact hy.wide) (fun he=>by
   have h1:=(hy.err he).2
   have h2:=(hx.err (hy.err he).1).2
   simp only[xL]
   omega)
 have hzat:(opF (tokF L x.2).place (anyF L x.2 zj3) [x.1,y.1] y.2).2.at_=y.2.at_:=zI0 _ _ _ _
 generalize opF (tokF L x.2).place (anyF L x.2 zj3) [x.1,y.1] y.2=z at hz hop hinv hzat
 have hany2:=zP5 L hL z.2 hz.rin zj3 (by decide)
 have hzi:=hz.rin.at_
 have hl:=hL.len
 have ei:IntKind.i64.wrap ((x.2.at_:Int)+1)=((x.2.at_+1:Nat):Int):=by rw[i64_id (by omega) (by omega)];omega
 have q':(anyF L x.2 zj3).isEmpty=false:=by simpa using q
 refine zC ?_
 simp[go_sem,q']
 refine zH htok Tryz.callB70 rd_1 rfl ?_
 simp[go_sem,rB,ei]
 simp only[List.map_cons,List.map_nil,GExpr.row_eq]at hop
 refine wT [(3,1),(5,3),(7,3)] 1 3 (by simp) (by kernel_rfl) (by kernel_rfl) ?_
 simp[go_sem]
 refine zo7 hcy Tryz.callB247 rd_1 ?_
 simp[go_sem,GExpr.row_eq]
 refine zo7 hop Tryz.callB217 (zL ⟨zA rfl,zA rfl,zW,trivial⟩) ?_
 simp[go_sem,GExpr.row_eq]
 refine zH hany2 Tryz.callB65 (zL ⟨zW,trivial⟩) rfl ?_
 simp[go_sem]
 refine zP z ⟨by omega,⟨hz,n,by omega,hinv⟩, ?_⟩
 exact at_n 3 (by simp[go_sem,rB,zB,GExpr.row_eq]) rfl (by simp[zB,ltOb,ltC,ltK,GExpr.row_eq]) (by decide) (zE (by simp[go_sem]) rfl)
theorem xt1 (L:List GToken) (hL:LIn L) (rec:Nat→RS→PR) (s:RS) (hs:RIn L s) (h2:s.opn≤200) (hrec:s.opn+1≤200→PW L rec (s.opn+1)):
  VCalls Tryz.prog 247 [.ptr 0 0] [rB L s] (RR L (zd0 L (zf0 L rec 5) s)):=by
 have hr:=zI3 L hL s hs (by omega)
 have hrin:=zi0 hs h2
 have hro:=wZ (L:=L) s
 have hre:=ze5 (L:=L) (s:=s)
 have ho:=hs.opn
 have hM:zd0 L (zf0 L rec 5) s=if(yM L s).err=0 then((opsF L zj2 (rec 6) L.length (rec 6 (yM L s))).1,outF (opsF L zj2 (rec 6) L.length (rec 6 (yM L s))).2)else(zeroE,outF (yM L s)):=rfl
 generalize zd0 L (zf0 L rec 5) s=M at hM⊢
 generalize yM L s=s1 at hr hrin hro hre hM
 have eo:=zy0 (o:=s1.opn) (by omega) (by omega)
 refine VCalls.introV 1 Tryz.func247 Tryz.ntmps247 Tryz.results247 rfl rfl (Nat.le_of_ble_eq_true rfl) fun c hc hb=> ?_
 by_cases q1:s1.err=0
 rotate_left
 ·have q1':(s1.err==0)=false:=by simpa using q1
  rw[if_neg q1]at hM
  rw[q1']at hr
  refine zC ?_
  simp[go_sem]
  refine zH hr Tryz.callB214 rd_1 rfl ?_
  simp[go_sem,rB,eo]
  exact zu5 (e:=zeroE) (s:=outF s1) hM
 have q1':(s1.err==0)=true:=by simpa using q1
 rw[if_pos q1]at hM
 rw[q1']at hr
 have hP:=hrec (hre q1).2
 have hx0:=hP.ok 6 s1 hrin hro
 have hc0:=hP.unary s1 hrin hro
 generalize rec 6 s1=x0 at hx0 hc0 hM
 have hany:=zP5 L hL x0.2 hx0.rin zj2 (by decide)
 obtain⟨N,hN⟩: ∃N,L.length=N:=⟨_,rfl⟩
 rw[hN]at hM
 refine zC ?_
 simp[go_sem]
 refine zH hr Tryz.callB214 rd_1 rfl ?_
 simp[go_sem]
 refine wP hc0 Tryz.callB248 rd_1 ?_
 simp[go_sem]
 refine zH hany Tryz.callB65 (zL ⟨zW,trivial⟩) rfl ?_
 simp[go_sem]
 refine zN (S:=PR) [0,2,3,4] (fun x=> [.ptr 0 0,.ptr 1 0,.ptr 2 0,.str (anyF L x.2 zj2)]) (fun x=> [rB L x.2,zB,.box x.1.row]) (fun x=>N - x.2.at_) (fun x=>PI L s1 x∧ ∃n,N≤n+x.2.at_∧((opsF L zj2 (rec 6) n x).1,outF (opsF L zj2 (rec 6) n x).2)=M) hc hb x0 ⟨hx0,N,by omega,hM.symm⟩ ?_ ?_
 ·exact at_n 3 (by simp[go_sem,zB]) rfl (by simp[rB,zB,ltOb,ltC,ltK,GExpr.row_eq]) (by decide) (zE (by simp[go_sem]) rfl)
 rintro x ⟨hx,n,hn,hinv⟩
 have hxi:=hx.rin.at_
 have hany:=zP5 L hL x.2 hx.rin zj2 (by decide)
 have htok:=zn8 L hL x.2 hx.rin
 have hxo:=hx.opn
 by_cases q:anyF L x.2 zj2= []
 ·have hxM:M=(x.1,outF x.2):=by
   cases n with
   |zero=>exact hinv.symm
   |succ n=>rw[opsF,if_pos q]at hinv;exact hinv.symm
  have eo2:IntKind.i64.wrap (x.2.opn - 1)=x.2.opn - 1:=by rw[hxo];exact eo
  refine zC ?_
  simp[go_sem,q,rB,eo2]
  exact xT (s:=outF x.2) hxM
 obtain⟨n,rfl⟩: ∃m,n=m+1:=⟨n - 1,by omega⟩
 rw[opsF,if_neg q]at hinv
 have hi:=zw5 q
 have hnx:=hx.rin.next hL hi
 have hy:=hP.ok 6 (zM x.2) hnx (by show x.2.opn=_;rw[hxo,hro])
 have hcy:=hP.unary (zM x.2) hnx (by show x.2.opn=_;rw[hxo,hro])
 generalize rec 6 (zM x.2)=y at hy hcy hinv
 have hup:=hy.up
 rw[wW]at hup
 have hz:PI L s1 (opF (tokF L x.2).place (anyF L x.2 zj2) [x.1,y.1] y.2):=zF3 _ _ hy.rin (by rw[hy.opn];exact hxo) (by have:=hx.up;omega) (fun he=>(hx.err (hy.err he).1).1) (by simp) (fun e he=>by
  simp only[List.mem_cons,List.not_mem_nil,or_false]at he
  rcases he with rfl|rfl
  ·exact hx.wide
  ·exact hy.wide)
 have hop:=op_w L y.2 (tokF L x.2).place (anyF L x.2 zj2) [x.1,y.1] (by simp) (fun e he=>by
  simp only[List.mem_cons,List.not_mem_nil,or_false]at he
  rcases he with rfl|rfl
  ·exact hx.wide
  ·exact hy.wide) (fun he=>by
   have h1:=(hy.err he).2
   have h2:=(hx.err (hy.err he).1).2
   simp only[xL]
   omega)
 have hzat:(opF (tokF L x.2).place (anyF L x.2 zj2) [x.1,y.1] y.2).2.at_=y.2.at_:=zI0 _ _ _ _
 generalize opF (tokF L x.2).place (anyF L x.2 zj2) [x.1,y.1] y.2=z at hz hop hinv hzat
 have hany2:=zP5 L hL z.2 hz.rin zj2 (by decide)
 have hzi:=hz.rin.at_
 have hl:=hL.len
 have ei:IntKind.i64.wrap ((x.2.at_:Int)+1)=((x.2.at_+1:Nat):Int):=by rw[i64_id (by omega) (by omega)];omega
 have q':(anyF L x.2 zj2).isEmpty=false:=by simpa using q
 refine zC ?_
 simp[go_sem,q']
 refine zH htok Tryz.callB70 rd_1 rfl ?_
 simp[go_sem,rB,ei]
 simp only[List.map_cons,List.map_nil,GExpr.row_eq]at hop
 refine wT [(3,1),(5,3),(7,3)] 1 3 (by simp) (by kernel_rfl) (by kernel_rfl) ?_
 simp[go_sem]
 refine zo7 hcy Tryz.callB248 rd_1 ?_
 simp[go_sem,GExpr.row_eq]
 refine zo7 hop Tryz.callB217 (zL ⟨zA rfl,zA rfl,zW,trivial⟩) ?_
 simp[go_sem,GExpr.row_eq]
 refine zH hany2 Tryz.callB65 (zL ⟨zW,trivial⟩) rfl ?_
 simp[go_sem]
 refine zP z ⟨by omega,⟨hz,n,by omega,hinv⟩, ?_⟩
 exact at_n 3 (by simp[go_sem,rB,zB,GExpr.row_eq]) rfl (by simp[zB,ltOb,ltC,ltK,GExpr.row_eq]) (by decide) (zE (by simp[go_sem]) rfl)
end Go.Proofs.YtajjjghohakniaaGreat
namespace Go.Proofs.YtajjjghohakniaaGreat
open Go Go.Vx
set_option maxRecDepth 100000
theorem ym3 (L:List GToken) (rec:Nat→RS→PR) (o:Int) (hP:PW L rec o) (s:RS) (hs:RIn L s) (ho:s.opn=o):VCalls Tryz.prog 215 [.ptr 0 0,.int .i64 0] [rB L s] (RR L (rec 1 s)):=by
 have hc0:=hP.chain 1 (Nat.le_refl _) s hs ho
 generalize rec 1 s=x at hc0⊢
 refine VCalls.intro 1 Tryz.func215 Tryz.ntmps215 Tryz.results215 rfl rfl (Nat.le_of_ble_eq_true rfl) fun c hc hb=>zJ ?_
 simp[go_sem]
 refine wP hc0 Tryz.callB189 (zL ⟨zA rfl,trivial⟩) ?_
 simp[go_sem,GExpr.row_eq]
 exact xT rfl
theorem ym4 (L:List GToken) (rec:Nat→RS→PR) (o:Int) (hP:PW L rec o) (s:RS) (hs:RIn L s) (ho:s.opn=o):VCalls Tryz.prog 215 [.ptr 0 0,.int .i64 1] [rB L s] (RR L (rec 2 s)):=by
 have hc0:=hP.not s hs ho
 generalize rec 2 s=x at hc0⊢
 refine VCalls.intro 1 Tryz.func215 Tryz.ntmps215 Tryz.results215 rfl rfl (Nat.le_of_ble_eq_true rfl) fun c hc hb=>zJ ?_
 simp[go_sem]
 refine wP hc0 Tryz.callB231 rd_1 ?_
 simp[go_sem,GExpr.row_eq]
 exact xT rfl
theorem yD4 (L:List GToken) (s:RS) (w:List UInt8) (hw:w≠ []):(anyF L s [w]= []↔isT L w s=false)∧(isT L w s=true→anyF L s [w]=w):=by
 unfold anyF
 cases isT L w s
 ·simp[anyF]
 ·simp[hw]
theorem yT7 (L:List GToken) (hL:LIn L) (rec:Nat→RS→PR) (s:RS) (hs:RIn L s) (h2:s.opn≤200) (hrec:s.opn+1≤200→PW L rec (s.opn+1)):
  VCalls Tryz.prog 189 [.ptr 0 0,.int .i64 0] [rB L s] (RR L (zd0 L (zf0 L rec 0) s)):=by
 have hr:=zI3 L hL s hs (by omega)
 have hrin:=zi0 hs h2
 have hro:=wZ (L:=L) s
 have hre:=ze5 (L:=L) (s:=s)
 have ho:=hs.opn
 have hM:zd0 L (zf0 L rec 0) s=if(yM L s).err=0 then((opsF L [wOR] (rec 1) L.length (rec 1 (yM L s))).1,outF (opsF L [wOR] (rec 1) L.length (rec 1 (yM L s))).2)else(zeroE,outF (yM L s)):=rfl
 generalize zd0 L (zf0 L rec 0) s=M at hM⊢
 generalize yM L s=s1 at hr hrin hro hre hM
 have eo:=zy0 (o:=s1.opn) (by omega) (by omega)
 have hlev:=yp7
 refine VCalls.introV 1 Tryz.func189 Tryz.ntmps189 Tryz.results189 rfl rfl (Nat.le_of_ble_eq_true rfl) fun c hc hb=> ?_
 by_cases q1:s1.err=0
 rotate_left
 ·have q1':(s1.err==0)=false:=by simpa using q1
  rw[if_neg q1]at hM
  rw[q1']at hr
  refine zC ?_
  simp[go_sem]
  refine zH hr Tryz.callB214 rd_1 rfl ?_
  simp[go_sem,rB,eo]
  exact zu5 (e:=zeroE) (s:=outF s1) hM
 have q1':(s1.err==0)=true:=by simpa using q1
 rw[if_pos q1]at hM
 rw[q1']at hr
 have hP:=hrec (hre q1).2
 have hx0:=hP.ok 1 s1 hrin hro
 have hc0:=ym3 L rec _ hP s1 hrin hro
 generalize rec 1 s1=x0 at hx0 hc0 hM
 obtain⟨N,hN⟩: ∃N,L.length=N:=⟨_,rfl⟩
 rw[hN]at hM
 refine zC ?_
 simp[go_sem]
 refine zH hr Tryz.callB214 rd_1 rfl ?_
 simp[go_sem]
 refine wP hc0 Tryz.callB215 (zL ⟨zA rfl,trivial⟩) ?_
 simp[go_sem]
 refine zN (S:=PR) [0,1,4,5] (fun x=> [.ptr 0 0,.int .i64 0,.ptr 1 0,.ptr 2 0]) (fun x=> [rB L x.2,zB,.box x.1.row]) (fun x=>N - x.2.at_) (fun x=>PI L s1 x∧ ∃n,N≤n+x.2.at_∧((opsF L [wOR] (rec 1) n x).1,outF (opsF L [wOR] (rec 1) n x).2)=M) hc hb x0 ⟨hx0,N,by omega,hM.symm⟩ ?_ ?_
 ·exact at_n 3 (by simp[go_sem,zB]) rfl (by simp[rB,zB,ltOb,ltC,ltK,GExpr.row_eq]) (by decide) (zE (by simp[go_sem]) rfl)
 rintro x ⟨hx,n,hn,hinv⟩
 have hxi:=hx.rin.at_
 have his:=is_w L hL x.2 hx.rin wOR
 have htok:=zn8 L hL x.2 hx.rin
 have hxo:=hx.opn
 obtain⟨ha1,ha2⟩:=yD4 L x.2 wOR (by decide)
 by_cases q:isT L wOR x.2=false
 ·rw[q]at his
  have hxM:M=(x.1,outF x.2):=by
   cases n with
   |zero=>exact hinv.symm
   |succ n=>rw[opsF,if_pos (ha1.2 q)]at hinv;exact hinv.symm
  have eo2:IntKind.i64.wrap (x.2.opn - 1)=x.2.opn - 1:=by rw[hxo];exact eo
  refine zC ?_
  simp[go_sem]
  refine zD hlev Tryz.callB216 (zG rfl) rfl ?_
  simp[go_sem]
  refine zH his Tryz.callB69 (zL ⟨zA rfl,trivial⟩) rfl ?_
  simp[go_sem,rB,eo2]
  exact xT (s:=outF x.2) hxM
 have q:isT L wOR x.2=true:=by simpa using q
 rw[q]at his
 obtain⟨n,rfl⟩: ∃m,n=m+1:=⟨n - 1,by omega⟩
 have hany:=ha2 q
 rw[opsF,if_neg (by rw[hany];decide),hany]at hinv
 have hnx:=hx.rin.next hL q
 have hy:=hP.ok 1 (zM x.2) hnx (by show x.2.opn=_;rw[hxo,hro])
 have hcy:=ym3 L rec _ hP (zM x.2) hnx (by show x.2.opn=_;rw[hxo,hro])
 generalize rec 1 (zM x.2)=y at hy hcy hinv
 have hup:=hy.up
 rw[wW]at hup
 have hwy: ∀e∈ [x.1,y.1],Wide e:=fun e he=>by
  simp only[List.mem_cons,List.not_mem_nil,or_false]at he
  rcases he with rfl|rfl
  ·exact hx.wide
  ·exact hy.wide
 have hz:PI L s1 (opF (tokF L x.2).place wOR [x.1,y.1] y.2):=zF3 _ _ hy.rin (by rw[hy.opn];exact hxo) (by have:=hx.up;omega) (fun he=>(hx.err (hy.err he).1).1) (by simp) hwy
 have hop:=op_w L y.2 (tokF L x.2).place wOR [x.1,y.1] (by simp) hwy (fun he=>by
   have h1:=(hy.err he).2
   have h2:=(hx.err (hy.err he).1).2
   simp only[xL]
   omega)
 have hzat:(opF (tokF L x.2).place wOR [x.1,y.1] y.2).2.at_=y.2.at_:=zI0 _ _ _ _
 generalize opF (tokF L x.2).place wOR [x.1,y.1] y.2=z at hz hop hinv hzat
 have hzi:=hz.rin.at_
 have hl:=hL.len
 have ei:IntKind.i64.wrap ((x.2.at_:Int)+1)=((x.2.at_+1:Nat):Int):=by rw[i64_id (by omega) (by omega)];omega
 simp only[List.map_cons,List.map_nil,GExpr.row_eq]at hop
 refine zC ?_
 simp[go_sem]
 refine zD hlev Tryz.callB216 (zG rfl) rfl ?_
 simp[go_sem]
 refine zH his Tryz.callB69 (zL ⟨zA rfl,trivial⟩) rfl ?_
 simp[go_sem]
 refine zH htok Tryz.callB70 rd_1 rfl ?_
 simp[go_sem,rB,ei]
 refine wT [(2,0),(11,3),(13,3)] 1 3 (by simp) (by kernel_rfl) (by kernel_rfl) ?_
 simp[go_sem]
 refine zT hlev Tryz.callB216 (fun _=>zG rfl) rfl ?_
 simp[go_sem]
 refine zo7 hcy Tryz.callB215 (zL ⟨zA rfl,trivial⟩) ?_
 simp[go_sem,GExpr.row_eq]
 refine zo7 hop Tryz.callB217 (zL ⟨zA rfl,zA rfl,zW,trivial⟩) ?_
 simp[go_sem,GExpr.row_eq]
 refine zP z ⟨by omega,⟨hz,n,by omega,hinv⟩, ?_⟩
 exact at_n 3 (by simp[go_sem,rB,zB,GExpr.row_eq]) rfl (by simp[zB,ltOb,ltC,ltK,GExpr.row_eq]) (by decide) (zE (by simp[go_sem]) rfl)
theorem yT8 (L:List GToken) (hL:LIn L) (rec:Nat→RS→PR) (s:RS) (hs:RIn L s) (h2:s.opn≤200) (hrec:s.opn+1≤200→PW L rec (s.opn+1)):
  VCalls Tryz.prog 189 [.ptr 0 0,.int .i64 1] [rB L s] (RR L (zd0 L (zf0 L rec 1) s)):=by
 have hr:=zI3 L hL s hs (by omega)
 have hrin:=zi0 hs h2
 have hro:=wZ (L:=L) s
 have hre:=ze5 (L:=L) (s:=s)
 have ho:=hs.opn
 have hM:zd0 L (zf0 L rec 1) s=if(yM L s).err=0 then((opsF L [wAND] (rec 2) L.length (rec 2 (yM L s))).1,outF (opsF L [wAND] (rec 2) L.length (rec 2 (yM L s))).2)else(zeroE,outF (yM L s)):=rfl
 generalize zd0 L (zf0 L rec 1) s=M at hM⊢
 generalize yM L s=s1 at hr hrin hro hre hM
 have eo:=zy0 (o:=s1.opn) (by omega) (by omega)
 have hlev:=yp7
 refine VCalls.introV 1 Tryz.func189 Tryz.ntmps189 Tryz.results189 rfl rfl (Nat.le_of_ble_eq_true rfl) fun c hc hb=> ?_
 by_cases q1:s1.err=0
 rotate_left
 ·have q1':(s1.err==0)=false:=by simpa using q1
  rw[if_neg q1]at hM
  rw[q1']at hr
  refine zC ?_
  simp[go_sem]
  refine zH hr Tryz.callB214 rd_1 rfl ?_
  simp[go_sem,rB,eo]
  exact zu5 (e:=zeroE) (s:=outF s1) hM
 have q1':(s1.err==0)=true:=by simpa using q1
 rw[if_pos q1]at hM
 rw[q1']at hr
 have hP:=hrec (hre q1).2
 have hx0:=hP.ok 2 s1 hrin hro
 have hc0:=ym4 L rec _ hP s1 hrin hro
 generalize rec 2 s1=x0 at hx0 hc0 hM
 obtain⟨N,hN⟩: ∃N,L.length=N:=⟨_,rfl⟩
 rw[hN]at hM
 refine zC ?_
 simp[go_sem]
 refine zH hr Tryz.callB214 rd_1 rfl ?_
 simp[go_sem]
 refine wP hc0 Tryz.callB215 (zL ⟨zA rfl,trivial⟩) ?_
 simp[go_sem]
 refine zN (S:=PR) [0,1,4,5] (fun x=> [.ptr 0 0,.int .i64 1,.ptr 1 0,.ptr 2 0]) (fun x=> [rB L x.2,zB,.box x.1.row]) (fun x=>N - x.2.at_) (fun x=>PI L s1 x∧ ∃n,N≤n+x.2.at_∧((opsF L [wAND] (rec 2) n x).1,outF (opsF L [wAND] (rec 2) n x).2)=M) hc hb x0 ⟨hx0,N,by omega,hM.symm⟩ ?_ ?_
 ·exact at_n 3 (by simp[go_sem,zB]) rfl (by simp[rB,zB,ltOb,ltC,ltK,GExpr.row_eq]) (by decide) (zE (by simp[go_sem]) rfl)
 rintro x ⟨hx,n,hn,hinv⟩
 have hxi:=hx.rin.at_
 have his:=is_w L hL x.2 hx.rin wAND
 have htok:=zn8 L hL x.2 hx.rin
 have hxo:=hx.opn
 obtain⟨ha1,ha2⟩:=yD4 L x.2 wAND (by decide)
 by_cases q:isT L wAND x.2=false
 ·rw[q]at his
  have hxM:M=(x.1,outF x.2):=by
   cases n with
   |zero=>exact hinv.symm
   |succ n=>rw[opsF,if_pos (ha1.2 q)]at hinv;exact hinv.symm
  have eo2:IntKind.i64.wrap (x.2.opn - 1)=x.2.opn - 1:=by rw[hxo];exact eo
  refine zC ?_
  simp[go_sem]
  refine zD hlev Tryz.callB216 (zG rfl) rfl ?_
  simp[go_sem]
  refine zH his Tryz.callB69 (zL ⟨zA rfl,trivial⟩) rfl ?_
  simp[go_sem,rB,eo2]
  exact xT (s:=outF x.2) hxM
 have q:isT L wAND x.2=true:=by simpa using q
 rw[q]at his
 obtain⟨n,rfl⟩: ∃m,n=m+1:=⟨n - 1,by omega⟩
 have hany:=ha2 q
 rw[opsF,if_neg (by rw[hany];decide),hany]at hinv
 have hnx:=hx.rin.next hL q
 have hy:=hP.ok 2 (zM x.2) hnx (by show x.2.opn=_;rw[hxo,hro])
 have hcy:=ym4 L rec _ hP (zM x.2) hnx (by show x.2.opn=_;rw[hxo,hro])
 generalize rec 2 (zM x.2)=y at hy hcy hinv
 have hup:=hy.up
 rw[wW]at hup
 have hwy: ∀e∈ [x.1,y.1],Wide e:=fun e he=>by
  simp only[List.mem_cons,List.not_mem_nil,or_false]at he
  rcases he with rfl|rfl
  ·exact hx.wide
  ·exact hy.wide
 have hz:PI L s1 (opF (tokF L x.2).place wAND [x.1,y.1] y.2):=zF3 _ _ hy.rin (by rw[hy.opn];exact hxo) (by have:=hx.up;omega) (fun he=>(hx.err (hy.err he).1).1) (by simp) hwy
 have hop:=op_w L y.2 (tokF L x.2).place wAND [x.1,y.1] (by simp) hwy (fun he=>by
   have h1:=(hy.err he).2
   have h2:=(hx.err (hy.err he).1).2
   simp only[xL]
   omega)
 have hzat:(opF (tokF L x.2).place wAND [x.1,y.1] y.2).2.at_=y.2.at_:=zI0 _ _ _ _
 generalize opF (tokF L x.2).place wAND [x.1,y.1] y.2=z at hz hop hinv hzat
 have hzi:=hz.rin.at_
 have hl:=hL.len
 have ei:IntKind.i64.wrap ((x.2.at_:Int)+1)=((x.2.at_+1:Nat):Int):=by rw[i64_id (by omega) (by omega)];omega
 simp only[List.map_cons,List.map_nil,GExpr.row_eq]at hop
 refine zC ?_
 simp[go_sem]
 refine zD hlev Tryz.callB216 (zG rfl) rfl ?_
 simp[go_sem]
 refine zH his Tryz.callB69 (zL ⟨zA rfl,trivial⟩) rfl ?_
 simp[go_sem]
 refine zH htok Tryz.callB70 rd_1 rfl ?_
 simp[go_sem,rB,ei]
 refine wT [(2,0),(11,3),(13,3)] 1 3 (by simp) (by kernel_rfl) (by kernel_rfl) ?_
 simp[go_sem]
 refine zT hlev Tryz.callB216 (fun _=>zG rfl) rfl ?_
 simp[go_sem]
 refine zo7 hcy Tryz.callB215 (zL ⟨zA rfl,trivial⟩) ?_
 simp[go_sem,GExpr.row_eq]
 refine zo7 hop Tryz.callB217 (zL ⟨zA rfl,zA rfl,zW,trivial⟩) ?_
 simp[go_sem,GExpr.row_eq]
 refine zP z ⟨by omega,⟨hz,n,by omega,hinv⟩, ?_⟩
 exact at_n 3 (by simp[go_sem,rB,zB,GExpr.row_eq]) rfl (by simp[zB,ltOb,ltC,ltK,GExpr.row_eq]) (by decide) (zE (by simp[go_sem]) rfl)
end Go.Proofs.YtajjjghohakniaaGreat
namespace Go.Proofs.YtajjjghohakniaaGreat
open Go Go.Vx
set_option maxRecDepth 100000
theorem yk8 {x:GExpr} (h:Wide x): ∀e∈ [x],Wide e:=fun e he=>by
 simp only[List.mem_cons,List.not_mem_nil,or_false]at he
 subst he
 exact h
theorem xu5 {x y:GExpr} (h:Wide x) (h2:Wide y): ∀e∈ [x,y],Wide e:=fun e he=>by
 simp only[List.mem_cons,List.not_mem_nil,or_false]at he
 rcases he with rfl|rfl
 ·exact h
 ·exact h2
theorem xv7 (L:List GToken) (hL:LIn L) (rec:Nat→RS→PR) (s:RS) (hs:RIn L s) (h2:s.opn≤200) (hrec:s.opn+1≤200→PW L rec (s.opn+1)):
  VCalls Tryz.prog 231 [.ptr 0 0] [rB L s] (RR L (zd0 L (zf0 L rec 2) s)):=by
 have hr:=zI3 L hL s hs (by omega)
 have hrin:=zi0 hs h2
 have hro:=wZ (L:=L) s
 have hre:=ze5 (L:=L) (s:=s)
 have ho:=hs.opn
 have hM:zd0 L (zf0 L rec 2) s=if(yM L s).err=0 then((notK L (rec 2) (rec 3) (yM L s)).1,outF (notK L (rec 2) (rec 3) (yM L s)).2)else(zeroE,outF (yM L s)):=rfl
 generalize zd0 L (zf0 L rec 2) s=M at hM⊢
 generalize yM L s=s1 at hr hrin hro hre hM
 have eo:=zy0 (o:=s1.opn) (by omega) (by omega)
 refine VCalls.intro 1 Tryz.func231 Tryz.ntmps231 Tryz.results231 rfl rfl (Nat.le_of_ble_eq_true rfl) fun c hc hb=>zJ ?_
 by_cases q1:s1.err=0
 rotate_left
 ·have q1':(s1.err==0)=false:=by simpa using q1
  rw[if_neg q1]at hM
  rw[q1']at hr
  simp[go_sem]
  refine zH hr Tryz.callB214 rd_1 rfl ?_
  simp[go_sem,rB,eo]
  exact zu5 (e:=zeroE) (s:=outF s1) hM
 have q1':(s1.err==0)=true:=by simpa using q1
 rw[if_pos q1]at hM
 rw[q1']at hr
 have hP:=hrec (hre q1).2
 have htok:=zn8 L hL s1 hrin
 have heat:=zU6 L hL s1 hrin wNOT
 unfold notK at hM
 unfold eatF at heat
 by_cases q:isT L wNOT s1=true
 ·rw[if_pos q]at hM
  rw[if_pos q,q]at heat
  have hnx:=hrin.next hL q
  have hy:=hP.ok 2 (zM s1) hnx hro
  have hcy:=hP.not (zM s1) hnx hro
  generalize rec 2 (zM s1)=y at hy hcy hM
  have hop:=op_w L y.2 (tokF L s1).place wNOT [y.1] (by simp) (yk8 hy.wide) (fun he=>by
   have h1:=(hy.err he).2
   simp only[xL]
   omega)
  have hzo:(opF (tokF L s1).place wNOT [y.1] y.2).2.opn=s1.opn:=by
   show(opS _ _ _ y.2).opn=_
   rw[zS4,hy.opn];rfl
  generalize opF (tokF L s1).place wNOT [y.1] y.2=z at hop hM hzo
  have eo2:IntKind.i64.wrap (z.2.opn - 1)=z.2.opn - 1:=by rw[hzo];exact eo
  simp only[List.map_cons,List.map_nil,GExpr.row_eq]at hop
  simp[go_sem]
  refine zH hr Tryz.callB214 rd_1 rfl ?_
  simp[go_sem]
  refine zH htok Tryz.callB70 rd_1 rfl ?_
  simp[go_sem]
  refine zH heat Tryz.callB68 (zL ⟨zA rfl,trivial⟩) rfl ?_
  simp[go_sem]
  refine wP hcy Tryz.callB231 rd_1 ?_
  simp[go_sem,GExpr.row_eq]
  refine wP hop Tryz.callB217 (zL ⟨zA rfl,zA rfl,zW,trivial⟩) ?_
  simp[go_sem,rB,GExpr.row_eq,eo2]
  exact xT (s:=outF z.2) hM
 ·have q:isT L wNOT s1=false:=by simpa using q
  rw[if_neg (by rw[q];decide)]at hM
  rw[if_neg (by rw[q];decide),q]at heat
  have hy:=hP.ok 3 s1 hrin hro
  have hcy:=hP.cmp s1 hrin hro
  generalize rec 3 s1=z at hy hcy hM
  have eo2:IntKind.i64.wrap (z.2.opn - 1)=z.2.opn - 1:=by rw[hy.opn];exact eo
  simp[go_sem]
  refine zH hr Tryz.callB214 rd_1 rfl ?_
  simp[go_sem]
  refine zH htok Tryz.callB70 rd_1 rfl ?_
  simp[go_sem]
  refine zH heat Tryz.callB68 (zL ⟨zA rfl,trivial⟩) rfl ?_
  simp[go_sem]
  refine wP hcy Tryz.callB242 rd_1 ?_
  simp[go_sem,rB,GExpr.row_eq,eo2]
  exact xT (s:=outF z.2) hM
theorem yS4 (L:List GToken) (s:RS) (w:List UInt8) (ws:List (List UInt8)) (h:isT L w s=true):anyF L s (w::ws)=w:=by unfold anyF;rw[if_pos h]
theorem yK8 (L:List GToken) (s:RS) (w:List UInt8) (ws:List (List UInt8)) (h:isT L w s=false):anyF L s (w::ws)=anyF L s ws:=by unfold anyF;rw[if_neg (by rw[h];decide)];cases ws<;>rfl
theorem yQ8: ∀w∈signsC,w≠ []:=by decide
theorem xv1 (L:List GToken) (hL:LIn L) (rec:Nat→RS→PR) (s:RS) (hs:RIn L s) (h2:s.opn≤200) (hrec:s.opn+1≤200→PW L rec (s.opn+1)):
  VCalls Tryz.prog 242 [.ptr 0 0] [rB L s] (RR L (zd0 L (zf0 L rec 3) s)):=by
 have hr:=zI3 L hL s hs (by omega)
 have hrin:=zi0 hs h2
 have hro:=wZ (L:=L) s
 have hre:=ze5 (L:=L) (s:=s)
 have ho:=hs.opn
 have hM:zd0 L (zf0 L rec 3) s=if(yM L s).err=0 then((cmpJ L (rec 4) (rec 4 (yM L s))).1,outF (cmpJ L (rec 4) (rec 4 (yM L s))).2)else(zeroE,outF (yM L s)):=rfl
 generalize zd0 L (zf0 L rec 3) s=M at hM⊢
 generalize yM L s=s1 at hr hrin hro hre hM
 have eo:=zy0 (o:=s1.opn) (by omega) (by omega)
 refine VCalls.introV 1 Tryz.func242 Tryz.ntmps242 Tryz.results242 rfl rfl (Nat.le_of_ble_eq_true rfl) fun c hc hb=> ?_
 by_cases q1:s1.err=0
 rotate_left
 ·have q1':(s1.err==0)=false:=by simpa using q1
  rw[if_neg q1]at hM
  rw[q1']at hr
  refine zC ?_
  simp[go_sem]
  refine zH hr Tryz.callB214 rd_1 rfl ?_
  simp[go_sem,rB,eo]
  exact zu5 (e:=zeroE) (s:=outF s1) hM
 have q1':(s1.err==0)=true:=by simpa using q1
 rw[if_pos q1]at hM
 rw[q1']at hr
 have hP:=hrec (hre q1).2
 have hx:=hP.ok 4 s1 hrin hro
 have hcx:=hP.sum s1 hrin hro
 generalize rec 4 s1=x at hx hcx hM
 have htok:=zn8 L hL x.2 hx.rin
 have heat:=zU6 L hL x.2 hx.rin wIS
 have hxo:=hx.opn
 unfold cmpJ at hM
 unfold eatF at heat
 by_cases q:isT L wIS x.2=true
 ·rw[if_pos q]at hM
  rw[if_pos q,q]at heat
  have hnx:=hx.rin.next hL q
  have heat2:=zU6 L hL (zM x.2) hnx wNOT
  unfold eatF at heat2
  by_cases q2:isT L wNOT (zM x.2)=true
  ·rw[if_pos q2]at hM
   rw[if_pos q2,q2]at heat2
   have hn2:=hnx.next hL q2
   have hmu:=zb7 L hL _ hn2 zo1
   have hmo:=zl9 (L:=L) zo1 (zM (zM x.2))
   have hme:=zh0 (L:=L) (w:=zo1) (s:=zM (zM x.2))
   generalize yB L zo1 (zM (zM x.2))=u at hmu hmo hme hM
   have huo:u.opn=s1.opn:=by rw[hmo];exact hxo
   have eo2:IntKind.i64.wrap (u.opn - 1)=u.opn - 1:=by rw[huo];exact eo
   have hop:=op_w L (outF u) (tokF L x.2).place zL9 [x.1] (by simp) (yk8 hx.wide) (fun he=>by
    have h1:=(hx.err (hme he).1).2
    simp only[xL]
    omega)
   have hMM:M=opF (tokF L x.2).place zL9 [x.1] (outF u):=by rw[hM];unfold opF;rw[yH7]
   clear hM
   generalize opF (tokF L x.2).place zL9 [x.1] (outF u)=z at hop hMM
   simp only[List.map_cons,List.map_nil,GExpr.row_eq]at hop
   refine zC ?_
   simp[go_sem]
   refine zH hr Tryz.callB214 rd_1 rfl ?_
   simp[go_sem]
   refine wP hcx Tryz.callB246 rd_1 ?_
   simp[go_sem,GExpr.row_eq]
   refine zH htok Tryz.callB70 rd_1 rfl ?_
   simp[go_sem]
   refine zH heat Tryz.callB68 (zL ⟨zA rfl,trivial⟩) rfl ?_
   simp[go_sem]
   refine zH heat2 Tryz.callB68 (zL ⟨zA rfl,trivial⟩) rfl ?_
   simp[go_sem]
   refine zH hmu Tryz.callB71 (zL ⟨zA rfl,trivial⟩) rfl ?_
   simp[go_sem,rB,eo2]
   refine wP (s:=outF u) hop Tryz.callB217 (zL ⟨zA rfl,zA rfl,zW,trivial⟩) ?_
   simp[go_sem,GExpr.row_eq]
   exact xT hMM
  ·have q2:isT L wNOT (zM x.2)=false:=by simpa using q2
   rw[if_neg (by rw[q2];decide)]at hM
   rw[if_neg (by rw[q2];decide),q2]at heat2
   have hmu:=zb7 L hL _ hnx zo1
   have hmo:=zl9 (L:=L) zo1 (zM x.2)
   have hme:=zh0 (L:=L) (w:=zo1) (s:=zM x.2)
   generalize yB L zo1 (zM x.2)=u at hmu hmo hme hM
   have huo:u.opn=s1.opn:=by rw[hmo];exact hxo
   have eo2:IntKind.i64.wrap (u.opn - 1)=u.opn - 1:=by rw[huo];exact eo
   have hop:=op_w L (outF u) (tokF L x.2).place zT1 [x.1] (by simp) (yk8 hx.wide) (fun he=>by
    have h1:=(hx.err (hme he).1).2
    simp only[xL]
    omega)
   have hMM:M=opF (tokF L x.2).place zT1 [x.1] (outF u):=by rw[hM];unfold opF;rw[yH7]
   clear hM
   generalize opF (tokF L x.2).place zT1 [x.1] (outF u)=z at hop hMM
   simp only[List.map_cons,List.map_nil,GExpr.row_eq]at hop
   refine zC ?_
   simp[go_sem]
   refine zH hr Tryz.callB214 rd_1 rfl ?_
   simp[go_sem]
   refine wP hcx Tryz.callB246 rd_1 ?_
   simp[go_sem,GExpr.row_eq]
   refine zH htok Tryz.callB70 rd_1 rfl ?_
   simp[go_sem]
   refine zH heat Tryz.callB68 (zL ⟨zA rfl,trivial⟩) rfl ?_
   simp[go_sem]
   refine zH heat2 Tryz.callB68 (zL ⟨zA rfl,trivial⟩) rfl ?_
   simp[go_sem]
   refine zH hmu Tryz.callB71 (zL ⟨zA rfl,trivial⟩) rfl ?_
   simp[go_sem,rB,eo2]
   refine wP (s:=outF u) hop Tryz.callB217 (zL ⟨zA rfl,zA rfl,zW,trivial⟩) ?_
   simp[go_sem,GExpr.row_eq]
   exact xT hMM
 have q:isT L wIS x.2=false:=by simpa using q
 rw[if_neg (by rw[q];decide)]at hM
 rw[if_neg (by rw[q];decide),q]at heat
 refine zC ?_
 simp[go_sem]
 refine zH hr Tryz.callB214 rd_1 rfl ?_
 simp[go_sem]
 refine wP hcx Tryz.callB246 rd_1 ?_
 simp[go_sem,GExpr.row_eq]
 refine zH htok Tryz.callB70 rd_1 rfl ?_
 simp[go_sem]
 refine zH heat Tryz.callB68 (zL ⟨zA rfl,trivial⟩) rfl ?_
 simp[go_sem]
 refine zN (S:=Nat) [0,2,3,4,5,7] (fun i=> [.ptr 0 0,.ptr 1 0,.ptr 2 0,.int .i64 (tokF L x.2).place,.sl .ro (signsC.map fun w=> [V.str w]),.int .i64 (i:Int)]) (fun _=> [rB L x.2,zB,.box x.1.row]) (fun i=>6 - i) (fun i=>i≤6∧anyF L x.2 (signsC.drop i)=anyF L x.2 signsC) hc hb 0 ⟨Nat.zero_le _,rfl⟩ ?_ ?_
 ·exact at_n 3 (by simp[go_sem,zB,GExpr.row_eq]) rfl (by simp[rB,zB,ltOb,ltC,ltK,GExpr.row_eq]) (by decide) ⟨zm4 (by rfl),zm4 (by rfl),zm4 (by rfl),zA rfl,zW,zA rfl,trivial⟩
 rintro i ⟨hi,hinv⟩
 by_cases qi:i<6
 rotate_left
 ·obtain rfl:i=6:=by omega
  have ha:anyF L x.2 signsC= []:=by rw[←hinv];rfl
  rw[if_pos ha]at hM
  have eo2:IntKind.i64.wrap (x.2.opn - 1)=x.2.opn - 1:=by rw[hxo];exact eo
  refine zC ?_
  simp[go_sem,signsC,rB,eo2,GExpr.row_eq]
  exact xT (s:=outF x.2) hM
 have hsl:i<signsC.length:=qi
 obtain⟨w,hw⟩: ∃w,signsC[i]=w:=⟨_,rfl⟩
 have hwm:w∈signsC:=hw▸List.getElem_mem hsl
 have hw0:=yQ8 w hwm
 rw[List.drop_eq_getElem_cons hsl,hw]at hinv
 have heat:=zU6 L hL x.2 hx.rin w
 unfold eatF at heat
 have hi6:decide ((i:Int)<6)=true:=decide_eq_true (by omega)
 have ei:=zU qi (by decide)
 have hsl':(signsC.length:Int)=6:=rfl
 by_cases qw:isT L w x.2=true
 rotate_left
 ·have qw:isT L w x.2=false:=by simpa using qw
  rw[yK8 L x.2 w _ qw]at hinv
  rw[if_neg (by rw[qw];decide),qw]at heat
  refine zC ?_
  simp[go_sem,hsl',hi6,hsl,hw]
  refine zO (by omega) ?_
  simp[go_sem]
  refine zH heat Tryz.callB68 (zL ⟨zA rfl,trivial⟩) rfl ?_
  simp[go_sem,ei]
  refine zP (i+1) ⟨by omega,⟨by omega,hinv⟩, ?_⟩
  exact at_n 3 (by simp[go_sem,rB,zB,GExpr.row_eq]) rfl (by simp[rB,zB,ltOb,ltC,ltK,GExpr.row_eq]) (by decide) (zE (by simp[go_sem]) rfl)
 rw[yS4 L x.2 w _ qw]at hinv
 rw[if_neg (by rw[←hinv];exact hw0),←hinv]at hM
 rw[if_pos qw,qw]at heat
 have hnx:=hx.rin.next hL qw
 have hy:=hP.ok 4 (zM x.2) hnx (by show x.2.opn=_;rw[hxo,hro])
 have hcy:=hP.sum (zM x.2) hnx (by show x.2.opn=_;rw[hxo,hro])
 generalize rec 4 (zM x.2)=y at hy hcy hM
 have hop:=op_w L y.2 (tokF L x.2).place w [x.1,y.1] (by simp) (xu5 hx.wide hy.wide) (fun he=>by
   have h1:=(hy.err he).2
   have h2:=(hx.err (hy.err he).1).2
   simp only[xL]
   omega)
 have hzo:(opF (tokF L x.2).place w [x.1,y.1] y.2).2.opn=s1.opn:=by
  show(opS _ _ _ y.2).opn=_
  rw[zS4,hy.opn];exact hxo
 generalize opF (tokF L x.2).place w [x.1,y.1] y.2=z at hop hM hzo
 have eo2:IntKind.i64.wrap (z.2.opn - 1)=z.2.opn - 1:=by rw[hzo];exact eo
 simp only[List.map_cons,List.map_nil,GExpr.row_eq]at hop
 refine zC ?_
 simp[go_sem,hsl',hi6,hsl,hw]
 refine zO (by omega) ?_
 simp[go_sem]
 refine zH heat Tryz.callB68 (zL ⟨zA rfl,trivial⟩) rfl ?_
 simp[go_sem]
 refine wT [(8,3),(10,3)] 1 3 (by simp) (by kernel_rfl) (by kernel_rfl) ?_
 simp[go_sem,hsl,hw]
 refine zo7 hcy Tryz.callB246 rd_1 ?_
 simp[go_sem,GExpr.row_eq]
 refine zo7 hop Tryz.callB217 (zL ⟨zA rfl,zA rfl,zW,trivial⟩) ?_
 simp[go_sem,rB,GExpr.row_eq,eo2]
 exact xT (s:=outF z.2) hM
end Go.Proofs.YtajjjghohakniaaGreat
