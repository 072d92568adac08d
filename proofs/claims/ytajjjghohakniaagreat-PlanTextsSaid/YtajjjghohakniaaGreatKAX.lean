/-
  The document's reader of expressions: the walks of its other rules, over trees (the library Vx); used by the theorem at the end of the claim.
  Conditions: as each theorem states them.
-/
import Derived.Test.YtajjjghohakniaaGreatKAW
namespace Go.Proofs.YtajjjghohakniaaGreat
open Go Go.Vx
set_option maxRecDepth 100000
structure PW (L:List GToken) (rec:Nat→RS→PR) (o:Int):Prop where
 ok: ∀w s,RIn L s→s.opn=o→PI L s (rec w s)
 chain: ∀k:Nat,k≤1→ ∀s,RIn L s→s.opn=o→VCalls Tryz.prog 189 [.ptr 0 0,.int .i64 (k:Int)] [rB L s] (RR L (rec k s))
 not: ∀s,RIn L s→s.opn=o→VCalls Tryz.prog 231 [.ptr 0 0] [rB L s] (RR L (rec 2 s))
 cmp: ∀s,RIn L s→s.opn=o→VCalls Tryz.prog 242 [.ptr 0 0] [rB L s] (RR L (rec 3 s))
 sum: ∀s,RIn L s→s.opn=o→VCalls Tryz.prog 246 [.ptr 0 0] [rB L s] (RR L (rec 4 s))
 prod: ∀s,RIn L s→s.opn=o→VCalls Tryz.prog 247 [.ptr 0 0] [rB L s] (RR L (rec 5 s))
 unary: ∀s,RIn L s→s.opn=o→VCalls Tryz.prog 248 [.ptr 0 0] [rB L s] (RR L (rec 6 s))
theorem zv1 {g:Tag} {τ:St} {L:List GToken} {e:GExpr} {s:RS} {x:PR} (h:x=(e,s)):wret (some (.agg [.int .i64 e.kind,.str e.s,.int .i64 e.v.kind,.int .i64 e.v.n,.str e.v.s,.sl g (e.args.map GExpr.row)])) 1 (RR L x) (rB L s::τ):=by
 subst h
 refine xF (r:= .agg [.int .i64 e.kind,.str e.s,.int .i64 e.v.kind,.int .i64 e.v.n,.str e.v.s,.sl .ro (e.args.map GExpr.row)]) (zo3 ⟨yA rfl,yA rfl,yA rfl,yA rfl,yA rfl,wK,trivial⟩) ⟨by rw[GExpr.row_eq],rfl⟩
def zB:Ob:= .box [.int .i64 0,.str [],.int .i64 0,.int .i64 0,.str [],.sl .full []]
theorem zz2 {o:Int} (h0:0≤o) (h1:o≤1000):IntKind.i64.wrap (o - 1)=o - 1:=i64_id (by omega) (by omega)
theorem xx8 (L:List GToken) (hL:LIn L) (rec:Nat→RS→PR) (s:RS) (hs:RIn L s) (h2:s.opn≤200) (hrec:s.opn+1≤200→PW L rec (s.opn+1)):
  VCalls Tryz.prog 246 [.ptr 0 0] [rB L s] (RR L (zd6 L (zf7 L rec 4) s)):=by
 have hr:=zJ2 L hL s hs (by omega)
 have hrin:=zi1 hs h2
 have hro:=za6 (L:=L) s
 have hre:=ze9 (L:=L) (s:=s)
 have ho:=hs.opn
 have hM:zd6 L (zf7 L rec 4) s=if(yP L s).err=0 then((opsF L zj4 (rec 5) L.length (rec 5 (yP L s))).1,outF (opsF L zj4 (rec 5) L.length (rec 5 (yP L s))).2)else(zeroE,outF (yP L s)):=rfl
 generalize zd6 L (zf7 L rec 4) s=M at hM⊢
 generalize yP L s=s1 at hr hrin hro hre hM
 have eo:=zz2 (o:=s1.opn) (by omega) (by omega)
 refine VCalls.introV 1 Tryz.func246 Tryz.ntmps246 Tryz.results246 rfl rfl (Nat.le_of_ble_eq_true rfl) fun c hc hb=> ?_
 by_cases q1:s1.err=0
 rotate_left
 ·have q1':(s1.err==0)=false:=by simpa using q1
  rw[if_neg q1]at hM
  rw[q1']at hr
  refine zC ?_
  simp[go_sem]
  refine zI hr Tryz.callB214 rd_1 rfl ?_
  simp[go_sem,rB,eo]
  exact zv1 (e:=zeroE) (s:=outF s1) hM
 have q1':(s1.err==0)=true:=by simpa using q1
 rw[if_pos q1]at hM
 rw[q1']at hr
 have hP:=hrec (hre q1).2
 have hx0:=hP.ok 5 s1 hrin hro
 have hc0:=hP.prod s1 hrin hro
 generalize rec 5 s1=x0 at hx0 hc0 hM
 have hany:=zR5 L hL x0.2 hx0.rin zj4 (by decide)
 obtain⟨N,hN⟩: ∃N,L.length=N:=⟨_,rfl⟩
 rw[hN]at hM
 refine zC ?_
 simp[go_sem]
 refine zI hr Tryz.callB214 rd_1 rfl ?_
 simp[go_sem]
 refine wW hc0 Tryz.callB247 rd_1 ?_
 simp[go_sem]
 refine zI hany Tryz.callB65 (zM ⟨zV,trivial⟩) rfl ?_
 simp[go_sem]
 refine zL (S:=PR) [0,2,3,4] (fun x=> [.ptr 0 0,.ptr 1 0,.ptr 2 0,.str (anyF L x.2 zj4)]) (fun x=> [rB L x.2,zB,.box x.1.row]) (fun x=>N - x.2.at_) (fun x=>PI L s1 x∧ ∃n,N≤n+x.2.at_∧((opsF L zj4 (rec 5) n x).1,outF (opsF L zj4 (rec 5) n x).2)=M) hc hb x0 ⟨hx0,N,by omega,hM.symm⟩ ?_ ?_
 ·exact at_n 3 (by simp[go_sem,zB]) rfl (by simp[rB,zB,ltOb,ltC,ltK,GExpr.row_eq]) (by decide) (zD (by simp[go_sem]) rfl)
 rintro x ⟨hx,n,hn,hinv⟩
 have hxi:=hx.rin.at_
 have hany:=zR5 L hL x.2 hx.rin zj4 (by decide)
 have htok:=zo5 L hL x.2 hx.rin
 have hxo:=hx.opn
 by_cases q:anyF L x.2 zj4= []
 ·have hxM:M=(x.1,outF x.2):=by
   cases n with
   |zero=>exact hinv.symm
   |succ n=>rw[opsF,if_pos q]at hinv;exact hinv.symm
  have eo2:IntKind.i64.wrap (x.2.opn - 1)=x.2.opn - 1:=by rw[hxo];exact eo
  refine zC ?_
  simp[go_sem,q,rB,eo2]
  exact wA (s:=outF x.2) hxM
 obtain⟨n,rfl⟩: ∃m,n=m+1:=⟨n - 1,by omega⟩
 rw[opsF,if_neg q]at hinv
 have hi:=zA8 q
 have hnx:=hx.rin.next hL hi
 have hy:=hP.ok 5 (zO x.2) hnx (by show x.2.opn=_;rw[hxo,hro])
 have hcy:=hP.prod (zO x.2) hnx (by show x.2.opn=_;rw[hxo,hro])
 generalize rec 5 (zO x.2)=y at hy hcy hinv
 have hup:=hy.up
 rw[za3]at hup
 have hz:PI L s1 (opF (tokF L x.2).place (anyF L x.2 zj4) [x.1,y.1] y.2):=zI7 _ _ hy.rin (by rw[hy.opn];exact hxo) (by have:=hx.up;omega) (fun he=>(hx.err (hy.err he).1).1) (by simp) (fun e he=>by
  simp only[List.mem_cons,List.not_mem_nil,or_false]at he
  rcases he with rfl|rfl
  ·exact hx.wide
  ·exact hy.wide)
 have hop:=op_w L y.2 (tokF L x.2).place (anyF L x.2 zj4) [x.1,y.1] (by simp) (fun e he=>by
  simp only[List.mem_cons,List.not_mem_nil,or_false]at he
  rcases he with rfl|rfl
  ·exact hx.wide
  ·exact hy.wide) (fun he=>by
   have h1:=(hy.err he).2
   have h2:=(hx.err (hy.err he).1).2
   simp only[xK]
   omega)
 have hzat:(opF (tokF L x.2).place (anyF L x.2 zj4) [x.1,y.1] y.2).2.at_=y.2.at_:=zJ8 _ _ _ _
 generalize opF (tokF L x.2).place (anyF L x.2 zj4) [x.1,y.1] y.2=z at hz hop hinv hzat
 have hany2:=zR5 L hL z.2 hz.rin zj4 (by decide)
 have hzi:=hz.rin.at_
 have hl:=hL.len
 have ei:IntKind.i64.wrap ((x.2.at_:Int)+1)=((x.2.at_+1:Nat):Int):=by rw[i64_id (by omega) (by omega)];omega
 have q':(anyF L x.2 zj4).isEmpty=false:=by simpa using q
 refine zC ?_
 simp[go_sem,q']
 refine zI htok Tryz.callB70 rd_1 rfl ?_
 simp[go_sem,rB,ei]
 simp only[List.map_cons,List.map_nil,GExpr.row_eq]at hop
 refine za0 [(3,1),(5,3),(7,3)] 1 3 (by simp) (by kernel_rfl) (by kernel_rfl) ?_
 simp[go_sem]
 refine zq3 hcy Tryz.callB247 rd_1 ?_
 simp[go_sem,GExpr.row_eq]
 refine zq3 hop Tryz.callB217 (zM ⟨zA rfl,zA rfl,zV,trivial⟩) ?_
 simp[go_sem,GExpr.row_eq]
 refine zI hany2 Tryz.callB65 (zM ⟨zV,trivial⟩) rfl ?_
 simp[go_sem]
 refine zN z ⟨by omega,⟨hz,n,by omega,hinv⟩, ?_⟩
 exact at_n 3 (by simp[go_sem,rB,zB,GExpr.row_eq]) rfl (by simp[zB,ltOb,ltC,ltK,GExpr.row_eq]) (by decide) (zD (by simp[go_sem]) rfl)
theorem xu2 (L:List GToken) (hL:LIn L) (rec:Nat→RS→PR) (s:RS) (hs:RIn L s) (h2:s.opn≤200) (hrec:s.opn+1≤200→PW L rec (s.opn+1)):
  VCalls Tryz.prog 247 [.ptr 0 0] [rB L s] (RR L (zd6 L (zf7 L rec 5) s)):=by
 have hr:=zJ2 L hL s hs (by omega)
 have hrin:=zi1 hs h2
 have hro:=za6 (L:=L) s
 have hre:=ze9 (L:=L) (s:=s)
 have ho:=hs.opn
 have hM:zd6 L (zf7 L rec 5) s=if(yP L s).err=0 then((opsF L zj6 (rec 6) L.length (rec 6 (yP L s))).1,outF (opsF L zj6 (rec 6) L.length (rec 6 (yP L s))).2)else(zeroE,outF (yP L s)):=rfl
 generalize zd6 L (zf7 L rec 5) s=M at hM⊢
 generalize yP L s=s1 at hr hrin hro hre hM
 have eo:=zz2 (o:=s1.opn) (by omega) (by omega)
 refine VCalls.introV 1 Tryz.func247 Tryz.ntmps247 Tryz.results247 rfl rfl (Nat.le_of_ble_eq_true rfl) fun c hc hb=> ?_
 by_cases q1:s1.err=0
 rotate_left
 ·have q1':(s1.err==0)=false:=by simpa using q1
  rw[if_neg q1]at hM
  rw[q1']at hr
  refine zC ?_
  simp[go_sem]
  refine zI hr Tryz.callB214 rd_1 rfl ?_
  simp[go_sem,rB,eo]
  exact zv1 (e:=zeroE) (s:=outF s1) hM
 have q1':(s1.err==0)=true:=by simpa using q1
 rw[if_pos q1]at hM
 rw[q1']at hr
 have hP:=hrec (hre q1).2
 have hx0:=hP.ok 6 s1 hrin hro
 have hc0:=hP.unary s1 hrin hro
 generalize rec 6 s1=x0 at hx0 hc0 hM
 have hany:=zR5 L hL x0.2 hx0.rin zj6 (by decide)
 obtain⟨N,hN⟩: ∃N,L.length=N:=⟨_,rfl⟩
 rw[hN]at hM
 refine zC ?_
 simp[go_sem]
 refine zI hr Tryz.callB214 rd_1 rfl ?_
 simp[go_sem]
 refine wW hc0 Tryz.callB248 rd_1 ?_
 simp[go_sem]
 refine zI hany Tryz.callB65 (zM ⟨zV,trivial⟩) rfl ?_
 simp[go_sem]
 refine zL (S:=PR) [0,2,3,4] (fun x=> [.ptr 0 0,.ptr 1 0,.ptr 2 0,.str (anyF L x.2 zj6)]) (fun x=> [rB L x.2,zB,.box x.1.row]) (fun x=>N - x.2.at_) (fun x=>PI L s1 x∧ ∃n,N≤n+x.2.at_∧((opsF L zj6 (rec 6) n x).1,outF (opsF L zj6 (rec 6) n x).2)=M) hc hb x0 ⟨hx0,N,by omega,hM.symm⟩ ?_ ?_
 ·exact at_n 3 (by simp[go_sem,zB]) rfl (by simp[rB,zB,ltOb,ltC,ltK,GExpr.row_eq]) (by decide) (zD (by simp[go_sem]) rfl)
 rintro x ⟨hx,n,hn,hinv⟩
 have hxi:=hx.rin.at_
 have hany:=zR5 L hL x.2 hx.rin zj6 (by decide)
 have htok:=zo5 L hL x.2 hx.rin
 have hxo:=hx.opn
 by_cases q:anyF L x.2 zj6= []
 ·have hxM:M=(x.1,outF x.2):=by
   cases n with
   |zero=>exact hinv.symm
   |succ n=>rw[opsF,if_pos q]at hinv;exact hinv.symm
  have eo2:IntKind.i64.wrap (x.2.opn - 1)=x.2.opn - 1:=by rw[hxo];exact eo
  refine zC ?_
  simp[go_sem,q,rB,eo2]
  exact wA (s:=outF x.2) hxM
 obtain⟨n,rfl⟩: ∃m,n=m+1:=⟨n - 1,by omega⟩
 rw[opsF,if_neg q]at hinv
 have hi:=zA8 q
 have hnx:=hx.rin.next hL hi
 have hy:=hP.ok 6 (zO x.2) hnx (by show x.2.opn=_;rw[hxo,hro])
 have hcy:=hP.unary (zO x.2) hnx (by show x.2.opn=_;rw[hxo,hro])
 generalize rec 6 (zO x.2)=y at hy hcy hinv
 have hup:=hy.up
 rw[za3]at hup
 have hz:PI L s1 (opF (tokF L x.2).place (anyF L x.2 zj6) [x.1,y.1] y.2):=zI7 _ _ hy.rin (by rw[hy.opn];exact hxo) (by have:=hx.up;omega) (fun he=>(hx.err (hy.err he).1).1) (by simp) (fun e he=>by
  simp only[List.mem_cons,List.not_mem_nil,or_false]at he
  rcases he with rfl|rfl
  ·exact hx.wide
  ·exact hy.wide)
 have hop:=op_w L y.2 (tokF L x.2).place (anyF L x.2 zj6) [x.1,y.1] (by simp) (fun e he=>by
  simp only[List.mem_cons,List.not_mem_nil,or_false]at he
  rcases he with rfl|rfl
  ·exact hx.wide
  ·exact hy.wide) (fun he=>by
   have h1:=(hy.err he).2
   have h2:=(hx.err (hy.err he).1).2
   simp only[xK]
   omega)
 have hzat:(opF (tokF L x.2).place (anyF L x.2 zj6) [x.1,y.1] y.2).2.at_=y.2.at_:=zJ8 _ _ _ _
 generalize opF (tokF L x.2).place (anyF L x.2 zj6) [x.1,y.1] y.2=z at hz hop hinv hzat
 have hany2:=zR5 L hL z.2 hz.rin zj6 (by decide)
 have hzi:=hz.rin.at_
 have hl:=hL.len
 have ei:IntKind.i64.wrap ((x.2.at_:Int)+1)=((x.2.at_+1:Nat):Int):=by rw[i64_id (by omega) (by omega)];omega
 have q':(anyF L x.2 zj6).isEmpty=false:=by simpa using q
 refine zC ?_
 simp[go_sem,q']
 refine zI htok Tryz.callB70 rd_1 rfl ?_
 simp[go_sem,rB,ei]
 simp only[List.map_cons,List.map_nil,GExpr.row_eq]at hop
 refine za0 [(3,1),(5,3),(7,3)] 1 3 (by simp) (by kernel_rfl) (by kernel_rfl) ?_
 simp[go_sem]
 refine zq3 hcy Tryz.callB248 rd_1 ?_
 simp[go_sem,GExpr.row_eq]
 refine zq3 hop Tryz.callB217 (zM ⟨zA rfl,zA rfl,zV,trivial⟩) ?_
 simp[go_sem,GExpr.row_eq]
 refine zI hany2 Tryz.callB65 (zM ⟨zV,trivial⟩) rfl ?_
 simp[go_sem]
 refine zN z ⟨by omega,⟨hz,n,by omega,hinv⟩, ?_⟩
 exact at_n 3 (by simp[go_sem,rB,zB,GExpr.row_eq]) rfl (by simp[zB,ltOb,ltC,ltK,GExpr.row_eq]) (by decide) (zD (by simp[go_sem]) rfl)
end Go.Proofs.YtajjjghohakniaaGreat
namespace Go.Proofs.YtajjjghohakniaaGreat
open Go Go.Vx
set_option maxRecDepth 100000
theorem yq8 (L:List GToken) (rec:Nat→RS→PR) (o:Int) (hP:PW L rec o) (s:RS) (hs:RIn L s) (ho:s.opn=o):VCalls Tryz.prog 215 [.ptr 0 0,.int .i64 0] [rB L s] (RR L (rec 1 s)):=by
 have hc0:=hP.chain 1 (Nat.le_refl _) s hs ho
 generalize rec 1 s=x at hc0⊢
 refine VCalls.intro 1 Tryz.func215 Tryz.ntmps215 Tryz.results215 rfl rfl (Nat.le_of_ble_eq_true rfl) fun c hc hb=>zJ ?_
 simp[go_sem]
 refine wW hc0 Tryz.callB189 (zM ⟨zA rfl,trivial⟩) ?_
 simp[go_sem,GExpr.row_eq]
 exact wA rfl
theorem yt8 (L:List GToken) (rec:Nat→RS→PR) (o:Int) (hP:PW L rec o) (s:RS) (hs:RIn L s) (ho:s.opn=o):VCalls Tryz.prog 215 [.ptr 0 0,.int .i64 1] [rB L s] (RR L (rec 2 s)):=by
 have hc0:=hP.not s hs ho
 generalize rec 2 s=x at hc0⊢
 refine VCalls.intro 1 Tryz.func215 Tryz.ntmps215 Tryz.results215 rfl rfl (Nat.le_of_ble_eq_true rfl) fun c hc hb=>zJ ?_
 simp[go_sem]
 refine wW hc0 Tryz.callB231 rd_1 ?_
 simp[go_sem,GExpr.row_eq]
 exact wA rfl
theorem yN5 (L:List GToken) (s:RS) (w:List UInt8) (hw:w≠ []):(anyF L s [w]= []↔isT L w s=false)∧(isT L w s=true→anyF L s [w]=w):=by
 unfold anyF
 cases isT L w s
 ·simp[anyF]
 ·simp[hw]
theorem yU9 (L:List GToken) (hL:LIn L) (rec:Nat→RS→PR) (s:RS) (hs:RIn L s) (h2:s.opn≤200) (hrec:s.opn+1≤200→PW L rec (s.opn+1)):
  VCalls Tryz.prog 189 [.ptr 0 0,.int .i64 0] [rB L s] (RR L (zd6 L (zf7 L rec 0) s)):=by
 have hr:=zJ2 L hL s hs (by omega)
 have hrin:=zi1 hs h2
 have hro:=za6 (L:=L) s
 have hre:=ze9 (L:=L) (s:=s)
 have ho:=hs.opn
 have hM:zd6 L (zf7 L rec 0) s=if(yP L s).err=0 then((opsF L [wOR] (rec 1) L.length (rec 1 (yP L s))).1,outF (opsF L [wOR] (rec 1) L.length (rec 1 (yP L s))).2)else(zeroE,outF (yP L s)):=rfl
 generalize zd6 L (zf7 L rec 0) s=M at hM⊢
 generalize yP L s=s1 at hr hrin hro hre hM
 have eo:=zz2 (o:=s1.opn) (by omega) (by omega)
 have hlev:=yr2
 refine VCalls.introV 1 Tryz.func189 Tryz.ntmps189 Tryz.results189 rfl rfl (Nat.le_of_ble_eq_true rfl) fun c hc hb=> ?_
 by_cases q1:s1.err=0
 rotate_left
 ·have q1':(s1.err==0)=false:=by simpa using q1
  rw[if_neg q1]at hM
  rw[q1']at hr
  refine zC ?_
  simp[go_sem]
  refine zI hr Tryz.callB214 rd_1 rfl ?_
  simp[go_sem,rB,eo]
  exact zv1 (e:=zeroE) (s:=outF s1) hM
 have q1':(s1.err==0)=true:=by simpa using q1
 rw[if_pos q1]at hM
 rw[q1']at hr
 have hP:=hrec (hre q1).2
 have hx0:=hP.ok 1 s1 hrin hro
 have hc0:=yq8 L rec _ hP s1 hrin hro
 generalize rec 1 s1=x0 at hx0 hc0 hM
 obtain⟨N,hN⟩: ∃N,L.length=N:=⟨_,rfl⟩
 rw[hN]at hM
 refine zC ?_
 simp[go_sem]
 refine zI hr Tryz.callB214 rd_1 rfl ?_
 simp[go_sem]
 refine wW hc0 Tryz.callB215 (zM ⟨zA rfl,trivial⟩) ?_
 simp[go_sem]
 refine zL (S:=PR) [0,1,4,5] (fun x=> [.ptr 0 0,.int .i64 0,.ptr 1 0,.ptr 2 0]) (fun x=> [rB L x.2,zB,.box x.1.row]) (fun x=>N - x.2.at_) (fun x=>PI L s1 x∧ ∃n,N≤n+x.2.at_∧((opsF L [wOR] (rec 1) n x).1,outF (opsF L [wOR] (rec 1) n x).2)=M) hc hb x0 ⟨hx0,N,by omega,hM.symm⟩ ?_ ?_
 ·exact at_n 3 (by simp[go_sem,zB]) rfl (by simp[rB,zB,ltOb,ltC,ltK,GExpr.row_eq]) (by decide) (zD (by simp[go_sem]) rfl)
 rintro x ⟨hx,n,hn,hinv⟩
 have hxi:=hx.rin.at_
 have his:=is_w L hL x.2 hx.rin wOR
 have htok:=zo5 L hL x.2 hx.rin
 have hxo:=hx.opn
 obtain⟨ha1,ha2⟩:=yN5 L x.2 wOR (by decide)
 by_cases q:isT L wOR x.2=false
 ·rw[q]at his
  have hxM:M=(x.1,outF x.2):=by
   cases n with
   |zero=>exact hinv.symm
   |succ n=>rw[opsF,if_pos (ha1.2 q)]at hinv;exact hinv.symm
  have eo2:IntKind.i64.wrap (x.2.opn - 1)=x.2.opn - 1:=by rw[hxo];exact eo
  refine zC ?_
  simp[go_sem]
  refine zE hlev Tryz.callB216 (zH rfl) rfl ?_
  simp[go_sem]
  refine zI his Tryz.callB69 (zM ⟨zA rfl,trivial⟩) rfl ?_
  simp[go_sem,rB,eo2]
  exact wA (s:=outF x.2) hxM
 have q:isT L wOR x.2=true:=by simpa using q
 rw[q]at his
 obtain⟨n,rfl⟩: ∃m,n=m+1:=⟨n - 1,by omega⟩
 have hany:=ha2 q
 rw[opsF,if_neg (by rw[hany];decide),hany]at hinv
 have hnx:=hx.rin.next hL q
 have hy:=hP.ok 1 (zO x.2) hnx (by show x.2.opn=_;rw[hxo,hro])
 have hcy:=yq8 L rec _ hP (zO x.2) hnx (by show x.2.opn=_;rw[hxo,hro])
 generalize rec 1 (zO x.2)=y at hy hcy hinv
 have hup:=hy.up
 rw[za3]at hup
 have hwy: ∀e∈ [x.1,y.1],Wide e:=fun e he=>by
  simp only[List.mem_cons,List.not_mem_nil,or_false]at he
  rcases he with rfl|rfl
  ·exact hx.wide
  ·exact hy.wide
 have hz:PI L s1 (opF (tokF L x.2).place wOR [x.1,y.1] y.2):=zI7 _ _ hy.rin (by rw[hy.opn];exact hxo) (by have:=hx.up;omega) (fun he=>(hx.err (hy.err he).1).1) (by simp) hwy
 have hop:=op_w L y.2 (tokF L x.2).place wOR [x.1,y.1] (by simp) hwy (fun he=>by
   have h1:=(hy.err he).2
   have h2:=(hx.err (hy.err he).1).2
   simp only[xK]
   omega)
 have hzat:(opF (tokF L x.2).place wOR [x.1,y.1] y.2).2.at_=y.2.at_:=zJ8 _ _ _ _
 generalize opF (tokF L x.2).place wOR [x.1,y.1] y.2=z at hz hop hinv hzat
 have hzi:=hz.rin.at_
 have hl:=hL.len
 have ei:IntKind.i64.wrap ((x.2.at_:Int)+1)=((x.2.at_+1:Nat):Int):=by rw[i64_id (by omega) (by omega)];omega
 simp only[List.map_cons,List.map_nil,GExpr.row_eq]at hop
 refine zC ?_
 simp[go_sem]
 refine zE hlev Tryz.callB216 (zH rfl) rfl ?_
 simp[go_sem]
 refine zI his Tryz.callB69 (zM ⟨zA rfl,trivial⟩) rfl ?_
 simp[go_sem]
 refine zI htok Tryz.callB70 rd_1 rfl ?_
 simp[go_sem,rB,ei]
 refine za0 [(2,0),(11,3),(13,3)] 1 3 (by simp) (by kernel_rfl) (by kernel_rfl) ?_
 simp[go_sem]
 refine zS hlev Tryz.callB216 (fun _=>zH rfl) rfl ?_
 simp[go_sem]
 refine zq3 hcy Tryz.callB215 (zM ⟨zA rfl,trivial⟩) ?_
 simp[go_sem,GExpr.row_eq]
 refine zq3 hop Tryz.callB217 (zM ⟨zA rfl,zA rfl,zV,trivial⟩) ?_
 simp[go_sem,GExpr.row_eq]
 refine zN z ⟨by omega,⟨hz,n,by omega,hinv⟩, ?_⟩
 exact at_n 3 (by simp[go_sem,rB,zB,GExpr.row_eq]) rfl (by simp[zB,ltOb,ltC,ltK,GExpr.row_eq]) (by decide) (zD (by simp[go_sem]) rfl)
theorem xa5 (L:List GToken) (hL:LIn L) (rec:Nat→RS→PR) (s:RS) (hs:RIn L s) (h2:s.opn≤200) (hrec:s.opn+1≤200→PW L rec (s.opn+1)):
  VCalls Tryz.prog 189 [.ptr 0 0,.int .i64 1] [rB L s] (RR L (zd6 L (zf7 L rec 1) s)):=by
 have hr:=zJ2 L hL s hs (by omega)
 have hrin:=zi1 hs h2
 have hro:=za6 (L:=L) s
 have hre:=ze9 (L:=L) (s:=s)
 have ho:=hs.opn
 have hM:zd6 L (zf7 L rec 1) s=if(yP L s).err=0 then((opsF L [wAND] (rec 2) L.length (rec 2 (yP L s))).1,outF (opsF L [wAND] (rec 2) L.length (rec 2 (yP L s))).2)else(zeroE,outF (yP L s)):=rfl
 generalize zd6 L (zf7 L rec 1) s=M at hM⊢
 generalize yP L s=s1 at hr hrin hro hre hM
 have eo:=zz2 (o:=s1.opn) (by omega) (by omega)
 have hlev:=yr2
 refine VCalls.introV 1 Tryz.func189 Tryz.ntmps189 Tryz.results189 rfl rfl (Nat.le_of_ble_eq_true rfl) fun c hc hb=> ?_
 by_cases q1:s1.err=0
 rotate_left
 ·have q1':(s1.err==0)=false:=by simpa using q1
  rw[if_neg q1]at hM
  rw[q1']at hr
  refine zC ?_
  simp[go_sem]
  refine zI hr Tryz.callB214 rd_1 rfl ?_
  simp[go_sem,rB,eo]
  exact zv1 (e:=zeroE) (s:=outF s1) hM
 have q1':(s1.err==0)=true:=by simpa using q1
 rw[if_pos q1]at hM
 rw[q1']at hr
 have hP:=hrec (hre q1).2
 have hx0:=hP.ok 2 s1 hrin hro
 have hc0:=yt8 L rec _ hP s1 hrin hro
 generalize rec 2 s1=x0 at hx0 hc0 hM
 obtain⟨N,hN⟩: ∃N,L.length=N:=⟨_,rfl⟩
 rw[hN]at hM
 refine zC ?_
 simp[go_sem]
 refine zI hr Tryz.callB214 rd_1 rfl ?_
 simp[go_sem]
 refine wW hc0 Tryz.callB215 (zM ⟨zA rfl,trivial⟩) ?_
 simp[go_sem]
 refine zL (S:=PR) [0,1,4,5] (fun x=> [.ptr 0 0,.int .i64 1,.ptr 1 0,.ptr 2 0]) (fun x=> [rB L x.2,zB,.box x.1.row]) (fun x=>N - x.2.at_) (fun x=>PI L s1 x∧ ∃n,N≤n+x.2.at_∧((opsF L [wAND] (rec 2) n x).1,outF (opsF L [wAND] (rec 2) n x).2)=M) hc hb x0 ⟨hx0,N,by omega,hM.symm⟩ ?_ ?_
 ·exact at_n 3 (by simp[go_sem,zB]) rfl (by simp[rB,zB,ltOb,ltC,ltK,GExpr.row_eq]) (by decide) (zD (by simp[go_sem]) rfl)
 rintro x ⟨hx,n,hn,hinv⟩
 have hxi:=hx.rin.at_
 have his:=is_w L hL x.2 hx.rin wAND
 have htok:=zo5 L hL x.2 hx.rin
 have hxo:=hx.opn
 obtain⟨ha1,ha2⟩:=yN5 L x.2 wAND (by decide)
 by_cases q:isT L wAND x.2=false
 ·rw[q]at his
  have hxM:M=(x.1,outF x.2):=by
   cases n with
   |zero=>exact hinv.symm
   |succ n=>rw[opsF,if_pos (ha1.2 q)]at hinv;exact hinv.symm
  have eo2:IntKind.i64.wrap (x.2.opn - 1)=x.2.opn - 1:=by rw[hxo];exact eo
  refine zC ?_
  simp[go_sem]
  refine zE hlev Tryz.callB216 (zH rfl) rfl ?_
  simp[go_sem]
  refine zI his Tryz.callB69 (zM ⟨zA rfl,trivial⟩) rfl ?_
  simp[go_sem,rB,eo2]
  exact wA (s:=outF x.2) hxM
 have q:isT L wAND x.2=true:=by simpa using q
 rw[q]at his
 obtain⟨n,rfl⟩: ∃m,n=m+1:=⟨n - 1,by omega⟩
 have hany:=ha2 q
 rw[opsF,if_neg (by rw[hany];decide),hany]at hinv
 have hnx:=hx.rin.next hL q
 have hy:=hP.ok 2 (zO x.2) hnx (by show x.2.opn=_;rw[hxo,hro])
 have hcy:=yt8 L rec _ hP (zO x.2) hnx (by show x.2.opn=_;rw[hxo,hro])
 generalize rec 2 (zO x.2)=y at hy hcy hinv
 have hup:=hy.up
 rw[za3]at hup
 have hwy: ∀e∈ [x.1,y.1],Wide e:=fun e he=>by
  simp only[List.mem_cons,List.not_mem_nil,or_false]at he
  rcases he with rfl|rfl
  ·exact hx.wide
  ·exact hy.wide
 have hz:PI L s1 (opF (tokF L x.2).place wAND [x.1,y.1] y.2):=zI7 _ _ hy.rin (by rw[hy.opn];exact hxo) (by have:=hx.up;omega) (fun he=>(hx.err (hy.err he).1).1) (by simp) hwy
 have hop:=op_w L y.2 (tokF L x.2).place wAND [x.1,y.1] (by simp) hwy (fun he=>by
   have h1:=(hy.err he).2
   have h2:=(hx.err (hy.err he).1).2
   simp only[xK]
   omega)
 have hzat:(opF (tokF L x.2).place wAND [x.1,y.1] y.2).2.at_=y.2.at_:=zJ8 _ _ _ _
 generalize opF (tokF L x.2).place wAND [x.1,y.1] y.2=z at hz hop hinv hzat
 have hzi:=hz.rin.at_
 have hl:=hL.len
 have ei:IntKind.i64.wrap ((x.2.at_:Int)+1)=((x.2.at_+1:Nat):Int):=by rw[i64_id (by omega) (by omega)];omega
 simp only[List.map_cons,List.map_nil,GExpr.row_eq]at hop
 refine zC ?_
 simp[go_sem]
 refine zE hlev Tryz.callB216 (zH rfl) rfl ?_
 simp[go_sem]
 refine zI his Tryz.callB69 (zM ⟨zA rfl,trivial⟩) rfl ?_
 simp[go_sem]
 refine zI htok Tryz.callB70 rd_1 rfl ?_
 simp[go_sem,rB,ei]
 refine za0 [(2,0),(11,3),(13,3)] 1 3 (by simp) (by kernel_rfl) (by kernel_rfl) ?_
 simp[go_sem]
 refine zS hlev Tryz.callB216 (fun _=>zH rfl) rfl ?_
 simp[go_sem]
 refine zq3 hcy Tryz.callB215 (zM ⟨zA rfl,trivial⟩) ?_
 simp[go_sem,GExpr.row_eq]
 refine zq3 hop Tryz.callB217 (zM ⟨zA rfl,zA rfl,zV,trivial⟩) ?_
 simp[go_sem,GExpr.row_eq]
 refine zN z ⟨by omega,⟨hz,n,by omega,hinv⟩, ?_⟩
 exact at_n 3 (by simp[go_sem,rB,zB,GExpr.row_eq]) rfl (by simp[zB,ltOb,ltC,ltK,GExpr.row_eq]) (by decide) (zD (by simp[go_sem]) rfl)
end Go.Proofs.YtajjjghohakniaaGreat
namespace Go.Proofs.YtajjjghohakniaaGreat
open Go Go.Vx
set_option maxRecDepth 100000
theorem yo7 {x:GExpr} (h:Wide x): ∀e∈ [x],Wide e:=fun e he=>by
 simp only[List.mem_cons,List.not_mem_nil,or_false]at he
 subst he
 exact h
theorem xu7 {x y:GExpr} (h:Wide x) (h2:Wide y): ∀e∈ [x,y],Wide e:=fun e he=>by
 simp only[List.mem_cons,List.not_mem_nil,or_false]at he
 rcases he with rfl|rfl
 ·exact h
 ·exact h2
theorem xy9 (L:List GToken) (hL:LIn L) (rec:Nat→RS→PR) (s:RS) (hs:RIn L s) (h2:s.opn≤200) (hrec:s.opn+1≤200→PW L rec (s.opn+1)):
  VCalls Tryz.prog 231 [.ptr 0 0] [rB L s] (RR L (zd6 L (zf7 L rec 2) s)):=by
 have hr:=zJ2 L hL s hs (by omega)
 have hrin:=zi1 hs h2
 have hro:=za6 (L:=L) s
 have hre:=ze9 (L:=L) (s:=s)
 have ho:=hs.opn
 have hM:zd6 L (zf7 L rec 2) s=if(yP L s).err=0 then((notK L (rec 2) (rec 3) (yP L s)).1,outF (notK L (rec 2) (rec 3) (yP L s)).2)else(zeroE,outF (yP L s)):=rfl
 generalize zd6 L (zf7 L rec 2) s=M at hM⊢
 generalize yP L s=s1 at hr hrin hro hre hM
 have eo:=zz2 (o:=s1.opn) (by omega) (by omega)
 refine VCalls.intro 1 Tryz.func231 Tryz.ntmps231 Tryz.results231 rfl rfl (Nat.le_of_ble_eq_true rfl) fun c hc hb=>zJ ?_
 by_cases q1:s1.err=0
 rotate_left
 ·have q1':(s1.err==0)=false:=by simpa using q1
  rw[if_neg q1]at hM
  rw[q1']at hr
  simp[go_sem]
  refine zI hr Tryz.callB214 rd_1 rfl ?_
  simp[go_sem,rB,eo]
  exact zv1 (e:=zeroE) (s:=outF s1) hM
 have q1':(s1.err==0)=true:=by simpa using q1
 rw[if_pos q1]at hM
 rw[q1']at hr
 have hP:=hrec (hre q1).2
 have htok:=zo5 L hL s1 hrin
 have heat:=yd2 L hL s1 hrin wNOT
 unfold notK at hM
 unfold eatF at heat
 by_cases q:isT L wNOT s1=true
 ·rw[if_pos q]at hM
  rw[if_pos q,q]at heat
  have hnx:=hrin.next hL q
  have hy:=hP.ok 2 (zO s1) hnx hro
  have hcy:=hP.not (zO s1) hnx hro
  generalize rec 2 (zO s1)=y at hy hcy hM
  have hop:=op_w L y.2 (tokF L s1).place wNOT [y.1] (by simp) (yo7 hy.wide) (fun he=>by
   have h1:=(hy.err he).2
   simp only[xK]
   omega)
  have hzo:(opF (tokF L s1).place wNOT [y.1] y.2).2.opn=s1.opn:=by
   show(opS _ _ _ y.2).opn=_
   rw[zU8,hy.opn];rfl
  generalize opF (tokF L s1).place wNOT [y.1] y.2=z at hop hM hzo
  have eo2:IntKind.i64.wrap (z.2.opn - 1)=z.2.opn - 1:=by rw[hzo];exact eo
  simp only[List.map_cons,List.map_nil,GExpr.row_eq]at hop
  simp[go_sem]
  refine zI hr Tryz.callB214 rd_1 rfl ?_
  simp[go_sem]
  refine zI htok Tryz.callB70 rd_1 rfl ?_
  simp[go_sem]
  refine zI heat Tryz.callB68 (zM ⟨zA rfl,trivial⟩) rfl ?_
  simp[go_sem]
  refine wW hcy Tryz.callB231 rd_1 ?_
  simp[go_sem,GExpr.row_eq]
  refine wW hop Tryz.callB217 (zM ⟨zA rfl,zA rfl,zV,trivial⟩) ?_
  simp[go_sem,rB,GExpr.row_eq,eo2]
  exact wA (s:=outF z.2) hM
 ·have q:isT L wNOT s1=false:=by simpa using q
  rw[if_neg (by rw[q];decide)]at hM
  rw[if_neg (by rw[q];decide),q]at heat
  have hy:=hP.ok 3 s1 hrin hro
  have hcy:=hP.cmp s1 hrin hro
  generalize rec 3 s1=z at hy hcy hM
  have eo2:IntKind.i64.wrap (z.2.opn - 1)=z.2.opn - 1:=by rw[hy.opn];exact eo
  simp[go_sem]
  refine zI hr Tryz.callB214 rd_1 rfl ?_
  simp[go_sem]
  refine zI htok Tryz.callB70 rd_1 rfl ?_
  simp[go_sem]
  refine zI heat Tryz.callB68 (zM ⟨zA rfl,trivial⟩) rfl ?_
  simp[go_sem]
  refine wW hcy Tryz.callB242 rd_1 ?_
  simp[go_sem,rB,GExpr.row_eq,eo2]
  exact wA (s:=outF z.2) hM
theorem xi2 (L:List GToken) (s:RS) (w:List UInt8) (ws:List (List UInt8)) (h:isT L w s=true):anyF L s (w::ws)=w:=by unfold anyF;rw[if_pos h]
theorem yS1 (L:List GToken) (s:RS) (w:List UInt8) (ws:List (List UInt8)) (h:isT L w s=false):anyF L s (w::ws)=anyF L s ws:=by unfold anyF;rw[if_neg (by rw[h];decide)];cases ws<;>rfl
theorem yR5: ∀w∈signsC,w≠ []:=by decide
theorem xy7 (L:List GToken) (hL:LIn L) (rec:Nat→RS→PR) (s:RS) (hs:RIn L s) (h2:s.opn≤200) (hrec:s.opn+1≤200→PW L rec (s.opn+1)):
  VCalls Tryz.prog 242 [.ptr 0 0] [rB L s] (RR L (zd6 L (zf7 L rec 3) s)):=by
 have hr:=zJ2 L hL s hs (by omega)
 have hrin:=zi1 hs h2
 have hro:=za6 (L:=L) s
 have hre:=ze9 (L:=L) (s:=s)
 have ho:=hs.opn
 have hM:zd6 L (zf7 L rec 3) s=if(yP L s).err=0 then((cmpJ L (rec 4) (rec 4 (yP L s))).1,outF (cmpJ L (rec 4) (rec 4 (yP L s))).2)else(zeroE,outF (yP L s)):=rfl
 generalize zd6 L (zf7 L rec 3) s=M at hM⊢
 generalize yP L s=s1 at hr hrin hro hre hM
 have eo:=zz2 (o:=s1.opn) (by omega) (by omega)
 refine VCalls.introV 1 Tryz.func242 Tryz.ntmps242 Tryz.results242 rfl rfl (Nat.le_of_ble_eq_true rfl) fun c hc hb=> ?_
 by_cases q1:s1.err=0
 rotate_left
 ·have q1':(s1.err==0)=false:=by simpa using q1
  rw[if_neg q1]at hM
  rw[q1']at hr
  refine zC ?_
  simp[go_sem]
  refine zI hr Tryz.callB214 rd_1 rfl ?_
  simp[go_sem,rB,eo]
  exact zv1 (e:=zeroE) (s:=outF s1) hM
 have q1':(s1.err==0)=true:=by simpa using q1
 rw[if_pos q1]at hM
 rw[q1']at hr
 have hP:=hrec (hre q1).2
 have hx:=hP.ok 4 s1 hrin hro
 have hcx:=hP.sum s1 hrin hro
 generalize rec 4 s1=x at hx hcx hM
 have htok:=zo5 L hL x.2 hx.rin
 have heat:=yd2 L hL x.2 hx.rin wIS
 have hxo:=hx.opn
 unfold cmpJ at hM
 unfold eatF at heat
 by_cases q:isT L wIS x.2=true
 ·rw[if_pos q]at hM
  rw[if_pos q,q]at heat
  have hnx:=hx.rin.next hL q
  have heat2:=yd2 L hL (zO x.2) hnx wNOT
  unfold eatF at heat2
  by_cases q2:isT L wNOT (zO x.2)=true
  ·rw[if_pos q2]at hM
   rw[if_pos q2,q2]at heat2
   have hn2:=hnx.next hL q2
   have hmu:=zc5 L hL _ hn2 zp5
   have hmo:=zm9 (L:=L) zp5 (zO (zO x.2))
   have hme:=zh3 (L:=L) (w:=zp5) (s:=zO (zO x.2))
   generalize yC L zp5 (zO (zO x.2))=u at hmu hmo hme hM
   have huo:u.opn=s1.opn:=by rw[hmo];exact hxo
   have eo2:IntKind.i64.wrap (u.opn - 1)=u.opn - 1:=by rw[huo];exact eo
   have hop:=op_w L (outF u) (tokF L x.2).place zN3 [x.1] (by simp) (yo7 hx.wide) (fun he=>by
    have h1:=(hx.err (hme he).1).2
    simp only[xK]
    omega)
   have hMM:M=opF (tokF L x.2).place zN3 [x.1] (outF u):=by rw[hM];unfold opF;rw[yM9]
   clear hM
   generalize opF (tokF L x.2).place zN3 [x.1] (outF u)=z at hop hMM
   simp only[List.map_cons,List.map_nil,GExpr.row_eq]at hop
   refine zC ?_
   simp[go_sem]
   refine zI hr Tryz.callB214 rd_1 rfl ?_
   simp[go_sem]
   refine wW hcx Tryz.callB246 rd_1 ?_
   simp[go_sem,GExpr.row_eq]
   refine zI htok Tryz.callB70 rd_1 rfl ?_
   simp[go_sem]
   refine zI heat Tryz.callB68 (zM ⟨zA rfl,trivial⟩) rfl ?_
   simp[go_sem]
   refine zI heat2 Tryz.callB68 (zM ⟨zA rfl,trivial⟩) rfl ?_
   simp[go_sem]
   refine zI hmu Tryz.callB71 (zM ⟨zA rfl,trivial⟩) rfl ?_
   simp[go_sem,rB,eo2]
   refine wW (s:=outF u) hop Tryz.callB217 (zM ⟨zA rfl,zA rfl,zV,trivial⟩) ?_
   simp[go_sem,GExpr.row_eq]
   exact wA hMM
  ·have q2:isT L wNOT (zO x.2)=false:=by simpa using q2
   rw[if_neg (by rw[q2];decide)]at hM
   rw[if_neg (by rw[q2];decide),q2]at heat2
   have hmu:=zc5 L hL _ hnx zp5
   have hmo:=zm9 (L:=L) zp5 (zO x.2)
   have hme:=zh3 (L:=L) (w:=zp5) (s:=zO x.2)
   generalize yC L zp5 (zO x.2)=u at hmu hmo hme hM
   have huo:u.opn=s1.opn:=by rw[hmo];exact hxo
   have eo2:IntKind.i64.wrap (u.opn - 1)=u.opn - 1:=by rw[huo];exact eo
   have hop:=op_w L (outF u) (tokF L x.2).place zV1 [x.1] (by simp) (yo7 hx.wide) (fun he=>by
    have h1:=(hx.err (hme he).1).2
    simp only[xK]
    omega)
   have hMM:M=opF (tokF L x.2).place zV1 [x.1] (outF u):=by rw[hM];unfold opF;rw[yM9]
   clear hM
   generalize opF (tokF L x.2).place zV1 [x.1] (outF u)=z at hop hMM
   simp only[List.map_cons,List.map_nil,GExpr.row_eq]at hop
   refine zC ?_
   simp[go_sem]
   refine zI hr Tryz.callB214 rd_1 rfl ?_
   simp[go_sem]
   refine wW hcx Tryz.callB246 rd_1 ?_
   simp[go_sem,GExpr.row_eq]
   refine zI htok Tryz.callB70 rd_1 rfl ?_
   simp[go_sem]
   refine zI heat Tryz.callB68 (zM ⟨zA rfl,trivial⟩) rfl ?_
   simp[go_sem]
   refine zI heat2 Tryz.callB68 (zM ⟨zA rfl,trivial⟩) rfl ?_
   simp[go_sem]
   refine zI hmu Tryz.callB71 (zM ⟨zA rfl,trivial⟩) rfl ?_
   simp[go_sem,rB,eo2]
   refine wW (s:=outF u) hop Tryz.callB217 (zM ⟨zA rfl,zA rfl,zV,trivial⟩) ?_
   simp[go_sem,GExpr.row_eq]
   exact wA hMM
 have q:isT L wIS x.2=false:=by simpa using q
 rw[if_neg (by rw[q];decide)]at hM
 rw[if_neg (by rw[q];decide),q]at heat
 refine zC ?_
 simp[go_sem]
 refine zI hr Tryz.callB214 rd_1 rfl ?_
 simp[go_sem]
 refine wW hcx Tryz.callB246 rd_1 ?_
 simp[go_sem,GExpr.row_eq]
 refine zI htok Tryz.callB70 rd_1 rfl ?_
 simp[go_sem]
 refine zI heat Tryz.callB68 (zM ⟨zA rfl,trivial⟩) rfl ?_
 simp[go_sem]
 refine zL (S:=Nat) [0,2,3,4,5,7] (fun i=> [.ptr 0 0,.ptr 1 0,.ptr 2 0,.int .i64 (tokF L x.2).place,.sl .ro (signsC.map fun w=> [V.str w]),.int .i64 (i:Int)]) (fun _=> [rB L x.2,zB,.box x.1.row]) (fun i=>6 - i) (fun i=>i≤6∧anyF L x.2 (signsC.drop i)=anyF L x.2 signsC) hc hb 0 ⟨Nat.zero_le _,rfl⟩ ?_ ?_
 ·exact at_n 3 (by simp[go_sem,zB,GExpr.row_eq]) rfl (by simp[rB,zB,ltOb,ltC,ltK,GExpr.row_eq]) (by decide) ⟨zo0 (by rfl),zo0 (by rfl),zo0 (by rfl),zA rfl,zV,zA rfl,trivial⟩
 rintro i ⟨hi,hinv⟩
 by_cases qi:i<6
 rotate_left
 ·obtain rfl:i=6:=by omega
  have ha:anyF L x.2 signsC= []:=by rw[←hinv];rfl
  rw[if_pos ha]at hM
  have eo2:IntKind.i64.wrap (x.2.opn - 1)=x.2.opn - 1:=by rw[hxo];exact eo
  refine zC ?_
  simp[go_sem,signsC,rB,eo2,GExpr.row_eq]
  exact wA (s:=outF x.2) hM
 have hsl:i<signsC.length:=qi
 obtain⟨w,hw⟩: ∃w,signsC[i]=w:=⟨_,rfl⟩
 have hwm:w∈signsC:=hw▸List.getElem_mem hsl
 have hw0:=yR5 w hwm
 rw[List.drop_eq_getElem_cons hsl,hw]at hinv
 have heat:=yd2 L hL x.2 hx.rin w
 unfold eatF at heat
 have hi6:decide ((i:Int)<6)=true:=decide_eq_true (by omega)
 have ei:=zT qi (by decide)
 have hsl':(signsC.length:Int)=6:=rfl
 by_cases qw:isT L w x.2=true
 rotate_left
 ·have qw:isT L w x.2=false:=by simpa using qw
  rw[yS1 L x.2 w _ qw]at hinv
  rw[if_neg (by rw[qw];decide),qw]at heat
  refine zC ?_
  simp[go_sem,hsl',hi6,hsl,hw]
  refine zP (by omega) ?_
  simp[go_sem]
  refine zI heat Tryz.callB68 (zM ⟨zA rfl,trivial⟩) rfl ?_
  simp[go_sem,ei]
  refine zN (i+1) ⟨by omega,⟨by omega,hinv⟩, ?_⟩
  exact at_n 3 (by simp[go_sem,rB,zB,GExpr.row_eq]) rfl (by simp[rB,zB,ltOb,ltC,ltK,GExpr.row_eq]) (by decide) (zD (by simp[go_sem]) rfl)
 rw[xi2 L x.2 w _ qw]at hinv
 rw[if_neg (by rw[←hinv];exact hw0),←hinv]at hM
 rw[if_pos qw,qw]at heat
 have hnx:=hx.rin.next hL qw
 have hy:=hP.ok 4 (zO x.2) hnx (by show x.2.opn=_;rw[hxo,hro])
 have hcy:=hP.sum (zO x.2) hnx (by show x.2.opn=_;rw[hxo,hro])
 generalize rec 4 (zO x.2)=y at hy hcy hM
 have hop:=op_w L y.2 (tokF L x.2).place w [x.1,y.1] (by simp) (xu7 hx.wide hy.wide) (fun he=>by
   have h1:=(hy.err he).2
   have h2:=(hx.err (hy.err he).1).2
   simp only[xK]
   omega)
 have hzo:(opF (tokF L x.2).place w [x.1,y.1] y.2).2.opn=s1.opn:=by
  show(opS _ _ _ y.2).opn=_
  rw[zU8,hy.opn];exact hxo
 generalize opF (tokF L x.2).place w [x.1,y.1] y.2=z at hop hM hzo
 have eo2:IntKind.i64.wrap (z.2.opn - 1)=z.2.opn - 1:=by rw[hzo];exact eo
 simp only[List.map_cons,List.map_nil,GExpr.row_eq]at hop
 refine zC ?_
 simp[go_sem,hsl',hi6,hsl,hw]
 refine zP (by omega) ?_
 simp[go_sem]
 refine zI heat Tryz.callB68 (zM ⟨zA rfl,trivial⟩) rfl ?_
 simp[go_sem]
 refine za0 [(8,3),(10,3)] 1 3 (by simp) (by kernel_rfl) (by kernel_rfl) ?_
 simp[go_sem,hsl,hw]
 refine zq3 hcy Tryz.callB246 rd_1 ?_
 simp[go_sem,GExpr.row_eq]
 refine zq3 hop Tryz.callB217 (zM ⟨zA rfl,zA rfl,zV,trivial⟩) ?_
 simp[go_sem,rB,GExpr.row_eq,eo2]
 exact wA (s:=outF z.2) hM
end Go.Proofs.YtajjjghohakniaaGreat
