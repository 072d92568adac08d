/-
  The document's reader of expressions: all its rules, over trees (the library Vx); used by the theorem at the end of the claim.
  Conditions: as each theorem states them.
-/
import Derived.Test.YtkigddpaonhmlaaGreatXAS
set_option maxHeartbeats 8000000
namespace Go.Proofs.YtkigddpaonhmlaaGreat
open Go Go.Vx Go.Proofs.Tryz
set_option maxRecDepth 100000
variable {L:List GToken}
theorem za4 (s:RS):(zO s).at_=s.at_+1:=rfl
theorem zB3 {s:RS}: ∀{ws:List (List UInt8)},anyF L s ws≠ []->isT L (anyF L s ws) s=true
 | [],h=>absurd rfl h
 |w::ws,h=>by
  unfold anyF at h⊢
  split
  .assumption
  .rename_i hn
   rw[if_neg hn]at h
   exact zB3 h
theorem RIn.next (hL:LIn L) {w:List UInt8} {s:RS} (h:RIn L s) (hi:isT L w s=true):RIn L (zO s):=hL.next h (xr6 hi).1
theorem zj5 (hL:LIn L) {w:List UInt8} {s:RS} (h:RIn L s):RIn L (yD L w s):=by
 unfold yD
 split
 .exact h.next hL ‹_›
 .exact ye0 h _ _
theorem zu6 (w:List UInt8) (s:RS):s.at_<=(yD L w s).at_:=by
 unfold yD
 split
 .simp[zO]
 .rw[zF7];exact A2 _
theorem zo1 (w:List UInt8) (s:RS):(yD L w s).opn=s.opn:=by
 unfold yD
 split
 .rfl
 .exact zz4 _ _ _
theorem zi2 {w:List UInt8} {s:RS} (h:(yD L w s).err=0):s.err=0/\isT L w s=true:=by
 unfold yD at h
 split at h
 .exact⟨h,‹_›⟩
 .exact absurd h (zl6 (by decide))
theorem yG6 (hL:LIn L) {s:RS} (h:RIn L s):RIn L (yW L s).2:=by
 unfold yW
 split
 .rename_i hb
  unfold yq0 at hb
  simp only[A4,beq_iff_eq]at hb
  exact hL.next h (by rw[hb.2.1];decide)
 .exact ye0 h _ _
theorem yG7 (s:RS):s.at_<=(yW L s).2.at_:=by
 unfold yW
 split
 .simp[zO]
 .simp only[zF7];exact A2 _
theorem yq1 (s:RS):(yW L s).2.opn=s.opn:=by
 unfold yW
 split
 .rfl
 .exact zz4 _ _ _
theorem zT1 {s:RS} (h:(yW L s).2.err=0):s.err=0/\yq0 L s=true:=by
 unfold yW at h
 split at h
 .exact⟨h,‹_›⟩
 .exact absurd h (zl6 (by decide))
theorem xC8 {e:GExpr} (h:e.args= []):wB e=1:=by rw[zj0,h];rfl
theorem zK0 {s0 s:RS} (p:Int) (w:List UInt8) {a:List GExpr} (h1:RIn L s) (h2:s.opn=s0.opn) (h3:s0.at_<=s.at_) (h4:s.err=0->s0.err=0) (h5:a.length<=1000000) (h6: ∀x∈a,Wide x):PI L s0 (opF p w a s):=
 ⟨xR2 h1 _ _ _,by show(opS p w a s).opn=_;rw[zZ1,h2],by show _<=(opS p w a s).at_;rw[zM2];exact h3,fun h=>⟨h4 (yw9 h).1,(yw9 h).2⟩,xc0 h5 h6⟩
theorem zJ5 (hL:LIn L) {o:Int} {sub:RS->PR} (hsub: ∀s,RIn L s->s.opn=o->PI L s (sub s)) (ws:List (List UInt8)) {s0:RS}: ∀(n:Nat) (x:PR),PI L s0 x->s0.opn=o->PI L s0 (opsF L ws sub n x)
 |0,x,h,_=>h
 |n+1,x,h,ho=>by
  unfold opsF
  split
  .exact h
  rename_i hne
  have hi:=zB3 hne
  have hx:=h.opn
  have hy:=hsub (zO x.2) (h.rin.next hL hi) (by show x.2.opn=o;rw[hx,ho])
  refine zJ5 hL hsub ws n _ (zK0 _ _ hy.rin ?_ ?_ (fun he=>(h.err ?_).1) (by simp) ?_) ho
  .rw[hy.opn];exact hx
  .have h1:=hy.up;have h2:=h.up;rw[za4]at h1;omega
  .exact(hy.err he).1
  .intro e he
   simp only[Ag,Ba,or_false]at he
   rcases he with rfl|rfl
   .exact h.wide
   .exact hy.wide
theorem xF7 (hL:LIn L) {o:Int} {rn rc:RS->PR} (h1: ∀s,RIn L s->s.opn=o->PI L s (rn s)) (h2: ∀s,RIn L s->s.opn=o->PI L s (rc s)) (s:RS) (hs:RIn L s) (ho:s.opn=o):PI L s (notK L rn rc s):=by
 unfold notK
 split
 .rename_i hi
  have hy:=h1 (zO s) (hs.next hL hi) ho
  refine zK0 _ _ hy.rin hy.opn ?_ (fun he=>(hy.err he).1) (by simp) (fun e he=> ?_)
  .have h1:=hy.up;rw[za4]at h1;omega
  .simp only[Ag,Ba,or_false]at he;subst he;exact hy.wide
 .exact h2 s hs ho
theorem xC6 (hL:LIn L) {o:Int} {sub:RS->PR} (hsub: ∀s,RIn L s->s.opn=o->PI L s (sub s)) (s:RS) (ho:s.opn=o) (x:PR) (h:PI L s x):PI L s (cmpJ L sub x):=by
 have hx:=h.opn
 have hu:=h.up
 have w1: ∀e∈ [x.1],Wide e:=fun e he=>by simp only[Ag,Ba,or_false]at he;subst he;exact h.wide
 unfold cmpJ
 split
 .rename_i hi
  have hn:=h.rin.next hL hi
  split
  .rename_i hi2
   have hn2:=hn.next hL hi2
   refine zK0 _ _ (zj5 hL hn2) ?_ ?_ (fun he=>(h.err ?_).1) (by simp) w1
   .rw[zo1];exact hx
   .have:=zu6 (L:=L) zq5 (zO (zO x.2));simp only[zO]at this⊢;omega
   .exact(zi2 he).1
  .refine zK0 _ _ (zj5 hL hn) ?_ ?_ (fun he=>(h.err ?_).1) (by simp) w1
   .rw[zo1];exact hx
   .have:=zu6 (L:=L) zq5 (zO x.2);simp only[zO]at this⊢;omega
   .exact(zi2 he).1
 .split
  .exact h
  rename_i hne
  have hi:=zB3 hne
  have hy:=hsub (zO x.2) (h.rin.next hL hi) (by show x.2.opn=o;rw[hx,ho])
  refine zK0 _ _ hy.rin ?_ ?_ (fun he=>(h.err ?_).1) (by simp) ?_
  .rw[hy.opn];exact hx
  .have h1:=hy.up;rw[za4]at h1;omega
  .exact(hy.err he).1
  .intro e he
   simp only[Ag,Ba,or_false]at he
   rcases he with rfl|rfl
   .exact h.wide
   .exact hy.wide
theorem zB2 {s:RS} {e:GExpr} (ha:e.args= []) {s2:RS} (h1:RIn L s2) (h2:s2.opn=s.opn) (h3:s.at_<=s2.at_) (h4:s2.err=0->s.err=0):PI L s (e,s2):=
 ⟨h1,h2,h3,fun h=>⟨h4 h,by simp only;rw[xC8 ha];decide⟩,xA1 ha⟩
theorem yB1 (hL:LIn L) {o:Int} {un ex:RS->PR} (h1: ∀s,RIn L s->s.opn=o->PI L s (un s)) (h2: ∀s,RIn L s->s.opn=o->PI L s (ex s)) (s:RS) (hs:RIn L s) (ho:s.opn=o):PI L s (zF1 L un ex s):=by
 unfold zF1
 split
 .rename_i hi
  have hy:=h1 (zO s) (hs.next hL hi) ho
  refine zK0 _ _ hy.rin hy.opn ?_ (fun he=>(hy.err he).1) (by simp) (fun e he=> ?_)
  .have h1:=hy.up;rw[za4]at h1;omega
  .simp only[Ag,Ba,or_false]at he;subst he;exact hy.wide
 split
 .rename_i hi
  have hy:=h2 (zO s) (hs.next hL hi) ho
  refine⟨zj5 hL hy.rin, ?_, ?_,fun he=> ?_,hy.wide⟩
  .rw[zo1];exact hy.opn
  .have h1:=hy.up;have h2:=zu6 (L:=L) [41] (ex (zO s)).2;rw[za4]at h1;show _<=(yD L [41] (ex (zO s)).2).at_;omega
  .have:=hy.err (zi2 he).1;exact this
 split
 .exact zB2 rfl (hs.next hL ‹_›) rfl (by simp[zO]) id
 split
 .exact zB2 rfl (hs.next hL ‹_›) rfl (by simp[zO]) id
 split
 .exact zB2 rfl (hs.next hL ‹_›) rfl (by simp[zO]) id
 split
 .exact zB2 rfl (hL.next hs (by omega)) rfl (by simp[zO]) id
 split
 .exact zB2 rfl (hL.next hs (by omega)) rfl (by simp[zO]) id
 .exact zB2 rfl (yG6 hL hs) (yq1 s) (yG7 s) (fun h=>(zT1 h).1)
theorem xm1 (hL:LIn L) {o:Int} {rec:Nat->RS->PR} (h: ∀w s,RIn L s->s.opn=o->PI L s (rec w s)): ∀(w:Nat) (s:RS),RIn L s->s.opn=o->PI L s (zg1 L rec w s)
 |0,s,hs,ho=>zJ5 hL (h 1) _ _ _ (h 1 s hs ho) ho
 |1,s,hs,ho=>zJ5 hL (h 2) _ _ _ (h 2 s hs ho) ho
 |2,s,hs,ho=>xF7 hL (h 2) (h 3) s hs ho
 |3,s,hs,ho=>xC6 hL (h 4) s ho _ (h 4 s hs ho)
 |4,s,hs,ho=>zJ5 hL (h 5) _ _ _ (h 5 s hs ho) ho
 |5,s,hs,ho=>zJ5 hL (h 6) _ _ _ (h 6 s hs ho) ho
 |_w+6,s,hs,ho=>yB1 hL (h 6) (h 0) s hs ho
theorem zP4 (s:RS):(yQ L s).at_=s.at_:=by unfold yQ;split<;>rfl
theorem zb1 (s:RS):(yQ L s).opn=s.opn+1:=by unfold yQ;split<;>rfl
theorem zf7 {s:RS} (h:(yQ L s).err=0):s.err=0/\s.opn+1<=200:=by
 unfold yQ at h
 split at h
 .simp at h
 .rename_i hc
  refine⟨h, ?_⟩
  by_cases q:s.opn+1>200
  .exact absurd ⟨h,q⟩ hc
  .omega
theorem zj7 {s:RS} (hs:RIn L s) (h:s.opn<=200):RIn L (yQ L s):=⟨by rw[zP4];exact hs.at_,by rw[zb1];have:=hs.opn;omega⟩
theorem yZ3 {s:RS} (hs:RIn L s) (h:1<=s.opn):RIn L (outF s):=⟨hs.at_,by have:=hs.opn;simp only[outF];omega⟩
theorem xw5 {k:RS->PR} (s:RS) (hs:RIn L s) (h2:s.opn<=200) (hk:(yQ L s).err=0->PI L (yQ L s) (k (yQ L s))):PI L s (ze5 L k s):=by
 have hr:=zj7 hs h2
 have ho:=hs.opn
 unfold ze5
 split
 .rename_i he
  have hy:=hk he
  have h1:=hy.opn
  have h3:=hy.up
  rw[zb1]at h1
  rw[zP4]at h3
  refine⟨yZ3 hy.rin (by omega), ?_,h3,fun h=>⟨(zf7 he).1,(hy.err h).2⟩,hy.wide⟩
  simp only[outF]
  omega
 .rename_i he
  refine zB2 rfl (yZ3 hr (by rw[zb1];omega)) ?_ ?_ (fun h=>absurd h he)
  .simp only[outF,zb1];omega
  .simp only[outF,zP4];exact A2 _
theorem yZ4 (hL:LIn L): ∀(f:Nat) (w:Nat) (s:RS),RIn L s->s.opn<=200->201<=(f:Int)+s.opn->PI L s (pF L f w s)
 |0,w,s,hs,h2,hf=>by omega
 |f+1,w,s,hs,h2,hf=>by
  unfold pF
  refine xw5 s hs h2 (fun he=> ?_)
  have h3:=(zf7 he).2
  exact xm1 hL (o:=s.opn+1) (fun w t ht ho=>yZ4 hL f w t ht (by omega) (by push_cast at hf;omega)) w _ (zj7 hs h2) (zb1 s)
structure PW (L:List GToken) (rec:Nat->RS->PR) (o:Int):Prop where
 ok: ∀w s,RIn L s->s.opn=o->PI L s (rec w s)
 chain: ∀k:Nat,k<=1-> ∀s,RIn L s->s.opn=o->VCalls prog 207 [.ptr 0 0,.int .i64 (k:Int)] [rB L s] (RR L (rec k s))
 not: ∀s,RIn L s->s.opn=o->VCalls prog 246 [.ptr 0 0] [rB L s] (RR L (rec 2 s))
 cmp: ∀s,RIn L s->s.opn=o->VCalls prog 255 [.ptr 0 0] [rB L s] (RR L (rec 3 s))
 sum: ∀s,RIn L s->s.opn=o->VCalls prog 258 [.ptr 0 0] [rB L s] (RR L (rec 4 s))
 prod: ∀s,RIn L s->s.opn=o->VCalls prog 259 [.ptr 0 0] [rB L s] (RR L (rec 5 s))
 unary: ∀s,RIn L s->s.opn=o->VCalls prog 260 [.ptr 0 0] [rB L s] (RR L (rec 6 s))
theorem zy1 {g:Tag} {τ:St} {L:List GToken} {e:GExpr} {s:RS} {x:PR} (h:x=(e,s)):wret (some (.agg [.int .i64 e.kind,.str e.s,.int .i64 e.v.kind,.int .i64 e.v.n,.str e.v.s,.sl g (e.args.map GExpr.row)])) 1 (RR L x) (rB L s::τ):=by
 subst h
 refine xB (r:= .agg [.int .i64 e.kind,.str e.s,.int .i64 e.v.kind,.int .i64 e.v.n,.str e.v.s,.sl .ro (e.args.map GExpr.row)]) (zt4 ⟨zZ rfl,zZ rfl,zZ rfl,zZ rfl,zZ rfl,yX,trivial⟩) ⟨by rw[GExpr.row_eq],rfl⟩
def zB:Ob:= .box [.int .i64 0,.str [],.int .i64 0,.int .i64 0,.str [],.sl .full []]
theorem zC7 {o:Int} (h0:0<=o) (h1:o<=1000):IntKind.i64.wrap (o - 1)=o - 1:=i64_id (by omega) (by omega)
theorem xW6 (L:List GToken) (hL:LIn L) (rec:Nat->RS->PR) (s:RS) (hs:RIn L s) (h2:s.opn<=200) (hrec:s.opn+1<=200->PW L rec (s.opn+1)):
  VCalls prog 258 [.ptr 0 0] [rB L s] (RR L (ze5 L (zg1 L rec 4) s)):=by
 have hr:=zM7 L hL s hs (by omega)
 have hrin:=zj7 hs h2
 have hro:=zb1 (L:=L) s
 have hre:=zf7 (L:=L) (s:=s)
 have ho:=hs.opn
 have hM:ze5 L (zg1 L rec 4) s=if(yQ L s).err=0 then((opsF L zl1 (rec 5) L.length (rec 5 (yQ L s))).1,outF (opsF L zl1 (rec 5) L.length (rec 5 (yQ L s))).2)else(zeroE,outF (yQ L s)):=rfl
 generalize ze5 L (zg1 L rec 4) s=M at hM⊢
 generalize yQ L s=s1 at hr hrin hro hre hM
 have eo:=zC7 (o:=s1.opn) (by omega) (by omega)
 refine iV 1 func258 ntmps258 results258 fun c hc hb=> ?_
 by_cases q1:s1.err=0
 rotate_left
 .have q1':(s1.err==0)=false:=by simpa using q1
  rw[if_neg q1]at hM
  rw[q1']at hr
  refine zA ?_
  simp[go_sem]
  refine zK hr cB rd_1 rfl ?_
  simp[go_sem,rB,eo]
  exact zy1 (e:=zeroE) (s:=outF s1) hM
 have q1':(s1.err==0)=true:=by simpa using q1
 rw[if_pos q1]at hM
 rw[q1']at hr
 have hP:=hrec (hre q1).2
 have hx0:=hP.ok 5 s1 hrin hro
 have hc0:=hP.prod s1 hrin hro
 generalize rec 5 s1=x0 at hx0 hc0 hM
 have hany:=zU7 L hL x0.2 hx0.rin zl1 (by decide)
 obtain⟨N,hN⟩:=eX L.length
 rw[hN]at hM
 refine zA ?_
 simp[go_sem]
 refine zK hr cB rd_1 rfl ?_
 simp[go_sem]
 refine wX hc0 cB rd_1 ?_
 simp[go_sem]
 refine zK hany cB (zM ⟨zX,trivial⟩) rfl ?_
 simp[go_sem]
 refine zL (S:=PR) [0,2,3,4] (fun x=> [.ptr 0 0,.ptr 1 0,.ptr 2 0,.str (anyF L x.2 zl1)]) (fun x=> [rB L x.2,zB,.box x.1.row]) (fun x=>N - x.2.at_) (fun x=>PI L s1 x/\ ∃n,N<=n+x.2.at_/\((opsF L zl1 (rec 5) n x).1,outF (opsF L zl1 (rec 5) n x).2)=M) hc hb x0 ⟨hx0,N,by omega,hM.symm⟩ ?_ ?_
 .exact at_n 3 (by simp[go_sem,zB]) rfl (by simp[rB,zB,ltOb,ltC,ltK,GExpr.row_eq]) (by decide) (zG (by simp[go_sem]) rfl)
 rintro x ⟨hx,n,hn,hinv⟩
 have hxi:=hx.rin.at_
 have hany:=zU7 L hL x.2 hx.rin zl1 (by decide)
 have htok:=zq2 L hL x.2 hx.rin
 have hxo:=hx.opn
 by_cases q:anyF L x.2 zl1= []
 .have hxM:M=(x.1,outF x.2):=by
   cases n with
   |zero=>exact hinv.symm
   |succ n=>rw[opsF,if_pos q]at hinv;exact hinv.symm
  have eo2:IntKind.i64.wrap (x.2.opn - 1)=x.2.opn - 1:=by rw[hxo];exact eo
  refine zA ?_
  simp[go_sem,q,rB,eo2]
  exact xY (s:=outF x.2) hxM
 obtain⟨n,rfl⟩: ∃m,n=m+1:=⟨n - 1,by omega⟩
 rw[opsF,if_neg q]at hinv
 have hi:=zB3 q
 have hnx:=hx.rin.next hL hi
 have hy:=hP.ok 5 (zO x.2) hnx (by show x.2.opn=_;rw[hxo,hro])
 have hcy:=hP.prod (zO x.2) hnx (by show x.2.opn=_;rw[hxo,hro])
 generalize rec 5 (zO x.2)=y at hy hcy hinv
 have hup:=hy.up
 rw[za4]at hup
 have hz:PI L s1 (opF (tokF L x.2).place (anyF L x.2 zl1) [x.1,y.1] y.2):=zK0 _ _ hy.rin (by rw[hy.opn];exact hxo) (by have:=hx.up;omega) (fun he=>(hx.err (hy.err he).1).1) (by simp) (fun e he=>by
  simp only[Ag,Ba,or_false]at he
  rcases he with rfl|rfl
  .exact hx.wide
  .exact hy.wide)
 have hop:=op_w L y.2 (tokF L x.2).place (anyF L x.2 zl1) [x.1,y.1] (by simp) (fun e he=>by
  simp only[Ag,Ba,or_false]at he
  rcases he with rfl|rfl
  .exact hx.wide
  .exact hy.wide) (fun he=>by
   have h1:=(hy.err he).2
   have h2:=(hx.err (hy.err he).1).2
   simp only[xZ]
   omega)
 have hzat:(opF (tokF L x.2).place (anyF L x.2 zl1) [x.1,y.1] y.2).2.at_=y.2.at_:=zM2 _ _ _ _
 generalize opF (tokF L x.2).place (anyF L x.2 zl1) [x.1,y.1] y.2=z at hz hop hinv hzat
 have hany2:=zU7 L hL z.2 hz.rin zl1 (by decide)
 have hzi:=hz.rin.at_
 have hl:=hL.len
 have ei:IntKind.i64.wrap ((x.2.at_:Int)+1)=((x.2.at_+1:Nat):Int):=by rw[i64_id (by omega) (by omega)];omega
 have q':(anyF L x.2 zl1).isEmpty=false:=by simpa using q
 refine zA ?_
 simp[go_sem,q']
 refine zK htok cB rd_1 rfl ?_
 simp[go_sem,rB,ei]
 simp only[Al,Br,GExpr.row_eq]at hop
 refine za0 [(3,1),(5,3),(7,3)] 1 3 (by simp) (by kernel_rfl) (by kernel_rfl) ?_
 simp[go_sem]
 refine zr1 hcy cB rd_1 ?_
 simp[go_sem,GExpr.row_eq]
 refine zr1 hop cB (zM ⟨zC rfl,zC rfl,zX,trivial⟩) ?_
 simp[go_sem,GExpr.row_eq]
 refine zK hany2 cB (zM ⟨zX,trivial⟩) rfl ?_
 simp[go_sem]
 refine zI z ⟨by omega,⟨hz,n,by omega,hinv⟩, ?_⟩
 exact at_n 3 (by simp[go_sem,rB,zB,GExpr.row_eq]) rfl (by simp[zB,ltOb,ltC,ltK,GExpr.row_eq]) (by decide) (zG (by simp[go_sem]) rfl)
theorem xR7 (L:List GToken) (hL:LIn L) (rec:Nat->RS->PR) (s:RS) (hs:RIn L s) (h2:s.opn<=200) (hrec:s.opn+1<=200->PW L rec (s.opn+1)):
  VCalls prog 259 [.ptr 0 0] [rB L s] (RR L (ze5 L (zg1 L rec 5) s)):=by
 have hr:=zM7 L hL s hs (by omega)
 have hrin:=zj7 hs h2
 have hro:=zb1 (L:=L) s
 have hre:=zf7 (L:=L) (s:=s)
 have ho:=hs.opn
 have hM:ze5 L (zg1 L rec 5) s=if(yQ L s).err=0 then((opsF L zl0 (rec 6) L.length (rec 6 (yQ L s))).1,outF (opsF L zl0 (rec 6) L.length (rec 6 (yQ L s))).2)else(zeroE,outF (yQ L s)):=rfl
 generalize ze5 L (zg1 L rec 5) s=M at hM⊢
 generalize yQ L s=s1 at hr hrin hro hre hM
 have eo:=zC7 (o:=s1.opn) (by omega) (by omega)
 refine iV 1 func259 ntmps259 results259 fun c hc hb=> ?_
 by_cases q1:s1.err=0
 rotate_left
 .have q1':(s1.err==0)=false:=by simpa using q1
  rw[if_neg q1]at hM
  rw[q1']at hr
  refine zA ?_
  simp[go_sem]
  refine zK hr cB rd_1 rfl ?_
  simp[go_sem,rB,eo]
  exact zy1 (e:=zeroE) (s:=outF s1) hM
 have q1':(s1.err==0)=true:=by simpa using q1
 rw[if_pos q1]at hM
 rw[q1']at hr
 have hP:=hrec (hre q1).2
 have hx0:=hP.ok 6 s1 hrin hro
 have hc0:=hP.unary s1 hrin hro
 generalize rec 6 s1=x0 at hx0 hc0 hM
 have hany:=zU7 L hL x0.2 hx0.rin zl0 (by decide)
 obtain⟨N,hN⟩:=eX L.length
 rw[hN]at hM
 refine zA ?_
 simp[go_sem]
 refine zK hr cB rd_1 rfl ?_
 simp[go_sem]
 refine wX hc0 cB rd_1 ?_
 simp[go_sem]
 refine zK hany cB (zM ⟨zX,trivial⟩) rfl ?_
 simp[go_sem]
 refine zL (S:=PR) [0,2,3,4] (fun x=> [.ptr 0 0,.ptr 1 0,.ptr 2 0,.str (anyF L x.2 zl0)]) (fun x=> [rB L x.2,zB,.box x.1.row]) (fun x=>N - x.2.at_) (fun x=>PI L s1 x/\ ∃n,N<=n+x.2.at_/\((opsF L zl0 (rec 6) n x).1,outF (opsF L zl0 (rec 6) n x).2)=M) hc hb x0 ⟨hx0,N,by omega,hM.symm⟩ ?_ ?_
 .exact at_n 3 (by simp[go_sem,zB]) rfl (by simp[rB,zB,ltOb,ltC,ltK,GExpr.row_eq]) (by decide) (zG (by simp[go_sem]) rfl)
 rintro x ⟨hx,n,hn,hinv⟩
 have hxi:=hx.rin.at_
 have hany:=zU7 L hL x.2 hx.rin zl0 (by decide)
 have htok:=zq2 L hL x.2 hx.rin
 have hxo:=hx.opn
 by_cases q:anyF L x.2 zl0= []
 .have hxM:M=(x.1,outF x.2):=by
   cases n with
   |zero=>exact hinv.symm
   |succ n=>rw[opsF,if_pos q]at hinv;exact hinv.symm
  have eo2:IntKind.i64.wrap (x.2.opn - 1)=x.2.opn - 1:=by rw[hxo];exact eo
  refine zA ?_
  simp[go_sem,q,rB,eo2]
  exact xY (s:=outF x.2) hxM
 obtain⟨n,rfl⟩: ∃m,n=m+1:=⟨n - 1,by omega⟩
 rw[opsF,if_neg q]at hinv
 have hi:=zB3 q
 have hnx:=hx.rin.next hL hi
 have hy:=hP.ok 6 (zO x.2) hnx (by show x.2.opn=_;rw[hxo,hro])
 have hcy:=hP.unary (zO x.2) hnx (by show x.2.opn=_;rw[hxo,hro])
 generalize rec 6 (zO x.2)=y at hy hcy hinv
 have hup:=hy.up
 rw[za4]at hup
 have hz:PI L s1 (opF (tokF L x.2).place (anyF L x.2 zl0) [x.1,y.1] y.2):=zK0 _ _ hy.rin (by rw[hy.opn];exact hxo) (by have:=hx.up;omega) (fun he=>(hx.err (hy.err he).1).1) (by simp) (fun e he=>by
  simp only[Ag,Ba,or_false]at he
  rcases he with rfl|rfl
  .exact hx.wide
  .exact hy.wide)
 have hop:=op_w L y.2 (tokF L x.2).place (anyF L x.2 zl0) [x.1,y.1] (by simp) (fun e he=>by
  simp only[Ag,Ba,or_false]at he
  rcases he with rfl|rfl
  .exact hx.wide
  .exact hy.wide) (fun he=>by
   have h1:=(hy.err he).2
   have h2:=(hx.err (hy.err he).1).2
   simp only[xZ]
   omega)
 have hzat:(opF (tokF L x.2).place (anyF L x.2 zl0) [x.1,y.1] y.2).2.at_=y.2.at_:=zM2 _ _ _ _
 generalize opF (tokF L x.2).place (anyF L x.2 zl0) [x.1,y.1] y.2=z at hz hop hinv hzat
 have hany2:=zU7 L hL z.2 hz.rin zl0 (by decide)
 have hzi:=hz.rin.at_
 have hl:=hL.len
 have ei:IntKind.i64.wrap ((x.2.at_:Int)+1)=((x.2.at_+1:Nat):Int):=by rw[i64_id (by omega) (by omega)];omega
 have q':(anyF L x.2 zl0).isEmpty=false:=by simpa using q
 refine zA ?_
 simp[go_sem,q']
 refine zK htok cB rd_1 rfl ?_
 simp[go_sem,rB,ei]
 simp only[Al,Br,GExpr.row_eq]at hop
 refine za0 [(3,1),(5,3),(7,3)] 1 3 (by simp) (by kernel_rfl) (by kernel_rfl) ?_
 simp[go_sem]
 refine zr1 hcy cB rd_1 ?_
 simp[go_sem,GExpr.row_eq]
 refine zr1 hop cB (zM ⟨zC rfl,zC rfl,zX,trivial⟩) ?_
 simp[go_sem,GExpr.row_eq]
 refine zK hany2 cB (zM ⟨zX,trivial⟩) rfl ?_
 simp[go_sem]
 refine zI z ⟨by omega,⟨hz,n,by omega,hinv⟩, ?_⟩
 exact at_n 3 (by simp[go_sem,rB,zB,GExpr.row_eq]) rfl (by simp[zB,ltOb,ltC,ltK,GExpr.row_eq]) (by decide) (zG (by simp[go_sem]) rfl)
theorem yB3 (L:List GToken) (rec:Nat->RS->PR) (o:Int) (hP:PW L rec o) (s:RS) (hs:RIn L s) (ho:s.opn=o):VCalls prog 234 [.ptr 0 0,.int .i64 0] [rB L s] (RR L (rec 1 s)):=by
 have hc0:=hP.chain 1 (A2 _) s hs ho
 generalize rec 1 s=x at hc0⊢
 refine iW 1 func234 ntmps234 results234 fun c hc hb=>zN ?_
 simp[go_sem]
 refine wX hc0 cB (zM ⟨zC rfl,trivial⟩) ?_
 simp[go_sem,GExpr.row_eq]
 exact xY rfl
theorem yB4 (L:List GToken) (rec:Nat->RS->PR) (o:Int) (hP:PW L rec o) (s:RS) (hs:RIn L s) (ho:s.opn=o):VCalls prog 234 [.ptr 0 0,.int .i64 1] [rB L s] (RR L (rec 2 s)):=by
 have hc0:=hP.not s hs ho
 generalize rec 2 s=x at hc0⊢
 refine iW 1 func234 ntmps234 results234 fun c hc hb=>zN ?_
 simp[go_sem]
 refine wX hc0 cB rd_1 ?_
 simp[go_sem,GExpr.row_eq]
 exact xY rfl
theorem yU3 (L:List GToken) (s:RS) (w:List UInt8) (hw:w≠ []):(anyF L s [w]= []↔isT L w s=false)/\(isT L w s=true->anyF L s [w]=w):=by
 unfold anyF
 cases isT L w s
 .simp[anyF]
 .simp[hw]
theorem xm6 (L:List GToken) (hL:LIn L) (rec:Nat->RS->PR) (s:RS) (hs:RIn L s) (h2:s.opn<=200) (hrec:s.opn+1<=200->PW L rec (s.opn+1)):
  VCalls prog 207 [.ptr 0 0,.int .i64 0] [rB L s] (RR L (ze5 L (zg1 L rec 0) s)):=by
 have hr:=zM7 L hL s hs (by omega)
 have hrin:=zj7 hs h2
 have hro:=zb1 (L:=L) s
 have hre:=zf7 (L:=L) (s:=s)
 have ho:=hs.opn
 have hM:ze5 L (zg1 L rec 0) s=if(yQ L s).err=0 then((opsF L [wOR] (rec 1) L.length (rec 1 (yQ L s))).1,outF (opsF L [wOR] (rec 1) L.length (rec 1 (yQ L s))).2)else(zeroE,outF (yQ L s)):=rfl
 generalize ze5 L (zg1 L rec 0) s=M at hM⊢
 generalize yQ L s=s1 at hr hrin hro hre hM
 have eo:=zC7 (o:=s1.opn) (by omega) (by omega)
 have hlev:=yF0
 refine iV 1 func207 ntmps207 results207 fun c hc hb=> ?_
 by_cases q1:s1.err=0
 rotate_left
 .have q1':(s1.err==0)=false:=by simpa using q1
  rw[if_neg q1]at hM
  rw[q1']at hr
  refine zA ?_
  simp[go_sem]
  refine zK hr cB rd_1 rfl ?_
  simp[go_sem,rB,eo]
  exact zy1 (e:=zeroE) (s:=outF s1) hM
 have q1':(s1.err==0)=true:=by simpa using q1
 rw[if_pos q1]at hM
 rw[q1']at hr
 have hP:=hrec (hre q1).2
 have hx0:=hP.ok 1 s1 hrin hro
 have hc0:=yB3 L rec _ hP s1 hrin hro
 generalize rec 1 s1=x0 at hx0 hc0 hM
 obtain⟨N,hN⟩:=eX L.length
 rw[hN]at hM
 refine zA ?_
 simp[go_sem]
 refine zK hr cB rd_1 rfl ?_
 simp[go_sem]
 refine wX hc0 cB (zM ⟨zC rfl,trivial⟩) ?_
 simp[go_sem]
 refine zL (S:=PR) [0,1,4,5] (fun x=> [.ptr 0 0,.int .i64 0,.ptr 1 0,.ptr 2 0]) (fun x=> [rB L x.2,zB,.box x.1.row]) (fun x=>N - x.2.at_) (fun x=>PI L s1 x/\ ∃n,N<=n+x.2.at_/\((opsF L [wOR] (rec 1) n x).1,outF (opsF L [wOR] (rec 1) n x).2)=M) hc hb x0 ⟨hx0,N,by omega,hM.symm⟩ ?_ ?_
 .exact at_n 3 (by simp[go_sem,zB]) rfl (by simp[rB,zB,ltOb,ltC,ltK,GExpr.row_eq]) (by decide) (zG (by simp[go_sem]) rfl)
 rintro x ⟨hx,n,hn,hinv⟩
 have hxi:=hx.rin.at_
 have his:=is_w L hL x.2 hx.rin wOR
 have htok:=zq2 L hL x.2 hx.rin
 have hxo:=hx.opn
 obtain⟨ha1,ha2⟩:=yU3 L x.2 wOR (by decide)
 by_cases q:isT L wOR x.2=false
 .rw[q]at his
  have hxM:M=(x.1,outF x.2):=by
   cases n with
   |zero=>exact hinv.symm
   |succ n=>rw[opsF,if_pos (ha1.2 q)]at hinv;exact hinv.symm
  have eo2:IntKind.i64.wrap (x.2.opn - 1)=x.2.opn - 1:=by rw[hxo];exact eo
  refine zA ?_
  simp[go_sem]
  refine zD hlev cB (zH rfl) rfl ?_
  simp[go_sem]
  refine zK his cB (zM ⟨zC rfl,trivial⟩) rfl ?_
  simp[go_sem,rB,eo2]
  exact xY (s:=outF x.2) hxM
 have q:isT L wOR x.2=true:=by simpa using q
 rw[q]at his
 obtain⟨n,rfl⟩: ∃m,n=m+1:=⟨n - 1,by omega⟩
 have hany:=ha2 q
 rw[opsF,if_neg (by rw[hany];decide),hany]at hinv
 have hnx:=hx.rin.next hL q
 have hy:=hP.ok 1 (zO x.2) hnx (by show x.2.opn=_;rw[hxo,hro])
 have hcy:=yB3 L rec _ hP (zO x.2) hnx (by show x.2.opn=_;rw[hxo,hro])
 generalize rec 1 (zO x.2)=y at hy hcy hinv
 have hup:=hy.up
 rw[za4]at hup
 have hwy: ∀e∈ [x.1,y.1],Wide e:=fun e he=>by
  simp only[Ag,Ba,or_false]at he
  rcases he with rfl|rfl
  .exact hx.wide
  .exact hy.wide
 have hz:PI L s1 (opF (tokF L x.2).place wOR [x.1,y.1] y.2):=zK0 _ _ hy.rin (by rw[hy.opn];exact hxo) (by have:=hx.up;omega) (fun he=>(hx.err (hy.err he).1).1) (by simp) hwy
 have hop:=op_w L y.2 (tokF L x.2).place wOR [x.1,y.1] (by simp) hwy (fun he=>by
   have h1:=(hy.err he).2
   have h2:=(hx.err (hy.err he).1).2
   simp only[xZ]
   omega)
 have hzat:(opF (tokF L x.2).place wOR [x.1,y.1] y.2).2.at_=y.2.at_:=zM2 _ _ _ _
 generalize opF (tokF L x.2).place wOR [x.1,y.1] y.2=z at hz hop hinv hzat
 have hzi:=hz.rin.at_
 have hl:=hL.len
 have ei:IntKind.i64.wrap ((x.2.at_:Int)+1)=((x.2.at_+1:Nat):Int):=by rw[i64_id (by omega) (by omega)];omega
 simp only[Al,Br,GExpr.row_eq]at hop
 refine zA ?_
 simp[go_sem]
 refine zD hlev cB (zH rfl) rfl ?_
 simp[go_sem]
 refine zK his cB (zM ⟨zC rfl,trivial⟩) rfl ?_
 simp[go_sem]
 refine zK htok cB rd_1 rfl ?_
 simp[go_sem,rB,ei]
 refine za0 [(2,0),(11,3),(13,3)] 1 3 (by simp) (by kernel_rfl) (by kernel_rfl) ?_
 simp[go_sem]
 refine zW hlev cB (fun _=>zH rfl) rfl ?_
 simp[go_sem]
 refine zr1 hcy cB (zM ⟨zC rfl,trivial⟩) ?_
 simp[go_sem,GExpr.row_eq]
 refine zr1 hop cB (zM ⟨zC rfl,zC rfl,zX,trivial⟩) ?_
 simp[go_sem,GExpr.row_eq]
 refine zI z ⟨by omega,⟨hz,n,by omega,hinv⟩, ?_⟩
 exact at_n 3 (by simp[go_sem,rB,zB,GExpr.row_eq]) rfl (by simp[zB,ltOb,ltC,ltK,GExpr.row_eq]) (by decide) (zG (by simp[go_sem]) rfl)
theorem xm7 (L:List GToken) (hL:LIn L) (rec:Nat->RS->PR) (s:RS) (hs:RIn L s) (h2:s.opn<=200) (hrec:s.opn+1<=200->PW L rec (s.opn+1)):
  VCalls prog 207 [.ptr 0 0,.int .i64 1] [rB L s] (RR L (ze5 L (zg1 L rec 1) s)):=by
 have hr:=zM7 L hL s hs (by omega)
 have hrin:=zj7 hs h2
 have hro:=zb1 (L:=L) s
 have hre:=zf7 (L:=L) (s:=s)
 have ho:=hs.opn
 have hM:ze5 L (zg1 L rec 1) s=if(yQ L s).err=0 then((opsF L [wAND] (rec 2) L.length (rec 2 (yQ L s))).1,outF (opsF L [wAND] (rec 2) L.length (rec 2 (yQ L s))).2)else(zeroE,outF (yQ L s)):=rfl
 generalize ze5 L (zg1 L rec 1) s=M at hM⊢
 generalize yQ L s=s1 at hr hrin hro hre hM
 have eo:=zC7 (o:=s1.opn) (by omega) (by omega)
 have hlev:=yF0
 refine iV 1 func207 ntmps207 results207 fun c hc hb=> ?_
 by_cases q1:s1.err=0
 rotate_left
 .have q1':(s1.err==0)=false:=by simpa using q1
  rw[if_neg q1]at hM
  rw[q1']at hr
  refine zA ?_
  simp[go_sem]
  refine zK hr cB rd_1 rfl ?_
  simp[go_sem,rB,eo]
  exact zy1 (e:=zeroE) (s:=outF s1) hM
 have q1':(s1.err==0)=true:=by simpa using q1
 rw[if_pos q1]at hM
 rw[q1']at hr
 have hP:=hrec (hre q1).2
 have hx0:=hP.ok 2 s1 hrin hro
 have hc0:=yB4 L rec _ hP s1 hrin hro
 generalize rec 2 s1=x0 at hx0 hc0 hM
 obtain⟨N,hN⟩:=eX L.length
 rw[hN]at hM
 refine zA ?_
 simp[go_sem]
 refine zK hr cB rd_1 rfl ?_
 simp[go_sem]
 refine wX hc0 cB (zM ⟨zC rfl,trivial⟩) ?_
 simp[go_sem]
 refine zL (S:=PR) [0,1,4,5] (fun x=> [.ptr 0 0,.int .i64 1,.ptr 1 0,.ptr 2 0]) (fun x=> [rB L x.2,zB,.box x.1.row]) (fun x=>N - x.2.at_) (fun x=>PI L s1 x/\ ∃n,N<=n+x.2.at_/\((opsF L [wAND] (rec 2) n x).1,outF (opsF L [wAND] (rec 2) n x).2)=M) hc hb x0 ⟨hx0,N,by omega,hM.symm⟩ ?_ ?_
 .exact at_n 3 (by simp[go_sem,zB]) rfl (by simp[rB,zB,ltOb,ltC,ltK,GExpr.row_eq]) (by decide) (zG (by simp[go_sem]) rfl)
 rintro x ⟨hx,n,hn,hinv⟩
 have hxi:=hx.rin.at_
 have his:=is_w L hL x.2 hx.rin wAND
 have htok:=zq2 L hL x.2 hx.rin
 have hxo:=hx.opn
 obtain⟨ha1,ha2⟩:=yU3 L x.2 wAND (by decide)
 by_cases q:isT L wAND x.2=false
 .rw[q]at his
  have hxM:M=(x.1,outF x.2):=by
   cases n with
   |zero=>exact hinv.symm
   |succ n=>rw[opsF,if_pos (ha1.2 q)]at hinv;exact hinv.symm
  have eo2:IntKind.i64.wrap (x.2.opn - 1)=x.2.opn - 1:=by rw[hxo];exact eo
  refine zA ?_
  simp[go_sem]
  refine zD hlev cB (zH rfl) rfl ?_
  simp[go_sem]
  refine zK his cB (zM ⟨zC rfl,trivial⟩) rfl ?_
  simp[go_sem,rB,eo2]
  exact xY (s:=outF x.2) hxM
 have q:isT L wAND x.2=true:=by simpa using q
 rw[q]at his
 obtain⟨n,rfl⟩: ∃m,n=m+1:=⟨n - 1,by omega⟩
 have hany:=ha2 q
 rw[opsF,if_neg (by rw[hany];decide),hany]at hinv
 have hnx:=hx.rin.next hL q
 have hy:=hP.ok 2 (zO x.2) hnx (by show x.2.opn=_;rw[hxo,hro])
 have hcy:=yB4 L rec _ hP (zO x.2) hnx (by show x.2.opn=_;rw[hxo,hro])
 generalize rec 2 (zO x.2)=y at hy hcy hinv
 have hup:=hy.up
 rw[za4]at hup
 have hwy: ∀e∈ [x.1,y.1],Wide e:=fun e he=>by
  simp only[Ag,Ba,or_false]at he
  rcases he with rfl|rfl
  .exact hx.wide
  .exact hy.wide
 have hz:PI L s1 (opF (tokF L x.2).place wAND [x.1,y.1] y.2):=zK0 _ _ hy.rin (by rw[hy.opn];exact hxo) (by have:=hx.up;omega) (fun he=>(hx.err (hy.err he).1).1) (by simp) hwy
 have hop:=op_w L y.2 (tokF L x.2).place wAND [x.1,y.1] (by simp) hwy (fun he=>by
   have h1:=(hy.err he).2
   have h2:=(hx.err (hy.err he).1).2
   simp only[xZ]
   omega)
 have hzat:(opF (tokF L x.2).place wAND [x.1,y.1] y.2).2.at_=y.2.at_:=zM2 _ _ _ _
 generalize opF (tokF L x.2).place wAND [x.1,y.1] y.2=z at hz hop hinv hzat
 have hzi:=hz.rin.at_
 have hl:=hL.len
 have ei:IntKind.i64.wrap ((x.2.at_:Int)+1)=((x.2.at_+1:Nat):Int):=by rw[i64_id (by omega) (by omega)];omega
 simp only[Al,Br,GExpr.row_eq]at hop
 refine zA ?_
 simp[go_sem]
 refine zD hlev cB (zH rfl) rfl ?_
 simp[go_sem]
 refine zK his cB (zM ⟨zC rfl,trivial⟩) rfl ?_
 simp[go_sem]
 refine zK htok cB rd_1 rfl ?_
 simp[go_sem,rB,ei]
 refine za0 [(2,0),(11,3),(13,3)] 1 3 (by simp) (by kernel_rfl) (by kernel_rfl) ?_
 simp[go_sem]
 refine zW hlev cB (fun _=>zH rfl) rfl ?_
 simp[go_sem]
 refine zr1 hcy cB (zM ⟨zC rfl,trivial⟩) ?_
 simp[go_sem,GExpr.row_eq]
 refine zr1 hop cB (zM ⟨zC rfl,zC rfl,zX,trivial⟩) ?_
 simp[go_sem,GExpr.row_eq]
 refine zI z ⟨by omega,⟨hz,n,by omega,hinv⟩, ?_⟩
 exact at_n 3 (by simp[go_sem,rB,zB,GExpr.row_eq]) rfl (by simp[zB,ltOb,ltC,ltK,GExpr.row_eq]) (by decide) (zG (by simp[go_sem]) rfl)
theorem yz7 {x:GExpr} (h:Wide x): ∀e∈ [x],Wide e:=fun e he=>by
 simp only[Ag,Ba,or_false]at he
 subst he
 exact h
theorem xT5 {x y:GExpr} (h:Wide x) (h2:Wide y): ∀e∈ [x,y],Wide e:=fun e he=>by
 simp only[Ag,Ba,or_false]at he
 rcases he with rfl|rfl
 .exact h
 .exact h2
theorem xV8 (L:List GToken) (hL:LIn L) (rec:Nat->RS->PR) (s:RS) (hs:RIn L s) (h2:s.opn<=200) (hrec:s.opn+1<=200->PW L rec (s.opn+1)):
  VCalls prog 246 [.ptr 0 0] [rB L s] (RR L (ze5 L (zg1 L rec 2) s)):=by
 have hr:=zM7 L hL s hs (by omega)
 have hrin:=zj7 hs h2
 have hro:=zb1 (L:=L) s
 have hre:=zf7 (L:=L) (s:=s)
 have ho:=hs.opn
 have hM:ze5 L (zg1 L rec 2) s=if(yQ L s).err=0 then((notK L (rec 2) (rec 3) (yQ L s)).1,outF (notK L (rec 2) (rec 3) (yQ L s)).2)else(zeroE,outF (yQ L s)):=rfl
 generalize ze5 L (zg1 L rec 2) s=M at hM⊢
 generalize yQ L s=s1 at hr hrin hro hre hM
 have eo:=zC7 (o:=s1.opn) (by omega) (by omega)
 refine iW 1 func246 ntmps246 results246 fun c hc hb=>zN ?_
 by_cases q1:s1.err=0
 rotate_left
 .have q1':(s1.err==0)=false:=by simpa using q1
  rw[if_neg q1]at hM
  rw[q1']at hr
  simp[go_sem]
  refine zK hr cB rd_1 rfl ?_
  simp[go_sem,rB,eo]
  exact zy1 (e:=zeroE) (s:=outF s1) hM
 have q1':(s1.err==0)=true:=by simpa using q1
 rw[if_pos q1]at hM
 rw[q1']at hr
 have hP:=hrec (hre q1).2
 have htok:=zq2 L hL s1 hrin
 have heat:=yb2 L hL s1 hrin wNOT
 unfold notK at hM
 unfold eatF at heat
 by_cases q:isT L wNOT s1=true
 .rw[if_pos q]at hM
  rw[if_pos q,q]at heat
  have hnx:=hrin.next hL q
  have hy:=hP.ok 2 (zO s1) hnx hro
  have hcy:=hP.not (zO s1) hnx hro
  generalize rec 2 (zO s1)=y at hy hcy hM
  have hop:=op_w L y.2 (tokF L s1).place wNOT [y.1] (by simp) (yz7 hy.wide) (fun he=>by
   have h1:=(hy.err he).2
   simp only[xZ]
   omega)
  have hzo:(opF (tokF L s1).place wNOT [y.1] y.2).2.opn=s1.opn:=by
   show(opS _ _ _ y.2).opn=_
   rw[zZ1,hy.opn];rfl
  generalize opF (tokF L s1).place wNOT [y.1] y.2=z at hop hM hzo
  have eo2:IntKind.i64.wrap (z.2.opn - 1)=z.2.opn - 1:=by rw[hzo];exact eo
  simp only[Al,Br,GExpr.row_eq]at hop
  simp[go_sem]
  refine zK hr cB rd_1 rfl ?_
  simp[go_sem]
  refine zK htok cB rd_1 rfl ?_
  simp[go_sem]
  refine zK heat cB (zM ⟨zC rfl,trivial⟩) rfl ?_
  simp[go_sem]
  refine wX hcy cB rd_1 ?_
  simp[go_sem,GExpr.row_eq]
  refine wX hop cB (zM ⟨zC rfl,zC rfl,zX,trivial⟩) ?_
  simp[go_sem,rB,GExpr.row_eq,eo2]
  exact xY (s:=outF z.2) hM
 .have q:isT L wNOT s1=false:=by simpa using q
  rw[if_neg (by rw[q];decide)]at hM
  rw[if_neg (by rw[q];decide),q]at heat
  have hy:=hP.ok 3 s1 hrin hro
  have hcy:=hP.cmp s1 hrin hro
  generalize rec 3 s1=z at hy hcy hM
  have eo2:IntKind.i64.wrap (z.2.opn - 1)=z.2.opn - 1:=by rw[hy.opn];exact eo
  simp[go_sem]
  refine zK hr cB rd_1 rfl ?_
  simp[go_sem]
  refine zK htok cB rd_1 rfl ?_
  simp[go_sem]
  refine zK heat cB (zM ⟨zC rfl,trivial⟩) rfl ?_
  simp[go_sem]
  refine wX hcy cB rd_1 ?_
  simp[go_sem,rB,GExpr.row_eq,eo2]
  exact xY (s:=outF z.2) hM
theorem xl4 (L:List GToken) (s:RS) (w:List UInt8) (ws:List (List UInt8)) (h:isT L w s=true):anyF L s (w::ws)=w:=by unfold anyF;rw[if_pos h]
theorem xc5 (L:List GToken) (s:RS) (w:List UInt8) (ws:List (List UInt8)) (h:isT L w s=false):anyF L s (w::ws)=anyF L s ws:=by unfold anyF;rw[if_neg (by rw[h];decide)];cases ws<;>rfl
theorem xi6: ∀w∈signsC,w≠ []:=by decide
theorem xU9 (L:List GToken) (hL:LIn L) (rec:Nat->RS->PR) (s:RS) (hs:RIn L s) (h2:s.opn<=200) (hrec:s.opn+1<=200->PW L rec (s.opn+1)):
  VCalls prog 255 [.ptr 0 0] [rB L s] (RR L (ze5 L (zg1 L rec 3) s)):=by
 have hr:=zM7 L hL s hs (by omega)
 have hrin:=zj7 hs h2
 have hro:=zb1 (L:=L) s
 have hre:=zf7 (L:=L) (s:=s)
 have ho:=hs.opn
 have hM:ze5 L (zg1 L rec 3) s=if(yQ L s).err=0 then((cmpJ L (rec 4) (rec 4 (yQ L s))).1,outF (cmpJ L (rec 4) (rec 4 (yQ L s))).2)else(zeroE,outF (yQ L s)):=rfl
 generalize ze5 L (zg1 L rec 3) s=M at hM⊢
 generalize yQ L s=s1 at hr hrin hro hre hM
 have eo:=zC7 (o:=s1.opn) (by omega) (by omega)
 refine iV 1 func255 ntmps255 results255 fun c hc hb=> ?_
 by_cases q1:s1.err=0
 rotate_left
 .have q1':(s1.err==0)=false:=by simpa using q1
  rw[if_neg q1]at hM
  rw[q1']at hr
  refine zA ?_
  simp[go_sem]
  refine zK hr cB rd_1 rfl ?_
  simp[go_sem,rB,eo]
  exact zy1 (e:=zeroE) (s:=outF s1) hM
 have q1':(s1.err==0)=true:=by simpa using q1
 rw[if_pos q1]at hM
 rw[q1']at hr
 have hP:=hrec (hre q1).2
 have hx:=hP.ok 4 s1 hrin hro
 have hcx:=hP.sum s1 hrin hro
 generalize rec 4 s1=x at hx hcx hM
 have htok:=zq2 L hL x.2 hx.rin
 have heat:=yb2 L hL x.2 hx.rin wIS
 have hxo:=hx.opn
 unfold cmpJ at hM
 unfold eatF at heat
 by_cases q:isT L wIS x.2=true
 .rw[if_pos q]at hM
  rw[if_pos q,q]at heat
  have hnx:=hx.rin.next hL q
  have heat2:=yb2 L hL (zO x.2) hnx wNOT
  unfold eatF at heat2
  by_cases q2:isT L wNOT (zO x.2)=true
  .rw[if_pos q2]at hM
   rw[if_pos q2,q2]at heat2
   have hn2:=hnx.next hL q2
   have hmu:=zd4 L hL _ hn2 zq5
   have hmo:=zo1 (L:=L) zq5 (zO (zO x.2))
   have hme:=zi2 (L:=L) (w:=zq5) (s:=zO (zO x.2))
   generalize yD L zq5 (zO (zO x.2))=u at hmu hmo hme hM
   have huo:u.opn=s1.opn:=by rw[hmo];exact hxo
   have eo2:IntKind.i64.wrap (u.opn - 1)=u.opn - 1:=by rw[huo];exact eo
   have hop:=op_w L (outF u) (tokF L x.2).place zQ6 [x.1] (by simp) (yz7 hx.wide) (fun he=>by
    have h1:=(hx.err (hme he).1).2
    simp only[xZ]
    omega)
   have hMM:M=opF (tokF L x.2).place zQ6 [x.1] (outF u):=by rw[hM];unfold opF;rw[yZ1]
   clear hM
   generalize opF (tokF L x.2).place zQ6 [x.1] (outF u)=z at hop hMM
   simp only[Al,Br,GExpr.row_eq]at hop
   refine zA ?_
   simp[go_sem]
   refine zK hr cB rd_1 rfl ?_
   simp[go_sem]
   refine wX hcx cB rd_1 ?_
   simp[go_sem,GExpr.row_eq]
   refine zK htok cB rd_1 rfl ?_
   simp[go_sem]
   refine zK heat cB (zM ⟨zC rfl,trivial⟩) rfl ?_
   simp[go_sem]
   refine zK heat2 cB (zM ⟨zC rfl,trivial⟩) rfl ?_
   simp[go_sem]
   refine zK hmu cB (zM ⟨zC rfl,trivial⟩) rfl ?_
   simp[go_sem,rB,eo2]
   refine wX (s:=outF u) hop cB (zM ⟨zC rfl,zC rfl,zX,trivial⟩) ?_
   simp[go_sem,GExpr.row_eq]
   exact xY hMM
  .have q2:isT L wNOT (zO x.2)=false:=by simpa using q2
   rw[if_neg (by rw[q2];decide)]at hM
   rw[if_neg (by rw[q2];decide),q2]at heat2
   have hmu:=zd4 L hL _ hnx zq5
   have hmo:=zo1 (L:=L) zq5 (zO x.2)
   have hme:=zi2 (L:=L) (w:=zq5) (s:=zO x.2)
   generalize yD L zq5 (zO x.2)=u at hmu hmo hme hM
   have huo:u.opn=s1.opn:=by rw[hmo];exact hxo
   have eo2:IntKind.i64.wrap (u.opn - 1)=u.opn - 1:=by rw[huo];exact eo
   have hop:=op_w L (outF u) (tokF L x.2).place ya1 [x.1] (by simp) (yz7 hx.wide) (fun he=>by
    have h1:=(hx.err (hme he).1).2
    simp only[xZ]
    omega)
   have hMM:M=opF (tokF L x.2).place ya1 [x.1] (outF u):=by rw[hM];unfold opF;rw[yZ1]
   clear hM
   generalize opF (tokF L x.2).place ya1 [x.1] (outF u)=z at hop hMM
   simp only[Al,Br,GExpr.row_eq]at hop
   refine zA ?_
   simp[go_sem]
   refine zK hr cB rd_1 rfl ?_
   simp[go_sem]
   refine wX hcx cB rd_1 ?_
   simp[go_sem,GExpr.row_eq]
   refine zK htok cB rd_1 rfl ?_
   simp[go_sem]
   refine zK heat cB (zM ⟨zC rfl,trivial⟩) rfl ?_
   simp[go_sem]
   refine zK heat2 cB (zM ⟨zC rfl,trivial⟩) rfl ?_
   simp[go_sem]
   refine zK hmu cB (zM ⟨zC rfl,trivial⟩) rfl ?_
   simp[go_sem,rB,eo2]
   refine wX (s:=outF u) hop cB (zM ⟨zC rfl,zC rfl,zX,trivial⟩) ?_
   simp[go_sem,GExpr.row_eq]
   exact xY hMM
 have q:isT L wIS x.2=false:=by simpa using q
 rw[if_neg (by rw[q];decide)]at hM
 rw[if_neg (by rw[q];decide),q]at heat
 refine zA ?_
 simp[go_sem]
 refine zK hr cB rd_1 rfl ?_
 simp[go_sem]
 refine wX hcx cB rd_1 ?_
 simp[go_sem,GExpr.row_eq]
 refine zK htok cB rd_1 rfl ?_
 simp[go_sem]
 refine zK heat cB (zM ⟨zC rfl,trivial⟩) rfl ?_
 simp[go_sem]
 refine zL (S:=Nat) [0,2,3,4,5,7] (fun i=> [.ptr 0 0,.ptr 1 0,.ptr 2 0,.int .i64 (tokF L x.2).place,.sl .ro (signsC.map fun w=> [V.str w]),.int .i64 (i:Int)]) (fun _=> [rB L x.2,zB,.box x.1.row]) (fun i=>6 - i) (fun i=>i<=6/\anyF L x.2 (signsC.drop i)=anyF L x.2 signsC) hc hb 0 ⟨A3 _,rfl⟩ ?_ ?_
 .exact at_n 3 (by simp[go_sem,zB,GExpr.row_eq]) rfl (by simp[rB,zB,ltOb,ltC,ltK,GExpr.row_eq]) (by decide) ⟨zo4 (by rfl),zo4 (by rfl),zo4 (by rfl),zC rfl,zX,zC rfl,trivial⟩
 rintro i ⟨hi,hinv⟩
 by_cases qi:i<6
 rotate_left
 .obtain rfl:i=6:=by omega
  have ha:anyF L x.2 signsC= []:=by rw[<-hinv];rfl
  rw[if_pos ha]at hM
  have eo2:IntKind.i64.wrap (x.2.opn - 1)=x.2.opn - 1:=by rw[hxo];exact eo
  refine zA ?_
  simp[go_sem,signsC,rB,eo2,GExpr.row_eq]
  exact xY (s:=outF x.2) hM
 have hsl:i<signsC.length:=qi
 obtain⟨w,hw⟩:=eX (signsC[i])
 have hwm:w∈signsC:=hw▸A8 hsl
 have hw0:=xi6 w hwm
 rw[A6 hsl,hw]at hinv
 have heat:=yb2 L hL x.2 hx.rin w
 unfold eatF at heat
 have hi6:decide ((i:Int)<6)=true:=decide_eq_true (by omega)
 have ei:=zV qi (by decide)
 have hsl':(signsC.length:Int)=6:=rfl
 by_cases qw:isT L w x.2=true
 rotate_left
 .have qw:isT L w x.2=false:=by simpa using qw
  rw[xc5 L x.2 w _ qw]at hinv
  rw[if_neg (by rw[qw];decide),qw]at heat
  refine zA ?_
  simp[go_sem,hsl',hi6,hsl,hw]
  refine zJ (by omega) ?_
  simp[go_sem]
  refine zK heat cB (zM ⟨zC rfl,trivial⟩) rfl ?_
  simp[go_sem,ei]
  refine zI (i+1) ⟨by omega,⟨by omega,hinv⟩, ?_⟩
  exact at_n 3 (by simp[go_sem,rB,zB,GExpr.row_eq]) rfl (by simp[rB,zB,ltOb,ltC,ltK,GExpr.row_eq]) (by decide) (zG (by simp[go_sem]) rfl)
 rw[xl4 L x.2 w _ qw]at hinv
 rw[if_neg (by rw[<-hinv];exact hw0),<-hinv]at hM
 rw[if_pos qw,qw]at heat
 have hnx:=hx.rin.next hL qw
 have hy:=hP.ok 4 (zO x.2) hnx (by show x.2.opn=_;rw[hxo,hro])
 have hcy:=hP.sum (zO x.2) hnx (by show x.2.opn=_;rw[hxo,hro])
 generalize rec 4 (zO x.2)=y at hy hcy hM
 have hop:=op_w L y.2 (tokF L x.2).place w [x.1,y.1] (by simp) (xT5 hx.wide hy.wide) (fun he=>by
   have h1:=(hy.err he).2
   have h2:=(hx.err (hy.err he).1).2
   simp only[xZ]
   omega)
 have hzo:(opF (tokF L x.2).place w [x.1,y.1] y.2).2.opn=s1.opn:=by
  show(opS _ _ _ y.2).opn=_
  rw[zZ1,hy.opn];exact hxo
 generalize opF (tokF L x.2).place w [x.1,y.1] y.2=z at hop hM hzo
 have eo2:IntKind.i64.wrap (z.2.opn - 1)=z.2.opn - 1:=by rw[hzo];exact eo
 simp only[Al,Br,GExpr.row_eq]at hop
 refine zA ?_
 simp[go_sem,hsl',hi6,hsl,hw]
 refine zJ (by omega) ?_
 simp[go_sem]
 refine zK heat cB (zM ⟨zC rfl,trivial⟩) rfl ?_
 simp[go_sem]
 refine za0 [(8,3),(10,3)] 1 3 (by simp) (by kernel_rfl) (by kernel_rfl) ?_
 simp[go_sem,hsl,hw]
 refine zr1 hcy cB rd_1 ?_
 simp[go_sem,GExpr.row_eq]
 refine zr1 hop cB (zM ⟨zC rfl,zC rfl,zX,trivial⟩) ?_
 simp[go_sem,rB,GExpr.row_eq,eo2]
 exact xY (s:=outF z.2) hM
theorem zQ1 (v:GValue):Pure prog 262 [.agg v.row] (.agg (valE v).row):=by
 refine iW 0 func262 ntmps262 results262 fun c hc hb=>zN ?_
 simp[go_sem]
 exact zQ (r:= .agg [.int .i64 1,.str [],.int .i64 v.kind,.int .i64 v.n,.str v.s,.sl .ro []]) (zt4 ⟨zZ rfl,zZ rfl,zZ rfl,zZ rfl,zZ rfl,yX,trivial⟩) ⟨rfl,rfl⟩
theorem xH (L:List GToken) (hL:LIn L) (s:RS) (hs:RIn L s) (w:List UInt8) (h:isT L w s=true):VCalls prog 41 [.ptr 0 0,.str w] [rB L s] (fun r σ=>r= .bool true/\σ= [rB L (zO s)]):=by
 have:=yb2 L hL s hs w
 unfold eatF at this
 rw[if_pos h,h]at this
 exact this
theorem wH (L:List GToken) (hL:LIn L) (s:RS) (hs:RIn L s) (w:List UInt8) (h:isT L w s=false):VCalls prog 41 [.ptr 0 0,.str w] [rB L s] (fun r σ=>r= .bool false/\σ= [rB L s]):=by
 have:=yb2 L hL s hs w
 unfold eatF at this
 rw[if_neg (by rw[h];decide),h]at this
 exact this
theorem xN7 (L:List GToken) (hL:LIn L) (rec:Nat->RS->PR) (s:RS) (hs:RIn L s) (hP:PW L rec s.opn)
  (hex: ∀s',RIn L s'->s'.opn=s.opn->VCalls prog 152 [.ptr 0 0] [rB L s'] (RR L (rec 0 s'))):
  VCalls prog 261 [.ptr 0 0] [rB L s] (RR L (zF1 L (rec 6) (rec 0) s)):=by
 generalize hM:zF1 L (rec 6) (rec 0) s=M
 unfold zF1 at hM
 have htok:=zq2 L hL s hs
 have hat:=hs.at_
 have hl:=hL.len
 have ei:IntKind.i64.wrap ((s.at_:Int)+1)=((s.at_+1:Nat):Int):=by rw[i64_id (by omega) (by omega)];omega
 have hname:=zM1 L hL s hs
 refine iW 1 func261 ntmps261 results261 fun c hc hb=>zN ?_
 by_cases q1:isT L [45] s=true
 .rw[if_pos q1]at hM
  have heat:=xH L hL s hs _ q1
  have hnx:=hs.next hL q1
  have hy:=hP.ok 6 (zO s) hnx rfl
  have hcy:=hP.unary (zO s) hnx rfl
  generalize rec 6 (zO s)=y at hy hcy hM
  have hop:=op_w L y.2 (tokF L s).place [78,69,71] [y.1] (by simp) (yz7 hy.wide) (fun he=>by
   have h1:=(hy.err he).2
   simp only[xZ]
   omega)
  generalize opF (tokF L s).place [78,69,71] [y.1] y.2=z at hop hM
  simp only[Al,Br,GExpr.row_eq]at hop
  simp[go_sem]
  refine zK htok cB rd_1 rfl ?_
  simp[go_sem]
  refine zK heat cB (zM ⟨zC rfl,trivial⟩) rfl ?_
  simp[go_sem]
  refine za0 [(4,3),(6,3)] 1 3 (by simp) (by kernel_rfl) (by kernel_rfl) ?_
  simp[go_sem]
  refine zr1 hcy cB rd_1 ?_
  simp[go_sem,GExpr.row_eq]
  refine zr1 hop cB (zM ⟨zC rfl,zC rfl,zX,trivial⟩) ?_
  simp[go_sem,GExpr.row_eq]
  exact xY hM.symm
 have q1:isT L [45] s=false:=by simpa using q1
 rw[if_neg (by rw[q1];decide)]at hM
 have heat1:=wH L hL s hs _ q1
 by_cases q2:isT L [40] s=true
 .rw[if_pos q2]at hM
  have heat2:=xH L hL s hs _ q2
  have hnx:=hs.next hL q2
  have hy:=hP.ok 0 (zO s) hnx rfl
  have hcy:=hex (zO s) hnx rfl
  generalize rec 0 (zO s)=y at hy hcy hM
  have hmu:=zd4 L hL y.2 hy.rin [41]
  generalize yD L [41] y.2=u at hmu hM
  simp[go_sem]
  refine zK htok cB rd_1 rfl ?_
  simp[go_sem]
  refine zK heat1 cB (zM ⟨zC rfl,trivial⟩) rfl ?_
  simp[go_sem]
  refine zK heat2 cB (zM ⟨zC rfl,trivial⟩) rfl ?_
  simp[go_sem]
  refine wX hcy cB rd_1 ?_
  simp[go_sem,GExpr.row_eq]
  refine zK hmu cB (zM ⟨zC rfl,trivial⟩) rfl ?_
  simp[go_sem]
  exact xY hM.symm
 have q2:isT L [40] s=false:=by simpa using q2
 rw[if_neg (by rw[q2];decide)]at hM
 have heat2:=wH L hL s hs _ q2
 simp[go_sem]
 refine zK htok cB rd_1 rfl ?_
 simp[go_sem]
 refine zK heat1 cB (zM ⟨zC rfl,trivial⟩) rfl ?_
 simp[go_sem]
 refine zK heat2 cB (zM ⟨zC rfl,trivial⟩) rfl ?_
 simp[go_sem]
 by_cases q3:isT L [84,82,85,69] s=true
 .rw[if_pos q3]at hM
  have hv:=zQ1 ⟨1,1,[]⟩
  simp only[GExpr.row_eq,GValue.row]at hv
  refine zK (xH L hL s hs _ q3) cB (zM ⟨zC rfl,trivial⟩) rfl ?_
  simp[go_sem]
  refine zD hv cB (zH rfl) rfl ?_
  simp[go_sem]
  exact xY (e:=valE ⟨1,1,[]⟩) (s:=zO s) hM.symm
 have q3:isT L [84,82,85,69] s=false:=by simpa using q3
 rw[if_neg (by rw[q3];decide)]at hM
 refine zK (wH L hL s hs _ q3) cB (zM ⟨zC rfl,trivial⟩) rfl ?_
 simp[go_sem]
 by_cases q4:isT L [70,65,76,83,69] s=true
 .rw[if_pos q4]at hM
  have hv:=zQ1 ⟨1,0,[]⟩
  simp only[GExpr.row_eq,GValue.row]at hv
  refine zK (xH L hL s hs _ q4) cB (zM ⟨zC rfl,trivial⟩) rfl ?_
  simp[go_sem]
  refine zD hv cB (zH rfl) rfl ?_
  simp[go_sem]
  exact xY (e:=valE ⟨1,0,[]⟩) (s:=zO s) hM.symm
 have q4:isT L [70,65,76,83,69] s=false:=by simpa using q4
 rw[if_neg (by rw[q4];decide)]at hM
 refine zK (wH L hL s hs _ q4) cB (zM ⟨zC rfl,trivial⟩) rfl ?_
 simp[go_sem]
 by_cases q5:isT L zq5 s=true
 .rw[if_pos q5]at hM
  have hv:=zQ1 ⟨0,0,[]⟩
  simp only[GExpr.row_eq,GValue.row]at hv
  refine zK (xH L hL s hs _ q5) cB (zM ⟨zC rfl,trivial⟩) rfl ?_
  simp[go_sem]
  refine zD hv cB (zH rfl) rfl ?_
  simp[go_sem]
  exact xY (e:=valE ⟨0,0,[]⟩) (s:=zO s) hM.symm
 have q5:isT L zq5 s=false:=by simpa using q5
 rw[if_neg (by rw[q5];decide)]at hM
 refine zK (wH L hL s hs _ q5) cB (zM ⟨zC rfl,trivial⟩) rfl ?_
 simp[go_sem]
 obtain⟨t,ht⟩:=eX (tokF L s)
 rw[ht]at hM
 rw[ht]
 by_cases q6:t.kind=2
 .rw[if_pos q6]at hM
  have hv:=zQ1 ⟨2,t.n,[]⟩
  simp only[GExpr.row_eq,GValue.row]at hv
  have q6':(t.kind==2)=true:=by simpa using q6
  simp[go_sem,q6',rB,ei]
  refine zD hv cB (zH rfl) rfl ?_
  simp[go_sem]
  exact xY (e:=valE ⟨2,t.n,[]⟩) (s:=zO s) hM.symm
 rw[if_neg q6]at hM
 have q6':(t.kind==2)=false:=by simpa using q6
 simp[go_sem,q6']
 by_cases q7:t.kind=3
 .rw[if_pos q7]at hM
  have hv:=zQ1 ⟨3,0,t.s⟩
  simp only[GExpr.row_eq,GValue.row]at hv
  have q7':(t.kind==3)=true:=by simpa using q7
  simp[go_sem,q7',rB,ei]
  refine zD hv cB (zH rfl) rfl ?_
  simp[go_sem]
  exact xY (e:=valE ⟨3,0,t.s⟩) (s:=zO s) hM.symm
 rw[if_neg q7]at hM
 have q7':(t.kind==3)=false:=by simpa using q7
 simp[go_sem,q7']
 refine zK hname cB rd_1 rfl ?_
 simp[go_sem]
 exact zy1 (e:=namE (yW L s).1) (s:=(yW L s).2) hM.symm
theorem xJ0 (L:List GToken) (hL:LIn L) (rec:Nat->RS->PR) (s:RS) (hs:RIn L s) (h2:s.opn<=200) (hrec:s.opn+1<=200->PW L rec (s.opn+1))
  (hex:s.opn+1<=200-> ∀s',RIn L s'->s'.opn=s.opn+1->VCalls prog 152 [.ptr 0 0] [rB L s'] (RR L (rec 0 s'))):
  VCalls prog 260 [.ptr 0 0] [rB L s] (RR L (ze5 L (zg1 L rec 6) s)):=by
 have hr:=zM7 L hL s hs (by omega)
 have hrin:=zj7 hs h2
 have hro:=zb1 (L:=L) s
 have hre:=zf7 (L:=L) (s:=s)
 have ho:=hs.opn
 have hM:ze5 L (zg1 L rec 6) s=if(yQ L s).err=0 then((zF1 L (rec 6) (rec 0) (yQ L s)).1,outF (zF1 L (rec 6) (rec 0) (yQ L s)).2)else(zeroE,outF (yQ L s)):=rfl
 generalize ze5 L (zg1 L rec 6) s=M at hM⊢
 generalize yQ L s=s1 at hr hrin hro hre hM
 have eo:=zC7 (o:=s1.opn) (by omega) (by omega)
 refine iW 1 func260 ntmps260 results260 fun c hc hb=>zN ?_
 by_cases q1:s1.err=0
 rotate_left
 .have q1':(s1.err==0)=false:=by simpa using q1
  rw[if_neg q1]at hM
  rw[q1']at hr
  simp[go_sem]
  refine zK hr cB rd_1 rfl ?_
  simp[go_sem,rB,eo]
  exact zy1 (e:=zeroE) (s:=outF s1) hM
 have q1':(s1.err==0)=true:=by simpa using q1
 rw[if_pos q1]at hM
 rw[q1']at hr
 have h200:=(hre q1).2
 have hP:PW L rec s1.opn:=by rw[hro];exact hrec h200
 have hok:=yB1 hL (hP.ok 6) (hP.ok 0) s1 hrin rfl
 have hcy:=xN7 L hL rec s1 hrin hP (fun s' h1 h2=>hex h200 s' h1 (by rw[h2,hro]))
 generalize zF1 L (rec 6) (rec 0) s1=z at hok hcy hM
 have eo2:IntKind.i64.wrap (z.2.opn - 1)=z.2.opn - 1:=by rw[hok.opn];exact eo
 simp[go_sem]
 refine zK hr cB rd_1 rfl ?_
 simp[go_sem]
 refine wX hcy cB rd_1 ?_
 simp[go_sem,rB,GExpr.row_eq,eo2]
 exact xY (s:=outF z.2) hM
theorem yV8 (L:List GToken) (s:RS) (x:PR) (hc0:VCalls prog 207 [.ptr 0 0,.int .i64 0] [rB L s] (RR L x)):VCalls prog 152 [.ptr 0 0] [rB L s] (RR L x):=by
 refine iW 1 func152 ntmps152 results152 fun c hc hb=>zN ?_
 simp[go_sem]
 refine wX hc0 cB (zM ⟨zC rfl,trivial⟩) ?_
 simp[go_sem,GExpr.row_eq]
 exact xY rfl
theorem xa5 (L:List GToken) (hL:LIn L): ∀(f:Nat) (o:Int),o<=200->201<=(f:Int)+o->PW L (pF L f) o
 |0,o,h,hf=>by omega
 |f+1,o,h,hf=>by
  have ih: ∀s:RS,s.opn=o->s.opn+1<=200->PW L (pF L f) (s.opn+1):=fun s hs h1=>xa5 L hL f (s.opn+1) h1 (by push_cast at hf;omega)
  have iex: ∀s:RS,s.opn=o->s.opn+1<=200-> ∀s',RIn L s'->s'.opn=s.opn+1->VCalls prog 152 [.ptr 0 0] [rB L s'] (RR L (pF L f 0 s')):=fun s hs h1 s' h2 h3=>yV8 L s' _ ((ih s hs h1).chain 0 (A3 _) s' h2 h3)
  refine⟨fun w s hs ho=>yZ4 hL (f+1) w s hs (by omega) (by push_cast at hf⊢;omega),fun k hk s hs ho=> ?_,fun s hs ho=> ?_,fun s hs ho=> ?_,fun s hs ho=> ?_,fun s hs ho=> ?_,fun s hs ho=> ?_⟩
  .have hk:k=0∨k=1:=by omega
   rcases hk with rfl|rfl
   .exact xm6 L hL (pF L f) s hs (by omega) (ih s ho)
   .exact xm7 L hL (pF L f) s hs (by omega) (ih s ho)
  .exact xV8 L hL (pF L f) s hs (by omega) (ih s ho)
  .exact xU9 L hL (pF L f) s hs (by omega) (ih s ho)
  .exact xW6 L hL (pF L f) s hs (by omega) (ih s ho)
  .exact xR7 L hL (pF L f) s hs (by omega) (ih s ho)
  .exact xJ0 L hL (pF L f) s hs (by omega) (ih s ho) (iex s ho)
def exF (L:List GToken) (s:RS):PR:=pF L 201 0 s
theorem xp6 {L:List GToken} (hL:LIn L) {s:RS} (hs:RIn L s) (ho:s.opn=0):PI L s (exF L s):=yZ4 hL 201 0 s hs (by omega) (by omega)
theorem ex_w (L:List GToken) (hL:LIn L) (s:RS) (hs:RIn L s) (ho:s.opn=0):VCalls prog 152 [.ptr 0 0] [rB L s] (RR L (exF L s)):=
 yV8 L s _ ((xa5 L hL 201 0 (by decide) (by decide)).chain 0 (A3 _) s hs ho)
end Go.Proofs.YtkigddpaonhmlaaGreat
