/-
  The document's reader of statements: INSERT and UPDATE, over trees (the library Vx); used by the theorem at the end of the claim.
  Conditions: as each theorem states them.
-/
import Derived.Test.YtkigddpaonhmlaaGreatXAT
set_option maxHeartbeats 8000000
namespace Go.Proofs.YtkigddpaonhmlaaGreat
open Go Go.Vx Go.Proofs.Tryz
set_option maxRecDepth 100000
mutual
def zm7:GExpr->Nat
 | .mk _ _ _ args=>zi7 args+1
def zi7:List GExpr->Nat
 | []=>0
 |e::l=>zm7 e+zi7 l
end
theorem zH1 (e:GExpr):zm7 e=zi7 e.args+1:=by cases e;rw[zm7];rfl
inductive Good:GExpr->Prop
 |mk (e:GExpr) (hk:i64R e.kind) (hs:e.s.length<=1048576) (hv:e.v.ok) (hn:e.v.s.length<=1048576) (ha: ∀x∈e.args,Good x):Good e
theorem Good.str {e:GExpr} (h:Good e):e.s.length<=1048576:=by cases h;assumption
theorem Good.v {e:GExpr} (h:Good e):e.v.ok:=by cases h;assumption
theorem Good.sub {e:GExpr} (h:Good e): ∀x∈e.args,Good x:=by cases h;assumption
theorem yw3:(⟨0,0,[]⟩:GValue).ok:=⟨by decide,by decide,by decide⟩
theorem xE6 {n:Int} (h:0<=n/\n<=9223372036854775807):(⟨2,n,[]⟩:GValue).ok:=⟨by simp only;omega,by simp only;omega,A3 _⟩
theorem xI9 {s:List UInt8} (h:s.length<=1048576):(⟨3,0,s⟩:GValue).ok:=⟨by simp only;omega,by simp only;omega,by simp only[maxLen];omega⟩
theorem xD9 {w:List UInt8} {a:List GExpr} (h:w.length<=1048576) (ha: ∀x∈a,Good x):Good (opE w a):= .mk _ (by show i64R 3;unfold i64R;decide) h yw3 (A3 _) ha
theorem zG0 {v:GValue} (h:v.ok) (h2:v.s.length<=1048576):Good (valE v):= .mk _ (by show i64R 1;unfold i64R;decide) (A3 _) h h2 (fun x hx=>by cases hx)
theorem xq8 {w:List UInt8} (h:w.length<=1048576):Good (namE w):= .mk _ (by show i64R 2;unfold i64R;decide) h yw3 (A3 _) (fun x hx=>by cases hx)
theorem xq6:Good zeroE:= .mk _ (by show i64R 0;unfold i64R;decide) (A3 _) yw3 (A3 _) (fun x hx=>by cases hx)
theorem yu7 {x:GExpr} (h:Good x): ∀e∈ [x],Good e:=fun e he=>by
 simp only[Ag,Ba,or_false]at he
 subst he
 exact h
theorem xq7 {x y:GExpr} (h:Good x) (h2:Good y): ∀e∈ [x,y],Good e:=fun e he=>by
 simp only[Ag,Ba,or_false]at he
 rcases he with rfl|rfl
 .exact h
 .exact h2
structure LGood (L:List GToken):Prop where
 txt: ∀t∈L,t.s.length<=1048576
 num: ∀t∈L,0<=t.n/\t.n<=9223372036854775807
variable {L:List GToken}
theorem zA5 {s:RS} (hs:RIn L s):tokF L s∈L:=by
 unfold tokF
 rw[A5,A0 hs.at_]
 exact A8 _
theorem yW7 (hG:LGood L) {w:List UInt8} {s:RS} (hs:RIn L s) (h:isT L w s=true):w.length<=1048576:=by
 have:=hG.txt _ (zA5 hs)
 unfold isT at h
 simp only[A4,beq_iff_eq]at h
 rw[<-h.2.2]
 exact this
theorem zi3 (hG:LGood L) {s:RS} (hs:RIn L s):(yW L s).1.length<=1048576:=by
 unfold yW
 split
 .exact hG.txt _ (zA5 hs)
 .exact A3 _
structure PJ (s:RS) (x:PR):Prop where
 good:Good x.1
 size:x.2.err=0->zm7 x.1+s.at_<=x.2.at_
abbrev PK (L:List GToken) (s:RS) (x:PR):Prop:=PI L s x/\PJ s x
theorem xH7 (w:List UInt8) (a:List GExpr):zm7 (opE w a)=zi7 a+1:=zH1 _
theorem yy2 (x:GExpr):zi7 [x]=zm7 x:=by simp[zi7]
theorem xw9 (x y:GExpr):zi7 [x,y]=zm7 x+zm7 y:=by simp[zi7]
theorem yr5 {e:GExpr} (h:e.args= []):zm7 e=1:=by rw[zH1,h];rfl
theorem ym6 {s0 s:RS} (p:Int) {w:List UInt8} {a:List GExpr} (h1:w.length<=1048576) (h2: ∀x∈a,Good x) (h3:s.err=0->zi7 a+1+s0.at_<=s.at_):PJ s0 (opF p w a s):=
 ⟨xD9 h1 h2,fun he=>by
  have h:=yw9 (p:=p) (w:=w) (a:=a) (s:=s) he
  show zm7 (opE w a)+s0.at_<=(opS p w a s).at_
  rw[zM2,xH7]
  exact h3 h.1⟩
theorem yh2 (hL:LIn L) (hG:LGood L) {o:Int} {sub:RS->PR} (hsub: ∀s,RIn L s->s.opn=o->PK L s (sub s)) (ws:List (List UInt8)) {s0:RS}: ∀(n:Nat) (x:PR),PK L s0 x->s0.opn=o->PJ s0 (opsF L ws sub n x)
 |0,x,h,_=>h.2
 |n+1,x,h,ho=>by
  have hstep:=zJ5 hL (fun s h1 h2=>(hsub s h1 h2).1) ws 1 x h.1 ho
  unfold opsF
  unfold opsF at hstep
  split
  .exact h.2
  rename_i hne
  rw[if_neg hne]at hstep
  have hi:=zB3 hne
  have hx:=h.1.opn
  have hy:=hsub (zO x.2) (h.1.rin.next hL hi) (by show x.2.opn=o;rw[hx,ho])
  have hl:=yW7 hG h.1.rin hi
  have hstep:PI L s0 (opF (tokF L x.2).place (anyF L x.2 ws) [x.1,(sub (zO x.2)).1] (sub (zO x.2)).2):=hstep
  refine yh2 hL hG hsub ws n _ ⟨hstep,ym6 _ hl (xq7 h.2.good hy.2.good) (fun he=> ?_)⟩ ho
  have h1:=hy.2.size he
  have h2:=h.2.size (hy.1.err he).1
  rw[za4]at h1
  rw[xw9]
  omega
theorem xQ5 (hL:LIn L) (_hG:LGood L) {o:Int} {rn rc:RS->PR} (h1: ∀s,RIn L s->s.opn=o->PK L s (rn s)) (h2: ∀s,RIn L s->s.opn=o->PK L s (rc s)) (s:RS) (hs:RIn L s) (ho:s.opn=o):PJ s (notK L rn rc s):=by
 unfold notK
 split
 .rename_i hi
  have hy:=h1 (zO s) (hs.next hL hi) ho
  refine ym6 _ (by decide) (yu7 hy.2.good) (fun he=> ?_)
  have h:=hy.2.size he
  rw[za4]at h
  rw[yy2]
  omega
 .exact(h2 s hs ho).2
theorem xO1 (hL:LIn L) (hG:LGood L) {o:Int} {sub:RS->PR} (hsub: ∀s,RIn L s->s.opn=o->PK L s (sub s)) (s:RS) (ho:s.opn=o) (x:PR) (h:PK L s x):PJ s (cmpJ L sub x):=by
 have hx:=h.1.opn
 unfold cmpJ
 split
 .rename_i hi
  split
  .rename_i hi2
   refine ym6 _ (by decide) (yu7 h.2.good) (fun he=> ?_)
   have h1:=h.2.size (zi2 he).1
   have h2:=zu6 (L:=L) zq5 (zO (zO x.2))
   simp only[za4]at h2
   rw[yy2]
   omega
  .refine ym6 _ (by decide) (yu7 h.2.good) (fun he=> ?_)
   have h1:=h.2.size (zi2 he).1
   have h2:=zu6 (L:=L) zq5 (zO x.2)
   simp only[za4]at h2
   rw[yy2]
   omega
 .split
  .exact h.2
  rename_i hne
  have hi:=zB3 hne
  have hy:=hsub (zO x.2) (h.1.rin.next hL hi) (by show x.2.opn=o;rw[hx,ho])
  have hl:=yW7 hG h.1.rin hi
  refine ym6 _ hl (xq7 h.2.good hy.2.good) (fun he=> ?_)
  have h1:=hy.2.size he
  have h2:=h.2.size (hy.1.err he).1
  rw[za4]at h1
  rw[xw9]
  omega
theorem zI0 {s s2:RS} {e:GExpr} (ha:e.args= []) (h:Good e) (h2:s2.err=0->s2.at_=s.at_+1):PJ s (e,s2):=⟨h,fun he=>by
 have:=h2 he
 simp only[yr5 ha]
 omega⟩
theorem xC2 (hL:LIn L) (hG:LGood L) {o:Int} {un ex:RS->PR} (h1: ∀s,RIn L s->s.opn=o->PK L s (un s)) (h2: ∀s,RIn L s->s.opn=o->PK L s (ex s)) (s:RS) (hs:RIn L s) (ho:s.opn=o):PJ s (zF1 L un ex s):=by
 have hm:=zA5 hs
 unfold zF1
 split
 .rename_i hi
  have hy:=h1 (zO s) (hs.next hL hi) ho
  refine ym6 _ (by decide) (yu7 hy.2.good) (fun he=> ?_)
  have h:=hy.2.size he
  rw[za4]at h
  rw[yy2]
  omega
 split
 .rename_i hi
  have hy:=h2 (zO s) (hs.next hL hi) ho
  refine⟨hy.2.good,fun he=> ?_⟩
  have h:=hy.2.size (zi2 he).1
  have h3:=zu6 (L:=L) [41] (ex (zO s)).2
  rw[za4]at h
  show zm7 (ex (zO s)).1+s.at_<=(yD L [41] (ex (zO s)).2).at_
  omega
 split
 .exact zI0 rfl (zG0 ⟨by decide,by decide,by decide⟩ (A3 _)) (fun _=>rfl)
 split
 .exact zI0 rfl (zG0 ⟨by decide,by decide,by decide⟩ (A3 _)) (fun _=>rfl)
 split
 .exact zI0 rfl (zG0 yw3 (A3 _)) (fun _=>rfl)
 split
 .exact zI0 rfl (zG0 (xE6 (hG.num _ hm)) (A3 _)) (fun _=>rfl)
 split
 .exact zI0 rfl (zG0 (xI9 (hG.txt _ hm)) (hG.txt _ hm)) (fun _=>rfl)
 .refine zI0 rfl (xq8 (zi3 hG hs)) (fun he=> ?_)
  have hb:=(zT1 he).2
  unfold yW
  rw[if_pos hb]
  rfl
theorem xC3 (hL:LIn L) (hG:LGood L) {o:Int} {rec:Nat->RS->PR} (h: ∀w s,RIn L s->s.opn=o->PK L s (rec w s)): ∀(w:Nat) (s:RS),RIn L s->s.opn=o->PJ s (zg1 L rec w s)
 |0,s,hs,ho=>yh2 hL hG (h 1) _ _ _ (h 1 s hs ho) ho
 |1,s,hs,ho=>yh2 hL hG (h 2) _ _ _ (h 2 s hs ho) ho
 |2,s,hs,ho=>xQ5 hL hG (h 2) (h 3) s hs ho
 |3,s,hs,ho=>xO1 hL hG (h 4) s ho _ (h 4 s hs ho)
 |4,s,hs,ho=>yh2 hL hG (h 5) _ _ _ (h 5 s hs ho) ho
 |5,s,hs,ho=>yh2 hL hG (h 6) _ _ _ (h 6 s hs ho) ho
 |_w+6,s,hs,ho=>xC2 hL hG (h 6) (h 0) s hs ho
theorem xH3 {k:RS->PR} (s:RS) (hk:(yQ L s).err=0->PJ (yQ L s) (k (yQ L s))):PJ s (ze5 L k s):=by
 unfold ze5
 split
 .rename_i he
  have hy:=hk he
  refine⟨hy.good,fun h=> ?_⟩
  have h2:=hy.size h
  rw[zP4]at h2
  exact h2
 .rename_i he
  exact⟨xq6,fun h=>absurd h he⟩
theorem pF_j (hL:LIn L) (hG:LGood L): ∀(f:Nat) (w:Nat) (s:RS),RIn L s->s.opn<=200->201<=(f:Int)+s.opn->PJ s (pF L f w s)
 |0,w,s,hs,h2,hf=>by omega
 |f+1,w,s,hs,h2,hf=>by
  unfold pF
  refine xH3 s (fun he=> ?_)
  have h3:=(zf7 he).2
  exact xC3 hL hG (o:=s.opn+1) (fun w t ht ho=>⟨yZ4 hL f w t ht (by omega) (by push_cast at hf;omega),pF_j hL hG f w t ht (by omega) (by push_cast at hf;omega)⟩) w _ (zj7 hs h2) (zb1 s)
theorem ex_j {L:List GToken} (hL:LIn L) (hG:LGood L) {s:RS} (hs:RIn L s) (ho:s.opn=0):PJ s (exF L s):=pF_j hL hG 201 0 s hs (by omega) (by omega)
structure UI (L:List GToken) (s s':RS):Prop where
 rin:RIn L s'
 opn:s'.opn=s.opn
 up:s.at_<=s'.at_
 err:s'.err=0->s.err=0
variable {L:List GToken}
theorem UI.refl {s:RS} (h:RIn L s):UI L s s:=⟨h,rfl,A2 _,id⟩
theorem UI.trans {s s2 s3:RS} (h:UI L s s2) (k:UI L s2 s3):UI L s s3:=⟨k.rin,k.opn.trans h.opn,Ay h.up k.up,fun e=>h.err (k.err e)⟩
theorem PI.ui {s:RS} {x:PR} (h:PI L s x):UI L s x.2:=⟨h.rin,h.opn,h.up,fun e=>(h.err e).1⟩
theorem yE (hL:LIn L) (w:List UInt8) {s:RS} (h:RIn L s):UI L s (yD L w s):=⟨zj5 hL h,zo1 w s,zu6 w s,fun e=>(zi2 e).1⟩
theorem zc7 (hL:LIn L) {s:RS} (h:RIn L s):UI L s (yW L s).2:=⟨yG6 hL h,yq1 s,yG7 s,fun e=>(zT1 e).1⟩
theorem yT (hL:LIn L) {w:List UInt8} {s:RS} (h:RIn L s) (hi:isT L w s=true):UI L s (zO s):=⟨h.next hL hi,rfl,by simp[zO],id⟩
theorem yV9 (e p:Int) {s:RS} (h:RIn L s) (he:e≠0):UI L s (wY e p s):=⟨ye0 h e p,zz4 e p s,by rw[zF7];exact A2 _,fun q=>absurd q (zl6 he)⟩
theorem yP4 (hL:LIn L) {s:RS} (h:RIn L s):UI L s (numF L s).2:=by
 unfold numF
 split
 .rename_i hb
  unfold numB at hb
  simp only[A4,beq_iff_eq]at hb
  exact⟨hL.next h (by rw[hb.2];decide),rfl,by simp[zO],id⟩
 .exact yV9 _ _ h (by decide)
def zf1 (L:List GToken) (n most:Int) (b:Bool) (s:RS):RS:=if s.err=0/\most<=n then wY (if b=true then 3 else 13) (tokF L s).place s else s
theorem zm5 {n most:Int} {b:Bool} {s:RS} (h:RIn L s):UI L s (zf1 L n most b s):=by
 unfold zf1
 split
 .exact yV9 _ _ h (by split<;>decide)
 .exact UI.refl h
theorem zf5 {n most:Int} {b:Bool} {s:RS} (h:(zf1 L n most b s).err=0):s.err=0/\n<most/\zf1 L n most b s=s:=by
 unfold zf1 at h⊢
 split at h
 .exact absurd h (zl6 (by split<;>decide))
 .rename_i hc
  rw[if_neg hc]
  refine⟨h, ?_,rfl⟩
  by_cases q:most<=n
  .exact absurd ⟨h,q⟩ hc
  .omega
theorem yg4 (L:List GToken) (hL:LIn L) (s:RS) (hs:RIn L s) (n most:Int) (b:Bool):VCalls prog 39 [.ptr 0 0,.int .i64 n,.int .i64 most,.bool b] [rB L s] (fun r σ=>r= .bool ((zf1 L n most b s).err==0)/\σ= [rB L (zf1 L n most b s)]):=by
 have ht:=zq2 L hL s hs
 have hf3:=zF8 L s 3 (tokF L s).place
 have hf13:=zF8 L s 13 (tokF L s).place
 have hM:zf1 L n most b s=if s.err=0/\most<=n then(if b=true then wY 3 (tokF L s).place s else wY 13 (tokF L s).place s)else s:=by unfold zf1;cases b<;>rfl
 generalize zf1 L n most b s=M at hM⊢
 have e3:(wY 3 (tokF L s).place s).err≠0:=zl6 (by decide)
 have e13:(wY 13 (tokF L s).place s).err≠0:=zl6 (by decide)
 generalize wY 3 (tokF L s).place s=f3 at*
 generalize wY 13 (tokF L s).place s=f13 at*
 refine iW 1 func39 ntmps39 results39 fun c hc hb=>zN ?_
 simp[go_sem,rB]
 by_cases q1:s.err=0
 rotate_left
 .have q1':(s.err==0)=false:=by simpa using q1
  rw[if_neg (fun h=>q1 h.1)]at hM
  simp[go_sem,q1']
  exact xB (L:=L) (s:=s) (zC rfl) ⟨by rw[hM,q1'],by rw[hM];rfl⟩
 have q1':(s.err==0)=true:=by simpa using q1
 by_cases q2:most<=n
 rotate_left
 .have q2':decide (most<=n)=false:=decide_eq_false q2
  rw[if_neg (fun h=>q2 h.2)]at hM
  simp[go_sem,q1',q2']
  exact xB (L:=L) (s:=s) (zC rfl) ⟨by rw[hM,q1'],by rw[hM];rfl⟩
 have q2':decide (most<=n)=true:=decide_eq_true q2
 rw[if_pos ⟨q1,q2⟩]at hM
 simp[go_sem,q1',q2']
 refine(A7 b).elim (fun q=> ?_) (fun q=> ?_)
 .rw[if_pos q]at hM
  have e3':(f3.err==0)=false:=by simpa using e3
  subst q
  simp[go_sem]
  refine zK ht cB rd_1 rfl ?_
  simp[go_sem]
  refine zK hf3 cB (zM ⟨zC rfl,zC rfl,trivial⟩) rfl ?_
  simp[go_sem,rB]
  exact xB (L:=L) (s:=f3) (zC rfl) ⟨by rw[hM],by rw[hM];rfl⟩
 .rw[if_neg (by rw[q];decide)]at hM
  subst q
  simp[go_sem]
  refine zK ht cB rd_1 rfl ?_
  simp[go_sem]
  refine zK hf13 cB (zM ⟨zC rfl,zC rfl,trivial⟩) rfl ?_
  simp[go_sem,rB]
  exact xB (L:=L) (s:=f13) (zC rfl) ⟨by rw[hM],by rw[hM];rfl⟩
def zU2:List UInt8:= [67,79,85,78,84]
def wSUM:List UInt8:= [83,85,77]
def yR7:List (List UInt8):= [[45],[40],[78,79,84],[84,82,85,69],[70,65,76,83,69],[78,85,76,76]]
def begF (L:List GToken) (item:Bool) (s:RS):Bool:=
 ((tokF L s).kind==2||((tokF L s).kind==3||((tokF L s).kind==1&&zk3 (tokF L s).s)))||((item&&(isT L zU2 s||isT L wSUM s))|| !(anyF L s yR7== []))
theorem yB2 (L:List GToken) (hL:LIn L) (s:RS) (hs:RIn L s) (item:Bool):VCalls prog 151 [.ptr 0 0,.bool item] [rB L s] (fun r σ=>r= .bool (begF L item s)/\σ= [rB L s]):=by
 have ht:=zq2 L hL s hs
 have h1:=is_w L hL s hs zU2
 have h2:=is_w L hL s hs wSUM
 have h3:=zU7 L hL s hs yR7 (by decide)
 have htl:=hL.txt _ (zA5 hs)
 have hw:=zT4 (tokF L s).s htl
 generalize hM:begF L item s=M
 unfold begF at hM
 generalize isT L zU2 s=c1 at h1 hM
 generalize isT L wSUM s=c2 at h2 hM
 generalize anyF L s yR7=a at h3 hM
 generalize zk3 (tokF L s).s=b at hw hM
 have hae:(a != [])= !a.isEmpty:=by cases a<;>rfl
 have hae2:(a== [])=a.isEmpty:=by cases a<;>rfl
 rw[hae2]at hM
 have ret: ∀(r:Bool) (τ:St),r=M->wret (some (.bool r)) 1 (fun r σ=>r= .bool M/\σ= [rB L s]) (rB L s::τ):=fun r τ h=>by subst h;exact xB (zC rfl) ⟨rfl,rfl⟩
 refine iW 1 func151 ntmps151 results151 fun c hc hb=>zN ?_
 simp[go_sem]
 refine zK ht cB rd_1 rfl ?_
 simp[go_sem]
 repeat' (first
  |(refine yZ (fun q=> ?_) (fun q=> ?_)<;>simp[go_sem,q])
  |(refine zT (fun q=> ?_) (fun q=> ?_)<;>simp[go_sem,q])
  |(refine zD hw cB (zH rfl) rfl ?_;simp[go_sem])
  |(refine zK h1 cB (zM ⟨zC rfl,trivial⟩) rfl ?_;simp[go_sem])
  |(refine zK h2 cB (zM ⟨zC rfl,trivial⟩) rfl ?_;simp[go_sem])
  |(refine zK h3 cB (zM ⟨zX,trivial⟩) rfl ?_;simp[go_sem]))
 all_goals exact ret _ _ (by rw[<-hM];simp_all)
variable {L:List GToken}
def zN1:List UInt8:= [87,72,69,82,69]
def whS (L:List GToken) (s:RS):RS:=if isT L zN1 s=true then(exF L (zO s)).2 else s
def rowC (e:GExpr):List V:= [.int .i64 e.kind,.str e.s,.int .i64 e.v.kind,.int .i64 e.v.n,.str e.v.s,.sl .ro (e.args.map GExpr.row)]
def whB (L:List GToken) (s:RS) (a b:List V) (o:Ob):Ob:=if isT L zN1 s=true then .box (a++ [.bool true]++rowC (exF L (zO s)).1++b)else o
theorem zK3 (hL:LIn L) {s:RS} (h:RIn L s) (ho:s.opn=0):UI L s (exF L s).2:=(xp6 hL h ho).ui
theorem ys7 (hL:LIn L) {s:RS} (h:RIn L s) (ho:s.opn=0):UI L s (whS L s):=by
 unfold whS
 split
 .rename_i hi
  exact(yT hL h hi).trans (zK3 hL (h.next hL hi) ho)
 .exact UI.refl h
theorem xJ9 (L:List GToken) (hL:LIn L) (s:RS) (hs:RIn L s) (ho:s.opn=0) (τ:St) (j:Nat) (c0 c1 c2 c3 c4 c5 c6 c7 c8 c9 c10 c11 c12 c13 c14:V) (hj:τ[j]? =some (.box [c0,c1,c2,c3,c4,c5,c6,c7,c8,c9,c10,c11,c12,c13,c14])):
  VCalls prog 91 [.ptr 0 0,.ptr (j+1) 0] (rB L s::τ) (fun r σ=>r= .tup []/\σ=rB L (whS L s)::τ.set j (whB L s [c0,c1,c2,c3,c4] [c12,c13,c14] (.box [c0,c1,c2,c3,c4,c5,c6,c7,c8,c9,c10,c11,c12,c13,c14]))):=by
 have hjl:=(A1.1 hj).1
 have hje:=(A1.1 hj).2
 unfold whS whB
 refine VCalls.intro (τ.length+1) func91 ntmps91 results91 rfl rfl (Cy rfl) fun c hc hb=>zN ?_
 by_cases q:isT L zN1 s=true
 .rw[if_pos q,if_pos q]
  have heat:=xH L hL s hs _ q
  have hcy:=ex_w L hL (zO s) (hs.next hL q) ho
  generalize exF L (zO s)=y at hcy⊢
  simp[go_sem]
  refine zK heat cB (zM ⟨zC rfl,trivial⟩) rfl ?_
  simp[go_sem]
  refine wX hcy cB rd_1 ?_
  simp[go_sem,GExpr.row_eq,hje,hjl]
  refine yk1 ?_ ⟨rfl, ?_⟩
  .simp
  .simp[go_sem,rowC]
 .have q:isT L zN1 s=false:=by simpa using q
  have heat:=wH L hL s hs _ q
  rw[if_neg (by rw[q];decide),if_neg (by rw[q];decide)]
  simp[go_sem]
  refine zK heat cB (zM ⟨zC rfl,trivial⟩) rfl ?_
  simp[go_sem]
  refine yk1 (by simp) ⟨rfl, ?_⟩
  rw[<-hje,List.set_getElem_self]
def zt9 (L:List GToken) (s:RS):GItem×RS:=
 if isT L zU2 s=true then(⟨3,zeroE⟩,yD L [41] (yD L [42] (yD L [40] (zO s))))
 else if isT L wSUM s=true then(⟨4,(exF L (yD L [40] (zO s))).1⟩,yD L [41] (exF L (yD L [40] (zO s))).2)
 else(⟨2,(exF L s).1⟩,(exF L s).2)
def zu0 (L:List GToken):Nat->List GItem->RS->List GItem×RS
 |0,l,s=>(l,s)
 |n+1,l,s=>
  if(zf1 L l.length 6 (begF L true s) s).err=0 then
   (if isT L [44] (zt9 L s).2=true then zu0 L n (l++ [(zt9 L s).1]) (zO (zt9 L s).2)else(l++ [(zt9 L s).1],(zt9 L s).2))
  else(l,zf1 L l.length 6 (begF L true s) s)
def zo0 (L:List GToken) (s:RS):List GItem×RS:=if isT L [42] s=true then([⟨1,zeroE⟩],zO s)else zu0 L 7 [] s
theorem yv5 (hL:LIn L) {s:RS} (h:RIn L s) (ho:s.opn=0):UI L s (zt9 L s).2:=by
 unfold zt9
 split
 .rename_i hi
  have h1:=yT hL h hi
  have h2:=h1.trans (yE hL [40] h1.rin)
  have h3:=h2.trans (yE hL [42] h2.rin)
  exact h3.trans (yE hL [41] h3.rin)
 split
 .rename_i hi
  have h1:=yT hL h hi
  have h2:=h1.trans (yE hL [40] h1.rin)
  have h3:=h2.trans (zK3 hL h2.rin (h2.opn.trans ho))
  exact h3.trans (yE hL [41] h3.rin)
 .exact zK3 hL h ho
theorem xe6 {τ:St} {l:List GItem} {s:RS} {g:Tag} {M:List GItem×RS} (h:(l,s)=M):wret (some (.sl g (l.map GItem.row))) 1 (fun r σ=>r= .sl .ro (M.1.map GItem.row)/\σ= [rB L M.2]) (rB L s::τ):=by
 subst h
 exact xB zX ⟨rfl,rfl⟩
theorem xE8 (L:List GToken) (hL:LIn L) (s0:RS) (hs0:RIn L s0) (ho0:s0.opn=0):VCalls prog 150 [.ptr 0 0] [rB L s0] (fun r σ=>r= .sl .ro ((zo0 L s0).1.map GItem.row)/\σ= [rB L (zo0 L s0).2]):=by
 generalize hM:zo0 L s0=M
 unfold zo0 at hM
 refine iV 1 func150 ntmps150 results150 fun c hc hb=> ?_
 refine zA ?_
 simp[go_sem]
 by_cases q0:isT L [42] s0=true
 .rw[if_pos q0]at hM
  refine zK (xH L hL s0 hs0 _ q0) cB (zM ⟨zC rfl,trivial⟩) rfl ?_
  simp[go_sem]
  refine xB (r:= .sl .ro ([(⟨1,zeroE⟩:GItem)].map GItem.row)) ?_ ⟨by rw[<-hM],by rw[<-hM]⟩
  exact zX
 have q0:isT L [42] s0=false:=by simpa using q0
 rw[if_neg (by rw[q0];decide)]at hM
 refine zK (wH L hL s0 hs0 _ q0) cB (zM ⟨zC rfl,trivial⟩) rfl ?_
 simp[go_sem]
 refine zn1 3 7 (by decide) (by simp[go_sem]) ?_
 refine zL (S:=List GItem×RS) [0,3] (fun u=> [.ptr 0 0,.sl (.app 1) (u.1.map GItem.row)]) (fun u=> [rB L u.2,.app u.1.length 7]) (fun u=>7 - u.1.length) (fun u=>u.1.length<=6/\UI L s0 u.2/\zu0 L (7 - u.1.length) u.1 u.2=M) hc hb ([],s0) ⟨A3 _,UI.refl hs0,hM⟩ ?_ ?_
 .exact aN 2 (by simp[rB,ltOb,ltC,ltK])
 rintro⟨l,s⟩ ⟨hl,hu,hinv⟩
 simp only at hl hu hinv
 have hs:=hu.rin
 have ho:=hu.opn.trans ho0
 have hbeg:=yB2 L hL s hs true
 have hmore:=yg4 L hL s hs l.length 6 (begF L true s)
 have hme:=zf5 (L:=L) (n:=l.length) (most:=6) (b:=begF L true s) (s:=s)
 rw[show 7 - l.length=(6 - l.length)+1 by omega,zu0]at hinv
 generalize begF L true s=bg at hbeg hmore hme hinv
 generalize zf1 L l.length 6 bg s=m at hmore hme hinv
 by_cases q:m.err=0
 rotate_left
 .have q':(m.err==0)=false:=by simpa using q
  rw[if_neg q]at hinv
  rw[q']at hmore
  refine zA ?_
  simp[go_sem]
  refine zK hbeg cB (zM ⟨zC rfl,trivial⟩) rfl ?_
  simp[go_sem]
  refine zK hmore cB (zM ⟨zC rfl,zC rfl,zC rfl,trivial⟩) rfl ?_
  simp[go_sem]
  exact xe6 hinv
 have q':(m.err==0)=true:=by simpa using q
 obtain⟨he,hl6,rfl⟩:=hme q
 rw[if_pos q]at hinv
 rw[q']at hmore
 have hitu:=yv5 hL hs ho
 have hu2:=hu.trans hitu
 generalize hit:zt9 L m=it at hinv hitu hu2
 unfold zt9 at hit
 have heatc: ∀b,isT L [44] it.2=b->VCalls prog 41 [.ptr 0 0,.str [44]] [rB L it.2] (fun r σ=>r= .bool b/\σ= [rB L (if b=true then zO it.2 else it.2)]):=fun b hb=>by
  cases b with
  |true=>exact xH L hL it.2 hu2.rin _ hb
  |false=>exact wH L hL it.2 hu2.rin _ hb
 by_cases q1:isT L zU2 m=true
 .rw[if_pos q1]at hit
  have hn1:=hs.next hL q1
  have hm1:=zd4 L hL _ hn1 [40]
  have hi1:=zj5 hL (w:= [40]) hn1
  generalize yD L [40] (zO m)=u1 at hm1 hi1 hit
  have hm2:=zd4 L hL _ hi1 [42]
  have hi2:=zj5 hL (w:= [42]) hi1
  generalize yD L [42] u1=u2 at hm2 hi2 hit
  have hm3:=zd4 L hL _ hi2 [41]
  generalize yD L [41] u2=u3 at hm3 hit
  subst hit
  simp only at hinv hu2 heatc
  refine zA ?_
  simp[go_sem]
  refine zK hbeg cB (zM ⟨zC rfl,trivial⟩) rfl ?_
  simp[go_sem]
  refine zK hmore cB (zM ⟨zC rfl,zC rfl,zC rfl,trivial⟩) rfl ?_
  simp[go_sem]
  refine zK (xH L hL m hs _ q1) cB (zM ⟨zC rfl,trivial⟩) rfl ?_
  simp[go_sem]
  refine zK hm1 cB (zM ⟨zC rfl,trivial⟩) rfl ?_
  simp[go_sem]
  refine zK hm2 cB (zM ⟨zC rfl,trivial⟩) rfl ?_
  simp[go_sem]
  refine zK hm3 cB (zM ⟨zC rfl,trivial⟩) rfl ?_
  simp[go_sem]
  refine zJ ⟨by omega,yC rfl⟩ ?_
  simp[go_sem]
  refine(A7 (isT L [44] u3)).elim (fun q2=> ?_) (fun q2=> ?_)
  .rw[if_pos q2]at hinv
   refine zK (heatc true q2) cB (zM ⟨zC rfl,trivial⟩) rfl ?_
   simp[go_sem]
   refine zI (l++ [⟨3,zeroE⟩],zO u3) ⟨by simp;omega,⟨by simp;omega,hu2.trans (yT hL hu2.rin q2),by simp only[Aw,Bh,show 7 - (l.length+1)=6 - l.length by omega];exact hinv⟩, ?_⟩
   exact aM 2 (by simp[rB,ltOb,ltC,ltK]) (zG (by simp[go_sem]<;>exact⟨rfl,rfl,rfl,rfl,rfl,rfl⟩) rfl)
  .rw[if_neg (by rw[q2];decide)]at hinv
   refine zK (heatc false q2) cB (zM ⟨zC rfl,trivial⟩) rfl ?_
   simp[go_sem]
   exact xB (L:=L) zX ⟨by rw[<-hinv];simp[GItem.row]<;>exact⟨rfl,rfl,rfl,rfl,rfl,rfl⟩,by rw[<-hinv]⟩
 have q1:isT L zU2 m=false:=by simpa using q1
 rw[if_neg (by rw[q1];decide)]at hit
 by_cases q1b:isT L wSUM m=true
 .rw[if_pos q1b]at hit
  have hn1:=hs.next hL q1b
  have hm1:=zd4 L hL _ hn1 [40]
  have hi1:=zj5 hL (w:= [40]) hn1
  have ho1:=zo1 (L:=L) [40] (zO m)
  generalize yD L [40] (zO m)=u1 at hm1 hi1 ho1 hit
  have ho2:u1.opn=0:=by rw[ho1];exact ho
  have hx:=ex_w L hL u1 hi1 ho2
  have hxi:=(xp6 hL hi1 ho2).rin
  generalize exF L u1=x at hx hxi hit
  have hm3:=zd4 L hL _ hxi [41]
  generalize yD L [41] x.2=u3 at hm3 hit
  subst hit
  simp only at hinv hu2 heatc
  refine zA ?_
  simp[go_sem]
  refine zK hbeg cB (zM ⟨zC rfl,trivial⟩) rfl ?_
  simp[go_sem]
  refine zK hmore cB (zM ⟨zC rfl,zC rfl,zC rfl,trivial⟩) rfl ?_
  simp[go_sem]
  refine zK (wH L hL m hs _ q1) cB (zM ⟨zC rfl,trivial⟩) rfl ?_
  simp[go_sem]
  refine zK (xH L hL m hs _ q1b) cB (zM ⟨zC rfl,trivial⟩) rfl ?_
  simp[go_sem]
  refine zK hm1 cB (zM ⟨zC rfl,trivial⟩) rfl ?_
  simp[go_sem]
  refine wX hx cB rd_1 ?_
  simp[go_sem,GExpr.row_eq]
  refine zK hm3 cB (zM ⟨zC rfl,trivial⟩) rfl ?_
  simp[go_sem]
  refine zJ ⟨by omega,yC rfl⟩ ?_
  simp[go_sem]
  refine(A7 (isT L [44] u3)).elim (fun q2=> ?_) (fun q2=> ?_)
  .rw[if_pos q2]at hinv
   refine zK (heatc true q2) cB (zM ⟨zC rfl,trivial⟩) rfl ?_
   simp[go_sem]
   refine zI (l++ [⟨4,x.1⟩],zO u3) ⟨by simp;omega,⟨by simp;omega,hu2.trans (yT hL hu2.rin q2),by simp only[Aw,Bh,show 7 - (l.length+1)=6 - l.length by omega];exact hinv⟩, ?_⟩
   exact aM 2 (by simp[rB,ltOb,ltC,ltK]) (zG (by simp[go_sem]<;>exact⟨rfl,rfl,rfl,rfl,rfl,rfl⟩) rfl)
  .rw[if_neg (by rw[q2];decide)]at hinv
   refine zK (heatc false q2) cB (zM ⟨zC rfl,trivial⟩) rfl ?_
   simp[go_sem]
   exact xB (L:=L) zX ⟨by rw[<-hinv];simp[GItem.row]<;>exact⟨rfl,rfl,rfl,rfl,rfl,rfl⟩,by rw[<-hinv]⟩
 have q1b:isT L wSUM m=false:=by simpa using q1b
 rw[if_neg (by rw[q1b];decide)]at hit
 .have hx:=ex_w L hL m hs ho
  generalize exF L m=x at hx hit
  subst hit
  simp only at hinv hu2 heatc
  refine zA ?_
  simp[go_sem]
  refine zK hbeg cB (zM ⟨zC rfl,trivial⟩) rfl ?_
  simp[go_sem]
  refine zK hmore cB (zM ⟨zC rfl,zC rfl,zC rfl,trivial⟩) rfl ?_
  simp[go_sem]
  refine zK (wH L hL m hs _ q1) cB (zM ⟨zC rfl,trivial⟩) rfl ?_
  simp[go_sem]
  refine zK (wH L hL m hs _ q1b) cB (zM ⟨zC rfl,trivial⟩) rfl ?_
  simp[go_sem]
  refine wX hx cB rd_1 ?_
  simp[go_sem,GExpr.row_eq]
  refine zJ ⟨by omega,yC rfl⟩ ?_
  simp[go_sem]
  refine(A7 (isT L [44] x.2)).elim (fun q2=> ?_) (fun q2=> ?_)
  .rw[if_pos q2]at hinv
   refine zK (heatc true q2) cB (zM ⟨zC rfl,trivial⟩) rfl ?_
   simp[go_sem]
   refine zI (l++ [⟨2,x.1⟩],zO x.2) ⟨by simp;omega,⟨by simp;omega,hu2.trans (yT hL hu2.rin q2),by simp only[Aw,Bh,show 7 - (l.length+1)=6 - l.length by omega];exact hinv⟩, ?_⟩
   exact aM 2 (by simp[rB,ltOb,ltC,ltK]) (zG (by simp[go_sem]<;>exact⟨rfl,rfl,rfl,rfl,rfl,rfl⟩) rfl)
  .rw[if_neg (by rw[q2];decide)]at hinv
   refine zK (heatc false q2) cB (zM ⟨zC rfl,trivial⟩) rfl ?_
   simp[go_sem]
   exact xB (L:=L) zX ⟨by rw[<-hinv];simp[GItem.row]<;>exact⟨rfl,rfl,rfl,rfl,rfl,rfl⟩,by rw[<-hinv]⟩
variable {L:List GToken}
def whE (L:List GToken) (s:RS):Bool×GExpr:=if isT L zN1 s=true then(true,(exF L (zO s)).1)else(false,zeroE)
theorem xT4 (L:List GToken) (s:RS) (a b:List V): ∃g:Tag,whB L s a b (.box (a++ [.bool false,.int .i64 0,.str [],.int .i64 0,.int .i64 0,.str [],.sl .full []]++b))=
  .box (a++ [.bool (whE L s).1,.int .i64 (whE L s).2.kind,.str (whE L s).2.s,.int .i64 (whE L s).2.v.kind,.int .i64 (whE L s).2.v.n,.str (whE L s).2.v.s,.sl g ((whE L s).2.args.map GExpr.row)]++b):=by
 unfold whB whE
 by_cases q:isT L zN1 s=true
 .exact⟨.ro,by rw[if_pos q,if_pos q];simp[rowC]⟩
 .exact⟨.full,by rw[if_neg q,if_neg q];rfl⟩
theorem yk0 (L:List GToken) (hL:LIn L) (s:RS) (hs:RIn L s) (ho:s.opn=0) (τ:St) (j:Nat) (c0 c1 c2 c3 c4 c12 c13 c14:V) (hj:τ[j]? =some (.box [c0,c1,c2,c3,c4,.bool false,.int .i64 0,.str [],.int .i64 0,.int .i64 0,.str [],.sl .full [],c12,c13,c14])):
  ∃g:Tag,VCalls prog 91 [.ptr 0 0,.ptr (j+1) 0] (rB L s::τ) (fun r σ=>r= .tup []/\σ=rB L (whS L s)::τ.set j (.box [c0,c1,c2,c3,c4,.bool (whE L s).1,.int .i64 (whE L s).2.kind,.str (whE L s).2.s,.int .i64 (whE L s).2.v.kind,.int .i64 (whE L s).2.v.n,.str (whE L s).2.v.s,.sl g ((whE L s).2.args.map GExpr.row),c12,c13,c14])):=by
 obtain⟨g,hg⟩:=xT4 L s [c0,c1,c2,c3,c4] [c12,c13,c14]
 refine⟨g, ?_⟩
 have:=xJ9 L hL s hs ho τ j c0 c1 c2 c3 c4 _ _ _ _ _ _ _ c12 c13 c14 hj
 simp only[Bo,Ce]at hg
 rw[hg]at this
 exact this
def zA9:List UInt8:= [70,82,79,77]
def yT2:List UInt8:= [79,82,68,69,82]
def wBY:List UInt8:= [66,89]
def wASC:List UInt8:= [65,83,67]
def xz0:List UInt8:= [68,69,83,67]
def zD8:List UInt8:= [76,73,77,73,84]
def zG5 (L:List GToken) (s:RS):(List UInt8×Bool)×RS:=
 if isT L yT2 s=true then
  if isT L wASC (yW L (yD L wBY (zO s))).2=true then(((yW L (yD L wBY (zO s))).1,false),zO (yW L (yD L wBY (zO s))).2)
  else if isT L xz0 (yW L (yD L wBY (zO s))).2=true then(((yW L (yD L wBY (zO s))).1,true),zO (yW L (yD L wBY (zO s))).2)
  else(((yW L (yD L wBY (zO s))).1,false),(yW L (yD L wBY (zO s))).2)
 else(([],false),s)
def zG4 (L:List GToken) (s:RS):Int×RS:=if isT L zD8 s=true then numF L (zO s)else(-1,s)
theorem yh3 (hL:LIn L) {s:RS} (h:RIn L s):UI L s (zG5 L s).2:=by
 unfold zG5
 split
 .rename_i hi
  have h1:=yT hL h hi
  have h2:=h1.trans (yE hL wBY h1.rin)
  have h3:=h2.trans (zc7 hL h2.rin)
  split
  .exact h3.trans (yT hL h3.rin ‹_›)
  split
  .exact h3.trans (yT hL h3.rin ‹_›)
  .exact h3
 .exact UI.refl h
theorem yF2 (hL:LIn L) {s:RS} (h:RIn L s):UI L s (zG4 L s).2:=by
 unfold zG4
 split
 .rename_i hi
  have h1:=yT hL h hi
  exact h1.trans (yP4 hL h1.rin)
 .exact UI.refl h
def zk0 (L:List GToken) (s:RS):GStmt×RS:=
 let x:=zo0 L s
 let n:=yW L (yD L zA9 x.2)
 let w:=whE L n.2
 let o:=zG5 L (whS L n.2)
 let l:=zG4 L o.2
 (⟨1,n.1,x.1,[],[],w.1,w.2,o.1.1,o.1.2,l.1⟩,l.2)
theorem yp4 (hL:LIn L): ∀(n:Nat) (l:List GItem) (s:RS),RIn L s->s.opn=0->UI L s (zu0 L n l s).2
 |0,_,_,h,_=>UI.refl h
 |n+1,l,s,h,ho=>by
  unfold zu0
  split
  .rename_i he
   have h1:=yv5 hL h ho
   split
   .have h2:=h1.trans (yT hL h1.rin ‹_›)
    exact h2.trans (yp4 hL n _ _ h2.rin (h2.opn.trans ho))
   .exact h1
  .exact zm5 h
theorem yf1 (hL:LIn L) {s:RS} (h:RIn L s) (ho:s.opn=0):UI L s (zo0 L s).2:=by
 unfold zo0
 split
 .exact yT hL h ‹_›
 .exact yp4 hL 7 [] s h ho
def RT (L:List GToken) (x:GStmt×RS):V->St->Prop:=fun r σ=>r= .agg x.1.row/\σ= [rB L x.2]
theorem zg6 {g1 g2 g3 g4:Tag} {τ:St} {st:GStmt} {s:RS} {M:GStmt×RS} (h:(st,s)=M):
  wret (some (.agg [.int .i64 st.kind,.str st.table,.sl g1 (st.items.map GItem.row),.sl g2 (st.rows.map fun l=> [V.sl .ro (l.map GExpr.row)]),.sl g3 (st.sets.map GAssign.row),.bool st.filtered,.int .i64 st.where_.kind,.str st.where_.s,.int .i64 st.where_.v.kind,.int .i64 st.where_.v.n,.str st.where_.v.s,.sl g4 (st.where_.args.map GExpr.row),.str st.order,.bool st.down,.int .i64 st.limit])) 1 (RT L M) (rB L s::τ):=by
 subst h
 exact xB (L:=L) (r:= .agg st.row) (zt4 ⟨zZ rfl,zZ rfl,yX,yX,yX,zZ rfl,zZ rfl,zZ rfl,zZ rfl,zZ rfl,zZ rfl,yX,zZ rfl,zZ rfl,zZ rfl,trivial⟩) ⟨rfl,rfl⟩
theorem yg7 (st:GStmt):noS (.agg st.row)=true:=rfl
theorem xi5 (L:List GToken) (hL:LIn L) (s:RS) (hs:RIn L s) (ho:s.opn=0):VCalls prog 87 [.ptr 0 0] [rB L s] (RT L (zk0 L s)):=by
 generalize hM:zk0 L s=M
 unfold zk0 at hM
 have hx:=xE8 L hL s hs ho
 have hu1:=yf1 hL hs ho
 generalize zo0 L s=x at hx hu1 hM
 obtain⟨xl,s1⟩:=x
 simp only at hx hu1 hM
 have hm:=zd4 L hL s1 hu1.rin zA9
 have hu2:=hu1.trans (yE hL zA9 hu1.rin)
 generalize yD L zA9 s1=s2 at hm hu2 hM
 have hn:=zM1 L hL s2 hu2.rin
 have hu3:=hu2.trans (zc7 hL hu2.rin)
 generalize yW L s2=n at hn hu3 hM
 obtain⟨nm,s3⟩:=n
 simp only at hn hu3 hM
 obtain⟨gw,hw⟩:=yk0 L hL s3 hu3.rin (hu3.opn.trans ho) [.box [.int .i64 0,.str [],.sl .full [],.sl .full [],.sl .full [],.bool false,.int .i64 0,.str [],.int .i64 0,.int .i64 0,.str [],.sl .full [],.str [],.bool false,.int .i64 0],.box [.int .i64 1,.str nm,.sl .ro (xl.map GItem.row),.sl .full [],.sl .full [],.bool false,.int .i64 0,.str [],.int .i64 0,.int .i64 0,.str [],.sl .full [],.str [],.bool false,.int .i64 (-1)]] 1 _ _ _ _ _ _ _ _ rfl
 have hu4:=hu3.trans (ys7 hL hu3.rin (hu3.opn.trans ho))
 generalize whS L s3=s4 at hw hu4 hM
 generalize whE L s3=w at hw hM
 obtain⟨wb,we⟩:=w
 simp only[C6,D9]at hw hM
 have hou:=yh3 hL hu4.rin
 generalize hO:zG5 L s4=o at hou hM
 obtain⟨⟨on,od⟩,s5⟩:=o
 simp only at hou hM
 have hu5:=hu4.trans hou
 generalize hl:zG4 L s5=l at hM
 obtain⟨ll,s6⟩:=l
 simp only at hM
 unfold zG5 at hO
 unfold zG4 at hl
 refine iW 1 func87 ntmps87 results87 fun c hc hb=>zN ?_
 simp[go_sem]
 refine zK hx cB rd_1 rfl ?_
 simp[go_sem]
 refine zK hm cB (zM ⟨zC rfl,trivial⟩) rfl ?_
 simp[go_sem]
 refine zK hn cB rd_1 rfl ?_
 simp[go_sem]
 refine zB0 hw cB ?_
 rintro r σ ⟨rfl,rfl⟩ _
 simp[go_sem]
 by_cases qO:isT L yT2 s4=true
 rotate_left
 .have qO:isT L yT2 s4=false:=by simpa using qO
  rw[if_neg (by rw[qO];decide)]at hO
  obtain⟨⟨rfl,rfl⟩,rfl⟩:([]=on/\false=od)/\s4=s5:=by simpa using hO
  refine zK (wH L hL s4 hu4.rin _ qO) cB (zM ⟨zC rfl,trivial⟩) rfl ?_
  simp[go_sem]
  by_cases qL:isT L zD8 s4=true
  .rw[if_pos qL]at hl
   have hnu:=yq2 L hL (zO s4) (hu5.rin.next hL qL)
   rw[hl]at hnu
   refine zK (xH L hL s4 hu5.rin _ qL) cB (zM ⟨zC rfl,trivial⟩) rfl ?_
   simp[go_sem]
   refine zK hnu cB rd_1 rfl ?_
   simp[go_sem]
   exact zg6 (st:=⟨1,nm,xl,[],[],wb,we,_,_,ll⟩) hM
  .have qL:isT L zD8 s4=false:=by simpa using qL
   rw[if_neg (by rw[qL];decide)]at hl
   obtain⟨rfl,rfl⟩: -1=ll/\s4=s6:=by simpa using hl
   refine zK (wH L hL s4 hu5.rin _ qL) cB (zM ⟨zC rfl,trivial⟩) rfl ?_
   simp[go_sem]
   exact zg6 (st:=⟨1,nm,xl,[],[],wb,we,_,_,-1⟩) hM
 rw[if_pos qO]at hO
 have h1:=yT hL hu4.rin qO
 have hb1:=zd4 L hL _ h1.rin wBY
 have h2:=yE hL wBY h1.rin
 generalize yD L wBY (zO s4)=t1 at hb1 h2 hO
 have hb2:=zM1 L hL _ h2.rin
 have h3:=zc7 hL h2.rin
 generalize yW L t1=n2 at hb2 h3 hO
 obtain⟨nm2,t2⟩:=n2
 simp only at hb2 h3 hO
 refine zK (xH L hL s4 hu4.rin _ qO) cB (zM ⟨zC rfl,trivial⟩) rfl ?_
 simp[go_sem]
 refine zK hb1 cB (zM ⟨zC rfl,trivial⟩) rfl ?_
 simp[go_sem]
 refine zK hb2 cB rd_1 rfl ?_
 simp[go_sem]
 by_cases qA:isT L wASC t2=true
 .rw[if_pos qA]at hO
  obtain⟨⟨rfl,rfl⟩,rfl⟩:(nm2=on/\false=od)/\zO t2=s5:=by simpa using hO
  refine zK (xH L hL t2 h3.rin _ qA) cB (zM ⟨zC rfl,trivial⟩) rfl ?_
  simp[go_sem]
  by_cases qL:isT L zD8 (zO t2)=true
  .rw[if_pos qL]at hl
   have hnu:=yq2 L hL (zO (zO t2)) (hu5.rin.next hL qL)
   rw[hl]at hnu
   refine zK (xH L hL (zO t2) hu5.rin _ qL) cB (zM ⟨zC rfl,trivial⟩) rfl ?_
   simp[go_sem]
   refine zK hnu cB rd_1 rfl ?_
   simp[go_sem]
   exact zg6 (st:=⟨1,nm,xl,[],[],wb,we,_,_,ll⟩) hM
  .have qL:isT L zD8 (zO t2)=false:=by simpa using qL
   rw[if_neg (by rw[qL];decide)]at hl
   obtain⟨rfl,rfl⟩: -1=ll/\(zO t2)=s6:=by simpa using hl
   refine zK (wH L hL (zO t2) hu5.rin _ qL) cB (zM ⟨zC rfl,trivial⟩) rfl ?_
   simp[go_sem]
   exact zg6 (st:=⟨1,nm,xl,[],[],wb,we,_,_,-1⟩) hM
 have qA:isT L wASC t2=false:=by simpa using qA
 rw[if_neg (by rw[qA];decide)]at hO
 refine zK (wH L hL t2 h3.rin _ qA) cB (zM ⟨zC rfl,trivial⟩) rfl ?_
 simp[go_sem]
 by_cases qD:isT L xz0 t2=true
 .rw[if_pos qD]at hO
  obtain⟨⟨rfl,rfl⟩,rfl⟩:(nm2=on/\true=od)/\zO t2=s5:=by simpa using hO
  refine zK (xH L hL t2 h3.rin _ qD) cB (zM ⟨zC rfl,trivial⟩) rfl ?_
  simp[go_sem]
  by_cases qL:isT L zD8 (zO t2)=true
  .rw[if_pos qL]at hl
   have hnu:=yq2 L hL (zO (zO t2)) (hu5.rin.next hL qL)
   rw[hl]at hnu
   refine zK (xH L hL (zO t2) hu5.rin _ qL) cB (zM ⟨zC rfl,trivial⟩) rfl ?_
   simp[go_sem]
   refine zK hnu cB rd_1 rfl ?_
   simp[go_sem]
   exact zg6 (st:=⟨1,nm,xl,[],[],wb,we,_,_,ll⟩) hM
  .have qL:isT L zD8 (zO t2)=false:=by simpa using qL
   rw[if_neg (by rw[qL];decide)]at hl
   obtain⟨rfl,rfl⟩: -1=ll/\(zO t2)=s6:=by simpa using hl
   refine zK (wH L hL (zO t2) hu5.rin _ qL) cB (zM ⟨zC rfl,trivial⟩) rfl ?_
   simp[go_sem]
   exact zg6 (st:=⟨1,nm,xl,[],[],wb,we,_,_,-1⟩) hM
 .have qD:isT L xz0 t2=false:=by simpa using qD
  rw[if_neg (by rw[qD];decide)]at hO
  obtain⟨⟨rfl,rfl⟩,rfl⟩:(nm2=on/\false=od)/\t2=s5:=by simpa using hO
  refine zK (wH L hL t2 h3.rin _ qD) cB (zM ⟨zC rfl,trivial⟩) rfl ?_
  simp[go_sem]
  by_cases qL:isT L zD8 t2=true
  .rw[if_pos qL]at hl
   have hnu:=yq2 L hL (zO t2) (hu5.rin.next hL qL)
   rw[hl]at hnu
   refine zK (xH L hL t2 hu5.rin _ qL) cB (zM ⟨zC rfl,trivial⟩) rfl ?_
   simp[go_sem]
   refine zK hnu cB rd_1 rfl ?_
   simp[go_sem]
   exact zg6 (st:=⟨1,nm,xl,[],[],wb,we,_,_,ll⟩) hM
  .have qL:isT L zD8 t2=false:=by simpa using qL
   rw[if_neg (by rw[qL];decide)]at hl
   obtain⟨rfl,rfl⟩: -1=ll/\t2=s6:=by simpa using hl
   refine zK (wH L hL t2 hu5.rin _ qL) cB (zM ⟨zC rfl,trivial⟩) rfl ?_
   simp[go_sem]
   exact zg6 (st:=⟨1,nm,xl,[],[],wb,we,_,_,-1⟩) hM
variable {L:List GToken}
def rowL (L:List GToken):Nat->List GExpr->RS->Bool×List GExpr×RS
 |0,l,s=>(false,l,s)
 |n+1,l,s=>
  if(zf1 L l.length 6 (begF L false s) s).err=0 then
   (if isT L [44] (exF L s).2=true then rowL L n (l++ [(exF L s).1]) (zO (exF L s).2)else(true,l++ [(exF L s).1],(exF L s).2))
  else(false,l,zf1 L l.length 6 (begF L false s) s)
def zE8 (L:List GToken):Nat->List (List GExpr)->RS->List (List GExpr)×RS
 |0,R,s=>(R,s)
 |n+1,R,s=>
  if(zf1 L R.length 16 (isT L [40] s) s).err=0 then
   (if(rowL L 7 [] (yD L [40] s)).1=true then
    (if isT L [44] (yD L [41] (rowL L 7 [] (yD L [40] s)).2.2)=true then zE8 L n (R++ [(rowL L 7 [] (yD L [40] s)).2.1]) (zO (yD L [41] (rowL L 7 [] (yD L [40] s)).2.2))
    else(R++ [(rowL L 7 [] (yD L [40] s)).2.1],yD L [41] (rowL L 7 [] (yD L [40] s)).2.2))
   else(R,(rowL L 7 [] (yD L [40] s)).2.2))
  else(R,zf1 L R.length 16 (isT L [40] s) s)
def yj7:List UInt8:= [73,78,84,79]
def zJ8:List UInt8:= [86,65,76,85,69,83]
def zj2 (L:List GToken) (s:RS):GStmt×RS:=
 let n:=yW L (yD L yj7 s)
 let r:=zE8 L 17 [] (yD L zJ8 n.2)
 (⟨2,n.1,[],r.1,[],false,zeroE,[],false,0⟩,r.2)
theorem yx8 (hL:LIn L): ∀(n:Nat) (l:List GExpr) (s:RS),RIn L s->s.opn=0->UI L s (rowL L n l s).2.2
 |0,_,_,h,_=>UI.refl h
 |n+1,l,s,h,ho=>by
  unfold rowL
  split
  .have h1:=zK3 hL h ho
   split
   .have h2:=h1.trans (yT hL h1.rin ‹_›)
    exact h2.trans (yx8 hL n _ _ h2.rin (h2.opn.trans ho))
   .exact h1
  .exact zm5 h
theorem yI7 (hL:LIn L): ∀(n:Nat) (R:List (List GExpr)) (s:RS),RIn L s->s.opn=0->UI L s (zE8 L n R s).2
 |0,_,_,h,_=>UI.refl h
 |n+1,R,s,h,ho=>by
  unfold zE8
  split
  .have h1:=yE hL [40] h
   have h2:=h1.trans (yx8 hL 7 [] _ h1.rin (h1.opn.trans ho))
   split
   .have h3:=h2.trans (yE hL [41] h2.rin)
    split
    .have h4:=h3.trans (yT hL h3.rin ‹_›)
     exact h4.trans (yI7 hL n _ _ h4.rin (h4.opn.trans ho))
    .exact h3
   .exact h2
  .exact zm5 h
theorem yO3 (hL:LIn L) {s:RS} (h:RIn L s) (ho:s.opn=0):UI L s (zj2 L s).2:=by
 unfold zj2
 have h1:=yE hL yj7 h
 have h2:=h1.trans (zc7 hL h1.rin)
 have h3:=h2.trans (yE hL zJ8 h2.rin)
 exact h3.trans (yI7 hL 17 [] _ h3.rin (h3.opn.trans ho))
def inB (nm:List UInt8) (R:List (List GExpr)):Ob:= .box [.int .i64 2,.str nm,.sl .full [],.sl (.app 3) (R.map fun l=> [V.sl .ro (l.map GExpr.row)]),.sl .full [],.bool false,.int .i64 0,.str [],.int .i64 0,.int .i64 0,.str [],.sl .full [],.str [],.bool false,.int .i64 0]
def zSt:Ob:= .box [.int .i64 0,.str [],.sl .full [],.sl .full [],.sl .full [],.bool false,.int .i64 0,.str [],.int .i64 0,.int .i64 0,.str [],.sl .full [],.str [],.bool false,.int .i64 0]
theorem xe4 (L:List GToken) (hL:LIn L) (s0:RS) (hs0:RIn L s0) (ho0:s0.opn=0):VCalls prog 88 [.ptr 0 0] [rB L s0] (RT L (zj2 L s0)):=by
 generalize hM:zj2 L s0=M
 unfold zj2 at hM
 have hm1:=zd4 L hL s0 hs0 yj7
 have hu1:=yE hL yj7 hs0
 generalize yD L yj7 s0=s1 at hm1 hu1 hM
 have hn:=zM1 L hL s1 hu1.rin
 have hu2:=hu1.trans (zc7 hL hu1.rin)
 generalize yW L s1=n at hn hu2 hM
 obtain⟨nm,s2⟩:=n
 simp only at hn hu2 hM
 have hm2:=zd4 L hL s2 hu2.rin zJ8
 have hu3:=hu2.trans (yE hL zJ8 hu2.rin)
 generalize yD L zJ8 s2=s3 at hm2 hu3 hM
 obtain⟨X,hX⟩:=eX (zE8 L 17 [] s3)
 rw[hX]at hM
 have ret: ∀(R:List (List GExpr)) (s:RS) (τ:St),(R,s)=X->wret (some (.agg [.int .i64 2,.str nm,.sl .full [],.sl (.app 3) (R.map fun l=> [V.sl .ro (l.map GExpr.row)]),.sl .full [],.bool false,.int .i64 0,.str [],.int .i64 0,.int .i64 0,.str [],.sl .full [],.str [],.bool false,.int .i64 0])) 1 (RT L M) (rB L s::τ):=fun R s τ h=>by
  subst h
  exact zg6 (st:=⟨2,nm,[],R,[],false,zeroE,[],false,0⟩) hM
 refine iV 1 func88 ntmps88 results88 fun c hc hb=> ?_
 refine zA ?_
 simp[go_sem]
 refine zK hm1 cB (zM ⟨zC rfl,trivial⟩) rfl ?_
 simp[go_sem]
 refine zK hn cB rd_1 rfl ?_
 simp[go_sem]
 refine zK hm2 cB (zM ⟨zC rfl,trivial⟩) rfl ?_
 simp[go_sem]
 refine zH6 2 3 1 _ (by decide) rfl rfl ?_
 simp only[C6,D9]
 refine zL (S:=List (List GExpr)×RS) [0,2,3] (fun u=> [.ptr 0 0,.ptr 1 0,.ptr 2 0]) (fun u=> [rB L u.2,zSt,inB nm u.1,.app u.1.length 1]) (fun u=>17 - u.1.length) (fun u=>u.1.length<=16/\UI L s0 u.2/\zE8 L (17 - u.1.length) u.1 u.2=X) hc hb ([],s3) ⟨A3 _,hu3,hX⟩ ?_ ?_
 .exact at_n 4 (by simp[go_sem];exact⟨rfl,rfl⟩) rfl (by simp[rB,zSt,inB,ltOb,ltC,ltK]) (by decide) (zG (by simp[go_sem]) rfl)
 rintro⟨R,s⟩ ⟨hR,hu,hinv⟩
 simp only at hR hu hinv
 have hs:=hu.rin
 have ho:=hu.opn.trans ho0
 have hbeg:=is_w L hL s hs [40]
 have hmore:=yg4 L hL s hs R.length 16 (isT L [40] s)
 have hme:=zf5 (L:=L) (n:=R.length) (most:=16) (b:=isT L [40] s) (s:=s)
 rw[show 17 - R.length=(16 - R.length)+1 by omega,zE8]at hinv
 generalize isT L [40] s=bg at hbeg hmore hme hinv
 generalize zf1 L R.length 16 bg s=m at hmore hme hinv
 by_cases q:m.err=0
 rotate_left
 .have q':(m.err==0)=false:=by simpa using q
  rw[if_neg q]at hinv
  rw[q']at hmore
  refine zA ?_
  simp[go_sem]
  refine za0 [(5,3),(6,3)] 1 4 (by simp) (by kernel_rfl) (by kernel_rfl) ?_
  simp[go_sem,inB]
  refine zv6 hbeg cB (zM ⟨zC rfl,trivial⟩) rfl ?_
  simp[go_sem]
  refine zv6 hmore cB (zM ⟨zC rfl,zC rfl,zC rfl,trivial⟩) rfl ?_
  simp[go_sem]
  exact ret _ _ _ hinv
 have q':(m.err==0)=true:=by simpa using q
 obtain⟨he,hl6,rfl⟩:=hme q
 rw[if_pos q]at hinv
 rw[q']at hmore
 have hm4:=zd4 L hL m hs [40]
 have hu4:=hu.trans (yE hL [40] hs)
 generalize yD L [40] m=s4 at hm4 hu4 hinv
 obtain⟨Y,hY⟩:=eX (rowL L 7 [] s4)
 rw[hY]at hinv
 refine zA ?_
 simp[go_sem]
 refine za0 [(5,3),(6,3)] 1 4 (by simp) (by kernel_rfl) (by kernel_rfl) ?_
 simp[go_sem,inB]
 refine zv6 hbeg cB (zM ⟨zC rfl,trivial⟩) rfl ?_
 simp[go_sem]
 refine zv6 hmore cB (zM ⟨zC rfl,zC rfl,zC rfl,trivial⟩) rfl ?_
 simp[go_sem]
 refine zK hm4 cB (zM ⟨zC rfl,trivial⟩) rfl ?_
 simp[go_sem]
 refine zn1 4 6 (by decide) (by simp[go_sem]) ?_
 refine zL (S:=List GExpr×RS) [0,2,3,4] (fun u=> [.ptr 0 0,.ptr 1 0,.ptr 2 0,.sl (.app 4) (u.1.map GExpr.row)]) (fun u=> [rB L u.2,zSt,inB nm R,.app R.length 1,.app u.1.length 6]) (fun u=>7 - u.1.length) (fun u=>u.1.length<=6/\UI L s0 u.2/\rowL L (7 - u.1.length) u.1 u.2=Y) hc hb ([],s4) ⟨A3 _,hu4,hY⟩ ?_ ?_
 .exact at_n 5 (by simp[go_sem];rfl) rfl (by simp[rB,zSt,inB,ltOb,ltC,ltK]) (by decide) (zG (by simp[go_sem]) rfl)
 rintro⟨l,t⟩ ⟨hl,hut,hrow⟩
 simp only at hl hut hrow
 have ht:=hut.rin
 have hto:=hut.opn.trans ho0
 have hbeg2:=yB2 L hL t ht false
 have hmore2:=yg4 L hL t ht l.length 6 (begF L false t)
 have hme2:=zf5 (L:=L) (n:=l.length) (most:=6) (b:=begF L false t) (s:=t)
 rw[show 7 - l.length=(6 - l.length)+1 by omega,rowL]at hrow
 generalize begF L false t=bg2 at hbeg2 hmore2 hme2 hrow
 generalize zf1 L l.length 6 bg2 t=m2 at hmore2 hme2 hrow
 by_cases q2:m2.err=0
 rotate_left
 .have q2':(m2.err==0)=false:=by simpa using q2
  rw[if_neg q2]at hrow
  rw[q2']at hmore2
  have hY1:Y.1=false:=by rw[<-hrow]
  have hY2:Y.2.2=m2:=by rw[<-hrow]
  rw[if_neg (by rw[hY1];decide),hY2]at hinv
  refine zA ?_
  simp[go_sem]
  refine zK hbeg2 cB (zM ⟨zC rfl,trivial⟩) rfl ?_
  simp[go_sem]
  refine zK hmore2 cB (zM ⟨zC rfl,zC rfl,zC rfl,trivial⟩) rfl ?_
  simp[go_sem,inB]
  exact ret _ _ _ hinv
 have q2':(m2.err==0)=true:=by simpa using q2
 obtain⟨he2,hl62,rfl⟩:=hme2 q2
 rw[if_pos q2]at hrow
 rw[q2']at hmore2
 have hx:=ex_w L hL m2 ht hto
 have hux:=hut.trans (zK3 hL ht hto)
 generalize exF L m2=x at hx hux hrow
 by_cases q3:isT L [44] x.2=true
 .rw[if_pos q3]at hrow
  refine zA ?_
  simp[go_sem]
  refine zK hbeg2 cB (zM ⟨zC rfl,trivial⟩) rfl ?_
  simp[go_sem]
  refine zK hmore2 cB (zM ⟨zC rfl,zC rfl,zC rfl,trivial⟩) rfl ?_
  simp[go_sem]
  refine wX hx cB rd_1 ?_
  simp[go_sem,GExpr.row_eq]
  refine zJ ⟨by omega,yC rfl⟩ ?_
  simp[go_sem]
  refine zK (xH L hL x.2 hux.rin _ q3) cB (zM ⟨zC rfl,trivial⟩) rfl ?_
  simp[go_sem]
  refine zI (l++ [x.1],zO x.2) ⟨by simp;omega,⟨by simp;omega,hux.trans (yT hL hux.rin q3),by simp only[Aw,Bh,show 7 - (l.length+1)=6 - l.length by omega];exact hrow⟩, ?_⟩
  exact aM 5 (by simp[rB,zSt,inB,ltOb,ltC,ltK]) (zG (by simp[go_sem,GExpr.row_eq]) rfl)
 have q3:isT L [44] x.2=false:=by simpa using q3
 rw[if_neg (by rw[q3];decide)]at hrow
 have hY1:Y.1=true:=by rw[<-hrow]
 have hY2:Y.2.2=x.2:=by rw[<-hrow]
 have hY3:Y.2.1=l++ [x.1]:=by rw[<-hrow]
 rw[if_pos hY1,hY2,hY3]at hinv
 have hm5:=zd4 L hL x.2 hux.rin [41]
 have hu5:=hux.trans (yE hL [41] hux.rin)
 generalize yD L [41] x.2=s5 at hm5 hu5 hinv
 refine zA ?_
 simp[go_sem]
 refine zK hbeg2 cB (zM ⟨zC rfl,trivial⟩) rfl ?_
 simp[go_sem]
 refine zK hmore2 cB (zM ⟨zC rfl,zC rfl,zC rfl,trivial⟩) rfl ?_
 simp[go_sem]
 refine wX hx cB rd_1 ?_
 simp[go_sem,GExpr.row_eq]
 refine zJ ⟨by omega,yC rfl⟩ ?_
 simp[go_sem]
 refine zK (wH L hL x.2 hux.rin _ q3) cB (zM ⟨zC rfl,trivial⟩) rfl ?_
 simp[go_sem]
 refine zK hm5 cB (zM ⟨zC rfl,trivial⟩) rfl ?_
 simp[go_sem,inB]
 refine zJ ⟨by omega,yC rfl⟩ ?_
 simp[go_sem]
 by_cases q5:isT L [44] s5=true
 .rw[if_pos q5]at hinv
  refine zK (xH L hL s5 hu5.rin _ q5) cB (zM ⟨zC rfl,trivial⟩) rfl ?_
  simp[go_sem]
  refine zI (R++ [l++ [x.1]],zO s5) ⟨by simp;omega,⟨by simp;omega,hu5.trans (yT hL hu5.rin q5),by simp only[Aw,Bh,show 17 - (R.length+1)=16 - R.length by omega];exact hinv⟩, ?_⟩
  exact at_n 4 (by simp[go_sem,GExpr.row_eq]) rfl (by simp[rB,zSt,ltOb,ltC,ltK]) (by decide) (zG (by simp[go_sem]) rfl)
 .have q5:isT L [44] s5=false:=by simpa using q5
  rw[if_neg (by rw[q5];decide)]at hinv
  refine zK (wH L hL s5 hu5.rin _ q5) cB (zM ⟨zC rfl,trivial⟩) rfl ?_
  simp[go_sem]
  have hr:=ret (R++ [l++ [x.1]]) s5
  simp[GExpr.row_eq]at hr
  exact hr _ hinv
end Go.Proofs.YtkigddpaonhmlaaGreat
