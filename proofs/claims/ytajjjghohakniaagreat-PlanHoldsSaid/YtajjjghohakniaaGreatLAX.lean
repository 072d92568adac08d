/-
  The document's reader of statements: what a SELECT tells, and WHERE, over trees (the library Vx); used by the theorem at the end of the claim.
  Conditions: as each theorem states them.
-/
import Derived.Test.YtajjjghohakniaaGreatLAW
namespace Go.Proofs.YtajjjghohakniaaGreat
open Go Go.Vx
set_option maxRecDepth 100000
theorem zL6 (v:GValue):Pure Tryz.prog 250 [.agg v.row] (.agg (valE v).row):=by
 refine VCalls.intro 0 Tryz.func250 Tryz.ntmps250 Tryz.results250 rfl rfl (Nat.le_of_ble_eq_true rfl) fun c hc hb=>zJ ?_
 simp[go_sem]
 exact zQ (r:= .agg [.int .i64 1,.str [],.int .i64 v.kind,.int .i64 v.n,.str v.s,.sl .ro []]) (zn0 ⟨zZ rfl,zZ rfl,zZ rfl,zZ rfl,zZ rfl,wD,trivial⟩) ⟨rfl,rfl⟩
theorem xM (L:List GToken) (hL:LIn L) (s:RS) (hs:RIn L s) (w:List UInt8) (h:isT L w s=true):VCalls Tryz.prog 68 [.ptr 0 0,.str w] [rB L s] (fun r σ=>r= .bool true∧σ= [rB L (zM s)]):=by
 have:=zU6 L hL s hs w
 unfold eatF at this
 rw[if_pos h,h]at this
 exact this
theorem wC (L:List GToken) (hL:LIn L) (s:RS) (hs:RIn L s) (w:List UInt8) (h:isT L w s=false):VCalls Tryz.prog 68 [.ptr 0 0,.str w] [rB L s] (fun r σ=>r= .bool false∧σ= [rB L s]):=by
 have:=zU6 L hL s hs w
 unfold eatF at this
 rw[if_neg (by rw[h];decide),h]at this
 exact this
theorem xp7 (L:List GToken) (hL:LIn L) (rec:Nat→RS→PR) (s:RS) (hs:RIn L s) (hP:PW L rec s.opn)
  (hex: ∀s',RIn L s'→s'.opn=s.opn→VCalls Tryz.prog 161 [.ptr 0 0] [rB L s'] (RR L (rec 0 s'))):
  VCalls Tryz.prog 249 [.ptr 0 0] [rB L s] (RR L (zA2 L (rec 6) (rec 0) s)):=by
 generalize hM:zA2 L (rec 6) (rec 0) s=M
 unfold zA2 at hM
 have htok:=zn8 L hL s hs
 have hat:=hs.at_
 have hl:=hL.len
 have ei:IntKind.i64.wrap ((s.at_:Int)+1)=((s.at_+1:Nat):Int):=by rw[i64_id (by omega) (by omega)];omega
 have hname:=zH9 L hL s hs
 refine VCalls.intro 1 Tryz.func249 Tryz.ntmps249 Tryz.results249 rfl rfl (Nat.le_of_ble_eq_true rfl) fun c hc hb=>zJ ?_
 by_cases q1:isT L [45] s=true
 ·rw[if_pos q1]at hM
  have heat:=xM L hL s hs _ q1
  have hnx:=hs.next hL q1
  have hy:=hP.ok 6 (zM s) hnx rfl
  have hcy:=hP.unary (zM s) hnx rfl
  generalize rec 6 (zM s)=y at hy hcy hM
  have hop:=op_w L y.2 (tokF L s).place [78,69,71] [y.1] (by simp) (yk8 hy.wide) (fun he=>by
   have h1:=(hy.err he).2
   simp only[xL]
   omega)
  generalize opF (tokF L s).place [78,69,71] [y.1] y.2=z at hop hM
  simp only[List.map_cons,List.map_nil,GExpr.row_eq]at hop
  simp[go_sem]
  refine zH htok Tryz.callB70 rd_1 rfl ?_
  simp[go_sem]
  refine zH heat Tryz.callB68 (zL ⟨zA rfl,trivial⟩) rfl ?_
  simp[go_sem]
  refine wT [(4,3),(6,3)] 1 3 (by simp) (by kernel_rfl) (by kernel_rfl) ?_
  simp[go_sem]
  refine zo7 hcy Tryz.callB248 rd_1 ?_
  simp[go_sem,GExpr.row_eq]
  refine zo7 hop Tryz.callB217 (zL ⟨zA rfl,zA rfl,zW,trivial⟩) ?_
  simp[go_sem,GExpr.row_eq]
  exact xT hM.symm
 have q1:isT L [45] s=false:=by simpa using q1
 rw[if_neg (by rw[q1];decide)]at hM
 have heat1:=wC L hL s hs _ q1
 by_cases q2:isT L [40] s=true
 ·rw[if_pos q2]at hM
  have heat2:=xM L hL s hs _ q2
  have hnx:=hs.next hL q2
  have hy:=hP.ok 0 (zM s) hnx rfl
  have hcy:=hex (zM s) hnx rfl
  generalize rec 0 (zM s)=y at hy hcy hM
  have hmu:=zb7 L hL y.2 hy.rin [41]
  generalize yB L [41] y.2=u at hmu hM
  simp[go_sem]
  refine zH htok Tryz.callB70 rd_1 rfl ?_
  simp[go_sem]
  refine zH heat1 Tryz.callB68 (zL ⟨zA rfl,trivial⟩) rfl ?_
  simp[go_sem]
  refine zH heat2 Tryz.callB68 (zL ⟨zA rfl,trivial⟩) rfl ?_
  simp[go_sem]
  refine wP hcy Tryz.callB161 rd_1 ?_
  simp[go_sem,GExpr.row_eq]
  refine zH hmu Tryz.callB71 (zL ⟨zA rfl,trivial⟩) rfl ?_
  simp[go_sem]
  exact xT hM.symm
 have q2:isT L [40] s=false:=by simpa using q2
 rw[if_neg (by rw[q2];decide)]at hM
 have heat2:=wC L hL s hs _ q2
 simp[go_sem]
 refine zH htok Tryz.callB70 rd_1 rfl ?_
 simp[go_sem]
 refine zH heat1 Tryz.callB68 (zL ⟨zA rfl,trivial⟩) rfl ?_
 simp[go_sem]
 refine zH heat2 Tryz.callB68 (zL ⟨zA rfl,trivial⟩) rfl ?_
 simp[go_sem]
 by_cases q3:isT L [84,82,85,69] s=true
 ·rw[if_pos q3]at hM
  have hv:=zL6 ⟨1,1,[]⟩
  simp only[GExpr.row_eq,GValue.row]at hv
  refine zH (xM L hL s hs _ q3) Tryz.callB68 (zL ⟨zA rfl,trivial⟩) rfl ?_
  simp[go_sem]
  refine zD hv Tryz.callB250 (zG rfl) rfl ?_
  simp[go_sem]
  exact xT (e:=valE ⟨1,1,[]⟩) (s:=zM s) hM.symm
 have q3:isT L [84,82,85,69] s=false:=by simpa using q3
 rw[if_neg (by rw[q3];decide)]at hM
 refine zH (wC L hL s hs _ q3) Tryz.callB68 (zL ⟨zA rfl,trivial⟩) rfl ?_
 simp[go_sem]
 by_cases q4:isT L [70,65,76,83,69] s=true
 ·rw[if_pos q4]at hM
  have hv:=zL6 ⟨1,0,[]⟩
  simp only[GExpr.row_eq,GValue.row]at hv
  refine zH (xM L hL s hs _ q4) Tryz.callB68 (zL ⟨zA rfl,trivial⟩) rfl ?_
  simp[go_sem]
  refine zD hv Tryz.callB250 (zG rfl) rfl ?_
  simp[go_sem]
  exact xT (e:=valE ⟨1,0,[]⟩) (s:=zM s) hM.symm
 have q4:isT L [70,65,76,83,69] s=false:=by simpa using q4
 rw[if_neg (by rw[q4];decide)]at hM
 refine zH (wC L hL s hs _ q4) Tryz.callB68 (zL ⟨zA rfl,trivial⟩) rfl ?_
 simp[go_sem]
 by_cases q5:isT L zo1 s=true
 ·rw[if_pos q5]at hM
  have hv:=zL6 ⟨0,0,[]⟩
  simp only[GExpr.row_eq,GValue.row]at hv
  refine zH (xM L hL s hs _ q5) Tryz.callB68 (zL ⟨zA rfl,trivial⟩) rfl ?_
  simp[go_sem]
  refine zD hv Tryz.callB250 (zG rfl) rfl ?_
  simp[go_sem]
  exact xT (e:=valE ⟨0,0,[]⟩) (s:=zM s) hM.symm
 have q5:isT L zo1 s=false:=by simpa using q5
 rw[if_neg (by rw[q5];decide)]at hM
 refine zH (wC L hL s hs _ q5) Tryz.callB68 (zL ⟨zA rfl,trivial⟩) rfl ?_
 simp[go_sem]
 obtain⟨t,ht⟩: ∃t,tokF L s=t:=⟨_,rfl⟩
 rw[ht]at hM
 rw[ht]
 by_cases q6:t.kind=2
 ·rw[if_pos q6]at hM
  have hv:=zL6 ⟨2,t.n,[]⟩
  simp only[GExpr.row_eq,GValue.row]at hv
  have q6':(t.kind==2)=true:=by simpa using q6
  simp[go_sem,q6',rB,ei]
  refine zD hv Tryz.callB250 (zG rfl) rfl ?_
  simp[go_sem]
  exact xT (e:=valE ⟨2,t.n,[]⟩) (s:=zM s) hM.symm
 rw[if_neg q6]at hM
 have q6':(t.kind==2)=false:=by simpa using q6
 simp[go_sem,q6']
 by_cases q7:t.kind=3
 ·rw[if_pos q7]at hM
  have hv:=zL6 ⟨3,0,t.s⟩
  simp only[GExpr.row_eq,GValue.row]at hv
  have q7':(t.kind==3)=true:=by simpa using q7
  simp[go_sem,q7',rB,ei]
  refine zD hv Tryz.callB250 (zG rfl) rfl ?_
  simp[go_sem]
  exact xT (e:=valE ⟨3,0,t.s⟩) (s:=zM s) hM.symm
 rw[if_neg q7]at hM
 have q7':(t.kind==3)=false:=by simpa using q7
 simp[go_sem,q7']
 refine zH hname Tryz.callB117 rd_1 rfl ?_
 simp[go_sem]
 exact zu5 (e:=namE (yX L s).1) (s:=(yX L s).2) hM.symm
theorem xm4 (L:List GToken) (hL:LIn L) (rec:Nat→RS→PR) (s:RS) (hs:RIn L s) (h2:s.opn≤200) (hrec:s.opn+1≤200→PW L rec (s.opn+1))
  (hex:s.opn+1≤200→ ∀s',RIn L s'→s'.opn=s.opn+1→VCalls Tryz.prog 161 [.ptr 0 0] [rB L s'] (RR L (rec 0 s'))):
  VCalls Tryz.prog 248 [.ptr 0 0] [rB L s] (RR L (zd0 L (zf0 L rec 6) s)):=by
 have hr:=zI3 L hL s hs (by omega)
 have hrin:=zi0 hs h2
 have hro:=wZ (L:=L) s
 have hre:=ze5 (L:=L) (s:=s)
 have ho:=hs.opn
 have hM:zd0 L (zf0 L rec 6) s=if(yM L s).err=0 then((zA2 L (rec 6) (rec 0) (yM L s)).1,outF (zA2 L (rec 6) (rec 0) (yM L s)).2)else(zeroE,outF (yM L s)):=rfl
 generalize zd0 L (zf0 L rec 6) s=M at hM⊢
 generalize yM L s=s1 at hr hrin hro hre hM
 have eo:=zy0 (o:=s1.opn) (by omega) (by omega)
 refine VCalls.intro 1 Tryz.func248 Tryz.ntmps248 Tryz.results248 rfl rfl (Nat.le_of_ble_eq_true rfl) fun c hc hb=>zJ ?_
 by_cases q1:s1.err=0
 rotate_left
 ·have q1':(s1.err==0)=false:=by simpa using q1
  rw[if_neg q1]at hM
  rw[q1']at hr
  simp[go_sem]
  refine zH hr Tryz.callB214 rd_1 rfl ?_
  simp[go_sem,rB,eo]
  exact zu5 (e:=zeroE) (s:=outF s1) hM
 have q1':(s1.err==0)=true:=by simpa using q1
 rw[if_pos q1]at hM
 rw[q1']at hr
 have h200:=(hre q1).2
 have hP:PW L rec s1.opn:=by rw[hro];exact hrec h200
 have hok:=ym1 hL (hP.ok 6) (hP.ok 0) s1 hrin rfl
 have hcy:=xp7 L hL rec s1 hrin hP (fun s' h1 h2=>hex h200 s' h1 (by rw[h2,hro]))
 generalize zA2 L (rec 6) (rec 0) s1=z at hok hcy hM
 have eo2:IntKind.i64.wrap (z.2.opn - 1)=z.2.opn - 1:=by rw[hok.opn];exact eo
 simp[go_sem]
 refine zH hr Tryz.callB214 rd_1 rfl ?_
 simp[go_sem]
 refine wP hcy Tryz.callB249 rd_1 ?_
 simp[go_sem,rB,GExpr.row_eq,eo2]
 exact xT (s:=outF z.2) hM
theorem yE7 (L:List GToken) (s:RS) (x:PR) (hc0:VCalls Tryz.prog 189 [.ptr 0 0,.int .i64 0] [rB L s] (RR L x)):VCalls Tryz.prog 161 [.ptr 0 0] [rB L s] (RR L x):=by
 refine VCalls.intro 1 Tryz.func161 Tryz.ntmps161 Tryz.results161 rfl rfl (Nat.le_of_ble_eq_true rfl) fun c hc hb=>zJ ?_
 simp[go_sem]
 refine wP hc0 Tryz.callB189 (zL ⟨zA rfl,trivial⟩) ?_
 simp[go_sem,GExpr.row_eq]
 exact xT rfl
theorem yI7 (L:List GToken) (hL:LIn L): ∀(f:Nat) (o:Int),o≤200→201≤(f:Int)+o→PW L (pF L f) o
 |0,o,h,hf=>by omega
 |f+1,o,h,hf=>by
  have ih: ∀s:RS,s.opn=o→s.opn+1≤200→PW L (pF L f) (s.opn+1):=fun s hs h1=>yI7 L hL f (s.opn+1) h1 (by push_cast at hf;omega)
  have iex: ∀s:RS,s.opn=o→s.opn+1≤200→ ∀s',RIn L s'→s'.opn=s.opn+1→VCalls Tryz.prog 161 [.ptr 0 0] [rB L s'] (RR L (pF L f 0 s')):=fun s hs h1 s' h2 h3=>yE7 L s' _ ((ih s hs h1).chain 0 (Nat.zero_le _) s' h2 h3)
  refine⟨fun w s hs ho=>yH9 hL (f+1) w s hs (by omega) (by push_cast at hf⊢;omega),fun k hk s hs ho=> ?_,fun s hs ho=> ?_,fun s hs ho=> ?_,fun s hs ho=> ?_,fun s hs ho=> ?_,fun s hs ho=> ?_⟩
  ·have hk:k=0∨k=1:=by omega
   rcases hk with rfl|rfl
   ·exact yT7 L hL (pF L f) s hs (by omega) (ih s ho)
   ·exact yT8 L hL (pF L f) s hs (by omega) (ih s ho)
  ·exact xv7 L hL (pF L f) s hs (by omega) (ih s ho)
  ·exact xv1 L hL (pF L f) s hs (by omega) (ih s ho)
  ·exact xw4 L hL (pF L f) s hs (by omega) (ih s ho)
  ·exact xt1 L hL (pF L f) s hs (by omega) (ih s ho)
  ·exact xm4 L hL (pF L f) s hs (by omega) (ih s ho) (iex s ho)
def exF (L:List GToken) (s:RS):PR:=pF L 201 0 s
theorem yV2 {L:List GToken} (hL:LIn L) {s:RS} (hs:RIn L s) (ho:s.opn=0):PI L s (exF L s):=yH9 hL 201 0 s hs (by omega) (by omega)
theorem ex_w (L:List GToken) (hL:LIn L) (s:RS) (hs:RIn L s) (ho:s.opn=0):VCalls Tryz.prog 161 [.ptr 0 0] [rB L s] (RR L (exF L s)):=
 yE7 L s _ ((yI7 L hL 201 0 (by decide) (by decide)).chain 0 (Nat.zero_le _) s hs ho)
end Go.Proofs.YtajjjghohakniaaGreat
namespace Go.Proofs.YtajjjghohakniaaGreat
open Go Go.Vx
set_option maxRecDepth 100000
mutual
def zg4:GExpr→Nat
 | .mk _ _ _ args=>xZ args+1
def xZ:List GExpr→Nat
 | []=>0
 |e::l=>zg4 e+xZ l
end
theorem zs5 (e:GExpr):zg4 e=xZ e.args+1:=by cases e;rw[zg4];rfl
inductive Good:GExpr→Prop
 |mk (e:GExpr) (hk:i64R e.kind) (hs:e.s.length≤1048576) (hv:e.v.ok) (hn:e.v.s.length≤1048576) (ha: ∀x∈e.args,Good x):Good e
theorem Good.k {e:GExpr} (h:Good e):i64R e.kind:=by cases h;assumption
theorem Good.str {e:GExpr} (h:Good e):e.s.length≤1048576:=by cases h;assumption
theorem Good.v {e:GExpr} (h:Good e):e.v.ok:=by cases h;assumption
theorem Good.vs {e:GExpr} (h:Good e):e.v.s.length≤1048576:=by cases h;assumption
theorem Good.sub {e:GExpr} (h:Good e): ∀x∈e.args,Good x:=by cases h;assumption
theorem yi6:(⟨0,0,[]⟩:GValue).ok:=⟨by decide,by decide,by decide⟩
theorem xi3 {n:Int} (h:0≤n∧n≤9223372036854775807):(⟨2,n,[]⟩:GValue).ok:=⟨by simp only;omega,by simp only;omega,Nat.zero_le _⟩
theorem xm3 {s:List UInt8} (h:s.length≤1048576):(⟨3,0,s⟩:GValue).ok:=⟨by simp only;omega,by simp only;omega,by simp only[maxLen];omega⟩
theorem xh9 {w:List UInt8} {a:List GExpr} (h:w.length≤1048576) (ha: ∀x∈a,Good x):Good (opE w a):= .mk _ (by show i64R 3;unfold i64R;decide) h yi6 (Nat.zero_le _) ha
theorem zB1 {v:GValue} (h:v.ok) (h2:v.s.length≤1048576):Good (valE v):= .mk _ (by show i64R 1;unfold i64R;decide) (Nat.zero_le _) h h2 (fun x hx=>by cases hx)
theorem yW1 {w:List UInt8} (h:w.length≤1048576):Good (namE w):= .mk _ (by show i64R 2;unfold i64R;decide) h yi6 (Nat.zero_le _) (fun x hx=>by cases hx)
theorem yV9:Good zeroE:= .mk _ (by show i64R 0;unfold i64R;decide) (Nat.zero_le _) yi6 (Nat.zero_le _) (fun x hx=>by cases hx)
theorem yh3 {x:GExpr} (h:Good x): ∀e∈ [x],Good e:=fun e he=>by
 simp only[List.mem_cons,List.not_mem_nil,or_false]at he
 subst he
 exact h
theorem yW0 {x y:GExpr} (h:Good x) (h2:Good y): ∀e∈ [x,y],Good e:=fun e he=>by
 simp only[List.mem_cons,List.not_mem_nil,or_false]at he
 rcases he with rfl|rfl
 ·exact h
 ·exact h2
structure LGood (L:List GToken):Prop where
 txt: ∀t∈L,t.s.length≤1048576
 num: ∀t∈L,0≤t.n∧t.n≤9223372036854775807
variable {L:List GToken}
theorem zv9 {s:RS} (hs:RIn L s):tokF L s∈L:=by
 unfold tokF
 rw[List.getD_eq_getElem?_getD,List.getElem?_eq_getElem hs.at_]
 exact List.getElem_mem _
theorem yF5 (hG:LGood L) {w:List UInt8} {s:RS} (hs:RIn L s) (h:isT L w s=true):w.length≤1048576:=by
 have:=hG.txt _ (zv9 hs)
 unfold isT at h
 simp only[Bool.and_eq_true,beq_iff_eq]at h
 rw[←h.2.2]
 exact this
theorem zh1 (hG:LGood L) {s:RS} (hs:RIn L s):(yX L s).1.length≤1048576:=by
 unfold yX
 split
 ·exact hG.txt _ (zv9 hs)
 ·exact Nat.zero_le _
structure PJ (s:RS) (x:PR):Prop where
 good:Good x.1
 size:x.2.err=0→zg4 x.1+s.at_≤x.2.at_
abbrev PK (L:List GToken) (s:RS) (x:PR):Prop:=PI L s x∧PJ s x
theorem xl6 (w:List UInt8) (a:List GExpr):zg4 (opE w a)=xZ a+1:=zs5 _
theorem yj8 (x:GExpr):xZ [x]=zg4 x:=by simp[xZ]
theorem xc1 (x y:GExpr):xZ [x,y]=zg4 x+zg4 y:=by simp[xZ]
theorem ye9 {e:GExpr} (h:e.args= []):zg4 e=1:=by rw[zs5,h];rfl
theorem ya5 {s0 s:RS} (p:Int) {w:List UInt8} {a:List GExpr} (h1:w.length≤1048576) (h2: ∀x∈a,Good x) (h3:s.err=0→xZ a+1+s0.at_≤s.at_):PJ s0 (opF p w a s):=
 ⟨xh9 h1 h2,fun he=>by
  have h:=yj1 (p:=p) (w:=w) (a:=a) (s:=s) he
  show zg4 (opE w a)+s0.at_≤(opS p w a s).at_
  rw[zI0,xl6]
  exact h3 h.1⟩
theorem zX0 (hL:LIn L) (hG:LGood L) {o:Int} {sub:RS→PR} (hsub: ∀s,RIn L s→s.opn=o→PK L s (sub s)) (ws:List (List UInt8)) {s0:RS}: ∀(n:Nat) (x:PR),PK L s0 x→s0.opn=o→PJ s0 (opsF L ws sub n x)
 |0,x,h,_=>h.2
 |n+1,x,h,ho=>by
  have hstep:=zE5 hL (fun s h1 h2=>(hsub s h1 h2).1) ws 1 x h.1 ho
  unfold opsF
  unfold opsF at hstep
  split
  ·exact h.2
  rename_i hne
  rw[if_neg hne]at hstep
  have hi:=zw5 hne
  have hx:=h.1.opn
  have hy:=hsub (zM x.2) (h.1.rin.next hL hi) (by show x.2.opn=o;rw[hx,ho])
  have hl:=yF5 hG h.1.rin hi
  have hstep:PI L s0 (opF (tokF L x.2).place (anyF L x.2 ws) [x.1,(sub (zM x.2)).1] (sub (zM x.2)).2):=hstep
  refine zX0 hL hG hsub ws n _ ⟨hstep,ya5 _ hl (yW0 h.2.good hy.2.good) (fun he=> ?_)⟩ ho
  have h1:=hy.2.size he
  have h2:=h.2.size (hy.1.err he).1
  rw[wW]at h1
  rw[xc1]
  omega
theorem xs3 (hL:LIn L) (_hG:LGood L) {o:Int} {rn rc:RS→PR} (h1: ∀s,RIn L s→s.opn=o→PK L s (rn s)) (h2: ∀s,RIn L s→s.opn=o→PK L s (rc s)) (s:RS) (hs:RIn L s) (ho:s.opn=o):PJ s (notK L rn rc s):=by
 unfold notK
 split
 ·rename_i hi
  have hy:=h1 (zM s) (hs.next hL hi) ho
  refine ya5 _ (by decide) (yh3 hy.2.good) (fun he=> ?_)
  have h:=hy.2.size he
  rw[wW]at h
  rw[yj8]
  omega
 ·exact(h2 s hs ho).2
theorem xq1 (hL:LIn L) (hG:LGood L) {o:Int} {sub:RS→PR} (hsub: ∀s,RIn L s→s.opn=o→PK L s (sub s)) (s:RS) (ho:s.opn=o) (x:PR) (h:PK L s x):PJ s (cmpJ L sub x):=by
 have hx:=h.1.opn
 unfold cmpJ
 split
 ·rename_i hi
  split
  ·rename_i hi2
   refine ya5 _ (by decide) (yh3 h.2.good) (fun he=> ?_)
   have h1:=h.2.size (zh0 he).1
   have h2:=zr6 (L:=L) zo1 (zM (zM x.2))
   simp only[wW]at h2
   rw[yj8]
   omega
  ·refine ya5 _ (by decide) (yh3 h.2.good) (fun he=> ?_)
   have h1:=h.2.size (zh0 he).1
   have h2:=zr6 (L:=L) zo1 (zM x.2)
   simp only[wW]at h2
   rw[yj8]
   omega
 ·split
  ·exact h.2
  rename_i hne
  have hi:=zw5 hne
  have hy:=hsub (zM x.2) (h.1.rin.next hL hi) (by show x.2.opn=o;rw[hx,ho])
  have hl:=yF5 hG h.1.rin hi
  refine ya5 _ hl (yW0 h.2.good hy.2.good) (fun he=> ?_)
  have h1:=hy.2.size he
  have h2:=h.2.size (hy.1.err he).1
  rw[wW]at h1
  rw[xc1]
  omega
theorem zD2 {s s2:RS} {e:GExpr} (ha:e.args= []) (h:Good e) (h2:s2.err=0→s2.at_=s.at_+1):PJ s (e,s2):=⟨h,fun he=>by
 have:=h2 he
 simp only[ye9 ha]
 omega⟩
theorem xg2 (hL:LIn L) (hG:LGood L) {o:Int} {un ex:RS→PR} (h1: ∀s,RIn L s→s.opn=o→PK L s (un s)) (h2: ∀s,RIn L s→s.opn=o→PK L s (ex s)) (s:RS) (hs:RIn L s) (ho:s.opn=o):PJ s (zA2 L un ex s):=by
 have hm:=zv9 hs
 unfold zA2
 split
 ·rename_i hi
  have hy:=h1 (zM s) (hs.next hL hi) ho
  refine ya5 _ (by decide) (yh3 hy.2.good) (fun he=> ?_)
  have h:=hy.2.size he
  rw[wW]at h
  rw[yj8]
  omega
 split
 ·rename_i hi
  have hy:=h2 (zM s) (hs.next hL hi) ho
  refine⟨hy.2.good,fun he=> ?_⟩
  have h:=hy.2.size (zh0 he).1
  have h3:=zr6 (L:=L) [41] (ex (zM s)).2
  rw[wW]at h
  show zg4 (ex (zM s)).1+s.at_≤(yB L [41] (ex (zM s)).2).at_
  omega
 split
 ·exact zD2 rfl (zB1 ⟨by decide,by decide,by decide⟩ (Nat.zero_le _)) (fun _=>rfl)
 split
 ·exact zD2 rfl (zB1 ⟨by decide,by decide,by decide⟩ (Nat.zero_le _)) (fun _=>rfl)
 split
 ·exact zD2 rfl (zB1 yi6 (Nat.zero_le _)) (fun _=>rfl)
 split
 ·exact zD2 rfl (zB1 (xi3 (hG.num _ hm)) (Nat.zero_le _)) (fun _=>rfl)
 split
 ·exact zD2 rfl (zB1 (xm3 (hG.txt _ hm)) (hG.txt _ hm)) (fun _=>rfl)
 ·refine zD2 rfl (yW1 (zh1 hG hs)) (fun he=> ?_)
  have hb:=(zN8 he).2
  unfold yX
  rw[if_pos hb]
  rfl
theorem xg4 (hL:LIn L) (hG:LGood L) {o:Int} {rec:Nat→RS→PR} (h: ∀w s,RIn L s→s.opn=o→PK L s (rec w s)): ∀(w:Nat) (s:RS),RIn L s→s.opn=o→PJ s (zf0 L rec w s)
 |0,s,hs,ho=>zX0 hL hG (h 1) _ _ _ (h 1 s hs ho) ho
 |1,s,hs,ho=>zX0 hL hG (h 2) _ _ _ (h 2 s hs ho) ho
 |2,s,hs,ho=>xs3 hL hG (h 2) (h 3) s hs ho
 |3,s,hs,ho=>xq1 hL hG (h 4) s ho _ (h 4 s hs ho)
 |4,s,hs,ho=>zX0 hL hG (h 5) _ _ _ (h 5 s hs ho) ho
 |5,s,hs,ho=>zX0 hL hG (h 6) _ _ _ (h 6 s hs ho) ho
 |_w+6,s,hs,ho=>xg2 hL hG (h 6) (h 0) s hs ho
theorem xl3 {k:RS→PR} (s:RS) (hk:(yM L s).err=0→PJ (yM L s) (k (yM L s))):PJ s (zd0 L k s):=by
 unfold zd0
 split
 ·rename_i he
  have hy:=hk he
  refine⟨hy.good,fun h=> ?_⟩
  have h2:=hy.size h
  rw[zK9]at h2
  exact h2
 ·rename_i he
  exact⟨yV9,fun h=>absurd h he⟩
theorem pF_j (hL:LIn L) (hG:LGood L): ∀(f:Nat) (w:Nat) (s:RS),RIn L s→s.opn≤200→201≤(f:Int)+s.opn→PJ s (pF L f w s)
 |0,w,s,hs,h2,hf=>by omega
 |f+1,w,s,hs,h2,hf=>by
  unfold pF
  refine xl3 s (fun he=> ?_)
  have h3:=(ze5 he).2
  exact xg4 hL hG (o:=s.opn+1) (fun w t ht ho=>⟨yH9 hL f w t ht (by omega) (by push_cast at hf;omega),pF_j hL hG f w t ht (by omega) (by push_cast at hf;omega)⟩) w _ (zi0 hs h2) (wZ s)
theorem ex_j {L:List GToken} (hL:LIn L) (hG:LGood L) {s:RS} (hs:RIn L s) (ho:s.opn=0):PJ s (exF L s):=pF_j hL hG 201 0 s hs (by omega) (by omega)
end Go.Proofs.YtajjjghohakniaaGreat
namespace Go.Proofs.YtajjjghohakniaaGreat
open Go Go.Vx
set_option maxRecDepth 100000
structure UI (L:List GToken) (s s':RS):Prop where
 rin:RIn L s'
 opn:s'.opn=s.opn
 up:s.at_≤s'.at_
 err:s'.err=0→s.err=0
variable {L:List GToken}
theorem UI.refl {s:RS} (h:RIn L s):UI L s s:=⟨h,rfl,Nat.le_refl _,id⟩
theorem UI.trans {s s2 s3:RS} (h:UI L s s2) (k:UI L s2 s3):UI L s s3:=⟨k.rin,k.opn.trans h.opn,Nat.le_trans h.up k.up,fun e=>h.err (k.err e)⟩
theorem PI.ui {s:RS} {x:PR} (h:PI L s x):UI L s x.2:=⟨h.rin,h.opn,h.up,fun e=>(h.err e).1⟩
theorem yG (hL:LIn L) (w:List UInt8) {s:RS} (h:RIn L s):UI L s (yB L w s):=⟨zh9 hL h,zl9 w s,zr6 w s,fun e=>(zh0 e).1⟩
theorem zb1 (hL:LIn L) {s:RS} (h:RIn L s):UI L s (yX L s).2:=⟨yr1 hL h,yd6 s,yr2 s,fun e=>(zN8 e).1⟩
theorem yW (hL:LIn L) {w:List UInt8} {s:RS} (h:RIn L s) (hi:isT L w s=true):UI L s (zM s):=⟨h.next hL hi,rfl,by simp[zM],id⟩
theorem yE8 (e p:Int) {s:RS} (h:RIn L s) (he:e≠0):UI L s (wQ e p s):=⟨zV0 h e p,zv3 e p s,by rw[zA6];exact Nat.le_refl _,fun q=>absurd q (zj7 he)⟩
theorem yy9 (hL:LIn L) {s:RS} (h:RIn L s):UI L s (numF L s).2:=by
 unfold numF
 split
 ·rename_i hb
  unfold numB at hb
  simp only[Bool.and_eq_true,beq_iff_eq]at hb
  exact⟨hL.next h (by rw[hb.2];decide),rfl,by simp[zM],id⟩
 ·exact yE8 _ _ h (by decide)
def zd8 (L:List GToken) (n most:Int) (b:Bool) (s:RS):RS:=if s.err=0∧most≤n then wQ (if b=true then 3 else 13) (tokF L s).place s else s
theorem zk7 {n most:Int} {b:Bool} {s:RS} (h:RIn L s):UI L s (zd8 L n most b s):=by
 unfold zd8
 split
 ·exact yE8 _ _ h (by split<;>decide)
 ·exact UI.refl h
theorem ze4 {n most:Int} {b:Bool} {s:RS} (h:(zd8 L n most b s).err=0):s.err=0∧n<most∧zd8 L n most b s=s:=by
 unfold zd8 at h⊢
 split at h
 ·exact absurd h (zj7 (by split<;>decide))
 ·rename_i hc
  rw[if_neg hc]
  refine⟨h, ?_,rfl⟩
  by_cases q:most≤n
  ·exact absurd ⟨h,q⟩ hc
  ·omega
theorem zW3 (L:List GToken) (hL:LIn L) (s:RS) (hs:RIn L s) (n most:Int) (b:Bool):VCalls Tryz.prog 66 [.ptr 0 0,.int .i64 n,.int .i64 most,.bool b] [rB L s] (fun r σ=>r= .bool ((zd8 L n most b s).err==0)∧σ= [rB L (zd8 L n most b s)]):=by
 have ht:=zn8 L hL s hs
 have hf3:=zA7 L s 3 (tokF L s).place
 have hf13:=zA7 L s 13 (tokF L s).place
 have hM:zd8 L n most b s=if s.err=0∧most≤n then(if b=true then wQ 3 (tokF L s).place s else wQ 13 (tokF L s).place s)else s:=by unfold zd8;cases b<;>rfl
 generalize zd8 L n most b s=M at hM⊢
 have e3:(wQ 3 (tokF L s).place s).err≠0:=zj7 (by decide)
 have e13:(wQ 13 (tokF L s).place s).err≠0:=zj7 (by decide)
 generalize wQ 3 (tokF L s).place s=f3 at*
 generalize wQ 13 (tokF L s).place s=f13 at*
 refine VCalls.intro 1 Tryz.func66 Tryz.ntmps66 Tryz.results66 rfl rfl (Nat.le_of_ble_eq_true rfl) fun c hc hb=>zJ ?_
 simp[go_sem,rB]
 by_cases q1:s.err=0
 rotate_left
 ·have q1':(s.err==0)=false:=by simpa using q1
  rw[if_neg (fun h=>q1 h.1)]at hM
  simp[go_sem,q1']
  exact xH (L:=L) (s:=s) (zA rfl) ⟨by rw[hM,q1'],by rw[hM];rfl⟩
 have q1':(s.err==0)=true:=by simpa using q1
 by_cases q2:most≤n
 rotate_left
 ·have q2':decide (most≤n)=false:=decide_eq_false q2
  rw[if_neg (fun h=>q2 h.2)]at hM
  simp[go_sem,q1',q2']
  exact xH (L:=L) (s:=s) (zA rfl) ⟨by rw[hM,q1'],by rw[hM];rfl⟩
 have q2':decide (most≤n)=true:=decide_eq_true q2
 rw[if_pos ⟨q1,q2⟩]at hM
 simp[go_sem,q1',q2']
 refine(Bool.eq_false_or_eq_true b).elim (fun q=> ?_) (fun q=> ?_)
 ·rw[if_pos q]at hM
  have e3':(f3.err==0)=false:=by simpa using e3
  subst q
  simp[go_sem]
  refine zH ht Tryz.callB70 rd_1 rfl ?_
  simp[go_sem]
  refine zH hf3 Tryz.callB73 (zL ⟨zA rfl,zA rfl,trivial⟩) rfl ?_
  simp[go_sem,rB]
  exact xH (L:=L) (s:=f3) (zA rfl) ⟨by rw[hM],by rw[hM];rfl⟩
 ·rw[if_neg (by rw[q];decide)]at hM
  subst q
  simp[go_sem]
  refine zH ht Tryz.callB70 rd_1 rfl ?_
  simp[go_sem]
  refine zH hf13 Tryz.callB73 (zL ⟨zA rfl,zA rfl,trivial⟩) rfl ?_
  simp[go_sem,rB]
  exact xH (L:=L) (s:=f13) (zA rfl) ⟨by rw[hM],by rw[hM];rfl⟩
def zO8:List UInt8:= [67,79,85,78,84]
def wSUM:List UInt8:= [83,85,77]
def yB1:List (List UInt8):= [[45],[40],[78,79,84],[84,82,85,69],[70,65,76,83,69],[78,85,76,76]]
def begF (L:List GToken) (item:Bool) (s:RS):Bool:=
 ((tokF L s).kind==2||((tokF L s).kind==3||((tokF L s).kind==1&&zi6 (tokF L s).s)))||((item&&(isT L zO8 s||isT L wSUM s))|| !(anyF L s yB1== []))
theorem ym2 (L:List GToken) (hL:LIn L) (s:RS) (hs:RIn L s) (item:Bool):VCalls Tryz.prog 160 [.ptr 0 0,.bool item] [rB L s] (fun r σ=>r= .bool (begF L item s)∧σ= [rB L s]):=by
 have ht:=zn8 L hL s hs
 have h1:=is_w L hL s hs zO8
 have h2:=is_w L hL s hs wSUM
 have h3:=zP5 L hL s hs yB1 (by decide)
 have htl:=hL.txt _ (zv9 hs)
 have hw:=zO1 (tokF L s).s htl
 generalize hM:begF L item s=M
 unfold begF at hM
 generalize isT L zO8 s=c1 at h1 hM
 generalize isT L wSUM s=c2 at h2 hM
 generalize anyF L s yB1=a at h3 hM
 generalize zi6 (tokF L s).s=b at hw hM
 have hae:(a != [])= !a.isEmpty:=by cases a<;>rfl
 have hae2:(a== [])=a.isEmpty:=by cases a<;>rfl
 rw[hae2]at hM
 have ret: ∀(r:Bool) (τ:St),r=M→wret (some (.bool r)) 1 (fun r σ=>r= .bool M∧σ= [rB L s]) (rB L s::τ):=fun r τ h=>by subst h;exact xH (zA rfl) ⟨rfl,rfl⟩
 refine VCalls.intro 1 Tryz.func160 Tryz.ntmps160 Tryz.results160 rfl rfl (Nat.le_of_ble_eq_true rfl) fun c hc hb=>zJ ?_
 simp[go_sem]
 refine zH ht Tryz.callB70 rd_1 rfl ?_
 simp[go_sem]
 repeat' (first
  |(refine yT (fun q=> ?_) (fun q=> ?_)<;>simp[go_sem,q])
  |(refine zS (fun q=> ?_) (fun q=> ?_)<;>simp[go_sem,q])
  |(refine zD hw Tryz.callB147 (zG rfl) rfl ?_;simp[go_sem])
  |(refine zH h1 Tryz.callB69 (zL ⟨zA rfl,trivial⟩) rfl ?_;simp[go_sem])
  |(refine zH h2 Tryz.callB69 (zL ⟨zA rfl,trivial⟩) rfl ?_;simp[go_sem])
  |(refine zH h3 Tryz.callB65 (zL ⟨zW,trivial⟩) rfl ?_;simp[go_sem]))
 all_goals exact ret _ _ (by rw[←hM];simp_all)
end Go.Proofs.YtajjjghohakniaaGreat
namespace Go.Proofs.YtajjjghohakniaaGreat
open Go Go.Vx
set_option maxRecDepth 100000
variable {L:List GToken}
def zI6:List UInt8:= [87,72,69,82,69]
def whS (L:List GToken) (s:RS):RS:=if isT L zI6 s=true then(exF L (zM s)).2 else s
def rowC (e:GExpr):List V:= [.int .i64 e.kind,.str e.s,.int .i64 e.v.kind,.int .i64 e.v.n,.str e.v.s,.sl .ro (e.args.map GExpr.row)]
def whB (L:List GToken) (s:RS) (a b:List V) (o:Ob):Ob:=if isT L zI6 s=true then .box (a++ [.bool true]++rowC (exF L (zM s)).1++b)else o
theorem zF9 (hL:LIn L) {s:RS} (h:RIn L s) (ho:s.opn=0):UI L s (exF L s).2:=(yV2 hL h ho).ui
theorem yf9 (hL:LIn L) {s:RS} (h:RIn L s) (ho:s.opn=0):UI L s (whS L s):=by
 unfold whS
 split
 ·rename_i hi
  exact(yW hL h hi).trans (zF9 hL (h.next hL hi) ho)
 ·exact UI.refl h
theorem xn2 (L:List GToken) (hL:LIn L) (s:RS) (hs:RIn L s) (ho:s.opn=0) (τ:St) (j:Nat) (c0 c1 c2 c3 c4 c5 c6 c7 c8 c9 c10 c11 c12 c13 c14:V) (hj:τ[j]? =some (.box [c0,c1,c2,c3,c4,c5,c6,c7,c8,c9,c10,c11,c12,c13,c14])):
  VCalls Tryz.prog 118 [.ptr 0 0,.ptr (j+1) 0] (rB L s::τ) (fun r σ=>r= .tup []∧σ=rB L (whS L s)::τ.set j (whB L s [c0,c1,c2,c3,c4] [c12,c13,c14] (.box [c0,c1,c2,c3,c4,c5,c6,c7,c8,c9,c10,c11,c12,c13,c14]))):=by
 have hjl:=(List.getElem?_eq_some_iff.1 hj).1
 have hje:=(List.getElem?_eq_some_iff.1 hj).2
 unfold whS whB
 refine VCalls.intro (τ.length+1) Tryz.func118 Tryz.ntmps118 Tryz.results118 rfl rfl (Nat.le_of_ble_eq_true rfl) fun c hc hb=>zJ ?_
 by_cases q:isT L zI6 s=true
 ·rw[if_pos q,if_pos q]
  have heat:=xM L hL s hs _ q
  have hcy:=ex_w L hL (zM s) (hs.next hL q) ho
  generalize exF L (zM s)=y at hcy⊢
  simp[go_sem]
  refine zH heat Tryz.callB68 (zL ⟨zA rfl,trivial⟩) rfl ?_
  simp[go_sem]
  refine wP hcy Tryz.callB161 rd_1 ?_
  simp[go_sem,GExpr.row_eq,hje,hjl]
  refine yu6 ?_ ⟨rfl, ?_⟩
  ·simp
  ·simp[go_sem,rowC]
 ·have q:isT L zI6 s=false:=by simpa using q
  have heat:=wC L hL s hs _ q
  rw[if_neg (by rw[q];decide),if_neg (by rw[q];decide)]
  simp[go_sem]
  refine zH heat Tryz.callB68 (zL ⟨zA rfl,trivial⟩) rfl ?_
  simp[go_sem]
  refine yu6 (by simp) ⟨rfl, ?_⟩
  rw[←hje,List.set_getElem_self]
def zr2 (L:List GToken) (s:RS):GItem×RS:=
 if isT L zO8 s=true then(⟨3,zeroE⟩,yB L [41] (yB L [42] (yB L [40] (zM s))))
 else if isT L wSUM s=true then(⟨4,(exF L (yB L [40] (zM s))).1⟩,yB L [41] (exF L (yB L [40] (zM s))).2)
 else(⟨2,(exF L s).1⟩,(exF L s).2)
def zr3 (L:List GToken):Nat→List GItem→RS→List GItem×RS
 |0,l,s=>(l,s)
 |n+1,l,s=>
  if(zd8 L l.length 6 (begF L true s) s).err=0 then
   (if isT L [44] (zr2 L s).2=true then zr3 L n (l++ [(zr2 L s).1]) (zM (zr2 L s).2)else(l++ [(zr2 L s).1],(zr2 L s).2))
  else(l,zd8 L l.length 6 (begF L true s) s)
def zl7 (L:List GToken) (s:RS):List GItem×RS:=if isT L [42] s=true then([⟨1,zeroE⟩],zM s)else zr3 L 7 [] s
theorem yi1 (hL:LIn L) {s:RS} (h:RIn L s) (ho:s.opn=0):UI L s (zr2 L s).2:=by
 unfold zr2
 split
 ·rename_i hi
  have h1:=yW hL h hi
  have h2:=h1.trans (yG hL [40] h1.rin)
  have h3:=h2.trans (yG hL [42] h2.rin)
  exact h3.trans (yG hL [41] h3.rin)
 split
 ·rename_i hi
  have h1:=yW hL h hi
  have h2:=h1.trans (yG hL [40] h1.rin)
  have h3:=h2.trans (zF9 hL h2.rin (h2.opn.trans ho))
  exact h3.trans (yG hL [41] h3.rin)
 ·exact zF9 hL h ho
theorem yM9 {τ:St} {l:List GItem} {s:RS} {g:Tag} {M:List GItem×RS} (h:(l,s)=M):wret (some (.sl g (l.map GItem.row))) 1 (fun r σ=>r= .sl .ro (M.1.map GItem.row)∧σ= [rB L M.2]) (rB L s::τ):=by
 subst h
 exact xH zW ⟨rfl,rfl⟩
set_option maxHeartbeats 1000000 in
theorem xi5 (L:List GToken) (hL:LIn L) (s0:RS) (hs0:RIn L s0) (ho0:s0.opn=0):VCalls Tryz.prog 159 [.ptr 0 0] [rB L s0] (fun r σ=>r= .sl .ro ((zl7 L s0).1.map GItem.row)∧σ= [rB L (zl7 L s0).2]):=by
 generalize hM:zl7 L s0=M
 unfold zl7 at hM
 refine VCalls.introV 1 Tryz.func159 Tryz.ntmps159 Tryz.results159 rfl rfl (Nat.le_of_ble_eq_true rfl) fun c hc hb=> ?_
 refine zC ?_
 simp[go_sem]
 by_cases q0:isT L [42] s0=true
 ·rw[if_pos q0]at hM
  refine zH (xM L hL s0 hs0 _ q0) Tryz.callB68 (zL ⟨zA rfl,trivial⟩) rfl ?_
  simp[go_sem]
  refine xH (r:= .sl .ro ([(⟨1,zeroE⟩:GItem)].map GItem.row)) ?_ ⟨by rw[←hM],by rw[←hM]⟩
  exact zW
 have q0:isT L [42] s0=false:=by simpa using q0
 rw[if_neg (by rw[q0];decide)]at hM
 refine zH (wC L hL s0 hs0 _ q0) Tryz.callB68 (zL ⟨zA rfl,trivial⟩) rfl ?_
 simp[go_sem]
 refine zu4 3 7 (by decide) (by simp[go_sem]) ?_
 refine zN (S:=List GItem×RS) [0,3] (fun u=> [.ptr 0 0,.sl (.app 1) (u.1.map GItem.row)]) (fun u=> [rB L u.2,.app u.1.length 7]) (fun u=>7 - u.1.length) (fun u=>u.1.length≤6∧UI L s0 u.2∧zr3 L (7 - u.1.length) u.1 u.2=M) hc hb ([],s0) ⟨Nat.zero_le _,UI.refl hs0,hM⟩ ?_ ?_
 ·exact at_n 2 (by simp[go_sem]) rfl (by simp[rB,ltOb,ltC,ltK]) (by decide) (zE (by simp[go_sem]) rfl)
 rintro⟨l,s⟩ ⟨hl,hu,hinv⟩
 simp only at hl hu hinv
 have hs:=hu.rin
 have ho:=hu.opn.trans ho0
 have hbeg:=ym2 L hL s hs true
 have hmore:=zW3 L hL s hs l.length 6 (begF L true s)
 have hme:=ze4 (L:=L) (n:=l.length) (most:=6) (b:=begF L true s) (s:=s)
 rw[show 7 - l.length=(6 - l.length)+1 by omega,zr3]at hinv
 generalize begF L true s=bg at hbeg hmore hme hinv
 generalize zd8 L l.length 6 bg s=m at hmore hme hinv
 by_cases q:m.err=0
 rotate_left
 ·have q':(m.err==0)=false:=by simpa using q
  rw[if_neg q]at hinv
  rw[q']at hmore
  refine zC ?_
  simp[go_sem]
  refine zH hbeg Tryz.callB160 (zL ⟨zA rfl,trivial⟩) rfl ?_
  simp[go_sem]
  refine zH hmore Tryz.callB66 (zL ⟨zA rfl,zA rfl,zA rfl,trivial⟩) rfl ?_
  simp[go_sem]
  exact yM9 hinv
 have q':(m.err==0)=true:=by simpa using q
 obtain⟨he,hl6,rfl⟩:=hme q
 rw[if_pos q]at hinv
 rw[q']at hmore
 have hitu:=yi1 hL hs ho
 have hu2:=hu.trans hitu
 generalize hit:zr2 L m=it at hinv hitu hu2
 unfold zr2 at hit
 have heatc: ∀b,isT L [44] it.2=b→VCalls Tryz.prog 68 [.ptr 0 0,.str [44]] [rB L it.2] (fun r σ=>r= .bool b∧σ= [rB L (if b=true then zM it.2 else it.2)]):=fun b hb=>by
  cases b with
  |true=>exact xM L hL it.2 hu2.rin _ hb
  |false=>exact wC L hL it.2 hu2.rin _ hb
 by_cases q1:isT L zO8 m=true
 ·rw[if_pos q1]at hit
  have hn1:=hs.next hL q1
  have hm1:=zb7 L hL _ hn1 [40]
  have hi1:=zh9 hL (w:= [40]) hn1
  generalize yB L [40] (zM m)=u1 at hm1 hi1 hit
  have hm2:=zb7 L hL _ hi1 [42]
  have hi2:=zh9 hL (w:= [42]) hi1
  generalize yB L [42] u1=u2 at hm2 hi2 hit
  have hm3:=zb7 L hL _ hi2 [41]
  generalize yB L [41] u2=u3 at hm3 hit
  subst hit
  simp only at hinv hu2 heatc
  refine zC ?_
  simp[go_sem]
  refine zH hbeg Tryz.callB160 (zL ⟨zA rfl,trivial⟩) rfl ?_
  simp[go_sem]
  refine zH hmore Tryz.callB66 (zL ⟨zA rfl,zA rfl,zA rfl,trivial⟩) rfl ?_
  simp[go_sem]
  refine zH (xM L hL m hs _ q1) Tryz.callB68 (zL ⟨zA rfl,trivial⟩) rfl ?_
  simp[go_sem]
  refine zH hm1 Tryz.callB71 (zL ⟨zA rfl,trivial⟩) rfl ?_
  simp[go_sem]
  refine zH hm2 Tryz.callB71 (zL ⟨zA rfl,trivial⟩) rfl ?_
  simp[go_sem]
  refine zH hm3 Tryz.callB71 (zL ⟨zA rfl,trivial⟩) rfl ?_
  simp[go_sem]
  refine zO ⟨by omega,xD rfl⟩ ?_
  simp[go_sem]
  refine(Bool.eq_false_or_eq_true (isT L [44] u3)).elim (fun q2=> ?_) (fun q2=> ?_)
  ·rw[if_pos q2]at hinv
   refine zH (heatc true q2) Tryz.callB68 (zL ⟨zA rfl,trivial⟩) rfl ?_
   simp[go_sem]
   refine zP (l++ [⟨3,zeroE⟩],zM u3) ⟨by simp;omega,⟨by simp;omega,hu2.trans (yW hL hu2.rin q2),by simp only[List.length_append,List.length_singleton,show 7 - (l.length+1)=6 - l.length by omega];exact hinv⟩, ?_⟩
   exact at_n 2 (by simp[go_sem]) rfl (by simp[rB,ltOb,ltC,ltK]) (by decide) (zE (by simp[go_sem]<;>exact⟨rfl,rfl,rfl,rfl,rfl,rfl⟩) rfl)
  ·rw[if_neg (by rw[q2];decide)]at hinv
   refine zH (heatc false q2) Tryz.callB68 (zL ⟨zA rfl,trivial⟩) rfl ?_
   simp[go_sem]
   exact xH (L:=L) zW ⟨by rw[←hinv];simp[GItem.row]<;>exact⟨rfl,rfl,rfl,rfl,rfl,rfl⟩,by rw[←hinv]⟩
 have q1:isT L zO8 m=false:=by simpa using q1
 rw[if_neg (by rw[q1];decide)]at hit
 by_cases q1b:isT L wSUM m=true
 ·rw[if_pos q1b]at hit
  have hn1:=hs.next hL q1b
  have hm1:=zb7 L hL _ hn1 [40]
  have hi1:=zh9 hL (w:= [40]) hn1
  have ho1:=zl9 (L:=L) [40] (zM m)
  generalize yB L [40] (zM m)=u1 at hm1 hi1 ho1 hit
  have ho2:u1.opn=0:=by rw[ho1];exact ho
  have hx:=ex_w L hL u1 hi1 ho2
  have hxi:=(yV2 hL hi1 ho2).rin
  generalize exF L u1=x at hx hxi hit
  have hm3:=zb7 L hL _ hxi [41]
  generalize yB L [41] x.2=u3 at hm3 hit
  subst hit
  simp only at hinv hu2 heatc
  refine zC ?_
  simp[go_sem]
  refine zH hbeg Tryz.callB160 (zL ⟨zA rfl,trivial⟩) rfl ?_
  simp[go_sem]
  refine zH hmore Tryz.callB66 (zL ⟨zA rfl,zA rfl,zA rfl,trivial⟩) rfl ?_
  simp[go_sem]
  refine zH (wC L hL m hs _ q1) Tryz.callB68 (zL ⟨zA rfl,trivial⟩) rfl ?_
  simp[go_sem]
  refine zH (xM L hL m hs _ q1b) Tryz.callB68 (zL ⟨zA rfl,trivial⟩) rfl ?_
  simp[go_sem]
  refine zH hm1 Tryz.callB71 (zL ⟨zA rfl,trivial⟩) rfl ?_
  simp[go_sem]
  refine wP hx Tryz.callB161 rd_1 ?_
  simp[go_sem,GExpr.row_eq]
  refine zH hm3 Tryz.callB71 (zL ⟨zA rfl,trivial⟩) rfl ?_
  simp[go_sem]
  refine zO ⟨by omega,xD rfl⟩ ?_
  simp[go_sem]
  refine(Bool.eq_false_or_eq_true (isT L [44] u3)).elim (fun q2=> ?_) (fun q2=> ?_)
  ·rw[if_pos q2]at hinv
   refine zH (heatc true q2) Tryz.callB68 (zL ⟨zA rfl,trivial⟩) rfl ?_
   simp[go_sem]
   refine zP (l++ [⟨4,x.1⟩],zM u3) ⟨by simp;omega,⟨by simp;omega,hu2.trans (yW hL hu2.rin q2),by simp only[List.length_append,List.length_singleton,show 7 - (l.length+1)=6 - l.length by omega];exact hinv⟩, ?_⟩
   exact at_n 2 (by simp[go_sem]) rfl (by simp[rB,ltOb,ltC,ltK]) (by decide) (zE (by simp[go_sem]<;>exact⟨rfl,rfl,rfl,rfl,rfl,rfl⟩) rfl)
  ·rw[if_neg (by rw[q2];decide)]at hinv
   refine zH (heatc false q2) Tryz.callB68 (zL ⟨zA rfl,trivial⟩) rfl ?_
   simp[go_sem]
   exact xH (L:=L) zW ⟨by rw[←hinv];simp[GItem.row]<;>exact⟨rfl,rfl,rfl,rfl,rfl,rfl⟩,by rw[←hinv]⟩
 have q1b:isT L wSUM m=false:=by simpa using q1b
 rw[if_neg (by rw[q1b];decide)]at hit
 ·have hx:=ex_w L hL m hs ho
  generalize exF L m=x at hx hit
  subst hit
  simp only at hinv hu2 heatc
  refine zC ?_
  simp[go_sem]
  refine zH hbeg Tryz.callB160 (zL ⟨zA rfl,trivial⟩) rfl ?_
  simp[go_sem]
  refine zH hmore Tryz.callB66 (zL ⟨zA rfl,zA rfl,zA rfl,trivial⟩) rfl ?_
  simp[go_sem]
  refine zH (wC L hL m hs _ q1) Tryz.callB68 (zL ⟨zA rfl,trivial⟩) rfl ?_
  simp[go_sem]
  refine zH (wC L hL m hs _ q1b) Tryz.callB68 (zL ⟨zA rfl,trivial⟩) rfl ?_
  simp[go_sem]
  refine wP hx Tryz.callB161 rd_1 ?_
  simp[go_sem,GExpr.row_eq]
  refine zO ⟨by omega,xD rfl⟩ ?_
  simp[go_sem]
  refine(Bool.eq_false_or_eq_true (isT L [44] x.2)).elim (fun q2=> ?_) (fun q2=> ?_)
  ·rw[if_pos q2]at hinv
   refine zH (heatc true q2) Tryz.callB68 (zL ⟨zA rfl,trivial⟩) rfl ?_
   simp[go_sem]
   refine zP (l++ [⟨2,x.1⟩],zM x.2) ⟨by simp;omega,⟨by simp;omega,hu2.trans (yW hL hu2.rin q2),by simp only[List.length_append,List.length_singleton,show 7 - (l.length+1)=6 - l.length by omega];exact hinv⟩, ?_⟩
   exact at_n 2 (by simp[go_sem]) rfl (by simp[rB,ltOb,ltC,ltK]) (by decide) (zE (by simp[go_sem]<;>exact⟨rfl,rfl,rfl,rfl,rfl,rfl⟩) rfl)
  ·rw[if_neg (by rw[q2];decide)]at hinv
   refine zH (heatc false q2) Tryz.callB68 (zL ⟨zA rfl,trivial⟩) rfl ?_
   simp[go_sem]
   exact xH (L:=L) zW ⟨by rw[←hinv];simp[GItem.row]<;>exact⟨rfl,rfl,rfl,rfl,rfl,rfl⟩,by rw[←hinv]⟩
end Go.Proofs.YtajjjghohakniaaGreat
