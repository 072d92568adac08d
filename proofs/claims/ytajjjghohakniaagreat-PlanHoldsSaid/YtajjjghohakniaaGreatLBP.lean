/-
  The walk of the statement that a row that a lot's condition lets through lies in one of its needs; used by the theorem at the end of the claim.
  Conditions: as each theorem states them.
-/
import Derived.Test.YtajjjghohakniaaGreatLBO
import Derived.Test.YtajjjghohakniaaGreatLBN
import Derived.Test.YtajjjghohakniaaGreatLBB
namespace Go.Proofs.YtajjjghohakniaaGreat
open Go Go.Vx R
set_option maxRecDepth 100000
structure Holds (T:GTable) (row:List GValue) (e:GExpr):Prop where
 good:Good e
 typed:(yZ T e).2=0
 ok:(evF T row e).2=0
 yes:zn9 (evF T row e).1=true
theorem and_true {x y:GValue} (hx:VK x 1) (hy:VK y 1) (h:zn9 (zq8 0 [x,y] false)=true):zn9 x=true∧zn9 y=true:=by
 rcases zI5 hx with rfl|rfl|rfl<;>rcases zI5 hy with rfl|rfl|rfl<;>revert h<;>decide
theorem yN1 {T:GTable} {a b:GExpr} (h:(yL T [a,b]).2=0):(yZ T a).2=0∧(yZ T b).2=0∧(yL T [a,b]).1= [(yZ T a).1,(yZ T b).1]:=by
 rw[yL]at h⊢
 by_cases w1:(yZ T a).2=0
 rotate_left
 ·rw[if_pos w1]at h;exact absurd h w1
 have n1: ¬(yZ T a).2≠0:=fun g=>g w1
 rw[if_neg n1]at h⊢
 rw[yL]at h⊢
 by_cases w2:(yZ T b).2=0
 rotate_left
 ·rw[if_pos w2]at h;exact absurd h w2
 have n2: ¬(yZ T b).2≠0:=fun g=>g w2
 rw[if_neg n2]at h⊢
 exact⟨w1,w2,by rw[yL]⟩
theorem xh3 {T:GTable} {row:List GValue} {a b:GExpr} (h:(evsF T row [a,b]).2=0):(evF T row a).2=0∧(evF T row b).2=0∧(evsF T row [a,b]).1= [(evF T row a).1,(evF T row b).1]:=by
 rw[evsF]at h⊢
 by_cases w1:(evF T row a).2=0
 rotate_left
 ·rw[if_pos w1]at h;exact absurd h w1
 have n1: ¬(evF T row a).2≠0:=fun g=>g w1
 rw[if_neg n1]at h⊢
 rw[evsF]at h⊢
 by_cases w2:(evF T row b).2=0
 rotate_left
 ·rw[if_pos w2]at h;exact absurd h w2
 have n2: ¬(evF T row b).2≠0:=fun g=>g w2
 rw[if_neg n2]at h⊢
 exact⟨w1,w2,by rw[evsF]⟩
theorem yf5 {T:GTable} {row:List GValue} {e a b:GExpr} (hk:e.kind=3) (hab:e.args= [a,b]) (h:Holds T row e):
  (yZ T a).2=0∧(yZ T b).2=0∧(evF T row a).2=0∧(evF T row b).2=0∧zf2 e.s [(yZ T a).1,(yZ T b).1]=((zf2 e.s [(yZ T a).1,(yZ T b).1]).1,0)∧
  zn9 (zd4 e.s [(evF T row a).1,(evF T row b).1]).1=true∧(zd4 e.s [(evF T row a).1,(evF T row b).1]).2=0:=by
 have ht:=h.typed
 have ho:=h.ok
 have hy:=h.yes
 rw[zg1,if_neg (by omega),if_neg (by omega),if_pos hk,hab]at ht
 rw[zM9,if_neg (by omega),if_neg (by omega),hab]at ho hy
 by_cases w1:(yL T [a,b]).2=0
 rotate_left
 ·rw[if_pos w1]at ht;exact absurd ht w1
 have n1: ¬(yL T [a,b]).2≠0:=fun g=>g w1
 rw[if_neg n1]at ht
 by_cases w3:zh5 e.v=false
 ·rw[if_pos w3]at ht;cases ht
 rw[if_neg w3]at ht
 by_cases w2:(evsF T row [a,b]).2=0
 rotate_left
 ·rw[if_pos w2]at ho;exact absurd ho w2
 have n2: ¬(evsF T row [a,b]).2≠0:=fun g=>g w2
 rw[if_neg n2]at ho hy
 obtain⟨k1,k2,k3⟩:=yN1 w1
 obtain⟨v1,v2,v3⟩:=xh3 w2
 rw[k3]at ht
 rw[v3]at ho hy
 exact⟨k1,k2,v1,v2,Prod.ext rfl ht,hy,ho⟩
theorem yK7 {T:GTable} {row:List GValue} (hr:RowOk T row) {e a b:GExpr} (q:zv5 e=true) (hab:e.args= [a,b]) (h:Holds T row e):Holds T row a∧Holds T row b:=by
 unfold zv5 at q
 simp only[Bool.and_eq_true,beq_iff_eq]at q
 obtain⟨⟨hk,hs⟩,_⟩:=q
 obtain⟨k1,k2,v1,v2,ho,hy,_⟩:=yf5 hk hab h
 have ga:=h.good.sub a (by rw[hab];simp)
 have gb:=h.good.sub b (by rw[hab];simp)
 have va:=yo4 hr _ a (Nat.le_refl _) ga k1 v1
 have vb:=yo4 hr _ b (Nat.le_refl _) gb k2 v2
 rw[hs]at ho hy
 have hall:All2 VK [(evF T row a).1,(evF T row b).1] [(yZ T a).1,(yZ T b).1]:=⟨va,vb,trivial⟩
 have hb1:allK [(yZ T a).1,(yZ T b).1] 1=true:=by
  cases zW9 ho with
  |null hs hl hk=>simp at hl
  |not hs hl ha hk=>simp at hl
  |neg hs hl ha hk=>simp at hl
  |both hs hl ha hk=>exact ha
  |sum hs hl ha hk=>exact absurd hs (by decide)
  |cmp hs hl hk=>exact absurd hs (by decide)
 have hv:=zD3 hall hb1
 have h1:=and_true (hv _ (by simp)) (hv _ (by simp)) hy
 exact⟨⟨ga,k1,v1,h1.1⟩,⟨gb,k2,v2,h1.2⟩⟩
theorem zB3 {T:GTable} {row:List GValue} (hr:RowOk T row): ∀(n:Nat) (e:GExpr),Holds T row e→ ∀x∈zb0 n e,Holds T row x
 |0,e,h,x,hx=>by rw[zb0,List.mem_singleton]at hx;subst hx;exact h
 |n+1,e,h,x,hx=>by
  rw[zb0]at hx
  split at hx
  ·rename_i q
   obtain⟨a,b,hab⟩:=yS3 q
   obtain⟨h1,h2⟩:=yK7 hr q hab h
   obtain⟨y,hy,hxy⟩:=List.mem_flatMap.1 hx
   rw[hab]at hy
   simp at hy
   rcases hy with rfl|rfl
   ·exact zB3 hr n _ h1 x hxy
   ·exact zB3 hr n _ h2 x hxy
  ·rw[List.mem_singleton]at hx;subst hx;exact h
theorem ym8 (x y:Int):cmpI y x= -cmpI x y:=by
 unfold cmpI
 repeat' split
 all_goals omega
theorem yU1 (a b:List UInt8):cmpS b a= -cmpS a b:=by
 unfold cmpS
 rcases zn1 a b with h|h|h
 ·rw[if_pos h,if_neg (by rw[zw8 h];decide),if_pos h];rfl
 ·subst h;rw[zg6];rfl
 ·rw[if_pos h,if_neg (by rw[zw8 h];decide),if_pos h]
theorem yn1 (a b:GValue):cmpV b a= -cmpV a b:=by
 unfold cmpV orL orL orL orL
 rw[ym8 a.kind b.kind,ym8 a.n b.n,yU1 a.s b.s]
 generalize cmpI a.kind b.kind=x
 generalize cmpI a.n b.n=y
 generalize cmpS a.s b.s=z
 by_cases h1:x=0<;>by_cases h2:y=0<;>by_cases h3:z=0<;>simp[h1,h2,h3]
theorem yB8 {s:List UInt8} (h:cutOps.contains s=true) (c:Int):zb5 (zR2 s) (-c)=zb5 s c:=by
 have h:s= [61]∨s= [60]∨s= [60,61]∨s= [62]∨s= [62,61]:=by simpa[cutOps]using h
 rcases h with rfl|rfl|rfl|rfl|rfl
 ·show((-c)==0)=(c==0)
  rw[Bool.eq_iff_iff,beq_iff_eq,beq_iff_eq];omega
 ·show decide (0< -c)=decide (c<0)
  rw[Bool.eq_iff_iff,decide_eq_true_eq,decide_eq_true_eq];omega
 ·show decide (0≤ -c)=decide (c≤0)
  rw[Bool.eq_iff_iff,decide_eq_true_eq,decide_eq_true_eq];omega
 ·show decide (-c<0)=decide (0<c)
  rw[Bool.eq_iff_iff,decide_eq_true_eq,decide_eq_true_eq];omega
 ·show decide (-c≤0)=decide (0≤c)
  rw[Bool.eq_iff_iff,decide_eq_true_eq,decide_eq_true_eq];omega
def zT5 (T:GTable) (row:List GValue) (c:GCut):Prop:=
 ∃(j:Nat) (rv:GValue),colF T c.name=j∧row[j]? =some rv∧mayF rv=true∧mayF c.v=true∧rv.kind=c.v.kind∧rv.ok∧c.v.ok∧zb5 c.sign (cmpV rv c.v)=true
theorem yG7 {T:GTable} {row:List GValue} (hr:RowOk T row) {a:GExpr} (h2:a.kind=2) (hk:(yZ T a).2=0): ∃(j:Nat) (rv:GValue) (C:GCol),colF T a.s=j∧T.cols[j]? =some C∧row[j]? =some rv∧(evF T row a).1=rv∧(yZ T a).1=C.kind:=by
 rw[zg1,if_neg (by omega),if_pos h2]at hk
 by_cases w:colF T a.s<0
 ·rw[if_pos w]at hk;cases hk
 rw[if_neg w]at hk
 by_cases w2:a.args.isEmpty=false∨zh5 a.v=false
 ·rw[if_pos w2]at hk;cases hk
 obtain⟨j,hj,hjl⟩:=zr0 T a.s w
 have hjr:j<row.length:=by rw[hr.len];exact hjl
 refine⟨j,row[j],T.cols[j],hj,List.getElem?_eq_getElem hjl,List.getElem?_eq_getElem hjr, ?_, ?_⟩
 ·rw[zM9,if_neg (by omega),if_pos h2]
  simp only
  rw[hj,Int.toNat_natCast,List.getD_eq_getElem?_getD,List.getElem?_eq_getElem hjr];rfl
 ·rw[zg1,if_neg (by omega),if_pos h2,if_neg w,if_neg w2]
  simp only
  unfold colK
  rw[hj,Int.toNat_natCast,List.getElem?_eq_getElem hjl];rfl
theorem xd4 {T:GTable} {row:List GValue} {b:GExpr} (h1:b.kind=1) (hk:(yZ T b).2=0):(evF T row b).1=b.v∧(yZ T b).1=b.v.kind∧mayF b.v=true:=by
 rw[zg1,if_pos h1]at hk
 by_cases w:b.s.isEmpty=false∨b.args.isEmpty=false∨mayF b.v=false
 ·rw[if_pos w]at hk;cases hk
 refine⟨by rw[zM9,if_pos h1],by rw[zg1,if_pos h1,if_neg w], ?_⟩
 cases hm:mayF b.v with
 |true=>rfl
 |false=>exact absurd (.inr (.inr hm)) w
theorem xa2 {s:List UInt8} (hs:s= [61]∨s= [60,62]∨s= [60]∨s= [60,61]∨s= [62]∨s= [62,61]) {a b k:Int} (h:zf2 s [a,b]=(k,0)):a=b∨a=0∨b=0:=by
 have e:zf2 s [a,b]=zC3 true (true&&(a==b||(a==0||b==0))) 1:=by rcases hs with rfl|rfl|rfl|rfl|rfl|rfl<;>rfl
 rw[e]at h
 have h2:=(zs8 h).2.1
 simpa using h2
theorem xk3 {s:List UInt8} (h:cutOps.contains s=true):s= [61]∨s= [60,62]∨s= [60]∨s= [60,61]∨s= [62]∨s= [62,61]:=by
 have h:s= [61]∨s= [60]∨s= [60,61]∨s= [62]∨s= [62,61]:=by simpa[cutOps]using h
 rcases h with h|h|h|h|h<;>simp[h]
theorem yM0 {s:List UInt8} (hs:s= [61]∨s= [60,62]∨s= [60]∨s= [60,61]∨s= [62]∨s= [62,61]) {x y:GValue} (h:zn9 (zd4 s [x,y]).1=true):x.kind≠0∧y.kind≠0∧zb5 s (cmpV x y)=true:=by
 rw[zD7 hs]at h
 by_cases q:([x,y].any fun v=>v.kind==0)=true
 ·rw[if_pos q]at h;exact absurd h (by decide)
 rw[if_neg q]at h
 have q2:x.kind≠0∧y.kind≠0:=by simpa using q
 refine⟨q2.1,q2.2, ?_⟩
 have h:zn9 (xF (zb5 s (cmpV x y)))=true:=h
 cases hb:zb5 s (cmpV x y)with
 |true=>rfl
 |false=>rw[hb]at h;exact absurd h (by decide)
theorem yX5 {T:GTable} {row:List GValue} (hr:RowOk T row) (hC: ∀C∈T.cols,C.kind≠0) (hv: ∀v∈row,v.ok) {x:GExpr} (h:Holds T row x) {c:GCut} (hc:c∈zo9 x):zT5 T row c:=by
 unfold zo9 at hc
 split at hc
 rotate_left
 ·cases hc
 rename_i a b hab
 split at hc
 ·cases hc
 rename_i hg
 have hk:x.kind=3:=Classical.byContradiction fun q=>hg (.inl q)
 have hop:cutOps.contains x.s=true:=by
  cases q:cutOps.contains x.s with
  |true=>rfl
  |false=>exact absurd (.inr q) hg
 have h6:=xk3 hop
 obtain⟨k1,k2,v1,v2,ho,hy,_⟩:=yf5 hk hab h
 have hkk:=xa2 h6 ho
 obtain⟨n1,n2,hh⟩:=yM0 h6 hy
 have gv: ∀y∈x.args,y.v.ok:=fun y hy=>(h.good.sub y hy).v
 split at hc
 ·rename_i w
  rw[List.mem_singleton]at hc
  subst hc
  obtain⟨j,rv,C,e1,e2,e3,e4,e5⟩:=yG7 hr w.1 k1
  obtain⟨f1,f2,f3⟩:=xd4 w.2.1 k2
  rw[e5,f2]at hkk
  rw[e4,f1]at hh
  rw[e4]at n1
  have hvk:=hr.cell j C rv e2 e3
  have hCk:=hC C (List.mem_of_getElem? e2)
  have hrk:rv.kind=C.kind:=hvk.kind.resolve_right n1
  refine⟨j,rv,e1,e3,hvk.may,f3, ?_,hv rv (List.mem_of_getElem? e3),gv b (by rw[hab];simp),hh⟩
  simp only
  rcases hkk with q|q|q
  ·rw[hrk,q]
  ·exact absurd q hCk
  ·exact absurd q w.2.2
 split at hc
 ·rename_i w
  rw[List.mem_singleton]at hc
  subst hc
  obtain⟨j,rv,C,e1,e2,e3,e4,e5⟩:=yG7 hr w.1 k2
  obtain⟨f1,f2,f3⟩:=xd4 w.2.1 k1
  rw[e5,f2]at hkk
  rw[e4,f1]at hh
  rw[e4]at n2
  have hvk:=hr.cell j C rv e2 e3
  have hCk:=hC C (List.mem_of_getElem? e2)
  have hrk:rv.kind=C.kind:=hvk.kind.resolve_right n2
  refine⟨j,rv,e1,e3,hvk.may,f3, ?_,hv rv (List.mem_of_getElem? e3),gv a (by rw[hab];simp), ?_⟩
  ·simp only
   rcases hkk with q|q|q
   ·rw[hrk,q]
   ·exact absurd q w.2.2
   ·exact absurd q hCk
  ·simp only
   rw[yn1 a.v rv,yB8 hop]
   exact hh
 ·cases hc
theorem yL9 {T:GTable} {row:List GValue} (hr:RowOk T row) (hC: ∀C∈T.cols,C.kind≠0) (hv: ∀v∈row,v.ok) {st:GStmt} (h:st.filtered=true→Holds T row st.where_): ∀c∈ofS4 st,zT5 T row c:=fun c hc=>by
 unfold ofS4 ofF at hc
 split at hc
 ·rename_i q
  obtain⟨x,hx,hcx⟩:=List.mem_flatMap.1 hc
  exact yX5 hr hC hv (zB3 hr _ _ (h q) x hx) hcx
 ·cases hc
theorem xq2 {tn:Nat} {T:GTable} (hT:tabsS[tn]? =some T) {row:List GValue} (hv: ∀v∈row,v.ok) {st:GStmt} (hr:st.filtered=true→RowOk T row) (h:st.filtered=true→Holds T row st.where_): ∀c∈ofS4 st,zT5 T row c:=by
 obtain⟨htn,hTx⟩:=List.getElem?_eq_some_iff.1 hT
 have hC:=(by decide: ∀T∈tabsS,∀C∈T.cols,C.kind≠0) T (hTx▸List.getElem_mem htn)
 by_cases q:st.filtered=true
 ·exact yL9 (hr q) hC hv h
 ·intro c hc
  unfold ofS4 ofF at hc
  rw[if_neg q]at hc
  cases hc
theorem yE0: ∀a k:List UInt8,Op.bytesLess a k=true→Op.bytesLess k (a++ [0])=false
 | [],[],h=>by cases h
 | [],c::k,_=>by simp[Op.bytesLess]
 |_::_,[],h=>by simp[Op.bytesLess]at h
 |a::l,b::k,h=>by
  simp only[Op.bytesLess,Bool.or_eq_true,decide_eq_true_eq,Bool.and_eq_true,beq_iff_eq]at h
  rw[List.cons_append]
  rcases h with h|⟨h1,h2⟩
  ·cases q:Op.bytesLess (b::k) (a::(l++ [0]))with
   |false=>rfl
   |true=>
    simp only[Op.bytesLess,Bool.or_eq_true,decide_eq_true_eq,Bool.and_eq_true,beq_iff_eq]at q
    rcases q with q|⟨q,_⟩
    ·exact absurd (UInt8.lt_trans h q) (UInt8.lt_irrefl _)
    ·subst q;exact absurd h (UInt8.lt_irrefl _)
  ·subst h1
   have:=yE0 l k h2
   simp[Op.bytesLess,this]
theorem yg7: ∀a:List UInt8,Op.bytesLess a (a++ [0])=true
 | []=>rfl
 |a::l=>by simp[Op.bytesLess,yg7 l]
def In (b:List UInt8×List UInt8) (k:List UInt8):Prop:=Op.bytesLess k b.1=false∧Op.bytesLess k b.2=true
theorem yy1 {k lo a:List UInt8} (h1:Op.bytesLess k lo=false) (h2:Op.bytesLess k a=false):Op.bytesLess k (maxS lo a)=false:=by unfold maxS;split<;>assumption
theorem yy3 {k hi a:List UInt8} (h1:Op.bytesLess k hi=true) (h2:Op.bytesLess k a=true):Op.bytesLess k (minS hi a)=true:=by unfold minS;split<;>assumption
theorem xi7 {t:Int} (ht:isF 3 t=true) {kv v:GValue} (m1:mayF kv=true) (m2:mayF v=true) (hk:kv.kind=v.kind) (o1:kv.ok) (o2:v.ok):
  (cmpV kv v<0→Op.bytesLess (yY 3 t kv) (yY 3 t v)=true)∧(cmpV kv v=0→yY 3 t kv=yY 3 t v)∧(0<cmpV kv v→Op.bytesLess (yY 3 t v) (yY 3 t kv)=true):=by
 have h1:=yp4 m1 m2 hk o1 o2
 have h2:=yp4 m2 m1 hk.symm o2 o1
 rw[yn3]at h1 h2
 rw[yn1 kv v]at h2
 unfold yY
 rw[if_pos ht,if_pos ht,za3,za3,h1,h2]
 simp only[Nat.lt_irrefl,if_false]
 refine⟨fun h=>decide_eq_true h,fun h=> ?_,fun h=>decide_eq_true (by omega)⟩
 rw[h]at h1 h2
 rcases zn1 (keyF kv) (keyF v)with q|q|q
 ·rw[q]at h1;cases h1
 ·rw[q]
 ·rw[q]at h2;cases h2
theorem xl9 {t:Int} (ht:isF 3 t=true) {kv v:GValue} (m1:mayF kv=true) (m2:mayF v=true) (hk:kv.kind=v.kind) (o1:kv.ok) (o2:v.ok) {s:List UInt8} (hh:zb5 s (cmpV kv v)=true) {b:List UInt8×List UInt8} (hb:In b (yY 3 t kv)):In (cutF (yY 3 t v) s b) (yY 3 t kv):=by
 obtain⟨l1,l2,l3⟩:=xi7 ht m1 m2 hk o1 o2
 generalize yY 3 t kv=k at hb l1 l2 l3
 generalize yY 3 t v=A at l1 l2 l3
 generalize cmpV kv v=c at hh l1 l2 l3
 have le_next:c≤0→Op.bytesLess k (A++ [0])=true:=fun h=>by
  by_cases q:c=0
  ·rw[l2 q];exact yg7 A
  ·exact zh6 _ _ _ (l1 (by omega)) (yg7 A)
 have ge:0≤c→Op.bytesLess k A=false:=fun h=>by
  by_cases q:c=0
  ·rw[l2 q];exact zg6 A
  ·exact zw8 (l3 (by omega))
 unfold cutF
 unfold zb5 at hh
 by_cases h1:s= [61]
 ·rw[if_pos h1]at hh⊢
  have hc:c=0:=by simpa using hh
  exact⟨yy1 hb.1 (ge (by omega)),yy3 hb.2 (le_next (by omega))⟩
 rw[if_neg h1]at hh⊢
 by_cases h2:s= [60]
 ·rw[if_neg (by rw[h2];decide),if_pos h2]at hh
  rw[if_pos h2]
  have hc:c<0:=by simpa using hh
  exact⟨hb.1,yy3 hb.2 (l1 hc)⟩
 rw[if_neg h2]
 by_cases h3:s= [60,61]
 ·rw[if_neg (by rw[h3];decide),if_neg h2,if_pos h3]at hh
  rw[if_pos h3]
  have hc:c≤0:=by simpa using hh
  exact⟨hb.1,yy3 hb.2 (le_next hc)⟩
 rw[if_neg h3]
 by_cases h4:s= [62]
 ·rw[if_neg (by rw[h4];decide),if_neg h2,if_neg h3,if_pos h4]at hh
  rw[if_pos h4]
  have hc:0<c:=by simpa using hh
  exact⟨yy1 hb.1 (yE0 _ _ (l3 hc)),hb.2⟩
 rw[if_neg h4]
 by_cases h5:s= [62,61]
 ·rw[if_neg (by rw[h5];decide),if_neg h2,if_neg h3,if_neg h4]at hh
  rw[if_pos h5]
  have hc:0≤c:=by simpa using hh
  exact⟨yy1 hb.1 (ge hc),hb.2⟩
 ·rw[if_neg h5];exact hb
theorem yF0 {T:GTable} {row:List GValue} {t:Int} (ht:isF 3 t=true) {name:List UInt8} {q:Nat} (hq:colF T name=q) {kv:GValue} (hkv:row[q]? =some kv): ∀(l:List GCut),(∀c∈l,zT5 T row c)→ ∀b,In b (yY 3 t kv)→In (zF5 3 t name l b) (yY 3 t kv)
 | [],_,b,hb=>hb
 |c::l,h,b,hb=>by
  have ih:=yF0 ht hq hkv l (fun x hx=>h x (List.mem_cons_of_mem _ hx))
  have e:zF5 3 t name (c::l) b=zF5 3 t name l (if c.name=name then cutF (yY 3 t c.v) c.sign b else b):=rfl
  rw[e]
  refine ih _ ?_
  split
  ·rename_i hn
   obtain⟨j,rv,e1,e2,e3,e4,e5,e6,e7,e8⟩:=h c (List.mem_cons_self ..)
   rw[hn,hq]at e1
   have e1:q=j:=by omega
   subst e1
   rw[hkv]at e2
   cases e2
   exact xl9 ht e3 e4 e5 e6 e7 e8 hb
  ·exact hb
theorem xp4 {t:Int} (ht:isF 3 t=true) (kv:GValue):In (allF 3 t) (yY 3 t kv):=by
 unfold allF yY
 rw[if_pos ht,if_pos ht]
 obtain⟨j,rfl,hj⟩:=zJ9 ht
 refine⟨?_, ?_⟩
 ·rw[za3,if_neg (Nat.lt_irrefl _),if_neg (Nat.lt_irrefl _)]
  cases keyF kv<;>rfl
 ·match j,hj with
  |0,_=>rfl
  |1,_=>rfl
  |2,_=>rfl
theorem xs0 {tn:Nat} {T:GTable} (hT:tabsS[tn]? =some T) {row:List GValue} {st:GStmt} (hcuts: ∀c∈ofS4 st,zT5 T row c) {kv:GValue} (hkv:row[T.key.toNat]? =some kv):In (zJ0 tabsS tn (ofS4 st)) (yY 3 tn kv):=by
 obtain⟨htn,hTx⟩:=List.getElem?_eq_some_iff.1 hT
 have hTm:T∈tabsS:=hTx▸List.getElem_mem htn
 have h3:tn<3:=htn
 have ht:isF 3 tn=true:=by unfold isF;rw[decide_eq_true (by omega),decide_eq_true (by omega)];rfl
 obtain⟨nm,q,hn,hq,hqk⟩: ∃(nm:List UInt8) (q:Nat),zp6 T=some nm∧colF T nm=q∧T.key.toNat=q:=by
  have hall: ∀T∈tabsS,∃nm,zp6 T=some nm∧colF T nm=T.key.toNat:=by
   intro T hT
   have:T=tabT∨T=tabG∨T=tabH:=by simpa[tabsS]using hT
   rcases this with rfl|rfl|rfl<;>exact⟨_,rfl,rfl⟩
  obtain⟨nm,h1,h2⟩:=hall T hTm
  exact⟨nm,_,h1,h2,rfl⟩
 rw[hqk]at hkv
 have hin:=yF0 ht hq hkv (ofS4 st) hcuts _ (xp4 ht kv)
 have e:zJ0 tabsS tn (ofS4 st)=((zF5 3 tn nm (ofS4 st) (allF 3 tn)).1,maxS (zF5 3 tn nm (ofS4 st) (allF 3 tn)).1 (zF5 3 tn nm (ofS4 st) (allF 3 tn)).2):=by
  unfold zJ0
  rw[show tabsS.length=3 from rfl,if_pos ht,Int.toNat_natCast,hT,Option.bind_some,hn]
 rw[e]
 generalize zF5 3 tn nm (ofS4 st) (allF 3 tn)=b at hin
 refine⟨hin.1, ?_⟩
 unfold maxS
 rcases zn1 b.1 b.2 with w|w|w
 ·rw[if_pos w];exact hin.2
 ·have:=hin.1;rw[w,hin.2]at this;cases this
 ·have:=zh6 _ _ _ hin.2 w
  rw[hin.1]at this;cases this
end Go.Proofs.YtajjjghohakniaaGreat
namespace Go.Proofs.YtajjjghohakniaaGreat
open Go Go.Vx R
set_option maxRecDepth 100000
end Go.Proofs.YtajjjghohakniaaGreat
namespace Go.Proofs.YtajjjghohakniaaGreat
open Go Go.Vx R
set_option maxRecDepth 100000
def g1 (r:Int) (f:Int→List GSpan):US:=if(f r).isEmpty=true then []else [(r,f r)]
end Go.Proofs.YtajjjghohakniaaGreat
namespace Go.Proofs.YtajjjghohakniaaGreat
open Go Go.Vx R
set_option maxRecDepth 100000
theorem yL4 {x y:Int} (h:cmpI x y=0):x=y:=by
 unfold cmpI at h
 split at h
 ·cases h
 split at h
 ·cases h
 ·omega
theorem yL6 {a b:GValue} (h:cmpV a b=0):a.n=b.n:=by
 unfold cmpV orL orL orL orL at h
 split at h
 ·split at h
  ·rename_i h2;exact yL4 h2
  ·rename_i h2;exact absurd h h2
 ·rename_i h1;exact absurd h h1
def zp0 (tn:Nat) (row:List GValue):Int:=if tn=0 then(row.getD 0 yV).n else if tn=1 then -1 else 1
theorem yQ4 {tn:Nat} (htn:tn<3) {T:GTable} (hT:tabsS[tn]? =some T) {row:List GValue} {st:GStmt} (hs:SOk st) (hcuts: ∀c∈ofS4 st,zT5 T row c) (hreg:tn=0→zp0 tn row=0∨zp0 tn row=1):zp0 tn row∈zc6 tn st:=by
 rw[←yA2 hs]
 unfold zX9
 match tn,htn with
 |0,_=>
  have hTT:T=tabT:=by cases hT;rfl
  subst hTT
  rw[if_pos (show((0:Nat):Int)=0 from rfl),List.mem_filter]
  refine⟨by rcases hreg rfl with h|h<;>rw[h]<;>simp, ?_⟩
  unfold yX6
  rw[List.all_eq_true]
  intro c hc
  obtain⟨j,rv,e1,e2,e3,e4,e5,e6,e7,e8⟩:=hcuts c hc
  by_cases q1:c.name= [82]
  rotate_left
  ·have q1':(c.name== [82])=false:=by simpa using q1
   rw[q1'];rfl
  by_cases q2:c.sign= [61]
  rotate_left
  ·have q2':(c.sign== [61])=false:=by simpa using q2
   rw[q2'];simp
  rw[q2]at e8
  have e8:cmpV rv c.v=0:=by
   have:(cmpV rv c.v==0)=true:=e8
   simpa using this
  have hn:=yL6 e8
  rw[q1]at e1
  have hj:(0:Int)=j:=e1
  have hj:j=0:=by omega
  subst hj
  have hr0:zp0 0 row=rv.n:=by
   unfold zp0
   rw[if_pos rfl,List.getD_eq_getElem?_getD,e2];rfl
  rw[hr0,hn]
  simp
 |1,_=>simp[zp0]
 |2,_=>simp[zp0]
theorem xt7 {tn:Nat} {T:GTable} (hT:tabsS[tn]? =some T):tn<3:=(List.getElem?_eq_some_iff.1 hT).1
theorem yy7 (l:GLot) {st:GStmt} (hst:st∈l.stmts) (hs:SOk st) (hk: ¬st.kind=2) {tn:Nat} {T:GTable} (hT:tabsS[tn]? =some T) (ht:wA st.table=tn) {row:List GValue} (hcuts: ∀c∈ofS4 st,zT5 T row c)
  (hreg:tn=0→zp0 tn row=0∨zp0 tn row=1) {kv:GValue} (hkv:row[T.key.toNat]? =some kv):
  ∃y∈zB5 l,y.1=(zb8 tn (zp0 tn row)).1∧ ∃x∈y.2,Op.bytesLess (yY 3 tn kv) x.lo=false∧Op.bytesLess (yY 3 tn kv) x.hi=true:=by
 have hin:=xs0 hT hcuts hkv
 rw[yL1 hs]at hin
 have hrg:=yQ4 (xt7 hT) hT hs hcuts hreg
 have hp:((zb8 tn (zp0 tn row)).1,(⟨(zg7 tabsS tn st).1,(zg7 tabsS tn st).2⟩:GSpan))∈l.stmts.flatMap stP:=by
  refine List.mem_flatMap.2 ⟨st,hst, ?_⟩
  unfold stP
  rw[ht,if_neg (by omega),if_neg hk]
  exact List.mem_map.2 ⟨_,hrg,rfl⟩
 have hall:=(ya9 (l.stmts.flatMap stP) xm5).2.1 _ hp
 have hne: ¬zM8 (⟨(zg7 tabsS tn st).1,(zg7 tabsS tn st).2⟩:GSpan)=true:=fun h=>by
  unfold zM8 at h
  simp only[Bool.or_eq_true,beq_iff_eq]at h
  rcases h with h|h
  ·have:=zh6 _ _ _ hin.2 h
   rw[hin.1]at this;cases this
  ·have:=hin.2
   rw[h,hin.1]at this;cases this
 obtain⟨y,hy,hy1,hy2⟩:=hall.resolve_left hne
 have e:zB5 l=zl5 (l.stmts.flatMap stP) []:=by unfold zB5;exact zW5 _ _
 rw[e]
 exact⟨y,hy,hy1,_,hy2,hin.1,hin.2⟩
end Go.Proofs.YtajjjghohakniaaGreat
namespace Go.Proofs.YtajjjghohakniaaGreat
open Go Go.Vx R
set_option maxRecDepth 100000
theorem yA0 (t:GTable) (row:List GValue) (hr:row.length≤maxLen):Pure Tryz.prog 37 [.agg t.row,.sl .ro (row.map GValue.row)] (.int .i64 (mayT t.cols row)):=by
 obtain⟨name,cols,key,place,region,zone⟩:=t
 refine VCalls.introV 0 Tryz.func37 Tryz.ntmps37 Tryz.results37 rfl rfl (Nat.le_of_ble_eq_true rfl) fun c hc hb=> ?_
 refine zC ?_
 have ret: ∀(r:Int) (σ:St),r=mayT cols row→wret (some (.int .i64 r)) 0 (fun r s=>r= .int .i64 (mayT cols row)∧s= []) σ:=fun r σ h=>by subst h;exact zQ (zA rfl) ⟨rfl,rfl⟩
 simp[go_sem]
 refine zS (fun h=> ?_) (fun h=> ?_)
 ·have h:row.length≠cols.length:=by simp at h;omega
  simp[go_sem]
  exact ret _ _ (by rw[mayT,if_pos h])
 have h:row.length=cols.length:=by simp at h;omega
 rw[mayT,if_neg (by omega)]at ret⊢
 simp[go_sem]
 refine zN (S:=Nat) [1,2,5] (fun i=> [.sl .ro (row.map GValue.row),.ptr 0 0,.int .i64 i]) (fun _=> [.box (GTable.row ⟨name,cols,key,place,region,zone⟩)]) (fun i=>row.length - i) (fun i=>i≤row.length∧zK4 (cols.drop i) (row.drop i)=zK4 cols row) hc hb 0 ⟨Nat.zero_le _,rfl⟩ ?_ ?_
 ·exact at_n 1 (by simp[go_sem]) rfl rfl (Nat.zero_le _) (zE (by simp[go_sem]) rfl)
 rintro i ⟨hi,hinv⟩
 refine zC ?_
 simp[go_sem]
 refine zS (fun q=> ?_) (fun q=> ?_)
 ·have q:i<row.length:=by simpa using q
  have q2:i<cols.length:=by omega
  have ei:=zU q (by unfold maxLen at hr;omega)
  rw[List.drop_eq_getElem_cons q,List.drop_eq_getElem_cons q2]at hinv
  obtain⟨⟨k,n,s⟩,hv⟩: ∃v,row[i]=v:=⟨_,rfl⟩
  obtain⟨⟨cn,ck,cb⟩,hcol⟩: ∃v,cols[i]=v:=⟨_,rfl⟩
  rw[hv,hcol,zK4]at hinv
  simp only at hinv
  simp[go_sem,q,hv]
  refine zD (zK5 ⟨k,n,s⟩) Tryz.callB90 (zG rfl) rfl ?_
  simp[go_sem]
  refine zS (fun h1=> ?_) (fun h1=> ?_)
  ·have h1:mayF ⟨k,n,s⟩=false:=by simpa using h1
   rw[if_pos h1]at hinv
   simp[go_sem]
   exact ret _ _ hinv
  have h1: ¬mayF ⟨k,n,s⟩=false:=by simpa using h1
  rw[if_neg h1]at hinv
  simp[go_sem,q,hv]
  refine yT (fun h2=> ?_) (fun h2=> ?_)
  ·have h2':k=0:=by simpa using h2
   simp[go_sem,h2,q2,hcol]
   refine zS (fun h3=> ?_) (fun h3=> ?_)
   ·have h3:cb=false:=by simpa using h3
    rw[if_pos ⟨h2',h3⟩]at hinv
    simp[go_sem]
    exact ret _ _ hinv
   have h3: ¬cb=false:=by simpa using h3
   rw[if_neg (fun w=>h3 w.2),if_neg (fun w=>w.1 h2')]at hinv
   simp[go_sem]
   refine zi5 [] 1 rfl (by kernel_rfl) (by kernel_rfl) ?_
   simp[go_sem,h2',q,hv,ei]
   exact zP (i+1) ⟨by omega,⟨q,hinv⟩,at_n 1 (by simp[go_sem]) rfl rfl (Nat.zero_le _) (zE (by simp[go_sem]) rfl)⟩
  ·have h2': ¬k=0:=by simpa using h2
   rw[if_neg (fun w=>h2' w.1)]at hinv
   simp[go_sem,h2]
   refine zi5 [] 1 rfl (by kernel_rfl) (by kernel_rfl) ?_
   have h2n:(k !=0)=true:=by simpa using h2'
   simp[go_sem,h2n,q,hv,q2,hcol]
   refine zS (fun h4=> ?_) (fun h4=> ?_)
   ·have h4: ¬k=ck:=by simpa using h4
    rw[if_pos ⟨h2',h4⟩]at hinv
    simp[go_sem]
    exact ret _ _ hinv
   have h4:k=ck:=by simpa using h4
   rw[if_neg (fun w=>w.2 h4)]at hinv
   simp[go_sem,ei]
   exact zP (i+1) ⟨by omega,⟨q,hinv⟩,at_n 1 (by simp[go_sem]) rfl rfl (Nat.zero_le _) (zE (by simp[go_sem]) rfl)⟩
 ·have q: ¬i<row.length:=by simpa using q
  have hie:i=row.length:=by omega
  have e:row.drop i= []:=List.drop_eq_nil_of_le (by omega)
  rw[e]at hinv
  simp[go_sem]
  exact ret _ _ (by rw[←hinv];cases List.drop i cols<;>rfl)
theorem zQ5 (t r:Int) (h:(t=0∧(r=0∨r=1))∨(t=1∧r=0)∨(t=2∧r=0)):Pure Tryz.prog 39 [schR tabsS,.int .i64 t,.int .i64 r] (zy2 (zb8 t r)):=by
 rcases h with ⟨rfl,rfl|rfl⟩|⟨rfl,rfl⟩|⟨rfl,rfl⟩
 all_goals exact zg2 ze0 za7 marks 10000 (by kernel_rfl)
theorem yP9 (i:Int) (h0:0≤i) (h4:i<4):Pure Tryz.prog 38 [schR tabsS,.int .i64 i] (.bool (decide (i<2))):=by
 have h:i=0∨i=1∨i=2∨i=3:=by omega
 rcases h with rfl|rfl|rfl|rfl
 all_goals exact zg2 ze0 za7 marks 10000 (by kernel_rfl)
def keyS (tn:Nat) (T:GTable) (row:List GValue):Int×List UInt8×Int:=
 if mayT T.cols row≠0 then(0,[],mayT T.cols row)else if tn=0∧ ¬((row.getD 0 yV).n=0∨(row.getD 0 yV).n=1)then(0,[],19)else((zb8 tn (zp0 tn row)).1,yY 3 tn (row.getD T.key.toNat yV),0)
set_option maxHeartbeats 4000000 in
theorem yQ1 (tn:Nat) (T:GTable) (hT:tabsS[tn]? =some T) (row:List GValue) (hr:row.length≤maxLen) (hv: ∀v∈row,v.ok):Pure Tryz.prog 17 [schR tabsS,.int .i64 tn,.sl .ro (row.map GValue.row)] (keyV (keyS tn T row)):=by
 obtain⟨htn,hTx⟩:=List.getElem?_eq_some_iff.1 hT
 have h3:tn<3:=htn
 obtain⟨hk0,hk1⟩:=(by decide: ∀T∈tabsS,0≤T.key∧T.key<T.cols.length) T (hTx▸List.getElem_mem htn)
 have hmay:=yA0 T row hr
 have his:=yI2 zf3 (tabsS.map GTable.row) tn
 have hlen:=fun h=>yq7 (cols:=T.cols) (row:=row) h
 generalize hres:keyS tn T row=res
 unfold keyS at hres
 generalize mayT T.cols row=m at hmay hlen hres
 have hpl:T.place=0↔tn=0:=by
  match tn,h3 with
  |0,_=>cases hT;decide
  |1,_=>cases hT;decide
  |2,_=>cases hT;decide
 refine VCalls.introV 0 Tryz.func17 Tryz.ntmps17 Tryz.results17 rfl rfl (Nat.le_of_ble_eq_true rfl) fun c hc hb=> ?_
 refine zC ?_
 simp[go_sem,schR]
 refine zD his Tryz.callB36 (zI (by simp) rfl) rfl ?_
 simp[go_sem,htn,hTx]
 refine zD hmay Tryz.callB37 (zI (by simp[go_sem]) rfl) rfl ?_
 by_cases w0:m=0
 rotate_left
 ·have w0':(m !=0)=true:=by simpa using w0
  rw[if_pos w0]at hres
  simp[go_sem,w0']
  exact zE2 hres.symm
 have w0':(m !=0)=false:=by simpa using w0
 rw[if_neg (fun h=>h w0)]at hres
 have hl:=hlen w0
 obtain⟨q,hq⟩: ∃q:Nat,T.key=q:=⟨T.key.toNat,by omega⟩
 have hqr:q<row.length:=by omega
 have h0r:0<row.length:=by omega
 obtain⟨kv,hkv⟩: ∃v,row[q]=v:=⟨_,rfl⟩
 obtain⟨v0,hv0⟩: ∃v,row[0]=v:=⟨_,rfl⟩
 have e2:row.getD T.key.toNat yV=kv:=by rw[hq,Int.toNat_natCast,List.getD_eq_getElem?_getD,List.getElem?_eq_getElem hqr,hkv];rfl
 have e0:row.getD 0 yV=v0:=by rw[List.getD_eq_getElem?_getD,List.getElem?_eq_getElem h0r,hv0];rfl
 have hbd:=ys2 zf3 (tabsS.map GTable.row) tn kv (by decide) (hv kv (hkv▸List.getElem_mem hqr))
 rw[show(tabsS.map GTable.row).length=3 from rfl]at hbd
 have hreg:zp0 tn row=if tn=0 then v0.n else if tn=1 then -1 else 1:=by unfold zp0;rw[e0]
 rw[e2,e0]at hres
 generalize yY 3 tn kv=bd at hbd hres
 obtain⟨pl,hpl2⟩: ∃pl,T.place=pl:=⟨_,rfl⟩
 rw[hpl2]at hpl
 by_cases wp:pl=0
 rotate_left
 ·have wp':(pl==0)=false:=by simpa using wp
  have ht0: ¬tn=0:=fun h=>wp (hpl.2 h)
  rw[if_neg (fun h=>ht0 h.1)]at hres
  have hrg:=zQ5 tn 0 (by omega)
  have hrr:(zb8 tn 0).1=(zb8 tn (zp0 tn row)).1:=by
   match tn,h3,ht0 with
   |1,_,_=>rfl
   |2,_,_=>rfl
  rw[←hrr]at hres
  simp[go_sem,w0',hpl2,wp']
  refine zD hrg Tryz.callB39 (zI (by simp[go_sem,schR]) rfl) rfl ?_
  simp[go_sem,zy2]
  refine xC [(8,0)] 2 (by simp) (by kernel_rfl) (by kernel_rfl) ?_
  simp[go_sem,hq,hqr,hkv]
  refine zT hbd Tryz.callB40 (fun _=>zI (by simp[go_sem]) rfl) rfl ?_
  simp[go_sem]
  exact zE2 hres.symm
 have wp':(pl==0)=true:=by simpa using wp
 have ht0:tn=0:=hpl.1 wp
 rw[if_pos ht0]at hreg
 have bad: ¬(v0.n=0∨v0.n=1)→(0,[],19)=res:=fun h=>by rw[if_pos ⟨ht0,h⟩]at hres;exact hres
 have good:(v0.n=0∨v0.n=1)→((zb8 tn v0.n).1,bd,0)=res:=fun h=>by rw[if_neg (fun g=>g.2 h),hreg]at hres;exact hres
 clear hres
 simp[go_sem,w0',hpl2,wp']
 refine xC [(18,0)] 2 (by simp) (by kernel_rfl) (by kernel_rfl) ?_
 simp[go_sem,h0r,hv0]
 by_cases c1:v0.n<0
 ·have c1':decide (v0.n<0)=true:=decide_eq_true c1
  simp[go_sem,c1']
  exact zE2 (bad (by omega)).symm
 have c1':decide (v0.n<0)=false:=decide_eq_false c1
 simp[go_sem,c1',h0r,hv0]
 by_cases c2:4≤v0.n
 ·have c2':decide (4≤v0.n)=true:=decide_eq_true c2
  simp[go_sem,c2']
  exact zE2 (bad (by omega)).symm
 have c2':decide (4≤v0.n)=false:=decide_eq_false c2
 simp[go_sem,c2',h0r,hv0]
 refine zT (yP9 v0.n (by omega) (by omega)) Tryz.callB38 (fun _=>zI (by simp[go_sem,schR]) rfl) rfl ?_
 by_cases c3:v0.n<2
 rotate_left
 ·have c3':decide (v0.n<2)=false:=decide_eq_false c3
  simp[go_sem,c3']
  exact zE2 (bad (by omega)).symm
 have c3':decide (v0.n<2)=true:=decide_eq_true c3
 have hgd:=good (by omega)
 have hrg:=zQ5 tn v0.n (by omega)
 simp[go_sem,c3',h0r,hv0]
 refine zD hrg Tryz.callB39 (zI (by simp[go_sem,schR]) rfl) rfl ?_
 simp[go_sem,zy2]
 refine xC [(8,0)] 2 (by simp) (by kernel_rfl) (by kernel_rfl) ?_
 simp[go_sem,hq,hqr,hkv]
 refine zT hbd Tryz.callB40 (fun _=>zI (by simp[go_sem]) rfl) rfl ?_
 simp[go_sem]
 exact zE2 hgd.symm
end Go.Proofs.YtajjjghohakniaaGreat
namespace Go.Proofs.YtajjjghohakniaaGreat
open Go Go.Vx R
set_option maxRecDepth 100000
end Go.Proofs.YtajjjghohakniaaGreat
namespace Go.Proofs.YtajjjghohakniaaGreat
open Go Go.Vx R
set_option maxRecDepth 100000
theorem ya6: ∀(ps:List (Int×GSpan)) {n:Nat} {U:US},Bd n U→Bd (n+ps.length) (zl5 ps U)
 | [],_,_,h=>h
 |p::ps,n,U,h=>by
  have h1:=ya6 ps (Bd.need h p.1 p.2)
  rw[List.length_cons,show n+(ps.length+1)=n+1+ps.length by omega]
  exact h1
theorem xb8 (t:Int) (r:List GExpr):(rowP t r).length≤1:=by
 unfold rowP
 repeat' split
 all_goals simp
theorem ye7 (t:Int): ∀rs:List (List GExpr),(rs.flatMap (rowP t)).length≤rs.length
 | []=>Nat.le_refl _
 |r::rs=>by
  rw[List.flatMap_cons,List.length_append,List.length_cons]
  have:=xb8 t r
  have:=ye7 t rs
  omega
theorem xl7 {st:GStmt} (h:SOk st):(stP st).length≤20:=by
 unfold stP
 split
 ·simp
 ·split
  ·have:=ye7 (wA st.table) st.rows
   have:=h.rows.1
   omega
  ·rw[List.length_map]
   have:=zK6 (wA st.table) st
   omega
theorem yO5 (l:GLot) (hs: ∀st∈l.stmts,SOk st):Bd (20*l.stmts.length) (zB5 l):=by
 have: ∀L:List GStmt,(∀st∈L,SOk st)→(L.flatMap stP).length≤20*L.length:=by
  intro L
  induction L with
  |nil=>intro _;exact Nat.le_refl _
  |cons x L ih=>
   intro h
   have h1:=ih (fun y hy=>h y (List.mem_cons_of_mem _ hy))
   have h2:=xl7 (h x (List.mem_cons_self ..))
   rw[List.flatMap_cons,List.length_append,List.length_cons]
   omega
 have h1:=this _ hs
 unfold zB5
 rw[zW5]
 have h2:=ya6 (l.stmts.flatMap stP) (n:=0) (U:= []) ⟨Nat.le_refl _,fun y hy=>by cases hy⟩
 exact⟨by have:=h2.1;omega,fun y hy=>by have:=h2.2 y hy;omega⟩
end Go.Proofs.YtajjjghohakniaaGreat
namespace Go.Proofs.YtajjjghohakniaaGreat
open Go Go.Vx R
set_option maxRecDepth 100000
theorem yb3 {mode:Int}: ∀{L:List GStmt} {i:Nat},(zH2 mode L i).2=0→ ∀st∈L,zx0 st=0
 | [],_,_,y,hst=>by cases hst
 |x::l,i,h,y,hst=>by
  rw[zH2]at h
  split at h
  ·cases h
  split at h
  ·rename_i h2;exact absurd h h2
  ·rename_i h2
   have h2:zx0 x=0:=by simpa using h2
   rcases List.mem_cons.1 hst with rfl|hst
   ·exact h2
   ·exact yb3 h y hst
end Go.Proofs.YtajjjghohakniaaGreat
namespace Go.Proofs.YtajjjghohakniaaGreat
open Go Go.Vx R
set_option maxRecDepth 100000
theorem xt9 {l:GLot} (h:(zG6 l).2=0) {st:GStmt} (hst:st∈l.stmts): ∃(tn:Nat) (T:GTable),wA st.table=tn∧tabsS[tn]? =some T:=by
 unfold zG6 at h
 split at h
 rotate_left
 ·cases h
 have hc:=yb3 h st hst
 unfold zx0 at hc
 cases hT:tabsS[(wA st.table).toNat]? with
 |none=>rw[hT]at hc;cases hc
 |some T=>
  rw[hT]at hc
  simp only at hc
  split at hc
  ·cases hc
  ·exact⟨(wA st.table).toNat,T,by omega,hT⟩
theorem yW3 {l:GLot} {st:GStmt} (hst:st∈l.stmts) (hs:SOk st) (hk: ¬st.kind=2) {tn:Nat} {T:GTable} (hT:tabsS[tn]? =some T) (ht:wA st.table=tn) {row:List GValue} (hv: ∀v∈row,v.ok)
  (hkey:(keyS tn T row).2.2=0) (hf:st.filtered=true→(evR T row st.where_).2=0∧zn9 (evR T row st.where_).1=true):
  ∃y∈zB5 l,y.1=(keyS tn T row).1∧ ∃x∈y.2,Op.bytesLess (keyS tn T row).2.1 x.lo=false∧Op.bytesLess (keyS tn T row).2.1 x.hi=true:=by
 obtain⟨htn,hTx⟩:=List.getElem?_eq_some_iff.1 hT
 obtain⟨hk0,hk1⟩:=(by decide: ∀T∈tabsS,0≤T.key∧T.key<T.cols.length) T (hTx▸List.getElem_mem htn)
 have hlen:=fun h=>yq7 (cols:=T.cols) (row:=row) h
 have hev:st.filtered=true→RowOk T row∧Holds T row st.where_:=fun q=>by
  obtain⟨h1,h2⟩:=hf q
  unfold evR at h1 h2
  by_cases w1:(wS T st.where_).2=0
  rotate_left
  ·rw[if_pos w1]at h1;exact absurd h1 w1
  rw[if_neg (fun h=>h w1)]at h1 h2
  by_cases w2:zt7 T.cols row=false
  ·rw[if_pos w2]at h1;cases h1
  rw[if_neg w2]at h1 h2
  unfold wS at w1
  split at w1
  ·exact⟨yd4 (by simpa using w2) hv,⟨hs.where_.good,w1,h1,h2⟩⟩
  ·cases w1
 have hcuts:=xq2 hT hv (fun q=>(hev q).1) (fun q=>(hev q).2)
 unfold keyS at hkey⊢
 by_cases w0:mayT T.cols row=0
 rotate_left
 ·rw[if_pos w0]at hkey;exact absurd hkey w0
 rw[if_neg (fun h=>h w0)]at hkey⊢
 by_cases w1:tn=0∧ ¬((row.getD 0 yV).n=0∨(row.getD 0 yV).n=1)
 ·rw[if_pos w1]at hkey;cases hkey
 rw[if_neg w1]
 have hl:=hlen w0
 have hq:T.key.toNat<row.length:=by omega
 rw[show row.getD T.key.toNat yV=row[T.key.toNat] by rw[List.getD_eq_getElem?_getD,List.getElem?_eq_getElem hq];rfl]
 exact yy7 l hst hs hk hT ht hcuts (fun h=>by
  unfold zp0
  rw[if_pos h]
  by_cases w:(row.getD 0 yV).n=0∨(row.getD 0 yV).n=1
  ·exact w
  ·exact absurd ⟨h,w⟩ w1) (List.getElem?_eq_getElem hq)
end Go.Proofs.YtajjjghohakniaaGreat
