/-
  The document's lists of lines: less, at, has, hasRegion, with; used by the walk of the document's Run.
  Conditions: as each theorem states them.
-/
import Derived.Test.YtkigddpaonhmlaaGreatXBD
import Derived.Test.YtkigddpaonhmlaaGreatXAW
import Derived.Test.YtkigddpaonhmlaaGreatXAY
import Derived.Test.YtkigddpaonhmlaaGreatXBC
import Derived.Test.YtkigddpaonhmlaaGreatXAP
set_option maxHeartbeats 8000000
namespace Go.Proofs.YtkigddpaonhmlaaGreat
open Go Go.Vx R Go.Proofs.Tryz
set_option maxRecDepth 100000
def noT:GTable:=⟨[],[],0,0,0,⟨[],[],[],0,0,0⟩⟩
theorem yY7:RowOk noT []:=⟨rfl,fun j C v h=>by simp[noT]at h⟩
theorem xt2:noT.cols= []:=rfl
def evN (e:GExpr):GValue×Int:=if(zb0 noT e).2≠0 then(zeroV,(zb0 noT e).2)else evF noT [] e
theorem xO7 {e:GExpr} (he:EOk e) (h:(evN e).2=0):VK (evN e).1 (zb0 noT e).1:=by
 unfold evN at h⊢
 by_cases q:(zb0 noT e).2=0
 rotate_left
 .rw[if_pos q]at h;exact absurd h q
 have n1: ¬(zb0 noT e).2≠0:=fun h=>h q
 rw[if_neg n1]at h⊢
 have hs:=he.size
 unfold zb0 at q⊢
 by_cases d:wB e<=64
 .rw[if_pos d]at q⊢
  exact yV7 yY7 64 e d he.good q h
 .rw[if_neg d]at q;cases q
theorem xB2 (e:GExpr) (he:EOk e):Pure prog 66 [.agg noT.row,.sl .ro [],.agg e.row] (valP (evN e)):=by
 have hty:=yt0 noT (by simp[noT,maxLen]) e he
 have hev:=fun(d:wB e<=64) (k:(zj3 noT e).2=0)=>yN8 yY7 (by simp[noT,maxLen]) 64 e d he.wide he.good k
 generalize hM:evN e=M
 unfold evN at hM
 have ret: ∀(v:GValue) (e:Int) (σ:St),(v,e)=M->wret (some (.tup [.agg v.row,.int .i64 e])) 0 (fun r s=>r=valP M/\s= []) σ:=fun v e σ h=>zn0 h
 refine iV 0 func66 ntmps66 results66 fun c hc hb=> ?_
 refine zA ?_
 simp[go_sem]
 refine zD hty cB (zR (by simp[go_sem]) (by rw[GExpr.row_eq];rfl)) rfl ?_
 simp[go_sem,wA]
 by_cases q:(zb0 noT e).2=0
 rotate_left
 .have q':((zb0 noT e).2 !=0)=true:=by simpa using q
  rw[if_pos q]at hM
  simp[go_sem,q']
  exact ret zeroV _ _ hM
 have q':((zb0 noT e).2 !=0)=false:=by simpa using q
 have n1: ¬(zb0 noT e).2≠0:=fun h=>h q
 rw[if_neg n1]at hM
 have hcall:Pure prog 112 [.agg noT.row,.sl .ro [],.agg e.row] (valP (evF noT [] e)):=by
  unfold zb0 at q
  by_cases d:wB e<=64
  .rw[if_pos d]at q;exact hev d q
  .rw[if_neg d]at q;cases q
 rw[hM]at hcall
 simp[go_sem,q',xt2]
 refine zL (S:=Unit) [1,3,5,6,29,30,31] (fun _=> [.sl .ro [],.ptr 0 0,.ptr 1 0,.ptr 2 0,.sl .ro [],.int .i64 0,.int .i64 0])
   (fun _=> [.box noT.row,.box e.row,.box [.int .i64 0,.int .i64 0,.str []]]) (fun _=>0) (fun _=>True) hc hb () trivial ?_ ?_
 .exact at_n 3 (by simp[go_sem,noT]) rfl (by simp[ltOb,ltC,ltK,GExpr.row_eq,GTable.row]) (A3 _) (zG (by simp[go_sem]) rfl)
 rintro u _
 refine zA ?_
 simp[go_sem]
 refine zD hcall cB (zR (by simp[go_sem]) (by rw[GExpr.row_eq];rfl)) rfl ?_
 simp[go_sem,valP]
 exact zn0 rfl
end Go.Proofs.YtkigddpaonhmlaaGreat
namespace Go.Proofs.YtkigddpaonhmlaaGreat.R
open Go Go.Vx Go.Proofs.Tryz
set_option maxRecDepth 100000
def zx1:List GCol->List GValue->Int
 |c::cs,v::vs=>if mayF v=false then 9 else if v.kind=0/\c.null=false then 16 else if v.kind≠0/\v.kind≠c.kind then 15 else zx1 cs vs
 |_,_=>0
def mayT (cols:List GCol) (row:List GValue):Int:=if row.length≠cols.length then 9 else zx1 cols row
theorem yA4 (t:GTable) (row:List GValue) (hr:row.length<=maxLen):Pure prog 61 [.agg t.row,.sl .ro (row.map GValue.row)] (.int .i64 (mayT t.cols row)):=by
 obtain⟨name,cols,key,place,region,zone⟩:=t
 refine iV 0 func61 ntmps61 results61 fun c hc hb=> ?_
 refine zA ?_
 have ret: ∀(r:Int) (σ:St),r=mayT cols row->wret (some (.int .i64 r)) 0 (fun r s=>r= .int .i64 (mayT cols row)/\s= []) σ:=fun r σ h=>by subst h;exact zQ (zC rfl) ⟨rfl,rfl⟩
 simp[go_sem]
 refine zT (fun h=> ?_) (fun h=> ?_)
 .have h:row.length≠cols.length:=by simp at h;omega
  simp[go_sem]
  exact ret _ _ (by rw[mayT,if_pos h])
 have h:row.length=cols.length:=by simp at h;omega
 rw[mayT,if_neg (by omega)]at ret⊢
 simp[go_sem]
 refine zL (S:=Nat) [2,13,14,15] (fun i=> [.ptr 0 0,.sl .ro (row.map GValue.row),.int .i64 row.length,.int .i64 i]) (fun _=> [.box (GTable.row ⟨name,cols,key,place,region,zone⟩)]) (fun i=>row.length - i) (fun i=>i<=row.length/\zx1 (cols.drop i) (row.drop i)=zx1 cols row) hc hb 0 ⟨A3 _,rfl⟩ ?_ ?_
 .exact aN 1 rfl
 rintro i ⟨hi,hinv⟩
 refine zA ?_
 simp[go_sem]
 refine zT (fun q=> ?_) (fun q=> ?_)
 .have q:i<row.length:=by simpa using q
  have q2:i<cols.length:=by omega
  have ei:=zV q (by unfold maxLen at hr;omega)
  rw[A6 q,A6 q2]at hinv
  obtain⟨⟨k,n,s⟩,hv⟩: ∃v,row[i]=v:=⟨_,rfl⟩
  obtain⟨⟨cn,ck,cb⟩,hcol⟩: ∃v,cols[i]=v:=⟨_,rfl⟩
  rw[hv,hcol,zx1]at hinv
  simp only at hinv
  simp[go_sem,q,hv]
  refine zD (ym5 ⟨k,n,s⟩) cB (zH rfl) rfl ?_
  simp[go_sem]
  refine zT (fun h1=> ?_) (fun h1=> ?_)
  .have h1:mayF ⟨k,n,s⟩=false:=by simpa using h1
   rw[if_pos h1]at hinv
   simp[go_sem]
   exact ret _ _ hinv
  have h1: ¬mayF ⟨k,n,s⟩=false:=by simpa using h1
  rw[if_neg h1]at hinv
  simp[go_sem]
  refine yZ (fun h2=> ?_) (fun h2=> ?_)
  .have h2':k=0:=by simpa using h2
   simp[go_sem,h2,q2,hcol]
   refine zT (fun h3=> ?_) (fun h3=> ?_)
   .have h3:cb=false:=by simpa using h3
    rw[if_pos ⟨h2',h3⟩]at hinv
    simp[go_sem]
    exact ret _ _ hinv
   have h3: ¬cb=false:=by simpa using h3
   rw[if_neg (fun w=>h3 w.2),if_neg (fun w=>w.1 h2')]at hinv
   simp[go_sem]
   refine yU [] 2 rfl (by kernel_rfl) (by kernel_rfl) ?_
   simp[go_sem,h2',q2,hcol,ei]
   exact zI (i+1) ⟨by omega,⟨q,hinv⟩,aM 1 rfl (zG (by simp[go_sem,ei]) rfl)⟩
  .have h2': ¬k=0:=by simpa using h2
   rw[if_neg (fun w=>h2' w.1)]at hinv
   simp[go_sem,h2]
   refine yU [] 2 rfl (by kernel_rfl) (by kernel_rfl) ?_
   have h2n:(k !=0)=true:=by simpa using h2'
   simp[go_sem,h2n,q2,hcol]
   refine zT (fun h4=> ?_) (fun h4=> ?_)
   .have h4: ¬k=ck:=by simpa using h4
    rw[if_pos ⟨h2',h4⟩]at hinv
    simp[go_sem]
    exact ret _ _ hinv
   have h4:k=ck:=by simpa using h4
   rw[if_neg (fun w=>w.2 h4)]at hinv
   simp[go_sem,ei]
   exact zI (i+1) ⟨by omega,⟨q,hinv⟩,aM 1 rfl (zG (by simp[go_sem,ei]) rfl)⟩
 .have q:i=row.length:=by
   have: ¬i<row.length:=by simpa using q
   omega
  subst q
  rw[Cu,h,Cu]at hinv
  simp[go_sem]
  exact ret _ _ hinv
def keyR (n j:Nat) (t:GTable) (row:List GValue) (rg:Int->Int×Int):Int×List UInt8×Int:=
 if mayT t.cols row≠0 then(0,[],mayT t.cols row)
 else
  let r:=rg (if t.place=0 then min (max (row.headD v0).n (-1)) 4 else 0)
  if r.2≠0 then(0,[],r.2)else(r.1,zB4 n j (row.getD t.key.toNat v0),0)
def keyV (r:Int×List UInt8×Int):V:= .tup [.int .i64 r.1,.str r.2.1,.int .i64 r.2.2]
theorem zO9 {r:Int×List UInt8×Int} {a e:Int} {s:List UInt8} {σ:St} (h:r=(a,s,e)):wret (some (.tup [.int .i64 a,.str s,.int .i64 e])) 0 (fun v s=>v=keyV r/\s= []) σ:=by
 subst h
 exact zQ (zC rfl) ⟨rfl,rfl⟩
theorem zj4 {cols:List GCol} {row:List GValue} (h:mayT cols row=0):row.length=cols.length:=by
 unfold mayT at h
 split at h
 .cases h
 .rename_i h2;omega
theorem xk8 (regs:List (List V)) (ts:List GTable) (j:Nat) (hj:j<ts.length) (t:GTable) (ht:ts[j]=t) (row:List GValue) (hr:row.length<=maxLen) (hL:mayT t.cols row=0->LightR row) (hn:ts.length<=maxB) (hk:0<=t.key/\t.key<t.cols.length) (rg:Int->Int×Int)
  (hrg: ∀r,-1<=r->r<=4->(t.place≠0->r=0)->Pure prog 62 [.agg [.sl .ro regs,.sl .ro (ts.map GTable.row)],.int .i64 j,.int .i64 r] (.tup [.int .i64 (rg r).1,.int .i64 (rg r).2])):
  Pure prog 29 [.agg [.sl .ro regs,.sl .ro (ts.map GTable.row)],.int .i64 j,.sl .ro (row.map GValue.row)] (keyV (keyR ts.length j t row rg)):=by
 have hmay:=yA4 t row hr
 have hbound: ∀v:GValue,v.ok->v.s.length<=500->_:=fun v h1 h2=>xB1 regs (ts.map GTable.row) j v (by simpa using hn) h1 h2
 simp only[Aq]at hbound
 generalize hres:keyR ts.length j t row rg=res
 unfold keyR at hres
 obtain⟨m,hm⟩:=eX (mayT t.cols row)
 have hlen:m=0->row.length=t.cols.length:=fun h=>zj4 (hm.trans h)
 rw[hm]at hmay hL hres
 obtain⟨name,cols,key,place,region,zone⟩:=t
 simp only at hk hlen hres
 obtain⟨q,rfl⟩: ∃q:Nat,key=q:=⟨key.toNat,by omega⟩
 refine iV 0 func29 ntmps29 results29 fun c hc hb=> ?_
 refine zA ?_
 simp[go_sem]
 refine zD (is_w regs (ts.map GTable.row) j) cB (zH rfl) rfl ?_
 simp[go_sem,hj,ht]
 refine zD hmay cB (zR (by simp[go_sem]) rfl) rfl ?_
 simp[go_sem]
 refine zT (fun h=> ?_) (fun h=> ?_)
 .have h:m≠0:=by simpa using h
  simp[go_sem]
  exact zO9 (by rw[<-hres,if_pos h])
 have h:m=0:=by simpa using h
 have hl:=hlen h
 have hq:q<row.length:=by omega
 have h0:0<row.length:=by omega
 have hLr:=hL h
 obtain⟨v,hv⟩:=eX (row[q])
 obtain⟨v1,hv1⟩: ∃v,row[0]=v:=⟨_,rfl⟩
 have hvm:v∈row:=hv▸A8 hq
 have e1:row.headD v0=v1:=by
  rw[<-hv1]
  cases row with
  |nil=>simp at h0
  |cons a l=>rfl
 have e2:row.getD q v0=v:=by rw[A5,A0 hq,hv];rfl
 rw[if_neg (by omega),e1,Ax,e2]at hres
 have hb2:=hbound v (hLr.ok v hvm) (hLr.s v hvm)
 have fin: ∀(x:Int) (σ:St),(if place=0 then min (max v1.n (-1)) 4 else 0)=x->((rg x).2≠0->res=(0,[],(rg x).2))/\((rg x).2=0->res=((rg x).1,zB4 ts.length j v,0)):=fun x σ hx=>by
  rw[hx]at hres
  exact⟨fun w=>by rw[<-hres];exact if_pos w,fun w=>by rw[<-hres];exact if_neg (fun q=>q w)⟩
 simp[go_sem]
 refine zT (fun hp=> ?_) (fun hp=> ?_)
 .have hp:place=0:=by simpa using hp
  simp[go_sem,h0,hv1]
  obtain⟨x,hx⟩:=eX ((if 4<if v1.n< -1 then -1 else v1.n then 4 else if v1.n< -1 then -1 else v1.n))
  have hx2:x=min (max v1.n (-1)) 4:=by rw[<-hx];split<;>split<;>omega
  rw[hx]
  have fx1:=fin x [] (by rw[if_pos hp,hx2])
  have hr1:=hrg x (by omega) (by omega) (fun w=>absurd hp w)
  revert fx1 hr1
  generalize rg x=o
  obtain⟨oa,oe⟩:=o
  intro fx1 hr1
  simp only at fx1 hr1
  refine zD hr1 cB (zH rfl) rfl ?_
  simp[go_sem]
  refine zT (fun w=> ?_) (fun w=> ?_)
  .have w:oe≠0:=by simpa using w
   simp[go_sem]
   exact zO9 (fx1.1 w)
  have w:oe=0:=by simpa using w
  simp[go_sem]
  refine yU [(8,0)] 2 rfl (by kernel_rfl) (by kernel_rfl) ?_
  simp[go_sem,hq,hv]
  refine zW hb2 cB (fun _=>zH rfl) rfl ?_
  simp[go_sem]
  exact zO9 (fx1.2 w)
 .have hp: ¬place=0:=by simpa using hp
  have fx1:=fin 0 [] (by rw[if_neg hp])
  have hr1:=hrg 0 (by omega) (by omega) (fun _=>rfl)
  revert fx1 hr1
  generalize rg 0=o
  obtain⟨oa,oe⟩:=o
  intro fx1 hr1
  simp only at fx1 hr1
  simp[go_sem]
  refine zD hr1 cB (zH rfl) rfl ?_
  simp[go_sem]
  refine zT (fun w=> ?_) (fun w=> ?_)
  .have w:oe≠0:=by simpa using w
   simp[go_sem]
   exact zO9 (fx1.1 w)
  have w:oe=0:=by simpa using w
  simp[go_sem]
  refine yU [(8,0)] 2 rfl (by kernel_rfl) (by kernel_rfl) ?_
  simp[go_sem,hq,hv]
  refine zW hb2 cB (fun _=>zH rfl) rfl ?_
  simp[go_sem]
  exact zO9 (fx1.2 w)
theorem xM6 {n:Nat} (h:n<256):(UInt8.ofNat n).toNat=n:=by
 rw[UInt8.toNat_ofNat']
 exact Ch h
theorem zc2: ∀a:List UInt8,Op.bytesLess a a=false
 | []=>rfl
 |a::l=>by simp[Op.bytesLess,zc2 l]
theorem zp1: ∀a b c:List UInt8,Op.bytesLess a b=true->Op.bytesLess b c=true->Op.bytesLess a c=true
 |_,[],_,h,_=>by simp[Op.bytesLess]at h
 |_,_::_,[],_,h=>by simp[Op.bytesLess]at h
 | [],_::_,_::_,_,_=>rfl
 |a::l,b::m,d::n,h1,h2=>by
  simp only[Op.bytesLess,Bt,decide_eq_true_eq,A4,beq_iff_eq]at*
  rcases h1 with h1|⟨rfl,h1⟩
  .rcases h2 with h2|⟨rfl,h2⟩
   .exact .inl (UInt8.lt_trans h1 h2)
   .exact .inl h1
  .rcases h2 with h2|⟨rfl,h2⟩
   .exact .inl h2
   .exact .inr ⟨rfl,zp1 l m n h1 h2⟩
theorem zt5: ∀a b:List UInt8,Op.bytesLess a b=true∨a=b∨Op.bytesLess b a=true
 | [],[]=> .inr (.inl rfl)
 | [],_::_=> .inl rfl
 |_::_,[]=> .inr (.inr rfl)
 |a::l,b::m=>by
  simp only[Op.bytesLess,Bt,decide_eq_true_eq,A4,beq_iff_eq,List.cons.injEq]
  by_cases h:a<b
  .exact .inl (.inl h)
  .by_cases h2:b<a
   .exact .inr (.inr (.inl h2))
   .have he:a=b:=UInt8.le_antisymm (UInt8.not_lt.1 h2) (UInt8.not_lt.1 h)
    subst he
    rcases zt5 l m with q|rfl|q
    .exact .inl (.inr ⟨rfl,q⟩)
    .exact .inr (.inl ⟨rfl,rfl⟩)
    .exact .inr (.inr (.inr ⟨rfl,q⟩))
theorem zU0: ∀(n i v:Nat) (rest:List UInt8),n<18446744073709551616->(n*128^i<18446744073709551616)->(0<i->0<n)->wP (varF n++rest) i v=(v+n*128^i,i+(varF n).length,0):=by
 intro n
 induction n using Nat.strongRecOn with
 |_ n ih=>
  intro i v rest hn hb h0
  have h9:i=9->n<=1:=fun h=>by
   subst h
   omega
  by_cases h:n<128
  .have e:(UInt8.ofNat n).toNat=n:=xM6 (by omega)
   rw[zQ3 h]
   show wP (UInt8.ofNat n::rest) i v=_
   rw[wP,e,if_neg (by omega),if_pos h,if_neg (by omega),Ch h]
   rfl
  .have e:(UInt8.ofNat (n%128+128)).toNat=n%128+128:=xM6 (by omega)
   rw[zZ6 h]
   show wP (UInt8.ofNat (n%128+128)::(varF (n/128)++rest)) i v=_
   rw[wP,e,if_neg (by omega),if_neg (by omega)]
   have hdiv:n/128*128^(i+1)<=n*128^i:=by
    rw[Em,Bw (128^i) 128,<-E7]
    exact Ao _ (Nat.div_mul_le_self n 128)
   rw[ih (n/128) (by omega) (i+1) _ rest (by omega) (by omega) (fun _=>by omega)]
   have e2:(n%128+128)%128=n%128:=by omega
   rw[e2,Ah]
   have e3:n%128*128^i+n/128*128^(i+1)=n*128^i:=by
    rw[Em,Bw (128^i) 128,<-E7,<-An]
    congr 1
    omega
   rw[Bv,e3]
   congr 2
   omega
theorem xK4 (n:Int):zagF (zigF n)=n:=by
 unfold zagF zigF
 by_cases h:0<=n
 .rw[if_pos h,if_pos (by omega)]
  omega
 .rw[if_neg h,if_neg (by omega)]
  omega
theorem zM0 {v:GValue} (h:mayF v=true):(v.kind=0/\v.n=0/\v.s= [])∨(v.kind=1/\(v.n=0∨v.n=1)/\v.s= [])∨(v.kind=2/\v.s= [])∨(v.kind=3/\v.n=0/\v.s.length<=64):=by
 have hk:=yf4 h
 unfold mayF at h
 rcases hk with hk|hk|hk|hk<;>rw[hk]at h⊢ <;>simp at h⊢ <;>exact h
theorem yK4 {v:GValue} (h:mayF v=true) (ho:v.ok) (rest:List UInt8):zg5 (za8 v++rest)=⟨v,(za8 v).length,0⟩:=by
 have hp:=zM0 h
 have hi:=ho.n
 obtain⟨k,n,s⟩:=v
 simp only at hp hi
 unfold za8
 rw[if_pos h]
 simp only
 rcases hp with ⟨rfl,rfl,rfl⟩|⟨rfl,hn,rfl⟩|⟨rfl,rfl⟩|⟨rfl,rfl,hl⟩
 .simp[zg5,zr7,v0]
 .rcases hn with rfl|rfl<;>simp[zg5,zr7,zf9]
 .have hz:=yA2 hi
  have:=zU0 (zigF n) 0 0 rest hz (by simpa using hz) (fun h=>by omega)
  simp[zg5,zr7,this,xK4]
  omega
 .have ht:=zU0 s.length 0 0 (s++rest) (by omega) (by omega) (fun h=>by omega)
  have htt:zc4 (varF s.length++(s++rest))=(s,(varF s.length).length+s.length,0):=by
   unfold zc4
   rw[ht]
   have e1:(varF s.length++(s++rest)).take ((varF s.length).length+s.length)=varF s.length++s:=by
    rw[<-C5,Cv (by simp),Au (by simp)]
   unfold wF
   simp only[Aa,Nat.pow_zero,Nat.mul_one,e1,List.drop_left]
   rw[if_neg (by simp),if_neg (by omega),if_neg (by simp)]
  have hl2: ¬64<s.length:=by omega
  simp[zg5,zr7,htt,hl2]
  omega
theorem yq9: ∀(l:List GValue),(∀v∈l,mayF v=true)->(∀v∈l,v.ok)->rowG l.length (l.flatMap za8)=some l
 | [],_,_=>by simp[rowG]
 |v::l,h,ho=>by
  have h1:=yK4 (h v (by simp)) (ho v (by simp)) (l.flatMap za8)
  have h2:=yq9 l (fun x hx=>h x (by simp[hx])) (fun x hx=>ho x (by simp[hx]))
  rw[Ah,rowG,Bl,h1]
  simp[h2]
theorem zW2: ∀(cs:List GCol) (vs:List GValue),vs.length=cs.length->zx1 cs vs=0-> ∀i (hi:i<cs.length) (hj:i<vs.length),mayF vs[i]=true/\(cs[i].null=false->vs[i].kind=cs[i].kind)
 | [],[],_,_,i,hi,_=>by simp at hi
 |c::cs,v::vs,hl,h,i,hi,hj=>by
  unfold zx1 at h
  split at h
  .cases h
  .rename_i h1
   split at h
   .cases h
   .rename_i h2
    split at h
    .cases h
    .rename_i h3
     cases i with
     |zero=>
      refine⟨by simpa using h1,fun hn=> ?_⟩
      have hn:c.null=false:=hn
      have:v.kind≠0:=fun q=>h2 ⟨q,hn⟩
      exact Decidable.not_not.1 fun q=>h3 ⟨this,q⟩
     |succ i=>exact zW2 cs vs (by simpa using hl) h i (by simpa using hi) (by simpa using hj)
 | [],_::_,hl,_,_,_,_=>by simp at hl
 |_::_,[],hl,_,_,_,_=>by simp at hl
theorem xf9 {cols:List GCol} {row:List GValue} (h:mayT cols row=0):zx1 cols row=0:=by
 unfold mayT at h
 split at h
 .cases h
 .exact h
theorem yG2 {cols:List GCol} {row:List GValue} (h:mayT cols row=0): ∀v∈row,mayF v=true:=fun v hv=>by
 obtain⟨i,hi,rfl⟩:=List.mem_iff_getElem.1 hv
 exact(zW2 cols row (zj4 h) (xf9 h) i (by rw[<-zj4 h];exact hi) hi).1
theorem xw4 {cols:List GCol} {row:List GValue} (h:mayT cols row=0) (hL:LightR row):rowC cols.length (yL row)=(row,0):=by
 have hl:=zj4 h
 have h20:=hL.len
 have ht:=zU0 row.length 0 0 (row.flatMap za8) (by omega) (by omega) (fun h=>by omega)
 have hd:yL row=varF row.length++row.flatMap za8:=by unfold yL zE3;rw[Dp]
 unfold rowC
 rw[hd,ht]
 simp[<-hl,yq9 row (yG2 h) hL.ok,rowR]
end Go.Proofs.YtkigddpaonhmlaaGreat.R
namespace Go.Proofs.YtkigddpaonhmlaaGreat
open Go Go.Vx R Go.Proofs.Tryz
set_option maxRecDepth 100000
theorem xn3 (a b:GValue):ym9 a b=cmpV a b:=by
 unfold ym9 cmpV orL orL orL orL cmpI cmpS
 by_cases h1:a.kind=b.kind
 .rw[if_neg (fun h=>h h1),h1]
  by_cases h2:a.n=b.n
  .rw[if_neg (fun h=>h h2),h2]
   by_cases h3:a.s=b.s
   .rw[if_neg (fun h=>h h3),h3]
    simp[zc2]
   .rw[if_pos h3]
    rcases zt5 a.s b.s with h|h|h
    .simp[h]
    .exact absurd h h3
    .have h':Op.bytesLess a.s b.s=false:=by
      cases hh:Op.bytesLess a.s b.s with
      |false=>rfl
      |true=>exact absurd (zp1 _ _ _ h hh) (by rw[zc2];decide)
     simp[h,h']
  .rw[if_pos h2]
   by_cases h3:a.n<b.n<;>simp[h3]<;>omega
 .rw[if_pos h1]
  by_cases h3:a.kind<b.kind<;>simp[h3]<;>omega
theorem xv9 (a b:GValue):Pure prog 10 [.agg a.row,.agg b.row] (.int .i64 (cmpV a b)):=by rw[<-xn3];exact xc2 a b
end Go.Proofs.YtkigddpaonhmlaaGreat
namespace Go.Vx
open Go
end Go.Vx
namespace Go.Proofs.YtkigddpaonhmlaaGreat
open Go Go.Vx R Go.Proofs.Tryz
set_option maxRecDepth 100000
end Go.Proofs.YtkigddpaonhmlaaGreat
namespace Go.Proofs.YtkigddpaonhmlaaGreat
open Go Go.Vx R Go.Proofs.Tryz
set_option maxRecDepth 100000
def yB8 (v:GValue) (C:GCol):Bool:=mayF v&&(v.kind==0||v.kind==C.kind)
def zC5 (cs:List GCol) (row:List GValue):Bool:=decide (row.length=cs.length)&&(row.zip cs).all fun p=>yB8 p.1 p.2
theorem yp8 {T:GTable} {row:List GValue} (h:zC5 T.cols row=true) (hv: ∀v∈row,v.ok):RowOk T row:=by
 unfold zC5 at h
 rw[A4,decide_eq_true_eq]at h
 refine⟨h.1,fun j C v hC hV=> ?_⟩
 have hz:(row.zip T.cols)[j]? =some (v,C):=by rw[List.getElem?_zip_eq_some];exact⟨hV,hC⟩
 have h2:=Af.1 h.2 _ (B1 hz)
 unfold yB8 at h2
 simp only[A4,Bt,beq_iff_eq]at h2
 have hvo:=hv v (B1 hV)
 exact⟨h2.1,⟨hvo.n.1,hvo.n.2⟩,h2.2.elim .inr .inl⟩
def evR (T:GTable) (row:List GValue) (e:GExpr):GValue×Int:=if(zb0 T e).2≠0 then(zeroV,(zb0 T e).2)else if zC5 T.cols row=false then(zeroV,9)else evF T row e
theorem xp3 (e:GExpr):evR noT [] e=evN e:=rfl
section
variable {b:List V} {rows:List (List V)} {A:List Nat} {τ:St}
end
theorem xT0 {v:GValue} {k:Int} (h:VK v k):v.ok/\v.s.length<=500:=by
 have hm:=h.may
 have hn:=h.n
 unfold mayF at hm
 have:i64R v.kind/\v.s.length<=64:=by
  unfold i64R
  split at hm
  .rename_i q;rw[q];simp at hm;exact⟨by decide,by rw[hm.2];decide⟩
  split at hm
  .rename_i q;rw[q];simp at hm;exact⟨by decide,by rw[hm.2];decide⟩
  split at hm
  .rename_i q;rw[q];simp at hm;exact⟨by decide,by rw[hm];decide⟩
  split at hm
  .rename_i q;rw[q];simp at hm;exact⟨by decide,hm.2⟩
  .cases hm
 exact⟨⟨this.1,hn,by unfold maxLen;omega⟩,by omega⟩
theorem ya7: ∀(n:Nat) (q l:List GExpr),(∀e∈q,Good e)->(∀e∈l,Good e)-> ∀e∈bfs n q l,Good e
 |0,_,_,_,hl=>hl
 |n+1,[],_,_,hl=>by rw[bfs];exact hl
 |n+1,x::q,l,hq,hl=>by
  have hx:=hq x (Bb ..)
  have hq': ∀e∈q,Good e:=fun e he=>hq e (B5 _ he)
  rw[bfs]
  split
  .exact ya7 n _ _ (fun e he=>by
    rcases B4.1 he with he|he
    .exact hq' e he
    .exact hx.sub e he) hl
  .exact ya7 n _ _ hq' (fun e he=>by
    rcases B4.1 he with he|he
    .exact hl e he
    .rw[Cq]at he;subst he;exact hx)
theorem xy9 {st:GStmt} (h:Good st.where_):VOk st:=fun e he name s v ha=>by
 have hg:Good e:=by
  unfold zr4 at he
  split at he
  .exact ya7 4096 [st.where_] [] (fun e he=>by rw[Cq]at he;subst he;exact h) (fun e he=>by cases he) e he
  .cases he
 have hin: ∃a∈e.args,a.v=v:=by
  unfold zd7 at ha
  split at ha
  .rename_i a b heq hab
   rw[hab]
   split at ha
   .split at ha
    .cases ha;exact⟨a,by simp,rfl⟩
    .cases ha
   .split at ha
    .cases ha;exact⟨b,by simp,rfl⟩
    .cases ha
  .cases ha
 obtain⟨a,ham,rfl⟩:=hin
 exact(hg.sub a ham).v
def okP (r:Int) (e:GExpr):Bool:=match zd7 e [82]with|none=>true|some (s,v)=> !(s== [61]&&(v.kind==2&& !(v.n==r)))
theorem yt8: ∀(l:List GExpr) (rs:List Int),cutR l rs=rs.filter fun r=>l.all (okP r)
 | [],rs=>(Dt.2 fun _ _=>rfl).symm
 |e::l,rs=>by
  have ih:=yt8 l
  have h:cutR (e::l) rs=cutR l (match zd7 e [82]with|none=>rs|some (s,v)=>if s= [61]/\v.kind=2 then zi6 v.n rs else rs):=rfl
  rw[h,ih]
  have h2:(match zd7 e [82]with|none=>rs|some (s,v)=>if s= [61]/\v.kind=2 then zi6 v.n rs else rs)=rs.filter (okP · e):=by
   unfold okP
   cases zd7 e [82]with
   |none=>exact(Dt.2 fun _ _=>rfl).symm
   |some p=>
    obtain⟨s,v⟩:=p
    simp only
    by_cases q:s= [61]/\v.kind=2
    .rw[if_pos q]
     unfold zi6
     refine Ee fun r _=> ?_
     rw[q.1,q.2]
     by_cases w:r=v.n
     .subst w;simp
     .have w1:(r==v.n)=false:=by simpa using w
      have w2:(v.n==r)=false:=by simpa using fun h=>w h.symm
      rw[w1,w2];rfl
    .rw[if_neg q]
     refine(Dt.2 fun r _=> ?_).symm
     by_cases q1:s= [61]
     .have q2:(v.kind==2)=false:=by simpa using fun h=>q ⟨q1,h⟩
      rw[q2];simp
     .have q1':(s== [61])=false:=by simpa using q1
      rw[q1'];rfl
  rw[h2,List.filter_filter]
  refine Ee fun r _=> ?_
  rw[Am,Bool.and_comm]
def yq6 (tn:Nat) (row:List GValue):Int:=if tn=0 then(row.getD 0 zeroV).n else if tn=1 then -1 else 1
def keyS (tn:Nat) (T:GTable) (row:List GValue):Int×List UInt8×Int:=
 if mayT T.cols row≠0 then(0,[],mayT T.cols row)else if tn=0/\ ¬((row.getD 0 zeroV).n=0∨(row.getD 0 zeroV).n=1)then(0,[],19)else((wJ tn (yq6 tn row)).1,zB4 3 tn (row.getD T.key.toNat zeroV),0)
end Go.Proofs.YtkigddpaonhmlaaGreat
namespace Go.Proofs.YtkigddpaonhmlaaGreat
open Go Go.Vx Go.Proofs.Tryz
set_option maxRecDepth 100000
abbrev Pl:=Int×List UInt8
def plV (p:Pl):V:= .agg [.int .i64 p.1,.str p.2]
abbrev kPl:Kk:= .st [.i .i64,.s]
def kvE {α:Type} (g:α->V):List (Pl×α)->List V
 | []=> []
 |e::W=>plV e.1::g e.2::kvE g W
structure Mp (α:Type) where
 W:List (Pl×α)
 bs:List Nat
 clk:Nat
def Mp.ob {α:Type} (g:α->V) (m:Mp α):Ob:= .mp (kvE g m.W) m.bs m.clk
structure Mp.ok {α:Type} (m:Mp α):Prop where
 len:m.bs.length=m.W.length
 nd:m.bs.Nodup
 lt: ∀b∈m.bs,b<m.clk
 keys:(m.W.map (·.1)).Nodup
def mp0 (α:Type):Mp α:=⟨[],[],0⟩
theorem xt1 (α:Type):(mp0 α).ok:=⟨rfl,D5,fun b hb=>(by cases hb),D5⟩
def idxW {α:Type} (p:Pl):List (Pl×α)->Option (Nat×α)
 | []=>none
 |e::W=>if e.1=p then some (0,e.2)else(idxW p W).map fun q=>(q.1+1,q.2)
def Mp.at {α:Type} (m:Mp α) (p:Pl):Option (Nat×α):=idxW p m.W
def Mp.get {α:Type} (m:Mp α) (p:Pl):Option α:=(m.at p).map (·.2)
def Mp.put {α:Type} (m:Mp α) (p:Pl) (v:α):Mp α:=match m.at p with
 |some (i,_)=>⟨m.W.set i (p,v),m.bs,m.clk⟩
 |none=>⟨m.W++ [(p,v)],m.bs++ [m.clk],m.clk+1⟩
def Mp.del {α:Type} (m:Mp α) (p:Pl):Mp α:=match m.at p with
 |some (i,_)=>⟨m.W.eraseIdx i,m.bs.eraseIdx i,m.clk⟩
 |none=>m
theorem eqPl (p q:Pl):eqKk kPl (plV p) (plV q)=some (decide (p=q)):=by
 obtain⟨a,b⟩:=p
 obtain⟨c,d⟩:=q
 simp only[eqKk,plV,eqVs,eqPk,and_self,if_true,As,B3,Cx,Option.some.injEq]
 rw[Dr]
 simp
theorem xL8 (p:Pl):zm4 kPl (plV p)=true:=by simp[zm4,plV,za2,zd2]
section
variable {α:Type} {g:α->V}
theorem yu4 (p:Pl): ∀(W:List (Pl×α)) (i:Nat),zh3 kPl (plV p) (kvE g W) i=some ((idxW p W).map fun q=>(i+q.1,g q.2))
 | [],_=>rfl
 |e::W,i=>by
  rw[kvE,zh3,eqPl,idxW]
  by_cases h:e.1=p
  .rw[if_pos h];simp[h]
  .rw[if_neg h]
   have:decide (p=e.1)=false:=decide_eq_false fun q=>h q.symm
   rw[this]
   simp only
   rw[yu4 p W (i+1)]
   cases idxW p W with
   |none=>rfl
   |some q=>simp;omega
theorem yW0 (m:Mp α) (p:Pl):zh3 kPl (plV p) (kvE g m.W) 0=some ((m.at p).map fun q=>(q.1,g q.2)):=by
 rw[yu4];simp[Mp.at]
theorem zi1 {p:Pl} {i:Nat} {v:α}: ∀{W:List (Pl×α)},idxW p W=some (i,v)->W[i]? =some (p,v)
 | [],h=>by simp[idxW]at h
 |e::W,h=>by
  rw[idxW]at h
  by_cases q:e.1=p
  .rw[if_pos q]at h
   simp only[Option.some.injEq,Prod.mk.injEq]at h
   obtain⟨rfl,rfl⟩:=h
   simp[<-q]
  .rw[if_neg q]at h
   simp only[B6,Prod.mk.injEq]at h
   obtain⟨⟨j,u⟩,h1,rfl,rfl⟩:=h
   simpa using zi1 h1
theorem zJ0 {p:Pl}: ∀{W:List (Pl×α)},idxW p W=none-> ∀e∈W,e.1≠p
 | [],_,e,he=>by cases he
 |e::W,h,x,hx=>by
  rw[idxW]at h
  by_cases q:e.1=p
  .rw[if_pos q]at h;cases h
  .rw[if_neg q]at h
   simp only[Option.map_eq_none_iff]at h
   rcases Ag.1 hx with rfl|hx
   .exact q
   .exact zJ0 h x hx
theorem yW4 {p:Pl} {v:α}: ∀{W:List (Pl×α)},(W.map (·.1)).Nodup->(p,v)∈W-> ∃i,idxW p W=some (i,v)
 | [],_,h=>by cases h
 |e::W,hn,h=>by
  rw[Al,C1]at hn
  rw[idxW]
  rcases Ag.1 h with rfl|h
  .exact⟨0,if_pos rfl⟩
  .have:e.1≠p:=fun q=>hn.1 (Ac.2 ⟨(p,v),h,q.symm⟩)
   obtain⟨i,hi⟩:=yW4 hn.2 h
   exact⟨i+1,by rw[if_neg this,hi];rfl⟩
theorem Mp.get_mem {m:Mp α} (hm:m.ok) {p:Pl} {v:α}:m.get p=some v↔(p,v)∈m.W:=by
 constructor
 .intro h
  unfold Mp.get Mp.at at h
  rw[B6]at h
  obtain⟨⟨i,u⟩,h1,rfl⟩:=h
  exact B1 (zi1 h1)
 .intro h
  obtain⟨i,hi⟩:=yW4 hm.keys h
  unfold Mp.get Mp.at
  rw[hi];rfl
theorem yp6 (W:List (Pl×α)) (p:Pl) (v:α):kvE g W++ [plV p,g v]=kvE g (W++ [(p,v)]):=by
 induction W with
 |nil=>rfl
 |cons e W ih=>rw[kvE,Bo,Bo,ih];rfl
theorem xs4 (p:Pl) (v:α): ∀(W:List (Pl×α)) (i:Nat),zv3 (kvE g W) i (plV p) (g v)=kvE g (W.set i (p,v))
 | [],i=>by simp[zv3,kvE]
 |e::W,0=>by simp[zv3,kvE]
 |e::W,i+1=>by
  have ih:=xs4 p v W i
  unfold zv3 at ih⊢
  rw[show 2*(i+1)=2*i+1+1 by omega,kvE]
  simp only[C6]
  rw[ih]
  rfl
theorem yO5 (v:α): ∀(W:List (Pl×α)) (i:Nat) (p:Pl) (u:α),W[i]? =some (p,u)->(kvE g W).set (2*i+1) (g v)=kvE g (W.set i (p,v))
 | [],i,_,_,h=>by simp at h
 |e::W,0,p,u,h=>by simp at h;subst h;simp[kvE]
 |e::W,i+1,p,u,h=>by
  have ih:=yO5 v W i p u (by simpa using h)
  rw[show 2*(i+1)+1=2*i+1+1+1 by omega,kvE]
  simp only[C6]
  rw[ih]
  rfl
theorem xs3: ∀(W:List (Pl×α)) (i:Nat),i<W.length->zN6 (kvE g W) i=kvE g (W.eraseIdx i)
 | [],i,h=>by simp at h
 |e::W,0,_=>by simp[zN6,kvE]
 |e::W,i+1,h=>by
  have ih:=xs3 W i (by simpa using h)
  unfold zN6 at ih⊢
  rw[show 2*(i+1)=2*i+1+1 by omega,show 2*i+1+1+2=2*i+2+1+1 by omega,kvE]
  simp only[By,Dk,Bo]
  rw[ih]
  rfl
theorem zY9 {z:V} {σ:St} {id:Nat} {m:Mp α} (hσ:σ[id]? =some (m.ob g)) (p:Pl) (ok:Bool):
  xO (some (kPl,z)) σ (.mp id) (plV p) ok= .ok (match m.get p with
   |some v=>if ok then .tup [g v,.bool true]else g v
   |none=>if ok then .tup [z,.bool false]else z):=by
 unfold xO
 simp only[xL8,if_true,hσ,Mp.ob,yW0]
 unfold Mp.get
 cases m.at p<;>rfl
def Mp.ent {α:Type} (m:Mp α) (p:Pl) (z:α):Mp α:=match m.at p with
 |some _=>m
 |none=>⟨m.W++ [(p,z)],m.bs++ [m.clk],m.clk+1⟩
def Mp.stamp {α:Type} (m:Mp α) (p:Pl):Nat:=match m.at p with
 |some (i,_)=>m.bs.getD i 0
 |none=>m.clk
theorem xo3 {σ:St} {id:Nat} {m:Mp α} (hm:m.ok) {z:α} (hσ:σ[id]? =some (m.ob g)) (p:Pl):
  xQ (some (kPl,g z)) σ (.mp id) (plV p)=(match m.at p with
   |some (_,v)=> .ok (.tup [g v,.int .i64 (m.stamp p:Int)])
   |none=> .st (.tup [g z,.int .i64 (m.stamp p:Int)]) (σ.set id ((m.ent p z).ob g))):=by
 unfold xQ Mp.stamp Mp.ent
 simp only[xL8,if_true,hσ,Mp.ob,yW0]
 cases h:m.at p with
 |none=>simp only[Option.map_none,yp6]
 |some q=>
  have:=(A1.1 (zi1 (W:=m.W) (i:=q.1) (v:=q.2) h)).1
  have hb:m.bs[q.1]? =some (m.bs.getD q.1 0):=by
   rw[A5,A0 (by rw[hm.len];exact this)]
   rfl
  simp only[B3,hb]
theorem ye4 {bs:List Nat} (hn:bs.Nodup) {i b:Nat} (h:bs[i]? =some b):bs.findIdx? (fun(x:Nat)=>((x:Int)==(b:Int)))=some i:=by
 obtain⟨hi,rfl⟩:=A1.1 h
 rw[List.findIdx?_eq_some_iff_getElem]
 refine⟨hi,by simp,fun j hj=> ?_⟩
 intro q
 rw[beq_iff_eq]at q
 exact absurd ((List.getElem_inj hn).1 (Int.ofNat.inj q)) (by omega)
theorem yn9 {σ:St} {id:Nat} {m:Mp α} (hm:m.ok) (hg: ∀v,wC (g v)=true) {z:α} (p:Pl) (hσ:σ[id]? =some ((m.ent p z).ob g)) (v:α):
  xI σ (.mp id) (.int .i64 (m.stamp p:Int)) (g v)= .st .u (σ.set id ((m.put p v).ob g)):=by
 unfold xI
 simp only[hg,if_true,hσ]
 unfold Mp.ob Mp.ent Mp.stamp Mp.put
 cases h:m.at p with
 |none=>
  have hf:(m.bs++ [m.clk]).findIdx? (fun(b:Nat)=>((b:Int)==(m.clk:Int)))=some m.W.length:=by
   refine ye4 ?_ ?_
   .rw[Df]
    refine⟨hm.nd,by simp,fun a ha b hb=> ?_⟩
    have:=hm.lt a ha
    simp at hb;omega
   .rw[<-hm.len];simp
  simp only[hf]
  rw[yO5 v (m.W++ [(p,z)]) m.W.length p z (by simp)]
  simp
 |some q=>
  have h1:=zi1 (W:=m.W) (i:=q.1) (v:=q.2) h
  have hl:=(A1.1 h1).1
  have hb:m.bs[q.1]? =some (m.bs.getD q.1 0):=by
   rw[A5,A0 (by rw[hm.len];exact hl)]
   rfl
  simp only[ye4 hm.nd hb]
  rw[yO5 v m.W q.1 p q.2 h1]
theorem Mp.ent_ok {m:Mp α} (hm:m.ok) (p:Pl) (z:α):(m.ent p z).ok:=by
 unfold Mp.ent
 cases h:m.at p with
 |some q=>exact hm
 |none=>
  refine⟨by simp[hm.len], ?_,fun b hb=> ?_, ?_⟩
  .rw[Df]
   refine⟨hm.nd,by simp,fun a ha b hb=> ?_⟩
   have:=hm.lt a ha
   simp at hb;omega
  .rcases B4.1 hb with hb|hb
   .have:=hm.lt b hb;show b<m.clk+1;omega
   .simp at hb;subst hb;exact Ek _
  .rw[Dj,Df]
   refine⟨hm.keys,by simp,fun a ha b hb=> ?_⟩
   obtain⟨e,he,rfl⟩:=Ac.1 ha
   simp at hb
   subst hb
   exact zJ0 h e he
theorem Mp.put_ok {m:Mp α} (hm:m.ok) (p:Pl) (v:α):(m.put p v).ok:=by
 unfold Mp.put
 cases h:m.at p with
 |some q=>
  have h1:=zi1 (W:=m.W) (i:=q.1) (v:=q.2) h
  have:((m.W.set q.1 (p,v)).map (·.1))=m.W.map (·.1):=by
   rw[List.map_set]
   exact yF _ _ _ (by rw[Az,h1];rfl)
  exact⟨by simp[hm.len],hm.nd,hm.lt,by rw[this];exact hm.keys⟩
 |none=>
  have:=Mp.ent_ok hm p v
  unfold Mp.ent at this
  rw[h]at this
  exact this
theorem Mp.del_ok {m:Mp α} (hm:m.ok) (p:Pl):(m.del p).ok:=by
 unfold Mp.del
 cases h:m.at p with
 |some q=>
  refine⟨?_,List.Nodup.sublist (List.eraseIdx_sublist _ _) hm.nd,fun b hb=>hm.lt b (List.mem_of_mem_eraseIdx hb), ?_⟩
  .simp only[List.length_eraseIdx,hm.len]
  .exact List.Nodup.sublist ((List.eraseIdx_sublist m.W q.1).map _) hm.keys
 |none=>exact hm
theorem Mp.ent_some {m:Mp α} {p:Pl} {q:Nat×α} {z:α} (h:m.at p=some q):m.ent p z=m:=by unfold Mp.ent;rw[h]
theorem zw8 {p:Pl} {v:α}: ∀{W:List (Pl×α)},idxW p W=none->idxW p (W++ [(p,v)])=some (W.length,v)
 | [],_=>by simp[idxW]
 |e::W,h=>by
  rw[idxW]at h
  by_cases q:e.1=p
  .rw[if_pos q]at h;cases h
  .rw[if_neg q,Option.map_eq_none_iff]at h
   rw[Bo,idxW,if_neg q,zw8 h]
   rfl
theorem Mp.ent_get {m:Mp α} {p:Pl} {z:α} (h:m.at p=none):(m.ent p z).get p=some z:=by
 unfold Mp.get Mp.at Mp.ent
 rw[h]
 simp only
 unfold Mp.at at h
 rw[zw8 h];rfl
theorem Mp.get_none {m:Mp α} {p:Pl} (h:m.at p=none):m.get p=none:=by unfold Mp.get;rw[h];rfl
theorem Mp.get_some {m:Mp α} {p:Pl} {i:Nat} {v:α} (h:m.at p=some (i,v)):m.get p=some v:=by unfold Mp.get;rw[h];rfl
theorem xo2 {md:Option (Kk×V)} {z:α} (hz:md=some (kPl,g z)) {m:Mp α} {p:Pl} (h:m.at p=none):xO md [(m.ent p z).ob g] (.mp 0) (plV p) false=xO md [m.ob g] (.mp 0) (plV p) false:=by
 subst hz
 rw[zY9 (m:=m.ent p z) rfl,zY9 (m:=m) rfl,Mp.ent_get h,Mp.get_none h]
 rfl
theorem yE2 {p:Pl} {v u:α}: ∀{W:List (Pl×α)} {i:Nat},idxW p W=some (i,u)->idxW p (W.set i (p,v))=some (i,v)
 | [],_,h=>by simp[idxW]at h
 |e::W,i,h=>by
  rw[idxW]at h
  by_cases q:e.1=p
  .rw[if_pos q]at h
   simp only[Option.some.injEq,Prod.mk.injEq]at h
   obtain⟨rfl,rfl⟩:=h
   rw[D9,idxW,if_pos rfl]
  .rw[if_neg q,B6]at h
   obtain⟨⟨j,w⟩,h1,h2⟩:=h
   simp only[Prod.mk.injEq]at h2
   obtain⟨rfl,rfl⟩:=h2
   rw[C6,idxW,if_neg q,yE2 h1]
   rfl
theorem Mp.put_at (m:Mp α) (p:Pl) (v:α): ∃i,idxW p (m.put p v).W=some (i,v):=by
 unfold Mp.put
 cases h:m.at p with
 |none=>exact⟨_,zw8 h⟩
 |some q=>exact⟨q.1,yE2 (u:=q.2) h⟩
theorem zb4 {r:Int} {k:List UInt8} {W:List (Pl×α)}:zh3 (.st [.i .i64,.s]) (.agg [.int .i64 r,.str k]) (kvE g W) 0=some ((idxW (r,k) W).map fun q=>(q.1,g q.2)):=by
 show zh3 kPl (plV (r,k)) (kvE g W) 0=_
 rw[yu4]
 simp only[Aa]
theorem yD0 {σ:St} {id:Nat} {m:Mp α} (hm:m.ok) {z:α} {p:Pl} (hσ:σ[id]? =some (m.ob g)) (h:m.at p=none):
  xQ (some (kPl,g z)) σ (.mp id) (plV p)= .st (.tup [g z,.int .i64 (m.stamp p:Int)]) (σ.set id ((m.ent p z).ob g)):=by
 have:=xo3 hm (z:=z) hσ p
 rw[h]at this
 exact this
theorem xo1 {σ:St} {id:Nat} {m:Mp α} (hm:m.ok) {z:α} {p:Pl} {i:Nat} {v:α} (hσ:σ[id]? =some (m.ob g)) (h:m.at p=some (i,v)):
  xQ (some (kPl,g z)) σ (.mp id) (plV p)= .ok (.tup [g v,.int .i64 (m.stamp p:Int)]):=by
 have:=xo3 hm (z:=z) hσ p
 rw[h]at this
 exact this
theorem yn5 {σ:St} {id:Nat} {m:Mp Int} {r:Int} {k:List UInt8} (hm:m.ok) (h:m.at (r,k)=none) (hσ:σ[id]? =some (m.ob (V.int .i64))):
  xQ (some (.st [.i .i64,.s],.int .i64 0)) σ (.mp id) (.agg [.int .i64 r,.str k])= .st (.tup [.int .i64 0,.int .i64 (m.stamp (r,k):Int)]) (σ.set id ((m.ent (r,k) 0).ob (V.int .i64))):=yD0 (g:=V.int .i64) hm (z:=0) hσ h
theorem yn4 {σ:St} {id:Nat} {m:Mp Int} {r:Int} {k:List UInt8} {i:Nat} {v:Int} (hm:m.ok) (h:m.at (r,k)=some (i,v)) (hσ:σ[id]? =some (m.ob (V.int .i64))):
  xQ (some (.st [.i .i64,.s],.int .i64 0)) σ (.mp id) (.agg [.int .i64 r,.str k])= .ok (.tup [.int .i64 v,.int .i64 (m.stamp (r,k):Int)]):=xo1 (g:=V.int .i64) hm (z:=0) hσ h
theorem zI7 {σ:St} {id:Nat} {m:Mp (List UInt8)} {r:Int} {k:List UInt8} (hm:m.ok) (h:m.at (r,k)=none) (hσ:σ[id]? =some (m.ob V.str)):
  xQ (some (.st [.i .i64,.s],.str [])) σ (.mp id) (.agg [.int .i64 r,.str k])= .st (.tup [.str [],.int .i64 (m.stamp (r,k):Int)]) (σ.set id ((m.ent (r,k) []).ob V.str)):=yD0 (g:=V.str) hm (z:= []) hσ h
theorem zV4 {σ:St} {id:Nat} {m:Mp Int} {p:Pl} {v:Int} (hm:m.ok) (hσ:σ[id]? =some ((m.ent p 0).ob (V.int .i64))):
  xI σ (.mp id) (.int .i64 (m.stamp p:Int)) (.int .i64 v)= .st .u (σ.set id ((m.put p v).ob (V.int .i64))):=yn9 (g:=V.int .i64) hm (fun _=>rfl) p hσ v
theorem zw1 {σ:St} {id:Nat} {m:Mp (List UInt8)} {p:Pl} {v:List UInt8} (hm:m.ok) (hσ:σ[id]? =some ((m.ent p []).ob V.str)):
  xI σ (.mp id) (.int .i64 (m.stamp p:Int)) (.str v)= .st .u (σ.set id ((m.put p v).ob V.str)):=yn9 (g:=V.str) hm (fun _=>rfl) p hσ v
theorem yu1 {σ:St} {id:Nat} {m:Mp Int} {p:Pl} {q:Nat×Int} {v:Int} (hm:m.ok) (h:m.at p=some q) (hσ:σ[id]? =some (m.ob (V.int .i64))):
  xI σ (.mp id) (.int .i64 (m.stamp p:Int)) (.int .i64 v)= .st .u (σ.set id ((m.put p v).ob (V.int .i64))):=zV4 hm (by rw[Mp.ent_some h];exact hσ)
end
end Go.Proofs.YtkigddpaonhmlaaGreat
namespace Go.Proofs.YtkigddpaonhmlaaGreat
open Go Go.Vx R Go.Proofs.Tryz
set_option maxRecDepth 100000
structure Ln where
 r:Int
 k:List UInt8
 v:List GValue
@[go_sem] def Ln.row (x:Ln):List V:= [.int .i64 x.r,.str x.k,.sl .ro (x.v.map GValue.row)]
def Ln.at (x:Ln):Pl:=(x.r,x.k)
def xA (a b:Pl):Bool:=decide (a.1<b.1)||(decide (a.1=b.1)&&Op.bytesLess a.2 b.2)
theorem zJ3 (a:Pl):xA a a=false:=by simp[xA,zc2]
theorem zG3 {a b c:Pl} (h:xA a b=true) (g:xA b c=true):xA a c=true:=by
 simp only[xA,Bt,A4,decide_eq_true_eq]at h g⊢
 rcases h with h|⟨h,h'⟩<;>rcases g with g|⟨g,g'⟩
 .exact .inl (by omega)
 .exact .inl (by omega)
 .exact .inl (by omega)
 .exact .inr ⟨by omega,zp1 _ _ _ h' g'⟩
theorem zz8 (a b:Pl):xA a b=true∨a=b∨xA b a=true:=by
 simp only[xA,Bt,A4,decide_eq_true_eq]
 rcases Dy a.1 b.1 with h|h|h
 .exact .inl (.inl h)
 .rcases zt5 a.2 b.2 with g|g|g
  .exact .inl (.inr ⟨h,g⟩)
  .exact .inr (.inl (Prod.ext h g))
  .exact .inr (.inr (.inr ⟨h.symm,g⟩))
 .exact .inr (.inr (.inl h))
theorem yf6 {a b:Pl} (h:xA a b=true):xA b a=false:=by
 cases q:xA b a
 .rfl
 .have:=zG3 h q;rw[zJ3]at this;cases this
def Rise (l:List Pl):Prop:=l.Pairwise fun a b=>xA a b=true
def zR0 (l:List Ln) (x:Ln):List Ln:=l.takeWhile (fun y=>xA y.at x.at)++x::l.dropWhile (fun y=>xA y.at x.at)
def atF (l:List Ln) (p:Pl):Bool:=l.any fun x=>x.at==p
def zn4 (t:Int) (st:GStmt) (x:Ln):Bool:=
 (za5 t st).any (fun g=>(wJ t g).1==x.r)&&(!Op.bytesLess x.k (zm0 tabsS t st).1&&Op.bytesLess x.k (zm0 tabsS t st).2)
def zv8 (T:GTable) (st:GStmt):List Ln->List Ln->List Ln×Int
 |acc,[]=>(acc,0)
 |acc,x::l=>if(evR T x.v st.where_).2≠0 then([],(evR T x.v st.where_).2)else zv8 T st (if zW9 (evR T x.v st.where_).1=true then acc++ [x]else acc) l
def metF (t:Int) (T:GTable) (st:GStmt) (l:List Ln):List Ln×Int:=
 if st.filtered=true then zv8 T st [] (l.filter (zn4 t st))else(l.filter (zn4 t st),0)
def evsX (T:GTable) (row:List GValue):List GExpr->List GValue->List GValue×Int
 | [],acc=>(acc,0)
 |e::l,acc=>if(evR T row e).2≠0 then([],(evR T row e).2)else evsX T row l (acc++ [(evR T row e).1])
def insF (t:Nat) (T:GTable):List (List GExpr)->List Ln->List Ln×Int
 | [],l=>(l,0)
 |r::rs,l=>
  if(evsX noT [] r []).2≠0 then([],(evsX noT [] r []).2)
  else if(keyS t T (evsX noT [] r []).1).2.2≠0 then([],(keyS t T (evsX noT [] r []).1).2.2)
  else if atF l ((keyS t T (evsX noT [] r []).1).1,(keyS t T (evsX noT [] r []).1).2.1)=true then([],18)
  else insF t T rs (zR0 l ⟨(keyS t T (evsX noT [] r []).1).1,(keyS t T (evsX noT [] r []).1).2.1,(evsX noT [] r []).1⟩)
def setF (T:GTable) (old:List GValue):List GAssign->List GValue->List GValue×Int
 | [],row=>(row,0)
 |x::l,row=>if(evR T old x.e).2≠0 then([],(evR T old x.e).2)else setF T old l (row.set (colF T x.name).toNat (evR T old x.e).1)
def putF (l:List Ln) (p:Pl) (row:List GValue):List Ln:=l.map fun y=>if y.at=p then⟨y.r,y.k,row⟩else y
def updF (T:GTable) (sets:List GAssign):List Ln->List Ln->List Ln×Int
 | [],l=>(l,0)
 |x::m,l=>
  if(setF T x.v sets x.v).2≠0 then([],(setF T x.v sets x.v).2)
  else if mayT T.cols (setF T x.v sets x.v).1≠0 then([],mayT T.cols (setF T x.v sets x.v).1)
  else updF T sets m (putF l x.at (setF T x.v sets x.v).1)
def delF:List Ln->List Ln->List Ln
 | [],l=>l
 |x::m,l=>delF m (l.filter fun y=> !decide (y.at=x.at))
def zD9 (items:List GItem):Bool:=items.any fun x=>x.kind==3||x.kind==4
def sumF (T:GTable) (e:GExpr):List Ln->GValue->GValue×Int
 | [],acc=>(acc,0)
 |x::l,acc=>
  if(evR T x.v e).2≠0 then(zeroV,(evR T x.v e).2)
  else if(evR T x.v e).1.kind=0 then sumF T e l acc
  else if(rngF (acc.n+(evR T x.v e).1.n)).2≠0 then(zeroV,(rngF (acc.n+(evR T x.v e).1.n)).2)
  else sumF T e l ⟨2,(rngF (acc.n+(evR T x.v e).1.n)).1,[]⟩
def zH3 (T:GTable) (l:List Ln):List GItem->List GValue->List GValue×Int
 | [],acc=>(acc,0)
 |x::xs,acc=>
  if x.kind=4 then(if(sumF T x.e l zeroV).2≠0 then([],(sumF T x.e l zeroV).2)else zH3 T l xs (acc++ [(sumF T x.e l zeroV).1]))
  else zH3 T l xs (acc++ [⟨2,l.length,[]⟩])
def insB (gt:Ln->Bool) (out:List Ln) (x:Ln):List Ln:=(out.reverse.dropWhile gt).reverse++x::(out.reverse.takeWhile gt).reverse
def cmpC (c:Nat) (down:Bool) (x y:Ln):Int:=if down=true then -(cmpV (x.v.getD c zeroV) (y.v.getD c zeroV))else cmpV (x.v.getD c zeroV) (y.v.getD c zeroV)
def zg4 (c:Nat) (down:Bool) (l:List Ln):List Ln:=l.foldl (fun out x=>insB (fun y=>decide (0<cmpC c down y x)) out x) []
def limF (limit:Int) (l:List Ln):List Ln:=if 0<=limit then l.take limit.toNat else l
def zv0 (T:GTable) (items:List GItem):List Ln->List (List GValue)->List (List GValue)×Int
 | [],acc=>(acc,0)
 |x::l,acc=>
  if(items.head?.map (·.kind))=some 1 then zv0 T items l (acc++ [x.v])
  else if(evsX T x.v (items.map (·.e)) []).2≠0 then([],(evsX T x.v (items.map (·.e)) []).2)
  else zv0 T items l (acc++ [(evsX T x.v (items.map (·.e)) []).1])
structure Ot where
 count:Int
 rows:List (List GValue)
def Ot.row (x:Ot):List V:= [.sl .ro (x.rows.map fun r=> [.sl .ro (r.map GValue.row)]),.int .i64 x.count]
def selF (T:GTable) (st:GStmt) (l:List Ln):Ot×Int:=
 if zD9 st.items=true then(if(zH3 T l st.items []).2≠0 then(⟨0,[]⟩,(zH3 T l st.items []).2)else(⟨0,[(zH3 T l st.items []).1]⟩,0))
 else
  let m:=limF st.limit (if 0<=colF T st.order then zg4 (colF T st.order).toNat st.down l else l)
  if(zv0 T st.items m []).2≠0 then(⟨0,[]⟩,(zv0 T st.items m []).2)else(⟨0,(zv0 T st.items m []).1⟩,0)
def doS (st:GStmt) (l:List Ln):Ot×List Ln×Int:=
 let t:=(zd6 st.table).toNat
 let T:=tabsS.getD t noT
 if st.kind=2 then(if(insF t T st.rows l).2≠0 then(⟨0,[]⟩,[],(insF t T st.rows l).2)else(⟨st.rows.length,[]⟩,(insF t T st.rows l).1,0))
 else if(metF t T st l).2≠0 then(⟨0,[]⟩,[],(metF t T st l).2)
 else if st.kind=1 then((selF T st (metF t T st l).1).1,l,(selF T st (metF t T st l).1).2)
 else if st.kind=3 then
  (if(updF T st.sets (metF t T st l).1 l).2≠0 then(⟨0,[]⟩,[],(updF T st.sets (metF t T st l).1 l).2)else(⟨(metF t T st l).1.length,[]⟩,(updF T st.sets (metF t T st l).1 l).1,0))
 else(⟨(metF t T st l).1.length,[]⟩,delF (metF t T st l).1 l,0)
def doL:List GStmt->Nat->List Ot->List Ln->(Int×Int×List Ot)×List Ln
 | [],_,acc,l=>((0,0,acc),l)
 |x::ss,i,acc,l=>if(doS x l).2.2≠0 then(((doS x l).2.2,(i:Int),[]),[])else doL ss (i+1) (acc++ [(doS x l).1]) (doS x l).2.1
def lotF (lot:GLot) (l:List Ln):(Int×Int×List Ot)×List Ln:=
 if(zx3 lot).2≠0 then(((zx3 lot).2,(zx3 lot).1,[]),l)else if(doL lot.stmts 0 [] l).1.1≠0 then((doL lot.stmts 0 [] l).1,l)else doL lot.stmts 0 [] l
structure Wr where
 p:Pl
 drop:Bool
 data:List UInt8
def insW (l:List Wr) (w:Wr):List Wr:=l.takeWhile (fun y=>xA y.p w.p)++w::l.dropWhile (fun y=>xA y.p w.p)
def chgF (was now:List Ln):List Wr:=
 (now.filter fun x=> !(was.any fun y=>decide (y.at=x.at)&&decide (yL y.v=yL x.v))).foldl (fun l x=>insW l ⟨x.at,false,yL x.v⟩)
  ((was.filter fun x=> !atF now x.at).foldl (fun l x=>insW l ⟨x.at,true,[]⟩) [])
end Go.Proofs.YtkigddpaonhmlaaGreat
