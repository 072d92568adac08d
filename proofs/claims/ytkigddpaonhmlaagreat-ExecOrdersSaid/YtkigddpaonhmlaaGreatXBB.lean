/-
  Which statements have a text, in the program, over trees (the library Vx); used by the theorem at the end of the claim.
  Conditions: as each theorem states them.
-/
import Derived.Test.YtkigddpaonhmlaaGreatXAS
import Derived.Test.YtkigddpaonhmlaaGreatXBA
import Derived.Test.YtkigddpaonhmlaaGreatXAZ
set_option maxHeartbeats 8000000
namespace Go.Proofs.YtkigddpaonhmlaaGreat
open Go Go.Vx Go.Proofs.Tryz
set_option maxRecDepth 100000
theorem yf7 (c:UInt8):Pure prog 154 [.int .u8 c.toNat] (.bool (wG c)):=by
 unfold wG
 generalize c.toNat=n
 generalize hM:decide (48<=n/\n<=57)=M
 have ret: ∀(r:Bool) (σ:St),r=M->wret (some (.bool r)) 0 (fun r s=>r= .bool M/\s= []) σ:=fun r σ h=>by subst h;exact zQ (zC rfl) ⟨rfl,rfl⟩
 refine iW 0 func154 ntmps154 results154 fun c hc hb=>zN ?_
 simp[go_sem]
 refine yZ (fun q=> ?_) (fun q=> ?_)
 .simp[go_sem,q]
  refine ret _ _ ?_
  rw[<-hM]
  simp at q
  exact decide_eq_decide.2 (by omega)
 .simp[go_sem,q]
  refine ret _ _ ?_
  rw[<-hM]
  simp at q
  exact(decide_eq_false (by omega)).symm
theorem yO6: ∀n:Fin 256,wZ (UInt8.ofNat n.1)=(((decide (97<=ze2 .or .u8 (n.1:Nat) 32)&&decide (ze2 .or .u8 (n.1:Nat) 32<=122))&&decide (65<=((n.1:Nat):Int)))||(((n.1:Nat):Int)==95)):=by decide+kernel
theorem yF1 (c:UInt8):Pure prog 209 [.int .u8 c.toNat] (.bool (wZ c)):=by
 have h:=yO6 ⟨c.toNat,c.toNat_lt⟩
 simp only[UInt8.ofNat_toNat]at h
 rw[h]
 clear h
 obtain⟨n,hn⟩:=eX c.toNat
 simp only[hn]
 generalize hg:ze2 .or .u8 (n:Nat) 32=g
 refine iW 0 func209 ntmps209 results209 fun c hc hb=>zN ?_
 simp[go_sem,hg]
 refine(A7 (decide (97<=g))).elim (fun q1=> ?_) (fun q1=> ?_)
 .refine(A7 (decide (g<=122))).elim (fun q2=> ?_) (fun q2=> ?_)
  .refine(A7 (decide (65<=(n:Int)))).elim (fun q3=> ?_) (fun q3=> ?_)
   .rw[q1,q2,q3]
    simp[go_sem,hg,q2,q3]
    exact zQ (zC rfl) ⟨rfl,rfl⟩
   .rw[q1,q2,q3]
    simp[go_sem,hg,q2,q3]
    exact zQ (zC rfl) ⟨rfl,rfl⟩
  .rw[q1,q2]
   simp[go_sem,hg,q2]
   exact zQ (zC rfl) ⟨rfl,rfl⟩
 .rw[q1]
  simp[go_sem]
  exact zQ (zC rfl) ⟨rfl,rfl⟩
def zn2 (c:UInt8):Bool:=wZ c||wG c
theorem yO8 (c:UInt8):Pure prog 156 [.int .u8 c.toNat] (.bool (zn2 c)):=by
 have h1:=yF1 c
 have h2:=yf7 c
 unfold zn2
 generalize wZ c=a at h1⊢
 generalize wG c=b at h2⊢
 refine iW 0 func156 ntmps156 results156 fun c hc hb=>zN ?_
 simp[go_sem]
 refine zD h1 cB (zH rfl) rfl ?_
 simp[go_sem]
 refine(A7 a).elim (fun q=> ?_) (fun q=> ?_)
 .simp[go_sem,q]
  exact zQ (zC rfl) ⟨by simp,rfl⟩
 .simp[go_sem,q]
  refine zD h2 cB (zH rfl) rfl ?_
  simp[go_sem]
  exact zQ (zC rfl) ⟨by simp[q],rfl⟩
def runF (p:UInt8->Bool):List UInt8->Nat
 | []=>0
 |c::l=>if p c=true then runF p l+1 else 0
theorem xs6 (s:List UInt8) (hl:s.length<=maxLen):Pure prog 155 [.str s,.fn 156 []] (.int .i64 (runF zn2 s:Nat)):=by
 generalize hM:runF zn2 s=M
 have ret: ∀(r:Nat) (σ:St),r=M->wret (some (.int .i64 r)) 0 (fun r s=>r= .int .i64 (M:Nat)/\s= []) σ:=fun r σ h=>by subst h;exact zQ (zC rfl) ⟨rfl,rfl⟩
 refine iV 0 func155 ntmps155 results155 fun c hc hb=> ?_
 refine zA ?_
 simp[go_sem]
 refine zL (S:=Nat) [0,1,5] (fun i=> [.str s,.fn 156 [],.int .i64 i]) (fun _=> []) (fun i=>s.length - i) (fun i=>i<=s.length/\i+runF zn2 (s.drop i)=M) hc hb 0 ⟨A3 _,by rw[Bd,Aa,hM]⟩ ?_ ?_
 .exact aO
 rintro i ⟨hi,hinv⟩
 by_cases q:i<s.length
 rotate_left
 .rw[Bs (by omega),runF,Cb]at hinv
  refine zA ?_
  simp[go_sem,q]
  exact ret _ _ hinv
 have ei:=zV q (by unfold maxLen at hl;omega)
 obtain⟨x,hx⟩:=eX (s[i])
 rw[A6 q,hx,runF]at hinv
 have hcl:=yO8 x
 obtain⟨b,hb1⟩:=eX (zn2 x)
 rw[hb1]at hcl hinv
 refine zA ?_
 simp[go_sem,q,hx]
 refine zD hcl cB (zH rfl) rfl ?_
 simp[go_sem]
 refine(A7 b).elim (fun w=> ?_) (fun w=> ?_)
 .rw[if_pos w]at hinv
  simp[go_sem,w,ei]
  exact zI (i+1) ⟨by omega,⟨q,by omega⟩,aO⟩
 .rw[if_neg (by rw[w];decide)]at hinv
  simp[go_sem,w]
  exact ret _ _ (by omega)
theorem yI8 (p:UInt8->Bool): ∀s:List UInt8,decide (runF p s<s.length)= !(s.all p)
 | []=>by simp[runF]
 |c::l=>by
  have h:=yI8 p l
  unfold runF
  by_cases q:p c=true
  .rw[if_pos q,Am,q,B8,<-h]
   exact decide_eq_decide.2 (by simp)
  .rw[if_neg q]
   have q:p c=false:=by simpa using q
   simp[q]
def spW:List UInt8->List (List UInt8)
 | []=> []
 |c::l=>if c=32/\32∈l then l.takeWhile (· !=32)::spW l else spW l
theorem xv2: ∀(s l:List UInt8),(∀c∈s,c≠32)->((s++ [32]).isPrefixOf l=true↔l.takeWhile (· !=32)=s/\32∈l)
 | [],[],_=>by simp
 | [],c::l,_=>by
  by_cases h:c=32
  .subst h;simp
  .have h':(c !=32)=true:=by simpa using h
   have h2: ¬(32=c):=fun e=>h e.symm
   simp[List.isPrefixOf,h',h2]
 |a::s,[],_=>by simp
 |a::s,c::l,hs=>by
  have ih:=xv2 s l fun x hx=>hs x (by simp[hx])
  have ha:a≠32:=hs a (by simp)
  rw[Bo,List.isPrefixOf,A4,ih]
  by_cases h:c=32
  .subst h
   rw[List.takeWhile_cons_of_neg (by simp)]
   constructor
   .rintro⟨h1,_⟩;exact absurd (by simpa using h1) ha
   .rintro⟨h1,_⟩;cases h1
  .have h':(c !=32)=true:=by simpa using h
   rw[Dn (by simpa using h),Ag]
   constructor
   .rintro⟨h1,h2,h3⟩
    have h1:a=c:=by simpa using h1
    exact⟨by rw[h1,h2],.inr h3⟩
   .rintro⟨h1,h2⟩
    obtain⟨h3,h4⟩:=List.cons.inj h1
    exact⟨by simp[h3],h4,h2.resolve_left fun e=>h e.symm⟩
theorem yE3 (s:List UInt8) (hs: ∀c∈s,c≠32): ∀T:List UInt8,0<=Lib.index T (32::(s++ [32]))↔s∈spW T
 | []=>by simp[Lib.index,spW]
 |b::l=>by
  have ih:=yE3 s hs l
  have hg:=Lib.index_ge l (32::(s++ [32]))
  have hp:=xv2 s l hs
  unfold Lib.index spW
  by_cases h:(32::(s++ [32])).isPrefixOf (b::l)=true
  .rw[if_pos h]
   rw[List.isPrefixOf,A4,hp]at h
   have hb:b=32:=(eq_of_beq h.1).symm
   rw[if_pos ⟨hb,h.2.2⟩,h.2.1]
   exact⟨fun _=>Bb,fun _=>Int.le_refl 0⟩
  .rw[if_neg h]
   rw[List.isPrefixOf,A4,hp]at h
   have hmem:s∈(if b=32/\32∈l then l.takeWhile (· !=32)::spW l else spW l)↔s∈spW l:=by
    split
    .rename_i hc
     rw[Ag]
     constructor
     .rintro(e|e)
      .exact absurd ⟨by rw[hc.1];exact beq_self_eq_true _,e.symm,hc.2⟩ h
      .exact e
     .exact .inr
    .exact Iff.rfl
   rw[hmem,<-ih]
   split
   .rename_i e
    rw[eq_of_beq e]
   .rename_i e
    have e: ¬Lib.index l (32::(s++ [32]))= -1:=fun q=>e (by rw[q];rfl)
    omega
def yI2:List UInt8:= [32,65,76,76,32,65,78,68,32,65,83,32,65,83,67,32,66,69,84,87,69,69,78,32,66,79,85,78,68,32,66,89,32,67,79,85,78,84,32,68,69,76,69,84,69,32,68,69,83,67,32,69,88,65,67,84,32,70,65,76,83,69,32,70,82,79,77,32,73,78,83,69,82,84,32,73,78,84,79,32,73,83,32,76,73,77,73,84,32,78,79,84,32,78,85,76,76,32,78,79,87,32,79,70,32,79,82,32,79,82,68,69,82,32,83,69,76,69,67,84,32,83,69,84,32,83,85,77,32,83,89,83,84,69,77,32,84,73,77,69,32,84,82,85,69,32,85,80,68,65,84,69,32,86,65,76,85,69,83,32,87,72,69,82,69,32]
theorem yI3:spW yI2=resv:=by decide+kernel
theorem xw2 (s:List UInt8) (hs: ∀c∈s,c≠32):Lib.contains yI2 (32::(s++ [32]))=resv.contains s:=by
 have h:=yE3 s hs yI2
 rw[yI3]at h
 unfold Lib.contains
 rw[Dr,decide_eq_true_eq,h]
 simp
theorem yk5 (s sub:List UInt8) (hs:s.length<4294967281):Pure prog 158 [.str s,.str sub] (.bool (Lib.contains s sub)):=by
 intro w L β vals hm ha
 match vals,ha with
 | [a,b],⟨h1,h2,_⟩=>
  have e1:=wK h1
  have e2:=wK h2
  subst e1 e2
  obtain⟨_,m,hc⟩:=hm.tab.num (vints.headD (0,.i64)) (by decide)
  refine(Tryz.strings_Contains _ _ m w (by rw[zk7];exact hs) hc).mono ?_
  rintro e w' ⟨rfl,rfl⟩
  exact⟨_,.bool _,L,[],β,rfl,⟨rfl,rfl⟩,A2 _,hm,RdP.bool _⟩
def upI:List UInt8->Nat->List UInt8
 | [],_=> []
 |c::l,0=>c::l
 |c::l,i+1=>yG c::upI l i
theorem xb4: ∀(s:List UInt8) (i:Nat),(upI s i).length=s.length
 | [],_=>rfl
 |_::_,0=>rfl
 |c::l,i+1=>by rw[upI,Ah,xb4 l i,Ah]
theorem xy6: ∀s:List UInt8,upI s 0=s
 | []=>rfl
 |_::_=>rfl
theorem xb2: ∀s:List UInt8,upI s s.length=s.map yG
 | []=>rfl
 |c::l=>by rw[Ah,upI,xb2 l,Al]
theorem xb3: ∀(s:List UInt8) (i:Nat),(upI s i)[i]? =s[i]?
 | [],_=>rfl
 |_::_,0=>rfl
 |c::l,i+1=>by rw[upI,Cn,Cn,xb3 l i]
theorem xb5: ∀(s:List UInt8) (i:Nat) (h:i<s.length),(upI s i).set i (yG s[i])=upI s (i+1)
 | [],_,h=>absurd h (Bg _)
 |c::l,0,_=>by rw[upI,upI,xy6];rfl
 |c::l,i+1,h=>by
  rw[upI,C6,List.getElem_cons_succ,xb5 l i (by simpa using h),upI]
theorem yK6: ∀(s:List UInt8) (i:Nat) (h:i<s.length),yG s[i]=s[i]->upI s i=upI s (i+1)
 | [],_,h,_=>absurd h (Bg _)
 |c::l,0,_,hg=>by rw[upI,upI,xy6];rw[List.getElem_cons_zero]at hg;rw[hg]
 |c::l,i+1,h,hg=>by
  rw[upI,upI,yK6 l i (by simpa using h) (by simpa using hg)]
abbrev bRw:UInt8->List V:=fun c=> [V.int .u8 c.toNat]
theorem zU8 (s:List UInt8):zP s=s.map bRw:=rfl
theorem xN8 (l:List UInt8) (n:Nat):ltOb n (.lst (l.map bRw) 1)=true:=by
 simp only[ltOb,Af]
 intro r hr
 obtain⟨x,_,rfl⟩:=Ac.1 hr
 intro y hy
 cases hy with
 |head=>rfl
 |tail _ h=>cases h
theorem yt3 (l:List UInt8):([Ob.lst (l.map bRw) 1]:St).all (ltOb 1)=true:=by
 simp only[Am,xN8,Cp,Bool.and_self]
theorem xl8 (l:List UInt8):xW (l.map bRw)=true:=by
 simp only[xW,Af]
 intro r hr
 obtain⟨x,_,rfl⟩:=Ac.1 hr
 intro y hy
 cases hy with
 |head=>rfl
 |tail _ h=>cases h
theorem xc7 (l:List UInt8) (n:Nat) (h:l.length=n):za3 (l.map bRw) 0 n=l.map bRw:=by
 unfold za3
 rw[Bd,Au (by simp;omega),Bq]
 rfl
theorem yO7 (s:List UInt8) (hl:s.length<=maxLen):Pure prog 157 [.str s] (.str (s.map yG)):=by
 obtain⟨n,hn⟩:=eX s.length
 unfold maxLen at hl
 refine iV 0 func157 ntmps157 results157 fun c hc hb=> ?_
 refine zv7 7 (by decide) ?_
 refine zA ?_
 simp[go_sem,zU8,hn]
 refine zL (S:=Nat) [3,8,9,10] (fun i=> [.lsv 0 1 n 0 n,.lsv 0 1 n 0 n,.int .i64 n,.int .i64 i]) (fun i=> [.lst ((upI s i).map bRw) 1]) (fun i=>n - i) (fun i=>i<=n) hc hb 0 (A3 _) ?_ ?_
 .exact at_n 1 (by simp[go_sem,xy6]) rfl (yt3 _) (A3 _) (zG (by simp[go_sem]) rfl)
 intro i hi
 by_cases q:i<n
 rotate_left
 .have hie:i=n:=by omega
  subst hie
  rw[<-hn,xb2,hn]
  have hch:=xc7 (s.map yG) i (by rw[Aq,hn])
  have hbk:=zi9 (s.map yG)
  have hib:=wQ (s.map yG)
  rw[zU8]at hbk hib
  generalize hS:s.map yG=S at hch hbk hib⊢
  have hSl:S.length=i:=by rw[<-hS,Aq,hn]
  clear hS
  refine zp0 0 1 (S.map bRw) rfl (xl8 _) ?_
  refine zA ?_
  simp[go_sem,hSl,hch]
  refine zJ hib ?_
  simp[go_sem]
  rw[<-Bq,hbk]
  exact zQ (zC rfl) ⟨rfl,rfl⟩
 have hq:i<s.length:=by omega
 have ei:=zV q (by omega)
 obtain⟨x,hx⟩:=eX (s[i])
 obtain⟨cur,hcur⟩: ∃c,upI s i=c:=⟨_,rfl⟩
 obtain⟨nxt,hnxt⟩: ∃c,upI s (i+1)=c:=⟨_,rfl⟩
 have hcl:cur.length=n:=by rw[<-hcur,xb4,hn]
 have hci:i<cur.length:=by omega
 have hcx:cur[i]=x:=by
  have h:=xb3 s i
  rw[hcur,A0 hci,A0 hq,hx]at h
  exact Option.some.inj h
 have hset:cur.set i (yG x)=nxt:=by rw[<-hcur,<-hx,xb5 s i hq,hnxt]
 have hsame:yG x=x->cur=nxt:=fun h=>by rw[<-hcur,<-hnxt];exact yK6 s i hq (by rw[hx];exact h)
 rw[hcur]
 have hxr:0<=((x.toNat:Nat):Int)/\((x.toNat:Nat):Int)<=255:=by have:=x.toNat_lt;omega
 refine zA ?_
 simp[go_sem,q,hcx,hcl]
 have small: ¬(97<=x.toNat/\x.toNat<=122)->yG x=x:=fun h=>by unfold yG;rw[if_neg h]
 refine yZ (fun q1=> ?_) (fun q1=> ?_)
 .simp[go_sem,q1]
  refine zT (fun q2=> ?_) (fun q2=> ?_)
  .have q1:97<=x.toNat:=by simp at q1;omega
   have q2:x.toNat<=122:=by simp at q2;omega
   have hg:IntKind.u8.wrap ((x.toNat:Int) - 32)=((yG x).toNat:Int):=by
    rw[yz0 (by omega) (by omega)]
    unfold yG
    rw[if_pos ⟨q1,q2⟩,UInt8.toNat_ofNat']
    omega
   simp[go_sem,hg,q,hcl,ei]
   exact zI (i+1) ⟨by omega,by omega,at_n 1 (by rw[hnxt,<-hset];simp[go_sem,List.map_set]) rfl (yt3 _) (A3 _) (zG (by simp[go_sem]) rfl)⟩
  .have q2: ¬x.toNat<=122:=by simp at q2;omega
   have hs:=hsame (small fun h=>q2 h.2)
   simp[go_sem,ei]
   exact zI (i+1) ⟨by omega,by omega,at_n 1 (by rw[hnxt,<-hs];simp[go_sem]) rfl (yt3 _) (A3 _) (zG (by simp[go_sem]) rfl)⟩
 .have q1: ¬97<=x.toNat:=by simp at q1;omega
  have hs:=hsame (small fun h=>q1 h.1)
  have q1':decide ((97:Int)<=x.toNat)=false:=by simp;omega
  simp[go_sem,ei,q1']
  exact zI (i+1) ⟨by omega,by omega,at_n 1 (by rw[hnxt,<-hs];simp[go_sem]) rfl (yt3 _) (A3 _) (zG (by simp[go_sem]) rfl)⟩
theorem xe0 (s:List UInt8):(s.map yG==s)=s.all fun c=>yG c==c:=by
 induction s with
 |nil=>rfl
 |cons c l ih=>
  rw[Al,Am,<-ih]
  rfl
theorem xA2 (s:List UInt8):zk3 s=(decide (1<=s.length/\s.length<=16)&&(!wG (s.headD 0)&&(s.all zn2&&(s.all (fun c=>yG c==c)&& !resv.contains s)))):=by
 have h:s.all okC=(s.all zn2&&s.all (fun c=>yG c==c)):=by
  induction s with
  |nil=>rfl
  |cons c l ih=>
   rw[Am,Am,Am,ih]
   unfold okC zn2
   cases wZ c<;>cases wG c<;>cases (yG c==c)<;>simp
 unfold zk3
 rw[h,Bool.and_assoc]
theorem xA3:zn2 32=false:=by decide
theorem zJ4 (s:List UInt8) (hl:s.length<=maxLen):Pure prog 92 [.str s] (.bool (zk3 s)):=by
 have hrun:=xs6 s hl
 have hra:=yI8 zn2 s
 have hup:=yO7 s hl
 have hgm:=xe0 s
 have hdg:=yf7 (s[0]?.getD 0)
 have hhd:s.headD 0=s[0]?.getD 0:=by cases s<;>rfl
 have hct:(s.all zn2)=true->Pure prog 158 [.str yI2,.str (32::(s++ [32]))] (.bool (resv.contains s)):=fun h=>by
  have h1: ∀c∈s,c≠32:=fun c hc e=>by
   rw[Af]at h
   have:=h c hc
   rw[e,xA3]at this
   cases this
  have h2:=yk5 yI2 (32::(s++ [32])) (by decide)
  rw[xw2 s h1]at h2
  exact h2
 generalize hM:zk3 s=M
 rw[xA2,hhd]at hM
 generalize runF zn2 s=r at hrun hra
 generalize s.map yG=u at hup hgm
 generalize wG (s[0]?.getD 0)=d at hdg hM
 generalize (s.all fun c=>yG c==c)=g at hgm hM
 generalize resv.contains s=k at hct hM
 generalize s.all zn2=w at hra hct hM
 have ret: ∀(b:Bool) (σ:St),b=M->wret (some (.bool b)) 0 (fun r s=>r= .bool M/\s= []) σ:=fun r σ h=>by subst h;exact zQ (zC rfl) ⟨rfl,rfl⟩
 unfold maxLen at hl
 refine iV 0 func92 ntmps92 results92 fun c hc hb=> ?_
 refine zA ?_
 simp[go_sem]
 by_cases h0:s= []
 .subst h0
  have hM:M=false:=by rw[<-hM];rfl
  simp[go_sem]
  exact ret _ _ hM.symm
 have h1:1<=s.length:=by
  cases s with
  |nil=>exact absurd rfl h0
  |cons _ _=>simp
 have h0':s.isEmpty=false:=by
  cases s with
  |nil=>exact absurd rfl h0
  |cons _ _=>rfl
 simp[go_sem,h0']
 by_cases h2:16<s.length
 .have h2':decide ((16:Int)<s.length)=true:=by simp;omega
  have hM:M=false:=by rw[<-hM,decide_eq_false (by omega)];rfl
  simp[go_sem,h2']
  exact ret _ _ hM.symm
 have h2':decide ((16:Int)<s.length)=false:=by simp;omega
 rw[decide_eq_true (show 1<=s.length/\s.length<=16 by omega),B8]at hM
 simp[go_sem,h2']
 refine zJ (by omega) ?_
 simp[go_sem]
 refine zD hdg cB (zH rfl) rfl ?_
 simp[go_sem]
 refine(A7 d).elim (fun q=> ?_) (fun q=> ?_)
 .have hM:M=false:=by rw[<-hM,q];rfl
  simp[go_sem,q]
  exact ret _ _ hM.symm
 rw[q,Bool.not_false,B8]at hM
 simp[go_sem,q]
 refine zD hrun cB (zH rfl) rfl ?_
 simp[go_sem]
 refine(A7 w).elim (fun q2=> ?_) (fun q2=> ?_)
 rotate_left
 .have hM:M=false:=by rw[<-hM,q2];rfl
  have hr:decide (r<s.length)=true:=by rw[hra,q2];rfl
  simp[go_sem,hr]
  exact ret _ _ hM.symm
 have hr:decide (r<s.length)=false:=by rw[hra,q2];rfl
 rw[q2,B8]at hM
 simp[go_sem,hr]
 refine zD hup cB (zH rfl) rfl ?_
 simp[go_sem]
 refine(A7 g).elim (fun q3=> ?_) (fun q3=> ?_)
 rotate_left
 .have hM:M=false:=by rw[<-hM,q3];rfl
  have hu:(u==s)=false:=by rw[hgm,q3]
  simp[go_sem,hu]
  exact ret _ _ hM.symm
 have hu:(u==s)=true:=by rw[hgm,q3]
 rw[q3,B8]at hM
 simp[go_sem,hu]
 refine zJ (by omega) ?_
 simp[go_sem]
 refine zJ (by omega) ?_
 simp[go_sem]
 refine zD (hct q2) cB (zH rfl) rfl ?_
 simp[go_sem]
 exact ret _ _ hM
end Go.Proofs.YtkigddpaonhmlaaGreat
namespace Go.Proofs.YtkigddpaonhmlaaGreat
open Go Go.Vx R Go.Proofs.Tryz
set_option maxRecDepth 100000
def zH4 (s:List UInt8):Int:=if zE1 s=0 then -1 else zE1 s
theorem yS7 (s:List UInt8):Pure prog 159 [.str s] (.int .i64 (zH4 s)):=by
 have hM:zH4 s=if opsOne.contains s=true then 1 else if opsTwo.contains s=true then 2 else -1:=by
  unfold zH4 zE1
  by_cases h1:opsTwo.contains s=true
  .have h2:opsOne.contains s=false:=by
    unfold opsTwo at h1
    simp only[Dw,List.contains_nil,Bool.or_false,Bt,beq_iff_eq]at h1
    rcases h1 with rfl|rfl|rfl|rfl|rfl|rfl|rfl|rfl|rfl|rfl|rfl|rfl|rfl<;>decide
   simp only[h1,h2]
   rfl
  .have h1:opsTwo.contains s=false:=by simpa using h1
   by_cases h2:opsOne.contains s=true
   .simp only[h1,h2];rfl
   .have h2:opsOne.contains s=false:=by simpa using h2
    simp only[h1,h2];rfl
 generalize zH4 s=M at hM⊢
 have ret: ∀(r:Int) (σ:St),r=M->wret (some (.int .i64 r)) 0 (fun r s=>r= .int .i64 M/\s= []) σ:=fun r σ h=>by subst h;exact zQ (zC rfl) ⟨rfl,rfl⟩
 unfold opsTwo opsOne at hM
 simp only[Dw,List.contains_nil]at hM
 refine iW 0 func159 ntmps159 results159 fun c hc hb=>zN ?_
 simp[go_sem]
 repeat' (first|(refine yZ (fun q=> ?_) (fun q=> ?_)<;>simp[go_sem,q])|(refine zT (fun q=> ?_) (fun q=> ?_)<;>simp[go_sem,q]))
 all_goals exact ret _ _ (by simp_all)
def zy3 (e:GExpr):Bool:=e.kind==0&&(e.s.isEmpty&&(zq7 e.v&&e.args.isEmpty))
theorem xo8 (l:List GExpr) (hl:l.length<=maxLen):Pure prog 211 [.sl .ro (l.map GExpr.row),.sl .ro [],.fn 160 []] (.bool l.isEmpty):=by
 generalize hM:l.isEmpty=M
 have ret: ∀(r:Bool) (σ:St),r=M->wret (some (.bool r)) 0 (fun r s=>r= .bool M/\s= []) σ:=fun r σ h=>by subst h;exact zQ (zC rfl) ⟨rfl,rfl⟩
 refine iW 0 func211 ntmps211 results211 fun c hc hb=>zN ?_
 cases l with
 |nil=>
  simp[go_sem]
  refine zL (S:=Unit) [15,16,17] (fun _=> [.sl .ro [],.int .i64 0,.int .i64 0]) (fun _=> []) (fun _=>0) (fun _=>True) hc hb () trivial ?_ ?_
  .exact aO
  rintro _ _
  refine zA ?_
  simp[go_sem]
  exact ret _ _ hM
 |cons x l=>
  have q:(((x::l).length:Int) !=0)=true:=by simp;omega
  simp only[Ah,Int.natCast_add,Cd]at q
  simp[go_sem,q]
  exact ret _ _ hM
theorem xH4 (e:GExpr) (hw:e.args.length<=maxLen):Pure prog 160 [.agg e.row,.agg zeroE.row] (.bool (zy3 e)):=by
 have heq:=xo8 e.args hw
 generalize hM:zy3 e=M
 unfold zy3 zq7 at hM
 generalize e.args.isEmpty=b at heq hM
 have ret: ∀(r:Bool) (σ:St),r=M->wret (some (.bool r)) 0 (fun r s=>r= .bool M/\s= []) σ:=fun r σ h=>by subst h;exact zQ (zC rfl) ⟨rfl,rfl⟩
 have hse:(e.s== [])=e.s.isEmpty:=by cases e.s<;>rfl
 have hvs:(e.v.s== [])=e.v.s.isEmpty:=by cases e.v.s<;>rfl
 have z1:zeroE.kind=0:=rfl
 have z2:zeroE.s= []:=rfl
 have z3:zeroE.v=⟨0,0,[]⟩:=rfl
 have z4:zeroE.args= []:=rfl
 refine iW 0 func160 ntmps160 results160 fun c hc hb=>zN ?_
 simp[go_sem,z1,z2,z3,z4]
 repeat' (first
  |(refine yZ (fun q=> ?_) (fun q=> ?_)<;>simp[go_sem,q])
  |(refine zT (fun q=> ?_) (fun q=> ?_)<;>simp[go_sem,q])
  |(refine zD heq cB ⟨zC rfl,zX,zC rfl,trivial⟩ rfl ?_;simp[go_sem]))
 all_goals exact ret _ _ (by rw[<-hM];simp_all)
theorem yU8 (e:GExpr) (hw:e.args.length<=maxLen):Pure prog 94 [.agg e.row] (.bool (zy3 e)):=by
 have h:=xH4 e hw
 generalize zy3 e=b at h⊢
 refine iW 0 func94 ntmps94 results94 fun c hc hb=>zN ?_
 simp[go_sem]
 refine zD h cB ⟨?_, ?_,trivial⟩ rfl ?_
 .rw[GExpr.row_eq];exact zC rfl
 .rw[GExpr.row_eq]
  exact zt4 ⟨zZ rfl,zZ rfl,zZ rfl,zZ rfl,zZ rfl,yX,trivial⟩
 simp[go_sem]
 exact zQ (zC rfl) ⟨rfl,rfl⟩
def mayE:Nat->GExpr->Bool
 |0,_=>false
 |n+1,e=>
  if e.kind=1 then e.s.isEmpty&&(e.args.isEmpty&&(mayF e.v&&decide (0<=e.v.n)))
  else if e.kind=2 then zq7 e.v&&(e.args.isEmpty&&zk3 e.s)
  else if ¬e.kind=3∨zq7 e.v=false∨zE1 e.s=0∨ ¬(e.args.length:Int)=zE1 e.s then false
  else e.args.all (mayE n)
theorem zE9 {α:Type} (p:α->Bool) (l:List α) (i:Nat) (h:i<l.length):(l.drop i).all p=(p l[i]&&(l.drop (i+1)).all p):=by
 rw[A6 h,Am]
theorem zA1: ∀(n:Nat) (e:GExpr),n<=1000->Wide e->Good e->Pure prog 93 [.agg e.row,.int .i64 n] (.bool (mayE n e))
 |n,e,hn,hw,hg=>by
  have hlen:=hw.len
  have hsub:=hw.sub
  have hgs:=hg.sub
  have ih: ∀m,n=m+1-> ∀x∈e.args,Pure prog 93 [.agg x.row,.int .i64 m] (.bool (mayE m x)):=fun m hm x hx=>zA1 m x (by omega) (hsub x hx) (hgs x hx)
  have hmay:=ym5 e.v
  have hword:=zJ4 e.s (by have:=hg.str;unfold maxLen;omega)
  have hta:=yS7 e.s
  have hz:=ys8 e.v
  obtain⟨M,hM⟩:=eX (mayE n e)
  rw[hM]
  have ret: ∀(r:Bool) (σ:St),r=M->wret (some (.bool r)) 0 (fun r s=>r= .bool M/\s= []) σ:=fun r σ h=>by subst h;exact zQ (zC rfl) ⟨rfl,rfl⟩
  have ha:((e.args.length:Int)==0)=e.args.isEmpty:=by cases e.args<;>simp;omega
  have hse:(e.s== [])=e.s.isEmpty:=by cases e.s<;>rfl
  have hvs:(e.v.s== [])=e.v.s.isEmpty:=by cases e.v.s<;>rfl
  refine iV 0 func93 ntmps93 results93 fun c hc hb=> ?_
  by_cases h0:n=0
  .subst h0
   rw[mayE]at hM
   refine zA ?_
   simp[go_sem]
   exact ret _ _ hM
  obtain⟨m,rfl⟩: ∃m,n=m+1:=⟨n - 1,by omega⟩
  have ih:=ih m rfl
  rw[mayE]at hM
  have h0':(((m+1:Nat):Int)==0)=false:=by simp;omega
  have em:IntKind.i64.wrap (((m+1:Nat):Int) - 1)=(m:Int):=by rw[i64_id (by omega) (by omega)];omega
  have em2:IntKind.i64.wrap (m:Int)=(m:Int):=i64_id (by omega) (by omega)
  refine zA ?_
  simp only[Int.natCast_add,Cd]at h0' em
  simp[go_sem,h0']
  by_cases q1:e.kind=1
  .have q1':(e.kind==1)=true:=by simpa using q1
   rw[if_pos q1]at hM
   generalize mayF e.v=b at hmay hM
   generalize e.args.isEmpty=ae at ha hM
   simp[go_sem,q1']
   repeat' (first
    |(refine yZ (fun q=> ?_) (fun q=> ?_)<;>simp[go_sem,q,ha])
    |(refine zD hmay cB (zR (by simp[go_sem]) rfl) rfl ?_;simp[go_sem]))
   all_goals exact ret _ _ (by rw[<-hM];simp_all)
  rw[if_neg q1]at hM
  have q1':(e.kind==1)=false:=by simpa using q1
  by_cases q2:e.kind=2
  .have q2':(e.kind==2)=true:=by simpa using q2
   rw[if_pos q2]at hM
   unfold zq7 at hM
   generalize zk3 e.s=b at hword hM
   generalize e.args.isEmpty=ae at ha hM
   simp[go_sem,q1',q2']
   repeat' (first
    |(refine yZ (fun q=> ?_) (fun q=> ?_)<;>simp[go_sem,q,ha])
    |(refine zD hword cB (zR (by simp[go_sem]) rfl) rfl ?_;simp[go_sem]))
   all_goals exact ret _ _ (by rw[<-hM];simp_all)
  rw[if_neg q2]at hM
  have q2':(e.kind==2)=false:=by simpa using q2
  simp[go_sem,q1',q2']
  refine zb7 [(15,0)] 1 (by simp) (by kernel_rfl) (by kernel_rfl) ?_
  simp[go_sem]
  by_cases q3:e.kind=3
  rotate_left
  .have q3':(e.kind !=3)=true:=by simpa using q3
   rw[if_pos (.inl q3)]at hM
   simp[go_sem,q3']
   exact ret _ _ hM
  have q3':(e.kind !=3)=false:=by simpa using q3
  simp[go_sem,q3',hz]
  refine(A7 (zq7 e.v)).elim (fun w=> ?_) (fun w=> ?_)
  rotate_left
  .rw[if_pos (.inr (.inl w))]at hM
   simp[go_sem,w]
   exact ret _ _ hM
  simp[go_sem,w]
  refine zW hta cB (fun _=>zR (by simp[go_sem]) rfl) rfl ?_
  unfold zH4
  by_cases q4:zE1 e.s=0∨ ¬(e.args.length:Int)=zE1 e.s
  .have q4':((e.args.length:Int) !=(if zE1 e.s=0 then -1 else zE1 e.s))=true:=by
    rcases q4 with q4|q4
    .rw[if_pos q4];simp<;>omega
    .by_cases q5:zE1 e.s=0
     .rw[if_pos q5];simp<;>omega
     .rw[if_neg q5];simpa using q4
   rw[if_pos (.inr (.inr q4))]at hM
   simp[go_sem,q4']
   exact ret _ _ hM
  have q4':((e.args.length:Int) !=(if zE1 e.s=0 then -1 else zE1 e.s))=false:=by
   rw[if_neg (fun h=>q4 (.inl h))]
   simp only[bne_eq_false_iff_eq]
   exact Classical.byContradiction fun h=>q4 (.inr h)
  rw[if_neg (fun h=>h.elim (fun h=>h q3) fun h=>h.elim (fun h=>by rw[w]at h;cases h) q4)]at hM
  simp[go_sem,q4']
  obtain⟨args,hargs⟩:=eX e.args
  rw[hargs]at hM hlen ih
  simp[go_sem,hargs]
  refine zL (S:=Nat) [1,73,74,75] (fun i=> [.int .i64 ((m:Int)+1),.sl .ro (args.map GExpr.row),.int .i64 args.length,.int .i64 (i:Int)]) (fun _=> []) (fun i=>args.length - i)
   (fun i=>i<=args.length/\(args.drop i).all (mayE m)=M) hc hb 0 ⟨A3 _,by rw[Bd];exact hM⟩ ?_ ?_
  .exact aO
  rintro i ⟨hi,hinv⟩
  by_cases q:i<args.length
  rotate_left
  .rw[A9 (by omega)]at hinv
   refine zA ?_
   simp[go_sem,q]
   exact ret _ _ hinv
  have ei:=zV q (by omega)
  rw[zE9 _ _ _ q]at hinv
  obtain⟨x,hx⟩:=eX (args[i])
  have hcall:=ih x (hx▸A8 q)
  rw[hx]at hinv
  generalize mayE m x=b at hcall hinv
  refine zA ?_
  simp[go_sem,q,hx,em2]
  refine zD hcall cB (zR (by simp[go_sem]) (by rw[GExpr.row_eq];rfl)) rfl ?_
  refine(A7 b).elim (fun p=> ?_) (fun p=> ?_)
  .rw[p,B8]at hinv
   simp[go_sem,p,ei]
   exact zI (i+1) ⟨by omega,⟨by omega,hinv⟩,aO⟩
  .rw[p,E1]at hinv
   simp[go_sem,p]
   exact ret _ _ hinv
def mayI (n:Nat) (x:GItem):Bool:=if x.kind=1 then decide (n<=1)&&zy3 x.e else if x.kind=3 then zy3 x.e else if x.kind=2∨x.kind=4 then mayE 16 x.e else false
def yG0 (l:List GItem):Bool:=l.all (mayI l.length)&&(decide (1<=l.length)&&decide (l.length<=6))
def mayR (r:List GExpr):Bool:=(decide (1<=r.length)&&decide (r.length<=6))&&r.all (mayE 16)
def yG1 (l:List (List GExpr)):Bool:=l.all mayR&&(decide (1<=l.length)&&decide (l.length<=16))
def mayA (x:GAssign):Bool:=zk3 x.name&&mayE 16 x.e
def yF8 (l:List GAssign):Bool:=(decide (1<=l.length)&&decide (l.length<=6))&&l.all mayA
theorem bret {b M:Bool} {σ:St} (h:b=M):wret (some (.bool b)) 0 (fun r s=>r= .bool M/\s= []) σ:=by subst h;exact zQ (zC rfl) ⟨rfl,rfl⟩
theorem yP1 (l:List GItem) (hl:l.length<=12) (hx: ∀x∈l,i64R x.kind/\EOk x.e):Pure prog 95 [.sl .ro (l.map GItem.row)] (.bool (yG0 l)):=by
 obtain⟨n,hn⟩:=eX l.length
 generalize hM:yG0 l=M
 unfold yG0 at hM
 rw[hn]at hM
 have e1:decide ((1:Int)<=n)=decide (1<=n):=decide_eq_decide.2 (by omega)
 have e2:decide ((n:Int)<=6)=decide (n<=6):=decide_eq_decide.2 (by omega)
 have e3:decide ((1:Int)<n)= !decide (n<=1):=by
  by_cases h:n<=1
  .rw[decide_eq_true h,decide_eq_false (by omega)];rfl
  .rw[decide_eq_false h,decide_eq_true (by omega)];rfl
 refine iV 0 func95 ntmps95 results95 fun c hc hb=> ?_
 refine zA ?_
 simp[go_sem]
 refine zL (S:=Nat) [0,5,6,7] (fun i=> [.sl .ro (l.map GItem.row),.sl .ro (l.map GItem.row),.int .i64 n,.int .i64 (i:Int)]) (fun _=> []) (fun i=>n - i)
  (fun i=>i<=n/\((l.drop i).all (mayI n)&&(decide (1<=n)&&decide (n<=6)))=M) hc hb 0 ⟨A3 _,by rw[Bd];exact hM⟩ ?_ ?_
 .exact at_0 rfl (zR (by simp[go_sem,hn]) rfl)
 rintro i ⟨hi,hinv⟩
 by_cases q:i<n
 rotate_left
 .rw[A9 (by omega),Cp,B8]at hinv
  refine zA ?_
  simp[go_sem,q,hn,e1]
  refine yZ (fun w=> ?_) (fun w=> ?_)
  .simp[go_sem,w,hn,e2]
   exact bret (by rw[<-hinv,w,B8])
  .simp[go_sem,w]
   exact bret (by rw[<-hinv,w];rfl)
 have hq:i<l.length:=by omega
 have ei:=zV q (by omega)
 rw[zE9 _ _ _ hq]at hinv
 obtain⟨x,hxe⟩:=eX (l[i])
 obtain⟨hk,hE⟩:=hx x (hxe▸A8 hq)
 have hbl:=yU8 x.e (by have:=hE.wide.len;unfold maxLen;omega)
 have hme:=zA1 16 x.e (by decide) hE.wide hE.good
 rw[hxe]at hinv
 obtain⟨b,hb1⟩:=eX (mayI n x)
 rw[hb1]at hinv
 unfold mayI at hb1
 have yes:b=true->((l.drop (i+1)).all (mayI n)&&(decide (1<=n)&&decide (n<=6)))=M:=fun h=>by rw[h,B8]at hinv;exact hinv
 have no:b=false->false=M:=fun h=>by rw[h]at hinv;exact hinv
 clear hinv
 generalize zy3 x.e=bl at hbl hb1
 generalize mayE 16 x.e=me at hme hb1
 simp only[Cd]at hme
 refine zA ?_
 simp[go_sem,q,hq,hxe]
 by_cases k1:x.kind=1
 .have k1':(x.kind==1)=true:=by simpa using k1
  rw[if_pos k1]at hb1
  simp[go_sem,k1',hn,e3]
  refine yZ (fun w=> ?_) (fun w=> ?_)
  .have w2:decide (n<=1)=true:=by simpa using w
   rw[w2,B8]at hb1
   simp[go_sem,w2]
   refine zD hbl cB (zR (by simp[go_sem]) (by rw[GExpr.row_eq];rfl)) rfl ?_
   simp[go_sem]
   refine(A7 bl).elim (fun w=> ?_) (fun w=> ?_)
   .simp[go_sem,w,ei]
    exact zI (i+1) ⟨by omega,⟨by omega,yes (by rw[<-hb1,w])⟩,aO⟩
   .simp[go_sem,w]
    exact bret (no (by rw[<-hb1,w]))
  .have w2:decide (n<=1)=false:=by simpa using w
   rw[w2,E1]at hb1
   simp[go_sem,w2]
   exact bret (no hb1.symm)
 rw[if_neg k1]at hb1
 have k1':(x.kind==1)=false:=by simpa using k1
 by_cases k3:x.kind=3
 .have k3':(x.kind==3)=true:=by simpa using k3
  rw[if_pos k3]at hb1
  simp[go_sem,k1',k3']
  refine zD hbl cB (zR (by simp[go_sem]) (by rw[GExpr.row_eq];rfl)) rfl ?_
  simp[go_sem]
  refine(A7 bl).elim (fun w=> ?_) (fun w=> ?_)
  .simp[go_sem,w,ei]
   exact zI (i+1) ⟨by omega,⟨by omega,yes (by rw[<-hb1,w])⟩,aO⟩
  .simp[go_sem,w]
   exact bret (no (by rw[<-hb1,w]))
 rw[if_neg k3]at hb1
 have k3':(x.kind==3)=false:=by simpa using k3
 by_cases k2:x.kind=2
 .have k2':(x.kind==2)=true:=by simpa using k2
  rw[if_pos (.inl k2)]at hb1
  simp[go_sem,k1',k3',k2']
  refine zD hme cB (zR (by simp[go_sem]) (by rw[GExpr.row_eq];rfl)) rfl ?_
  simp[go_sem]
  refine(A7 me).elim (fun w=> ?_) (fun w=> ?_)
  .simp[go_sem,w,ei]
   exact zI (i+1) ⟨by omega,⟨by omega,yes (by rw[<-hb1,w])⟩,aO⟩
  .simp[go_sem,w]
   exact bret (no (by rw[<-hb1,w]))
 have k2':(x.kind==2)=false:=by simpa using k2
 by_cases k4:x.kind=4
 .have k4':(x.kind==4)=true:=by simpa using k4
  rw[if_pos (.inr k4)]at hb1
  simp[go_sem,k1',k3',k2',k4']
  refine zD hme cB (zR (by simp[go_sem]) (by rw[GExpr.row_eq];rfl)) rfl ?_
  simp[go_sem]
  refine(A7 me).elim (fun w=> ?_) (fun w=> ?_)
  .simp[go_sem,w,ei]
   exact zI (i+1) ⟨by omega,⟨by omega,yes (by rw[<-hb1,w])⟩,aO⟩
  .simp[go_sem,w]
   exact bret (no (by rw[<-hb1,w]))
 have k4':(x.kind==4)=false:=by simpa using k4
 rw[if_neg (fun h=>h.elim k2 k4)]at hb1
 simp[go_sem,k1',k3',k2',k4']
 exact bret (no hb1.symm)
def zb5 {α:Type} (p:α->Bool):List α->Nat->Int
 | [],_=> -1
 |x::l,i=>if p x=true then(i:Int)else zb5 p l (i+1)
theorem zz5 {α:Type} (p:α->Bool): ∀(l:List α) (i:Nat),decide (0<=zb5 p l i)=l.any p
 | [],i=>rfl
 |x::l,i=>by
  rw[zb5,List.any_cons]
  split
  .rename_i h;rw[h];exact decide_eq_true (by omega)
  .rename_i h
   have h:p x=false:=by simpa using h
   rw[h,C8,zz5 p l (i+1)]
theorem xO0 (x:GExpr) (hE:EOk x):Pure prog 162 [.agg x.row] (.bool (!mayE 16 x)):=by
 have hme:=zA1 16 x (by decide) hE.wide hE.good
 generalize mayE 16 x=b at hme⊢
 simp only[Cd]at hme
 refine iW 0 func162 ntmps162 results162 fun c hc hb=>zN ?_
 simp[go_sem]
 refine zD hme cB (zR (by simp[go_sem]) (by rw[GExpr.row_eq];rfl)) rfl ?_
 simp[go_sem]
 exact zQ (zC rfl) ⟨rfl,rfl⟩
theorem xN9 (x:GAssign) (hn:x.name.length<=maxLen) (hE:EOk x.e):Pure prog 163 [.agg x.row] (.bool (!mayA x)):=by
 have hme:=zA1 16 x.e (by decide) hE.wide hE.good
 have hw:=zJ4 x.name hn
 generalize hM:(!mayA x)=M
 unfold mayA at hM
 generalize mayE 16 x.e=b at hme hM
 generalize zk3 x.name=w at hw hM
 simp only[Cd]at hme
 refine iW 0 func163 ntmps163 results163 fun c hc hb=>zN ?_
 simp[go_sem]
 refine zD hw cB (zR (by simp[go_sem]) rfl) rfl ?_
 refine(A7 w).elim (fun p=> ?_) (fun p=> ?_)
 .simp[go_sem,p]
  refine zD hme cB (zR (by simp[go_sem]) (by rw[GExpr.row_eq];rfl)) rfl ?_
  simp[go_sem]
  exact bret (by rw[<-hM,p,B8])
 .simp[go_sem,p]
  exact bret (by rw[<-hM,p];rfl)
theorem xP5 (l:List GExpr) (hl:l.length<=12) (hx: ∀x∈l,EOk x):Pure prog 212 [.sl .ro (l.map GExpr.row),.fn 162 []] (.int .i64 (zb5 (fun x=> !mayE 16 x) l 0)):=by
 generalize hM:zb5 (fun x=> !mayE 16 x) l 0=M
 have ret: ∀(r:Int) (σ:St),r=M->wret (some (.int .i64 r)) 0 (fun r s=>r= .int .i64 M/\s= []) σ:=fun r σ h=>by subst h;exact zQ (zC rfl) ⟨rfl,rfl⟩
 refine iV 0 func212 ntmps212 results212 fun c hc hb=> ?_
 refine zA ?_
 simp[go_sem]
 refine zL (S:=Nat) [0,1,6,7,8] (fun i=> [.sl .ro (l.map GExpr.row),.fn 162 [],.sl .ro (l.map GExpr.row),.int .i64 l.length,.int .i64 (i:Int)]) (fun _=> []) (fun i=>l.length - i)
  (fun i=>i<=l.length/\zb5 (fun x=> !mayE 16 x) (l.drop i) i=M) hc hb 0 ⟨A3 _,hM⟩ ?_ ?_
 .exact aO
 rintro i ⟨hi,hinv⟩
 by_cases q:i<l.length
 rotate_left
 .rw[A9 (by omega)]at hinv
  refine zA ?_
  simp[go_sem,q]
  exact ret _ _ hinv
 have ei:=zV q (by omega)
 obtain⟨x,hxe⟩:=eX (l[i])
 rw[A6 q,hxe,zb5]at hinv
 have hcall:=xO0 x (hx x (hxe▸A8 q))
 generalize (!mayE 16 x)=b at hcall hinv
 refine zA ?_
 simp[go_sem,q,hxe]
 refine zD hcall cB (zR (by simp[go_sem]) (by rw[GExpr.row_eq];rfl)) rfl ?_
 refine(A7 b).elim (fun p=> ?_) (fun p=> ?_)
 .rw[if_pos p]at hinv
  simp[go_sem,p]
  exact ret _ _ hinv
 .rw[if_neg (by rw[p];decide)]at hinv
  simp[go_sem,p,ei]
  exact zI (i+1) ⟨by omega,⟨by omega,hinv⟩,aO⟩
theorem xP0 (l:List GExpr) (hl:l.length<=12) (hx: ∀x∈l,EOk x):Pure prog 161 [.sl .ro (l.map GExpr.row),.fn 162 []] (.bool (!l.all (mayE 16))):=by
 have h:=xP5 l hl hx
 have hg:=zz5 (fun x=> !mayE 16 x) l 0
 have ha:l.any (fun x=> !mayE 16 x)= !l.all (mayE 16):=by rw[List.all_eq_not_any_not,Bool.not_not]
 rw[ha]at hg
 rw[<-hg]
 generalize zb5 (fun x=> !mayE 16 x) l 0=n at h⊢
 refine iW 0 func161 ntmps161 results161 fun c hc hb=>zN ?_
 simp[go_sem]
 refine zD h cB (zR (by simp[go_sem]) rfl) rfl ?_
 simp[go_sem]
 exact zQ (zC rfl) ⟨rfl,rfl⟩
theorem xP2 (l:List GAssign) (hl:l.length<=12) (hx: ∀x∈l,x.name.length<=1048576/\EOk x.e):Pure prog 166 [.sl .ro (l.map GAssign.row),.fn 163 []] (.int .i64 (zb5 (fun x=> !mayA x) l 0)):=by
 generalize hM:zb5 (fun x=> !mayA x) l 0=M
 have ret: ∀(r:Int) (σ:St),r=M->wret (some (.int .i64 r)) 0 (fun r s=>r= .int .i64 M/\s= []) σ:=fun r σ h=>by subst h;exact zQ (zC rfl) ⟨rfl,rfl⟩
 refine iV 0 func166 ntmps166 results166 fun c hc hb=> ?_
 refine zA ?_
 simp[go_sem]
 refine zL (S:=Nat) [0,1,6,7,8] (fun i=> [.sl .ro (l.map GAssign.row),.fn 163 [],.sl .ro (l.map GAssign.row),.int .i64 l.length,.int .i64 (i:Int)]) (fun _=> []) (fun i=>l.length - i)
  (fun i=>i<=l.length/\zb5 (fun x=> !mayA x) (l.drop i) i=M) hc hb 0 ⟨A3 _,hM⟩ ?_ ?_
 .exact aO
 rintro i ⟨hi,hinv⟩
 by_cases q:i<l.length
 rotate_left
 .rw[A9 (by omega)]at hinv
  refine zA ?_
  simp[go_sem,q]
  exact ret _ _ hinv
 have ei:=zV q (by omega)
 obtain⟨x,hxe⟩:=eX (l[i])
 rw[A6 q,hxe,zb5]at hinv
 obtain⟨hxn,hxE⟩:=hx x (hxe▸A8 q)
 have hcall:=xN9 x (by unfold maxLen;omega) hxE
 generalize (!mayA x)=b at hcall hinv
 refine zA ?_
 simp[go_sem,q,hxe]
 refine zD hcall cB (zR (by simp[go_sem]) rfl) rfl ?_
 refine(A7 b).elim (fun p=> ?_) (fun p=> ?_)
 .rw[if_pos p]at hinv
  simp[go_sem,p]
  exact ret _ _ hinv
 .rw[if_neg (by rw[p];decide)]at hinv
  simp[go_sem,p,ei]
  exact zI (i+1) ⟨by omega,⟨by omega,hinv⟩,aO⟩
theorem xO8 (l:List GAssign) (hl:l.length<=12) (hx: ∀x∈l,x.name.length<=1048576/\EOk x.e):Pure prog 100 [.sl .ro (l.map GAssign.row),.fn 163 []] (.bool (!l.all mayA)):=by
 have h:=xP2 l hl hx
 have hg:=zz5 (fun x=> !mayA x) l 0
 have ha:l.any (fun x=> !mayA x)= !l.all mayA:=by rw[List.all_eq_not_any_not,Bool.not_not]
 rw[ha]at hg
 rw[<-hg]
 generalize zb5 (fun x=> !mayA x) l 0=n at h⊢
 refine iW 0 func100 ntmps100 results100 fun c hc hb=>zN ?_
 simp[go_sem]
 refine zD h cB (zR (by simp[go_sem]) rfl) rfl ?_
 simp[go_sem]
 exact zQ (zC rfl) ⟨rfl,rfl⟩
end Go.Proofs.YtkigddpaonhmlaaGreat
