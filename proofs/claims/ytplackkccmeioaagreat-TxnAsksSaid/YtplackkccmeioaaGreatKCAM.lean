/-
  Contracts of functions that the claimed statement reaches, each proved over trees (the library Vx); used by the theorem at the end of the claim.
  Conditions: as each theorem states them.
-/
import Derived.Test.YtplackkccmeioaaGreatKCAI
import Derived.Test.YtplackkccmeioaaGreatKCAL
import Derived.Test.YtplackkccmeioaaGreatKCAK
import Derived.Test.YtplackkccmeioaaGreatKCAE
import Derived.Lib.Overlaps
import Derived.Lib.AppendZerosOnto
import Derived.Laws.Externs
import Derived.Laws.IdiomCopy
import Derived.Deep.RegionLaw
set_option maxHeartbeats 8000000
namespace Go.Proofs.YtplackkccmeioaaGreat
open Go Go.Vx Go.Proofs.Tryz
set_option maxRecDepth 100000
theorem TI (c:UInt8):Pure prog 190 [.int .u8 c.toNat] (.bool (jO c)):=by
 unfold jO
 generalize c.toNat=n
 generalize hM:decide (48<=n/\n<=57)=M
 have ret: ∀(r:Bool) (I:St),r=M->cx (some (.bool r)) 0 (λr s=>r= .bool M/\s= []) I:=λr I h=>by subst h;exact zW (zC rfl) sm
 refine iW 0 func190 ntmps190 results190 λc hc hb=>zM ?_
 simp[go_sem]
 refine xD (λq=> ?_) (λq=> ?_)
 .simp[go_sem,q]
  refine ret _ _ ?_
  rw[<-hM]
  grind
 .simp[go_sem,q]
  refine ret _ _ ?_
  grind
theorem xa3: ∀n:Fin 256,mC (UInt8.ofNat n.1)=(((decide (97<=jr .or .u8 (n.1:Nat) 32)&&decide (jr .or .u8 (n.1:Nat) 32<=122))&&decide (65<=((n.1:Nat):Int)))||(((n.1:Nat):Int)==95)):=dC
theorem yM8 (c:UInt8):Pure prog 249 [.int .u8 c.toNat] (.bool (mC c)):=by
 have h:=xa3 ⟨c.toNat,c.toNat_lt⟩
 simp only[UInt8.ofNat_toNat]at h
 rw[h]
 clear h
 obtain⟨n,hn⟩:=eX c.toNat
 simp only[hn]
 generalize hg:jr .or .u8 (n:Nat) 32=g
 refine iW 0 func249 ntmps249 results249 λc hc hb=>zM ?_
 simp[go_sem,hg]
 refine(A6 (decide (97<=g))).elim (λq1=> ?_) (λq1=> ?_)
 .refine(A6 (decide (g<=122))).elim (λq2=> ?_) (λq2=> ?_)
  .refine(A6 (decide (65<=(n:Int)))).elim (λq3=> ?_) (λq3=> ?_)
   .rw[q1,q2,q3]
    simp[go_sem,hg,q2,q3]
    exact zW (zC rfl) sm
   .rw[q1,q2,q3]
    simp[go_sem,hg,q2,q3]
    exact zW (zC rfl) sm
  .rw[q1,q2]
   simp[go_sem,hg,q2]
   exact zW (zC rfl) sm
 .rw[q1]
  simp[go_sem]
  exact zW (zC rfl) sm
def pX (c:UInt8):Bool:=mC c||jO c
theorem xa5 (c:UInt8):Pure prog 192 [.int .u8 c.toNat] (.bool (pX c)):=by
 have h1:=yM8 c
 have h2:=TI c
 unfold pX
 generalize mC c=a at h1⊢
 generalize jO c=b at h2⊢
 refine iW 0 func192 ntmps192 results192 λc hc hb=>zM ?_
 simp[go_sem]
 refine pC h1 ?_
 simp[go_sem]
 refine(A6 a).elim (λq=> ?_) (λq=> ?_)
 .simp[go_sem,q]
  exact zW (zC rfl) sm
 .simp[go_sem,q]
  refine pC h2 ?_
  simp[go_sem]
  exact zW (zC rfl) (by grind)
def mG (p:UInt8->Bool):aiZ->Nat
 | []=>0
 |c::l=>if p c=true then mG p l+1 else 0
theorem xK2 (s:aiZ) (hl:s.length<=maxLen):Pure prog 191 [.str s,.fn 192 []] (.int .i64 (mG pX s:Nat)):=by
 generalize hM:mG pX s=M
 have ret: ∀(r:Nat) (I:St),r=M->cx (some (.int .i64 r)) 0 (λr s=>r= .int .i64 (M:Nat)/\s= []) I:=λr I h=>by subst h;exact zW (zC rfl) sm
 refine iV 0 func191 ntmps191 results191 λc hc hb=> ?_
 refine zA ?_
 simp[go_sem]
 refine zH (S:=Nat) [0,1,5] (λi=> [.str s,.fn 192 [],.int .i64 i]) (λ_=> []) (λi=>s.length - i) (λi=>i<=s.length/\i+mG pX (s.drop i)=M) hc hb 0 (by grind) ?_ ?_
 .exact gZ rfl (zP (by rfl) rfl)
 rintro i ⟨hi,hinv⟩
 by_cases q:i<s.length
 rotate_left
 .rw[Bp om,mG,D3]at hinv
  refine zA ?_
  simp[go_sem,q]
  exact ret _ _ hinv
 have ei:=zQ q (by unfold maxLen at hl;omega)
 obtain⟨x,hx⟩:=eX (s[i])
 rw[A5 q,hx,mG]at hinv
 have aa:=xa5 x
 obtain⟨b,ab⟩:=eX (pX x)
 rw[ab]at aa hinv
 refine zA ?_
 simp[go_sem,q,hx]
 refine pC aa ?_
 simp[go_sem]
 refine(A6 b).elim (λw=> ?_) (λw=> ?_)
 .rw[aiv w]at hinv
  simp[go_sem,w,ei]
  exact zI (i+1) ⟨om,om,gZ rfl (zP (by rfl) rfl)⟩
 .rw[aiu (by grind)]at hinv
  simp[go_sem,w]
  exact ret _ _ om
theorem TJ (p:UInt8->Bool): ∀s:aiZ,decide (mG p s<s.length)= !(s.all p)
 | []=>by rfl
 |c::l=>by
  have h:=TJ p l
  unfold mG
  grind
def Gh:aiZ->List aiZ
 | []=> []
 |c::l=>if c=32/\32∈l then l.takeWhile (· !=32)::Gh l else Gh l
theorem TK: ∀(s l:aiZ),(∀c∈s,c≠32)->((s++ [32]).isPrefixOf l=true↔l.takeWhile (· !=32)=s/\32∈l)
 | [],[],_=>by simp
 | [],c::l,_=>by
  by_cases h:c=32
  .simp_all
  .have h':(c !=32)=true:=by grind
   have h2: ¬(32=c):=(by grind)
   simp_all
 |a::s,[],_=>by simp
 |a::s,c::l,hs=>by
  have ih:=TK s l λx hx=>hs x (by simp[hx])
  have ha:a≠32:=(by grind)
  rw[Bt,List.isPrefixOf,Ab,ih]
  grind[List.takeWhile_cons_of_neg,D5]
theorem TL (s:aiZ) (hs: ∀c∈s,c≠32): ∀T:aiZ,0<=Lib.index T (32::(s++ [32]))↔s∈Gh T
 | []=>by grind[Lib.index,Gh]
 |b::l=>by
  have ih:=TL s hs l
  have hg:=Lib.index_ge l (32::(s++ [32]))
  have hp:=TK s l hs
  unfold Lib.index Gh
  grind
def H7:aiZ:= [32,65,76,76,32,65,78,68,32,65,83,32,65,83,67,32,66,69,84,87,69,69,78,32,66,79,85,78,68,32,66,89,32,67,79,85,78,84,32,68,69,76,69,84,69,32,68,69,83,67,32,69,88,65,67,84,32,70,65,76,83,69,32,70,82,79,77,32,73,78,83,69,82,84,32,73,78,84,79,32,73,83,32,76,73,77,73,84,32,78,79,84,32,78,85,76,76,32,78,79,87,32,79,70,32,79,82,32,79,82,68,69,82,32,83,69,76,69,67,84,32,83,69,84,32,83,85,77,32,83,89,83,84,69,77,32,84,73,77,69,32,84,82,85,69,32,85,80,68,65,84,69,32,86,65,76,85,69,83,32,87,72,69,82,69,32]
theorem yR0:Gh H7=jv:=by rfl
theorem xP2 (s:aiZ) (hs: ∀c∈s,c≠32):Lib.contains H7 (32::(s++ [32]))=jv.contains s:=by
 have h:=TL s hs H7
 rw[yR0]at h
 unfold Lib.contains
 grind
theorem yp6 (s sub:aiZ) (hs:s.length<4294967281):Pure prog 194 [.str s,.str sub] (.bool (Lib.contains s sub)):=by
 intro w L J aa hm ha
 match aa,ha with
 | [a,b],⟨h1,h2,_⟩=>
  have e1:=lh h1
  have e2:=lh h2
  subst e1 e2
  obtain⟨_,m,hc⟩:=hm.jD.num (su.headD (0,.i64)) dC
  refine(Tryz.strings_Contains _ _ m w (by simpa) hc).mono ?_
  rintro e w' ⟨rfl,rfl⟩
  exact⟨_,.bool _,L,[],J,rfl,sm,om,hm,cF.bool _⟩
def k7:aiZ->Nat->aiZ
 | [],_=> []
 |c::l,0=>c::l
 |c::l,i+1=>yP c::k7 l i
theorem TM: ∀(s:aiZ) (i:Nat),(k7 s i).length=s.length
 | [],_=>rfl
 |_::_,0=>rfl
 |c::l,i+1=>by rw[k7,Ah,TM l i,Ah]
theorem OC: ∀s:aiZ,k7 s 0=s
 | []=>rfl
 |_::_=>rfl
theorem TN: ∀s:aiZ,k7 s s.length=s.map yP
 | []=>rfl
 |c::l=>by rw[Ah,k7,TN l,Aj]
theorem TP: ∀(s:aiZ) (i:Nat),(k7 s i)[i]? =s[i]?
 | [],_=>rfl
 |_::_,0=>rfl
 |c::l,i+1=>by rw[k7,Dx,Dx,TP l i]
theorem TQ: ∀(s:aiZ) (i:Nat) (h:i<s.length),(k7 s i).set i (yP s[i])=k7 s (i+1)
 | [],_,h=>(by rfl)
 |c::l,0,_=>by rw[k7,k7,OC];rfl
 |c::l,i+1,h=>by
  rw[k7,By,List.getElem_cons_succ,TQ l i (sU h),k7]
theorem TS: ∀(s:aiZ) (i:Nat) (h:i<s.length),yP s[i]=s[i]->k7 s i=k7 s (i+1)
 | [],_,h,_=>(by rfl)
 |c::l,0,_,hg=>by grind[k7,OC]
 |c::l,i+1,h,hg=>by
  rw[k7,k7,TS l i (sU h) (sU hg)]
abbrev AW:UInt8->List V:=λc=> [V.int .u8 c.toNat]
theorem TT (s:aiZ):zO s=s.map AW:=rfl
theorem wk6 (l:aiZ) (n:Nat):bS n (.cj (l.map AW) 1)=true:=by
 simp only[bS,Am]
 intro r hr
 obtain⟨x,_,rfl⟩:=Ac.1 hr
 intro y hy
 cases hy<;>trivial
theorem K6 (l:aiZ):([Ob.cj (l.map AW) 1]:St).all (bS 1)=true:=by
 grind[wk6]
theorem xD3 (l:aiZ):xI (l.map AW)=true:=by
 simp only[xI,Am]
 intro r hr
 obtain⟨x,_,rfl⟩:=Ac.1 hr
 intro y hy
 cases hy<;>trivial
theorem xs6 (l:aiZ) (n:Nat) (h:l.length=n):wX (l.map AW) 0 n=l.map AW:=by
 unfold wX
 rw[Bh,Aa (by grind),Bg]
 rfl
theorem xa4 (s:aiZ) (hl:s.length<=maxLen):Pure prog 193 [.str s] (.str (s.map yP)):=by
 obtain⟨n,hn⟩:=eX s.length
 unfold maxLen at hl
 refine iV 0 func193 ntmps193 results193 λc hc hb=> ?_
 refine uH 7 dC ?_
 refine zA ?_
 simp[go_sem,TT,hn]
 refine zH (S:=Nat) [3,8,9,10] (λi=> [.cM 0 1 n 0 n,.cM 0 1 n 0 n,.int .i64 n,.int .i64 i]) (λi=> [.cj ((k7 s i).map AW) 1]) (λi=>n - i) (λi=>i<=n) hc hb 0 om ?_ ?_
 .exact cc 1 (by grind[OC]) rfl (K6 _) om (zD (by rfl) rfl)
 intro i hi
 by_cases q:i<n
 rotate_left
 .have aj:i=n:=om
  subst aj
  rw[<-hn,TN,hn]
  have ae:=xs6 (s.map yP) i (by rw[Ag,hn])
  have ab:=GU (s.map yP)
  have ad:=xR (s.map yP)
  rw[TT]at ab ad
  generalize hS:s.map yP=S at ae ab ad⊢
  have ak:S.length=i:=by grind
  clear hS
  refine FO 0 1 (S.map AW) rfl (xD3 _) ?_
  refine zA ?_
  simp[go_sem,ak,ae]
  refine zJ ad ?_
  simp[go_sem]
  rw[<-Bg,ab]
  exact zW (zC rfl) sm
 have hq:i<s.length:=om
 have ei:=zQ q om
 obtain⟨x,hx⟩:=eX (s[i])
 obtain⟨cur,af⟩: ∃c,k7 s i=c:=⟨_,rfl⟩
 obtain⟨ah,ao⟩: ∃c,k7 s (i+1)=c:=⟨_,rfl⟩
 have ai:cur.length=n:=by grind[TM]
 have ar:i<cur.length:=om
 have al:cur[i]=x:=by
  grind[TP]
 have aq:cur.set i (yP x)=ah:=by grind[TQ]
 have aa:yP x=x->cur=ah:=(by grind[TS])
 rw[af]
 have au:0<=((x.toNat:Nat):Int)/\((x.toNat:Nat):Int)<=255:=by have:=x.toNat_lt;omega
 refine zA ?_
 simp[go_sem,q,al,ai]
 have small: ¬(97<=x.toNat/\x.toNat<=122)->yP x=x:=(by simp_all[yP,aiu])
 refine xD (λq1=> ?_) (λq1=> ?_)
 .simp[go_sem,q1]
  refine zV (λq2=> ?_) (λq2=> ?_)
  .have q1:97<=x.toNat:=by grind
   have q2:x.toNat<=122:=by grind
   have hg:IntKind.u8.wrap ((x.toNat:Int) - 32)=((yP x).toNat:Int):=by
    rw[Kq om om]
    simp_all[yP];omega
   simp[go_sem,hg,q,ai,ei]
   exact zI (i+1) ⟨om,om,cc 1 (by grind[Cx]) rfl (K6 _) om (zD (by rfl) rfl)⟩
  .have q2: ¬x.toNat<=122:=by grind
   have hs:=aa (small λh=>q2 h.2)
   simp[go_sem,ei]
   exact zI (i+1) ⟨om,om,cc 1 (by grind) rfl (K6 _) om (zD (by rfl) rfl)⟩
 .have q1: ¬97<=x.toNat:=by grind
  have hs:=aa (small λh=>q1 h.1)
  have an:decide ((97:Int)<=x.toNat)=false:=by grind
  simp[go_sem,ei,an]
  exact zI (i+1) ⟨om,om,cc 1 (by grind) rfl (K6 _) om (zD (by rfl) rfl)⟩
theorem xu1 (s:aiZ):(s.map yP==s)=s.all λc=>yP c==c:=by
 induction s<;>grind
theorem xT9 (s:aiZ):lu s=(decide (1<=s.length/\s.length<=16)&&(!jO (s.headD 0)&&(s.all pX&&(s.all (λc=>yP c==c)&& !jv.contains s)))):=by
 have h:s.all uP=(s.all pX&&s.all (λc=>yP c==c)):=by
  induction s with
  |nil=>rfl
  |cons c l ih=>
   grind[uP,pX]
 grind[lu]
theorem xU0:pX 32=false:=dC
theorem K7 (s:aiZ) (hl:s.length<=maxLen):Pure prog 132 [.str s] (.bool (lu s)):=by
 have aa:=xK2 s hl
 have ae:=TJ pX s
 have af:=xa4 s hl
 have ah:=xu1 s
 have ai:=TI (s[0]?.getD 0)
 have aj:s.headD 0=s[0]?.getD 0:=by cases s<;>rfl
 have ab:(s.all pX)=true->Pure prog 194 [.str H7,.str (32::(s++ [32]))] (.bool (jv.contains s)):=λh=>by
  have h1: ∀c∈s,c≠32:=(by grind[xU0])
  have h2:=yp6 H7 (32::(s++ [32])) dC
  grind[xP2]
 generalize hM:lu s=M
 rw[xT9,aj]at hM
 generalize mG pX s=r at aa ae
 generalize s.map yP=u at af ah
 generalize jO (s[0]?.getD 0)=d at ai hM
 generalize (s.all λc=>yP c==c)=g at ah hM
 generalize jv.contains s=k at ab hM
 generalize s.all pX=w at ae ab hM
 have ret: ∀(b:Bool) (I:St),b=M->cx (some (.bool b)) 0 (λr s=>r= .bool M/\s= []) I:=λr I h=>by subst h;exact zW (zC rfl) sm
 unfold maxLen at hl
 refine iV 0 func132 ntmps132 results132 λc hc hb=> ?_
 refine zA ?_
 simp[go_sem]
 by_cases h0:s= []
 .subst h0
  have hM:M=false:=by grind
  simp[go_sem]
  exact ret _ _ hM.symm
 have h1:1<=s.length:=by
  grind
 have ak:s.isEmpty=false:=by
  grind
 simp[go_sem,ak]
 by_cases h2:16<s.length
 .have ad:decide ((16:Int)<s.length)=true:=by grind
  have hM:M=false:=by grind
  simp[go_sem,ad]
  exact ret _ _ hM.symm
 have ad:decide ((16:Int)<s.length)=false:=by grind
 rw[aix om,B7]at hM
 simp[go_sem,ad]
 refine zJ om ?_
 simp[go_sem]
 refine pC ai ?_
 simp[go_sem]
 refine(A6 d).elim (λq=> ?_) (λq=> ?_)
 .have hM:M=false:=by grind
  simp[go_sem,q]
  exact ret _ _ hM.symm
 rw[q,Bool.not_false,B7]at hM
 simp[go_sem,q]
 refine pC aa ?_
 simp[go_sem]
 refine(A6 w).elim (λq2=> ?_) (λq2=> ?_)
 rotate_left
 .have hM:M=false:=by grind
  have hr:decide (r<s.length)=true:=by grind
  simp[go_sem,hr]
  exact ret _ _ hM.symm
 have hr:decide (r<s.length)=false:=by grind
 rw[q2,B7]at hM
 simp[go_sem,hr]
 refine pC af ?_
 simp[go_sem]
 refine(A6 g).elim (λq3=> ?_) (λq3=> ?_)
 rotate_left
 .have hM:M=false:=by grind
  have hu:(u==s)=false:=by grind
  simp[go_sem,hu]
  exact ret _ _ hM.symm
 have hu:(u==s)=true:=by grind
 rw[q3,B7]at hM
 simp[go_sem,hu]
 refine zJ om ?_
 simp[go_sem]
 refine zJ om ?_
 simp[go_sem]
 refine pC (ab q2) ?_
 simp[go_sem]
 exact ret _ _ hM
end Go.Proofs.YtplackkccmeioaaGreat
namespace Go.Proofs.YtplackkccmeioaaGreat
open Go Go.Vx R Go.Proofs.Tryz
set_option maxRecDepth 100000
def H8 (s:aiZ):Int:=if tq s=0 then -1 else tq s
theorem xf2 (s:aiZ):Pure prog 196 [.str s] (.int .i64 (H8 s)):=by
 have hM:H8 s=if mB.contains s=true then 1 else if kL.contains s=true then 2 else -1:=by
  unfold H8 tq
  by_cases h1:kL.contains s=true
  .have h2:mB.contains s=false:=by
    unfold kL at h1
    simp only[Dh,List.contains_nil,Bool.or_false,Ce,aiB]at h1
    rcases h1 with rfl|rfl|rfl|rfl|rfl|rfl|rfl|rfl|rfl|rfl|rfl|rfl|rfl<;>decide
   grind
  grind
 generalize H8 s=M at hM⊢
 have ret: ∀(r:Int) (I:St),r=M->cx (some (.int .i64 r)) 0 (λr s=>r= .int .i64 M/\s= []) I:=λr I h=>by subst h;exact zW (zC rfl) sm
 unfold kL mB at hM
 simp only[Dh,List.contains_nil]at hM
 refine iW 0 func196 ntmps196 results196 λc hc hb=>zM ?_
 simp[go_sem]
 repeat' (first|(refine xD (λq=> ?_) (λq=> ?_)<;>simp[go_sem,q])|(refine zV (λq=> ?_) (λq=> ?_)<;>simp[go_sem,q]))
 all_goals exact ret _ _ (by simp_all)
def vh (e:bJ):Bool:=e.kind==0&&(e.s.isEmpty&&(nS e.v&&e.args.isEmpty))
theorem xG2 (l:List bJ) (hl:l.length<=maxLen):Pure prog 251 [.sl .ro (l.map bJ.row),.sl .ro [],.fn 197 []] (.bool l.isEmpty):=by
 generalize hM:l.isEmpty=M
 have ret: ∀(r:Bool) (I:St),r=M->cx (some (.bool r)) 0 (λr s=>r= .bool M/\s= []) I:=λr I h=>by subst h;exact zW (zC rfl) sm
 refine iW 0 func251 ntmps251 results251 λc hc hb=>zM ?_
 cases l with
 |nil=>
  simp[go_sem]
  refine zH (S:=Unit) [15,16,17] (λ_=> [.sl .ro [],.int .i64 0,.int .i64 0]) (λ_=> []) (λ_=>0) (λ_=>True) hc hb () trivial ?_ ?_
  .exact gZ rfl (zP (by rfl) rfl)
  rintro _ _
  refine zA ?_
  simp[go_sem]
  exact ret _ _ hM
 |cons x l=>
  have q:(((x::l).length:Int) !=0)=true:=by rfl
  simp only[Ah,Int.natCast_add,Bz]at q
  simp[go_sem,q]
  exact ret _ _ hM
theorem wc5 (e:bJ) (hw:e.args.length<=maxLen):Pure prog 197 [.agg e.row,.agg de.row] (.bool (vh e)):=by
 have heq:=xG2 e.args hw
 generalize hM:vh e=M
 unfold vh nS at hM
 generalize e.args.isEmpty=b at heq hM
 have ret: ∀(r:Bool) (I:St),r=M->cx (some (.bool r)) 0 (λr s=>r= .bool M/\s= []) I:=λr I h=>by subst h;exact zW (zC rfl) sm
 have aa:(e.s== [])=e.s.isEmpty:=sm
 have ab:(e.v.s== [])=e.v.s.isEmpty:=sm
 have z1:de.kind=0:=rfl
 have z2:de.s= []:=rfl
 have z3:de.v=⟨0,0,[]⟩:=rfl
 have z4:de.args= []:=rfl
 refine iW 0 func197 ntmps197 results197 λc hc hb=>zM ?_
 simp[go_sem,z1,z2,z3,z4]
 repeat' (first
  |(refine xD (λq=> ?_) (λq=> ?_)<;>simp[go_sem,q])
  |(refine zV (λq=> ?_) (λq=> ?_)<;>simp[go_sem,q])
  |(refine pC heq ?_;simp[go_sem]))
 all_goals exact ret _ _ (by rw[<-hM];simp_all)
theorem TU (e:bJ) (hw:e.args.length<=maxLen):Pure prog 134 [.agg e.row] (.bool (vh e)):=by
 have h:=wc5 e hw
 generalize vh e=b at h⊢
 refine iW 0 func134 ntmps134 results134 λc hc hb=>zM ?_
 simp[go_sem]
 refine zL h cB ⟨?_, ?_,tV⟩ rfl ?_
 .rw[bJ.bQ];exact zC rfl
 .rw[bJ.bQ]
  exact wN ⟨zF rfl,zF rfl,zF rfl,zF rfl,zF rfl,zX,tV⟩
 simp[go_sem]
 exact zW (zC rfl) sm
def fL:Nat->bJ->Bool
 |0,_=>false
 |n+1,e=>
  if e.kind=1 then e.s.isEmpty&&(e.args.isEmpty&&(ez e.v&&decide (0<=e.v.n)))
  else if e.kind=2 then nS e.v&&(e.args.isEmpty&&lu e.s)
  else if ¬e.kind=3\/nS e.v=false\/tq e.s=0\/ ¬(e.args.length:Int)=tq e.s then false
  else e.args.all (fL n)
theorem H9 {U:Type} (p:U->Bool) (l:List U) (i:Nat) (h:i<l.length):(l.drop i).all p=(p l[i]&&(l.drop (i+1)).all p):=by
 grind[A5]
theorem Ia: ∀(n:Nat) (e:bJ),n<=1000->fB e->Good e->Pure prog 133 [.agg e.row,.int .i64 n] (.bool (fL n e))
 |n,e,hn,hw,hg=>by
  have hlen:=hw.len
  have al:=hw.sub
  have ao:=hg.sub
  have ih: ∀m,n=m+1-> ∀x∈e.args,Pure prog 133 [.agg x.row,.int .i64 m] (.bool (fL m x)):=λm hm x hx=>Ia m x om (al x hx) (ao x hx)
  have ah:=Gb e.v
  have aa:=K7 e.s (by have:=hg.str;grind[maxLen])
  have aq:=xf2 e.s
  have hz:=TF e.v
  obtain⟨M,hM⟩:=eX (fL n e)
  rw[hM]
  have ret: ∀(r:Bool) (I:St),r=M->cx (some (.bool r)) 0 (λr s=>r= .bool M/\s= []) I:=λr I h=>by subst h;exact zW (zC rfl) sm
  have ha:((e.args.length:Int)==0)=e.args.isEmpty:=by cases e.args<;>simp;omega
  have au:(e.s== [])=e.s.isEmpty:=sm
  have av:(e.v.s== [])=e.v.s.isEmpty:=sm
  refine iV 0 func133 ntmps133 results133 λc hc hb=> ?_
  by_cases h0:n=0
  .subst h0
   rw[fL]at hM
   refine zA ?_
   simp[go_sem]
   exact ret _ _ hM
  obtain⟨m,rfl⟩: ∃m,n=m+1:=(by simp;omega)
  have ih:=ih m rfl
  rw[fL]at hM
  have an:(((m+1:Nat):Int)==0)=false:=by rfl
  have em:IntKind.i64.wrap (((m+1:Nat):Int) - 1)=(m:Int):=by grind[bX]
  have ar:IntKind.i64.wrap (m:Int)=(m:Int):=(by grind)
  refine zA ?_
  simp only[Int.natCast_add,Bz]at an em
  simp[go_sem,an]
  by_cases q1:e.kind=1
  .have af:(e.kind==1)=true:=by grind
   rw[aiv q1]at hM
   generalize ez e.v=b at ah hM
   generalize e.args.isEmpty=ae at ha hM
   simp[go_sem,af]
   repeat' (first
    |(refine xD (λq=> ?_) (λq=> ?_)<;>simp[go_sem,q,ha])
    |(refine zL ah cB (zP sg rfl) rfl ?_;simp[go_sem]))
   all_goals exact ret _ _ (by rw[<-hM];simp_all)
  rw[aiu q1]at hM
  have af:(e.kind==1)=false:=by grind
  by_cases q2:e.kind=2
  .have ai:(e.kind==2)=true:=by grind
   rw[aiv q2]at hM
   unfold nS at hM
   generalize lu e.s=b at aa hM
   generalize e.args.isEmpty=ae at ha hM
   simp[go_sem,af,ai]
   repeat' (first
    |(refine xD (λq=> ?_) (λq=> ?_)<;>simp[go_sem,q,ha])
    |(refine zL aa cB (zP sg rfl) rfl ?_;simp[go_sem]))
   all_goals exact ret _ _ (by rw[<-hM];simp_all)
  rw[aiu q2]at hM
  have ai:(e.kind==2)=false:=by grind
  simp[go_sem,af,ai]
  refine ny [(15,0)] 1 sm (by rfl) kR ?_
  simp[go_sem]
  by_cases q3:e.kind=3
  rotate_left
  .have aj:(e.kind !=3)=true:=by grind
   rw[aiv (.inl q3)]at hM
   simp[go_sem,aj]
   exact ret _ _ hM
  have aj:(e.kind !=3)=false:=by grind
  simp[go_sem,aj,hz]
  refine(A6 (nS e.v)).elim (λw=> ?_) (λw=> ?_)
  rotate_left
  .rw[aiv (.inr (.inl w))]at hM
   simp[go_sem,w]
   exact ret _ _ hM
  simp[go_sem,w]
  refine wZ aq cB (λ_=>zP (by rfl) rfl) rfl ?_
  unfold H8
  by_cases q4:tq e.s=0\/ ¬(e.args.length:Int)=tq e.s
  .have ak:((e.args.length:Int) !=(if tq e.s=0 then -1 else tq e.s))=true:=by
    grind
   rw[aiv om]at hM
   simp[go_sem,ak]
   exact ret _ _ hM
  have ak:((e.args.length:Int) !=(if tq e.s=0 then -1 else tq e.s))=false:=by
   grind
  rw[aiu (by grind)]at hM
  simp[go_sem,ak]
  obtain⟨args,ab⟩:=eX e.args
  rw[ab]at hM hlen ih
  simp[go_sem,ab]
  refine zH (S:=Nat) [1,73,74,75] (λi=> [.int .i64 ((m:Int)+1),.sl .ro (args.map bJ.row),.int .i64 args.length,.int .i64 (i:Int)]) (λ_=> []) (λi=>args.length - i)
   (λi=>i<=args.length/\(args.drop i).all (fL m)=M) hc hb 0 (by grind) ?_ ?_
  .exact gZ rfl (zP (by rfl) rfl)
  rintro i ⟨hi,hinv⟩
  by_cases q:i<args.length
  rotate_left
  .rw[A9 om]at hinv
   refine zA ?_
   simp[go_sem,q]
   exact ret _ _ hinv
  have ei:=zQ q om
  rw[H9 _ _ _ q]at hinv
  obtain⟨x,hx⟩:=eX (args[i])
  have ad:=ih x (hx▸A8 q)
  rw[hx]at hinv
  generalize fL m x=b at ad hinv
  refine zA ?_
  simp[go_sem,q,hx,ar]
  refine zL ad cB (zP sg (by rw[bJ.bQ];rfl)) rfl ?_
  refine(A6 b).elim (λp=> ?_) (λp=> ?_)
  .rw[p,B7]at hinv
   simp[go_sem,p,ei]
   exact zI (i+1) ⟨om,(by grind),gZ rfl (zP (by rfl) rfl)⟩
  .rw[p,Ds]at hinv
   simp[go_sem,p]
   exact ret _ _ hinv
def tQ (n:Nat) (x:cP):Bool:=if x.kind=1 then decide (n<=1)&&vh x.e else if x.kind=3 then vh x.e else if x.kind=2\/x.kind=4 then fL 16 x.e else false
def Ib (l:List cP):Bool:=l.all (tQ l.length)&&(decide (1<=l.length)&&decide (l.length<=6))
def tR (r:List bJ):Bool:=(decide (1<=r.length)&&decide (r.length<=6))&&r.all (fL 16)
def Ie (l:List (List bJ)):Bool:=l.all tR&&(decide (1<=l.length)&&decide (l.length<=16))
def jz (x:cp):Bool:=lu x.name&&fL 16 x.e
def Ig (l:List cp):Bool:=(decide (1<=l.length)&&decide (l.length<=6))&&l.all jz
theorem fg {b M:Bool} {I:St} (h:b=M):cx (some (.bool b)) 0 (λr s=>r= .bool M/\s= []) I:=by subst h;exact wR
theorem xa9 (l:List cP) (hl:l.length<=12) (hx: ∀x∈l,cI x.kind/\ja x.e):Pure prog 135 [.sl .ro (l.map cP.row)] (.bool (Ib l)):=by
 obtain⟨n,hn⟩:=eX l.length
 generalize hM:Ib l=M
 unfold Ib at hM
 rw[hn]at hM
 have e1:decide ((1:Int)<=n)=decide (1<=n):=decide_eq_decide.2 om
 have e2:decide ((n:Int)<=6)=decide (n<=6):=decide_eq_decide.2 om
 have e3:decide ((1:Int)<n)= !decide (n<=1):=by
  by_cases h:n<=1
  .rw[aix h,aiw om];rfl
  .rw[aiw h,aix om];rfl
 refine iV 0 func135 ntmps135 results135 λc hc hb=> ?_
 refine zA ?_
 simp[go_sem]
 refine zH (S:=Nat) [0,5,6,7] (λi=> [.sl .ro (l.map cP.row),.sl .ro (l.map cP.row),.int .i64 n,.int .i64 (i:Int)]) (λ_=> []) (λi=>n - i)
  (λi=>i<=n/\((l.drop i).all (tQ n)&&(decide (1<=n)&&decide (n<=6)))=M) hc hb 0 ⟨A3 _,by rw[Bh];exact hM⟩ ?_ ?_
 .exact gZ rfl (zP (by simp[go_sem,hn]) rfl)
 rintro i ⟨hi,hinv⟩
 by_cases q:i<n
 rotate_left
 .rw[A9 om,D4,B7]at hinv
  refine zA ?_
  simp[go_sem,q,hn,e1]
  refine xD (λw=> ?_) (λw=> ?_)
  .simp[go_sem,w,hn,e2]
   exact fg (by rw[<-hinv,w,B7])
  .simp[go_sem,w]
   exact fg (by rw[<-hinv,w];rfl)
 have hq:i<l.length:=om
 have ei:=zQ q om
 rw[H9 _ _ _ hq]at hinv
 obtain⟨x,ah⟩:=eX (l[i])
 obtain⟨hk,hE⟩:=hx x (ah▸A8 hq)
 have ai:=TU x.e (by have:=hE.wide.len;unfold maxLen;omega)
 have ae:=Ia 16 x.e dC hE.wide hE.dS
 rw[ah]at hinv
 obtain⟨b,aa⟩:=eX (tQ n x)
 rw[aa]at hinv
 unfold tQ at aa
 have yes:b=true->((l.drop (i+1)).all (tQ n)&&(decide (1<=n)&&decide (n<=6)))=M:=λh=>by rw[h,B7]at hinv;exact hinv
 have no:b=false->false=M:=λh=>by rw[h]at hinv;exact hinv
 clear hinv
 generalize vh x.e=bl at ai aa
 generalize fL 16 x.e=me at ae aa
 simp only[Bz]at ae
 refine zA ?_
 simp[go_sem,q,hq,ah]
 by_cases k1:x.kind=1
 .have ab:(x.kind==1)=true:=sU k1
  rw[aiv k1]at aa
  simp[go_sem,ab,hn,e3]
  refine xD (λw=> ?_) (λw=> ?_)
  .have w2:decide (n<=1)=true:=sU w
   rw[w2,B7]at aa
   simp[go_sem,w2]
   refine zL ai cB (zP sg (by rw[bJ.bQ];rfl)) rfl ?_
   simp[go_sem]
   refine(A6 bl).elim (λw=> ?_) (λw=> ?_)
   .simp[go_sem,w,ei]
    exact zI (i+1) ⟨om,⟨om,yes (by rw[<-aa,w])⟩,aO⟩
   .simp[go_sem,w]
    exact fg (no (by rw[<-aa,w]))
  .have w2:decide (n<=1)=false:=sU w
   rw[w2,Ds]at aa
   simp[go_sem,w2]
   exact fg (no aa.symm)
 rw[aiu k1]at aa
 have ab:(x.kind==1)=false:=sU k1
 by_cases k3:x.kind=3
 .have ad:(x.kind==3)=true:=sU k3
  rw[aiv k3]at aa
  simp[go_sem,ab,ad]
  refine zL ai cB (zP sg (by rw[bJ.bQ];rfl)) rfl ?_
  simp[go_sem]
  refine(A6 bl).elim (λw=> ?_) (λw=> ?_)
  .simp[go_sem,w,ei]
   exact zI (i+1) ⟨om,⟨om,yes (by rw[<-aa,w])⟩,aO⟩
  .simp[go_sem,w]
   exact fg (no (by rw[<-aa,w]))
 rw[aiu k3]at aa
 have ad:(x.kind==3)=false:=sU k3
 by_cases k2:x.kind=2
 .have af:(x.kind==2)=true:=sU k2
  rw[aiv (.inl k2)]at aa
  simp[go_sem,ab,ad,af]
  refine zL ae cB (zP sg (by rw[bJ.bQ];rfl)) rfl ?_
  simp[go_sem]
  refine(A6 me).elim (λw=> ?_) (λw=> ?_)
  .simp[go_sem,w,ei]
   exact zI (i+1) ⟨om,⟨om,yes (by rw[<-aa,w])⟩,aO⟩
  .simp[go_sem,w]
   exact fg (no (by rw[<-aa,w]))
 have af:(x.kind==2)=false:=sU k2
 by_cases k4:x.kind=4
 .have aj:(x.kind==4)=true:=sU k4
  rw[aiv (.inr k4)]at aa
  simp[go_sem,ab,ad,af,aj]
  refine zL ae cB (zP sg (by rw[bJ.bQ];rfl)) rfl ?_
  simp[go_sem]
  refine(A6 me).elim (λw=> ?_) (λw=> ?_)
  .simp[go_sem,w,ei]
   exact zI (i+1) ⟨om,⟨om,yes (by rw[<-aa,w])⟩,aO⟩
  .simp[go_sem,w]
   exact fg (no (by rw[<-aa,w]))
 have aj:(x.kind==4)=false:=sU k4
 rw[aiu (λh=>h.elim k2 k4)]at aa
 simp[go_sem,ab,ad,af,aj]
 exact fg (no aa.symm)
def xU {U:Type} (p:U->Bool):List U->Nat->Int
 | [],_=> -1
 |x::l,i=>if p x=true then(i:Int)else xU p l (i+1)
theorem Ev {U:Type} (p:U->Bool): ∀(l:List U) (i:Nat),decide (0<=xU p l i)=l.any p
 | [],i=>rfl
 |x::l,i=>by
  rw[xU,List.any_cons]
  split
  .rename_i h;rw[h];exact aix om
  .rename_i h
   have h:p x=false:=sU h
   rw[h,C5,Ev p l (i+1)]
theorem wk8 (x:bJ) (hE:ja x):Pure prog 199 [.agg x.row] (.bool (!fL 16 x)):=by
 have aa:=Ia 16 x dC hE.wide hE.dS
 generalize fL 16 x=b at aa⊢
 simp only[Bz]at aa
 refine iW 0 func199 ntmps199 results199 λc hc hb=>zM ?_
 simp[go_sem]
 refine zL aa cB (zP sg (by rw[bJ.bQ];rfl)) rfl ?_
 simp[go_sem]
 exact wR
theorem wk7 (x:cp) (hn:x.name.length<=maxLen) (hE:ja x.e):Pure prog 200 [.agg x.row] (.bool (!jz x)):=by
 have aa:=Ia 16 x.e dC hE.wide hE.dS
 have hw:=K7 x.name hn
 generalize hM:(!jz x)=M
 unfold jz at hM
 generalize fL 16 x.e=b at aa hM
 generalize lu x.name=w at hw hM
 simp only[Bz]at aa
 refine iW 0 func200 ntmps200 results200 λc hc hb=>zM ?_
 simp[go_sem]
 refine zL hw cB (zP sg rfl) rfl ?_
 refine(A6 w).elim (λp=> ?_) (λp=> ?_)
 .simp[go_sem,p]
  refine zL aa cB (zP sg (by rw[bJ.bQ];rfl)) rfl ?_
  simp[go_sem]
  exact fg (by rw[<-hM,p,B7])
 .simp[go_sem,p]
  exact fg (by rw[<-hM,p];rfl)
theorem wm3 (l:List bJ) (hl:l.length<=12) (hx: ∀x∈l,ja x):Pure prog 252 [.sl .ro (l.map bJ.row),.fn 199 []] (.int .i64 (xU (λx=> !fL 16 x) l 0)):=by
 generalize hM:xU (λx=> !fL 16 x) l 0=M
 have ret: ∀(r:Int) (I:St),r=M->cx (some (.int .i64 r)) 0 (λr s=>r= .int .i64 M/\s= []) I:=λr I h=>by subst h;exact wR
 refine iV 0 func252 ntmps252 results252 λc hc hb=> ?_
 refine zA ?_
 simp[go_sem]
 refine zH (S:=Nat) [0,1,6,7,8] (λi=> [.sl .ro (l.map bJ.row),.fn 199 [],.sl .ro (l.map bJ.row),.int .i64 l.length,.int .i64 (i:Int)]) (λ_=> []) (λi=>l.length - i)
  (λi=>i<=l.length/\xU (λx=> !fL 16 x) (l.drop i) i=M) hc hb 0 ⟨A3 _,hM⟩ ?_ ?_
 .exact aO
 rintro i ⟨hi,hinv⟩
 by_cases q:i<l.length
 rotate_left
 .rw[A9 om]at hinv
  refine zA ?_
  simp[go_sem,q]
  exact ret _ _ hinv
 have ei:=zQ q om
 obtain⟨x,ab⟩:=eX (l[i])
 rw[A5 q,ab,xU]at hinv
 have aa:=wk8 x (hx x (ab▸A8 q))
 generalize (!fL 16 x)=b at aa hinv
 refine zA ?_
 simp[go_sem,q,ab]
 refine zL aa cB (zP sg (by rw[bJ.bQ];rfl)) rfl ?_
 refine(A6 b).elim (λp=> ?_) (λp=> ?_)
 .rw[aiv p]at hinv
  simp[go_sem,p]
  exact ret _ _ hinv
 .rw[aiu (by rw[p];decide)]at hinv
  simp[go_sem,p,ei]
  exact zI (i+1) ⟨om,⟨om,hinv⟩,aO⟩
theorem wl8 (l:List bJ) (hl:l.length<=12) (hx: ∀x∈l,ja x):Pure prog 198 [.sl .ro (l.map bJ.row),.fn 199 []] (.bool (!l.all (fL 16))):=by
 have h:=wm3 l hl hx
 have hg:=Ev (λx=> !fL 16 x) l 0
 have ha:l.any (λx=> !fL 16 x)= !l.all (fL 16):=by rw[List.all_eq_not_any_not,Bool.not_not]
 rw[ha]at hg
 rw[<-hg]
 generalize xU (λx=> !fL 16 x) l 0=n at h⊢
 refine iW 0 func198 ntmps198 results198 λc hc hb=>zM ?_
 simp[go_sem]
 refine zL h cB (zP sg rfl) rfl ?_
 simp[go_sem]
 exact wR
theorem wm0 (l:List cp) (hl:l.length<=12) (hx: ∀x∈l,x.name.length<=1048576/\ja x.e):Pure prog 205 [.sl .ro (l.map cp.row),.fn 200 []] (.int .i64 (xU (λx=> !jz x) l 0)):=by
 generalize hM:xU (λx=> !jz x) l 0=M
 have ret: ∀(r:Int) (I:St),r=M->cx (some (.int .i64 r)) 0 (λr s=>r= .int .i64 M/\s= []) I:=λr I h=>by subst h;exact wR
 refine iV 0 func205 ntmps205 results205 λc hc hb=> ?_
 refine zA ?_
 simp[go_sem]
 refine zH (S:=Nat) [0,1,6,7,8] (λi=> [.sl .ro (l.map cp.row),.fn 200 [],.sl .ro (l.map cp.row),.int .i64 l.length,.int .i64 (i:Int)]) (λ_=> []) (λi=>l.length - i)
  (λi=>i<=l.length/\xU (λx=> !jz x) (l.drop i) i=M) hc hb 0 ⟨A3 _,hM⟩ ?_ ?_
 .exact aO
 rintro i ⟨hi,hinv⟩
 by_cases q:i<l.length
 rotate_left
 .rw[A9 om]at hinv
  refine zA ?_
  simp[go_sem,q]
  exact ret _ _ hinv
 have ei:=zQ q om
 obtain⟨x,ab⟩:=eX (l[i])
 rw[A5 q,ab,xU]at hinv
 obtain⟨ae,ad⟩:=hx x (ab▸A8 q)
 have aa:=wk7 x (by unfold maxLen;omega) ad
 generalize (!jz x)=b at aa hinv
 refine zA ?_
 simp[go_sem,q,ab]
 refine zL aa cB (zP sg rfl) rfl ?_
 refine(A6 b).elim (λp=> ?_) (λp=> ?_)
 .rw[aiv p]at hinv
  simp[go_sem,p]
  exact ret _ _ hinv
 .rw[aiu (by rw[p];decide)]at hinv
  simp[go_sem,p,ei]
  exact zI (i+1) ⟨om,⟨om,hinv⟩,aO⟩
theorem wl6 (l:List cp) (hl:l.length<=12) (hx: ∀x∈l,x.name.length<=1048576/\ja x.e):Pure prog 143 [.sl .ro (l.map cp.row),.fn 200 []] (.bool (!l.all jz)):=by
 have h:=wm0 l hl hx
 have hg:=Ev (λx=> !jz x) l 0
 have ha:l.any (λx=> !jz x)= !l.all jz:=by rw[List.all_eq_not_any_not,Bool.not_not]
 rw[ha]at hg
 rw[<-hg]
 generalize xU (λx=> !jz x) l 0=n at h⊢
 refine iW 0 func143 ntmps143 results143 λc hc hb=>zM ?_
 simp[go_sem]
 refine zL h cB (zP sg rfl) rfl ?_
 simp[go_sem]
 exact wR
theorem Ih (n:Nat):decide ((1:Int)<=n)=decide (1<=n):=(by grind)
theorem TV (n k:Nat):decide ((n:Int)<=k)=decide (n<=k):=sm
theorem xv9 (l:List (List bJ)) (hl:l.length<=20) (hx: ∀r∈l,r.length<=12/\ ∀e∈r,ja e):Pure prog 136 [.sl .ro (l.map λr=> [V.sl .ro (r.map bJ.row)])] (.bool (Ie l)):=by
 obtain⟨n,hn⟩:=eX l.length
 generalize hM:Ie l=M
 unfold Ie at hM
 rw[hn]at hM
 have e1:=Ih n
 have e2:decide ((n:Int)<=16)=decide (n<=16):=TV n 16
 refine iV 0 func136 ntmps136 results136 λc hc hb=> ?_
 refine zA ?_
 simp[go_sem]
 refine zH (S:=Nat) [0,5,6,7] (λi=> [.sl .ro (l.map λr=> [V.sl .ro (r.map bJ.row)]),.sl .ro (l.map λr=> [V.sl .ro (r.map bJ.row)]),.int .i64 n,.int .i64 (i:Int)]) (λ_=> []) (λi=>n - i)
  (λi=>i<=n/\((l.drop i).all tR&&(decide (1<=n)&&decide (n<=16)))=M) hc hb 0 (by grind) ?_ ?_
 .exact gZ rfl (zP (by simp[go_sem,hn]) rfl)
 rintro i ⟨hi,hinv⟩
 by_cases q:i<n
 rotate_left
 .rw[A9 om,D4,B7]at hinv
  refine zA ?_
  simp[go_sem,q,hn,e1]
  refine xD (λw=> ?_) (λw=> ?_)
  .simp[go_sem,w,hn,e2]
   exact fg (by grind)
  .simp[go_sem,w]
   exact fg (by grind)
 have hq:i<l.length:=om
 have ei:=zQ q om
 rw[H9 _ _ _ hq]at hinv
 obtain⟨r,hr⟩:=eX (l[i])
 obtain⟨af,ah⟩:=hx r (by grind)
 have aa:=wl8 r af ah
 rw[hr]at hinv
 obtain⟨b,ab⟩:=eX (tR r)
 rw[ab]at hinv
 unfold tR at ab
 have yes:b=true->((l.drop (i+1)).all tR&&(decide (1<=n)&&decide (n<=16)))=M:=(by grind)
 have no:b=false->false=M:=(by grind)
 clear hinv
 generalize r.all (fL 16)=ra at aa ab
 have ad:((r.length:Int)==0)= !decide (1<=r.length):=by
  grind
 have ae:decide ((6:Int)<r.length)= !decide (r.length<=6):=by
  grind
 generalize decide (1<=r.length)=d1 at ad ab
 generalize decide (r.length<=6)=d2 at ae ab
 refine zA ?_
 simp[go_sem,q,hq,hr,ad]
 refine(A6 d1).elim (λw=> ?_) (λw=> ?_)
 rotate_left
 .simp[go_sem,w]
  exact fg (by grind)
 simp[go_sem,w,ae]
 refine(A6 d2).elim (λw2=> ?_) (λw2=> ?_)
 rotate_left
 .simp[go_sem,w2]
  exact fg (by grind)
 simp[go_sem,w2]
 refine zL aa cB (zP (by rfl) rfl) rfl ?_
 simp[go_sem]
 refine(A6 ra).elim (λw3=> ?_) (λw3=> ?_)
 .simp[go_sem,w3,ei]
  exact zI (i+1) ⟨om,(by grind),gZ rfl (zP (by rfl) rfl)⟩
 .simp[go_sem,w3]
  exact fg (by grind)
theorem xw0 (l:List cp) (hl:l.length<=12) (hx: ∀x∈l,x.name.length<=1048576/\ja x.e):Pure prog 137 [.sl .ro (l.map cp.row)] (.bool (Ig l)):=by
 have aa:=wl6 l hl hx
 generalize hM:Ig l=M
 unfold Ig at hM
 generalize l.all jz=a at aa hM
 obtain⟨n,hn⟩:=eX l.length
 rw[hn]at hM
 have e1:=Ih n
 have e2:decide ((n:Int)<=6)=decide (n<=6):=TV n 6
 refine iW 0 func137 ntmps137 results137 λc hc hb=>zM ?_
 simp[go_sem,hn,e1]
 refine xD (λw=> ?_) (λw=> ?_)
 rotate_left
 .simp[go_sem,w]
  exact fg (by grind)
 simp[go_sem,w,hn,e2]
 refine xD (λw2=> ?_) (λw2=> ?_)
 rotate_left
 .simp[go_sem,w2]
  exact fg (by grind)
 simp[go_sem,w2]
 refine zL aa cB (zP (by rfl) rfl) rfl ?_
 simp[go_sem]
 exact fg (by grind)
def TW (st:bW):Bool:=
 !((!(st.kind==1)&&(!st.items.isEmpty||(!st.order.isEmpty||(st.down|| !(st.bT==0)))))||((!(st.kind==2)&& !st.rows.isEmpty)||(!(st.kind==3)&& !st.cD.isEmpty)))
def TX (st:bW):Bool:=lu st.table&&(if st.dO=true then fL 16 st.cA else vh st.cA)
def OD (st:bW):Bool:=
 if st.kind=1 then Ib st.items&&(((st.order.isEmpty&& !st.down)||lu st.order)&&decide (-1<=st.bT))
 else if st.kind=2 then Ie st.rows&& !st.dO
 else if st.kind=3 then Ig st.cD
 else st.kind==4
def km (st:bW):Bool:=TX st&&(TW st&&OD st)
theorem OE {U:Type} (l:List U):decide (0<l.length)= !l.isEmpty:=by
 grind
theorem xw1 (st:bW) (hs:kM st):Pure prog 96 [.agg st.row] (.bool (km st)):=by
 have ai:=K7 st.table (by have:=hs.table;grind[maxLen])
 have aj:=K7 st.order (by have:=hs.order;grind[maxLen])
 have ae:=Ia 16 st.cA dC hs.cA.wide hs.cA.dS
 have ak:=TU st.cA (by have:=hs.cA.wide.len;grind[maxLen])
 have hit:=xa9 st.items hs.items.1 hs.items.2
 have al:=xv9 st.rows hs.rows.1 hs.rows.2
 have an:=xw0 st.cD hs.cD.1 hs.cD.2
 simp only[Bz]at ae
 generalize hM:km st=M
 unfold km TX TW OD at hM
 obtain⟨k,hk⟩:=eX st.kind
 obtain⟨f,hf⟩:=eX st.dO
 obtain⟨d,hd⟩:=eX st.down
 rw[hk,hf,hd]at hM
 generalize lu st.table=wt at ai hM
 generalize lu st.order=wo at aj hM
 generalize fL 16 st.cA=me at ae hM
 generalize vh st.cA=bl at ak hM
 generalize Ib st.items=mi at hit hM
 generalize Ie st.rows=mr at al hM
 generalize Ig st.cD=ms at an hM
 have ao:=OE st.items
 have aq:=OE st.rows
 have ar:=OE st.cD
 have a6:(st.order != [])= !st.order.isEmpty:=by grind
 have ay:(st.order== [])=st.order.isEmpty:=sm
 generalize st.items.isEmpty=ie at ao hM
 generalize st.rows.isEmpty=re at aq hM
 generalize st.cD.isEmpty=se at ar hM
 have hz: ∀b:Bool,b=M-> ∀I:St,cx (some (.bool b)) 0 (λr s=>r= .bool M/\s= []) I:=λb h I=>fg h
 have af:((wt&&(if f=true then me else bl))=false->false=M)/\((wt&&(if f=true then me else bl))=true->(!((!(k==1)&&(!ie||(!st.order.isEmpty||(d|| !(st.bT==0)))))||((!(k==2)&& !re)||(!(k==3)&& !se)))&&(if k=1 then mi&&(((st.order.isEmpty&& !d)||wo)&&decide (-1<=st.bT))else if k=2 then mr&& !f else if k=3 then ms else k==4))=M):=by
  grind
 obtain⟨az,ad⟩:=af
 clear hM
 refine iV 0 func96 ntmps96 results96 λc hc hb=> ?_
 refine zN (zA ?_)
 simp[go_sem]
 refine ov (S:=Unit) [1] (λ_=> [.ptr 0 0]) (λ_=> [.box st.row]) (λ_=>(wt&&(if f=true then me else bl))=true) hc hb ?_ ?_
 .refine zA ?_
  simp[go_sem]
  refine zL ai cB (zP (by rfl) rfl) rfl ?_
  refine(A6 wt).elim (λw=> ?_) (λw=> ?_)
  rotate_left
  .simp[go_sem,w]
   exact fg (by grind)
  simp[go_sem,w,hf]
  refine(A6 f).elim (λw2=> ?_) (λw2=> ?_)
  .simp[go_sem,w2]
   refine zL ae cB (zP sg (by rw[bJ.bQ];rfl)) rfl ?_
   refine(A6 me).elim (λw3=> ?_) (λw3=> ?_)
   .simp[go_sem,w3,w2]
    exact zI () ⟨by grind,cc 1 (by grind) rfl (by rfl) om (zD (by rfl) rfl)⟩
   .simp[go_sem,w3]
    exact fg (by grind)
  .simp[go_sem,w2]
   refine zL ak cB (zP sg (by rw[bJ.bQ];rfl)) rfl ?_
   refine(A6 bl).elim (λw3=> ?_) (λw3=> ?_)
   .simp[go_sem,w3]
    exact zI () ⟨by grind,cc 1 (by grind) rfl (by rfl) om (zD (by rfl) rfl)⟩
   .simp[go_sem,w3]
    exact fg (by grind)
 .rintro _ h1
  have hM:=ad h1
  clear az ad
  generalize hB:(if k=1 then mi&&(((st.order.isEmpty&& !d)||wo)&&decide (-1<=st.bT))else if k=2 then mr&& !f else if k=3 then ms else k==4)=B at hM
  obtain⟨S,hS⟩:=eX (((!(k==1)&&(!ie||(!st.order.isEmpty||(d|| !(st.bT==0)))))||((!(k==2)&& !re)||(!(k==3)&& !se))))
  rw[hS]at hM
  have no:S=true->false=M:=(by grind)
  have yes:S=false->B=M:=(by grind)
  clear hM
  have au:(st.bT !=0)= !(st.bT==0):=rfl
  have av:(st.kind !=2)= !(k==2):=by grind
  have aw:(st.kind !=3)= !(k==3):=by grind
  have ax:(st.kind==1)=(k==1):=by rw[hk]
  refine zN (zA ?_)
  simp[go_sem]
  refine ov (S:=Unit) [1] (λ_=> [.ptr 0 0]) (λ_=> [.box st.row]) (λ_=>S=false) hc hb ?_ ?_
  .generalize (st.bT==0)=l0 at au hS
   generalize (k==1)=k1 at ax hS
   generalize (k==2)=k2 at av hS
   generalize (k==3)=k3 at aw hS
   clear yes hB
   refine zA ?_
   simp[go_sem,ax]
   repeat' (first
    |(refine xD (λw=> ?_) (λw=> ?_)<;>simp[go_sem,w,av,aw,au,ao,aq,ar,hd])
    |(refine zV (λw=> ?_) (λw=> ?_)<;>simp[go_sem,w]))
   all_goals first
    |exact fg (by grind)
    |exact zI () ⟨by rw[<-hS];simp_all,cc 1 (by simp[go_sem,hd]<;>simp_all) rfl (by simp[bS,cN,cL]) om (zD sg rfl)⟩
  .rintro _ a1
   have hM:=yes a1
   rw[<-hB]at hM
   clear yes no hS hB
   refine zA ?_
   simp[go_sem,hk]
   by_cases k1:k=1
   .have aa:(k==1)=true:=by grind
    rw[aiv k1]at hM
    have a7:decide (-1<=st.bT)=decide (-1<=st.bT):=rfl
    simp[go_sem,aa]
    refine zL hit cB (zP (by rfl) rfl) rfl ?_
    simp[go_sem]
    repeat' (first
     |(refine xD (λw=> ?_) (λw=> ?_)<;>simp[go_sem,w,ay,hd])
     |(refine zL aj cB (zP sg rfl) rfl ?_;simp[go_sem]))
    all_goals exact fg (by rw[<-hM];simp_all)
   have aa:(k==1)=false:=by grind
   rw[aiu k1]at hM
   by_cases k2:k=2
   .have ab:(k==2)=true:=by grind
    rw[aiv k2]at hM
    simp[go_sem,aa,ab]
    refine zL al cB (zP (by rfl) rfl) rfl ?_
    simp[go_sem]
    refine(A6 mr).elim (λw=> ?_) (λw=> ?_)
    .simp[go_sem,w,hf]
     exact fg (by grind)
    .simp[go_sem,w]
     exact fg (by grind)
   have ab:(k==2)=false:=by grind
   rw[aiu k2]at hM
   by_cases k3:k=3
   .have ah:(k==3)=true:=by grind
    rw[aiv k3]at hM
    simp[go_sem,aa,ab,ah]
    refine zL an cB (zP (by rfl) rfl) rfl ?_
    simp[go_sem]
    exact fg hM
   have ah:(k==3)=false:=by grind
   rw[aiu k3]at hM
   simp[go_sem,aa,ab,ah]
   exact fg hM
def TY (l:dU):Bool:=(decide (0<=l.mode)&&(decide (l.mode<=2)&&(decide (0<=l.n)&&(!(l.mode==0&& !(l.n==0))))))&&(decide (1<=l.stmts.length)&&decide (l.stmts.length<=8))
def mH (l:dU):Bool:=TY l&&l.stmts.all km
theorem xA4 (l:dU) (hl:kN l):Pure prog 56 [.agg l.row] (.bool (mH l)):=by
 obtain⟨L,hL⟩:=eX l.stmts
 obtain⟨m,hm⟩:=eX l.mode
 obtain⟨n,hn⟩:=eX l.n
 obtain⟨af,ad⟩:=hl.stmts
 rw[hL]at af ad
 generalize hM:mH l=M
 unfold mH TY at hM
 rw[hL,hm,hn]at hM
 have no: ∀h:Bool,(h&&L.all km)=M->h=false->false=M:=sm
 refine iV 0 func56 ntmps56 results56 λc hc hb=> ?_
 refine zN (zA ?_)
 simp[go_sem]
 refine ov (S:=Unit) [1] (λ_=> [.ptr 0 0]) (λ_=> [.box l.row]) (λ_=>L.all km=M) hc hb ?_ ?_
 .have d1:decide (m<0)= !decide (0<=m):=by
   grind
  have d2:decide (2<m)= !decide (m<=2):=by
   grind
  have d3:decide (n<0)= !decide (0<=n):=by
   grind
  have d4:((L.length:Int)==0)= !decide (1<=L.length):=by
   grind
  have d5:decide ((8:Int)<L.length)= !decide (L.length<=8):=by
   grind
  have d6:(n !=0)= !(n==0):=rfl
  generalize decide (0<=m)=b1 at d1 hM
  generalize decide (m<=2)=b2 at d2 hM
  generalize decide (0<=n)=b3 at d3 hM
  generalize decide (1<=L.length)=b4 at d4 hM
  generalize decide (L.length<=8)=b5 at d5 hM
  generalize (n==0)=b6 at d6 hM
  have ah:=no _ hM
  have ae:((b1&&(b2&&(b3&&(!(m==0&& !b6)))))&&(b4&&b5))=true->L.all km=M:=(by grind)
  generalize ai:(m==0)=b7 at ah ae
  clear hM no
  refine zA ?_
  simp[go_sem,hm,hn,hL,d1]
  repeat' (first
   |(refine xD (λw=> ?_) (λw=> ?_)<;>simp[go_sem,w,ai,d2,d3,d4,d5,d6])
   |(refine zV (λw=> ?_) (λw=> ?_)<;>simp[go_sem,w]))
  all_goals first
   |exact fg (by grind)
   |exact zI () ⟨(by grind),cc 1 (by simp[go_sem,hm,hn,hL]) rfl (by simp[bS,cN,cL]) om (zD sg rfl)⟩
 .rintro _ hM
  refine zA ?_
  simp[go_sem,hL]
  refine zH (S:=Nat) [41,42,43] (λi=> [.sl .ro (L.map bW.row),.int .i64 L.length,.int .i64 (i:Int)]) (λ_=> []) (λi=>L.length - i) (λi=>i<=L.length/\(L.drop i).all km=M) hc hb 0 (by grind) ?_ ?_
  .exact gZ rfl (zP (by rfl) rfl)
  rintro i ⟨hi,hinv⟩
  by_cases q:i<L.length
  rotate_left
  .rw[A9 om]at hinv
   refine zA ?_
   simp[go_sem,q]
   exact fg hinv
  have ei:=zQ q om
  rw[H9 _ _ _ q]at hinv
  obtain⟨st,ab⟩:=eX (L[i])
  have aa:=xw1 st (ad st (ab▸A8 q))
  rw[ab]at hinv
  generalize km st=b at aa hinv
  refine zA ?_
  simp[go_sem,q,ab]
  refine zL aa cB (zP (by rfl) rfl) rfl ?_
  refine(A6 b).elim (λp=> ?_) (λp=> ?_)
  .rw[p,B7]at hinv
   simp[go_sem,p,ei]
   exact zI (i+1) ⟨om,(by grind),gZ rfl (zP (by rfl) rfl)⟩
  .rw[p,Ds]at hinv
   simp[go_sem,p]
   exact fg hinv
def pg (T:bL) (e:bJ) (want:Int):Int:=if(iM T e).2≠0 then(iM T e).2 else if(iM T e).1≠want/\(iM T e).1≠0 then 15 else 0
theorem eS {b M:Int} {I:St} (h:b=M):cx (some (.int .i64 b)) 0 (λr s=>r= .int .i64 M/\s= []) I:=by subst h;exact wR
theorem K8 (T:bL) (hT:T.cm.length<=maxLen) (e:bJ) (he:ja e) (want:Int):Pure prog 141 [.agg T.row,.agg e.row,.int .i64 want] (.int .i64 (pg T e want)):=by
 have h:=K5 T hT e he
 generalize hM:pg T e want=M
 unfold pg at hM
 generalize iM T e=k at h hM
 refine iW 0 func141 ntmps141 results141 λc hc hb=>zM ?_
 simp[go_sem]
 refine zL h cB (zP sg (by rw[bJ.bQ];rfl)) rfl ?_
 simp[go_sem,wI]
 by_cases q1:k.2=0
 rotate_left
 .have aa:(k.2 !=0)=true:=sU q1
  rw[aiv q1]at hM
  simp[go_sem,aa]
  exact eS hM
 have aa:(k.2 !=0)=false:=sU q1
 rw[aiu (λh=>h q1)]at hM
 simp[go_sem,aa]
 by_cases q2:k.1=want
 .have ab:(k.1 !=want)=false:=sU q2
  rw[aiu (λh=>h.1 q2)]at hM
  simp[go_sem,ab]
  exact eS hM
 have ab:(k.1 !=want)=true:=sU q2
 simp[go_sem,ab]
 by_cases q3:k.1=0
 .have ad:(k.1 !=0)=false:=sU q3
  rw[aiu (λh=>h.2 q3)]at hM
  simp[go_sem,ad]
  exact eS hM
 .have ad:(k.1 !=0)=true:=sU q3
  rw[aiv ⟨q2,q3⟩]at hM
  simp[go_sem,ad]
  exact eS hM
def AX (T:bL) (st:bW):Int:=if st.dO=true then pg T st.cA 1 else 0
theorem TZ (T:bL) (hT:T.cm.length<=maxLen) (st:bW) (hs:kM st):Pure prog 101 [.agg T.row,.agg st.row] (.int .i64 (AX T st)):=by
 have h:=K8 T hT st.cA hs.cA 1
 generalize hM:AX T st=M
 unfold AX at hM
 generalize pg T st.cA 1=k at h hM
 refine iW 0 func101 ntmps101 results101 λc hc hb=>zM ?_
 simp[go_sem]
 refine(A6 st.dO).elim (λw=> ?_) (λw=> ?_)
 .rw[aiv w]at hM
  simp[go_sem,w]
  refine zL h cB (zP sg (by rw[bJ.bQ];rfl)) rfl ?_
  simp[go_sem]
  exact eS hM
 .rw[aiu (by rw[w];decide)]at hM
  simp[go_sem,w]
  exact eS hM
def Gi (T:bL) (x:cP):Int:=if x.kind=2 then(iM T x.e).2 else if x.kind=4 then pg T x.e 2 else 0
def q9 (T:bL):List cP->Int
 | []=>0
 |x::l=>if Gi T x≠0 then Gi T x else q9 T l
def tS (l:List cP):Bool:=l.any λx=>x.kind==2
def sj (l:List cP):Bool:=l.any λx=>x.kind==3||x.kind==4
def Ii (T:bL) (st:bW):Int:=if st.order.isEmpty=true then 0 else if cV T st.order<0 then 14 else if sj st.items=true then 9 else 0
def K9 (T:bL) (st:bW):Int:=
 if q9 T st.items≠0 then q9 T st.items else if(tS st.items&&sj st.items)=true then 9 else if AX T st≠0 then AX T st else Ii T st
theorem xE6 (T:bL) (hT:T.cm.length<=maxLen) (st:bW) (hs:kM st):Pure prog 98 [.agg T.row,.agg st.row] (.int .i64 (K9 T st)):=by
 obtain⟨L,hL⟩:=eX st.items
 obtain⟨ao,aj⟩:=hs.items
 rw[hL]at ao aj
 have ai:=TZ T hT st hs
 have af:=Gg T st.order hT
 rw[show iG (λc:fw=>c.name==st.order) T.cm 0=cV T st.order from rfl]at af
 generalize hM:K9 T st=M
 unfold K9 Ii at hM
 rw[hL]at hM
 refine iV 0 func98 ntmps98 results98 λc hc hb=> ?_
 refine zN (zA ?_)
 simp[go_sem]
 refine zN (zA ?_)
 simp[go_sem]
 refine ov (S:=Unit) [2,3,5,6] (λ_=> [.ptr 0 0,.ptr 1 0,.bool (tS L),.bool (sj L)]) (λ_=> [.box T.row,.box st.row]) (λ_=>q9 T L=0) hc hb ?_ ?_
 .refine zN (zA ?_)
  simp[go_sem,hL]
  refine AD ?_
  refine zH (S:=Nat×Bool×Bool) [2,3,5,6,12,13,14] (λu=> [.ptr 0 0,.ptr 1 0,.bool u.2.1,.bool u.2.2,.sl .ro (L.map cP.row),.int .i64 L.length,.int .i64 (u.1:Int)]) (λ_=> [.box T.row,.box st.row]) (λu=>L.length - u.1)
   (λu=>u.1<=L.length/\(u.2.1||tS (L.drop u.1))=tS L/\(u.2.2||sj (L.drop u.1))=sj L/\q9 T (L.drop u.1)=q9 T L) hc hb (0,false,false) ⟨A3 _,sm,sm,sm⟩ ?_ ?_
  .exact cc 2 (by simp[go_sem,hL]) rfl (by simp[bS,cN,cL,bL.row,bW.row]) (A3 _) (zD sg rfl)
  rintro⟨i,pl,wh⟩ ⟨hi,hp,hw,hinv⟩
  simp only at hi hp hw hinv
  by_cases q:i<L.length
  rotate_left
  .rw[A9 om]at hp hw hinv
   have hp:pl=tS L:=by rw[<-hp];exact(Bool.or_false _).symm
   have hw:wh=sj L:=by rw[<-hw];exact(Bool.or_false _).symm
   refine zA ?_
   simp[go_sem,q]
   exact zI () ⟨hinv.symm,aM 2 (by simp[bS,cN,cL]) (zD (by simp[go_sem,hp,hw]) rfl)⟩
  have ei:=zQ q om
  obtain⟨x,hx⟩:=eX (L[i])
  have hE:=(aj x (hx▸A8 q)).2
  rw[A5 q,hx]at hp hw hinv
  unfold tS at hp
  unfold sj at hw
  rw[List.any_cons]at hp hw
  rw[q9]at hinv
  have bad:Gi T x≠0->Gi T x=M:=λh=>by
   rw[aiv h]at hinv
   rw[<-hM,<-hinv,aiv h]
  have dS:Gi T x=0->q9 T (L.drop (i+1))=q9 T L:=λh=>by
   rw[aiu (λg=>g h)]at hinv
   exact hinv
  clear hinv
  unfold Gi at bad dS
  have ak:=K5 T hT x.e hE
  have al:=K8 T hT x.e hE 2
  generalize iM T x.e=ty at ak bad dS
  generalize pg T x.e 2=kc at al bad dS
  have go: ∀(a b:Bool) (e I),(a||tS (L.drop (i+1)))=tS L->(b||sj (L.drop (i+1)))=sj L->q9 T (L.drop (i+1))=q9 T L->At 0 [2,3,5,6,12,13,14] [.ptr 0 0,.ptr 1 0,.bool a,.bool b,.sl .ro (L.map cP.row),.int .i64 L.length,.int .i64 ((i+1:Nat):Int)] [.box T.row,.box st.row] e I->
   Vx.Next (λs':Nat×Bool×Bool=>L.length - s'.1<L.length - i/\(s'.1<=L.length/\(s'.2.1||tS (L.drop s'.1))=tS L/\(s'.2.2||sj (L.drop s'.1))=sj L/\q9 T (L.drop s'.1)=q9 T L)/\At 0 [2,3,5,6,12,13,14] [.ptr 0 0,.ptr 1 0,.bool s'.2.1,.bool s'.2.2,.sl .ro (L.map cP.row),.int .i64 L.length,.int .i64 (s'.1:Int)] [.box T.row,.box st.row] e I) fx:=λa b e I h1 h2 h3 h4=>
    zI (i+1,a,b) ⟨by simp only;omega,⟨by simp only;omega,h1,h2,h3⟩,h4⟩
  refine zA ?_
  simp[go_sem,q,hx]
  by_cases k2:x.kind=2
  .have ab:(x.kind==2)=true:=sU k2
   rw[aiv k2]at bad dS
   have aq:(x.kind==3||x.kind==4)=false:=by rw[k2];rfl
   simp only[ab,Di,aiY]at hp
   simp only[aq,C5]at hw
   simp[go_sem,ab]
   refine zL ak cB (zP sg (by rw[bJ.bQ];rfl)) rfl ?_
   by_cases qe:ty.2=0
   .have aa:(ty.2 !=0)=false:=sU qe
    simp[go_sem,wI,aa,ei]
    exact go true wh _ _ (by rw[Di];exact hp) hw (dS qe) (aN 2 (by simp[bS,cN,cL,bL.row,bW.row]))
   .have aa:(ty.2 !=0)=true:=sU qe
    simp[go_sem,wI,aa]
    exact eS (bad qe)
  rw[aiu k2]at bad dS
  have ab:(x.kind==2)=false:=sU k2
  simp only[ab,C5]at hp
  by_cases k4:x.kind=4
  .have ae:(x.kind==4)=true:=sU k4
   rw[aiv k4]at bad dS
   simp only[ae,Di,aiY]at hw
   simp[go_sem,ab,ae]
   refine zL al cB (zP sg (by rw[bJ.bQ];rfl)) rfl ?_
   by_cases qe:kc=0
   .have aa:(kc !=0)=false:=sU qe
    simp[go_sem,aa,ei]
    exact go pl true _ _ hp (by rw[Di];exact hw) (dS qe) (aN 2 (by simp[bS,cN,cL,bL.row,bW.row]))
   .have aa:(kc !=0)=true:=sU qe
    simp[go_sem,aa]
    exact eS (bad qe)
  rw[aiu k4]at bad dS
  have ae:(x.kind==4)=false:=sU k4
  by_cases k3:x.kind=3
  .have ah:(x.kind==3)=true:=sU k3
   simp only[ah,Di,aiY]at hw
   simp[go_sem,ab,ae,ah,ei]
   exact go pl true _ _ hp (by rw[Di];exact hw) (dS rfl) (aN 2 (by simp[bS,cN,cL,bL.row,bW.row]))
  .have ah:(x.kind==3)=false:=sU k3
   simp only[ah,ae,C5]at hw
   simp[go_sem,ab,ae,ah,ei]
   exact go pl wh _ _ hp hw (dS rfl) (aN 2 (by simp[bS,cN,cL,bL.row,bW.row]))
 .rintro _ hI
  rw[aiu (λh=>h hI)]at hM
  generalize tS L=pl at hM⊢
  generalize sj L=wh at hM⊢
  generalize AX T st=wc at ai hM
  have an:(st.order== [])=st.order.isEmpty:=by cases st.order<;>rfl
  refine zA ?_
  simp[go_sem]
  refine(A6 (pl&&wh)).elim (λw=> ?_) (λw=> ?_)
  .rw[aiv w]at hM
   have w1:pl:=by cases pl<;>simp_all
   have w2:wh:=by cases wh<;>simp_all
   simp[go_sem,w1,w2]
   exact eS hM
  rw[aiu (by rw[w];decide)]at hM
  refine xD (λw1=> ?_) (λw1=> ?_)
  .have w2:wh=false:=by cases wh<;>simp_all
   simp[go_sem,w1,w2]
   refine zL ai cB (zP sg rfl) rfl ?_
   by_cases qe:wc=0
   rotate_left
   .have aa:(wc !=0)=true:=sU qe
    rw[aiv qe]at hM
    simp[go_sem,aa]
    exact eS hM
   have aa:(wc !=0)=false:=sU qe
   rw[aiu (λh=>h qe)]at hM
   simp[go_sem,aa,an]
   refine(A6 st.order.isEmpty).elim (λw3=> ?_) (λw3=> ?_)
   .rw[aiv w3]at hM
    simp[go_sem,w3]
    exact eS hM
   rw[aiu (by rw[w3];decide)]at hM
   simp[go_sem,w3]
   refine zL af cB (zP sg rfl) rfl ?_
   by_cases qc:cV T st.order<0
   .have ad:decide (cV T st.order<0)=true:=aix qc
    rw[aiv qc]at hM
    simp[go_sem,ad]
    exact eS hM
   have ad:decide (cV T st.order<0)=false:=aiw qc
   rw[aiu qc]at hM
   simp[go_sem,ad]
   rw[aiu (by rw[w2];decide)]at hM
   exact eS hM
  .have w1:pl=false:=sU w1
   simp[go_sem,w1]
   refine zL ai cB (zP sg rfl) rfl ?_
   by_cases qe:wc=0
   rotate_left
   .have aa:(wc !=0)=true:=sU qe
    rw[aiv qe]at hM
    simp[go_sem,aa]
    exact eS hM
   have aa:(wc !=0)=false:=sU qe
   rw[aiu (λh=>h qe)]at hM
   simp[go_sem,aa,an]
   refine(A6 st.order.isEmpty).elim (λw3=> ?_) (λw3=> ?_)
   .rw[aiv w3]at hM
    simp[go_sem,w3]
    exact eS hM
   rw[aiu (by rw[w3];decide)]at hM
   simp[go_sem,w3]
   refine zL af cB (zP sg rfl) rfl ?_
   by_cases qc:cV T st.order<0
   .have ad:decide (cV T st.order<0)=true:=aix qc
    rw[aiv qc]at hM
    simp[go_sem,ad]
    exact eS hM
   have ad:decide (cV T st.order<0)=false:=aiw qc
   rw[aiu qc]at hM
   simp[go_sem,ad]
   refine(A6 wh).elim (λw4=> ?_) (λw4=> ?_)
   .rw[aiv w4]at hM
    simp[go_sem,w4]
    exact eS hM
   .rw[aiu (by rw[w4];decide)]at hM
    simp[go_sem,w4]
    exact eS hM
def jT (l:aj2) (v:Int):Nat:=(l.filter λx=>decide (x<v)).length
theorem T0 (l:aj2) (v:Int) (i:Nat) (hi:i<=l.length) (h1: ∀k (h:k<l.length),k<i->l[k]<v) (h2: ∀k (h:k<l.length),i<=k->v<=l[k]):jT l v=i:=by
 unfold jT
 have e:l=l.take i++l.drop i:=(B8 i l).symm
 rw[e,List.filter_append,An]
 have ha:(l.take i).filter (λx=>decide (x<v))=l.take i:=D2.2 λx hx=>by
  obtain⟨k,hk,rfl⟩:=Ci.1 hx
  rw[aiV]
  rw[Az]at hk
  exact aix (h1 k om om)
 have hb:(l.drop i).filter (λx=>decide (x<v))= []:=List.filter_eq_nil_iff.2 λx hx=>by
  obtain⟨k,hk,rfl⟩:=Ci.1 hx
  rw[List.getElem_drop]
  rw[D6]at hk
  have:=h2 (i+k) om om
  simp;omega
 rw[ha,hb,Az]
 simp;omega
theorem T3 (l:aj2) (v:Int) (hs:l.Pairwise (· < ·)) (i:Nat) (h1: ∀k (h:k<l.length),k<i->l[k]<v) (h2: ∀k (h:k<l.length),i<=k->v<=l[k]):(if h:i<l.length then l[i]==v else false)=l.contains v:=by
 rw[D9,aiO]
 constructor
 .intro h
  split at h
  .rename_i hi
   rw[<-eq_of_beq h]
   exact A8 hi
  .cases h
 .intro h
  obtain⟨k,hk,rfl⟩:=Ci.1 h
  have ab:i<=k:=by
   rcases Bv k i with q|q
   .have:=h1 k hk q;omega
   .exact q
  have hi:i<l.length:=om
  rw[dif_pos hi]
  have aa:k=i:=by
   rcases Bv i k with q|q
   .have h3:=Ct.1 hs i k hi hk q
    have h4:=h2 i hi (A7 _)
    omega
   .omega
  subst aa
  exact beq_self_eq_true _
theorem xH5 (s k:Nat):(s:Int).fdiv k=((s/k:Nat):Int):=by
 rw[Dp _ om]
 rfl
theorem T4 (x:Int):Pure prog 236 [.int .i64 x] (.bool false):=by
 refine iW 0 func236 ntmps236 results236 λc hc hb=>zM ?_
 simp[go_sem]
 exact wR
def gu (x y:Int):Int:=if x<y then -1 else if x>y then 1 else 0
theorem OF (x y:Int):Pure prog 165 [.int .i64 x,.int .i64 y] (.int .i64 (gu x y)):=by
 generalize hM:gu x y=M
 have ret: ∀(r:Int) (I:St),r=M->cx (some (.int .i64 r)) 0 (λr s=>r= .int .i64 M/\s= []) I:=λr I h=>by subst h;exact wR
 unfold gu at hM
 refine iW 0 func165 ntmps165 results165 λc hc hb=>zM ?_
 simp[go_sem]
 refine pC (T4 x) ?_
 simp[go_sem]
 refine pC (T4 y) ?_
 simp[go_sem]
 repeat' (first|(refine zV (λq=> ?_) (λq=> ?_)<;>simp[go_sem,q]))
 all_goals exact ret _ _ (by rw[<-hM];simp only[aiA,aiC]at*;(repeat' split)<;>omega)
@[go_sem] def ph (x:Int×List ca):List V:= [.int .i64 x.1,.sl .ro (x.2.map ca.row)]
theorem T5 (x:Int×List ca) (r:Int):Pure prog 176 [.agg (ph x),.int .i64 r] (.int .i64 (gu x.1 r)):=by
 refine iW 0 func176 ntmps176 results176 λc hc hb=>zM ?_
 simp[go_sem]
 refine pC (OF x.1 r) ?_
 simp[go_sem]
 exact wR
theorem wm4 (l:List ca) (x:ca) (hl:l.length<=maxLen):Pure prog 245 [.sl .ro (l.map ca.row),.agg x.row] (.int .i64 (iG (λt:ca=>t==x) l 0)):=by
 generalize hM:iG (λt:ca=>t==x) l 0=M
 have ret: ∀(r:Int) (I:St),r=M->cx (some (.int .i64 r)) 0 (λr s=>r= .int .i64 M/\s= []) I:=λr I h=>by subst h;exact wR
 refine iV 0 func245 ntmps245 results245 λc hc hb=> ?_
 refine zA ?_
 simp[go_sem]
 refine zH (S:=Nat) [0,3,7,8] (λi=> [.sl .ro (l.map ca.row),.ptr 0 0,.int .i64 l.length,.int .i64 i]) (λ_=> [.box x.row]) (λi=>l.length - i) (λi=>i<=l.length/\iG (λt:ca=>t==x) (l.drop i) i=M) hc hb 0 ⟨A3 _,hM⟩ ?_ ?_
 .exact aN 1 rfl
 rintro i ⟨hi,hinv⟩
 by_cases q:i<l.length
 rotate_left
 .rw[Bp om,iG]at hinv
  refine zA ?_
  simp[go_sem,q]
  exact ret _ _ hinv
 have ei:=zQ q (by unfold maxLen at hl;omega)
 obtain⟨y,hy⟩:=eX (l[i])
 rw[A5 q,hy,iG]at hinv
 refine zA ?_
 simp[go_sem,q]
 refine yE [] 1 rfl kR kR ?_
 simp[go_sem,q,hy]
 have aa:(x.lo==y.lo&&x.hi==y.hi)=(y==x):=by
  rw[D9]
  obtain⟨a,b⟩:=x;obtain⟨c,d⟩:=y
  simp only[Ab,aiB,ca.mk.injEq]
  exact⟨λh=>⟨h.1.symm,h.2.symm⟩,λh=>⟨h.1.symm,h.2.symm⟩⟩
 rw[aa]
 refine zV (λw=> ?_) (λw=> ?_)
 .rw[aiv w]at hinv
  simp[go_sem]
  exact ret _ _ hinv
 .rw[aiu (by rw[w];decide)]at hinv
  simp[go_sem,ei]
  exact zI (i+1) ⟨om,⟨q,hinv⟩,aN 1 rfl⟩
theorem T6 (x:ca): ∀(l:List ca) (i:Nat),decide (0<=iG (λt:ca=>t==x) l i)=l.contains x
 | [],_=>rfl
 |y::l,i=>by
  unfold iG
  rw[Dh,<-T6 x l (i+1)]
  by_cases h:y=x
  .subst h;simp
  .rw[aiu (sU h),show(x==y)=false by simpa using λe=>h e.symm,C5]
theorem T7 (l:List ca) (x:ca) (hl:l.length<=maxLen):Pure prog 178 [.sl .ro (l.map ca.row),.agg x.row] (.bool (l.contains x)):=by
 have h:=wm4 l x hl
 rw[<-T6 x l 0]
 refine iW 0 func178 ntmps178 results178 λc hc hb=>zM ?_
 simp[go_sem]
 refine zL h cB (zP sg rfl) rfl ?_
 simp[go_sem]
 exact wR
theorem ws0 (uJ:List (Int×List ca)) (v:Int) (hl:uJ.length<=1000) (hs:(uJ.map (·.1)).Pairwise (· < ·)):
  Pure prog 175 [.sl .ro (uJ.map ph),.int .i64 v,.fn 176 []] (.cy [.int .i64 (jT (uJ.map (·.1)) v:Nat),.bool ((uJ.map (·.1)).contains v)]):=by
 obtain⟨l,hle⟩:=eX (uJ.map (·.1))
 have aj:l.length=uJ.length:=by rw[<-hle];simp
 rw[hle]at hs⊢
 have ab: ∀(k:Nat) (hk:k<uJ.length),l[k]'om=(uJ[k]).1:=λk hk=>by subst hle;simp
 refine iV 0 func175 ntmps175 results175 λc hc hb=> ?_
 refine zA ?_
 simp[go_sem]
 refine zH (S:=Nat×Nat) [0,1,2,8,9,10] (λu=> [.sl .ro (uJ.map ph),.int .i64 v,.fn 176 [],.int .i64 uJ.length,.int .i64 u.1,.int .i64 u.2]) (λ_=> []) (λu=>u.2 - u.1)
  (λu=>u.1<=u.2/\u.2<=l.length/\(∀k (h:k<l.length),k<u.1->l[k]<v)/\(∀k (h:k<l.length),u.2<=k->v<=l[k])) hc hb (0,l.length) ⟨A3 _,A7 _,λk _ h=>absurd h (Nat.not_lt_zero _),λk h h'=>by simp only at h';omega⟩ ?_ ?_
 .exact gZ rfl (zP (by simp[go_sem,aj]) rfl)
 rintro⟨i,j⟩ ⟨ak,hj,h1,h2⟩
 simp only at ak hj h1 h2
 by_cases q:i<j
 rotate_left
 .have al:j=i:=om
  subst al
  have ai:=T0 l v j hj h1 h2
  have aa:=T3 l v hs j h1 h2
  rw[ai]
  by_cases q2:j<uJ.length
  .obtain⟨x,hx⟩:=eX (uJ[j])
   rw[dif_pos om,ab j q2,hx]at aa
   have an:(gu x.1 v==0)=(x.1==v):=by
    rw[D9];simp only[aiB];unfold gu
    (repeat' split)<;>omega
   have ae:=T5 x v
   rw[<-aa]
   refine zA ?_
   simp[go_sem,q2,hx]
   refine zL ae cB (zP sg rfl) rfl ?_
   simp[go_sem,an]
   exact wR
  .rw[dif_neg om]at aa
   rw[<-aa]
   refine zA ?_
   simp[go_sem,q2]
   exact wR
 obtain⟨h,hh⟩:=eX ((i+j)/2)
 have aq:i<=h:=om
 have ar:h<j:=om
 have af:h<uJ.length:=om
 have ad:h<l.length:=om
 obtain⟨x,hx⟩:=eX (uJ[h])
 have au:l[h]=x.1:=by rw[ab h af,hx]
 have e1:IntKind.i64.wrap ((i:Int)+j)=((i+j:Nat):Int):=by rw[bX om om];omega
 have em:IntKind.i64.wrap ((IntKind.u64.wrap (IntKind.i64.wrap ((i:Int)+j))).fdiv 2)=(h:Int):=by
  rw[e1,Vx.db om om,show(2:Int)=((2:Nat):Int) by rfl,xH5,hh,bX om om]
 have eh:=zQ af om
 have ae:=T5 x v
 have ao:decide (gu x.1 v<0)=decide (x.1<v):=by
  rw[D9];simp only[aiA];unfold gu
  (repeat' split)<;>omega
 refine zA ?_
 simp[go_sem,q,em,af,hx]
 refine zL ae cB (zP sg rfl) rfl ?_
 simp[go_sem,ao]
 refine zV (λw=> ?_) (λw=> ?_)
 .have w:x.1<v:=sU w
  simp[go_sem,eh]
  refine zI (h+1,j) ⟨by simp only;omega,⟨by simp only;omega,by simp only;omega,λk hk ah=> ?_,h2⟩,aO⟩
  simp only at ah
  rcases Bv k h with q3|q3
  .have:=Ct.1 hs k h hk ad q3
   omega
  .have:k=h:=om
   subst this
   omega
 .have w: ¬x.1<v:=sU w
  simp[go_sem]
  refine zI (i,h) ⟨by simp only;omega,⟨by simp only;omega,by simp only;omega,h1,λk hk ah=> ?_⟩,aO⟩
  simp only at ah
  rcases Bv h k with q3|q3
  .have:=Ct.1 hs h k ad hk q3
   omega
  .have:k=h:=om
   subst this
   omega
end Go.Proofs.YtplackkccmeioaaGreat
namespace Go.Proofs.YtplackkccmeioaaGreat
open Go Go.Vx Go.Proofs.Tryz
set_option maxRecDepth 100000
theorem Lb {P:Program} {w:World} {dT sT ty el:TypeId} {b o aa ad ab ae s k:Nat} {a:Addr} {arr:aj3} {T:TypeId} {fz:Nat×Nat} {cs:aj1} (hu:P.underlying dT=some (.slice el)) (hs:(P.info? el).map (·.size)=some s)
  (hk:Nat.min ab aa=k) (hn:cs.length=k*s) (af: ∀j v,cs[j]? =some v->w.cell? (a.add j)=some v) (hh:w.heap[b]? =some (.cells arr T fz)) (hf:rH arr fz) (ai:o+cs.length<=arr.size) (h1: ∀v∈cs,v.oneCell'):
  (Builtin.copy_ #[dT,sT] ty #[.slice (some ⟨b,o,none⟩) aa ad,.slice (some a) ab ae]).run P w= .ok (goInt k) (yC w b (.cells (yD arr o cs) T fz)):=by
 have hl:=run_loadCells_list (P:=P) w a cs af
 have ah:=xP P b o T fz cs 0 arr w hh hf om h1
 rw[D3]at ah
 cases hq:P.info? el<;>simp_all[Builtin.copy_,run_underlying,Builtin.lenOf,Builtin.firstCells,sizeOf,typeInfo]
theorem T8 {P:Program} {ops:Array Oper} {o:Oper} {a:Act} {w:World} {K:Act->World->Prop} {Q:Exit->Act->World->Prop} {E:Prop}
  (hg:o.guard=none) (d x:Operand) (dT sT:TypeId) (aa:o.op=Op.call {callee:=Callee.builtin Builtin.copy,args:= #[d,x],argTypes:= #[dT,sT]})
  (v u:Value) (hd:a.eval d=v) (hx:a.eval x=u) {v':Value} {w':World} (hr:(Builtin.copy_ #[dT,sT] o.type #[v,u]).run P w= .ok v' w') (hK:K (a.put o.dst v') w'):
  if Region.wanted o (yielded ops a.tmps)=true then Oper.wp P o a w K Q else E:=by
 have hw:Region.wanted o (yielded ops a.tmps):=by grind[Region.wanted]
 rw[aiv hw]
 unfold Oper.wp
 simp[execOp,aa,resolve,invoke,builtin,hd,hx,hr,Result.andThen]
 exact hK
theorem xu3 (b vb c vc n i:Nat) (arr aa:aj3) (T Tv:TypeId) (fz ad:Nat×Nat) (D news:aj1) (w:World) (hi:i<n) (ak:n+1<=c) (aw:n<=9223372036854775806) (af:vb≠b)
  (hh:w.heap[b]? =some (.cells arr T fz)) (hf:rH arr fz) (ay:c*2<=arr.size) (hv:w.heap[vb]? =some (.cells aa Tv ad)) (ah:fH 2 aa ad) (ax:2<=aa.size)
  (hD:D=(arr.toList.drop (i*2)).take ((n - i)*2)) (hn:news=aa.toList.take 2) (al: ∀v∈D,v.oneCell') (an: ∀v∈news,v.oneCell'):
  Calls prog 177 #[.slice (some ⟨b,0,none⟩) n c,.int .i64 i,.slice (some ⟨vb,0,none⟩) 1 vc] w λe w'=>
   e= .returned (.slice (some ⟨b,0,none⟩) (n+1) c)/\w'=yC (yC w.drew b (.cells (yD arr ((i+1)*2) D) T fz)) b (.cells (yD (yD arr ((i+1)*2) D) (i*2) news) T fz):=by
 have az:i<=n:=om
 have a1: ¬((i:Int)=(n:Int)):=om
 have a6:(0:Int)<=(i:Int)+1:=om
 have a7:((i:Int)+1).toNat=i+1:=om
 have a8: ¬(c=i+1):=om
 have aA:(i:Int)<=(n:Int)+1:=om
 have aB:(i:Int)+1<=(n:Int)+1:=om
 have aC: ¬(c=i):=om
 have aD:IntKind.i64.wrap ((i:Int)+1)=(i:Int)+1:=by grind[IntKind.wrap_i64]
 have ao:D.length=(n - i)*2:=by grind
 have aq:news.length=2:=by grind
 have ar:w.frozen? ⟨vb,0,none⟩=false:=by
  have:=ah.1 0 om
  grind[World.frozen?]
 have au:w.frozen? ⟨vb,aa.size,none⟩=false:=by
  have:=ah.2.resolve_left dC
  grind[World.frozen?]
 have av: ∀lb cb,(callFunc 243 #[.slice (some ⟨vb,0,none⟩) 1 vc,.slice (some ⟨b,(i+1)*2,none⟩) lb cb]).run prog w= .ok (.value (.bool false)) w:=λlb cb=>by
  rw[run_callFunc_extern func243 (by rfl) (by rfl) (by rfl) (e:=Extern.SlicesOverlaps.overlaps #[164,164] #[4]) kR,
   Lib.run_overlaps_apart w 164 4 167 underlying164 2 sizeOf167 ⟨vb,0,none⟩ ⟨b,(i+1)*2,none⟩ 1 vc lb cb af Tv T aa.size arr.size (by grind[World.shape?]) (by grind[World.shape?]) om ar au]
  rfl
 have ab:(Tryz.prog.info? 167).map (·.size)=some 2:=by rfl
 have ae: ∀(j:Nat) v,D[j]? =some v->j<(n - i)*2/\arr[i*2+j]? =some v:=(by grind)
 have ai: ∀ty dc sc,(Builtin.copy_ #[164,164] ty #[.slice (some ⟨b,(i+1)*2,none⟩) (n - i) dc,.slice (some ⟨b,i*2,none⟩) (n+1 - i) sc]).run prog w.drew= .ok (goInt (n - i:Nat)) (yC w.drew b (.cells (yD arr ((i+1)*2) D) T fz)):=λty dc sc=>
  Lb underlying164 ab (by grind) ao (λj v e=>by
   obtain⟨_,e2⟩:=ae j v e
   rw[Addr.add_lit];show w.cell? _=_;grind[World.cell?]) hh hf om al
 have aE:(yC w.drew b (.cells (yD arr ((i+1)*2) D) T fz)).heap[b]? =some (.cells (yD arr ((i+1)*2) D) T fz):=xH _ _ _ (Br.1 hh).1
 have aj: ∀(W:World),W.heap=(yC w.drew b (.cells (yD arr ((i+1)*2) D) T fz)).heap-> ∀ty dc,(Builtin.copy_ #[164,164] ty #[.slice (some ⟨b,i*2,none⟩) (n+1 - i) dc,.slice (some ⟨vb,0,none⟩) 1 vc]).run prog W= .ok (goInt (1:Nat)) (yC W b (.cells (yD (yD arr ((i+1)*2) D) (i*2) news) T fz)):=λW hW ty dc=>
  Lb underlying164 ab (by grind) (by rw[aq]) (λj v e=>by
   have hj:j<2:=by grind
   rw[hn,Ap,aiv hj,Aq]at e
   have e3:W.heap[vb]? =some (.cells aa Tv ad):=by rw[hW,uu _ _ _ _ af];exact hv
   grind[Addr.add_lit,World.cell?]) (by grind) (λo ho=>hf o (by grind[yJ])) (by grind[yJ]) an
 go_enter func177,ntmps177
 go_wp2_with (simp only[av])
 go_region_law (refine T8 rfl _ _ 164 164 rfl _ _ (by simp[Act.eval,Act.put]) (by simp[Act.eval,Act.put]) (ai _ _ _) ?_)
 go_wp2_with (at_builtin;refine wpList_copy_runI _ rfl _ _ 164 164 rfl _ _ rfl rfl (aj _ rfl _ _) ?_)
 go_ret
 subst hD hn
 simp
theorem yB1 (b c n:Nat) (arr:aj3) (T:TypeId) (fz:Nat×Nat) (x:Value) (news:aj1) (w:World) (ab:n+1<=c) (ah:n<=9223372036854775806)
  (hh:w.heap[b]? =some (.cells arr T fz)) (hf:rH arr fz) (ai:c*2<=arr.size) (va:Option Addr) (vc:Nat) (hx:x= .slice va 1 vc) (aa:Src prog 2 164 x 1 news w):
  Calls prog 177 #[.slice (some ⟨b,0,none⟩) n c,.int .i64 n,x] w λe w'=>
   e= .returned (.slice (some ⟨b,0,none⟩) (n+1) c)/\w'=yC w b (.cells (yD arr (n*2) news) T fz):=by
 subst hx
 have ad:(Tryz.prog.info? 167).map (·.size)=some 2:=by rfl
 obtain⟨i0,ae,af⟩: ∃i0,Tryz.prog.info? 167=some i0/\i0.size=2:=by
  decide
 have aj:=aa.newsLen
 have hr: ∀ty,(Builtin.append_ #[164,164] ty #[.slice (some ⟨b,0,none⟩) n c,.slice va 1 vc]).run prog w= .ok (.slice (some ⟨b,0,none⟩) (n+1) c) (yC w b (.cells (yD arr (n*2) news) T fz)):=λty=>by
  have h:=EN (P:=prog) (ty:=ty) (i:=i0) (o:=0) (n:=n) (cap:=c) (m:=1) underlying164 ae (by rw[af];exact aa) ab hh hf (by grind)
  grind
 go_enter func177,ntmps177
 go_wp2_with (at_builtin;refine Lib.wpList_append_run _ rfl _ _ _ _ rfl _ _ rfl rfl _ _ (hr _) ?_)
 go_ret
 simp
theorem yB0 (base:Option Addr) (c n:Nat) (x:Value) (fb news:aj1) (w:World) (ab:c<n+1) (ak:n<=c) (al:(n+1)*32<=140737488355328)
  (hold:(Builtin.firstCells 2 n (.slice base n c)).run prog w.drew= .ok fb.toArray w.drew) (ao:fb.length=n*2) (va:Option Addr) (vc:Nat) (hx:x= .slice va 1 vc) (an:Src prog 2 164 x 1 news w):
  ∃(aa:Nat) (arr:aj3),n+1<=aa/\aa*2<=arr.size/\arr.toList.take ((n+1)*2)=fb++news/\
  Calls prog 177 #[.slice base n c,.int .i64 n,x] w λe w'=>
   e= .returned (.slice (some ⟨w.heap.size,0,none⟩) (n+1) aa)/\w'=w.drew.alloc (.cells arr 167):=by
 subst hx
 have af:(Tryz.prog.info? 167).map (λi=>(i.zero.map (·.cells.size),i.size,i.bytes))=some (some 2,2,32):=by rfl
 obtain⟨i0,z,ah,hz,aq,ai,ar⟩: ∃i0 z,Tryz.prog.info? 167=some i0/\i0.zero=some z/\z.cells.size=2/\i0.size=2/\i0.bytes=32:=by
  cases h:Tryz.prog.info? 167<;>simp_all
 obtain⟨aa,arr,aj,ad,ae,hr⟩:=Ja (P:=prog) (w:=w) (t:=164) (tx:=164) (ty:=164) (base:=base) (cap:=c) (n:=n) (k:=1) (y:= .slice va 1 vc) (fb:=fb) (news:=news) underlying164 ah hz om om (by grind) (by grind) (by grind) ab (by grind)
 rw[ai]at ad ae
 refine⟨aa,arr,aj,ad,ae, ?_⟩
 go_enter func177,ntmps177
 cases base with
 |none=>
  go_wp2_with (at_builtin;refine Lib.wpList_append_run _ rfl _ _ _ _ rfl _ _ rfl rfl _ _ hr ?_)
  go_ret
  trivial
 |some a=>
  go_wp2_with (at_builtin;refine Lib.wpList_append_run _ rfl _ _ _ _ rfl _ _ rfl rfl _ _ hr ?_)
  go_ret
  trivial
theorem T9 (w:World) (o o':Go.Obj):yC (w.alloc o) w.heap.size o'=w.alloc o':=by
 show{w with heap:=(w.heap.push o).setIfInBounds w.heap.size o'}={w with heap:=w.heap.push o'}
 congr 1
 grind
theorem xJ2 (b vb c vc n i:Nat) (arr ab:aj3) (T Tv:TypeId) (fz aq:Nat×Nat) (news:aj1) (w:World) (hi:i<n) (an:c<n+1) (aU:n<=c) (ar:(n+1)*32<=140737488355328) (_hvb:vb≠b)
  (hh:w.heap[b]? =some (.cells arr T fz)) (aV:c*2<=arr.size) (hv:w.heap[vb]? =some (.cells ab Tv aq)) (aP:2<=ab.size)
  (hn:news=ab.toList.take 2) (aB: ∀v∈arr.toList.take (n*2),v.oneCell') (aC: ∀v∈news,v.oneCell'):
  ∃(ah:Nat) (ai:aj3),n+1<=ah/\ah*2<=ai.size/\ai.toList.take ((n+1)*2)=arr.toList.take (i*2)++news++(arr.toList.take (n*2)).drop (i*2)/\
  Calls prog 177 #[.slice (some ⟨b,0,none⟩) n c,.int .i64 i,.slice (some ⟨vb,0,none⟩) 1 vc] w λe w'=>
   e= .returned (.slice (some ⟨w.heap.size,0,none⟩) (n+1) ah)/\w'=w.drew.drew.alloc (.cells ai 167):=by
 have aD:(Tryz.prog.info? 167).map (λi=>(i.zero.map (·.cells.size),i.size,i.bytes))=some (some 2,2,32):=kR
 have ad:(Tryz.prog.info? 167).map (·.size)=some 2:=kR
 obtain⟨i0,z,aE,hz,aW,au,av⟩: ∃i0 z,Tryz.prog.info? 167=some i0/\i0.zero=some z/\z.cells.size=2/\i0.size=2/\i0.bytes=32:=by
  cases h:Tryz.prog.info? 167<;>simp_all
 have aw:news.length=2:=by rw[hn];simp;omega
 have aQ:n<=4398046511103:=om
 have aX: ¬((i:Int)=(n:Int)):=om
 have aY:(c:Int)<(n:Int)+1:=om
 have aZ:i<=n:=om
 have ba:IntKind.i64.wrap ((i:Int)+1)=(i:Int)+1:=by rw[IntKind.wrap_i64];omega
 have bb:(0:Int)<=(i:Int)+1:=om
 have bc:((i:Int)+1).toNat=i+1:=om
 have bd:(i:Int)<=(n:Int):=om
 have bf:(i:Int)<=(n:Int)+1:=om
 have bg:(i:Int)+1<=(n:Int)+1:=om
 have bh: ¬(c=i):=om
 have aF:b<w.heap.size:=(Br.1 hh).1
 have aG:vb<w.heap.size:=(Br.1 hv).1
 have ax:(n:Int)+1 - (i:Int)=((n+1 - i:Nat):Int):=om
 have ak:i+(n+1 - i)=n+1:=om
 obtain⟨D,hD⟩: ∃D,D=(arr.toList.take (n*2)).drop (i*2):=⟨_,rfl⟩
 have ay:D.length=(n - i)*2:=by rw[hD];simp;omega
 have hold:(Builtin.firstCells i0.size i (.slice (some ⟨b,0,none⟩) i c)).run prog w.drew= .ok (arr.toList.take (i*2)).toArray w.drew:=by
  rw[au]
  refine run_firstCells_some w.drew 2 i ⟨b,0,none⟩ i c (arr.toList.take (i*2)) (by simp;omega) (λj v hj=> ?_)
  rw[Addr.add_lit]
  show w.cell? _=_
  simp_all[Ap,World.cell?]
 have dq:grownCap w (n+1) c 167=grownCap w (i+(n+1 - i)) c 167:=by rw[ak]
 have ao:n+1<=grownCap w (n+1) c 167:=grownCap_ge w _ _ _
 have aj: ∀ty,∃aa:aj3,grownCap w (n+1) c 167*2<=aa.size/\aa.toList.take (i*2)=arr.toList.take (i*2)/\(Builtin.append_ #[164,3] ty #[.slice (some ⟨b,0,none⟩) i c,.int .i64 ((n:Int)+1 - (i:Int))]).run prog w=
   .ok (.slice (some ⟨w.heap.size,0,none⟩) (n+1) (grownCap w (n+1) c 167)) (w.drew.alloc (.cells aa 167)):=λty=>by
  have h:=Lib.run_append_grow_zeros w 164 3 ty 167 i0 _ .i64 .i64 underlying164 underlying3 aE hz (some ⟨b,0,none⟩) i c (arr.toList.take (i*2)) hold (n+1 - i) om (by rw[au];decide) om om (by rw[av];omega) (by rw[av,ak];exact growslice_fits an ar)
  rw[ak]at h
  rw[ax]
  refine⟨_, ?_, ?_,h⟩
  all_goals grind[size_zeroCells]
 have az:=ao
 obtain⟨G,hG⟩: ∃G,G=grownCap w (n+1) c 167:=⟨_,rfl⟩
 have aR:G<=9223372036854775807:=by
  grind[grownCap_le_maxLen,maxLen]
 rw[<-hG]at aj ao
 obtain⟨aa,aH,bj,aj⟩:=aj 164
 obtain⟨W1,af⟩: ∃W1,W1=w.drew.alloc (.cells aa 167):=⟨_,rfl⟩
 have a1:W1.heap[w.heap.size]? =some (.cells aa 167):=by rw[af];exact yL w.drew _
 have aI:W1.heap[b]? =some (.cells arr T fz):=by rw[af];exact(GI w.drew _ aF).trans hh
 have bk:W1.heap[vb]? =some (.cells ab Tv aq):=by rw[af];exact(GI w.drew _ aG).trans hv
 have a6: ∀A:aj3,rH A (0,0):=λA q _ hq=>by simp at hq
 have a7: ∀(W:World),W.heap=W1.heap-> ∀ty dc,(Builtin.copy_ #[164,164] ty #[.slice (some ⟨w.heap.size,i*2,none⟩) (n+1 - i) dc,.slice (some ⟨vb,0,none⟩) 1 vc]).run prog W= .ok (goInt (1:Nat)) (yC W w.heap.size (.cells (yD aa (i*2) news) 167 (0,0))):=λW hW ty dc=>
  Lb underlying164 ad (by simp only[Nat.min_def];split<;>omega) (by rw[aw]) (by simp_all[Ap,Addr.add_lit,World.cell?]) (by rw[hW];exact a1) (a6 _) (by rw[aw];omega) aC
 obtain⟨W2,al⟩: ∃W2,W2=yC W1 w.heap.size (.cells (yD aa (i*2) news) 167 (0,0)):=⟨_,rfl⟩
 have aJ:W2.heap[w.heap.size]? =some (.cells (yD aa (i*2) news) 167):=by rw[al];exact xH _ _ _ (Br.1 a1).1
 have bm:W2.heap[b]? =some (.cells arr T fz):=by rw[al,uu _ _ _ _ om];exact aI
 have a8: ∀(W:World),W.heap=W2.heap-> ∀ty dc sc,(Builtin.copy_ #[164,164] ty #[.slice (some ⟨w.heap.size,(i+1)*2,none⟩) (n - i) dc,.slice (some ⟨b,i*2,none⟩) (n - i) sc]).run prog W= .ok (goInt (n - i:Nat)) (yC W w.heap.size (.cells (yD (yD aa (i*2) news) ((i+1)*2) D) 167 (0,0))):=λW hW ty dc sc=>
  Lb underlying164 ad (by simp only[Nat.min_def];split<;>omega) ay (by simp_all[Ap,Addr.add_lit,World.cell?]) (by rw[hW];exact aJ) (a6 _) (by rw[yJ,ay];omega) (λv aA=>aB v (Bx (by rw[hD]at aA;exact aA)))
 refine⟨G,yD (yD aa (i*2) news) ((i+1)*2) D,ao,by rw[yJ,yJ];exact aH, ?_, ?_⟩
 .have bn:(yD (yD aa (i*2) news) ((i+1)*2) D).size=aa.size:=by rw[yJ,yJ]
  refine Bi λk=> ?_
  have hA:(arr.toList.take (i*2)).length=i*2:=by simp;omega
  by_cases hk:k<(n+1)*2
  .rw[Ap,aiv hk,Aq,wO _ _ _ _ (by rw[yJ];omega),wO _ _ _ _ om]
   grind
  grind
 rw[<-af]at aj
 have aS:yC W2.drew w.heap.size (.cells (yD (yD aa (i*2) news) ((i+1)*2) D) 167 (0,0))=w.drew.drew.alloc (.cells (yD (yD aa (i*2) news) ((i+1)*2) D) 167):=by
  rw[al,af]
  have e1:=T9 w.drew (.cells aa 167) (.cells (yD aa (i*2) news) 167 (0,0))
  have e0:w.drew.heap.size=w.heap.size:=rfl
  rw[e0]at e1
  rw[e1]
  exact T9 w.drew.drew _ _
 have bo: ¬(G=i):=om
 have aT: ¬(G=i+1):=om
 clear hold az dq ax ak hG hn hD
 subst al
 subst af
 have aK:((w.alloc (.cells aa 167)).drew).heap=(w.drew.alloc (.cells aa 167)).heap:=rfl
 have aL:((yC ((w.alloc (.cells aa 167)).drew) w.heap.size (.cells (yD aa (i*2) news) 167 (0,0))).drew).heap=(yC (w.drew.alloc (.cells aa 167)) w.heap.size (.cells (yD aa (i*2) news) 167 (0,0))).heap:=rfl
 go_enter func177,ntmps177
 go_wp2_with (first
  |(at_builtin;refine Lib.wpList_append_run _ rfl _ _ _ _ rfl _ _ rfl rfl _ _ aj ?_)
  |(at_builtin;refine ae _ rfl _ _ 164 164 rfl _ _ rfl rfl (a7 _ aK _ _) ?_))
 go_region_law (refine T8 rfl _ _ 164 164 rfl (.slice (some ⟨w.heap.size,(i+1)*2,none⟩) (n - i) (G - (i+1))) (.slice (some ⟨b,i*2,none⟩) (n - i) (c - i)) (by simp[Act.eval,Act.put]) (by simp[Act.eval,Act.put]) (a8 _ aL 3 (G - (i+1)) (c - i)) ?_)
 go_wp2
 go_ret
 simpa
end Go.Proofs.YtplackkccmeioaaGreat
namespace Go.Proofs.YtplackkccmeioaaGreat
open Go Go.Vx Go.Proofs.Tryz
set_option maxRecDepth 100000
set_option maxHeartbeats 1000000
theorem yD8 (w:World) (b:Nat) (o o':Go.Obj):yC (yC w b o) b o'=yC w b o':=by
 show{w with heap:=(w.heap.setIfInBounds b o).setIfInBounds b o'}={w with heap:=w.heap.setIfInBounds b o'}
 congr 1
 apply Array.ext_getElem?
 intro i
 rw[Array.getElem?_setIfInBounds,Array.getElem?_setIfInBounds]
 by_cases h:b=i
 .subst h;simp[Array.getElem?_setIfInBounds]
 .simp[h]
theorem xe6 (arr:aj3) (o s:Nat) (D news:aj1) (hn:news.length=s) (aa:o+s+D.length<=arr.size):yD (yD arr (o+s) D) o news=yD arr o (news++D):=by
 apply Array.ext_getElem?
 intro k
 rw[wO _ _ _ _ (by rw[yJ];omega),wO _ _ _ _ aa,wO _ _ _ _ (by rw[An];omega)]
 by_cases h1:o<=k/\k<o+news.length
 .rw[aiv h1,aiv (by rw[An];omega),Ao om]
 .rw[aiu h1]
  by_cases h2:o+s<=k/\k<o+s+D.length
  .rw[aiv h2,aiv (by rw[An];omega),Au om]
   congr 1;omega
  .rw[aiu h2,aiu (by rw[An];omega)]
theorem yA1 {s:Nat} {rows:List (List V)} (h:eI s rows) (i:Nat) (hi:i<=rows.length):(rows.take i).flatten=rows.flatten.take (i*s):=by
 have hl:(rows.take i).flatten.length=i*s:=by rw[yB (λr hr=>h r (B5 hr)),Az,C8 hi]
 have e:rows.flatten=(rows.take i).flatten++(rows.drop i).flatten:=by rw[<-Bu,B8]
 rw[e]
 rw[List.take_append_of_le_length (Cd hl.symm),Aa (Cd hl)]
theorem yA0 {s:Nat} {rows:List (List V)} (h:eI s rows) (i:Nat) (hi:i<=rows.length):(rows.drop i).flatten=rows.flatten.drop (i*s):=by
 have hl:(rows.take i).flatten.length=i*s:=by rw[yB (λr hr=>h r (B5 hr)),Az,C8 hi]
 have e:rows.flatten=(rows.take i).flatten++(rows.drop i).flatten:=by rw[<-Bu,B8]
 rw[e]
 rw[List.drop_append_of_le_length (Cd hl.symm),Bp (Cd hl),C7]
theorem xJ4 (I:St) (p q:Nat) (rows:List (List V)) (x:List V) (i:Nat) (hp:I[p]? =some (.cj rows 2)) (hq:I[q]? =some (.cj [x] 2)) (bg:p≠q) (hi:i<=rows.length) (a6:(rows.length+1)*32<=140737488355328):
  bN prog 177 [.cM p 2 rows.length 0 rows.length,.int .i64 i,.cM q 2 1 0 1] I
   (λr I'=>r= .cM p 2 (rows.length+1) 0 (rows.length+1)/\I'=I.set p (.cj (rows.take i++x::rows.drop i) 2)):=by
 intro w L J aP hm ha
 match aP,ha with
 | [v0,v1,v2],⟨h0,h1,h2,_⟩=>
 obtain⟨a,c0,rfl,⟨b7,b8⟩,bz,hc⟩:=h0
 obtain⟨ep,e,b9,hb⟩: ∃ep,I[p]? =some (.cj ep 2)/\rows.length<=ep.length/\(rows.length=ep.length-> ∃b c1,J[p]? =some (.slice b rows.length c1)/\c0=c1 - 0/\0<=c1/\(0<c1-> ∃k,b=some ⟨k,0,none⟩/\a=some ⟨k,0*2,none⟩)):=hc.resolve_left (by rw[hp];simp)
 rw[hp]at e;cases e
 obtain⟨b0,c1,dh,aq,_,ar⟩:=hb rfl
 rw[Nat.sub_zero]at aq
 subst aq
 obtain⟨a',cq,rfl,⟨bA,_⟩,_,bh⟩:=h2
 obtain⟨bj,e,_,bk⟩: ∃ep,I[q]? =some (.cj ep 2)/\1<=ep.length/\(1=ep.length-> ∃b c1,J[q]? =some (.slice b 1 c1)/\cq=c1 - 0/\0<=c1/\(0<c1-> ∃k,b=some ⟨k,0,none⟩/\a'=some ⟨k,0*2,none⟩)):=bh.resolve_left (by rw[hq];simp)
 rw[hq]at e;cases e
 obtain⟨bq,c1,aQ,aq,_,aC⟩:=bk rfl
 rw[Nat.sub_zero]at aq
 subst aq
 obtain⟨vb,rfl,rfl⟩:=aC om
 have aR:=hm.di p _ _ hp dh
 obtain⟨a2,b1,e1,au,aS,av,cQ⟩:=hm.di p _ _ hp dh
 cases e1
 obtain⟨a3,b2,e1,b3,bB,aT,aU⟩:=hm.di q _ _ hq aQ
 cases e1
 obtain⟨bC,ak,Tv,aV,e1,aD,bm,b4,bD,aE⟩:=aU om
 cases e1
 cases (show v1= .int .i64 (i:Int) from by cases h1;rfl)
 have bn:x.length=2:=aT x sm
 obtain⟨news,ad⟩: ∃news,news=ak.toList.take 2:=⟨_,rfl⟩
 have a7:2<=ak.size:=om
 have aF:news.length=2:=by rw[ad];simp;omega
 have ao:bP (df w L I J) x news:=by rw[ad];simpa using aE
 have aG: ∀v∈news,v.oneCell':=λv hv=>by
  obtain⟨j,hj⟩:=Ar.1 hv
  have aH:j<x.length:=by rw[ao.length];exact(A4.1 hj).1
  obtain⟨z,hz,r⟩:=ao.get j _ (A0 aH)
  rw[hj]at hz;cases hz;exact r.dG
 have aW:p<I.length:=(A4.1 hp).1
 have bE:=yB av
 have az:eI 2 (rows.take i++x::rows.drop i):=λr hr=>by
  rcases Af.1 hr with hr|hr
  .exact av r (B5 hr)
  .rcases Ae.1 hr with rfl|hr
   .exact bn
   .exact av r (Bx hr)
 have ab:(rows.take i++x::rows.drop i).length=rows.length+1:=by simp;omega
 have aw:(rows.take i++x::rows.drop i).flatten=rows.flatten.take (i*2)++(x++rows.flatten.drop (i*2)):=by
  rw[Bu,Cz,yA1 av i hi,yA0 av i hi]
 have a8:(rows.take i++x::rows.drop i).flatten=putCells rows.flatten (i*2) (x++rows.flatten.drop (i*2)):=by
  unfold putCells
  rw[aw,Bp (l:=rows.flatten) (i:=i*2+_) (by simp only[An,D6];omega),Ay]
 have aX: ∀k0,b0=some ⟨k0,0,none⟩->0<c0->vb≠k0:=λk0 e hc e2=>by
  subst e;subst e2
  exact hm.apart p q _ _ _ _ vb bg hp dh hq aQ (by simp[dd,hc]) (by simp[dd];omega)
 have aA:Src prog 2 164 (.slice (some ⟨vb,0*2,none⟩) 1 cq) 1 news w:=Src.ofSlice w underlying164 ⟨vb,0*2,none⟩ 1 cq news (by rw[aF]) (λj u hj=>by
  have bo:j<2:=by rw[<-aF];exact(A4.1 hj).1
  rw[ad,Ap,aiv bo,Aq]at hj
  rw[Addr.add_lit];simpa[World.cell?,aD]using hj) aG
 have done: ∀(w':World) (k1 c1:Nat),rows.length+1<=c1->Mem (entry w L I J) w' L (I.set p (.cj (rows.take i++x::rows.drop i) 2)) (J.set p (.slice (some ⟨k1,0,none⟩) (rows.length+1) c1))->
   ∃v r L' I' J',Ending.returned (.slice (some ⟨k1,0,none⟩) (rows.length+1) c1)= .returned v/\(r= .cM p 2 (rows.length+1) 0 (rows.length+1)/\I'=I.set p (.cj (rows.take i++x::rows.drop i) 2))/\I.length<=I'.length/\Mem (entry w L I J) w' L' I' J'/\dD w' L' I' J' r v:=by
  intro w' k1 c1 bp aa
  refine⟨_,_,L,_,_,rfl,⟨rfl,rfl⟩,sm,aa, ?_⟩
  refine⟨_,c1,rfl,⟨bp,om⟩,λ_=>⟨_,_,rfl⟩,.inr ⟨_,Bj aW,by rw[ab];exact A7 _,λ_=>⟨_,c1,Bj (by rw[hm.len];exact aW),rfl,A3 _,λ_=>⟨k1,rfl,by rw[Cv]⟩⟩⟩⟩
 by_cases aY:i<rows.length
 .have ae:0<c0:=om
  obtain⟨k0,rfl,rfl⟩:=ar ae
  obtain⟨br,arr,T,fz,e1,hh,hf,a1,hL,al⟩:=cQ ae
  cases e1
  have bF:rows.length*2<=c0*2:=Ak _ au
  obtain⟨D,hD⟩: ∃D,D=(arr.toList.take (rows.length*2)).drop (i*2):=⟨_,rfl⟩
  have bG:D.length=(rows.length - i)*2:=by rw[hD];simp;omega
  have aZ:bP (df w L I J) (rows.flatten.drop (i*2)) D:=by rw[hD];exact al.drop _
  have bt:D=(arr.toList.drop (i*2)).take ((rows.length - i)*2):=by rw[hD,List.drop_take];congr 1;omega
  have aB: ∀v∈arr.toList.take (rows.length*2),v.oneCell':=λv hv=>by
   obtain⟨j,hj⟩:=Ar.1 hv
   have aH:j<rows.flatten.length:=by rw[al.length];exact(A4.1 hj).1
   obtain⟨z,hz,r⟩:=al.get j _ (A0 aH)
   rw[hj]at hz;cases hz;exact r.dG
  by_cases af:rows.length+1<=c0
  .have hd:=hm.drew
   obtain⟨an,T',bH,ba,_,_,aa,hle,ax⟩:=hd.1.gi (off:=i*2) (vs:=x++rows.flatten.drop (i*2)) (xs:=news++D) (cC:=rows.take i++x::rows.drop i) hp dh ae
    ((ao.append aZ).imp λ_ _=>df.mono hd.2 (Ext.refl _ _)) om az a8 om om
   rw[show w.drew.heap[k0]? =w.heap[k0]? from rfl,hh]at ba
   cases ba
   refine(xu3 k0 vb c0 cq rows.length i arr ak T Tv fz aV D news w aY af om (aX k0 rfl ae) hh hf.1 a1 aD bm a7 bt ad (λv hv=>aB v (Bx (by rw[<-hD];exact hv))) aG).mono ?_
   rintro e w' ⟨rfl,rfl⟩
   rw[yD8,show(i+1)*2=i*2+2 by omega,xe6 _ _ _ _ _ aF om]
   rw[ab]at aa
   exact done _ k0 c0 af aa
  .obtain⟨ai,an,aI,ay,aJ,aj⟩:=xJ2 k0 vb c0 cq rows.length i arr ak T Tv fz aV news w aY om au a6 (aX k0 rfl ae) hh a1 aD a7 ad aB aG
   refine aj.mono ?_
   rintro e w' ⟨rfl,rfl⟩
   have hd:=hm.drew
   have bb:=hd.1.drew
   have ah:bP (df w.drew.drew L I J) (rows.take i++x::rows.drop i).flatten (an.toList.take ((rows.take i++x::rows.drop i).length*2)):=by
    rw[ab,aJ,aw,D0]
    refine((?_:bP (df w L I J) _ _).append (ao.append aZ|>λh=>by rw[hD]at h;exact h)).imp λ_ _=>df.mono (hd.2.trans bb.2) (Ext.refl _ _)
    have:=al.take (i*2)
    rwa [aiU,C8 om]at this
   obtain⟨aa,hle,ax⟩:=bb.1.pM (cap:=ai) (T:=167) hp dh aS az ah om om ay
   rw[ab]at aa
   exact done _ _ ai aI aa
 .have bu:i=rows.length:=om
  subst bu
  have bc:rows.flatten.drop (rows.length*2)= []:=Bp om
  by_cases af:rows.length+1<=c0
  .have ae:0<c0:=om
   obtain⟨k0,rfl,rfl⟩:=ar ae
   obtain⟨arr,T,fz,hh,hf,b5,aa,hle,ax⟩:=hm.gi (off:=rows.length*2) (vs:=x++rows.flatten.drop (rows.length*2)) (xs:=news) (cC:=rows.take rows.length++x::rows.drop rows.length) hp dh ae
    (by rw[bc,Ay];exact ao) (A7 _) az a8 om om
   obtain⟨br,b6,T2,bI,e1,bd,_,a1,_,_⟩:=cQ ae
   cases e1
   rw[hh]at bd;cases bd
   refine(yB1 k0 c0 rows.length arr T fz _ news w af om hh hf a1 _ _ rfl aA).mono ?_
   rintro e w' ⟨rfl,rfl⟩
   rw[ab]at aa
   exact done _ k0 c0 af aa
  .obtain⟨fb,hold,bf,aK⟩:=Mc (P:=prog) underlying164 aR
   have aL:(Builtin.firstCells 2 rows.length (.slice a rows.length c0)).run prog w.drew= .ok fb.toArray w.drew:=by
    by_cases ae:0<c0
    .obtain⟨k0,rfl,rfl⟩:=ar ae
     exact hold
    .have bw:rows= []:=As om
     subst bw
     have bx:fb= []:=As (by rw[bf];simp)
     subst bx
     cases a with
     |none=>exact(Src.ofNil (P:=prog) (size:=2) w underlying164 0).cellsD
     |some a0=>exact(Src.ofSlice (P:=prog) (size:=2) w underlying164 a0 0 0 [] sm (λj u h=>by simp at h) (λ_ h=>by cases h)).cellsD
   obtain⟨ai,an,aI,ay,aJ,aj⟩:=yB0 a c0 rows.length (.slice (some ⟨vb,0*2,none⟩) 1 cq) fb news w om au a6 aL bf _ _ rfl aA
   refine aj.mono ?_
   rintro e w' ⟨rfl,rfl⟩
   have hd:=hm.drew
   have ah:bP (df w.drew L I J) (rows.take rows.length++x::rows.drop rows.length).flatten (an.toList.take ((rows.take rows.length++x::rows.drop rows.length).length*2)):=by
    rw[ab,aJ,aw,bc,Ay,Aa om]
    exact(aK.append ao).imp λ_ _=>df.mono hd.2 (Ext.refl _ _)
   obtain⟨aa,hle,ax⟩:=hd.1.pM (cap:=ai) (T:=167) hp dh aS az ah om om ay
   rw[ab]at aa
   exact done _ _ ai aI aa
end Go.Proofs.YtplackkccmeioaaGreat
namespace Go.Proofs.YtplackkccmeioaaGreat
open Go Go.Vx R Go.Proofs.Tryz
set_option maxRecDepth 100000
def e9 (x:Int×List ca×Nat):List V:= [.int .i64 x.1,.sl (.app (x.2.2+2)) (x.2.1.map ca.row)]
def gS (b:List V) (rows:List (List V)) (A:aj0):St:= .box b:: .cj rows 2::A.map (λn=>Ob.app n 2)
def iN (N:List (Int×List ca×Nat)) (A:aj0):St:=gS [.cM 1 2 N.length 0 N.length] (N.map e9) A
structure k8 (N:List (Int×List ca×Nat)) (A:aj0):Prop where
 app: ∀x∈N,A[x.2.2]? =some x.2.1.length
 ids:(N.map (·.2.2)).Nodup
 sk:(N.map (·.1)).Pairwise (· < ·)
def eW (N:List (Int×List ca×Nat)):List (Int×List ca):=N.map λx=>(x.1,x.2.1)
def jd (dy:Int) (x:ca) (uJ:List (Int×List ca)):List (Int×List ca):=
 if(uJ.map (·.1)).contains dy=true then uJ.modify (jT (uJ.map (·.1)) dy) (λy=>(y.1,if y.2.contains x=true then y.2 else y.2++ [x]))
 else uJ.take (jT (uJ.map (·.1)) dy)++(dy,[x])::uJ.drop (jT (uJ.map (·.1)) dy)
def lZ (dy:Int) (x:ca) (uJ:List (Int×List ca)):List (Int×List ca):=if(Op.bytesLess x.hi x.lo||x.hi==x.lo)=true then uJ else jd dy x uJ
section
variable {b:List V} {rows:List (List V)} {A:aj0} {τ:St}
theorem yK:(gS b rows A).length=A.length+2:=by simp[gS]
theorem OG:(gS b rows A++τ)[1]? =some (.cj rows 2):=rfl
theorem Ij {h:0<(gS b rows A).length}:(gS b rows A)[0]'h= .box b:=rfl
theorem Gj {h:1<(gS b rows A).length}:(gS b rows A)[1]'h= .cj rows 2:=rfl
theorem xY0:(gS b rows A++τ)[A.length+3]? =τ[1]? :=by simp[Au,yK]
theorem xY1:(gS b rows A++τ)[A.length+4]? =τ[2]? :=by simp[Au,yK]
theorem Ua {i n:Nat} (h:A[i]? =some n):(gS b rows A++τ)[i+2]? =some (.app n 2):=by
 have hi:=(A4.1 h).1
 rw[Ao (by grind[yK])]
 show(A.map (λn=>Ob.app n 2))[i]? =_
 grind
theorem xY2 {r':List (List V)}:(gS b rows A++τ).set 1 (.cj r' 2)=gS b r' A++τ:=rfl
theorem xY3 {i m:Nat} (h:i<A.length):(gS b rows A++τ).set (i+2) (.app m 2)=gS b rows (A.set i m)++τ:=by
 rw[Dr _ _ (by grind[yK])]
 show Ob.box b:: .cj rows 2::(A.map (λn=>Ob.app n 2)).set i (.app m 2)++τ=_
 rw[<-Cx];rfl
end
variable {k:Nat}{N:List (Int×List ca×Nat)}{A:aj0}{dy:Int}{x:ca}{sp:List ca}
theorem Ub (N:List (Int×List ca×Nat)):wX (N.map e9) 0 N.length=(eW N).map ph:=by
 unfold wX eW
 rw[Bh,Aa sm,Bg,Bg]
 rfl
theorem Uc (N:List (Int×List ca×Nat)):xI (N.map e9)=true:=by grind[xI,e9,pN]
theorem Ud (v:Int): ∀l:aj2,l.Pairwise (· < ·)-> ∃i,i<=l.length/\(∀k (h:k<l.length),k<i->l[k]<v)/\(∀k (h:k<l.length),i<=k->v<=l[k])
 | [],_=>sm
 |a::l,hp=>by
  obtain⟨i,h0,h1,h2⟩:=Ud v l (by grind)
  by_cases ha:a<v
  .refine⟨i+1,by grind,(by grind),(by grind)⟩
   all_goals grind
  .refine⟨0,om,om,λk h hk=> ?_⟩
   match k with
   |0=>grind
   |k+1=>
    have aa:k<l.length:=by grind
    have:=(Cg.1 hp).1 l[k] (A8 aa)
    grind
theorem Ue {l:aj2} {v:Int} (hp:l.Pairwise (· < ·)) (hk:jT l v=k):k<=l.length/\(∀j (h:j<l.length),j<k->l[j]<v)/\(∀j (h:j<l.length),k<=j->v<=l[j])/\(if h:k<l.length then l[k]==v else false)=l.contains v:=by
 obtain⟨i,h0,h1,h2⟩:=Ud v l hp
 have:=T0 l v i h0 h1 h2
 grind[T3]
theorem Uf {uJ:List (Int×List ca)} (hk:jT (uJ.map (·.1)) dy=k) (aa:(uJ.map (·.1)).contains dy) (hU:uJ[k]? =some (dy,sp)) (hx:sp.contains x):jd dy x uJ=uJ:=by
 unfold jd
 rw[aiv aa,hk]
 refine Bi λj=> ?_
 grind
theorem Ug {uJ:List (Int×List ca)} (hk:jT (uJ.map (·.1)) dy=k) (aa:(uJ.map (·.1)).contains dy) (hU:uJ[k]? =some (dy,sp)) (hx:sp.contains x=false):jd dy x uJ=uJ.set k (dy,sp++ [x]):=by
 unfold jd
 rw[aiv aa,hk]
 refine Bi λj=> ?_
 grind
theorem Uh {y:Int×List ca×Nat} (h:N[k]? =some y):(eW N)[k]? =some (y.1,y.2.1):=by
 unfold eW;grind
theorem Ui {U J:Type} (f:U->J) {l:List U} {a b:U} (h:l[k]? =some a) (hf:f b=f a):(l.set k b).map f=l.map f:=by
 refine Bi λj=> ?_
 grind
theorem k8.fo (h:k8 N A) {r:Int} {id:Nat} (hk:N[k]? =some (r,sp,id)) (x:ca):k8 (N.set k (r,sp++ [x],id)) (A.set id (sp.length+1)):=by
 have hid:=h.app _ (Bk hk)
 have ab:=(A4.1 hid).1
 refine⟨λy hy=> ?_, ?_, ?_⟩
 .obtain⟨j,hj⟩:=Ar.1 hy
  rw[List.getElem?_set]at hj
  by_cases q:k=j
  .grind
  .rw[aiu q]at hj
   have aa:id≠y.2.2:=λe=>by
    have hi:=h.ids
    have h1:(N.map (·.2.2))[k]? =some id:=by grind
    have h2:(N.map (·.2.2))[j]? =some y.2.2:=by grind
    grind[List.getElem_inj]
   rw[D8 aa]
   exact h.app y (by grind)
 .rw[Ui (λy:Int×List ca×Nat=>y.2.2) (b:=(r,sp++ [x],id)) hk rfl];exact h.ids
 .rw[Ui (λy:Int×List ca×Nat=>y.1) (b:=(r,sp++ [x],id)) hk rfl];exact h.sk
theorem Gk (N:List (Int×List ca×Nat)) (A:aj0) (h:k8 N A):(gS [.cM 1 2 N.length 0 N.length] (N.map e9) A).all (bS (A.length+2))=true:=by
 have hi: ∀x∈N,x.2.2<A.length:=λx hx=>(A4.1 (h.app x hx)).1
 simp_all[gS,bS,cN,cL,e9];omega
theorem k8.new (h:k8 N A) (x:ca) (_hk:k<=N.length)
  (h1: ∀j (h:j<((eW N).map (·.1)).length),j<k->((eW N).map (·.1))[j]<dy) (h2: ∀j (h:j<((eW N).map (·.1)).length),k<=j->dy<=((eW N).map (·.1))[j]) (h3:((eW N).map (·.1)).contains dy=false):
  k8 (N.take k++(dy,[x],A.length)::N.drop k) (A++ [1]):=by
 have hi: ∀y∈N,y.2.2<A.length:=λy hy=>(A4.1 (h.app y hy)).1
 have hu:(eW N).map (·.1)=N.map (·.1):=by unfold eW;simp
 simp only[hu]at h1 h2 h3
 refine⟨λy hy=> ?_, ?_, ?_⟩
 .rcases Af.1 hy with hy|hy
  .have hm:=B5 hy
   rw[Ao (hi y hm)];exact h.app y hm
  .rcases Ae.1 hy with rfl|hy
   .simp
   .have hm:=Bx hy
    rw[Ao (hi y hm)];exact h.app y hm
 .have hp:(N.take k++(dy,[x],A.length)::N.drop k).Perm ((dy,[x],A.length)::N):=by
   grind[B8]
  have:=(hp.map (λy:Int×List ca×Nat=>y.2.2)).nodup_iff
  rw[this,Aj,C1]
  refine⟨λhm=> ?_,h.ids⟩
  grind
 .have aa:=h.sk
  rw[C9,Aj,List.map_take,aiX]
  rw[<-B8 k (N.map (·.1))]at aa
  obtain⟨p1,p2,p3⟩:=Bs.1 aa
  refine Bs.2 ⟨p1,Cg.2 ⟨λb hb=> ?_,p2⟩,λa ha b hb=> ?_⟩
  .obtain⟨j,hj,e⟩:=Ci.1 hb
   grind
  .have ab:a<dy:=by
    obtain⟨j,hj,e⟩:=Ci.1 ha
    grind
   grind
theorem xL5 (h:k8 N A) {M:List (Int×List ca)} (hk:k<=N.length) (hM:(eW N).take k++(dy,[x])::(eW N).drop k=M)
  (h1: ∀j (h:j<((eW N).map (·.1)).length),j<k->((eW N).map (·.1))[j]<dy) (h2: ∀j (h:j<((eW N).map (·.1)).length),k<=j->dy<=((eW N).map (·.1))[j]) (h3:((eW N).map (·.1)).contains dy=false) (o1 o2:Ob):
  cx (some (.cy [])) (A.length+2) (λr s=>r=V.cy []/\ ∃N' A',s=gS [V.cM 1 2 N'.length 0 N'.length] (List.map e9 N') A'/\k8 N' A'/\eW N'=M)
   (gS [.cM 1 2 (N.length+1) 0 (N.length+1)] ((N.take k).map e9++ [.int .i64 dy,.sl (.app (A.length+4)) [x.row]]::(N.drop k).map e9) A++ [o1,o2,.app 1 2]):=by
 have hi: ∀y∈N,y.2.2<A.length:=λy hy=>(A4.1 (h.app y hy)).1
 have cQ:=h.new x hk h1 h2 h3
 have hlen:(N.take k++(dy,[x],A.length)::N.drop k).length=N.length+1:=by simp;omega
 obtain⟨pick,hp⟩: ∃pick,pick=List.range (A.length+2)++ [A.length+4]:=⟨_,rfl⟩
 have aj:pick.length=A.length+3:=by rw[hp];simp
 have ab: ∀i,i<A.length+2->pick[i]? =some i:=λi hi=>by
  rw[hp,Ao (sU hi),Dc hi]
 have ae:pick[A.length+2]? =some (A.length+4):=by
  rw[hp,Au sm];simp
 have af: ∀(M i:Nat),i<A.length+2->cK pick M i=i:=λM i hi=>by
  unfold cK
  grind
 have ak: ∀M:Nat,cK pick M (A.length+2)=A.length+4:=λM=>by
  unfold cK
  rw[dif_pos om]
  have:=ae
  rw[A0 om]at this
  exact aiM this
 have ah: ∀(M:Nat) (y:Int×List ca×Nat),y∈N->(e9 y).map (dj (cK pick M))=e9 y:=λM y hy=>by
  have:=hi y hy
  simp[e9,dj,du,af M (y.2.2+2) om]
 refine Nf pick ?_ ab (s:=iN (N.take k++(dy,[x],A.length)::N.drop k) (A++ [1])) (by unfold iN;rw[yK,aj];simp) (λi j o aa ho=> ?_) (zC rfl) ⟨rfl,_,_,rfl,cQ, ?_⟩
 .rw[hp]
  refine Co.2 ⟨Be,sm,λa ha b hb=> ?_⟩
  simp at ha hb
  omega
 .unfold iN at ho
  match i with
  |0=>
   rw[ab 0 om]at aa;cases aa
   cases ho
   show some (Ob.box _)=_
   simp[yA,dj,du,af _ 1 om]
   omega
  |1=>
   rw[ab 1 om]at aa;cases aa
   cases ho
   show some (Ob.cj _ 2)=_
   simp only[yA,C9,Aj,Bg]
   congr 2
   congr 1
   .refine B9 λy hy=> ?_
    exact(ah _ y (B5 hy)).symm
   .congr 1
    .simp[e9,dj,du,ak]
    grind[B9]
  |i+2=>
   have ai:((A++ [1]).map λn=>Ob.app n 2)[i]? =some o:=ho
   rw[B6,Av]at ai
   obtain⟨n,hn,rfl⟩:=ai
   have al:=(A4.1 hn).1
   by_cases ad:i<A.length
   .rw[ab (i+2) om]at aa;cases aa
    rw[Ao ad]at hn
    exact Ua hn
   .have ad:i=A.length:=by simp at al;omega
    subst ad
    rw[ae]at aa;cases aa
    simp at hn
    subst hn
    rw[xY1];rfl
 grind[eW,List.map_take,aiX]
theorem OH (N:List (Int×List ca×Nat)) (A:aj0) (h:k8 N A) (dy:Int) (x:ca) (hN:N.length<=1000) (hS: ∀y∈N,y.2.1.length<=1000000):
  bN prog 115 [.ptr 0 0,.int .i64 dy,.agg x.row] (iN N A) (λr s=>r= .cy []/\ ∃N' A',s=iN N' A'/\k8 N' A'/\eW N'=lZ dy x (eW N)):=by
 have ao:=ws0 (eW N) dy (by grind[eW]) (by unfold eW;rw[Bg];exact h.sk)
 have aq:jT ((eW N).map (·.1)) dy<=N.length:=by
  grind[jT,eW]
 obtain⟨k,hk⟩:=eX (jT ((eW N).map (·.1)) dy)
 obtain⟨there,ah⟩:=eX (((eW N).map (·.1)).contains dy)
 rw[hk,ah]at ao
 rw[hk]at aq
 have ar:((eW N).map (·.1)).Pairwise (· < ·):=by unfold eW;rw[Bg];exact h.sk
 obtain⟨_,au,av,aw⟩:=Ue ar hk
 rw[ah]at aw
 generalize hM:lZ dy x (eW N)=M
 unfold lZ at hM
 refine bN.iv (A.length+2) func115 ntmps115 results115 rfl (by grind[iN,gS]) sm λc hc hb=> ?_
 refine uH 32 dC ?_
 refine zA ?_
 unfold iN
 rw[<-Ay (gS _ _ _)]
 simp[go_sem,yK]
 refine(A6 (Op.bytesLess x.hi x.lo||x.hi==x.lo)).elim (λq=> ?_) (λq=> ?_)
 .simp only[q,aiE]at hM
  simp[go_sem,q]
  refine yZ (A.length+2) (s:=gS [.cM 1 2 N.length 0 N.length] (N.map e9) A) (by grind[yK]) yK (Gk _ _ h) om (zC rfl) (by grind)
 simp only[q]at hM
 simp[go_sem,q,yK,Ij]
 refine Q5 ao cB (.step 1 2 (N.map e9) OG (Uc N) (.refl _ _)) ?_ rfl ?_
 .simp only[Ay,Aj,Bq,gk,gj,gr,fX,Ag,Ad,A7,and_self,aiE,Ub]
  exact⟨zK,zC rfl,zC rfl,tV⟩
 simp[go_sem]
 rw[aiu dC]at hM
 refine(A6 there).elim (λq2=> ?_) (λq2=> ?_)
 .have ad:k<N.length:=by
   grind[eW]
  obtain⟨⟨r0,sp,id⟩,ae⟩: ∃y,N[k]=y:=⟨_,rfl⟩
  have a7:r0=dy:=by
   simp_all[eW]
  subst a7
  have af:(r0,sp,id)∈N:=(by grind)
  have hid:A[id]? =some sp.length:=h.app _ af
  have a8:sp.length<=1000000:=hS _ af
  have ax:=(A4.1 hid).1
  have ai:=T7 sp x (by unfold maxLen;omega)
  simp[go_sem,q2]
  refine yE [(9,0)] (A.length+3) (by simp[yK]) (by rfl) kR ?_
  simp[go_sem,yK,Ij,Gj,ad,ae,e9]
  refine pD ai ?_
  simp[go_sem]
  refine(A6 (sp.contains x)).elim (λq3=> ?_) (λq3=> ?_)
  .have aj:=(Uf hk (by grind) (by grind[Uh]) q3).symm.trans hM
   simp only[List.contains_eq_mem]at q3
   simp[go_sem,q3]
   exact yZ (A.length+2) (s:=gS [.cM 1 2 N.length 0 N.length] (N.map e9) A) (by rw[<-yK (b:= [.cM 1 2 N.length 0 N.length]) (rows:=N.map e9),List.take_left]) yK (Gk _ _ h) om (zC rfl) (by grind)
  .have aj:=(Ug hk (ah.trans q2) (Uh (by rw[A0 ad,ae])) q3).symm.trans hM
   simp only[List.contains_eq_mem]at q3
   simp[go_sem,q3]
   refine ny [(13,2),(15,3),(18,4)] 2 (by simp[yK]) (by rfl) kR ?_
   simp[go_sem,yK,Ij,Gj,ad,ae,e9,Ua hid,xY3 ax]
   refine zJ ⟨om,zY rfl⟩ ?_
   simp[go_sem,yK,Gj,ad,ae,e9]
   have ay:N[k]? =some (r0,sp,id):=by grind
   have az:=h.fo ay x
   refine yZ (A.length+2) (s:=iN (N.set k (r0,sp++ [x],id)) (A.set id (sp.length+1))) ?_ (by grind[iN,yK]) (by grind[Gk,iN]) om (zC rfl) ⟨rfl,_,_,rfl,az, ?_⟩
   all_goals simp_all[iN,gS,e9,ca.row,eW]
 .have aj:(eW N).take k++(dy,[x])::(eW N).drop k=M:=by rw[<-hM];unfold jd;grind
  simp[go_sem,q2,yK,Ij]
  have aa:=xJ4 (gS [.cM 1 2 N.length 0 N.length] (N.map e9) A++ [.box [.str x.lo,.str x.hi],.cj [[.int .i64 dy,.sl .full []]] 2]) 1 (A.length+2+1) (N.map e9) [.int .i64 dy,.sl .full []] k OG xY0 om (by grind) (by grind)
  simp only[Ag,xY2]at aa
  obtain⟨R,hR⟩: ∃R,List.take k (List.map e9 N)++ [V.int IntKind.i64 dy,V.sl Tag.full []]::List.drop k (List.map e9 N)=R:=⟨_,rfl⟩
  rw[hR]at aa
  have a1:k<=(N.map e9).length:=by grind
  have ak:R.length=N.length+1:=by grind
  have aA:R[k]? =some [.int .i64 dy,.sl .full []]:=by
   rw[<-hR,Au (by grind),Az,C8 a1,Nat.sub_self];rfl
  have al:k<N.length+1:=om
  have aB:k<R.length:=om
  have ab:R[k]= [.int .i64 dy,.sl .full []]:=by grind
  have ai:=T7 [] x sm
  have an:(k:Int)<N.length+1:=om
  refine FR aa cB ?_
  rintro r s ⟨rfl,rfl⟩ _
  simp[go_sem,yK,Ij]
  refine yE [(9,0)] (A.length+4) (by simp[yK]) (by rfl) kR ?_
  simp[go_sem,yK]
  refine zJ an ?_
  simp[go_sem,yK,Gj,al,ab,ak]
  refine pD ai ?_
  simp[go_sem]
  refine ny [(13,2),(15,3),(18,4)] 2 sm (by rfl) kR ?_
  simp[go_sem,yK]
  refine zJ an ?_
  simp[go_sem,yK,Gj,al,ab,ak]
  refine zJ ⟨λ_ q=>by grind,zY rfl⟩ ?_
  simp[go_sem]
  refine zJ an ?_
  simp[go_sem,yK,Gj,al,ab,ak]
  have a6:R.set k [.int .i64 dy,.sl (.app (A.length+2+2)) [[.str x.lo,.str x.hi]]]=(N.take k).map e9++ [.int .i64 dy,.sl (.app (A.length+4)) [x.row]]::(N.drop k).map e9:=by
   rw[<-hR,List.set_append_right _ _ (by grind),Az,C8 a1,Nat.sub_self,Cf,List.map_take,aiX]
   rfl
  rw[a6]
  exact xL5 h om aj au av (by grind) _ _
theorem xT2 (id off s:Nat) (cells:List V) {P:Program} {c:Ctx} {nt:Nat} {e:Env} {I:St} {Q:QT} {y:Code} (h0:0<s) (cJ:I[id]? =some (.box cells)) (hc:cells[off]? =some (.sl .full []))
  (hy:gE P c nt y Q fx fx e (I.set id (.box (cells.set off (.cM I.length s 0 0 0)))++ [.cj [] s])):gE P c nt y Q fx fx e I:=by
 intro a w L J hs
 obtain⟨x,h1,h2⟩:=QL hs.mem h0 cJ hc
 exact hy a w L (J++ [x]) ⟨h1,hs.size,hs.defs,λk=>(hs.env k).mono (Le.refl _ _) h2⟩
abbrev US:=List (Int×List ca)
def Bd (n:Nat) (uJ:US):Prop:=uJ.length<=n/\ ∀y∈uJ,y.2.length<=n
theorem Bd.ee {n:Nat} {uJ:US} (h:Bd n uJ) (r:Int) (x:ca):Bd (n+1) (lZ r x uJ):=by
 have up:Bd (n+1) uJ:=⟨by have:=h.1;omega,λy hy=>by have:=h.2 y hy;omega⟩
 unfold lZ
 split
 .exact up
 .unfold jd
  split
  .refine⟨by rw[List.length_modify];exact up.1,λy hy=> ?_⟩
   obtain⟨j,hj⟩:=Ar.1 hy
   rw[List.getElem?_modify]at hj
   split at hj
   .rw[Option.map_eq_map,Av]at hj
    obtain⟨z,hz,rfl⟩:=hj
    have aa:=h.2 z (by grind)
    grind
   .simp at hj
    exact up.2 y (by grind)
  .refine⟨by have:=h.1;grind,λy hy=> ?_⟩
   rcases Af.1 hy with hy|hy
   .exact up.2 y (by grind)
   .rcases Ae.1 hy with rfl|hy
    .simp
    .exact up.2 y (by grind)
def Gl (t:Int) (b:aiZ×aiZ) (uJ:US) (rg:Int):US:=lZ (xF t rg).1 ⟨b.1,b.2⟩ uJ
def xK (name:aiZ):Int:=iG (λT:bL=>T.name==name) bO 0
def rb (dZ:Int->List bJ->US->US) (uJ:US) (st:bW):US:=
 if xK st.table<0 then uJ else if st.kind=2 then st.rows.foldl (λuJ r=>dZ (xK st.table) r uJ) uJ
 else(wA (xK st.table) st).foldl (Gl (xK st.table) (nR bO (xK st.table) st)) uJ
def kU (st:bW):Nat:=if st.kind=2 then st.rows.length else 2
theorem OI: ∀(n:Nat) (q l:List bJ),(tI n q l).length<=l.length+n
 |0,_,_=>A7 _
 |n+1,[],l=>by grind[tI]
 |n+1,e::q,l=>by
  rw[tI]
  split
  .have:=OI n (q++e.args) l;omega
  .have:=OI n q (l++ [e]);simp at this;omega
theorem Lc (st:bW):(nK st).length<=4096:=by
 grind[nK,OI]
theorem Ld (name:aiZ):xK name= -1\/xK name=0\/xK name=1\/xK name=2:=by
 have h:=Et (λT:bL=>T.name==name) bO 0
 have hl:bO.length=3:=rfl
 grind[xK]
theorem Uj: ∀(l:List bJ) (rs:aj2) (r:Int),r∈jc l rs->r∈rs
 | [],_,_,h=>h
 |e::l,rs,r,h=>by
  have h1:jc (e::l) rs=jc l (match oy e [82]with|none=>rs|some (s,v)=>if s= [61]/\v.kind=2 then kS v.n rs else rs):=rfl
  rw[h1]at h
  have:=Uj l _ r h
  split at this
  .exact this
  .split at this
   .exact(Bo.1 this).1
   .exact this
theorem yD1 {t:Int} {st:bW} {r:Int} (h:r∈wA t st):r= -1\/r=0\/r=1:=by
 unfold wA at h
 split at h
 .have:=Uj _ _ _ h;grind
 grind
theorem Uk (t:Int) (st:bW):(wA t st).length<=2:=by
 grind[wA,Oz]
def Lf (st:bW):Prop:= ∀e∈nK st,∀name s v,oy e name=some (s,v)->v.ok
theorem ws6 {b:List V} {rows:List (List V)} {τ:St} {h:0<(gS b rows A++τ).length}:(gS b rows A++τ)[0]'h= .box b:=rfl
theorem OJ {b:List V} {rows:List (List V)} {x:Ob} {τ:St}:(gS b rows A++x::τ).take (A.length+3)=gS b rows A++ [x]:=by
 have e:(gS b rows A++ [x]).length=A.length+3:=by rw[An,yK];rfl
 grind
theorem tT (N:List (Int×List ca×Nat)) (A:aj0):(iN N A).length=A.length+2:=yK
theorem vi (h:k8 N A):(iN N A).all (bS (iN N A).length)=true:=by rw[tT];exact Gk N A h
theorem Ik (h:k8 N A):(iN N A++ [.box [.sl .ro xJ,.sl .ro (bO.map bL.row)]]:St).all (bS (A.length+3))=true:=by
 rw[E7,Ab]
 refine⟨?_,by rfl⟩
 have:=Gk N A h
 rw[Am]at this⊢
 exact λo ho=>J5 om (this o ho)
theorem Ul:([.box [.sl .ro xJ,.sl .ro (bO.map bL.row)]]:St).all (bS 0)=true:=by rfl
def OK (dZ:Int->List bJ->US->US) (st:bW):Prop:= ∀r∈st.rows,∀N A,k8 N A->Bd 1000 (eW N)->
 bN prog 111 [.ptr 0 0,dJ bO,.int .i64 (xK st.table),.sl .ro (r.map bJ.row)] (iN N A) (λx s=>x= .cy []/\ ∃N' A',s=iN N' A'/\k8 N' A'/\eW N'=dZ (xK st.table) r (eW N))
theorem Um {n:Nat} (h:Bd n (eW N)):N.length<=n/\ ∀y∈N,y.2.1.length<=n:=by
 unfold Bd eW at h
 refine⟨by grind,λy hy=> ?_⟩
 have:=h.2 (y.1,y.2.1) (by grind)
 omega
theorem xV4 (dZ:Int->List bJ->US->US) (aB: ∀t r n uJ,Bd n uJ->Bd (n+1) (dZ t r uJ)) (l:dU) (hl:l.stmts.length<=maxLen) (hv: ∀st∈l.stmts,Lf st) (au:(l.stmts.map kU).sum<=900) (av: ∀st∈l.stmts,st.rows.length<=maxLen) (ai: ∀st∈l.stmts,st.kind=2->xK st.table≠ -1->OK dZ st):
  Pure prog 62 [dJ bO,.agg l.row] (.sl .ro ((l.stmts.foldl (rb dZ) []).map ph)):=by
 obtain⟨L,hL⟩:=eX l.stmts
 rw[hL]at hl hv au av ai⊢
 generalize hM:L.foldl (rb dZ) []=M
 refine iV 0 func62 ntmps62 results62 λc hc hb=> ?_
 refine zA ?_
 simp[go_sem,dJ,hL]
 refine xT2 2 0 2 [.sl .full []] dC (by rfl) sm ?_
 refine zH (S:=Nat×List (Int×List ca×Nat)×aj0) [2,5,20,21,22] (λu=> [.ptr (u.2.2.length+2) 0,.ptr 0 0,.sl .ro (L.map bW.row),.int .i64 L.length,.int .i64 u.1])
  (λu=>iN u.2.1 u.2.2++ [.box [.sl .ro xJ,.sl .ro (bO.map bL.row)]]) (λu=>L.length - u.1)
  (λu=>u.1<=L.length/\k8 u.2.1 u.2.2/\(L.drop u.1).foldl (rb dZ) (eW u.2.1)=M/\ ∃n,Bd n (eW u.2.1)/\n+((L.drop u.1).map kU).sum<=900) hc hb (0,[],[])
  ⟨om,⟨sm,C0,List.Pairwise.nil⟩,hM,0,(by trivial),by grind⟩ ?_ ?_
 .exact DF [2,3,0] dC rfl (by trivial) ⟨.inl (by rfl),.inl (by rfl),zK,zC rfl,zC rfl,tV⟩
 rintro⟨i,N,A⟩ ⟨hi,cQ,hinv,n,aC,hn⟩
 simp only at hi cQ hinv aC hn
 by_cases q:i<L.length
 rotate_left
 .rw[A9 om]at hinv
  have aD:eW N=M:=hinv
  refine zA ?_
  unfold iN
  simp[go_sem,q,ws6]
  refine ME 1 2 (N.map e9) OG (Uc N) ?_
  simp only[gk,gj,gr,fX,Ag,Ad,A7,and_self,aiE,Ub,aD]
  exact zW zK sm
 have ei:=zQ q (by unfold maxLen at hl;omega)
 obtain⟨st,aw⟩:=eX (L[i])
 have ah:st∈L:=(by grind)
 rw[A5 q,aw]at hinv hn
 rw[Aj,List.sum_cons]at hn
 rw[Bn]at hinv
 have al:=OA bO st.table dC
 rw[show iG (λt:bL=>t.name==st.table) bO 0=xK st.table from rfl]at al
 obtain⟨t,ht⟩:=eX (xK st.table)
 have aE:=Ld st.table
 rw[ht]at al aE
 refine zA ?_
 unfold iN
 simp[go_sem,q,aw,yK]
 refine zL al cB (zP (by rfl) rfl) rfl ?_
 by_cases ax:t= -1
 .have hF:rb dZ (eW N) st=eW N:=by simp_all[rb]
  rw[hF]at hinv
  subst ax
  simp[go_sem,ei]
  refine zI (i+1,N,A) ⟨om,(by grind), ?_⟩
  exact cc (A.length+3) OJ (by simp[yK]) (Ik cQ) om (zD (by rfl) (by grind[iJ,jn,cN,cL]))
 have aK: ¬t<0:=om
 have ay:decide (t<0)=false:=(by grind)
 by_cases hk:st.kind=2
 .have an:(st.kind==2)=true:=by grind
  simp[go_sem,ay,an,yK]
  have aF:=ai st ah hk (by rw[ht];exact ax)
  have ao:=av st ah
  have aq:kU st=st.rows.length:=by simp_all[kU]
  rw[aq]at hn
  have hF:rb dZ (eW N) st=st.rows.foldl (λuJ r=>dZ t r uJ) (eW N):=by simp_all[rb,aiu]
  rw[hF]at hinv
  obtain⟨U2,ar⟩:=eX (st.rows.foldl (λuJ r=>dZ t r uJ) (eW N))
  rw[ar]at hinv
  refine zH (S:=Nat×List (Int×List ca×Nat)×aj0) [2,5,8,20,21,22,68,69,70] (λu=> [.ptr (u.2.2.length+2) 0,.ptr 0 0,.int .i64 t,.sl .ro (L.map bW.row),.int .i64 L.length,.int .i64 i,.sl .ro (st.rows.map λl=> [V.sl .ro (l.map bJ.row)]),.int .i64 st.rows.length,.int .i64 u.1])
   (λu=>iN u.2.1 u.2.2++ [.box [.sl .ro xJ,.sl .ro (bO.map bL.row)]]) (λu=>st.rows.length - u.1)
   (λu=>u.1<=st.rows.length/\k8 u.2.1 u.2.2/\(st.rows.drop u.1).foldl (λuJ r=>dZ t r uJ) (eW u.2.1)=U2/\ ∃m,Bd m (eW u.2.1)/\m+(st.rows.length - u.1)+((L.drop (i+1)).map kU).sum<=900) hc hb (0,N,A)
   (by grind) ?_ ?_
  .exact cc (A.length+3) OJ (by simp[tT]) (Ik cQ) om (zD (by rfl) (by simp[iJ,jn,cN,cL]))
  rintro⟨j,N1,A1⟩ ⟨hj,ab,aa,m,ad,hm⟩
  simp only at hj ab aa ad hm
  by_cases qj:j<st.rows.length
  rotate_left
  .rw[A9 om]at aa
   have aG:eW N1=U2:=aa
   refine zA ?_
   simp[go_sem,qj,ei]
   refine zI (i+1,N1,A1) ⟨om,(by grind), ?_⟩
   exact cc (A1.length+3) (by rw[Aa (by simp[tT])];rfl) (by simp[yK]) (Ik ab) om (zD (by rfl) (by grind[iJ,jn,cN,cL]))
  have ej:=zQ qj (by unfold maxLen at ao;omega)
  obtain⟨r,hr⟩:=eX (st.rows[j])
  have az:r∈st.rows:=(by grind)
  rw[A5 qj,hr,Bn]at aa
  have ae:=aF r az N1 A1 ab ⟨by have:=ad.1;omega,λy hy=>by have:=ad.2 y hy;omega⟩
  rw[ht]at ae
  refine zA ?_
  unfold iN
  simp[go_sem,qj,hr,yK]
  refine J7 ae cB (vi ab) Ul ⟨(by grind[xQ,iN,iJ,jn,cN,cL,tT]),zC rfl,zC rfl,zK,tV⟩ (λr s h=>by
   obtain⟨rfl,N2,A2,rfl,h2,_⟩:=h
   exact⟨rfl,vi h2⟩) ?_
  rintro r s ⟨rfl,N2,A2,rfl,aj,a1⟩ hle I' pick af
  simp[go_sem,ej]
  refine zI (j+1,N2,A2) ⟨om,(by grind), ?_⟩
  refine Ry af ⟨.inl ?_,.inl ?_,zC rfl,zK,zC rfl,zC rfl,zK,zC rfl,.inl (by rfl),tV⟩
  .have:=af.Hu (M:=I'.length) (i:=0) sm
   rw[tT,yK]at this
   simp[go_sem,dI,dN,dj,du]at this⊢
   omega
  .have:=af.Ht (M:=I'.length) (i:=0) (by grind[yK])
   simp[go_sem,dI,dN,dj,du,this]
 have an:(st.kind==2)=false:=by grind
 have aq:kU st=2:=by simp_all[kU]
 rw[aq]at hn
 have a6:=Ty xJ bO t st dC dC (by grind[Lc,maxLen]) (hv st ah)
 have a7:=TE t st (by have:=Lc st;unfold maxLen;omega)
 obtain⟨b,aH⟩:=eX (nR bO t st)
 obtain⟨rs,ao⟩:=eX (wA t st)
 rw[aH]at a6
 have a8:=Uk t st
 have ak:=λr=>yD1 (t:=t) (st:=st) (r:=r)
 rw[ao]at a7 a8 ak
 have hF:rb dZ (eW N) st=rs.foldl (Gl t b) (eW N):=by simp_all[rb,aiu]
 rw[hF]at hinv
 obtain⟨U2,ar⟩:=eX (rs.foldl (Gl t b) (eW N))
 rw[ar]at hinv
 simp[go_sem,ay,an,yK]
 refine zL a6 cB (zP (by rfl) rfl) rfl ?_
 simp[go_sem,KZ,yK]
 refine zL a7 cB (zP (by rfl) rfl) rfl ?_
 simp[go_sem]
 refine zH (S:=Nat×List (Int×List ca×Nat)×aj0) [2,5,8,11,12,20,21,22,40,41,42] (λu=> [.ptr (u.2.2.length+2) 0,.ptr 0 0,.int .i64 t,.str b.1,.str b.2,.sl .ro (L.map bW.row),.int .i64 L.length,.int .i64 i,.sl .ro (rs.map yS),.int .i64 rs.length,.int .i64 u.1])
  (λu=>iN u.2.1 u.2.2++ [.box [.sl .ro xJ,.sl .ro (bO.map bL.row)]]) (λu=>rs.length - u.1)
  (λu=>u.1<=rs.length/\k8 u.2.1 u.2.2/\(rs.drop u.1).foldl (Gl t b) (eW u.2.1)=U2/\ ∃m,Bd m (eW u.2.1)/\m+(rs.length - u.1)+((L.drop (i+1)).map kU).sum<=900) hc hb (0,N,A)
  (by grind) ?_ ?_
 .exact cc (A.length+3) OJ (by simp[tT]) (Ik cQ) om (zD (by rfl) (by simp[iJ,jn,cN,cL]))
 rintro⟨j,N1,A1⟩ ⟨hj,ab,aa,m,ad,hm⟩
 simp only at hj ab aa ad hm
 by_cases qj:j<rs.length
 rotate_left
 .rw[A9 om]at aa
  have aG:eW N1=U2:=aa
  refine zA ?_
  simp[go_sem,qj,ei]
  refine zI (i+1,N1,A1) ⟨om,(by grind), ?_⟩
  exact cc (A1.length+3) (by rw[Aa (by simp[tT])];rfl) (by simp[yK]) (Ik ab) om (zD (by rfl) (by grind[iJ,jn,cN,cL]))
 have ej:=zQ qj om
 obtain⟨r,hr⟩:=eX (rs[j])
 have az:=ak r (hr▸A8 qj)
 rw[A5 qj,hr,Bn]at aa
 have aA:=H5 t r om om
 have aI:=Um ad
 have ae:=OH N1 A1 ab (xF t r).1 ⟨b.1,b.2⟩ om (by grind)
 obtain⟨⟨g,ge⟩,hg⟩: ∃g,xF t r=g:=⟨_,rfl⟩
 have aJ:Gl t b (eW N1) r=lZ g ⟨b.1,b.2⟩ (eW N1):=by grind[Gl]
 rw[hg]at aA ae
 rw[aJ]at aa
 refine zA ?_
 unfold iN
 simp[go_sem,qj,hr,yK]
 refine zL aA cB (zP (by rfl) rfl) rfl ?_
 simp[go_sem,Es]
 refine J7 ae cB (vi ab) Ul ⟨(by grind[xQ,iN,iJ,jn,cN,cL,tT]),zC rfl,zC rfl,tV⟩ (λr s h=>by
  obtain⟨rfl,N2,A2,rfl,h2,_⟩:=h
  exact⟨rfl,vi h2⟩) ?_
 rintro r' s ⟨rfl,N2,A2,rfl,aj,a1⟩ hle I' pick af
 simp[go_sem,ej]
 refine zI (j+1,N2,A2) ⟨om,⟨om,aj,by grind,m+1,by simp only;rw[a1];exact ad.ee _ _,om⟩, ?_⟩
 refine Ry af ⟨.inl ?_,.inl ?_,zC rfl,zC rfl,zC rfl,zK,zC rfl,zC rfl,zK,zC rfl,.inl (by rfl),tV⟩
 .have:=af.Hu (M:=I'.length) (i:=0) sm
  rw[tT,yK]at this
  simp[go_sem,dI,dN,dj,du]at this⊢
  omega
 .have:=af.Ht (M:=I'.length) (i:=0) (by grind[yK])
  simp[go_sem,dI,dN,dj,du,this]
end Go.Proofs.YtplackkccmeioaaGreat
