/-
  Contracts of functions that the claimed statement reaches, each proved over trees (the library Vx); used by the theorem at the end of the claim.
  Conditions: as each theorem states them.
-/
import Derived.Test.YtplackkccmeioaaGreatKBAI
import Derived.Test.YtplackkccmeioaaGreatKBAL
import Derived.Test.YtplackkccmeioaaGreatKBAK
import Derived.Test.YtplackkccmeioaaGreatKBAE
import Derived.Lib.Overlaps
import Derived.Lib.AppendZerosOnto
import Derived.Laws.Externs
import Derived.Laws.IdiomCopy
import Derived.Deep.RegionLaw
set_option maxHeartbeats 8000000
namespace Go.Proofs.YtplackkccmeioaaGreat
open Go Go.Vx Go.Proofs.Tryz
set_option maxRecDepth 100000
theorem SG (c:UInt8):Pure prog 190 [.int .u8 c.toNat] (.bool (wW c)):=by
 unfold wW
 generalize c.toNat=n
 generalize hM:decide (48<=n/\n<=57)=M
 have ret: ∀(r:Bool) (I:St),r=M->cw (some (.bool r)) 0 (λr s=>r= .bool M/\s= []) I:=λr I h=>by subst h;exact zX (zC rfl) sm
 refine iW 0 func190 ntmps190 results190 λc hc hb=>zM ?_
 simp[go_sem]
 refine xE (λq=> ?_) (λq=> ?_)
 .simp[go_sem,q]
  refine ret _ _ ?_
  rw[<-hM]
  grind
 .simp[go_sem,q]
  refine ret _ _ ?_
  grind
theorem yY9: ∀n:Fin 256,l8 (UInt8.ofNat n.1)=(((decide (97<=jc .or .u8 (n.1:Nat) 32)&&decide (jc .or .u8 (n.1:Nat) 32<=122))&&decide (65<=((n.1:Nat):Int)))||(((n.1:Nat):Int)==95)):=dC
theorem yO5 (c:UInt8):Pure prog 249 [.int .u8 c.toNat] (.bool (l8 c)):=by
 have h:=yY9 ⟨c.toNat,c.toNat_lt⟩
 simp only[UInt8.ofNat_toNat]at h
 rw[h]
 clear h
 obtain⟨n,hn⟩:=eX c.toNat
 simp only[hn]
 generalize hg:jc .or .u8 (n:Nat) 32=g
 refine iW 0 func249 ntmps249 results249 λc hc hb=>zM ?_
 simp[go_sem,hg]
 refine(A6 (decide (97<=g))).elim (λq1=> ?_) (λq1=> ?_)
 .refine(A6 (decide (g<=122))).elim (λq2=> ?_) (λq2=> ?_)
  .refine(A6 (decide (65<=(n:Int)))).elim (λq3=> ?_) (λq3=> ?_)
   .rw[q1,q2,q3]
    simp[go_sem,hg,q2,q3]
    exact zX (zC rfl) sm
   .rw[q1,q2,q3]
    simp[go_sem,hg,q2,q3]
    exact zX (zC rfl) sm
  .rw[q1,q2]
   simp[go_sem,hg,q2]
   exact zX (zC rfl) sm
 .rw[q1]
  simp[go_sem]
  exact zX (zC rfl) sm
def pw (c:UInt8):Bool:=l8 c||wW c
theorem yZ1 (c:UInt8):Pure prog 192 [.int .u8 c.toNat] (.bool (pw c)):=by
 have h1:=yO5 c
 have h2:=SG c
 unfold pw
 generalize l8 c=a at h1⊢
 generalize wW c=b at h2⊢
 refine iW 0 func192 ntmps192 results192 λc hc hb=>zM ?_
 simp[go_sem]
 refine pC h1 ?_
 simp[go_sem]
 refine(A6 a).elim (λq=> ?_) (λq=> ?_)
 .simp[go_sem,q]
  exact zX (zC rfl) sm
 .simp[go_sem,q]
  refine pC h2 ?_
  simp[go_sem]
  exact zX (zC rfl) (by grind)
def mf (p:UInt8->Bool):ahP->Nat
 | []=>0
 |c::l=>if p c=true then mf p l+1 else 0
theorem xH5 (s:ahP) (hl:s.length<=maxLen):Pure prog 191 [.str s,.fn 192 []] (.int .i64 (mf pw s:Nat)):=by
 generalize hM:mf pw s=M
 have ret: ∀(r:Nat) (I:St),r=M->cw (some (.int .i64 r)) 0 (λr s=>r= .int .i64 (M:Nat)/\s= []) I:=λr I h=>by subst h;exact zX (zC rfl) sm
 refine iV 0 func191 ntmps191 results191 λc hc hb=> ?_
 refine zA ?_
 simp[go_sem]
 refine zI (S:=Nat) [0,1,5] (λi=> [.str s,.fn 192 [],.int .i64 i]) (λ_=> []) (λi=>s.length - i) (λi=>i<=s.length/\i+mf pw (s.drop i)=M) hc hb 0 (by grind) ?_ ?_
 .exact ia rfl (zO (by rfl) rfl)
 rintro i ⟨hi,hinv⟩
 by_cases q:i<s.length
 rotate_left
 .rw[Bn om,mf,D5]at hinv
  refine zA ?_
  simp[go_sem,q]
  exact ret _ _ hinv
 have ei:=zQ q (by unfold maxLen at hl;omega)
 obtain⟨x,hx⟩:=eX (s[i])
 rw[A5 q,hx,mf]at hinv
 have aa:=yZ1 x
 obtain⟨b,ab⟩:=eX (pw x)
 rw[ab]at aa hinv
 refine zA ?_
 simp[go_sem,q,hx]
 refine pC aa ?_
 simp[go_sem]
 refine(A6 b).elim (λw=> ?_) (λw=> ?_)
 .rw[ahg w]at hinv
  simp[go_sem,w,ei]
  exact zH (i+1) ⟨om,om,ia rfl (zO (by rfl) rfl)⟩
 .rw[ahf (by grind)]at hinv
  simp[go_sem,w]
  exact ret _ _ om
theorem SH (p:UInt8->Bool): ∀s:ahP,decide (mf p s<s.length)= !(s.all p)
 | []=>by rfl
 |c::l=>by
  have h:=SH p l
  unfold mf
  grind
def FF:ahP->List ahP
 | []=> []
 |c::l=>if c=32/\32∈l then l.takeWhile (· !=32)::FF l else FF l
theorem SJ: ∀(s l:ahP),(∀c∈s,c≠32)->((s++ [32]).isPrefixOf l=true↔l.takeWhile (· !=32)=s/\32∈l)
 | [],[],_=>by simp
 | [],c::l,_=>by
  by_cases h:c=32
  .simp_all
  .have h':(c !=32)=true:=by grind
   have h2: ¬(32=c):=(by grind)
   simp_all
 |a::s,[],_=>by simp
 |a::s,c::l,hs=>by
  have ih:=SJ s l λx hx=>hs x (by simp[hx])
  have ha:a≠32:=(by grind)
  rw[Bm,List.isPrefixOf,Ab,ih]
  grind[List.takeWhile_cons_of_neg,D6]
theorem SK (s:ahP) (hs: ∀c∈s,c≠32): ∀T:ahP,0<=Lib.index T (32::(s++ [32]))↔s∈FF T
 | []=>by grind[Lib.index,FF]
 |b::l=>by
  have ih:=SK s hs l
  have hg:=Lib.index_ge l (32::(s++ [32]))
  have hp:=SJ s l hs
  unfold Lib.index FF
  grind
def Hp:ahP:= [32,65,76,76,32,65,78,68,32,65,83,32,65,83,67,32,66,69,84,87,69,69,78,32,66,79,85,78,68,32,66,89,32,67,79,85,78,84,32,68,69,76,69,84,69,32,68,69,83,67,32,69,88,65,67,84,32,70,65,76,83,69,32,70,82,79,77,32,73,78,83,69,82,84,32,73,78,84,79,32,73,83,32,76,73,77,73,84,32,78,79,84,32,78,85,76,76,32,78,79,87,32,79,70,32,79,82,32,79,82,68,69,82,32,83,69,76,69,67,84,32,83,69,84,32,83,85,77,32,83,89,83,84,69,77,32,84,73,77,69,32,84,82,85,69,32,85,80,68,65,84,69,32,86,65,76,85,69,83,32,87,72,69,82,69,32]
theorem yS1:FF Hp=jf:=by rfl
theorem xM0 (s:ahP) (hs: ∀c∈s,c≠32):Lib.contains Hp (32::(s++ [32]))=jf.contains s:=by
 have h:=SK s hs Hp
 rw[yS1]at h
 unfold Lib.contains
 grind
theorem yo3 (s sub:ahP) (hs:s.length<4294967281):Pure prog 194 [.str s,.str sub] (.bool (Lib.contains s sub)):=by
 intro w L J aa hm ha
 match aa,ha with
 | [a,b],⟨h1,h2,_⟩=>
  have e1:=kU h1
  have e2:=kU h2
  subst e1 e2
  obtain⟨_,m,hc⟩:=hm.jn.num (rM.headD (0,.i64)) dC
  refine(Tryz.strings_Contains _ _ m w (by simpa) hc).mono ?_
  rintro e w' ⟨rfl,rfl⟩
  exact⟨_,.bool _,L,[],J,rfl,sm,om,hm,cF.bool _⟩
def kP:ahP->Nat->ahP
 | [],_=> []
 |c::l,0=>c::l
 |c::l,i+1=>yP c::kP l i
theorem SL: ∀(s:ahP) (i:Nat),(kP s i).length=s.length
 | [],_=>rfl
 |_::_,0=>rfl
 |c::l,i+1=>by rw[kP,Ak,SL l i,Ak]
theorem NK: ∀s:ahP,kP s 0=s
 | []=>rfl
 |_::_=>rfl
theorem SM: ∀s:ahP,kP s s.length=s.map yP
 | []=>rfl
 |c::l=>by rw[Ak,kP,SM l,Ai]
theorem SN: ∀(s:ahP) (i:Nat),(kP s i)[i]? =s[i]?
 | [],_=>rfl
 |_::_,0=>rfl
 |c::l,i+1=>by rw[kP,Du,Du,SN l i]
theorem SO: ∀(s:ahP) (i:Nat) (h:i<s.length),(kP s i).set i (yP s[i])=kP s (i+1)
 | [],_,h=>(by rfl)
 |c::l,0,_=>by rw[kP,kP,NK];rfl
 |c::l,i+1,h=>by
  rw[kP,Bz,List.getElem_cons_succ,SO l i (sU h),kP]
theorem SP: ∀(s:ahP) (i:Nat) (h:i<s.length),yP s[i]=s[i]->kP s i=kP s (i+1)
 | [],_,h,_=>(by rfl)
 |c::l,0,_,hg=>by grind[kP,NK]
 |c::l,i+1,h,hg=>by
  rw[kP,kP,SP l i (sU h) (sU hg)]
abbrev zo:UInt8->List V:=λc=> [V.int .u8 c.toNat]
theorem SQ (s:ahP):zR s=s.map zo:=rfl
theorem wh0 (l:ahP) (n:Nat):bT n (.cj (l.map zo) 1)=true:=by
 simp only[bT,Am]
 intro r hr
 obtain⟨x,_,rfl⟩:=Ac.1 hr
 intro y hy
 cases hy<;>trivial
theorem Kl (l:ahP):([Ob.cj (l.map zo) 1]:St).all (bT 1)=true:=by
 grind[wh0]
theorem xA3 (l:ahP):xQ (l.map zo)=true:=by
 simp only[xQ,Am]
 intro r hr
 obtain⟨x,_,rfl⟩:=Ac.1 hr
 intro y hy
 cases hy<;>trivial
theorem xp9 (l:ahP) (n:Nat) (h:l.length=n):iz (l.map zo) 0 n=l.map zo:=by
 unfold iz
 rw[Bj,Aa (by grind),B9]
 rfl
theorem yZ0 (s:ahP) (hl:s.length<=maxLen):Pure prog 193 [.str s] (.str (s.map yP)):=by
 obtain⟨n,hn⟩:=eX s.length
 unfold maxLen at hl
 refine iV 0 func193 ntmps193 results193 λc hc hb=> ?_
 refine y5 7 dC ?_
 refine zA ?_
 simp[go_sem,SQ,hn]
 refine zI (S:=Nat) [3,8,9,10] (λi=> [.cJ 0 1 n 0 n,.cJ 0 1 n 0 n,.int .i64 n,.int .i64 i]) (λi=> [.cj ((kP s i).map zo) 1]) (λi=>n - i) (λi=>i<=n) hc hb 0 om ?_ ?_
 .exact cd 1 (by grind[NK]) rfl (Kl _) om (zD (by rfl) rfl)
 intro i hi
 by_cases q:i<n
 rotate_left
 .have aj:i=n:=om
  subst aj
  rw[<-hn,SM,hn]
  have ae:=xp9 (s.map yP) i (by rw[Ag,hn])
  have ab:=Gb (s.map yP)
  have ad:=wV (s.map yP)
  rw[SQ]at ab ad
  generalize hS:s.map yP=S at ae ab ad⊢
  have ak:S.length=i:=by grind
  clear hS
  refine E8 0 1 (S.map zo) rfl (xA3 _) ?_
  refine zA ?_
  simp[go_sem,ak,ae]
  refine zJ ad ?_
  simp[go_sem]
  rw[<-B9,ab]
  exact zX (zC rfl) sm
 have hq:i<s.length:=om
 have ei:=zQ q om
 obtain⟨x,hx⟩:=eX (s[i])
 obtain⟨cur,af⟩: ∃c,kP s i=c:=⟨_,rfl⟩
 obtain⟨ah,ao⟩: ∃c,kP s (i+1)=c:=⟨_,rfl⟩
 have ai:cur.length=n:=by grind[SL]
 have ar:i<cur.length:=om
 have al:cur[i]=x:=by
  grind[SN]
 have aq:cur.set i (yP x)=ah:=by grind[SO]
 have aa:yP x=x->cur=ah:=(by grind[SP])
 rw[af]
 have au:0<=((x.toNat:Nat):Int)/\((x.toNat:Nat):Int)<=255:=by have:=x.toNat_lt;omega
 refine zA ?_
 simp[go_sem,q,al,ai]
 have small: ¬(97<=x.toNat/\x.toNat<=122)->yP x=x:=(by simp_all[yP,ahf])
 refine xE (λq1=> ?_) (λq1=> ?_)
 .simp[go_sem,q1]
  refine zU (λq2=> ?_) (λq2=> ?_)
  .have q1:97<=x.toNat:=by grind
   have q2:x.toNat<=122:=by grind
   have hg:IntKind.u8.wrap ((x.toNat:Int) - 32)=((yP x).toNat:Int):=by
    rw[JG om om]
    simp_all[yP];omega
   simp[go_sem,hg,q,ai,ei]
   exact zH (i+1) ⟨om,om,cd 1 (by grind[Cz]) rfl (Kl _) om (zD (by rfl) rfl)⟩
  .have q2: ¬x.toNat<=122:=by grind
   have hs:=aa (small λh=>q2 h.2)
   simp[go_sem,ei]
   exact zH (i+1) ⟨om,om,cd 1 (by grind) rfl (Kl _) om (zD (by rfl) rfl)⟩
 .have q1: ¬97<=x.toNat:=by grind
  have hs:=aa (small λh=>q1 h.1)
  have an:decide ((97:Int)<=x.toNat)=false:=by grind
  simp[go_sem,ei,an]
  exact zH (i+1) ⟨om,om,cd 1 (by grind) rfl (Kl _) om (zD (by rfl) rfl)⟩
theorem xr5 (s:ahP):(s.map yP==s)=s.all λc=>yP c==c:=by
 induction s<;>grind
theorem xQ8 (s:ahP):k5 s=(decide (1<=s.length/\s.length<=16)&&(!wW (s.headD 0)&&(s.all pw&&(s.all (λc=>yP c==c)&& !jf.contains s)))):=by
 have h:s.all um=(s.all pw&&s.all (λc=>yP c==c)):=by
  induction s with
  |nil=>rfl
  |cons c l ih=>
   grind[um,pw]
 grind[k5]
theorem xQ9:pw 32=false:=dC
theorem Km (s:ahP) (hl:s.length<=maxLen):Pure prog 132 [.str s] (.bool (k5 s)):=by
 have aa:=xH5 s hl
 have ae:=SH pw s
 have af:=yZ0 s hl
 have ah:=xr5 s
 have ai:=SG (s[0]?.getD 0)
 have aj:s.headD 0=s[0]?.getD 0:=by cases s<;>rfl
 have ab:(s.all pw)=true->Pure prog 194 [.str Hp,.str (32::(s++ [32]))] (.bool (jf.contains s)):=λh=>by
  have h1: ∀c∈s,c≠32:=(by grind[xQ9])
  have h2:=yo3 Hp (32::(s++ [32])) dC
  grind[xM0]
 generalize hM:k5 s=M
 rw[xQ8,aj]at hM
 generalize mf pw s=r at aa ae
 generalize s.map yP=u at af ah
 generalize wW (s[0]?.getD 0)=d at ai hM
 generalize (s.all λc=>yP c==c)=g at ah hM
 generalize jf.contains s=k at ab hM
 generalize s.all pw=w at ae ab hM
 have ret: ∀(b:Bool) (I:St),b=M->cw (some (.bool b)) 0 (λr s=>r= .bool M/\s= []) I:=λr I h=>by subst h;exact zX (zC rfl) sm
 unfold maxLen at hl
 refine iV 0 func132 ntmps132 results132 λc hc hb=> ?_
 refine zA ?_
 simp[go_sem]
 by_cases h0:s= []
 .subst h0
  have hM:M=false:=by grind
  simp[go_sem]
  exact ret _ _ hM.symm
 have h1:1<=s.length:=by
  grind
 have ak:s.isEmpty=false:=by
  grind
 simp[go_sem,ak]
 by_cases h2:16<s.length
 .have ad:decide ((16:Int)<s.length)=true:=by grind
  have hM:M=false:=by grind
  simp[go_sem,ad]
  exact ret _ _ hM.symm
 have ad:decide ((16:Int)<s.length)=false:=by grind
 rw[ahi om,B7]at hM
 simp[go_sem,ad]
 refine zJ om ?_
 simp[go_sem]
 refine pC ai ?_
 simp[go_sem]
 refine(A6 d).elim (λq=> ?_) (λq=> ?_)
 .have hM:M=false:=by grind
  simp[go_sem,q]
  exact ret _ _ hM.symm
 rw[q,Bool.not_false,B7]at hM
 simp[go_sem,q]
 refine pC aa ?_
 simp[go_sem]
 refine(A6 w).elim (λq2=> ?_) (λq2=> ?_)
 rotate_left
 .have hM:M=false:=by grind
  have hr:decide (r<s.length)=true:=by grind
  simp[go_sem,hr]
  exact ret _ _ hM.symm
 have hr:decide (r<s.length)=false:=by grind
 rw[q2,B7]at hM
 simp[go_sem,hr]
 refine pC af ?_
 simp[go_sem]
 refine(A6 g).elim (λq3=> ?_) (λq3=> ?_)
 rotate_left
 .have hM:M=false:=by grind
  have hu:(u==s)=false:=by grind
  simp[go_sem,hu]
  exact ret _ _ hM.symm
 have hu:(u==s)=true:=by grind
 rw[q3,B7]at hM
 simp[go_sem,hu]
 refine zJ om ?_
 simp[go_sem]
 refine zJ om ?_
 simp[go_sem]
 refine pC (ab q2) ?_
 simp[go_sem]
 exact ret _ _ hM
end Go.Proofs.YtplackkccmeioaaGreat
namespace Go.Proofs.YtplackkccmeioaaGreat
open Go Go.Vx R Go.Proofs.Tryz
set_option maxRecDepth 100000
def Hq (s:ahP):Int:=if sL s=0 then -1 else sL s
theorem xd5 (s:ahP):Pure prog 196 [.str s] (.int .i64 (Hq s)):=by
 have hM:Hq s=if l7.contains s=true then 1 else if kB.contains s=true then 2 else -1:=by
  unfold Hq sL
  by_cases h1:kB.contains s=true
  .have h2:l7.contains s=false:=by
    unfold kB at h1
    simp only[Dh,List.contains_nil,Bool.or_false,C9,ahm]at h1
    rcases h1 with rfl|rfl|rfl|rfl|rfl|rfl|rfl|rfl|rfl|rfl|rfl|rfl|rfl<;>decide
   grind
  grind
 generalize Hq s=M at hM⊢
 have ret: ∀(r:Int) (I:St),r=M->cw (some (.int .i64 r)) 0 (λr s=>r= .int .i64 M/\s= []) I:=λr I h=>by subst h;exact zX (zC rfl) sm
 unfold kB l7 at hM
 simp only[Dh,List.contains_nil]at hM
 refine iW 0 func196 ntmps196 results196 λc hc hb=>zM ?_
 simp[go_sem]
 repeat' (first|(refine xE (λq=> ?_) (λq=> ?_)<;>simp[go_sem,q])|(refine zU (λq=> ?_) (λq=> ?_)<;>simp[go_sem,q]))
 all_goals exact ret _ _ (by simp_all)
def uG (e:bJ):Bool:=e.kind==0&&(e.s.isEmpty&&(nk e.v&&e.args.isEmpty))
theorem xD5 (l:List bJ) (hl:l.length<=maxLen):Pure prog 251 [.sl .ro (l.map bJ.row),.sl .ro [],.fn 197 []] (.bool l.isEmpty):=by
 generalize hM:l.isEmpty=M
 have ret: ∀(r:Bool) (I:St),r=M->cw (some (.bool r)) 0 (λr s=>r= .bool M/\s= []) I:=λr I h=>by subst h;exact zX (zC rfl) sm
 refine iW 0 func251 ntmps251 results251 λc hc hb=>zM ?_
 cases l with
 |nil=>
  simp[go_sem]
  refine zI (S:=Unit) [15,16,17] (λ_=> [.sl .ro [],.int .i64 0,.int .i64 0]) (λ_=> []) (λ_=>0) (λ_=>True) hc hb () trivial ?_ ?_
  .exact ia rfl (zO (by rfl) rfl)
  rintro _ _
  refine zA ?_
  simp[go_sem]
  exact ret _ _ hM
 |cons x l=>
  have q:(((x::l).length:Int) !=0)=true:=by rfl
  simp only[Ak,Int.natCast_add,C0]at q
  simp[go_sem,q]
  exact ret _ _ hM
theorem xZ3 (e:bJ) (hw:e.args.length<=maxLen):Pure prog 197 [.agg e.row,.agg cT.row] (.bool (uG e)):=by
 have heq:=xD5 e.args hw
 generalize hM:uG e=M
 unfold uG nk at hM
 generalize e.args.isEmpty=b at heq hM
 have ret: ∀(r:Bool) (I:St),r=M->cw (some (.bool r)) 0 (λr s=>r= .bool M/\s= []) I:=λr I h=>by subst h;exact zX (zC rfl) sm
 have aa:(e.s== [])=e.s.isEmpty:=sm
 have ab:(e.v.s== [])=e.v.s.isEmpty:=sm
 have z1:cT.kind=0:=rfl
 have z2:cT.s= []:=rfl
 have z3:cT.v=⟨0,0,[]⟩:=rfl
 have z4:cT.args= []:=rfl
 refine iW 0 func197 ntmps197 results197 λc hc hb=>zM ?_
 simp[go_sem,z1,z2,z3,z4]
 repeat' (first
  |(refine xE (λq=> ?_) (λq=> ?_)<;>simp[go_sem,q])
  |(refine zU (λq=> ?_) (λq=> ?_)<;>simp[go_sem,q])
  |(refine pC heq ?_;simp[go_sem]))
 all_goals exact ret _ _ (by rw[<-hM];simp_all)
theorem SR (e:bJ) (hw:e.args.length<=maxLen):Pure prog 134 [.agg e.row] (.bool (uG e)):=by
 have h:=xZ3 e hw
 generalize uG e=b at h⊢
 refine iW 0 func134 ntmps134 results134 λc hc hb=>zM ?_
 simp[go_sem]
 refine zL h cB ⟨?_, ?_,tV⟩ rfl ?_
 .rw[bJ.bS];exact zC rfl
 .rw[bJ.bS]
  exact wL ⟨zF rfl,zF rfl,zF rfl,zF rfl,zF rfl,zW,tV⟩
 simp[go_sem]
 exact zX (zC rfl) sm
def fw:Nat->bJ->Bool
 |0,_=>false
 |n+1,e=>
  if e.kind=1 then e.s.isEmpty&&(e.args.isEmpty&&(ep e.v&&decide (0<=e.v.n)))
  else if e.kind=2 then nk e.v&&(e.args.isEmpty&&k5 e.s)
  else if ¬e.kind=3\/nk e.v=false\/sL e.s=0\/ ¬(e.args.length:Int)=sL e.s then false
  else e.args.all (fw n)
theorem Hr {U:Type} (p:U->Bool) (l:List U) (i:Nat) (h:i<l.length):(l.drop i).all p=(p l[i]&&(l.drop (i+1)).all p):=by
 grind[A5]
theorem Hs: ∀(n:Nat) (e:bJ),n<=1000->fp e->Good e->Pure prog 133 [.agg e.row,.int .i64 n] (.bool (fw n e))
 |n,e,hn,hw,hg=>by
  have hlen:=hw.len
  have al:=hw.sub
  have ao:=hg.sub
  have ih: ∀m,n=m+1-> ∀x∈e.args,Pure prog 133 [.agg x.row,.int .i64 m] (.bool (fw m x)):=λm hm x hx=>Hs m x om (al x hx) (ao x hx)
  have ah:=FA e.v
  have aa:=Km e.s (by have:=hg.str;grind[maxLen])
  have aq:=xd5 e.s
  have hz:=SB e.v
  obtain⟨M,hM⟩:=eX (fw n e)
  rw[hM]
  have ret: ∀(r:Bool) (I:St),r=M->cw (some (.bool r)) 0 (λr s=>r= .bool M/\s= []) I:=λr I h=>by subst h;exact zX (zC rfl) sm
  have ha:((e.args.length:Int)==0)=e.args.isEmpty:=by cases e.args<;>simp;omega
  have au:(e.s== [])=e.s.isEmpty:=sm
  have av:(e.v.s== [])=e.v.s.isEmpty:=sm
  refine iV 0 func133 ntmps133 results133 λc hc hb=> ?_
  by_cases h0:n=0
  .subst h0
   rw[fw]at hM
   refine zA ?_
   simp[go_sem]
   exact ret _ _ hM
  obtain⟨m,rfl⟩: ∃m,n=m+1:=(by simp;omega)
  have ih:=ih m rfl
  rw[fw]at hM
  have an:(((m+1:Nat):Int)==0)=false:=by rfl
  have em:IntKind.i64.wrap (((m+1:Nat):Int) - 1)=(m:Int):=by grind[bX]
  have ar:IntKind.i64.wrap (m:Int)=(m:Int):=(by grind)
  refine zA ?_
  simp only[Int.natCast_add,C0]at an em
  simp[go_sem,an]
  by_cases q1:e.kind=1
  .have af:(e.kind==1)=true:=by grind
   rw[ahg q1]at hM
   generalize ep e.v=b at ah hM
   generalize e.args.isEmpty=ae at ha hM
   simp[go_sem,af]
   repeat' (first
    |(refine xE (λq=> ?_) (λq=> ?_)<;>simp[go_sem,q,ha])
    |(refine zL ah cB (zO sg rfl) rfl ?_;simp[go_sem]))
   all_goals exact ret _ _ (by rw[<-hM];simp_all)
  rw[ahf q1]at hM
  have af:(e.kind==1)=false:=by grind
  by_cases q2:e.kind=2
  .have ai:(e.kind==2)=true:=by grind
   rw[ahg q2]at hM
   unfold nk at hM
   generalize k5 e.s=b at aa hM
   generalize e.args.isEmpty=ae at ha hM
   simp[go_sem,af,ai]
   repeat' (first
    |(refine xE (λq=> ?_) (λq=> ?_)<;>simp[go_sem,q,ha])
    |(refine zL aa cB (zO sg rfl) rfl ?_;simp[go_sem]))
   all_goals exact ret _ _ (by rw[<-hM];simp_all)
  rw[ahf q2]at hM
  have ai:(e.kind==2)=false:=by grind
  simp[go_sem,af,ai]
  refine mV [(15,0)] 1 sm (by rfl) kR ?_
  simp[go_sem]
  by_cases q3:e.kind=3
  rotate_left
  .have aj:(e.kind !=3)=true:=by grind
   rw[ahg (.inl q3)]at hM
   simp[go_sem,aj]
   exact ret _ _ hM
  have aj:(e.kind !=3)=false:=by grind
  simp[go_sem,aj,hz]
  refine(A6 (nk e.v)).elim (λw=> ?_) (λw=> ?_)
  rotate_left
  .rw[ahg (.inr (.inl w))]at hM
   simp[go_sem,w]
   exact ret _ _ hM
  simp[go_sem,w]
  refine pg aq cB (λ_=>zO (by rfl) rfl) rfl ?_
  unfold Hq
  by_cases q4:sL e.s=0\/ ¬(e.args.length:Int)=sL e.s
  .have ak:((e.args.length:Int) !=(if sL e.s=0 then -1 else sL e.s))=true:=by
    grind
   rw[ahg om]at hM
   simp[go_sem,ak]
   exact ret _ _ hM
  have ak:((e.args.length:Int) !=(if sL e.s=0 then -1 else sL e.s))=false:=by
   grind
  rw[ahf (by grind)]at hM
  simp[go_sem,ak]
  obtain⟨args,ab⟩:=eX e.args
  rw[ab]at hM hlen ih
  simp[go_sem,ab]
  refine zI (S:=Nat) [1,73,74,75] (λi=> [.int .i64 ((m:Int)+1),.sl .ro (args.map bJ.row),.int .i64 args.length,.int .i64 (i:Int)]) (λ_=> []) (λi=>args.length - i)
   (λi=>i<=args.length/\(args.drop i).all (fw m)=M) hc hb 0 (by grind) ?_ ?_
  .exact ia rfl (zO (by rfl) rfl)
  rintro i ⟨hi,hinv⟩
  by_cases q:i<args.length
  rotate_left
  .rw[A9 om]at hinv
   refine zA ?_
   simp[go_sem,q]
   exact ret _ _ hinv
  have ei:=zQ q om
  rw[Hr _ _ _ q]at hinv
  obtain⟨x,hx⟩:=eX (args[i])
  have ad:=ih x (hx▸A8 q)
  rw[hx]at hinv
  generalize fw m x=b at ad hinv
  refine zA ?_
  simp[go_sem,q,hx,ar]
  refine zL ad cB (zO sg (by rw[bJ.bS];rfl)) rfl ?_
  refine(A6 b).elim (λp=> ?_) (λp=> ?_)
  .rw[p,B7]at hinv
   simp[go_sem,p,ei]
   exact zH (i+1) ⟨om,(by grind),ia rfl (zO (by rfl) rfl)⟩
  .rw[p,Dp]at hinv
   simp[go_sem,p]
   exact ret _ _ hinv
def tc (n:Nat) (x:cM):Bool:=if x.kind=1 then decide (n<=1)&&uG x.e else if x.kind=3 then uG x.e else if x.kind=2\/x.kind=4 then fw 16 x.e else false
def Ht (l:List cM):Bool:=l.all (tc l.length)&&(decide (1<=l.length)&&decide (l.length<=6))
def td (r:List bJ):Bool:=(decide (1<=r.length)&&decide (r.length<=6))&&r.all (fw 16)
def Hu (l:List (List bJ)):Bool:=l.all td&&(decide (1<=l.length)&&decide (l.length<=16))
def jk (x:cm):Bool:=k5 x.name&&fw 16 x.e
def Hv (l:List cm):Bool:=(decide (1<=l.length)&&decide (l.length<=6))&&l.all jk
theorem e9 {b M:Bool} {I:St} (h:b=M):cw (some (.bool b)) 0 (λr s=>r= .bool M/\s= []) I:=by subst h;exact wR
theorem yZ6 (l:List cM) (hl:l.length<=12) (hx: ∀x∈l,dp x.kind/\ja x.e):Pure prog 135 [.sl .ro (l.map cM.row)] (.bool (Ht l)):=by
 obtain⟨n,hn⟩:=eX l.length
 generalize hM:Ht l=M
 unfold Ht at hM
 rw[hn]at hM
 have e1:decide ((1:Int)<=n)=decide (1<=n):=decide_eq_decide.2 om
 have e2:decide ((n:Int)<=6)=decide (n<=6):=decide_eq_decide.2 om
 have e3:decide ((1:Int)<n)= !decide (n<=1):=by
  by_cases h:n<=1
  .rw[ahi h,ahh om];rfl
  .rw[ahh h,ahi om];rfl
 refine iV 0 func135 ntmps135 results135 λc hc hb=> ?_
 refine zA ?_
 simp[go_sem]
 refine zI (S:=Nat) [0,5,6,7] (λi=> [.sl .ro (l.map cM.row),.sl .ro (l.map cM.row),.int .i64 n,.int .i64 (i:Int)]) (λ_=> []) (λi=>n - i)
  (λi=>i<=n/\((l.drop i).all (tc n)&&(decide (1<=n)&&decide (n<=6)))=M) hc hb 0 ⟨A4 _,by rw[Bj];exact hM⟩ ?_ ?_
 .exact ia rfl (zO (by simp[go_sem,hn]) rfl)
 rintro i ⟨hi,hinv⟩
 by_cases q:i<n
 rotate_left
 .rw[A9 om,Dj,B7]at hinv
  refine zA ?_
  simp[go_sem,q,hn,e1]
  refine xE (λw=> ?_) (λw=> ?_)
  .simp[go_sem,w,hn,e2]
   exact e9 (by rw[<-hinv,w,B7])
  .simp[go_sem,w]
   exact e9 (by rw[<-hinv,w];rfl)
 have hq:i<l.length:=om
 have ei:=zQ q om
 rw[Hr _ _ _ hq]at hinv
 obtain⟨x,ah⟩:=eX (l[i])
 obtain⟨hk,hE⟩:=hx x (ah▸A8 hq)
 have ai:=SR x.e (by have:=hE.wide.len;unfold maxLen;omega)
 have ae:=Hs 16 x.e dC hE.wide hE.dU
 rw[ah]at hinv
 obtain⟨b,aa⟩:=eX (tc n x)
 rw[aa]at hinv
 unfold tc at aa
 have yes:b=true->((l.drop (i+1)).all (tc n)&&(decide (1<=n)&&decide (n<=6)))=M:=λh=>by rw[h,B7]at hinv;exact hinv
 have no:b=false->false=M:=λh=>by rw[h]at hinv;exact hinv
 clear hinv
 generalize uG x.e=bl at ai aa
 generalize fw 16 x.e=me at ae aa
 simp only[C0]at ae
 refine zA ?_
 simp[go_sem,q,hq,ah]
 by_cases k1:x.kind=1
 .have ab:(x.kind==1)=true:=sU k1
  rw[ahg k1]at aa
  simp[go_sem,ab,hn,e3]
  refine xE (λw=> ?_) (λw=> ?_)
  .have w2:decide (n<=1)=true:=sU w
   rw[w2,B7]at aa
   simp[go_sem,w2]
   refine zL ai cB (zO sg (by rw[bJ.bS];rfl)) rfl ?_
   simp[go_sem]
   refine(A6 bl).elim (λw=> ?_) (λw=> ?_)
   .simp[go_sem,w,ei]
    exact zH (i+1) ⟨om,⟨om,yes (by rw[<-aa,w])⟩,aO⟩
   .simp[go_sem,w]
    exact e9 (no (by rw[<-aa,w]))
  .have w2:decide (n<=1)=false:=sU w
   rw[w2,Dp]at aa
   simp[go_sem,w2]
   exact e9 (no aa.symm)
 rw[ahf k1]at aa
 have ab:(x.kind==1)=false:=sU k1
 by_cases k3:x.kind=3
 .have ad:(x.kind==3)=true:=sU k3
  rw[ahg k3]at aa
  simp[go_sem,ab,ad]
  refine zL ai cB (zO sg (by rw[bJ.bS];rfl)) rfl ?_
  simp[go_sem]
  refine(A6 bl).elim (λw=> ?_) (λw=> ?_)
  .simp[go_sem,w,ei]
   exact zH (i+1) ⟨om,⟨om,yes (by rw[<-aa,w])⟩,aO⟩
  .simp[go_sem,w]
   exact e9 (no (by rw[<-aa,w]))
 rw[ahf k3]at aa
 have ad:(x.kind==3)=false:=sU k3
 by_cases k2:x.kind=2
 .have af:(x.kind==2)=true:=sU k2
  rw[ahg (.inl k2)]at aa
  simp[go_sem,ab,ad,af]
  refine zL ae cB (zO sg (by rw[bJ.bS];rfl)) rfl ?_
  simp[go_sem]
  refine(A6 me).elim (λw=> ?_) (λw=> ?_)
  .simp[go_sem,w,ei]
   exact zH (i+1) ⟨om,⟨om,yes (by rw[<-aa,w])⟩,aO⟩
  .simp[go_sem,w]
   exact e9 (no (by rw[<-aa,w]))
 have af:(x.kind==2)=false:=sU k2
 by_cases k4:x.kind=4
 .have aj:(x.kind==4)=true:=sU k4
  rw[ahg (.inr k4)]at aa
  simp[go_sem,ab,ad,af,aj]
  refine zL ae cB (zO sg (by rw[bJ.bS];rfl)) rfl ?_
  simp[go_sem]
  refine(A6 me).elim (λw=> ?_) (λw=> ?_)
  .simp[go_sem,w,ei]
   exact zH (i+1) ⟨om,⟨om,yes (by rw[<-aa,w])⟩,aO⟩
  .simp[go_sem,w]
   exact e9 (no (by rw[<-aa,w]))
 have aj:(x.kind==4)=false:=sU k4
 rw[ahf (λh=>h.elim k2 k4)]at aa
 simp[go_sem,ab,ad,af,aj]
 exact e9 (no aa.symm)
def xR {U:Type} (p:U->Bool):List U->Nat->Int
 | [],_=> -1
 |x::l,i=>if p x=true then(i:Int)else xR p l (i+1)
theorem DQ {U:Type} (p:U->Bool): ∀(l:List U) (i:Nat),decide (0<=xR p l i)=l.any p
 | [],i=>rfl
 |x::l,i=>by
  rw[xR,List.any_cons]
  split
  .rename_i h;rw[h];exact ahi om
  .rename_i h
   have h:p x=false:=sU h
   rw[h,C6,DQ p l (i+1)]
theorem wh2 (x:bJ) (hE:ja x):Pure prog 199 [.agg x.row] (.bool (!fw 16 x)):=by
 have aa:=Hs 16 x dC hE.wide hE.dU
 generalize fw 16 x=b at aa⊢
 simp only[C0]at aa
 refine iW 0 func199 ntmps199 results199 λc hc hb=>zM ?_
 simp[go_sem]
 refine zL aa cB (zO sg (by rw[bJ.bS];rfl)) rfl ?_
 simp[go_sem]
 exact wR
theorem wh1 (x:cm) (hn:x.name.length<=maxLen) (hE:ja x.e):Pure prog 200 [.agg x.row] (.bool (!jk x)):=by
 have aa:=Hs 16 x.e dC hE.wide hE.dU
 have hw:=Km x.name hn
 generalize hM:(!jk x)=M
 unfold jk at hM
 generalize fw 16 x.e=b at aa hM
 generalize k5 x.name=w at hw hM
 simp only[C0]at aa
 refine iW 0 func200 ntmps200 results200 λc hc hb=>zM ?_
 simp[go_sem]
 refine zL hw cB (zO sg rfl) rfl ?_
 refine(A6 w).elim (λp=> ?_) (λp=> ?_)
 .simp[go_sem,p]
  refine zL aa cB (zO sg (by rw[bJ.bS];rfl)) rfl ?_
  simp[go_sem]
  exact e9 (by rw[<-hM,p,B7])
 .simp[go_sem,p]
  exact e9 (by rw[<-hM,p];rfl)
theorem wi7 (l:List bJ) (hl:l.length<=12) (hx: ∀x∈l,ja x):Pure prog 252 [.sl .ro (l.map bJ.row),.fn 199 []] (.int .i64 (xR (λx=> !fw 16 x) l 0)):=by
 generalize hM:xR (λx=> !fw 16 x) l 0=M
 have ret: ∀(r:Int) (I:St),r=M->cw (some (.int .i64 r)) 0 (λr s=>r= .int .i64 M/\s= []) I:=λr I h=>by subst h;exact wR
 refine iV 0 func252 ntmps252 results252 λc hc hb=> ?_
 refine zA ?_
 simp[go_sem]
 refine zI (S:=Nat) [0,1,6,7,8] (λi=> [.sl .ro (l.map bJ.row),.fn 199 [],.sl .ro (l.map bJ.row),.int .i64 l.length,.int .i64 (i:Int)]) (λ_=> []) (λi=>l.length - i)
  (λi=>i<=l.length/\xR (λx=> !fw 16 x) (l.drop i) i=M) hc hb 0 ⟨A4 _,hM⟩ ?_ ?_
 .exact aO
 rintro i ⟨hi,hinv⟩
 by_cases q:i<l.length
 rotate_left
 .rw[A9 om]at hinv
  refine zA ?_
  simp[go_sem,q]
  exact ret _ _ hinv
 have ei:=zQ q om
 obtain⟨x,ab⟩:=eX (l[i])
 rw[A5 q,ab,xR]at hinv
 have aa:=wh2 x (hx x (ab▸A8 q))
 generalize (!fw 16 x)=b at aa hinv
 refine zA ?_
 simp[go_sem,q,ab]
 refine zL aa cB (zO sg (by rw[bJ.bS];rfl)) rfl ?_
 refine(A6 b).elim (λp=> ?_) (λp=> ?_)
 .rw[ahg p]at hinv
  simp[go_sem,p]
  exact ret _ _ hinv
 .rw[ahf (by rw[p];decide)]at hinv
  simp[go_sem,p,ei]
  exact zH (i+1) ⟨om,⟨om,hinv⟩,aO⟩
theorem wi2 (l:List bJ) (hl:l.length<=12) (hx: ∀x∈l,ja x):Pure prog 198 [.sl .ro (l.map bJ.row),.fn 199 []] (.bool (!l.all (fw 16))):=by
 have h:=wi7 l hl hx
 have hg:=DQ (λx=> !fw 16 x) l 0
 have ha:l.any (λx=> !fw 16 x)= !l.all (fw 16):=by rw[List.all_eq_not_any_not,Bool.not_not]
 rw[ha]at hg
 rw[<-hg]
 generalize xR (λx=> !fw 16 x) l 0=n at h⊢
 refine iW 0 func198 ntmps198 results198 λc hc hb=>zM ?_
 simp[go_sem]
 refine zL h cB (zO sg rfl) rfl ?_
 simp[go_sem]
 exact wR
theorem wi4 (l:List cm) (hl:l.length<=12) (hx: ∀x∈l,x.name.length<=1048576/\ja x.e):Pure prog 205 [.sl .ro (l.map cm.row),.fn 200 []] (.int .i64 (xR (λx=> !jk x) l 0)):=by
 generalize hM:xR (λx=> !jk x) l 0=M
 have ret: ∀(r:Int) (I:St),r=M->cw (some (.int .i64 r)) 0 (λr s=>r= .int .i64 M/\s= []) I:=λr I h=>by subst h;exact wR
 refine iV 0 func205 ntmps205 results205 λc hc hb=> ?_
 refine zA ?_
 simp[go_sem]
 refine zI (S:=Nat) [0,1,6,7,8] (λi=> [.sl .ro (l.map cm.row),.fn 200 [],.sl .ro (l.map cm.row),.int .i64 l.length,.int .i64 (i:Int)]) (λ_=> []) (λi=>l.length - i)
  (λi=>i<=l.length/\xR (λx=> !jk x) (l.drop i) i=M) hc hb 0 ⟨A4 _,hM⟩ ?_ ?_
 .exact aO
 rintro i ⟨hi,hinv⟩
 by_cases q:i<l.length
 rotate_left
 .rw[A9 om]at hinv
  refine zA ?_
  simp[go_sem,q]
  exact ret _ _ hinv
 have ei:=zQ q om
 obtain⟨x,ab⟩:=eX (l[i])
 rw[A5 q,ab,xR]at hinv
 obtain⟨ae,ad⟩:=hx x (ab▸A8 q)
 have aa:=wh1 x (by unfold maxLen;omega) ad
 generalize (!jk x)=b at aa hinv
 refine zA ?_
 simp[go_sem,q,ab]
 refine zL aa cB (zO sg rfl) rfl ?_
 refine(A6 b).elim (λp=> ?_) (λp=> ?_)
 .rw[ahg p]at hinv
  simp[go_sem,p]
  exact ret _ _ hinv
 .rw[ahf (by rw[p];decide)]at hinv
  simp[go_sem,p,ei]
  exact zH (i+1) ⟨om,⟨om,hinv⟩,aO⟩
theorem wi0 (l:List cm) (hl:l.length<=12) (hx: ∀x∈l,x.name.length<=1048576/\ja x.e):Pure prog 143 [.sl .ro (l.map cm.row),.fn 200 []] (.bool (!l.all jk)):=by
 have h:=wi4 l hl hx
 have hg:=DQ (λx=> !jk x) l 0
 have ha:l.any (λx=> !jk x)= !l.all jk:=by rw[List.all_eq_not_any_not,Bool.not_not]
 rw[ha]at hg
 rw[<-hg]
 generalize xR (λx=> !jk x) l 0=n at h⊢
 refine iW 0 func143 ntmps143 results143 λc hc hb=>zM ?_
 simp[go_sem]
 refine zL h cB (zO sg rfl) rfl ?_
 simp[go_sem]
 exact wR
theorem Hw (n:Nat):decide ((1:Int)<=n)=decide (1<=n):=(by grind)
theorem SU (n k:Nat):decide ((n:Int)<=k)=decide (n<=k):=sm
theorem xt5 (l:List (List bJ)) (hl:l.length<=20) (hx: ∀r∈l,r.length<=12/\ ∀e∈r,ja e):Pure prog 136 [.sl .ro (l.map λr=> [V.sl .ro (r.map bJ.row)])] (.bool (Hu l)):=by
 obtain⟨n,hn⟩:=eX l.length
 generalize hM:Hu l=M
 unfold Hu at hM
 rw[hn]at hM
 have e1:=Hw n
 have e2:decide ((n:Int)<=16)=decide (n<=16):=SU n 16
 refine iV 0 func136 ntmps136 results136 λc hc hb=> ?_
 refine zA ?_
 simp[go_sem]
 refine zI (S:=Nat) [0,5,6,7] (λi=> [.sl .ro (l.map λr=> [V.sl .ro (r.map bJ.row)]),.sl .ro (l.map λr=> [V.sl .ro (r.map bJ.row)]),.int .i64 n,.int .i64 (i:Int)]) (λ_=> []) (λi=>n - i)
  (λi=>i<=n/\((l.drop i).all td&&(decide (1<=n)&&decide (n<=16)))=M) hc hb 0 (by grind) ?_ ?_
 .exact ia rfl (zO (by simp[go_sem,hn]) rfl)
 rintro i ⟨hi,hinv⟩
 by_cases q:i<n
 rotate_left
 .rw[A9 om,Dj,B7]at hinv
  refine zA ?_
  simp[go_sem,q,hn,e1]
  refine xE (λw=> ?_) (λw=> ?_)
  .simp[go_sem,w,hn,e2]
   exact e9 (by grind)
  .simp[go_sem,w]
   exact e9 (by grind)
 have hq:i<l.length:=om
 have ei:=zQ q om
 rw[Hr _ _ _ hq]at hinv
 obtain⟨r,hr⟩:=eX (l[i])
 obtain⟨af,ah⟩:=hx r (by grind)
 have aa:=wi2 r af ah
 rw[hr]at hinv
 obtain⟨b,ab⟩:=eX (td r)
 rw[ab]at hinv
 unfold td at ab
 have yes:b=true->((l.drop (i+1)).all td&&(decide (1<=n)&&decide (n<=16)))=M:=(by grind)
 have no:b=false->false=M:=(by grind)
 clear hinv
 generalize r.all (fw 16)=ra at aa ab
 have ad:((r.length:Int)==0)= !decide (1<=r.length):=by
  grind
 have ae:decide ((6:Int)<r.length)= !decide (r.length<=6):=by
  grind
 generalize decide (1<=r.length)=d1 at ad ab
 generalize decide (r.length<=6)=d2 at ae ab
 refine zA ?_
 simp[go_sem,q,hq,hr,ad]
 refine(A6 d1).elim (λw=> ?_) (λw=> ?_)
 rotate_left
 .simp[go_sem,w]
  exact e9 (by grind)
 simp[go_sem,w,ae]
 refine(A6 d2).elim (λw2=> ?_) (λw2=> ?_)
 rotate_left
 .simp[go_sem,w2]
  exact e9 (by grind)
 simp[go_sem,w2]
 refine zL aa cB (zO (by rfl) rfl) rfl ?_
 simp[go_sem]
 refine(A6 ra).elim (λw3=> ?_) (λw3=> ?_)
 .simp[go_sem,w3,ei]
  exact zH (i+1) ⟨om,(by grind),ia rfl (zO (by rfl) rfl)⟩
 .simp[go_sem,w3]
  exact e9 (by grind)
theorem xt6 (l:List cm) (hl:l.length<=12) (hx: ∀x∈l,x.name.length<=1048576/\ja x.e):Pure prog 137 [.sl .ro (l.map cm.row)] (.bool (Hv l)):=by
 have aa:=wi0 l hl hx
 generalize hM:Hv l=M
 unfold Hv at hM
 generalize l.all jk=a at aa hM
 obtain⟨n,hn⟩:=eX l.length
 rw[hn]at hM
 have e1:=Hw n
 have e2:decide ((n:Int)<=6)=decide (n<=6):=SU n 6
 refine iW 0 func137 ntmps137 results137 λc hc hb=>zM ?_
 simp[go_sem,hn,e1]
 refine xE (λw=> ?_) (λw=> ?_)
 rotate_left
 .simp[go_sem,w]
  exact e9 (by grind)
 simp[go_sem,w,hn,e2]
 refine xE (λw2=> ?_) (λw2=> ?_)
 rotate_left
 .simp[go_sem,w2]
  exact e9 (by grind)
 simp[go_sem,w2]
 refine zL aa cB (zO (by rfl) rfl) rfl ?_
 simp[go_sem]
 exact e9 (by grind)
def SV (st:bW):Bool:=
 !((!(st.kind==1)&&(!st.items.isEmpty||(!st.order.isEmpty||(st.down|| !(st.bQ==0)))))||((!(st.kind==2)&& !st.rows.isEmpty)||(!(st.kind==3)&& !st.cD.isEmpty)))
def SX (st:bW):Bool:=k5 st.table&&(if st.dM=true then fw 16 st.cE else uG st.cE)
def NL (st:bW):Bool:=
 if st.kind=1 then Ht st.items&&(((st.order.isEmpty&& !st.down)||k5 st.order)&&decide (-1<=st.bQ))
 else if st.kind=2 then Hu st.rows&& !st.dM
 else if st.kind=3 then Hv st.cD
 else st.kind==4
def jZ (st:bW):Bool:=SX st&&(SV st&&NL st)
theorem NM {U:Type} (l:List U):decide (0<l.length)= !l.isEmpty:=by
 grind
theorem xt7 (st:bW) (hs:kO st):Pure prog 96 [.agg st.row] (.bool (jZ st)):=by
 have ai:=Km st.table (by have:=hs.table;grind[maxLen])
 have aj:=Km st.order (by have:=hs.order;grind[maxLen])
 have ae:=Hs 16 st.cE dC hs.cE.wide hs.cE.dU
 have ak:=SR st.cE (by have:=hs.cE.wide.len;grind[maxLen])
 have hit:=yZ6 st.items hs.items.1 hs.items.2
 have al:=xt5 st.rows hs.rows.1 hs.rows.2
 have an:=xt6 st.cD hs.cD.1 hs.cD.2
 simp only[C0]at ae
 generalize hM:jZ st=M
 unfold jZ SX SV NL at hM
 obtain⟨k,hk⟩:=eX st.kind
 obtain⟨f,hf⟩:=eX st.dM
 obtain⟨d,hd⟩:=eX st.down
 rw[hk,hf,hd]at hM
 generalize k5 st.table=wt at ai hM
 generalize k5 st.order=wo at aj hM
 generalize fw 16 st.cE=me at ae hM
 generalize uG st.cE=bl at ak hM
 generalize Ht st.items=mi at hit hM
 generalize Hu st.rows=mr at al hM
 generalize Hv st.cD=ms at an hM
 have ao:=NM st.items
 have aq:=NM st.rows
 have ar:=NM st.cD
 have a6:(st.order != [])= !st.order.isEmpty:=by grind
 have ay:(st.order== [])=st.order.isEmpty:=sm
 generalize st.items.isEmpty=ie at ao hM
 generalize st.rows.isEmpty=re at aq hM
 generalize st.cD.isEmpty=se at ar hM
 have hz: ∀b:Bool,b=M-> ∀I:St,cw (some (.bool b)) 0 (λr s=>r= .bool M/\s= []) I:=λb h I=>e9 h
 have af:((wt&&(if f=true then me else bl))=false->false=M)/\((wt&&(if f=true then me else bl))=true->(!((!(k==1)&&(!ie||(!st.order.isEmpty||(d|| !(st.bQ==0)))))||((!(k==2)&& !re)||(!(k==3)&& !se)))&&(if k=1 then mi&&(((st.order.isEmpty&& !d)||wo)&&decide (-1<=st.bQ))else if k=2 then mr&& !f else if k=3 then ms else k==4))=M):=by
  grind
 obtain⟨az,ad⟩:=af
 clear hM
 refine iV 0 func96 ntmps96 results96 λc hc hb=> ?_
 refine zN (zA ?_)
 simp[go_sem]
 refine nI (S:=Unit) [1] (λ_=> [.ptr 0 0]) (λ_=> [.box st.row]) (λ_=>(wt&&(if f=true then me else bl))=true) hc hb ?_ ?_
 .refine zA ?_
  simp[go_sem]
  refine zL ai cB (zO (by rfl) rfl) rfl ?_
  refine(A6 wt).elim (λw=> ?_) (λw=> ?_)
  rotate_left
  .simp[go_sem,w]
   exact e9 (by grind)
  simp[go_sem,w,hf]
  refine(A6 f).elim (λw2=> ?_) (λw2=> ?_)
  .simp[go_sem,w2]
   refine zL ae cB (zO sg (by rw[bJ.bS];rfl)) rfl ?_
   refine(A6 me).elim (λw3=> ?_) (λw3=> ?_)
   .simp[go_sem,w3,w2]
    exact zH () ⟨by grind,cd 1 (by grind) rfl (by rfl) om (zD (by rfl) rfl)⟩
   .simp[go_sem,w3]
    exact e9 (by grind)
  .simp[go_sem,w2]
   refine zL ak cB (zO sg (by rw[bJ.bS];rfl)) rfl ?_
   refine(A6 bl).elim (λw3=> ?_) (λw3=> ?_)
   .simp[go_sem,w3]
    exact zH () ⟨by grind,cd 1 (by grind) rfl (by rfl) om (zD (by rfl) rfl)⟩
   .simp[go_sem,w3]
    exact e9 (by grind)
 .rintro _ h1
  have hM:=ad h1
  clear az ad
  generalize hB:(if k=1 then mi&&(((st.order.isEmpty&& !d)||wo)&&decide (-1<=st.bQ))else if k=2 then mr&& !f else if k=3 then ms else k==4)=B at hM
  obtain⟨S,hS⟩:=eX (((!(k==1)&&(!ie||(!st.order.isEmpty||(d|| !(st.bQ==0)))))||((!(k==2)&& !re)||(!(k==3)&& !se))))
  rw[hS]at hM
  have no:S=true->false=M:=(by grind)
  have yes:S=false->B=M:=(by grind)
  clear hM
  have au:(st.bQ !=0)= !(st.bQ==0):=rfl
  have av:(st.kind !=2)= !(k==2):=by grind
  have aw:(st.kind !=3)= !(k==3):=by grind
  have ax:(st.kind==1)=(k==1):=by rw[hk]
  refine zN (zA ?_)
  simp[go_sem]
  refine nI (S:=Unit) [1] (λ_=> [.ptr 0 0]) (λ_=> [.box st.row]) (λ_=>S=false) hc hb ?_ ?_
  .generalize (st.bQ==0)=l0 at au hS
   generalize (k==1)=k1 at ax hS
   generalize (k==2)=k2 at av hS
   generalize (k==3)=k3 at aw hS
   clear yes hB
   refine zA ?_
   simp[go_sem,ax]
   repeat' (first
    |(refine xE (λw=> ?_) (λw=> ?_)<;>simp[go_sem,w,av,aw,au,ao,aq,ar,hd])
    |(refine zU (λw=> ?_) (λw=> ?_)<;>simp[go_sem,w]))
   all_goals first
    |exact e9 (by grind)
    |exact zH () ⟨by rw[<-hS];simp_all,cd 1 (by simp[go_sem,hd]<;>simp_all) rfl (by simp[bT,cQ,cL]) om (zD sg rfl)⟩
  .rintro _ a1
   have hM:=yes a1
   rw[<-hB]at hM
   clear yes no hS hB
   refine zA ?_
   simp[go_sem,hk]
   by_cases k1:k=1
   .have aa:(k==1)=true:=by grind
    rw[ahg k1]at hM
    have a7:decide (-1<=st.bQ)=decide (-1<=st.bQ):=rfl
    simp[go_sem,aa]
    refine zL hit cB (zO (by rfl) rfl) rfl ?_
    simp[go_sem]
    repeat' (first
     |(refine xE (λw=> ?_) (λw=> ?_)<;>simp[go_sem,w,ay,hd])
     |(refine zL aj cB (zO sg rfl) rfl ?_;simp[go_sem]))
    all_goals exact e9 (by rw[<-hM];simp_all)
   have aa:(k==1)=false:=by grind
   rw[ahf k1]at hM
   by_cases k2:k=2
   .have ab:(k==2)=true:=by grind
    rw[ahg k2]at hM
    simp[go_sem,aa,ab]
    refine zL al cB (zO (by rfl) rfl) rfl ?_
    simp[go_sem]
    refine(A6 mr).elim (λw=> ?_) (λw=> ?_)
    .simp[go_sem,w,hf]
     exact e9 (by grind)
    .simp[go_sem,w]
     exact e9 (by grind)
   have ab:(k==2)=false:=by grind
   rw[ahf k2]at hM
   by_cases k3:k=3
   .have ah:(k==3)=true:=by grind
    rw[ahg k3]at hM
    simp[go_sem,aa,ab,ah]
    refine zL an cB (zO (by rfl) rfl) rfl ?_
    simp[go_sem]
    exact e9 hM
   have ah:(k==3)=false:=by grind
   rw[ahf k3]at hM
   simp[go_sem,aa,ab,ah]
   exact e9 hM
def SY (l:dR):Bool:=(decide (0<=l.mode)&&(decide (l.mode<=2)&&(decide (0<=l.n)&&(!(l.mode==0&& !(l.n==0))))))&&(decide (1<=l.stmts.length)&&decide (l.stmts.length<=8))
def mg (l:dR):Bool:=SY l&&l.stmts.all jZ
theorem xx4 (l:dR) (hl:ki l):Pure prog 56 [.agg l.row] (.bool (mg l)):=by
 obtain⟨L,hL⟩:=eX l.stmts
 obtain⟨m,hm⟩:=eX l.mode
 obtain⟨n,hn⟩:=eX l.n
 obtain⟨af,ad⟩:=hl.stmts
 rw[hL]at af ad
 generalize hM:mg l=M
 unfold mg SY at hM
 rw[hL,hm,hn]at hM
 have no: ∀h:Bool,(h&&L.all jZ)=M->h=false->false=M:=sm
 refine iV 0 func56 ntmps56 results56 λc hc hb=> ?_
 refine zN (zA ?_)
 simp[go_sem]
 refine nI (S:=Unit) [1] (λ_=> [.ptr 0 0]) (λ_=> [.box l.row]) (λ_=>L.all jZ=M) hc hb ?_ ?_
 .have d1:decide (m<0)= !decide (0<=m):=by
   grind
  have d2:decide (2<m)= !decide (m<=2):=by
   grind
  have d3:decide (n<0)= !decide (0<=n):=by
   grind
  have d4:((L.length:Int)==0)= !decide (1<=L.length):=by
   grind
  have d5:decide ((8:Int)<L.length)= !decide (L.length<=8):=by
   grind
  have d6:(n !=0)= !(n==0):=rfl
  generalize decide (0<=m)=b1 at d1 hM
  generalize decide (m<=2)=b2 at d2 hM
  generalize decide (0<=n)=b3 at d3 hM
  generalize decide (1<=L.length)=b4 at d4 hM
  generalize decide (L.length<=8)=b5 at d5 hM
  generalize (n==0)=b6 at d6 hM
  have ah:=no _ hM
  have ae:((b1&&(b2&&(b3&&(!(m==0&& !b6)))))&&(b4&&b5))=true->L.all jZ=M:=(by grind)
  generalize ai:(m==0)=b7 at ah ae
  clear hM no
  refine zA ?_
  simp[go_sem,hm,hn,hL,d1]
  repeat' (first
   |(refine xE (λw=> ?_) (λw=> ?_)<;>simp[go_sem,w,ai,d2,d3,d4,d5,d6])
   |(refine zU (λw=> ?_) (λw=> ?_)<;>simp[go_sem,w]))
  all_goals first
   |exact e9 (by grind)
   |exact zH () ⟨(by grind),cd 1 (by simp[go_sem,hm,hn,hL]) rfl (by simp[bT,cQ,cL]) om (zD sg rfl)⟩
 .rintro _ hM
  refine zA ?_
  simp[go_sem,hL]
  refine zI (S:=Nat) [41,42,43] (λi=> [.sl .ro (L.map bW.row),.int .i64 L.length,.int .i64 (i:Int)]) (λ_=> []) (λi=>L.length - i) (λi=>i<=L.length/\(L.drop i).all jZ=M) hc hb 0 (by grind) ?_ ?_
  .exact ia rfl (zO (by rfl) rfl)
  rintro i ⟨hi,hinv⟩
  by_cases q:i<L.length
  rotate_left
  .rw[A9 om]at hinv
   refine zA ?_
   simp[go_sem,q]
   exact e9 hinv
  have ei:=zQ q om
  rw[Hr _ _ _ q]at hinv
  obtain⟨st,ab⟩:=eX (L[i])
  have aa:=xt7 st (ad st (ab▸A8 q))
  rw[ab]at hinv
  generalize jZ st=b at aa hinv
  refine zA ?_
  simp[go_sem,q,ab]
  refine zL aa cB (zO (by rfl) rfl) rfl ?_
  refine(A6 b).elim (λp=> ?_) (λp=> ?_)
  .rw[p,B7]at hinv
   simp[go_sem,p,ei]
   exact zH (i+1) ⟨om,(by grind),ia rfl (zO (by rfl) rfl)⟩
  .rw[p,Dp]at hinv
   simp[go_sem,p]
   exact e9 hinv
def oI (T:bL) (e:bJ) (want:Int):Int:=if(iD T e).2≠0 then(iD T e).2 else if(iD T e).1≠want/\(iD T e).1≠0 then 15 else 0
theorem eP {b M:Int} {I:St} (h:b=M):cw (some (.int .i64 b)) 0 (λr s=>r= .int .i64 M/\s= []) I:=by subst h;exact wR
theorem Kn (T:bL) (hT:T.ca.length<=maxLen) (e:bJ) (he:ja e) (want:Int):Pure prog 141 [.agg T.row,.agg e.row,.int .i64 want] (.int .i64 (oI T e want)):=by
 have h:=Kj T hT e he
 generalize hM:oI T e want=M
 unfold oI at hM
 generalize iD T e=k at h hM
 refine iW 0 func141 ntmps141 results141 λc hc hb=>zM ?_
 simp[go_sem]
 refine zL h cB (zO sg (by rw[bJ.bS];rfl)) rfl ?_
 simp[go_sem,wF]
 by_cases q1:k.2=0
 rotate_left
 .have aa:(k.2 !=0)=true:=sU q1
  rw[ahg q1]at hM
  simp[go_sem,aa]
  exact eP hM
 have aa:(k.2 !=0)=false:=sU q1
 rw[ahf (λh=>h q1)]at hM
 simp[go_sem,aa]
 by_cases q2:k.1=want
 .have ab:(k.1 !=want)=false:=sU q2
  rw[ahf (λh=>h.1 q2)]at hM
  simp[go_sem,ab]
  exact eP hM
 have ab:(k.1 !=want)=true:=sU q2
 simp[go_sem,ab]
 by_cases q3:k.1=0
 .have ad:(k.1 !=0)=false:=sU q3
  rw[ahf (λh=>h.2 q3)]at hM
  simp[go_sem,ad]
  exact eP hM
 .have ad:(k.1 !=0)=true:=sU q3
  rw[ahg ⟨q2,q3⟩]at hM
  simp[go_sem,ad]
  exact eP hM
def zp (T:bL) (st:bW):Int:=if st.dM=true then oI T st.cE 1 else 0
theorem SZ (T:bL) (hT:T.ca.length<=maxLen) (st:bW) (hs:kO st):Pure prog 101 [.agg T.row,.agg st.row] (.int .i64 (zp T st)):=by
 have h:=Kn T hT st.cE hs.cE 1
 generalize hM:zp T st=M
 unfold zp at hM
 generalize oI T st.cE 1=k at h hM
 refine iW 0 func101 ntmps101 results101 λc hc hb=>zM ?_
 simp[go_sem]
 refine(A6 st.dM).elim (λw=> ?_) (λw=> ?_)
 .rw[ahg w]at hM
  simp[go_sem,w]
  refine zL h cB (zO sg (by rw[bJ.bS];rfl)) rfl ?_
  simp[go_sem]
  exact eP hM
 .rw[ahf (by rw[w];decide)]at hM
  simp[go_sem,w]
  exact eP hM
def FG (T:bL) (x:cM):Int:=if x.kind=2 then(iD T x.e).2 else if x.kind=4 then oI T x.e 2 else 0
def qB (T:bL):List cM->Int
 | []=>0
 |x::l=>if FG T x≠0 then FG T x else qB T l
def tf (l:List cM):Bool:=l.any λx=>x.kind==2
def rJ (l:List cM):Bool:=l.any λx=>x.kind==3||x.kind==4
def Hx (T:bL) (st:bW):Int:=if st.order.isEmpty=true then 0 else if cR T st.order<0 then 14 else if rJ st.items=true then 9 else 0
def Ko (T:bL) (st:bW):Int:=
 if qB T st.items≠0 then qB T st.items else if(tf st.items&&rJ st.items)=true then 9 else if zp T st≠0 then zp T st else Hx T st
theorem xB8 (T:bL) (hT:T.ca.length<=maxLen) (st:bW) (hs:kO st):Pure prog 98 [.agg T.row,.agg st.row] (.int .i64 (Ko T st)):=by
 obtain⟨L,hL⟩:=eX st.items
 obtain⟨ao,aj⟩:=hs.items
 rw[hL]at ao aj
 have ai:=SZ T hT st hs
 have af:=FE T st.order hT
 rw[show iy (λc:fg=>c.name==st.order) T.ca 0=cR T st.order from rfl]at af
 generalize hM:Ko T st=M
 unfold Ko Hx at hM
 rw[hL]at hM
 refine iV 0 func98 ntmps98 results98 λc hc hb=> ?_
 refine zN (zA ?_)
 simp[go_sem]
 refine zN (zA ?_)
 simp[go_sem]
 refine nI (S:=Unit) [2,3,5,6] (λ_=> [.ptr 0 0,.ptr 1 0,.bool (tf L),.bool (rJ L)]) (λ_=> [.box T.row,.box st.row]) (λ_=>qB T L=0) hc hb ?_ ?_
 .refine zN (zA ?_)
  simp[go_sem,hL]
  refine y4 ?_
  refine zI (S:=Nat×Bool×Bool) [2,3,5,6,12,13,14] (λu=> [.ptr 0 0,.ptr 1 0,.bool u.2.1,.bool u.2.2,.sl .ro (L.map cM.row),.int .i64 L.length,.int .i64 (u.1:Int)]) (λ_=> [.box T.row,.box st.row]) (λu=>L.length - u.1)
   (λu=>u.1<=L.length/\(u.2.1||tf (L.drop u.1))=tf L/\(u.2.2||rJ (L.drop u.1))=rJ L/\qB T (L.drop u.1)=qB T L) hc hb (0,false,false) ⟨A4 _,sm,sm,sm⟩ ?_ ?_
  .exact cd 2 (by simp[go_sem,hL]) rfl (by simp[bT,cQ,cL,bL.row,bW.row]) (A4 _) (zD sg rfl)
  rintro⟨i,pl,wh⟩ ⟨hi,hp,hw,hinv⟩
  simp only at hi hp hw hinv
  by_cases q:i<L.length
  rotate_left
  .rw[A9 om]at hp hw hinv
   have hp:pl=tf L:=by rw[<-hp];exact(Bool.or_false _).symm
   have hw:wh=rJ L:=by rw[<-hw];exact(Bool.or_false _).symm
   refine zA ?_
   simp[go_sem,q]
   exact zH () ⟨hinv.symm,aM 2 (by simp[bT,cQ,cL]) (zD (by simp[go_sem,hp,hw]) rfl)⟩
  have ei:=zQ q om
  obtain⟨x,hx⟩:=eX (L[i])
  have hE:=(aj x (hx▸A8 q)).2
  rw[A5 q,hx]at hp hw hinv
  unfold tf at hp
  unfold rJ at hw
  rw[List.any_cons]at hp hw
  rw[qB]at hinv
  have bad:FG T x≠0->FG T x=M:=λh=>by
   rw[ahg h]at hinv
   rw[<-hM,<-hinv,ahg h]
  have dU:FG T x=0->qB T (L.drop (i+1))=qB T L:=λh=>by
   rw[ahf (λg=>g h)]at hinv
   exact hinv
  clear hinv
  unfold FG at bad dU
  have ak:=Kj T hT x.e hE
  have al:=Kn T hT x.e hE 2
  generalize iD T x.e=ty at ak bad dU
  generalize oI T x.e 2=kc at al bad dU
  have go: ∀(a b:Bool) (e I),(a||tf (L.drop (i+1)))=tf L->(b||rJ (L.drop (i+1)))=rJ L->qB T (L.drop (i+1))=qB T L->At 0 [2,3,5,6,12,13,14] [.ptr 0 0,.ptr 1 0,.bool a,.bool b,.sl .ro (L.map cM.row),.int .i64 L.length,.int .i64 ((i+1:Nat):Int)] [.box T.row,.box st.row] e I->
   Vx.Next (λs':Nat×Bool×Bool=>L.length - s'.1<L.length - i/\(s'.1<=L.length/\(s'.2.1||tf (L.drop s'.1))=tf L/\(s'.2.2||rJ (L.drop s'.1))=rJ L/\qB T (L.drop s'.1)=qB T L)/\At 0 [2,3,5,6,12,13,14] [.ptr 0 0,.ptr 1 0,.bool s'.2.1,.bool s'.2.2,.sl .ro (L.map cM.row),.int .i64 L.length,.int .i64 (s'.1:Int)] [.box T.row,.box st.row] e I) fx:=λa b e I h1 h2 h3 h4=>
    zH (i+1,a,b) ⟨by simp only;omega,⟨by simp only;omega,h1,h2,h3⟩,h4⟩
  refine zA ?_
  simp[go_sem,q,hx]
  by_cases k2:x.kind=2
  .have ab:(x.kind==2)=true:=sU k2
   rw[ahg k2]at bad dU
   have aq:(x.kind==3||x.kind==4)=false:=by rw[k2];rfl
   simp only[ab,Di,ahN]at hp
   simp only[aq,C6]at hw
   simp[go_sem,ab]
   refine zL ak cB (zO sg (by rw[bJ.bS];rfl)) rfl ?_
   by_cases qe:ty.2=0
   .have aa:(ty.2 !=0)=false:=sU qe
    simp[go_sem,wF,aa,ei]
    exact go true wh _ _ (by rw[Di];exact hp) hw (dU qe) (aN 2 (by simp[bT,cQ,cL,bL.row,bW.row]))
   .have aa:(ty.2 !=0)=true:=sU qe
    simp[go_sem,wF,aa]
    exact eP (bad qe)
  rw[ahf k2]at bad dU
  have ab:(x.kind==2)=false:=sU k2
  simp only[ab,C6]at hp
  by_cases k4:x.kind=4
  .have ae:(x.kind==4)=true:=sU k4
   rw[ahg k4]at bad dU
   simp only[ae,Di,ahN]at hw
   simp[go_sem,ab,ae]
   refine zL al cB (zO sg (by rw[bJ.bS];rfl)) rfl ?_
   by_cases qe:kc=0
   .have aa:(kc !=0)=false:=sU qe
    simp[go_sem,aa,ei]
    exact go pl true _ _ hp (by rw[Di];exact hw) (dU qe) (aN 2 (by simp[bT,cQ,cL,bL.row,bW.row]))
   .have aa:(kc !=0)=true:=sU qe
    simp[go_sem,aa]
    exact eP (bad qe)
  rw[ahf k4]at bad dU
  have ae:(x.kind==4)=false:=sU k4
  by_cases k3:x.kind=3
  .have ah:(x.kind==3)=true:=sU k3
   simp only[ah,Di,ahN]at hw
   simp[go_sem,ab,ae,ah,ei]
   exact go pl true _ _ hp (by rw[Di];exact hw) (dU rfl) (aN 2 (by simp[bT,cQ,cL,bL.row,bW.row]))
  .have ah:(x.kind==3)=false:=sU k3
   simp only[ah,ae,C6]at hw
   simp[go_sem,ab,ae,ah,ei]
   exact go pl wh _ _ hp hw (dU rfl) (aN 2 (by simp[bT,cQ,cL,bL.row,bW.row]))
 .rintro _ hI
  rw[ahf (λh=>h hI)]at hM
  generalize tf L=pl at hM⊢
  generalize rJ L=wh at hM⊢
  generalize zp T st=wc at ai hM
  have an:(st.order== [])=st.order.isEmpty:=by cases st.order<;>rfl
  refine zA ?_
  simp[go_sem]
  refine(A6 (pl&&wh)).elim (λw=> ?_) (λw=> ?_)
  .rw[ahg w]at hM
   have w1:pl:=by cases pl<;>simp_all
   have w2:wh:=by cases wh<;>simp_all
   simp[go_sem,w1,w2]
   exact eP hM
  rw[ahf (by rw[w];decide)]at hM
  refine xE (λw1=> ?_) (λw1=> ?_)
  .have w2:wh=false:=by cases wh<;>simp_all
   simp[go_sem,w1,w2]
   refine zL ai cB (zO sg rfl) rfl ?_
   by_cases qe:wc=0
   rotate_left
   .have aa:(wc !=0)=true:=sU qe
    rw[ahg qe]at hM
    simp[go_sem,aa]
    exact eP hM
   have aa:(wc !=0)=false:=sU qe
   rw[ahf (λh=>h qe)]at hM
   simp[go_sem,aa,an]
   refine(A6 st.order.isEmpty).elim (λw3=> ?_) (λw3=> ?_)
   .rw[ahg w3]at hM
    simp[go_sem,w3]
    exact eP hM
   rw[ahf (by rw[w3];decide)]at hM
   simp[go_sem,w3]
   refine zL af cB (zO sg rfl) rfl ?_
   by_cases qc:cR T st.order<0
   .have ad:decide (cR T st.order<0)=true:=ahi qc
    rw[ahg qc]at hM
    simp[go_sem,ad]
    exact eP hM
   have ad:decide (cR T st.order<0)=false:=ahh qc
   rw[ahf qc]at hM
   simp[go_sem,ad]
   rw[ahf (by rw[w2];decide)]at hM
   exact eP hM
  .have w1:pl=false:=sU w1
   simp[go_sem,w1]
   refine zL ai cB (zO sg rfl) rfl ?_
   by_cases qe:wc=0
   rotate_left
   .have aa:(wc !=0)=true:=sU qe
    rw[ahg qe]at hM
    simp[go_sem,aa]
    exact eP hM
   have aa:(wc !=0)=false:=sU qe
   rw[ahf (λh=>h qe)]at hM
   simp[go_sem,aa,an]
   refine(A6 st.order.isEmpty).elim (λw3=> ?_) (λw3=> ?_)
   .rw[ahg w3]at hM
    simp[go_sem,w3]
    exact eP hM
   rw[ahf (by rw[w3];decide)]at hM
   simp[go_sem,w3]
   refine zL af cB (zO sg rfl) rfl ?_
   by_cases qc:cR T st.order<0
   .have ad:decide (cR T st.order<0)=true:=ahi qc
    rw[ahg qc]at hM
    simp[go_sem,ad]
    exact eP hM
   have ad:decide (cR T st.order<0)=false:=ahh qc
   rw[ahf qc]at hM
   simp[go_sem,ad]
   refine(A6 wh).elim (λw4=> ?_) (λw4=> ?_)
   .rw[ahg w4]at hM
    simp[go_sem,w4]
    exact eP hM
   .rw[ahf (by rw[w4];decide)]at hM
    simp[go_sem,w4]
    exact eP hM
def jD (l:ahS) (v:Int):Nat:=(l.filter λx=>decide (x<v)).length
theorem S0 (l:ahS) (v:Int) (i:Nat) (hi:i<=l.length) (h1: ∀k (h:k<l.length),k<i->l[k]<v) (h2: ∀k (h:k<l.length),i<=k->v<=l[k]):jD l v=i:=by
 unfold jD
 have e:l=l.take i++l.drop i:=(B6 i l).symm
 rw[e,List.filter_append,Ap]
 have ha:(l.take i).filter (λx=>decide (x<v))=l.take i:=D4.2 λx hx=>by
  obtain⟨k,hk,rfl⟩:=Cj.1 hx
  rw[ahK]
  rw[B0]at hk
  exact ahi (h1 k om om)
 have hb:(l.drop i).filter (λx=>decide (x<v))= []:=Dy.2 λx hx=>by
  obtain⟨k,hk,rfl⟩:=Cj.1 hx
  rw[List.getElem_drop]
  rw[D7]at hk
  have:=h2 (i+k) om om
  simp;omega
 rw[ha,hb,B0]
 simp;omega
theorem S1 (l:ahS) (v:Int) (hs:l.Pairwise (· < ·)) (i:Nat) (h1: ∀k (h:k<l.length),k<i->l[k]<v) (h2: ∀k (h:k<l.length),i<=k->v<=l[k]):(if h:i<l.length then l[i]==v else false)=l.contains v:=by
 rw[Db,ahz]
 constructor
 .intro h
  split at h
  .rename_i hi
   rw[<-eq_of_beq h]
   exact A8 hi
  .cases h
 .intro h
  obtain⟨k,hk,rfl⟩:=Cj.1 h
  have ab:i<=k:=by
   rcases Bx k i with q|q
   .have:=h1 k hk q;omega
   .exact q
  have hi:i<l.length:=om
  rw[dif_pos hi]
  have aa:k=i:=by
   rcases Bx i k with q|q
   .have h3:=Cu.1 hs i k hi hk q
    have h4:=h2 i hi (A7 _)
    omega
   .omega
  subst aa
  exact beq_self_eq_true _
theorem xE7 (s k:Nat):(s:Int).fdiv k=((s/k:Nat):Int):=by
 rw[Dm _ om]
 rfl
theorem S2 (x:Int):Pure prog 236 [.int .i64 x] (.bool false):=by
 refine iW 0 func236 ntmps236 results236 λc hc hb=>zM ?_
 simp[go_sem]
 exact wR
def gk (x y:Int):Int:=if x<y then -1 else if x>y then 1 else 0
theorem NN (x y:Int):Pure prog 165 [.int .i64 x,.int .i64 y] (.int .i64 (gk x y)):=by
 generalize hM:gk x y=M
 have ret: ∀(r:Int) (I:St),r=M->cw (some (.int .i64 r)) 0 (λr s=>r= .int .i64 M/\s= []) I:=λr I h=>by subst h;exact wR
 unfold gk at hM
 refine iW 0 func165 ntmps165 results165 λc hc hb=>zM ?_
 simp[go_sem]
 refine pC (S2 x) ?_
 simp[go_sem]
 refine pC (S2 y) ?_
 simp[go_sem]
 repeat' (first|(refine zU (λq=> ?_) (λq=> ?_)<;>simp[go_sem,q]))
 all_goals exact ret _ _ (by rw[<-hM];simp only[ahl,ahn]at*;(repeat' split)<;>omega)
@[go_sem] def oJ (x:Int×List cp):List V:= [.int .i64 x.1,.sl .ro (x.2.map cp.row)]
theorem S3 (x:Int×List cp) (r:Int):Pure prog 176 [.agg (oJ x),.int .i64 r] (.int .i64 (gk x.1 r)):=by
 refine iW 0 func176 ntmps176 results176 λc hc hb=>zM ?_
 simp[go_sem]
 refine pC (NN x.1 r) ?_
 simp[go_sem]
 exact wR
theorem wi8 (l:List cp) (x:cp) (hl:l.length<=maxLen):Pure prog 245 [.sl .ro (l.map cp.row),.agg x.row] (.int .i64 (iy (λt:cp=>t==x) l 0)):=by
 generalize hM:iy (λt:cp=>t==x) l 0=M
 have ret: ∀(r:Int) (I:St),r=M->cw (some (.int .i64 r)) 0 (λr s=>r= .int .i64 M/\s= []) I:=λr I h=>by subst h;exact wR
 refine iV 0 func245 ntmps245 results245 λc hc hb=> ?_
 refine zA ?_
 simp[go_sem]
 refine zI (S:=Nat) [0,3,7,8] (λi=> [.sl .ro (l.map cp.row),.ptr 0 0,.int .i64 l.length,.int .i64 i]) (λ_=> [.box x.row]) (λi=>l.length - i) (λi=>i<=l.length/\iy (λt:cp=>t==x) (l.drop i) i=M) hc hb 0 ⟨A4 _,hM⟩ ?_ ?_
 .exact aN 1 rfl
 rintro i ⟨hi,hinv⟩
 by_cases q:i<l.length
 rotate_left
 .rw[Bn om,iy]at hinv
  refine zA ?_
  simp[go_sem,q]
  exact ret _ _ hinv
 have ei:=zQ q (by unfold maxLen at hl;omega)
 obtain⟨y,hy⟩:=eX (l[i])
 rw[A5 q,hy,iy]at hinv
 refine zA ?_
 simp[go_sem,q]
 refine yL [] 1 rfl kR kR ?_
 simp[go_sem,q,hy]
 have aa:(x.lo==y.lo&&x.hi==y.hi)=(y==x):=by
  rw[Db]
  obtain⟨a,b⟩:=x;obtain⟨c,d⟩:=y
  simp only[Ab,ahm,cp.mk.injEq]
  exact⟨λh=>⟨h.1.symm,h.2.symm⟩,λh=>⟨h.1.symm,h.2.symm⟩⟩
 rw[aa]
 refine zU (λw=> ?_) (λw=> ?_)
 .rw[ahg w]at hinv
  simp[go_sem]
  exact ret _ _ hinv
 .rw[ahf (by rw[w];decide)]at hinv
  simp[go_sem,ei]
  exact zH (i+1) ⟨om,⟨q,hinv⟩,aN 1 rfl⟩
theorem S4 (x:cp): ∀(l:List cp) (i:Nat),decide (0<=iy (λt:cp=>t==x) l i)=l.contains x
 | [],_=>rfl
 |y::l,i=>by
  unfold iy
  rw[Dh,<-S4 x l (i+1)]
  by_cases h:y=x
  .subst h;simp
  .rw[ahf (sU h),show(x==y)=false by simpa using λe=>h e.symm,C6]
theorem S5 (l:List cp) (x:cp) (hl:l.length<=maxLen):Pure prog 178 [.sl .ro (l.map cp.row),.agg x.row] (.bool (l.contains x)):=by
 have h:=wi8 l x hl
 rw[<-S4 x l 0]
 refine iW 0 func178 ntmps178 results178 λc hc hb=>zM ?_
 simp[go_sem]
 refine zL h cB (zO sg rfl) rfl ?_
 simp[go_sem]
 exact wR
theorem wo2 (uJ:List (Int×List cp)) (v:Int) (hl:uJ.length<=1000) (hs:(uJ.map (·.1)).Pairwise (· < ·)):
  Pure prog 175 [.sl .ro (uJ.map oJ),.int .i64 v,.fn 176 []] (.cy [.int .i64 (jD (uJ.map (·.1)) v:Nat),.bool ((uJ.map (·.1)).contains v)]):=by
 obtain⟨l,hle⟩:=eX (uJ.map (·.1))
 have aj:l.length=uJ.length:=by rw[<-hle];simp
 rw[hle]at hs⊢
 have ab: ∀(k:Nat) (hk:k<uJ.length),l[k]'om=(uJ[k]).1:=λk hk=>by subst hle;simp
 refine iV 0 func175 ntmps175 results175 λc hc hb=> ?_
 refine zA ?_
 simp[go_sem]
 refine zI (S:=Nat×Nat) [0,1,2,8,9,10] (λu=> [.sl .ro (uJ.map oJ),.int .i64 v,.fn 176 [],.int .i64 uJ.length,.int .i64 u.1,.int .i64 u.2]) (λ_=> []) (λu=>u.2 - u.1)
  (λu=>u.1<=u.2/\u.2<=l.length/\(∀k (h:k<l.length),k<u.1->l[k]<v)/\(∀k (h:k<l.length),u.2<=k->v<=l[k])) hc hb (0,l.length) ⟨A4 _,A7 _,λk _ h=>absurd h (Nat.not_lt_zero _),λk h h'=>by simp only at h';omega⟩ ?_ ?_
 .exact ia rfl (zO (by simp[go_sem,aj]) rfl)
 rintro⟨i,j⟩ ⟨ak,hj,h1,h2⟩
 simp only at ak hj h1 h2
 by_cases q:i<j
 rotate_left
 .have al:j=i:=om
  subst al
  have ai:=S0 l v j hj h1 h2
  have aa:=S1 l v hs j h1 h2
  rw[ai]
  by_cases q2:j<uJ.length
  .obtain⟨x,hx⟩:=eX (uJ[j])
   rw[dif_pos om,ab j q2,hx]at aa
   have an:(gk x.1 v==0)=(x.1==v):=by
    rw[Db];simp only[ahm];unfold gk
    (repeat' split)<;>omega
   have ae:=S3 x v
   rw[<-aa]
   refine zA ?_
   simp[go_sem,q2,hx]
   refine zL ae cB (zO sg rfl) rfl ?_
   simp[go_sem,an]
   exact wR
  .rw[dif_neg om]at aa
   rw[<-aa]
   refine zA ?_
   simp[go_sem,q2]
   exact wR
 obtain⟨h,hh⟩:=eX ((i+j)/2)
 have aq:i<=h:=om
 have ar:h<j:=om
 have af:h<uJ.length:=om
 have ad:h<l.length:=om
 obtain⟨x,hx⟩:=eX (uJ[h])
 have au:l[h]=x.1:=by rw[ab h af,hx]
 have e1:IntKind.i64.wrap ((i:Int)+j)=((i+j:Nat):Int):=by rw[bX om om];omega
 have em:IntKind.i64.wrap ((IntKind.u64.wrap (IntKind.i64.wrap ((i:Int)+j))).fdiv 2)=(h:Int):=by
  rw[e1,Vx.dL om om,show(2:Int)=((2:Nat):Int) by rfl,xE7,hh,bX om om]
 have eh:=zQ af om
 have ae:=S3 x v
 have ao:decide (gk x.1 v<0)=decide (x.1<v):=by
  rw[Db];simp only[ahl];unfold gk
  (repeat' split)<;>omega
 refine zA ?_
 simp[go_sem,q,em,af,hx]
 refine zL ae cB (zO sg rfl) rfl ?_
 simp[go_sem,ao]
 refine zU (λw=> ?_) (λw=> ?_)
 .have w:x.1<v:=sU w
  simp[go_sem,eh]
  refine zH (h+1,j) ⟨by simp only;omega,⟨by simp only;omega,by simp only;omega,λk hk ah=> ?_,h2⟩,aO⟩
  simp only at ah
  rcases Bx k h with q3|q3
  .have:=Cu.1 hs k h hk ad q3
   omega
  .have:k=h:=om
   subst this
   omega
 .have w: ¬x.1<v:=sU w
  simp[go_sem]
  refine zH (i,h) ⟨by simp only;omega,⟨by simp only;omega,by simp only;omega,h1,λk hk ah=> ?_⟩,aO⟩
  simp only at ah
  rcases Bx h k with q3|q3
  .have:=Cu.1 hs h k ad hk q3
   omega
  .have:k=h:=om
   subst this
   omega
end Go.Proofs.YtplackkccmeioaaGreat
namespace Go.Proofs.YtplackkccmeioaaGreat
open Go Go.Vx Go.Proofs.Tryz
set_option maxRecDepth 100000
theorem Kq {P:Program} {w:World} {dT sT ty el:TypeId} {b o aa ad ab ae s k:Nat} {a:Addr} {arr:ahT} {T:TypeId} {fz:Nat×Nat} {cs:ahR} (hu:P.underlying dT=some (.slice el)) (hs:(P.info? el).map (·.size)=some s)
  (hk:Nat.min ab aa=k) (hn:cs.length=k*s) (af: ∀j v,cs[j]? =some v->w.cell? (a.add j)=some v) (hh:w.heap[b]? =some (.cells arr T fz)) (hf:qU arr fz) (ai:o+cs.length<=arr.size) (h1: ∀v∈cs,v.oneCell'):
  (Builtin.copy_ #[dT,sT] ty #[.slice (some ⟨b,o,none⟩) aa ad,.slice (some a) ab ae]).run P w= .ok (goInt k) (yB w b (.cells (yC arr o cs) T fz)):=by
 have hl:=run_loadCells_list (P:=P) w a cs af
 have ah:=xN P b o T fz cs 0 arr w hh hf om h1
 rw[D5]at ah
 cases hq:P.info? el<;>simp_all[Builtin.copy_,run_underlying,Builtin.lenOf,Builtin.firstCells,sizeOf,typeInfo]
theorem S6 {P:Program} {ops:Array Oper} {o:Oper} {a:Act} {w:World} {K:Act->World->Prop} {Q:Exit->Act->World->Prop} {E:Prop}
  (hg:o.guard=none) (d x:Operand) (dT sT:TypeId) (aa:o.op=Op.call {callee:=Callee.builtin Builtin.copy,args:= #[d,x],argTypes:= #[dT,sT]})
  (v u:Value) (hd:a.eval d=v) (hx:a.eval x=u) {v':Value} {w':World} (hr:(Builtin.copy_ #[dT,sT] o.type #[v,u]).run P w= .ok v' w') (hK:K (a.put o.dst v') w'):
  if Region.wanted o (yielded ops a.tmps)=true then Oper.wp P o a w K Q else E:=by
 have hw:Region.wanted o (yielded ops a.tmps):=by grind[Region.wanted]
 rw[ahg hw]
 unfold Oper.wp
 simp[execOp,aa,resolve,invoke,builtin,hd,hx,hr,Result.andThen]
 exact hK
theorem xr8 (b vb c vc n i:Nat) (arr aa:ahT) (T Tv:TypeId) (fz ad:Nat×Nat) (D news:ahR) (w:World) (hi:i<n) (ak:n+1<=c) (aw:n<=9223372036854775806) (af:vb≠b)
  (hh:w.heap[b]? =some (.cells arr T fz)) (hf:qU arr fz) (ay:c*2<=arr.size) (hv:w.heap[vb]? =some (.cells aa Tv ad)) (ah:ft 2 aa ad) (ax:2<=aa.size)
  (hD:D=(arr.toList.drop (i*2)).take ((n - i)*2)) (hn:news=aa.toList.take 2) (al: ∀v∈D,v.oneCell') (an: ∀v∈news,v.oneCell'):
  Calls prog 177 #[.slice (some ⟨b,0,none⟩) n c,.int .i64 i,.slice (some ⟨vb,0,none⟩) 1 vc] w λe w'=>
   e= .returned (.slice (some ⟨b,0,none⟩) (n+1) c)/\w'=yB (yB w.drew b (.cells (yC arr ((i+1)*2) D) T fz)) b (.cells (yC (yC arr ((i+1)*2) D) (i*2) news) T fz):=by
 have az:i<=n:=om
 have a1: ¬((i:Int)=(n:Int)):=om
 have a6:(0:Int)<=(i:Int)+1:=om
 have a7:((i:Int)+1).toNat=i+1:=om
 have a8: ¬(c=i+1):=om
 have aA:(i:Int)<=(n:Int)+1:=om
 have aB:(i:Int)+1<=(n:Int)+1:=om
 have aC: ¬(c=i):=om
 have aD:IntKind.i64.wrap ((i:Int)+1)=(i:Int)+1:=by grind[IntKind.wrap_i64]
 have ao:D.length=(n - i)*2:=by grind
 have aq:news.length=2:=by grind
 have ar:w.frozen? ⟨vb,0,none⟩=false:=by
  have:=ah.1 0 om
  grind[World.frozen?]
 have au:w.frozen? ⟨vb,aa.size,none⟩=false:=by
  have:=ah.2.resolve_left dC
  grind[World.frozen?]
 have av: ∀lb cb,(callFunc 243 #[.slice (some ⟨vb,0,none⟩) 1 vc,.slice (some ⟨b,(i+1)*2,none⟩) lb cb]).run prog w= .ok (.value (.bool false)) w:=λlb cb=>by
  rw[run_callFunc_extern func243 (by rfl) (by rfl) (by rfl) (e:=Extern.SlicesOverlaps.overlaps #[164,164] #[4]) kR,
   Lib.run_overlaps_apart w 164 4 167 underlying164 2 sizeOf167 ⟨vb,0,none⟩ ⟨b,(i+1)*2,none⟩ 1 vc lb cb af Tv T aa.size arr.size (by grind[World.shape?]) (by grind[World.shape?]) om ar au]
  rfl
 have ab:(Tryz.prog.info? 167).map (·.size)=some 2:=by rfl
 have ae: ∀(j:Nat) v,D[j]? =some v->j<(n - i)*2/\arr[i*2+j]? =some v:=(by grind)
 have ai: ∀ty dc sc,(Builtin.copy_ #[164,164] ty #[.slice (some ⟨b,(i+1)*2,none⟩) (n - i) dc,.slice (some ⟨b,i*2,none⟩) (n+1 - i) sc]).run prog w.drew= .ok (goInt (n - i:Nat)) (yB w.drew b (.cells (yC arr ((i+1)*2) D) T fz)):=λty dc sc=>
  Kq underlying164 ab (by grind) ao (λj v e=>by
   obtain⟨_,e2⟩:=ae j v e
   rw[Addr.add_lit];show w.cell? _=_;grind[World.cell?]) hh hf om al
 have aE:(yB w.drew b (.cells (yC arr ((i+1)*2) D) T fz)).heap[b]? =some (.cells (yC arr ((i+1)*2) D) T fz):=xH _ _ _ (Bo.1 hh).1
 have aj: ∀(W:World),W.heap=(yB w.drew b (.cells (yC arr ((i+1)*2) D) T fz)).heap-> ∀ty dc,(Builtin.copy_ #[164,164] ty #[.slice (some ⟨b,i*2,none⟩) (n+1 - i) dc,.slice (some ⟨vb,0,none⟩) 1 vc]).run prog W= .ok (goInt (1:Nat)) (yB W b (.cells (yC (yC arr ((i+1)*2) D) (i*2) news) T fz)):=λW hW ty dc=>
  Kq underlying164 ab (by grind) (by rw[aq]) (λj v e=>by
   have hj:j<2:=by grind
   rw[hn,An,ahg hj,Ao]at e
   have e3:W.heap[vb]? =some (.cells aa Tv ad):=by rw[hW,tR _ _ _ _ af];exact hv
   grind[Addr.add_lit,World.cell?]) (by grind) (λo ho=>hf o (by grind[yH])) (by grind[yH]) an
 go_enter func177,ntmps177
 go_wp2_with (simp only[av])
 go_region_law (refine S6 rfl _ _ 164 164 rfl _ _ (by simp[Act.eval,Act.put]) (by simp[Act.eval,Act.put]) (ai _ _ _) ?_)
 go_wp2_with (at_builtin;refine wpList_copy_runI _ rfl _ _ 164 164 rfl _ _ rfl rfl (aj _ rfl _ _) ?_)
 go_ret
 subst hD hn
 simp
theorem yC2 (b c n:Nat) (arr:ahT) (T:TypeId) (fz:Nat×Nat) (x:Value) (news:ahR) (w:World) (ab:n+1<=c) (ah:n<=9223372036854775806)
  (hh:w.heap[b]? =some (.cells arr T fz)) (hf:qU arr fz) (ai:c*2<=arr.size) (va:Option Addr) (vc:Nat) (hx:x= .slice va 1 vc) (aa:Src prog 2 164 x 1 news w):
  Calls prog 177 #[.slice (some ⟨b,0,none⟩) n c,.int .i64 n,x] w λe w'=>
   e= .returned (.slice (some ⟨b,0,none⟩) (n+1) c)/\w'=yB w b (.cells (yC arr (n*2) news) T fz):=by
 subst hx
 have ad:(Tryz.prog.info? 167).map (·.size)=some 2:=by rfl
 obtain⟨i0,ae,af⟩: ∃i0,Tryz.prog.info? 167=some i0/\i0.size=2:=by
  decide
 have aj:=aa.newsLen
 have hr: ∀ty,(Builtin.append_ #[164,164] ty #[.slice (some ⟨b,0,none⟩) n c,.slice va 1 vc]).run prog w= .ok (.slice (some ⟨b,0,none⟩) (n+1) c) (yB w b (.cells (yC arr (n*2) news) T fz)):=λty=>by
  have h:=Ef (P:=prog) (ty:=ty) (i:=i0) (o:=0) (n:=n) (cap:=c) (m:=1) underlying164 ae (by rw[af];exact aa) ab hh hf (by grind)
  grind
 go_enter func177,ntmps177
 go_wp2_with (at_builtin;refine Lib.wpList_append_run _ rfl _ _ _ _ rfl _ _ rfl rfl _ _ (hr _) ?_)
 go_ret
 simp
theorem yC1 (base:Option Addr) (c n:Nat) (x:Value) (eW news:ahR) (w:World) (ab:c<n+1) (ak:n<=c) (al:(n+1)*32<=140737488355328)
  (hold:(Builtin.firstCells 2 n (.slice base n c)).run prog w.drew= .ok eW.toArray w.drew) (ao:eW.length=n*2) (va:Option Addr) (vc:Nat) (hx:x= .slice va 1 vc) (an:Src prog 2 164 x 1 news w):
  ∃(aa:Nat) (arr:ahT),n+1<=aa/\aa*2<=arr.size/\arr.toList.take ((n+1)*2)=eW++news/\
  Calls prog 177 #[.slice base n c,.int .i64 n,x] w λe w'=>
   e= .returned (.slice (some ⟨w.heap.size,0,none⟩) (n+1) aa)/\w'=w.drew.alloc (.cells arr 167):=by
 subst hx
 have af:(Tryz.prog.info? 167).map (λi=>(i.zero.map (·.cells.size),i.size,i.bytes))=some (some 2,2,32):=by rfl
 obtain⟨i0,z,ah,hz,aq,ai,ar⟩: ∃i0 z,Tryz.prog.info? 167=some i0/\i0.zero=some z/\z.cells.size=2/\i0.size=2/\i0.bytes=32:=by
  cases h:Tryz.prog.info? 167<;>simp_all
 obtain⟨aa,arr,aj,ad,ae,hr⟩:=Iq (P:=prog) (w:=w) (t:=164) (tx:=164) (ty:=164) (base:=base) (cap:=c) (n:=n) (k:=1) (y:= .slice va 1 vc) (eW:=eW) (news:=news) underlying164 ah hz om om (by grind) (by grind) (by grind) ab (by grind)
 rw[ai]at ad ae
 refine⟨aa,arr,aj,ad,ae, ?_⟩
 go_enter func177,ntmps177
 cases base with
 |none=>
  go_wp2_with (at_builtin;refine Lib.wpList_append_run _ rfl _ _ _ _ rfl _ _ rfl rfl _ _ hr ?_)
  go_ret
  trivial
 |some a=>
  go_wp2_with (at_builtin;refine Lib.wpList_append_run _ rfl _ _ _ _ rfl _ _ rfl rfl _ _ hr ?_)
  go_ret
  trivial
theorem S7 (w:World) (o o':Go.Obj):yB (w.alloc o) w.heap.size o'=w.alloc o':=by
 show{w with heap:=(w.heap.push o).setIfInBounds w.heap.size o'}={w with heap:=w.heap.push o'}
 congr 1
 grind
theorem xG5 (b vb c vc n i:Nat) (arr ab:ahT) (T Tv:TypeId) (fz aq:Nat×Nat) (news:ahR) (w:World) (hi:i<n) (an:c<n+1) (aU:n<=c) (ar:(n+1)*32<=140737488355328) (_hvb:vb≠b)
  (hh:w.heap[b]? =some (.cells arr T fz)) (aV:c*2<=arr.size) (hv:w.heap[vb]? =some (.cells ab Tv aq)) (aP:2<=ab.size)
  (hn:news=ab.toList.take 2) (aB: ∀v∈arr.toList.take (n*2),v.oneCell') (aC: ∀v∈news,v.oneCell'):
  ∃(ah:Nat) (ai:ahT),n+1<=ah/\ah*2<=ai.size/\ai.toList.take ((n+1)*2)=arr.toList.take (i*2)++news++(arr.toList.take (n*2)).drop (i*2)/\
  Calls prog 177 #[.slice (some ⟨b,0,none⟩) n c,.int .i64 i,.slice (some ⟨vb,0,none⟩) 1 vc] w λe w'=>
   e= .returned (.slice (some ⟨w.heap.size,0,none⟩) (n+1) ah)/\w'=w.drew.drew.alloc (.cells ai 167):=by
 have aD:(Tryz.prog.info? 167).map (λi=>(i.zero.map (·.cells.size),i.size,i.bytes))=some (some 2,2,32):=kR
 have ad:(Tryz.prog.info? 167).map (·.size)=some 2:=kR
 obtain⟨i0,z,aE,hz,aW,au,av⟩: ∃i0 z,Tryz.prog.info? 167=some i0/\i0.zero=some z/\z.cells.size=2/\i0.size=2/\i0.bytes=32:=by
  cases h:Tryz.prog.info? 167<;>simp_all
 have aw:news.length=2:=by rw[hn];simp;omega
 have aQ:n<=4398046511103:=om
 have aX: ¬((i:Int)=(n:Int)):=om
 have aY:(c:Int)<(n:Int)+1:=om
 have aZ:i<=n:=om
 have ba:IntKind.i64.wrap ((i:Int)+1)=(i:Int)+1:=by rw[IntKind.wrap_i64];omega
 have bb:(0:Int)<=(i:Int)+1:=om
 have bc:((i:Int)+1).toNat=i+1:=om
 have bd:(i:Int)<=(n:Int):=om
 have bf:(i:Int)<=(n:Int)+1:=om
 have bg:(i:Int)+1<=(n:Int)+1:=om
 have bh: ¬(c=i):=om
 have aF:b<w.heap.size:=(Bo.1 hh).1
 have aG:vb<w.heap.size:=(Bo.1 hv).1
 have ax:(n:Int)+1 - (i:Int)=((n+1 - i:Nat):Int):=om
 have ak:i+(n+1 - i)=n+1:=om
 obtain⟨D,hD⟩: ∃D,D=(arr.toList.take (n*2)).drop (i*2):=⟨_,rfl⟩
 have ay:D.length=(n - i)*2:=by rw[hD];simp;omega
 have hold:(Builtin.firstCells i0.size i (.slice (some ⟨b,0,none⟩) i c)).run prog w.drew= .ok (arr.toList.take (i*2)).toArray w.drew:=by
  rw[au]
  refine run_firstCells_some w.drew 2 i ⟨b,0,none⟩ i c (arr.toList.take (i*2)) (by simp;omega) (λj v hj=> ?_)
  rw[Addr.add_lit]
  show w.cell? _=_
  simp_all[An,World.cell?]
 have dg:grownCap w (n+1) c 167=grownCap w (i+(n+1 - i)) c 167:=by rw[ak]
 have ao:n+1<=grownCap w (n+1) c 167:=grownCap_ge w _ _ _
 have aj: ∀ty,∃aa:ahT,grownCap w (n+1) c 167*2<=aa.size/\aa.toList.take (i*2)=arr.toList.take (i*2)/\(Builtin.append_ #[164,3] ty #[.slice (some ⟨b,0,none⟩) i c,.int .i64 ((n:Int)+1 - (i:Int))]).run prog w=
   .ok (.slice (some ⟨w.heap.size,0,none⟩) (n+1) (grownCap w (n+1) c 167)) (w.drew.alloc (.cells aa 167)):=λty=>by
  have h:=Lib.run_append_grow_zeros w 164 3 ty 167 i0 _ .i64 .i64 underlying164 underlying3 aE hz (some ⟨b,0,none⟩) i c (arr.toList.take (i*2)) hold (n+1 - i) om (by rw[au];decide) om om (by rw[av];omega) (by rw[av,ak];exact growslice_fits an ar)
  rw[ak]at h
  rw[ax]
  refine⟨_, ?_, ?_,h⟩
  all_goals grind[size_zeroCells]
 have az:=ao
 obtain⟨G,hG⟩: ∃G,G=grownCap w (n+1) c 167:=⟨_,rfl⟩
 have aR:G<=9223372036854775807:=by
  grind[grownCap_le_maxLen,maxLen]
 rw[<-hG]at aj ao
 obtain⟨aa,aH,bj,aj⟩:=aj 164
 obtain⟨W1,af⟩: ∃W1,W1=w.drew.alloc (.cells aa 167):=⟨_,rfl⟩
 have a1:W1.heap[w.heap.size]? =some (.cells aa 167):=by rw[af];exact yJ w.drew _
 have aI:W1.heap[b]? =some (.cells arr T fz):=by rw[af];exact(F0 w.drew _ aF).trans hh
 have bk:W1.heap[vb]? =some (.cells ab Tv aq):=by rw[af];exact(F0 w.drew _ aG).trans hv
 have a6: ∀A:ahT,qU A (0,0):=λA q _ hq=>by simp at hq
 have a7: ∀(W:World),W.heap=W1.heap-> ∀ty dc,(Builtin.copy_ #[164,164] ty #[.slice (some ⟨w.heap.size,i*2,none⟩) (n+1 - i) dc,.slice (some ⟨vb,0,none⟩) 1 vc]).run prog W= .ok (goInt (1:Nat)) (yB W w.heap.size (.cells (yC aa (i*2) news) 167 (0,0))):=λW hW ty dc=>
  Kq underlying164 ad (by simp only[Nat.min_def];split<;>omega) (by rw[aw]) (by simp_all[An,Addr.add_lit,World.cell?]) (by rw[hW];exact a1) (a6 _) (by rw[aw];omega) aC
 obtain⟨W2,al⟩: ∃W2,W2=yB W1 w.heap.size (.cells (yC aa (i*2) news) 167 (0,0)):=⟨_,rfl⟩
 have aJ:W2.heap[w.heap.size]? =some (.cells (yC aa (i*2) news) 167):=by rw[al];exact xH _ _ _ (Bo.1 a1).1
 have bm:W2.heap[b]? =some (.cells arr T fz):=by rw[al,tR _ _ _ _ om];exact aI
 have a8: ∀(W:World),W.heap=W2.heap-> ∀ty dc sc,(Builtin.copy_ #[164,164] ty #[.slice (some ⟨w.heap.size,(i+1)*2,none⟩) (n - i) dc,.slice (some ⟨b,i*2,none⟩) (n - i) sc]).run prog W= .ok (goInt (n - i:Nat)) (yB W w.heap.size (.cells (yC (yC aa (i*2) news) ((i+1)*2) D) 167 (0,0))):=λW hW ty dc sc=>
  Kq underlying164 ad (by simp only[Nat.min_def];split<;>omega) ay (by simp_all[An,Addr.add_lit,World.cell?]) (by rw[hW];exact aJ) (a6 _) (by rw[yH,ay];omega) (λv aA=>aB v (C7 (by rw[hD]at aA;exact aA)))
 refine⟨G,yC (yC aa (i*2) news) ((i+1)*2) D,ao,by rw[yH,yH];exact aH, ?_, ?_⟩
 .have bn:(yC (yC aa (i*2) news) ((i+1)*2) D).size=aa.size:=by rw[yH,yH]
  refine Bg λk=> ?_
  have hA:(arr.toList.take (i*2)).length=i*2:=by simp;omega
  by_cases hk:k<(n+1)*2
  .rw[An,ahg hk,Ao,wM _ _ _ _ (by rw[yH];omega),wM _ _ _ _ om]
   grind
  grind
 rw[<-af]at aj
 have aS:yB W2.drew w.heap.size (.cells (yC (yC aa (i*2) news) ((i+1)*2) D) 167 (0,0))=w.drew.drew.alloc (.cells (yC (yC aa (i*2) news) ((i+1)*2) D) 167):=by
  rw[al,af]
  have e1:=S7 w.drew (.cells aa 167) (.cells (yC aa (i*2) news) 167 (0,0))
  have e0:w.drew.heap.size=w.heap.size:=rfl
  rw[e0]at e1
  rw[e1]
  exact S7 w.drew.drew _ _
 have bo: ¬(G=i):=om
 have aT: ¬(G=i+1):=om
 clear hold az dg ax ak hG hn hD
 subst al
 subst af
 have aK:((w.alloc (.cells aa 167)).drew).heap=(w.drew.alloc (.cells aa 167)).heap:=rfl
 have aL:((yB ((w.alloc (.cells aa 167)).drew) w.heap.size (.cells (yC aa (i*2) news) 167 (0,0))).drew).heap=(yB (w.drew.alloc (.cells aa 167)) w.heap.size (.cells (yC aa (i*2) news) 167 (0,0))).heap:=rfl
 go_enter func177,ntmps177
 go_wp2_with (first
  |(at_builtin;refine Lib.wpList_append_run _ rfl _ _ _ _ rfl _ _ rfl rfl _ _ aj ?_)
  |(at_builtin;refine ae _ rfl _ _ 164 164 rfl _ _ rfl rfl (a7 _ aK _ _) ?_))
 go_region_law (refine S6 rfl _ _ 164 164 rfl (.slice (some ⟨w.heap.size,(i+1)*2,none⟩) (n - i) (G - (i+1))) (.slice (some ⟨b,i*2,none⟩) (n - i) (c - i)) (by simp[Act.eval,Act.put]) (by simp[Act.eval,Act.put]) (a8 _ aL 3 (G - (i+1)) (c - i)) ?_)
 go_wp2
 go_ret
 simpa
end Go.Proofs.YtplackkccmeioaaGreat
namespace Go.Proofs.YtplackkccmeioaaGreat
open Go Go.Vx Go.Proofs.Tryz
set_option maxRecDepth 100000
set_option maxHeartbeats 1000000
theorem yE8 (w:World) (b:Nat) (o o':Go.Obj):yB (yB w b o) b o'=yB w b o':=by
 show{w with heap:=(w.heap.setIfInBounds b o).setIfInBounds b o'}={w with heap:=w.heap.setIfInBounds b o'}
 congr 1
 apply Array.ext_getElem?
 intro i
 rw[Array.getElem?_setIfInBounds,Array.getElem?_setIfInBounds]
 by_cases h:b=i
 .subst h;simp[Array.getElem?_setIfInBounds]
 .simp[h]
theorem xc9 (arr:ahT) (o s:Nat) (D news:ahR) (hn:news.length=s) (aa:o+s+D.length<=arr.size):yC (yC arr (o+s) D) o news=yC arr o (news++D):=by
 apply Array.ext_getElem?
 intro k
 rw[wM _ _ _ _ (by rw[yH];omega),wM _ _ _ _ aa,wM _ _ _ _ (by rw[Ap];omega)]
 by_cases h1:o<=k/\k<o+news.length
 .rw[ahg h1,ahg (by rw[Ap];omega),Au om]
 .rw[ahf h1]
  by_cases h2:o+s<=k/\k<o+s+D.length
  .rw[ahg h2,ahg (by rw[Ap];omega),Ar om]
   congr 1;omega
  .rw[ahf h2,ahf (by rw[Ap];omega)]
theorem yB2 {s:Nat} {rows:List (List V)} (h:eI s rows) (i:Nat) (hi:i<=rows.length):(rows.take i).flatten=rows.flatten.take (i*s):=by
 have hl:(rows.take i).flatten.length=i*s:=by rw[yA (λr hr=>h r (Bp hr)),B0,Ca hi]
 have e:rows.flatten=(rows.take i).flatten++(rows.drop i).flatten:=by rw[<-Bs,B6]
 rw[e]
 rw[List.take_append_of_le_length (Cg hl.symm),Aa (Cg hl)]
theorem yB1 {s:Nat} {rows:List (List V)} (h:eI s rows) (i:Nat) (hi:i<=rows.length):(rows.drop i).flatten=rows.flatten.drop (i*s):=by
 have hl:(rows.take i).flatten.length=i*s:=by rw[yA (λr hr=>h r (Bp hr)),B0,Ca hi]
 have e:rows.flatten=(rows.take i).flatten++(rows.drop i).flatten:=by rw[<-Bs,B6]
 rw[e]
 rw[List.drop_append_of_le_length (Cg hl.symm),Bn (Cg hl),Bu]
theorem xG7 (I:St) (p q:Nat) (rows:List (List V)) (x:List V) (i:Nat) (hp:I[p]? =some (.cj rows 2)) (hq:I[q]? =some (.cj [x] 2)) (bg:p≠q) (hi:i<=rows.length) (a6:(rows.length+1)*32<=140737488355328):
  bN prog 177 [.cJ p 2 rows.length 0 rows.length,.int .i64 i,.cJ q 2 1 0 1] I
   (λr I'=>r= .cJ p 2 (rows.length+1) 0 (rows.length+1)/\I'=I.set p (.cj (rows.take i++x::rows.drop i) 2)):=by
 intro w L J aP hm ha
 match aP,ha with
 | [v0,v1,v2],⟨h0,h1,h2,_⟩=>
 obtain⟨a,c0,rfl,⟨b7,b8⟩,bz,hc⟩:=h0
 obtain⟨ee,e,b9,hb⟩: ∃ee,I[p]? =some (.cj ee 2)/\rows.length<=ee.length/\(rows.length=ee.length-> ∃b c1,J[p]? =some (.slice b rows.length c1)/\c0=c1 - 0/\0<=c1/\(0<c1-> ∃k,b=some ⟨k,0,none⟩/\a=some ⟨k,0*2,none⟩)):=hc.resolve_left (by rw[hp];simp)
 rw[hp]at e;cases e
 obtain⟨b0,c1,db,aq,_,ar⟩:=hb rfl
 rw[Nat.sub_zero]at aq
 subst aq
 obtain⟨a',cq,rfl,⟨bA,_⟩,_,bh⟩:=h2
 obtain⟨bj,e,_,bk⟩: ∃ee,I[q]? =some (.cj ee 2)/\1<=ee.length/\(1=ee.length-> ∃b c1,J[q]? =some (.slice b 1 c1)/\cq=c1 - 0/\0<=c1/\(0<c1-> ∃k,b=some ⟨k,0,none⟩/\a'=some ⟨k,0*2,none⟩)):=bh.resolve_left (by rw[hq];simp)
 rw[hq]at e;cases e
 obtain⟨bq,c1,aQ,aq,_,aC⟩:=bk rfl
 rw[Nat.sub_zero]at aq
 subst aq
 obtain⟨vb,rfl,rfl⟩:=aC om
 have aR:=hm.dd p _ _ hp db
 obtain⟨a2,b1,e1,au,aS,av,cN⟩:=hm.dd p _ _ hp db
 cases e1
 obtain⟨a3,b2,e1,b3,bB,aT,aU⟩:=hm.dd q _ _ hq aQ
 cases e1
 obtain⟨bC,ak,Tv,aV,e1,aD,bm,b4,bD,aE⟩:=aU om
 cases e1
 cases (show v1= .int .i64 (i:Int) from by cases h1;rfl)
 have bn:x.length=2:=aT x sm
 obtain⟨news,ad⟩: ∃news,news=ak.toList.take 2:=⟨_,rfl⟩
 have a7:2<=ak.size:=om
 have aF:news.length=2:=by rw[ad];simp;omega
 have ao:bP (cW w L I J) x news:=by rw[ad];simpa using aE
 have aG: ∀v∈news,v.oneCell':=λv hv=>by
  obtain⟨j,hj⟩:=As.1 hv
  have aH:j<x.length:=by rw[ao.length];exact(A3.1 hj).1
  obtain⟨z,hz,r⟩:=ao.get j _ (A0 aH)
  rw[hj]at hz;cases hz;exact r.dD
 have aW:p<I.length:=(A3.1 hp).1
 have bE:=yA av
 have az:eI 2 (rows.take i++x::rows.drop i):=λr hr=>by
  rcases Al.1 hr with hr|hr
  .exact av r (Bp hr)
  .rcases Af.1 hr with rfl|hr
   .exact bn
   .exact av r (C7 hr)
 have ab:(rows.take i++x::rows.drop i).length=rows.length+1:=by simp;omega
 have aw:(rows.take i++x::rows.drop i).flatten=rows.flatten.take (i*2)++(x++rows.flatten.drop (i*2)):=by
  rw[Bs,D1,yB2 av i hi,yB1 av i hi]
 have a8:(rows.take i++x::rows.drop i).flatten=putCells rows.flatten (i*2) (x++rows.flatten.drop (i*2)):=by
  unfold putCells
  rw[aw,Bn (l:=rows.flatten) (i:=i*2+_) (by simp only[Ap,D7];omega),Ax]
 have aX: ∀k0,b0=some ⟨k0,0,none⟩->0<c0->vb≠k0:=λk0 e hc e2=>by
  subst e;subst e2
  exact hm.apart p q _ _ _ _ vb bg hp db hq aQ (by simp[cU,hc]) (by simp[cU];omega)
 have aA:Src prog 2 164 (.slice (some ⟨vb,0*2,none⟩) 1 cq) 1 news w:=Src.ofSlice w underlying164 ⟨vb,0*2,none⟩ 1 cq news (by rw[aF]) (λj u hj=>by
  have bo:j<2:=by rw[<-aF];exact(A3.1 hj).1
  rw[ad,An,ahg bo,Ao]at hj
  rw[Addr.add_lit];simpa[World.cell?,aD]using hj) aG
 have done: ∀(w':World) (k1 c1:Nat),rows.length+1<=c1->Mem (entry w L I J) w' L (I.set p (.cj (rows.take i++x::rows.drop i) 2)) (J.set p (.slice (some ⟨k1,0,none⟩) (rows.length+1) c1))->
   ∃v r L' I' J',Ending.returned (.slice (some ⟨k1,0,none⟩) (rows.length+1) c1)= .returned v/\(r= .cJ p 2 (rows.length+1) 0 (rows.length+1)/\I'=I.set p (.cj (rows.take i++x::rows.drop i) 2))/\I.length<=I'.length/\Mem (entry w L I J) w' L' I' J'/\dt w' L' I' J' r v:=by
  intro w' k1 c1 bp aa
  refine⟨_,_,L,_,_,rfl,⟨rfl,rfl⟩,sm,aa, ?_⟩
  refine⟨_,c1,rfl,⟨bp,om⟩,λ_=>⟨_,_,rfl⟩,.inr ⟨_,Bi aW,by rw[ab];exact A7 _,λ_=>⟨_,c1,Bi (by rw[hm.len];exact aW),rfl,A4 _,λ_=>⟨k1,rfl,by rw[Cx]⟩⟩⟩⟩
 by_cases aY:i<rows.length
 .have ae:0<c0:=om
  obtain⟨k0,rfl,rfl⟩:=ar ae
  obtain⟨br,arr,T,fz,e1,hh,hf,a1,hL,al⟩:=cN ae
  cases e1
  have bF:rows.length*2<=c0*2:=Aj _ au
  obtain⟨D,hD⟩: ∃D,D=(arr.toList.take (rows.length*2)).drop (i*2):=⟨_,rfl⟩
  have bG:D.length=(rows.length - i)*2:=by rw[hD];simp;omega
  have aZ:bP (cW w L I J) (rows.flatten.drop (i*2)) D:=by rw[hD];exact al.drop _
  have bt:D=(arr.toList.drop (i*2)).take ((rows.length - i)*2):=by rw[hD,List.drop_take];congr 1;omega
  have aB: ∀v∈arr.toList.take (rows.length*2),v.oneCell':=λv hv=>by
   obtain⟨j,hj⟩:=As.1 hv
   have aH:j<rows.flatten.length:=by rw[al.length];exact(A3.1 hj).1
   obtain⟨z,hz,r⟩:=al.get j _ (A0 aH)
   rw[hj]at hz;cases hz;exact r.dD
  by_cases af:rows.length+1<=c0
  .have hd:=hm.drew
   obtain⟨an,T',bH,ba,_,_,aa,hle,ax⟩:=hd.1.fX (off:=i*2) (vs:=x++rows.flatten.drop (i*2)) (xs:=news++D) (cA:=rows.take i++x::rows.drop i) hp db ae
    ((ao.append aZ).imp λ_ _=>cW.mono hd.2 (Ext.refl _ _)) om az a8 om om
   rw[show w.drew.heap[k0]? =w.heap[k0]? from rfl,hh]at ba
   cases ba
   refine(xr8 k0 vb c0 cq rows.length i arr ak T Tv fz aV D news w aY af om (aX k0 rfl ae) hh hf.1 a1 aD bm a7 bt ad (λv hv=>aB v (C7 (by rw[<-hD];exact hv))) aG).mono ?_
   rintro e w' ⟨rfl,rfl⟩
   rw[yE8,show(i+1)*2=i*2+2 by omega,xc9 _ _ _ _ _ aF om]
   rw[ab]at aa
   exact done _ k0 c0 af aa
  .obtain⟨ai,an,aI,ay,aJ,aj⟩:=xG5 k0 vb c0 cq rows.length i arr ak T Tv fz aV news w aY om au a6 (aX k0 rfl ae) hh a1 aD a7 ad aB aG
   refine aj.mono ?_
   rintro e w' ⟨rfl,rfl⟩
   have hd:=hm.drew
   have bb:=hd.1.drew
   have ah:bP (cW w.drew.drew L I J) (rows.take i++x::rows.drop i).flatten (an.toList.take ((rows.take i++x::rows.drop i).length*2)):=by
    rw[ab,aJ,aw,Ce]
    refine((?_:bP (cW w L I J) _ _).append (ao.append aZ|>λh=>by rw[hD]at h;exact h)).imp λ_ _=>cW.mono (hd.2.trans bb.2) (Ext.refl _ _)
    have:=al.take (i*2)
    rwa [ahI,Ca om]at this
   obtain⟨aa,hle,ax⟩:=bb.1.pb (cap:=ai) (T:=167) hp db aS az ah om om ay
   rw[ab]at aa
   exact done _ _ ai aI aa
 .have bu:i=rows.length:=om
  subst bu
  have bc:rows.flatten.drop (rows.length*2)= []:=Bn om
  by_cases af:rows.length+1<=c0
  .have ae:0<c0:=om
   obtain⟨k0,rfl,rfl⟩:=ar ae
   obtain⟨arr,T,fz,hh,hf,b5,aa,hle,ax⟩:=hm.fX (off:=rows.length*2) (vs:=x++rows.flatten.drop (rows.length*2)) (xs:=news) (cA:=rows.take rows.length++x::rows.drop rows.length) hp db ae
    (by rw[bc,Ax];exact ao) (A7 _) az a8 om om
   obtain⟨br,b6,T2,bI,e1,bd,_,a1,_,_⟩:=cN ae
   cases e1
   rw[hh]at bd;cases bd
   refine(yC2 k0 c0 rows.length arr T fz _ news w af om hh hf a1 _ _ rfl aA).mono ?_
   rintro e w' ⟨rfl,rfl⟩
   rw[ab]at aa
   exact done _ k0 c0 af aa
  .obtain⟨eW,hold,bf,aK⟩:=Lk (P:=prog) underlying164 aR
   have aL:(Builtin.firstCells 2 rows.length (.slice a rows.length c0)).run prog w.drew= .ok eW.toArray w.drew:=by
    by_cases ae:0<c0
    .obtain⟨k0,rfl,rfl⟩:=ar ae
     exact hold
    .have bw:rows= []:=Aq om
     subst bw
     have bx:eW= []:=Aq (by rw[bf];simp)
     subst bx
     cases a with
     |none=>exact(Src.ofNil (P:=prog) (size:=2) w underlying164 0).cellsD
     |some a0=>exact(Src.ofSlice (P:=prog) (size:=2) w underlying164 a0 0 0 [] sm (λj u h=>by simp at h) (λ_ h=>by cases h)).cellsD
   obtain⟨ai,an,aI,ay,aJ,aj⟩:=yC1 a c0 rows.length (.slice (some ⟨vb,0*2,none⟩) 1 cq) eW news w om au a6 aL bf _ _ rfl aA
   refine aj.mono ?_
   rintro e w' ⟨rfl,rfl⟩
   have hd:=hm.drew
   have ah:bP (cW w.drew L I J) (rows.take rows.length++x::rows.drop rows.length).flatten (an.toList.take ((rows.take rows.length++x::rows.drop rows.length).length*2)):=by
    rw[ab,aJ,aw,bc,Ax,Aa om]
    exact(aK.append ao).imp λ_ _=>cW.mono hd.2 (Ext.refl _ _)
   obtain⟨aa,hle,ax⟩:=hd.1.pb (cap:=ai) (T:=167) hp db aS az ah om om ay
   rw[ab]at aa
   exact done _ _ ai aI aa
end Go.Proofs.YtplackkccmeioaaGreat
namespace Go.Proofs.YtplackkccmeioaaGreat
open Go Go.Vx R Go.Proofs.Tryz
set_option maxRecDepth 100000
def eV (x:Int×List cp×Nat):List V:= [.int .i64 x.1,.sl (.app (x.2.2+2)) (x.2.1.map cp.row)]
def gS (b:List V) (rows:List (List V)) (A:ahQ):St:= .box b:: .cj rows 2::A.map (λn=>Ob.app n 2)
def iE (N:List (Int×List cp×Nat)) (A:ahQ):St:=gS [.cJ 1 2 N.length 0 N.length] (N.map eV) A
structure kQ (N:List (Int×List cp×Nat)) (A:ahQ):Prop where
 app: ∀x∈N,A[x.2.2]? =some x.2.1.length
 ids:(N.map (·.2.2)).Nodup
 qC:(N.map (·.1)).Pairwise (· < ·)
def eR (N:List (Int×List cp×Nat)):List (Int×List cp):=N.map λx=>(x.1,x.2.1)
def jl (dv:Int) (x:cp) (uJ:List (Int×List cp)):List (Int×List cp):=
 if(uJ.map (·.1)).contains dv=true then uJ.modify (jD (uJ.map (·.1)) dv) (λy=>(y.1,if y.2.contains x=true then y.2 else y.2++ [x]))
 else uJ.take (jD (uJ.map (·.1)) dv)++(dv,[x])::uJ.drop (jD (uJ.map (·.1)) dv)
def nq (dv:Int) (x:cp) (uJ:List (Int×List cp)):List (Int×List cp):=if(Op.bytesLess x.hi x.lo||x.hi==x.lo)=true then uJ else jl dv x uJ
section
variable {b:List V} {rows:List (List V)} {A:ahQ} {τ:St}
theorem yI:(gS b rows A).length=A.length+2:=by simp[gS]
theorem NO:(gS b rows A++τ)[1]? =some (.cj rows 2):=rfl
theorem Hy {h:0<(gS b rows A).length}:(gS b rows A)[0]'h= .box b:=rfl
theorem FH {h:1<(gS b rows A).length}:(gS b rows A)[1]'h= .cj rows 2:=rfl
theorem xU6:(gS b rows A++τ)[A.length+3]? =τ[1]? :=by simp[Ar,yI]
theorem xU7:(gS b rows A++τ)[A.length+4]? =τ[2]? :=by simp[Ar,yI]
theorem S8 {i n:Nat} (h:A[i]? =some n):(gS b rows A++τ)[i+2]? =some (.app n 2):=by
 have hi:=(A3.1 h).1
 rw[Au (by grind[yI])]
 show(A.map (λn=>Ob.app n 2))[i]? =_
 grind
theorem xU8 {r':List (List V)}:(gS b rows A++τ).set 1 (.cj r' 2)=gS b r' A++τ:=rfl
theorem xU9 {i m:Nat} (h:i<A.length):(gS b rows A++τ).set (i+2) (.app m 2)=gS b rows (A.set i m)++τ:=by
 rw[Do _ _ (by grind[yI])]
 show Ob.box b:: .cj rows 2::(A.map (λn=>Ob.app n 2)).set i (.app m 2)++τ=_
 rw[<-Cz];rfl
end
variable {k:Nat}{N:List (Int×List cp×Nat)}{A:ahQ}{dv:Int}{x:cp}{sp:List cp}
theorem S9 (N:List (Int×List cp×Nat)):iz (N.map eV) 0 N.length=(eR N).map oJ:=by
 unfold iz eR
 rw[Bj,Aa sm,B9,B9]
 rfl
theorem Ta (N:List (Int×List cp×Nat)):xQ (N.map eV)=true:=by grind[xQ,eV,pc]
theorem Tb (v:Int): ∀l:ahS,l.Pairwise (· < ·)-> ∃i,i<=l.length/\(∀k (h:k<l.length),k<i->l[k]<v)/\(∀k (h:k<l.length),i<=k->v<=l[k])
 | [],_=>sm
 |a::l,hp=>by
  obtain⟨i,h0,h1,h2⟩:=Tb v l (by grind)
  by_cases ha:a<v
  .refine⟨i+1,by grind,(by grind),(by grind)⟩
   all_goals grind
  .refine⟨0,om,om,λk h hk=> ?_⟩
   match k with
   |0=>grind
   |k+1=>
    have aa:k<l.length:=by grind
    have:=(Cb.1 hp).1 l[k] (A8 aa)
    grind
theorem Tc {l:ahS} {v:Int} (hp:l.Pairwise (· < ·)) (hk:jD l v=k):k<=l.length/\(∀j (h:j<l.length),j<k->l[j]<v)/\(∀j (h:j<l.length),k<=j->v<=l[j])/\(if h:k<l.length then l[k]==v else false)=l.contains v:=by
 obtain⟨i,h0,h1,h2⟩:=Tb v l hp
 have:=S0 l v i h0 h1 h2
 grind[S1]
theorem Td {uJ:List (Int×List cp)} (hk:jD (uJ.map (·.1)) dv=k) (aa:(uJ.map (·.1)).contains dv) (hU:uJ[k]? =some (dv,sp)) (hx:sp.contains x):jl dv x uJ=uJ:=by
 unfold jl
 rw[ahg aa,hk]
 refine Bg λj=> ?_
 grind
theorem Te {uJ:List (Int×List cp)} (hk:jD (uJ.map (·.1)) dv=k) (aa:(uJ.map (·.1)).contains dv) (hU:uJ[k]? =some (dv,sp)) (hx:sp.contains x=false):jl dv x uJ=uJ.set k (dv,sp++ [x]):=by
 unfold jl
 rw[ahg aa,hk]
 refine Bg λj=> ?_
 grind
theorem Tf {y:Int×List cp×Nat} (h:N[k]? =some y):(eR N)[k]? =some (y.1,y.2.1):=by
 unfold eR;grind
theorem Tg {U J:Type} (f:U->J) {l:List U} {a b:U} (h:l[k]? =some a) (hf:f b=f a):(l.set k b).map f=l.map f:=by
 refine Bg λj=> ?_
 grind
theorem kQ.fm (h:kQ N A) {r:Int} {id:Nat} (hk:N[k]? =some (r,sp,id)) (x:cp):kQ (N.set k (r,sp++ [x],id)) (A.set id (sp.length+1)):=by
 have hid:=h.app _ (Bk hk)
 have ab:=(A3.1 hid).1
 refine⟨λy hy=> ?_, ?_, ?_⟩
 .obtain⟨j,hj⟩:=As.1 hy
  rw[List.getElem?_set]at hj
  by_cases q:k=j
  .grind
  .rw[ahf q]at hj
   have aa:id≠y.2.2:=λe=>by
    have hi:=h.ids
    have h1:(N.map (·.2.2))[k]? =some id:=by grind
    have h2:(N.map (·.2.2))[j]? =some y.2.2:=by grind
    grind[List.getElem_inj]
   rw[Da aa]
   exact h.app y (by grind)
 .rw[Tg (λy:Int×List cp×Nat=>y.2.2) (b:=(r,sp++ [x],id)) hk rfl];exact h.ids
 .rw[Tg (λy:Int×List cp×Nat=>y.1) (b:=(r,sp++ [x],id)) hk rfl];exact h.qC
theorem FI (N:List (Int×List cp×Nat)) (A:ahQ) (h:kQ N A):(gS [.cJ 1 2 N.length 0 N.length] (N.map eV) A).all (bT (A.length+2))=true:=by
 have hi: ∀x∈N,x.2.2<A.length:=λx hx=>(A3.1 (h.app x hx)).1
 simp_all[gS,bT,cQ,cL,eV];omega
theorem kQ.new (h:kQ N A) (x:cp) (_hk:k<=N.length)
  (h1: ∀j (h:j<((eR N).map (·.1)).length),j<k->((eR N).map (·.1))[j]<dv) (h2: ∀j (h:j<((eR N).map (·.1)).length),k<=j->dv<=((eR N).map (·.1))[j]) (h3:((eR N).map (·.1)).contains dv=false):
  kQ (N.take k++(dv,[x],A.length)::N.drop k) (A++ [1]):=by
 have hi: ∀y∈N,y.2.2<A.length:=λy hy=>(A3.1 (h.app y hy)).1
 have hu:(eR N).map (·.1)=N.map (·.1):=by unfold eR;simp
 simp only[hu]at h1 h2 h3
 refine⟨λy hy=> ?_, ?_, ?_⟩
 .rcases Al.1 hy with hy|hy
  .have hm:=Bp hy
   rw[Au (hi y hm)];exact h.app y hm
  .rcases Af.1 hy with rfl|hy
   .simp
   .have hm:=C7 hy
    rw[Au (hi y hm)];exact h.app y hm
 .have hp:(N.take k++(dv,[x],A.length)::N.drop k).Perm ((dv,[x],A.length)::N):=by
   grind[B6]
  have:=(hp.map (λy:Int×List cp×Nat=>y.2.2)).nodup_iff
  rw[this,Ai,C2]
  refine⟨λhm=> ?_,h.ids⟩
  grind
 .have aa:=h.qC
  rw[C3,Ai,List.map_take,ahM]
  rw[<-B6 k (N.map (·.1))]at aa
  obtain⟨p1,p2,p3⟩:=Bl.1 aa
  refine Bl.2 ⟨p1,Cb.2 ⟨λb hb=> ?_,p2⟩,λa ha b hb=> ?_⟩
  .obtain⟨j,hj,e⟩:=Cj.1 hb
   grind
  .have ab:a<dv:=by
    obtain⟨j,hj,e⟩:=Cj.1 ha
    grind
   grind
theorem xI5 (h:kQ N A) {M:List (Int×List cp)} (hk:k<=N.length) (hM:(eR N).take k++(dv,[x])::(eR N).drop k=M)
  (h1: ∀j (h:j<((eR N).map (·.1)).length),j<k->((eR N).map (·.1))[j]<dv) (h2: ∀j (h:j<((eR N).map (·.1)).length),k<=j->dv<=((eR N).map (·.1))[j]) (h3:((eR N).map (·.1)).contains dv=false) (o1 o2:Ob):
  cw (some (.cy [])) (A.length+2) (λr s=>r=V.cy []/\ ∃N' A',s=gS [V.cJ 1 2 N'.length 0 N'.length] (List.map eV N') A'/\kQ N' A'/\eR N'=M)
   (gS [.cJ 1 2 (N.length+1) 0 (N.length+1)] ((N.take k).map eV++ [.int .i64 dv,.sl (.app (A.length+4)) [x.row]]::(N.drop k).map eV) A++ [o1,o2,.app 1 2]):=by
 have hi: ∀y∈N,y.2.2<A.length:=λy hy=>(A3.1 (h.app y hy)).1
 have cN:=h.new x hk h1 h2 h3
 have hlen:(N.take k++(dv,[x],A.length)::N.drop k).length=N.length+1:=by simp;omega
 obtain⟨pick,hp⟩: ∃pick,pick=List.range (A.length+2)++ [A.length+4]:=⟨_,rfl⟩
 have aj:pick.length=A.length+3:=by rw[hp];simp
 have ab: ∀i,i<A.length+2->pick[i]? =some i:=λi hi=>by
  rw[hp,Au (sU hi),De hi]
 have ae:pick[A.length+2]? =some (A.length+4):=by
  rw[hp,Ar sm];simp
 have af: ∀(M i:Nat),i<A.length+2->cH pick M i=i:=λM i hi=>by
  unfold cH
  grind
 have ak: ∀M:Nat,cH pick M (A.length+2)=A.length+4:=λM=>by
  unfold cH
  rw[dif_pos om]
  have:=ae
  rw[A0 om]at this
  exact ahu this
 have ah: ∀(M:Nat) (y:Int×List cp×Nat),y∈N->(eV y).map (de (cH pick M))=eV y:=λM y hy=>by
  have:=hi y hy
  simp[eV,de,di,af M (y.2.2+2) om]
 refine Mq pick ?_ ab (s:=iE (N.take k++(dv,[x],A.length)::N.drop k) (A++ [1])) (by unfold iE;rw[yI,aj];simp) (λi j o aa ho=> ?_) (zC rfl) ⟨rfl,_,_,rfl,cN, ?_⟩
 .rw[hp]
  refine Cp.2 ⟨Bc,sm,λa ha b hb=> ?_⟩
  simp at ha hb
  omega
 .unfold iE at ho
  match i with
  |0=>
   rw[ab 0 om]at aa;cases aa
   cases ho
   show some (Ob.box _)=_
   simp[yE,de,di,af _ 1 om]
   omega
  |1=>
   rw[ab 1 om]at aa;cases aa
   cases ho
   show some (Ob.cj _ 2)=_
   simp only[yE,C3,Ai,B9]
   congr 2
   congr 1
   .refine B8 λy hy=> ?_
    exact(ah _ y (Bp hy)).symm
   .congr 1
    .simp[eV,de,di,ak]
    grind[B8]
  |i+2=>
   have ai:((A++ [1]).map λn=>Ob.app n 2)[i]? =some o:=ho
   rw[B3,Aw]at ai
   obtain⟨n,hn,rfl⟩:=ai
   have al:=(A3.1 hn).1
   by_cases ad:i<A.length
   .rw[ab (i+2) om]at aa;cases aa
    rw[Au ad]at hn
    exact S8 hn
   .have ad:i=A.length:=by simp at al;omega
    subst ad
    rw[ae]at aa;cases aa
    simp at hn
    subst hn
    rw[xU7];rfl
 grind[eR,List.map_take,ahM]
theorem NP (N:List (Int×List cp×Nat)) (A:ahQ) (h:kQ N A) (dv:Int) (x:cp) (hN:N.length<=1000) (hS: ∀y∈N,y.2.1.length<=1000000):
  bN prog 115 [.ptr 0 0,.int .i64 dv,.agg x.row] (iE N A) (λr s=>r= .cy []/\ ∃N' A',s=iE N' A'/\kQ N' A'/\eR N'=nq dv x (eR N)):=by
 have ao:=wo2 (eR N) dv (by grind[eR]) (by unfold eR;rw[B9];exact h.qC)
 have aq:jD ((eR N).map (·.1)) dv<=N.length:=by
  grind[jD,eR]
 obtain⟨k,hk⟩:=eX (jD ((eR N).map (·.1)) dv)
 obtain⟨there,ah⟩:=eX (((eR N).map (·.1)).contains dv)
 rw[hk,ah]at ao
 rw[hk]at aq
 have ar:((eR N).map (·.1)).Pairwise (· < ·):=by unfold eR;rw[B9];exact h.qC
 obtain⟨_,au,av,aw⟩:=Tc ar hk
 rw[ah]at aw
 generalize hM:nq dv x (eR N)=M
 unfold nq at hM
 refine bN.ib (A.length+2) func115 ntmps115 results115 rfl (by grind[iE,gS]) sm λc hc hb=> ?_
 refine y5 32 dC ?_
 refine zA ?_
 unfold iE
 rw[<-Ax (gS _ _ _)]
 simp[go_sem,yI]
 refine(A6 (Op.bytesLess x.hi x.lo||x.hi==x.lo)).elim (λq=> ?_) (λq=> ?_)
 .simp only[q,aho]at hM
  simp[go_sem,q]
  refine yX (A.length+2) (s:=gS [.cJ 1 2 N.length 0 N.length] (N.map eV) A) (by grind[yI]) yI (FI _ _ h) om (zC rfl) (by grind)
 simp only[q]at hM
 simp[go_sem,q,yI,Hy]
 refine Qe ao cB (.step 1 2 (N.map eV) NO (Ta N) (.refl _ _)) ?_ rfl ?_
 .simp only[Ax,Ai,Bh,fZ,fY,gi,fP,Ag,Ad,A7,and_self,aho,S9]
  exact⟨zK,zC rfl,zC rfl,tV⟩
 simp[go_sem]
 rw[ahf dC]at hM
 refine(A6 there).elim (λq2=> ?_) (λq2=> ?_)
 .have ad:k<N.length:=by
   grind[eR]
  obtain⟨⟨r0,sp,id⟩,ae⟩: ∃y,N[k]=y:=⟨_,rfl⟩
  have a7:r0=dv:=by
   simp_all[eR]
  subst a7
  have af:(r0,sp,id)∈N:=(by grind)
  have hid:A[id]? =some sp.length:=h.app _ af
  have a8:sp.length<=1000000:=hS _ af
  have ax:=(A3.1 hid).1
  have ai:=S5 sp x (by unfold maxLen;omega)
  simp[go_sem,q2]
  refine yL [(9,0)] (A.length+3) (by simp[yI]) (by rfl) kR ?_
  simp[go_sem,yI,Hy,FH,ad,ae,eV]
  refine pD ai ?_
  simp[go_sem]
  refine(A6 (sp.contains x)).elim (λq3=> ?_) (λq3=> ?_)
  .have aj:=(Td hk (by grind) (by grind[Tf]) q3).symm.trans hM
   simp only[List.contains_eq_mem]at q3
   simp[go_sem,q3]
   exact yX (A.length+2) (s:=gS [.cJ 1 2 N.length 0 N.length] (N.map eV) A) (by rw[<-yI (b:= [.cJ 1 2 N.length 0 N.length]) (rows:=N.map eV),List.take_left]) yI (FI _ _ h) om (zC rfl) (by grind)
  .have aj:=(Te hk (ah.trans q2) (Tf (by rw[A0 ad,ae])) q3).symm.trans hM
   simp only[List.contains_eq_mem]at q3
   simp[go_sem,q3]
   refine mV [(13,2),(15,3),(18,4)] 2 (by simp[yI]) (by rfl) kR ?_
   simp[go_sem,yI,Hy,FH,ad,ae,eV,S8 hid,xU9 ax]
   refine zJ ⟨om,zY rfl⟩ ?_
   simp[go_sem,yI,FH,ad,ae,eV]
   have ay:N[k]? =some (r0,sp,id):=by grind
   have az:=h.fm ay x
   refine yX (A.length+2) (s:=iE (N.set k (r0,sp++ [x],id)) (A.set id (sp.length+1))) ?_ (by grind[iE,yI]) (by grind[FI,iE]) om (zC rfl) ⟨rfl,_,_,rfl,az, ?_⟩
   all_goals simp_all[iE,gS,eV,cp.row,eR]
 .have aj:(eR N).take k++(dv,[x])::(eR N).drop k=M:=by rw[<-hM];unfold jl;grind
  simp[go_sem,q2,yI,Hy]
  have aa:=xG7 (gS [.cJ 1 2 N.length 0 N.length] (N.map eV) A++ [.box [.str x.lo,.str x.hi],.cj [[.int .i64 dv,.sl .full []]] 2]) 1 (A.length+2+1) (N.map eV) [.int .i64 dv,.sl .full []] k NO xU6 om (by grind) (by grind)
  simp only[Ag,xU8]at aa
  obtain⟨R,hR⟩: ∃R,List.take k (List.map eV N)++ [V.int IntKind.i64 dv,V.sl Tag.full []]::List.drop k (List.map eV N)=R:=⟨_,rfl⟩
  rw[hR]at aa
  have a1:k<=(N.map eV).length:=by grind
  have ak:R.length=N.length+1:=by grind
  have aA:R[k]? =some [.int .i64 dv,.sl .full []]:=by
   rw[<-hR,Ar (by grind),B0,Ca a1,Nat.sub_self];rfl
  have al:k<N.length+1:=om
  have aB:k<R.length:=om
  have ab:R[k]= [.int .i64 dv,.sl .full []]:=by grind
  have ai:=S5 [] x sm
  have an:(k:Int)<N.length+1:=om
  refine Fc aa cB ?_
  rintro r s ⟨rfl,rfl⟩ _
  simp[go_sem,yI,Hy]
  refine yL [(9,0)] (A.length+4) (by simp[yI]) (by rfl) kR ?_
  simp[go_sem,yI]
  refine zJ an ?_
  simp[go_sem,yI,FH,al,ab,ak]
  refine pD ai ?_
  simp[go_sem]
  refine mV [(13,2),(15,3),(18,4)] 2 sm (by rfl) kR ?_
  simp[go_sem,yI]
  refine zJ an ?_
  simp[go_sem,yI,FH,al,ab,ak]
  refine zJ ⟨λ_ q=>by grind,zY rfl⟩ ?_
  simp[go_sem]
  refine zJ an ?_
  simp[go_sem,yI,FH,al,ab,ak]
  have a6:R.set k [.int .i64 dv,.sl (.app (A.length+2+2)) [[.str x.lo,.str x.hi]]]=(N.take k).map eV++ [.int .i64 dv,.sl (.app (A.length+4)) [x.row]]::(N.drop k).map eV:=by
   rw[<-hR,List.set_append_right _ _ (by grind),B0,Ca a1,Nat.sub_self,Ch,List.map_take,ahM]
   rfl
  rw[a6]
  exact xI5 h om aj au av (by grind) _ _
theorem xQ0 (id off s:Nat) (cells:List V) {P:Program} {c:Ctx} {nt:Nat} {e:Env} {I:St} {Q:QT} {y:Code} (h0:0<s) (cG:I[id]? =some (.box cells)) (hc:cells[off]? =some (.sl .full []))
  (hy:gx P c nt y Q fx fx e (I.set id (.box (cells.set off (.cJ I.length s 0 0 0)))++ [.cj [] s])):gx P c nt y Q fx fx e I:=by
 intro a w L J hs
 obtain⟨x,h1,h2⟩:=PU hs.mem h0 cG hc
 exact hy a w L (J++ [x]) ⟨h1,hs.size,hs.defs,λk=>(hs.env k).mono (Le.refl _ _) h2⟩
abbrev US:=List (Int×List cp)
def Bd (n:Nat) (uJ:US):Prop:=uJ.length<=n/\ ∀y∈uJ,y.2.length<=n
theorem Bd.ec {n:Nat} {uJ:US} (h:Bd n uJ) (r:Int) (x:cp):Bd (n+1) (nq r x uJ):=by
 have up:Bd (n+1) uJ:=⟨by have:=h.1;omega,λy hy=>by have:=h.2 y hy;omega⟩
 unfold nq
 split
 .exact up
 .unfold jl
  split
  .refine⟨by rw[List.length_modify];exact up.1,λy hy=> ?_⟩
   obtain⟨j,hj⟩:=As.1 hy
   rw[List.getElem?_modify]at hj
   split at hj
   .rw[Option.map_eq_map,Aw]at hj
    obtain⟨z,hz,rfl⟩:=hj
    have aa:=h.2 z (by grind)
    grind
   .simp at hj
    exact up.2 y (by grind)
  .refine⟨by have:=h.1;grind,λy hy=> ?_⟩
   rcases Al.1 hy with hy|hy
   .exact up.2 y (by grind)
   .rcases Af.1 hy with rfl|hy
    .simp
    .exact up.2 y (by grind)
def FJ (t:Int) (b:ahP×ahP) (uJ:US) (rg:Int):US:=nq (xA t rg).1 ⟨b.1,b.2⟩ uJ
def yU (name:ahP):Int:=iy (λT:bL=>T.name==name) bO 0
def qE (eF:Int->List bJ->US->US) (uJ:US) (st:bW):US:=
 if yU st.table<0 then uJ else if st.kind=2 then st.rows.foldl (λuJ r=>eF (yU st.table) r uJ) uJ
 else(xX (yU st.table) st).foldl (FJ (yU st.table) (pv bO (yU st.table) st)) uJ
def kH (st:bW):Nat:=if st.kind=2 then st.rows.length else 2
theorem NQ: ∀(n:Nat) (q l:List bJ),(sW n q l).length<=l.length+n
 |0,_,_=>A7 _
 |n+1,[],l=>by grind[sW]
 |n+1,e::q,l=>by
  rw[sW]
  split
  .have:=NQ n (q++e.args) l;omega
  .have:=NQ n q (l++ [e]);simp at this;omega
theorem Kr (st:bW):(nK st).length<=4096:=by
 grind[nK,NQ]
theorem Hz (name:ahP):yU name= -1\/yU name=0\/yU name=1\/yU name=2:=by
 have h:=DO (λT:bL=>T.name==name) bO 0
 have hl:bO.length=3:=rfl
 grind[yU]
theorem Th: ∀(l:List bJ) (rs:ahS) (r:Int),r∈iQ l rs->r∈rs
 | [],_,_,h=>h
 |e::l,rs,r,h=>by
  have h1:iQ (e::l) rs=iQ l (match nM e [82]with|none=>rs|some (s,v)=>if s= [61]/\v.kind=2 then kF v.n rs else rs):=rfl
  rw[h1]at h
  have:=Th l _ r h
  split at this
  .exact this
  .split at this
   .exact(Bq.1 this).1
   .exact this
theorem yE0 {t:Int} {st:bW} {r:Int} (h:r∈xX t st):r= -1\/r=0\/r=1:=by
 unfold xX at h
 split at h
 .have:=Th _ _ _ h;grind
 grind
theorem Ti (t:Int) (st:bW):(xX t st).length<=2:=by
 grind[xX,NH]
def Ks (st:bW):Prop:= ∀e∈nK st,∀name s v,nM e name=some (s,v)->v.ok
theorem wo8 {b:List V} {rows:List (List V)} {τ:St} {h:0<(gS b rows A++τ).length}:(gS b rows A++τ)[0]'h= .box b:=rfl
theorem NR {b:List V} {rows:List (List V)} {x:Ob} {τ:St}:(gS b rows A++x::τ).take (A.length+3)=gS b rows A++ [x]:=by
 have e:(gS b rows A++ [x]).length=A.length+3:=by rw[Ap,yI];rfl
 grind
theorem tg (N:List (Int×List cp×Nat)) (A:ahQ):(iE N A).length=A.length+2:=yI
theorem uH (h:kQ N A):(iE N A).all (bT (iE N A).length)=true:=by rw[tg];exact FI N A h
theorem HA (h:kQ N A):(iE N A++ [.box [.sl .ro xJ,.sl .ro (bO.map bL.row)]]:St).all (bT (A.length+3))=true:=by
 rw[E3,Ab]
 refine⟨?_,by rfl⟩
 have:=FI N A h
 rw[Am]at this⊢
 exact λo ho=>Jo om (this o ho)
theorem Tj:([.box [.sl .ro xJ,.sl .ro (bO.map bL.row)]]:St).all (bT 0)=true:=by rfl
def NS (eF:Int->List bJ->US->US) (st:bW):Prop:= ∀r∈st.rows,∀N A,kQ N A->Bd 1000 (eR N)->
 bN prog 111 [.ptr 0 0,dG bO,.int .i64 (yU st.table),.sl .ro (r.map bJ.row)] (iE N A) (λx s=>x= .cy []/\ ∃N' A',s=iE N' A'/\kQ N' A'/\eR N'=eF (yU st.table) r (eR N))
theorem Tk {n:Nat} (h:Bd n (eR N)):N.length<=n/\ ∀y∈N,y.2.1.length<=n:=by
 unfold Bd eR at h
 refine⟨by grind,λy hy=> ?_⟩
 have:=h.2 (y.1,y.2.1) (by grind)
 omega
theorem xS0 (eF:Int->List bJ->US->US) (aB: ∀t r n uJ,Bd n uJ->Bd (n+1) (eF t r uJ)) (l:dR) (hl:l.stmts.length<=maxLen) (hv: ∀st∈l.stmts,Ks st) (au:(l.stmts.map kH).sum<=900) (av: ∀st∈l.stmts,st.rows.length<=maxLen) (ai: ∀st∈l.stmts,st.kind=2->yU st.table≠ -1->NS eF st):
  Pure prog 62 [dG bO,.agg l.row] (.sl .ro ((l.stmts.foldl (qE eF) []).map oJ)):=by
 obtain⟨L,hL⟩:=eX l.stmts
 rw[hL]at hl hv au av ai⊢
 generalize hM:L.foldl (qE eF) []=M
 refine iV 0 func62 ntmps62 results62 λc hc hb=> ?_
 refine zA ?_
 simp[go_sem,dG,hL]
 refine xQ0 2 0 2 [.sl .full []] dC (by rfl) sm ?_
 refine zI (S:=Nat×List (Int×List cp×Nat)×ahQ) [2,5,20,21,22] (λu=> [.ptr (u.2.2.length+2) 0,.ptr 0 0,.sl .ro (L.map bW.row),.int .i64 L.length,.int .i64 u.1])
  (λu=>iE u.2.1 u.2.2++ [.box [.sl .ro xJ,.sl .ro (bO.map bL.row)]]) (λu=>L.length - u.1)
  (λu=>u.1<=L.length/\kQ u.2.1 u.2.2/\(L.drop u.1).foldl (qE eF) (eR u.2.1)=M/\ ∃n,Bd n (eR u.2.1)/\n+((L.drop u.1).map kH).sum<=900) hc hb (0,[],[])
  ⟨om,⟨sm,C1,List.Pairwise.nil⟩,hM,0,(by trivial),by grind⟩ ?_ ?_
 .exact CA [2,3,0] dC rfl (by trivial) ⟨.inl (by rfl),.inl (by rfl),zK,zC rfl,zC rfl,tV⟩
 rintro⟨i,N,A⟩ ⟨hi,cN,hinv,n,aC,hn⟩
 simp only at hi cN hinv aC hn
 by_cases q:i<L.length
 rotate_left
 .rw[A9 om]at hinv
  have aD:eR N=M:=hinv
  refine zA ?_
  unfold iE
  simp[go_sem,q,wo8]
  refine LM 1 2 (N.map eV) NO (Ta N) ?_
  simp only[fZ,fY,gi,fP,Ag,Ad,A7,and_self,aho,S9,aD]
  exact zX zK sm
 have ei:=zQ q (by unfold maxLen at hl;omega)
 obtain⟨st,aw⟩:=eX (L[i])
 have ah:st∈L:=(by grind)
 rw[A5 q,aw]at hinv hn
 rw[Ai,List.sum_cons]at hn
 rw[Bt]at hinv
 have al:=NI bO st.table dC
 rw[show iy (λt:bL=>t.name==st.table) bO 0=yU st.table from rfl]at al
 obtain⟨t,ht⟩:=eX (yU st.table)
 have aE:=Hz st.table
 rw[ht]at al aE
 refine zA ?_
 unfold iE
 simp[go_sem,q,aw,yI]
 refine zL al cB (zO (by rfl) rfl) rfl ?_
 by_cases ax:t= -1
 .have hF:qE eF (eR N) st=eR N:=by simp_all[qE]
  rw[hF]at hinv
  subst ax
  simp[go_sem,ei]
  refine zH (i+1,N,A) ⟨om,(by grind), ?_⟩
  exact cd (A.length+3) NR (by simp[yI]) (HA cN) om (zD (by rfl) (by grind[iL,jq,cQ,cL]))
 have aK: ¬t<0:=om
 have ay:decide (t<0)=false:=(by grind)
 by_cases hk:st.kind=2
 .have an:(st.kind==2)=true:=by grind
  simp[go_sem,ay,an,yI]
  have aF:=ai st ah hk (by rw[ht];exact ax)
  have ao:=av st ah
  have aq:kH st=st.rows.length:=by simp_all[kH]
  rw[aq]at hn
  have hF:qE eF (eR N) st=st.rows.foldl (λuJ r=>eF t r uJ) (eR N):=by simp_all[qE,ahf]
  rw[hF]at hinv
  obtain⟨U2,ar⟩:=eX (st.rows.foldl (λuJ r=>eF t r uJ) (eR N))
  rw[ar]at hinv
  refine zI (S:=Nat×List (Int×List cp×Nat)×ahQ) [2,5,8,20,21,22,68,69,70] (λu=> [.ptr (u.2.2.length+2) 0,.ptr 0 0,.int .i64 t,.sl .ro (L.map bW.row),.int .i64 L.length,.int .i64 i,.sl .ro (st.rows.map λl=> [V.sl .ro (l.map bJ.row)]),.int .i64 st.rows.length,.int .i64 u.1])
   (λu=>iE u.2.1 u.2.2++ [.box [.sl .ro xJ,.sl .ro (bO.map bL.row)]]) (λu=>st.rows.length - u.1)
   (λu=>u.1<=st.rows.length/\kQ u.2.1 u.2.2/\(st.rows.drop u.1).foldl (λuJ r=>eF t r uJ) (eR u.2.1)=U2/\ ∃m,Bd m (eR u.2.1)/\m+(st.rows.length - u.1)+((L.drop (i+1)).map kH).sum<=900) hc hb (0,N,A)
   (by grind) ?_ ?_
  .exact cd (A.length+3) NR (by simp[tg]) (HA cN) om (zD (by rfl) (by simp[iL,jq,cQ,cL]))
  rintro⟨j,N1,A1⟩ ⟨hj,ab,aa,m,ad,hm⟩
  simp only at hj ab aa ad hm
  by_cases qj:j<st.rows.length
  rotate_left
  .rw[A9 om]at aa
   have aG:eR N1=U2:=aa
   refine zA ?_
   simp[go_sem,qj,ei]
   refine zH (i+1,N1,A1) ⟨om,(by grind), ?_⟩
   exact cd (A1.length+3) (by rw[Aa (by simp[tg])];rfl) (by simp[yI]) (HA ab) om (zD (by rfl) (by grind[iL,jq,cQ,cL]))
  have ej:=zQ qj (by unfold maxLen at ao;omega)
  obtain⟨r,hr⟩:=eX (st.rows[j])
  have az:r∈st.rows:=(by grind)
  rw[A5 qj,hr,Bt]at aa
  have ae:=aF r az N1 A1 ab ⟨by have:=ad.1;omega,λy hy=>by have:=ad.2 y hy;omega⟩
  rw[ht]at ae
  refine zA ?_
  unfold iE
  simp[go_sem,qj,hr,yI]
  refine Jq ae cB (uH ab) Tj ⟨(by grind[lR,iE,iL,jq,cQ,cL,tg]),zC rfl,zC rfl,zK,tV⟩ (λr s h=>by
   obtain⟨rfl,N2,A2,rfl,h2,_⟩:=h
   exact⟨rfl,uH h2⟩) ?_
  rintro r s ⟨rfl,N2,A2,rfl,aj,a1⟩ hle I' pick af
  simp[go_sem,ej]
  refine zH (j+1,N2,A2) ⟨om,(by grind), ?_⟩
  refine QE af ⟨.inl ?_,.inl ?_,zC rfl,zK,zC rfl,zC rfl,zK,zC rfl,.inl (by rfl),tV⟩
  .have:=af.GN (M:=I'.length) (i:=0) sm
   rw[tg,yI]at this
   simp[go_sem,dF,dK,de,di]at this⊢
   omega
  .have:=af.GM (M:=I'.length) (i:=0) (by grind[yI])
   simp[go_sem,dF,dK,de,di,this]
 have an:(st.kind==2)=false:=by grind
 have aq:kH st=2:=by simp_all[kH]
 rw[aq]at hn
 have a6:=Su xJ bO t st dC dC (by grind[Kr,maxLen]) (hv st ah)
 have a7:=SA t st (by have:=Kr st;unfold maxLen;omega)
 obtain⟨b,aH⟩:=eX (pv bO t st)
 obtain⟨rs,ao⟩:=eX (xX t st)
 rw[aH]at a6
 have a8:=Ti t st
 have ak:=λr=>yE0 (t:=t) (st:=st) (r:=r)
 rw[ao]at a7 a8 ak
 have hF:qE eF (eR N) st=rs.foldl (FJ t b) (eR N):=by simp_all[qE,ahf]
 rw[hF]at hinv
 obtain⟨U2,ar⟩:=eX (rs.foldl (FJ t b) (eR N))
 rw[ar]at hinv
 simp[go_sem,ay,an,yI]
 refine zL a6 cB (zO (by rfl) rfl) rfl ?_
 simp[go_sem,Kf,yI]
 refine zL a7 cB (zO (by rfl) rfl) rfl ?_
 simp[go_sem]
 refine zI (S:=Nat×List (Int×List cp×Nat)×ahQ) [2,5,8,11,12,20,21,22,40,41,42] (λu=> [.ptr (u.2.2.length+2) 0,.ptr 0 0,.int .i64 t,.str b.1,.str b.2,.sl .ro (L.map bW.row),.int .i64 L.length,.int .i64 i,.sl .ro (rs.map yN),.int .i64 rs.length,.int .i64 u.1])
  (λu=>iE u.2.1 u.2.2++ [.box [.sl .ro xJ,.sl .ro (bO.map bL.row)]]) (λu=>rs.length - u.1)
  (λu=>u.1<=rs.length/\kQ u.2.1 u.2.2/\(rs.drop u.1).foldl (FJ t b) (eR u.2.1)=U2/\ ∃m,Bd m (eR u.2.1)/\m+(rs.length - u.1)+((L.drop (i+1)).map kH).sum<=900) hc hb (0,N,A)
  (by grind) ?_ ?_
 .exact cd (A.length+3) NR (by simp[tg]) (HA cN) om (zD (by rfl) (by simp[iL,jq,cQ,cL]))
 rintro⟨j,N1,A1⟩ ⟨hj,ab,aa,m,ad,hm⟩
 simp only at hj ab aa ad hm
 by_cases qj:j<rs.length
 rotate_left
 .rw[A9 om]at aa
  have aG:eR N1=U2:=aa
  refine zA ?_
  simp[go_sem,qj,ei]
  refine zH (i+1,N1,A1) ⟨om,(by grind), ?_⟩
  exact cd (A1.length+3) (by rw[Aa (by simp[tg])];rfl) (by simp[yI]) (HA ab) om (zD (by rfl) (by grind[iL,jq,cQ,cL]))
 have ej:=zQ qj om
 obtain⟨r,hr⟩:=eX (rs[j])
 have az:=ak r (hr▸A8 qj)
 rw[A5 qj,hr,Bt]at aa
 have aA:=Hn t r om om
 have aI:=Tk ad
 have ae:=NP N1 A1 ab (xA t r).1 ⟨b.1,b.2⟩ om (by grind)
 obtain⟨⟨g,ge⟩,hg⟩: ∃g,xA t r=g:=⟨_,rfl⟩
 have aJ:FJ t b (eR N1) r=nq g ⟨b.1,b.2⟩ (eR N1):=by grind[FJ]
 rw[hg]at aA ae
 rw[aJ]at aa
 refine zA ?_
 unfold iE
 simp[go_sem,qj,hr,yI]
 refine zL aA cB (zO (by rfl) rfl) rfl ?_
 simp[go_sem,DN]
 refine Jq ae cB (uH ab) Tj ⟨(by grind[lR,iE,iL,jq,cQ,cL,tg]),zC rfl,zC rfl,tV⟩ (λr s h=>by
  obtain⟨rfl,N2,A2,rfl,h2,_⟩:=h
  exact⟨rfl,uH h2⟩) ?_
 rintro r' s ⟨rfl,N2,A2,rfl,aj,a1⟩ hle I' pick af
 simp[go_sem,ej]
 refine zH (j+1,N2,A2) ⟨om,⟨om,aj,by grind,m+1,by simp only;rw[a1];exact ad.ec _ _,om⟩, ?_⟩
 refine QE af ⟨.inl ?_,.inl ?_,zC rfl,zC rfl,zC rfl,zK,zC rfl,zC rfl,zK,zC rfl,.inl (by rfl),tV⟩
 .have:=af.GN (M:=I'.length) (i:=0) sm
  rw[tg,yI]at this
  simp[go_sem,dF,dK,de,di]at this⊢
  omega
 .have:=af.GM (M:=I'.length) (i:=0) (by grind[yI])
  simp[go_sem,dF,dK,de,di,this]
end Go.Proofs.YtplackkccmeioaaGreat
