/-
  Which expressions have a text, in both texts, over trees (the library Vx); used by the theorem at the end of the claim.
  Conditions: as each theorem states them.
-/
import Derived.Test.YtajjjghohakniaaGreatLAU
import Derived.Test.YtajjjghohakniaaGreatLBF
import Derived.Test.YtajjjghohakniaaGreatLBE
namespace Go.Proofs.YtajjjghohakniaaGreat
open Go Go.Vx
set_option maxRecDepth 100000
theorem zV7 (c:UInt8):Pure Tryz.prog 162 [.int .u8 c.toNat] (.bool (wB c)):=by
 unfold wB
 generalize c.toNat=n
 generalize hM:decide (48≤n∧n≤57)=M
 have ret: ∀(r:Bool) (σ:St),r=M→wret (some (.bool r)) 0 (fun r s=>r= .bool M∧s= []) σ:=fun r σ h=>by subst h;exact zQ (zA rfl) ⟨rfl,rfl⟩
 refine VCalls.intro 0 Tryz.func162 Tryz.ntmps162 Tryz.results162 rfl rfl (Nat.le_of_ble_eq_true rfl) fun c hc hb=>zJ ?_
 simp[go_sem]
 refine yT (fun q=> ?_) (fun q=> ?_)
 ·simp[go_sem,q]
  refine ret _ _ ?_
  rw[←hM]
  simp at q
  exact decide_eq_decide.2 (by omega)
 ·simp[go_sem,q]
  refine ret _ _ ?_
  rw[←hM]
  simp at q
  exact(decide_eq_false (by omega)).symm
theorem yx6: ∀n:Fin 256,wR (UInt8.ofNat n.1)=(((decide (97≤zz4 .or .u8 (n.1:Nat) 32)&&decide (zz4 .or .u8 (n.1:Nat) 32≤122))&&decide (65≤((n.1:Nat):Int)))||(((n.1:Nat):Int)==95)):=by decide+kernel
theorem yp8 (c:UInt8):Pure Tryz.prog 190 [.int .u8 c.toNat] (.bool (wR c)):=by
 have h:=yx6 ⟨c.toNat,c.toNat_lt⟩
 simp only[UInt8.ofNat_toNat]at h
 rw[h]
 clear h
 obtain⟨n,hn⟩: ∃n,c.toNat=n:=⟨_,rfl⟩
 simp only[hn]
 generalize hg:zz4 .or .u8 (n:Nat) 32=g
 refine VCalls.intro 0 Tryz.func190 Tryz.ntmps190 Tryz.results190 rfl rfl (Nat.le_of_ble_eq_true rfl) fun c hc hb=>zJ ?_
 simp[go_sem,hg]
 refine(Bool.eq_false_or_eq_true (decide (97≤g))).elim (fun q1=> ?_) (fun q1=> ?_)
 ·refine(Bool.eq_false_or_eq_true (decide (g≤122))).elim (fun q2=> ?_) (fun q2=> ?_)
  ·refine(Bool.eq_false_or_eq_true (decide (65≤(n:Int)))).elim (fun q3=> ?_) (fun q3=> ?_)
   ·rw[q1,q2,q3]
    simp[go_sem,hg,q2,q3]
    exact zQ (zA rfl) ⟨rfl,rfl⟩
   ·rw[q1,q2,q3]
    simp[go_sem,hg,q2,q3]
    exact zQ (zA rfl) ⟨rfl,rfl⟩
  ·rw[q1,q2]
   simp[go_sem,hg,q2]
   exact zQ (zA rfl) ⟨rfl,rfl⟩
 ·rw[q1]
  simp[go_sem]
  exact zQ (zA rfl) ⟨rfl,rfl⟩
def zl3 (c:UInt8):Bool:=wR c||wB c
theorem yx8 (c:UInt8):Pure Tryz.prog 164 [.int .u8 c.toNat] (.bool (zl3 c)):=by
 have h1:=yp8 c
 have h2:=zV7 c
 unfold zl3
 generalize wR c=a at h1⊢
 generalize wB c=b at h2⊢
 refine VCalls.intro 0 Tryz.func164 Tryz.ntmps164 Tryz.results164 rfl rfl (Nat.le_of_ble_eq_true rfl) fun c hc hb=>zJ ?_
 simp[go_sem]
 refine zD h1 Tryz.callB190 (zG rfl) rfl ?_
 simp[go_sem]
 refine(Bool.eq_false_or_eq_true a).elim (fun q=> ?_) (fun q=> ?_)
 ·simp[go_sem,q]
  exact zQ (zA rfl) ⟨by simp,rfl⟩
 ·simp[go_sem,q]
  refine zD h2 Tryz.callB162 (zG rfl) rfl ?_
  simp[go_sem]
  exact zQ (zA rfl) ⟨by simp[q],rfl⟩
def runF (p:UInt8→Bool):List UInt8→Nat
 | []=>0
 |c::l=>if p c=true then runF p l+1 else 0
theorem yX7 (s:List UInt8) (hl:s.length≤maxLen):Pure Tryz.prog 163 [.str s,.fn 164 []] (.int .i64 (runF zl3 s:Nat)):=by
 generalize hM:runF zl3 s=M
 have ret: ∀(r:Nat) (σ:St),r=M→wret (some (.int .i64 r)) 0 (fun r s=>r= .int .i64 (M:Nat)∧s= []) σ:=fun r σ h=>by subst h;exact zQ (zA rfl) ⟨rfl,rfl⟩
 refine VCalls.introV 0 Tryz.func163 Tryz.ntmps163 Tryz.results163 rfl rfl (Nat.le_of_ble_eq_true rfl) fun c hc hb=> ?_
 refine zC ?_
 simp[go_sem]
 refine zN (S:=Nat) [0,1,5] (fun i=> [.str s,.fn 164 [],.int .i64 i]) (fun _=> []) (fun i=>s.length - i) (fun i=>i≤s.length∧i+runF zl3 (s.drop i)=M) hc hb 0 ⟨Nat.zero_le _,by rw[List.drop_zero,Nat.zero_add,hM]⟩ ?_ ?_
 ·exact at_0 rfl (zI (by simp[go_sem]) rfl)
 rintro i ⟨hi,hinv⟩
 by_cases q:i<s.length
 rotate_left
 ·rw[List.drop_of_length_le (by omega),runF,Nat.add_zero]at hinv
  refine zC ?_
  simp[go_sem,q]
  exact ret _ _ hinv
 have ei:=zU q (by unfold maxLen at hl;omega)
 obtain⟨x,hx⟩: ∃x,s[i]=x:=⟨_,rfl⟩
 rw[List.drop_eq_getElem_cons q,hx,runF]at hinv
 have hcl:=yx8 x
 obtain⟨b,hb1⟩: ∃b,zl3 x=b:=⟨_,rfl⟩
 rw[hb1]at hcl hinv
 refine zC ?_
 simp[go_sem,q,hx]
 refine zD hcl Tryz.callB164 (zG rfl) rfl ?_
 simp[go_sem]
 refine(Bool.eq_false_or_eq_true b).elim (fun w=> ?_) (fun w=> ?_)
 ·rw[if_pos w]at hinv
  simp[go_sem,w,ei]
  exact zP (i+1) ⟨by omega,⟨q,by omega⟩,at_0 rfl (zI (by simp[go_sem]) rfl)⟩
 ·rw[if_neg (by rw[w];decide)]at hinv
  simp[go_sem,w]
  exact ret _ _ (by omega)
theorem yt0 (p:UInt8→Bool): ∀s:List UInt8,decide (runF p s<s.length)= !(s.all p)
 | []=>by simp[runF]
 |c::l=>by
  have h:=yt0 p l
  unfold runF
  by_cases q:p c=true
  ·rw[if_pos q,List.all_cons,q,Bool.true_and,←h]
   exact decide_eq_decide.2 (by simp)
  ·rw[if_neg q]
   have q:p c=false:=by simpa using q
   simp[q]
def spW:List UInt8→List (List UInt8)
 | []=> []
 |c::l=>if c=32∧32∈l then l.takeWhile (· !=32)::spW l else spW l
theorem xa5: ∀(s l:List UInt8),(∀c∈s,c≠32)→((s++ [32]).isPrefixOf l=true↔l.takeWhile (· !=32)=s∧32∈l)
 | [],[],_=>by simp
 | [],c::l,_=>by
  by_cases h:c=32
  ·subst h;simp
  ·have h':(c !=32)=true:=by simpa using h
   have h2: ¬(32=c):=fun e=>h e.symm
   simp[List.isPrefixOf,h',h2]
 |a::s,[],_=>by simp
 |a::s,c::l,hs=>by
  have ih:=xa5 s l fun x hx=>hs x (by simp[hx])
  have ha:a≠32:=hs a (by simp)
  rw[List.cons_append,List.isPrefixOf,Bool.and_eq_true,ih]
  by_cases h:c=32
  ·subst h
   rw[List.takeWhile_cons_of_neg (by simp)]
   constructor
   ·rintro⟨h1,_⟩;exact absurd (by simpa using h1) ha
   ·rintro⟨h1,_⟩;cases h1
  ·have h':(c !=32)=true:=by simpa using h
   rw[List.takeWhile_cons_of_pos (by simpa using h),List.mem_cons]
   constructor
   ·rintro⟨h1,h2,h3⟩
    have h1:a=c:=by simpa using h1
    exact⟨by rw[h1,h2],.inr h3⟩
   ·rintro⟨h1,h2⟩
    obtain⟨h3,h4⟩:=List.cons.inj h1
    exact⟨by simp[h3],h4,h2.resolve_left fun e=>h e.symm⟩
theorem yp0 (s:List UInt8) (hs: ∀c∈s,c≠32): ∀T:List UInt8,0≤Lib.index T (32::(s++ [32]))↔s∈spW T
 | []=>by simp[Lib.index,spW]
 |b::l=>by
  have ih:=yp0 s hs l
  have hg:=Lib.index_ge l (32::(s++ [32]))
  have hp:=xa5 s l hs
  unfold Lib.index spW
  by_cases h:(32::(s++ [32])).isPrefixOf (b::l)=true
  ·rw[if_pos h]
   rw[List.isPrefixOf,Bool.and_eq_true,hp]at h
   have hb:b=32:=(eq_of_beq h.1).symm
   rw[if_pos ⟨hb,h.2.2⟩,h.2.1]
   exact⟨fun _=>List.mem_cons_self,fun _=>Int.le_refl 0⟩
  ·rw[if_neg h]
   rw[List.isPrefixOf,Bool.and_eq_true,hp]at h
   have hmem:s∈(if b=32∧32∈l then l.takeWhile (· !=32)::spW l else spW l)↔s∈spW l:=by
    split
    ·rename_i hc
     rw[List.mem_cons]
     constructor
     ·rintro(e|e)
      ·exact absurd ⟨by rw[hc.1];exact beq_self_eq_true _,e.symm,hc.2⟩ h
      ·exact e
     ·exact .inr
    ·exact Iff.rfl
   rw[hmem,←ih]
   split
   ·rename_i e
    rw[eq_of_beq e]
   ·rename_i e
    have e: ¬Lib.index l (32::(s++ [32]))= -1:=fun q=>e (by rw[q];rfl)
    omega
def ys6:List UInt8:= [32,65,76,76,32,65,78,68,32,65,83,32,65,83,67,32,66,69,84,87,69,69,78,32,66,79,85,78,68,32,66,89,32,67,79,85,78,84,32,68,69,76,69,84,69,32,68,69,83,67,32,69,88,65,67,84,32,70,65,76,83,69,32,70,82,79,77,32,73,78,83,69,82,84,32,73,78,84,79,32,73,83,32,76,73,77,73,84,32,78,79,84,32,78,85,76,76,32,78,79,87,32,79,70,32,79,82,32,79,82,68,69,82,32,83,69,76,69,67,84,32,83,69,84,32,83,85,77,32,83,89,83,84,69,77,32,84,73,77,69,32,84,82,85,69,32,85,80,68,65,84,69,32,86,65,76,85,69,83,32,87,72,69,82,69,32]
theorem ys7:spW ys6=resv:=by decide+kernel
theorem xb7 (s:List UInt8) (hs: ∀c∈s,c≠32):Lib.contains ys6 (32::(s++ [32]))=resv.contains s:=by
 have h:=yp0 s hs ys6
 rw[ys7]at h
 unfold Lib.contains
 rw[Bool.eq_iff_iff,decide_eq_true_eq,h]
 simp
theorem zZ9 (s sub:List UInt8) (hs:s.length<4294967281):Pure Tryz.prog 166 [.str s,.str sub] (.bool (Lib.contains s sub)):=by
 intro w L β vals hm ha
 match vals,ha with
 | [a,b],⟨h1,h2,_⟩=>
  have e1:=wL h1
  have e2:=wL h2
  subst e1 e2
  obtain⟨_,m,hc⟩:=hm.tab.num (vints.headD (0,.i64)) (by decide)
  refine(Tryz.strings_Contains _ _ m w (by rw[zj0];exact hs) hc).mono ?_
  rintro e w' ⟨rfl,rfl⟩
  exact⟨_,.bool _,L,[],β,rfl,⟨rfl,rfl⟩,Nat.le_refl _,hm,RdP.bool _⟩
def upI:List UInt8→Nat→List UInt8
 | [],_=> []
 |c::l,0=>c::l
 |c::l,i+1=>yI c::upI l i
theorem yJ6: ∀(s:List UInt8) (i:Nat),(upI s i).length=s.length
 | [],_=>rfl
 |_::_,0=>rfl
 |c::l,i+1=>by rw[upI,List.length_cons,yJ6 l i,List.length_cons]
theorem xd3: ∀s:List UInt8,upI s 0=s
 | []=>rfl
 |_::_=>rfl
theorem yJ4: ∀s:List UInt8,upI s s.length=s.map yI
 | []=>rfl
 |c::l=>by rw[List.length_cons,upI,yJ4 l,List.map_cons]
theorem yJ5: ∀(s:List UInt8) (i:Nat),(upI s i)[i]? =s[i]?
 | [],_=>rfl
 |_::_,0=>rfl
 |c::l,i+1=>by rw[upI,List.getElem?_cons_succ,List.getElem?_cons_succ,yJ5 l i]
theorem yJ7: ∀(s:List UInt8) (i:Nat) (h:i<s.length),(upI s i).set i (yI s[i])=upI s (i+1)
 | [],_,h=>absurd h (Nat.not_lt_zero _)
 |c::l,0,_=>by rw[upI,upI,xd3];rfl
 |c::l,i+1,h=>by
  rw[upI,List.set_cons_succ,List.getElem_cons_succ,yJ7 l i (by simpa using h),upI]
theorem yu0: ∀(s:List UInt8) (i:Nat) (h:i<s.length),yI s[i]=s[i]→upI s i=upI s (i+1)
 | [],_,h,_=>absurd h (Nat.not_lt_zero _)
 |c::l,0,_,hg=>by rw[upI,upI,xd3];rw[List.getElem_cons_zero]at hg;rw[hg]
 |c::l,i+1,h,hg=>by
  rw[upI,upI,yu0 l i (by simpa using h) (by simpa using hg)]
abbrev bRw:UInt8→List V:=fun c=> [V.int .u8 c.toNat]
theorem zP6 (s:List UInt8):zR s=s.map bRw:=rfl
theorem xp8 (l:List UInt8) (n:Nat):ltOb n (.lst (l.map bRw) 1)=true:=by
 simp only[ltOb,List.all_eq_true]
 intro r hr
 obtain⟨x,_,rfl⟩:=List.mem_map.1 hr
 intro y hy
 cases hy with
 |head=>rfl
 |tail _ h=>cases h
theorem yg5 (l:List UInt8):([Ob.lst (l.map bRw) 1]:St).all (ltOb 1)=true:=by
 simp only[List.all_cons,xp8,List.all_nil,Bool.and_self]
theorem yS8 (l:List UInt8):wO (l.map bRw)=true:=by
 simp only[wO,List.all_eq_true]
 intro r hr
 obtain⟨x,_,rfl⟩:=List.mem_map.1 hr
 intro y hy
 cases hy with
 |head=>rfl
 |tail _ h=>cases h
theorem yK9 (l:List UInt8) (n:Nat) (h:l.length=n):za8 (l.map bRw) 0 n=l.map bRw:=by
 unfold za8
 rw[List.drop_zero,List.take_of_length_le (by simp;omega),List.map_map]
 rfl
set_option maxHeartbeats 4000000 in
theorem yx7 (s:List UInt8) (hl:s.length≤maxLen):Pure Tryz.prog 165 [.str s] (.str (s.map yI)):=by
 obtain⟨n,hn⟩: ∃n,s.length=n:=⟨_,rfl⟩
 unfold maxLen at hl
 refine VCalls.introV 0 Tryz.func165 Tryz.ntmps165 Tryz.results165 rfl rfl (Nat.le_of_ble_eq_true rfl) fun c hc hb=> ?_
 refine zC6 7 (by decide) ?_
 refine zC ?_
 simp[go_sem,zP6,hn]
 refine zN (S:=Nat) [3,8,9,10] (fun i=> [.lsv 0 1 n 0 n,.lsv 0 1 n 0 n,.int .i64 n,.int .i64 i]) (fun i=> [.lst ((upI s i).map bRw) 1]) (fun i=>n - i) (fun i=>i≤n) hc hb 0 (Nat.zero_le _) ?_ ?_
 ·exact at_n 1 (by simp[go_sem,xd3]) rfl (yg5 _) (Nat.zero_le _) (zE (by simp[go_sem]) rfl)
 intro i hi
 by_cases q:i<n
 rotate_left
 ·have hie:i=n:=by omega
  subst hie
  rw[←hn,yJ4,hn]
  have hch:=yK9 (s.map yI) i (by rw[List.length_map,hn])
  have hbk:=zm6 (s.map yI)
  have hib:=wX (s.map yI)
  rw[zP6]at hbk hib
  generalize hS:s.map yI=S at hch hbk hib⊢
  have hSl:S.length=i:=by rw[←hS,List.length_map,hn]
  clear hS
  refine xn0 0 1 (S.map bRw) rfl (yS8 _) ?_
  refine zC ?_
  simp[go_sem,hSl,hch]
  refine zO hib ?_
  simp[go_sem]
  rw[←List.map_map,hbk]
  exact zQ (zA rfl) ⟨rfl,rfl⟩
 have hq:i<s.length:=by omega
 have ei:=zU q (by omega)
 obtain⟨x,hx⟩: ∃x,s[i]=x:=⟨_,rfl⟩
 obtain⟨cur,hcur⟩: ∃c,upI s i=c:=⟨_,rfl⟩
 obtain⟨nxt,hnxt⟩: ∃c,upI s (i+1)=c:=⟨_,rfl⟩
 have hcl:cur.length=n:=by rw[←hcur,yJ6,hn]
 have hci:i<cur.length:=by omega
 have hcx:cur[i]=x:=by
  have h:=yJ5 s i
  rw[hcur,List.getElem?_eq_getElem hci,List.getElem?_eq_getElem hq,hx]at h
  exact Option.some.inj h
 have hset:cur.set i (yI x)=nxt:=by rw[←hcur,←hx,yJ7 s i hq,hnxt]
 have hsame:yI x=x→cur=nxt:=fun h=>by rw[←hcur,←hnxt];exact yu0 s i hq (by rw[hx];exact h)
 rw[hcur]
 have hxr:0≤((x.toNat:Nat):Int)∧((x.toNat:Nat):Int)≤255:=by have:=x.toNat_lt;omega
 refine zC ?_
 simp[go_sem,q,hcx,hcl]
 have small: ¬(97≤x.toNat∧x.toNat≤122)→yI x=x:=fun h=>by unfold yI;rw[if_neg h]
 refine yT (fun q1=> ?_) (fun q1=> ?_)
 ·simp[go_sem,q1]
  refine zS (fun q2=> ?_) (fun q2=> ?_)
  ·have q1:97≤x.toNat:=by simp at q1;omega
   have q2:x.toNat≤122:=by simp at q2;omega
   have hg:IntKind.u8.wrap ((x.toNat:Int) - 32)=((yI x).toNat:Int):=by
    rw[yk6 (by omega) (by omega)]
    unfold yI
    rw[if_pos ⟨q1,q2⟩,UInt8.toNat_ofNat']
    omega
   simp[go_sem,hg,q,hcl,ei]
   exact zP (i+1) ⟨by omega,by omega,at_n 1 (by rw[hnxt,←hset];simp[go_sem,List.map_set]) rfl (yg5 _) (Nat.zero_le _) (zE (by simp[go_sem]) rfl)⟩
  ·have q2: ¬x.toNat≤122:=by simp at q2;omega
   have hs:=hsame (small fun h=>q2 h.2)
   simp[go_sem,ei]
   exact zP (i+1) ⟨by omega,by omega,at_n 1 (by rw[hnxt,←hs];simp[go_sem]) rfl (yg5 _) (Nat.zero_le _) (zE (by simp[go_sem]) rfl)⟩
 ·have q1: ¬97≤x.toNat:=by simp at q1;omega
  have hs:=hsame (small fun h=>q1 h.1)
  have q1':decide ((97:Int)≤x.toNat)=false:=by simp;omega
  simp[go_sem,ei,q1']
  exact zP (i+1) ⟨by omega,by omega,at_n 1 (by rw[hnxt,←hs];simp[go_sem]) rfl (yg5 _) (Nat.zero_le _) (zE (by simp[go_sem]) rfl)⟩
theorem yM4 (s:List UInt8):(s.map yI==s)=s.all fun c=>yI c==c:=by
 induction s with
 |nil=>rfl
 |cons c l ih=>
  rw[List.map_cons,List.all_cons,←ih]
  rfl
theorem xe4 (s:List UInt8):zi6 s=(decide (1≤s.length∧s.length≤16)&&(!wB (s.headD 0)&&(s.all zl3&&(s.all (fun c=>yI c==c)&& !resv.contains s)))):=by
 have h:s.all okC=(s.all zl3&&s.all (fun c=>yI c==c)):=by
  induction s with
  |nil=>rfl
  |cons c l ih=>
   rw[List.all_cons,List.all_cons,List.all_cons,ih]
   unfold okC zl3
   cases wR c<;>cases wB c<;>cases (yI c==c)<;>simp
 unfold zi6
 rw[h,Bool.and_assoc]
theorem xe5:zl3 32=false:=by decide
set_option maxHeartbeats 4000000 in
theorem zE3 (s:List UInt8) (hl:s.length≤maxLen):Pure Tryz.prog 119 [.str s] (.bool (zi6 s)):=by
 have hrun:=yX7 s hl
 have hra:=yt0 zl3 s
 have hup:=yx7 s hl
 have hgm:=yM4 s
 have hdg:=zV7 (s[0]?.getD 0)
 have hhd:s.headD 0=s[0]?.getD 0:=by cases s<;>rfl
 have hct:(s.all zl3)=true→Pure Tryz.prog 166 [.str ys6,.str (32::(s++ [32]))] (.bool (resv.contains s)):=fun h=>by
  have h1: ∀c∈s,c≠32:=fun c hc e=>by
   rw[List.all_eq_true]at h
   have:=h c hc
   rw[e,xe5]at this
   cases this
  have h2:=zZ9 ys6 (32::(s++ [32])) (by decide)
  rw[xb7 s h1]at h2
  exact h2
 generalize hM:zi6 s=M
 rw[xe4,hhd]at hM
 generalize runF zl3 s=r at hrun hra
 generalize s.map yI=u at hup hgm
 generalize wB (s[0]?.getD 0)=d at hdg hM
 generalize (s.all fun c=>yI c==c)=g at hgm hM
 generalize resv.contains s=k at hct hM
 generalize s.all zl3=w at hra hct hM
 have ret: ∀(b:Bool) (σ:St),b=M→wret (some (.bool b)) 0 (fun r s=>r= .bool M∧s= []) σ:=fun r σ h=>by subst h;exact zQ (zA rfl) ⟨rfl,rfl⟩
 unfold maxLen at hl
 refine VCalls.introV 0 Tryz.func119 Tryz.ntmps119 Tryz.results119 rfl rfl (Nat.le_of_ble_eq_true rfl) fun c hc hb=> ?_
 refine zC ?_
 simp[go_sem]
 by_cases h0:s= []
 ·subst h0
  have hM:M=false:=by rw[←hM];rfl
  simp[go_sem]
  exact ret _ _ hM.symm
 have h1:1≤s.length:=by
  cases s with
  |nil=>exact absurd rfl h0
  |cons _ _=>simp
 have h0':s.isEmpty=false:=by
  cases s with
  |nil=>exact absurd rfl h0
  |cons _ _=>rfl
 simp[go_sem,h0']
 by_cases h2:16<s.length
 ·have h2':decide ((16:Int)<s.length)=true:=by simp;omega
  have hM:M=false:=by rw[←hM,decide_eq_false (by omega)];rfl
  simp[go_sem,h2']
  exact ret _ _ hM.symm
 have h2':decide ((16:Int)<s.length)=false:=by simp;omega
 rw[decide_eq_true (show 1≤s.length∧s.length≤16 by omega),Bool.true_and]at hM
 simp[go_sem,h2']
 refine zO (by omega) ?_
 simp[go_sem]
 refine zD hdg Tryz.callB162 (zG rfl) rfl ?_
 simp[go_sem]
 refine(Bool.eq_false_or_eq_true d).elim (fun q=> ?_) (fun q=> ?_)
 ·have hM:M=false:=by rw[←hM,q];rfl
  simp[go_sem,q]
  exact ret _ _ hM.symm
 rw[q,Bool.not_false,Bool.true_and]at hM
 simp[go_sem,q]
 refine zD hrun Tryz.callB163 (zG rfl) rfl ?_
 simp[go_sem]
 refine(Bool.eq_false_or_eq_true w).elim (fun q2=> ?_) (fun q2=> ?_)
 rotate_left
 ·have hM:M=false:=by rw[←hM,q2];rfl
  have hr:decide (r<s.length)=true:=by rw[hra,q2];rfl
  simp[go_sem,hr]
  exact ret _ _ hM.symm
 have hr:decide (r<s.length)=false:=by rw[hra,q2];rfl
 rw[q2,Bool.true_and]at hM
 simp[go_sem,hr]
 refine zD hup Tryz.callB165 (zG rfl) rfl ?_
 simp[go_sem]
 refine(Bool.eq_false_or_eq_true g).elim (fun q3=> ?_) (fun q3=> ?_)
 rotate_left
 ·have hM:M=false:=by rw[←hM,q3];rfl
  have hu:(u==s)=false:=by rw[hgm,q3]
  simp[go_sem,hu]
  exact ret _ _ hM.symm
 have hu:(u==s)=true:=by rw[hgm,q3]
 rw[q3,Bool.true_and]at hM
 simp[go_sem,hu]
 refine zO (by omega) ?_
 simp[go_sem]
 refine zO (by omega) ?_
 simp[go_sem]
 refine zD (hct q2) Tryz.callB166 (zG rfl) rfl ?_
 simp[go_sem]
 exact ret _ _ hM
end Go.Proofs.YtajjjghohakniaaGreat
namespace Go.Proofs.YtajjjghohakniaaGreat
open Go Go.Vx R
set_option maxRecDepth 100000
def zC4 (s:List UInt8):Int:=if zb9 s=0 then -1 else zb9 s
theorem yB7 (s:List UInt8):Pure Tryz.prog 167 [.str s] (.int .i64 (zC4 s)):=by
 have hM:zC4 s=if opsOne.contains s=true then 1 else if opsTwo.contains s=true then 2 else -1:=by
  unfold zC4 zb9
  by_cases h1:opsTwo.contains s=true
  ·have h2:opsOne.contains s=false:=by
    unfold opsTwo at h1
    simp only[List.contains_cons,List.contains_nil,Bool.or_false,Bool.or_eq_true,beq_iff_eq]at h1
    rcases h1 with rfl|rfl|rfl|rfl|rfl|rfl|rfl|rfl|rfl|rfl|rfl|rfl|rfl<;>decide
   simp only[h1,h2]
   rfl
  ·have h1:opsTwo.contains s=false:=by simpa using h1
   by_cases h2:opsOne.contains s=true
   ·simp only[h1,h2];rfl
   ·have h2:opsOne.contains s=false:=by simpa using h2
    simp only[h1,h2];rfl
 generalize zC4 s=M at hM⊢
 have ret: ∀(r:Int) (σ:St),r=M→wret (some (.int .i64 r)) 0 (fun r s=>r= .int .i64 M∧s= []) σ:=fun r σ h=>by subst h;exact zQ (zA rfl) ⟨rfl,rfl⟩
 unfold opsTwo opsOne at hM
 simp only[List.contains_cons,List.contains_nil]at hM
 refine VCalls.intro 0 Tryz.func167 Tryz.ntmps167 Tryz.results167 rfl rfl (Nat.le_of_ble_eq_true rfl) fun c hc hb=>zJ ?_
 simp[go_sem]
 repeat' (first|(refine yT (fun q=> ?_) (fun q=> ?_)<;>simp[go_sem,q])|(refine zS (fun q=> ?_) (fun q=> ?_)<;>simp[go_sem,q]))
 all_goals exact ret _ _ (by simp_all)
def zu6 (e:GExpr):Bool:=e.kind==0&&(e.s.isEmpty&&(zh5 e.v&&e.args.isEmpty))
theorem yU8 (l:List GExpr) (hl:l.length≤maxLen):Pure Tryz.prog 192 [.sl .ro (l.map GExpr.row),.sl .ro [],.fn 168 []] (.bool l.isEmpty):=by
 generalize hM:l.isEmpty=M
 have ret: ∀(r:Bool) (σ:St),r=M→wret (some (.bool r)) 0 (fun r s=>r= .bool M∧s= []) σ:=fun r σ h=>by subst h;exact zQ (zA rfl) ⟨rfl,rfl⟩
 refine VCalls.intro 0 Tryz.func192 Tryz.ntmps192 Tryz.results192 rfl rfl (Nat.le_of_ble_eq_true rfl) fun c hc hb=>zJ ?_
 cases l with
 |nil=>
  simp[go_sem]
  refine zN (S:=Unit) [15,16,17] (fun _=> [.sl .ro [],.int .i64 0,.int .i64 0]) (fun _=> []) (fun _=>0) (fun _=>True) hc hb () trivial ?_ ?_
  ·exact at_0 rfl (zI (by simp[go_sem]) rfl)
  rintro _ _
  refine zC ?_
  simp[go_sem]
  exact ret _ _ hM
 |cons x l=>
  have q:(((x::l).length:Int) !=0)=true:=by simp;omega
  simp only[List.length_cons,Int.natCast_add,Int.cast_ofNat_Int]at q
  simp[go_sem,q]
  exact ret _ _ hM
theorem xl4 (e:GExpr) (hw:e.args.length≤maxLen):Pure Tryz.prog 168 [.agg e.row,.agg zeroE.row] (.bool (zu6 e)):=by
 have heq:=yU8 e.args hw
 generalize hM:zu6 e=M
 unfold zu6 zh5 at hM
 generalize e.args.isEmpty=b at heq hM
 have ret: ∀(r:Bool) (σ:St),r=M→wret (some (.bool r)) 0 (fun r s=>r= .bool M∧s= []) σ:=fun r σ h=>by subst h;exact zQ (zA rfl) ⟨rfl,rfl⟩
 have hse:(e.s== [])=e.s.isEmpty:=by cases e.s<;>rfl
 have hvs:(e.v.s== [])=e.v.s.isEmpty:=by cases e.v.s<;>rfl
 have z1:zeroE.kind=0:=rfl
 have z2:zeroE.s= []:=rfl
 have z3:zeroE.v=⟨0,0,[]⟩:=rfl
 have z4:zeroE.args= []:=rfl
 refine VCalls.intro 0 Tryz.func168 Tryz.ntmps168 Tryz.results168 rfl rfl (Nat.le_of_ble_eq_true rfl) fun c hc hb=>zJ ?_
 simp[go_sem,z1,z2,z3,z4]
 repeat' (first
  |(refine yT (fun q=> ?_) (fun q=> ?_)<;>simp[go_sem,q])
  |(refine zS (fun q=> ?_) (fun q=> ?_)<;>simp[go_sem,q])
  |(refine zD heq Tryz.callB192 ⟨zA rfl,zW,zA rfl,trivial⟩ rfl ?_;simp[go_sem]))
 all_goals exact ret _ _ (by rw[←hM];simp_all)
theorem yE1 (e:GExpr) (hw:e.args.length≤maxLen):Pure Tryz.prog 121 [.agg e.row] (.bool (zu6 e)):=by
 have h:=xl4 e hw
 generalize zu6 e=b at h⊢
 refine VCalls.intro 0 Tryz.func121 Tryz.ntmps121 Tryz.results121 rfl rfl (Nat.le_of_ble_eq_true rfl) fun c hc hb=>zJ ?_
 simp[go_sem]
 refine zD h Tryz.callB168 ⟨?_, ?_,trivial⟩ rfl ?_
 ·rw[GExpr.row_eq];exact zA rfl
 ·rw[GExpr.row_eq]
  exact zn0 ⟨zZ rfl,zZ rfl,zZ rfl,zZ rfl,zZ rfl,wD,trivial⟩
 simp[go_sem]
 exact zQ (zA rfl) ⟨rfl,rfl⟩
def mayE:Nat→GExpr→Bool
 |0,_=>false
 |n+1,e=>
  if e.kind=1 then e.s.isEmpty&&(e.args.isEmpty&&(mayF e.v&&decide (0≤e.v.n)))
  else if e.kind=2 then zh5 e.v&&(e.args.isEmpty&&zi6 e.s)
  else if ¬e.kind=3∨zh5 e.v=false∨zb9 e.s=0∨ ¬(e.args.length:Int)=zb9 e.s then false
  else e.args.all (mayE n)
theorem zz9 {α:Type} (p:α→Bool) (l:List α) (i:Nat) (h:i<l.length):(l.drop i).all p=(p l[i]&&(l.drop (i+1)).all p):=by
 rw[List.drop_eq_getElem_cons h,List.all_cons]
set_option maxHeartbeats 1000000 in
theorem zv7: ∀(n:Nat) (e:GExpr),n≤1000→Wide e→Good e→Pure Tryz.prog 120 [.agg e.row,.int .i64 n] (.bool (mayE n e))
 |n,e,hn,hw,hg=>by
  have hlen:=hw.len
  have hsub:=hw.sub
  have hgs:=hg.sub
  have ih: ∀m,n=m+1→ ∀x∈e.args,Pure Tryz.prog 120 [.agg x.row,.int .i64 m] (.bool (mayE m x)):=fun m hm x hx=>zv7 m x (by omega) (hsub x hx) (hgs x hx)
  have hmay:=yS0 e.v
  have hword:=zE3 e.s (by have:=hg.str;unfold maxLen;omega)
  have hta:=yB7 e.s
  have hz:=zF2 e.v
  obtain⟨M,hM⟩: ∃M,mayE n e=M:=⟨_,rfl⟩
  rw[hM]
  have ret: ∀(r:Bool) (σ:St),r=M→wret (some (.bool r)) 0 (fun r s=>r= .bool M∧s= []) σ:=fun r σ h=>by subst h;exact zQ (zA rfl) ⟨rfl,rfl⟩
  have ha:((e.args.length:Int)==0)=e.args.isEmpty:=by cases e.args<;>simp;omega
  have hse:(e.s== [])=e.s.isEmpty:=by cases e.s<;>rfl
  have hvs:(e.v.s== [])=e.v.s.isEmpty:=by cases e.v.s<;>rfl
  refine VCalls.introV 0 Tryz.func120 Tryz.ntmps120 Tryz.results120 rfl rfl (Nat.le_of_ble_eq_true rfl) fun c hc hb=> ?_
  by_cases h0:n=0
  ·subst h0
   rw[mayE]at hM
   refine zC ?_
   simp[go_sem]
   exact ret _ _ hM
  obtain⟨m,rfl⟩: ∃m,n=m+1:=⟨n - 1,by omega⟩
  have ih:=ih m rfl
  rw[mayE]at hM
  have h0':(((m+1:Nat):Int)==0)=false:=by simp;omega
  have em:IntKind.i64.wrap (((m+1:Nat):Int) - 1)=(m:Int):=by rw[i64_id (by omega) (by omega)];omega
  have em2:IntKind.i64.wrap (m:Int)=(m:Int):=i64_id (by omega) (by omega)
  refine zC ?_
  simp only[Int.natCast_add,Int.cast_ofNat_Int]at h0' em
  simp[go_sem,h0']
  by_cases q1:e.kind=1
  ·have q1':(e.kind==1)=true:=by simpa using q1
   rw[if_pos q1]at hM
   generalize mayF e.v=b at hmay hM
   generalize e.args.isEmpty=ae at ha hM
   simp[go_sem,q1']
   repeat' (first
    |(refine yT (fun q=> ?_) (fun q=> ?_)<;>simp[go_sem,q,ha])
    |(refine zD hmay Tryz.callB130 (zI (by simp[go_sem]) rfl) rfl ?_;simp[go_sem]))
   all_goals exact ret _ _ (by rw[←hM];simp_all)
  rw[if_neg q1]at hM
  have q1':(e.kind==1)=false:=by simpa using q1
  by_cases q2:e.kind=2
  ·have q2':(e.kind==2)=true:=by simpa using q2
   rw[if_pos q2]at hM
   unfold zh5 at hM
   generalize zi6 e.s=b at hword hM
   generalize e.args.isEmpty=ae at ha hM
   simp[go_sem,q1',q2']
   repeat' (first
    |(refine yT (fun q=> ?_) (fun q=> ?_)<;>simp[go_sem,q,ha])
    |(refine zD hword Tryz.callB119 (zI (by simp[go_sem]) rfl) rfl ?_;simp[go_sem]))
   all_goals exact ret _ _ (by rw[←hM];simp_all)
  rw[if_neg q2]at hM
  have q2':(e.kind==2)=false:=by simpa using q2
  simp[go_sem,q1',q2']
  refine xC [(15,0)] 1 (by simp) (by kernel_rfl) (by kernel_rfl) ?_
  simp[go_sem]
  by_cases q3:e.kind=3
  rotate_left
  ·have q3':(e.kind !=3)=true:=by simpa using q3
   rw[if_pos (.inl q3)]at hM
   simp[go_sem,q3']
   exact ret _ _ hM
  have q3':(e.kind !=3)=false:=by simpa using q3
  simp[go_sem,q3',hz]
  refine(Bool.eq_false_or_eq_true (zh5 e.v)).elim (fun w=> ?_) (fun w=> ?_)
  rotate_left
  ·rw[if_pos (.inr (.inl w))]at hM
   simp[go_sem,w]
   exact ret _ _ hM
  simp[go_sem,w]
  refine zT hta Tryz.callB167 (fun _=>zI (by simp[go_sem]) rfl) rfl ?_
  unfold zC4
  by_cases q4:zb9 e.s=0∨ ¬(e.args.length:Int)=zb9 e.s
  ·have q4':((e.args.length:Int) !=(if zb9 e.s=0 then -1 else zb9 e.s))=true:=by
    rcases q4 with q4|q4
    ·rw[if_pos q4];simp<;>omega
    ·by_cases q5:zb9 e.s=0
     ·rw[if_pos q5];simp<;>omega
     ·rw[if_neg q5];simpa using q4
   rw[if_pos (.inr (.inr q4))]at hM
   simp[go_sem,q4']
   exact ret _ _ hM
  have q4':((e.args.length:Int) !=(if zb9 e.s=0 then -1 else zb9 e.s))=false:=by
   rw[if_neg (fun h=>q4 (.inl h))]
   simp only[bne_eq_false_iff_eq]
   exact Classical.byContradiction fun h=>q4 (.inr h)
  rw[if_neg (fun h=>h.elim (fun h=>h q3) fun h=>h.elim (fun h=>by rw[w]at h;cases h) q4)]at hM
  simp[go_sem,q4']
  obtain⟨args,hargs⟩: ∃args,e.args=args:=⟨_,rfl⟩
  rw[hargs]at hM hlen ih
  simp[go_sem,hargs]
  refine zN (S:=Nat) [1,73,74,75] (fun i=> [.int .i64 ((m:Int)+1),.sl .ro (args.map GExpr.row),.int .i64 args.length,.int .i64 (i:Int)]) (fun _=> []) (fun i=>args.length - i)
   (fun i=>i≤args.length∧(args.drop i).all (mayE m)=M) hc hb 0 ⟨Nat.zero_le _,by rw[List.drop_zero];exact hM⟩ ?_ ?_
  ·exact at_0 rfl (zI (by simp[go_sem]) rfl)
  rintro i ⟨hi,hinv⟩
  by_cases q:i<args.length
  rotate_left
  ·rw[List.drop_eq_nil_of_le (by omega)]at hinv
   refine zC ?_
   simp[go_sem,q]
   exact ret _ _ hinv
  have ei:=zU q (by omega)
  rw[zz9 _ _ _ q]at hinv
  obtain⟨x,hx⟩: ∃x,args[i]=x:=⟨_,rfl⟩
  have hcall:=ih x (hx▸List.getElem_mem q)
  rw[hx]at hinv
  generalize mayE m x=b at hcall hinv
  refine zC ?_
  simp[go_sem,q,hx,em2]
  refine zD hcall Tryz.callB120 (zI (by simp[go_sem]) (by rw[GExpr.row_eq];rfl)) rfl ?_
  refine(Bool.eq_false_or_eq_true b).elim (fun p=> ?_) (fun p=> ?_)
  ·rw[p,Bool.true_and]at hinv
   simp[go_sem,p,ei]
   exact zP (i+1) ⟨by omega,⟨by omega,hinv⟩,at_0 rfl (zI (by simp[go_sem]) rfl)⟩
  ·rw[p,Bool.false_and]at hinv
   simp[go_sem,p]
   exact ret _ _ hinv
end Go.Proofs.YtajjjghohakniaaGreat
