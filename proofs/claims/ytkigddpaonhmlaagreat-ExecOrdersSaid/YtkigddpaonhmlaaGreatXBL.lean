/-
  The document's Same on one and the same answer; used by the theorems at the end of the Exec claims.
  Conditions: as the theorem states them.
-/
import Derived.Test.YtkigddpaonhmlaaGreatXBK
import Derived.Test.YtkigddpaonhmlaaGreatXAR
import Derived.Test.YtkigddpaonhmlaaGreatXBE
import Derived.Test.YtkigddpaonhmlaaGreatXBF
import Derived.Test.YtkigddpaonhmlaaGreatXBD
import Derived.Test.YtkigddpaonhmlaaGreatXBG
import Derived.Test.YtkigddpaonhmlaaGreatXBC
set_option maxHeartbeats 8000000
namespace Go.Proofs.YtkigddpaonhmlaaGreat
open Go Go.Vx R Go.Proofs.Tryz
set_option maxRecDepth 100000
def plR (p:Pl):List V:= [.int .i64 p.1,.str p.2]
def wrR (w:Wr):List V:= [.str w.p.2,.bool w.drop,.str w.data]
def putR (q:Int×List Wr):List V:= [.int .i64 q.1,.sl .ro (q.2.map wrR)]
def nPut (q:Int×List Wr×Nat):List V:= [.int .i64 q.1,.sl (.app (q.2.2+8)) (q.2.1.map wrR)]
def pOf (N:List (Int×List Wr×Nat)):List (Int×List Wr):=N.map fun q=>(q.1,q.2.1)
theorem xC5 (N:List (Int×List Wr×Nat)):za3 (N.map nPut) 0 N.length=(pOf N).map putR:=by
 unfold za3 pOf
 rw[Bd,Au (by simp),Bq,Bq]
 rfl
theorem xR6 (N:List (Int×List Wr×Nat)):xW (N.map nPut)=true:=by simp[xW,nPut,zg3]
def xK6 (N:List (Int×List Wr×Nat)) (τ:St) (i:Nat):Prop:= ∀O r C k,N=O++ [(r,C,k)]->τ[k]? =some (.app C.length 3)/\C.length<=i
theorem yu5 {α:Type} {g:α->V} {id:Nat} {rows:List (List V)} (hg: ∀v,frzA id rows (g v)=g v): ∀W:List (Pl×α),(kvE g W).map (frzA id rows)=kvE g W
 | []=>rfl
 |e::W=>by
  rw[kvE,Al,Al,yu5 hg W,hg]
  rfl
theorem xD8 {a b:Mp (List UInt8)} {sn:Mp Int} {id:Nat} {rows:List (List V)}:(runS a b sn).map (zO5 id rows)=runS a b sn:=by
 unfold runS
 simp only[Al,Br,Mp.ob,zO5]
 rw[yu5 (fun _=>rfl),yu5 (fun _=>rfl),yu5 (fun _=>rfl)]
 rfl
theorem at_w {n0:Nat} {keep:List Nat} {vs:List V} {s:St} {e:Env} {σ:St} (hs:σ=s) (hn:n0<=σ.length) (h:keep.map e=vs):At n0 keep vs s e σ:=by
 subst hs
 exact yB hn h
theorem xq9 {O:List (Int×List Wr×Nat)} {r:Int} {C:List Wr} {k:Nat} {w:Wr} (h:w.p.1=r):grpS (pOf (O++ [(r,C,k)])) w=pOf (O++ [(r,C++ [w],k)]):=by
 unfold grpS pOf
 rw[Dj,List.getLast?_append]
 simp[h]
theorem xE2 {O:List (Int×List Wr×Nat)} {r r0:Int} {C:List Wr} {k k':Nat} {w:Wr} (h:w.p.1=r) (hr: ¬r0=r):grpS (pOf (O++ [(r0,C,k)])) w=pOf ((O++ [(r0,C,k)])++ [(r,[w],k')]):=by
 unfold grpS pOf
 rw[Dj,List.getLast?_append]
 simp[h,hr]
theorem zS8 {N:List (Int×List Wr×Nat)} {r:Int} {C:List Wr} {k i:Nat} {τ:St} (h:τ[k]? =some (.app C.length 3)) (hl:C.length<=i):xK6 (N++ [(r,C,k)]) τ i:=fun O r' C' k' e=>by
 have h2:=List.append_inj_right' e rfl
 clear e
 cases h2
 exact⟨h,hl⟩
theorem xe9 (a:Mp (List UInt8)) (D:List (Pl×List UInt8)) (e:Pl×List UInt8):keyN a (D++ [e])=if isN a e=true then keyN a D++ [e.1]else keyN a D:=by
 unfold keyN
 by_cases q:isN a e=true
 .rw[if_pos q];simp[Eb,q]
 .rw[if_neg q];simp[Eb,q]
theorem xf0 (b:Mp (List UInt8)) (D:List (Pl×List UInt8)) (e:Pl×List UInt8):keyO b (D++ [e])=if isO b e=true then keyO b D++ [e.1]else keyO b D:=by
 unfold keyO
 by_cases q:isO b e=true
 .rw[if_pos q];simp[Eb,q]
 .rw[if_neg q];simp[Eb,q]
theorem xF0 (a:Mp (List UInt8)) (D:List (Pl×List UInt8)):(keyN a D).length<=D.length:=by
 unfold keyN;rw[Aq];exact Bk _ _
theorem xF1 (a:Mp (List UInt8)) (D:List (Pl×List UInt8)):(keyO a D).length<=D.length:=by
 unfold keyO;rw[Aq];exact Bk _ _
theorem MetD.le {α:Type} {seen:List Nat} {W:List (Pl×α)} {bs:List Nat} {D:List (Pl×α)} (h:MetD seen W bs D):D.length<=W.length:=by
 have:=h.length_eq
 simp at this
 omega
theorem xR8 (a b:Mp (List UInt8)) (sn:Mp Int) (was now:List Ln) (ha:NowOk a was) (hn:NowOk b now) (hwl:was.length<=10000) (hnl:now.length<=10000):
  VCalls prog 22 [.ptr 3 0] (runS a b sn) (fun r s=>r= .sl .ro ((grpF (chgF was now)).map putR)/\s=runS a b sn):=by
 have eA:a.ob .str= .mp (kvE .str a.W) a.bs a.clk:=rfl
 have eB:b.ob .str= .mp (kvE .str b.W) b.bs b.clk:=rfl
 have haW:a.W.length<=10000:=by have:=ha.perm.length_eq;simp at this;omega
 have hbW:b.W.length<=10000:=by have:=hn.perm.length_eq;simp at this;omega
 have hbs: ∀x∈b.bs,x<b.clk:=hn.ok.lt
 have has: ∀x∈a.bs,x<a.clk:=ha.ok.lt
 have ok6: ∀(L:List Pl) (se:List Nat),([a.ob .str,b.ob .str,sn.ob (V.int .i64),.box [.sl .ro xX,.sl .ro (tabsS.map GTable.row),.mp 0,.mp 1,.mp 2],.lst (L.map plR) 2,.it (some 1) b.clk se b.clk]:St).all (ltOb 6)=true:=fun L se=>by
  have h:=xM 6 (by omega) a b sn
  simp only[runS,runB,Am,Cp,Cx]at h⊢
  rw[A4,A4,A4]at h⊢
  refine⟨h.1,h.2.1,h.2.2.1, ?_⟩
  rw[A4]
  exact⟨h.2.2.2,by simp[ltOb,ltC,ltK,plR]⟩
 refine iV 4 func22 ntmps22 results22 fun c hc hb=> ?_
 refine zS (zA ?_)
 simp[go_sem,runS,runB]
 refine zS (zA ?_)
 simp[go_sem]
 refine zJ9 3 2 (by decide) (by simp[go_sem]) ?_
 refine zS (zA ?_)
 simp[go_sem,eB]
 refine zL (S:=List Nat×List (Pl×List UInt8)) [0,3,21] (fun u=> [.ptr 3 0,.lsv 4 2 (keyN a u.2).length 0 (keyN a u.2).length,.ptr 5 0])
   (fun u=> [a.ob .str,b.ob .str,sn.ob (V.int .i64),.box [.sl .ro xX,.sl .ro (tabsS.map GTable.row),.mp 0,.mp 1,.mp 2],.lst ((keyN a u.2).map plR) 2,.it (some 1) b.clk u.1 b.clk]) (fun u=>(ze4 u.1 b.W b.bs).length)
   (fun u=>MetD u.1 b.W b.bs u.2) hc hb ([],[]) (MetD.start hn.ok.len) ?_ ?_
 have k0:keyN a []= []:=rfl
 .exact at_n 6 (by simp[go_sem,k0];rfl) rfl (ok6 _ _) (by decide) (zG (by simp[go_sem,k0]) rfl)
 .rintro⟨se,D⟩ hD
  simp only at hD
  refine zv7 22 (by decide) ?_
  refine zA ?_
  simp[go_sem,eB]
  have hDl:=hD.le
  have hXl:=xF0 a D
  refine yz8 (b:=b) (i:=5) (id:=1) (seen:=se) (clk:=b.clk) (by simp[go_sem,zh0]) rfl rfl hbs (fun hL=> ?_) (fun p hp=> ?_)
  .have hdone:=hD.done hL
   obtain⟨K1,hK1⟩:=eX (keyN a D)
   have hk1p:K1.Perm (keyN a b.W):=by rw[<-hK1];exact(hdone.filter _).map _
   have hk1l:K1.length<=10000:=by rw[<-hK1];omega
   rw[hK1]
   clear hK1 hdone hL hXl hDl hD
   have ok7: ∀(L:List Pl) (se':List Nat),([a.ob .str,b.ob .str,sn.ob (V.int .i64),.box [.sl .ro xX,.sl .ro (tabsS.map GTable.row),.mp 0,.mp 1,.mp 2],.lst (L.map plR) 2,.it (some 1) b.clk se b.clk,.it (some 0) a.clk se' a.clk]:St).all (ltOb 7)=true:=fun L se'=>by
    have h:=xM 7 (by omega) a b sn
    simp only[runS,runB,Am,Cp,Cx]at h⊢
    rw[A4,A4,A4]at h⊢
    refine⟨h.1,h.2.1,h.2.2.1, ?_⟩
    rw[A4]
    exact⟨h.2.2.2,by simp[ltOb,ltC,ltK,plR]⟩
   simp[go_sem]
   refine zS (zA ?_)
   simp[go_sem,eA]
   have k0:keyO b []= []:=rfl
   refine zL (S:=List Nat×List (Pl×List UInt8)) [0,3,51] (fun u=> [.ptr 3 0,.lsv 4 2 (K1++keyO b u.2).length 0 (K1++keyO b u.2).length,.ptr 6 0])
     (fun u=> [a.ob .str,b.ob .str,sn.ob (V.int .i64),.box [.sl .ro xX,.sl .ro (tabsS.map GTable.row),.mp 0,.mp 1,.mp 2],.lst ((K1++keyO b u.2).map plR) 2,.it (some 1) b.clk se b.clk,.it (some 0) a.clk u.1 a.clk]) (fun u=>(ze4 u.1 a.W a.bs).length)
     (fun u=>MetD u.1 a.W a.bs u.2) hc hb ([],[]) (MetD.start ha.ok.len) ?_ ?_
   .exact at_n 7 (by simp[go_sem,k0,eA,eB]) rfl (ok7 _ _) (by decide) (zG (by simp[go_sem,k0]) rfl)
   rintro⟨se2,D⟩ hD
   simp only at hD
   refine zv7 52 (by decide) ?_
   refine zA ?_
   simp[go_sem,eA]
   have hDl:=hD.le
   have hXl:=xF1 b D
   refine yz8 (b:=a) (i:=6) (id:=0) (seen:=se2) (clk:=a.clk) (by simp[go_sem,zh0]) rfl rfl has (fun hL=> ?_) (fun p hp=> ?_)
   .have hdone:=hD.done hL
    obtain⟨K2,hK2⟩:=eX (K1++keyO b D)
    have hk2p:K2.Perm (keyN a b.W++keyO b a.W):=by rw[<-hK2];exact hk1p.append ((hdone.filter _).map _)
    have hk2l:K2.length<=20000:=by rw[<-hK2,Aw];omega
    have hk2m:(K1++keyO b D).map plR=K2.map plR:=by rw[hK2]
    have hk2n:(K1++keyO b D).length=K2.length:=by rw[hK2]
    rw[Dj]at hk2m
    rw[Aw]at hk2n
    clear hK2 hdone hL hXl hDl hD hk1l hk1p k0 ok6 ok7
    simp[go_sem,hk2m,hk2n]
    refine zS (zA ?_)
    simp[go_sem]
    refine yL1 Tryz.sortPl rfl cB (by decide) Tryz.sortPl_agg Tryz.sortPl_sz cB yH6 yZ2 (f:=plR) (kx:=fun p=>p) (fun x=>⟨_,rfl,rfl⟩) K2 rfl (by omega) (fun L hpl hsr=> ?_)
    have hchg:=xn0 ha hn (hpl.symm.trans hk2p) hsr
    have hLl:L.length<=20000:=by rw[<-hpl.length_eq];exact hk2l
    rw[hpl.length_eq]
    clear hpl hsr hk2p hk2l hk2n hk2m
    simp[go_sem]
    refine zS (zA ?_)
    simp[go_sem]
    refine zJ9 11 2 (by decide) (by simp[go_sem]) ?_
    refine zS (zA ?_)
    simp[go_sem]
    obtain⟨G,hG⟩:=eX (grpF (chgF was now))
    rw[hG]
    have hG0:(L.map (wrB b)).foldl grpS (pOf [])=G:=by rw[hchg];exact hG
    clear hchg hG
    refine zL (S:=Nat×List (Int×List Wr×Nat)×St) [0,11,73,74,75] (fun u=> [.ptr 3 0,.lsv 7 2 u.2.1.length 0 u.2.1.length,.lsv 4 2 L.length 0 L.length,.int .i64 L.length,.int .i64 u.1])
      (fun u=> [a.ob .str,b.ob .str,sn.ob (V.int .i64),.box [.sl .ro xX,.sl .ro (tabsS.map GTable.row),.mp 0,.mp 1,.mp 2],.lst (L.map plR) 2,.it (some 1) b.clk se b.clk,.it (some 0) a.clk se2 a.clk,.lst (u.2.1.map nPut) 2]++u.2.2) (fun u=>L.length - u.1)
      (fun u=>u.1<=L.length/\u.2.1.length<=u.1/\xK6 u.2.1 u.2.2 u.1/\((L.map (wrB b)).drop u.1).foldl grpS (pOf u.2.1)=G) hc hb (0,[],[]) ⟨A3 _,A2 _,fun O r C k h=>by simp at h,hG0⟩ ?_ ?_
    .exact yB (by simp) (by simp[go_sem])
    rintro⟨i,N,τ⟩ ⟨hi,hNi,hla,hfold⟩
    simp only at hi hNi hla hfold
    by_cases q:i<L.length
    rotate_left
    .rw[A9 (by rw[Aq];omega),Eh]at hfold
     refine zA ?_
     simp[go_sem,q]
     refine zA ?_
     simp[go_sem]
     refine yL7 7 2 (N.map nPut) rfl (xR6 N) ?_
     simp only[frzS,frzA,frzC,frzK,Aq,Aa,A2,and_self,if_true,xC5,hfold]
     refine xJ 4 (s:=runS a b sn) (r:= .sl .ro (G.map putR)) ?_ rfl (xM 4 (by decide) a b sn) (A2 _) zX ⟨rfl,rfl⟩
     exact xD8
    have ei:=zV q (by omega)
    obtain⟨⟨pr,pk⟩,hp⟩: ∃p,L[i]=p:=⟨_,rfl⟩
    rw[A6 (by rw[Aq];exact q),Be,Ct,hp]at hfold
    refine zS (zA ?_)
    simp[go_sem,q]
    refine zS (zA ?_)
    simp[go_sem]
    refine zS (zg0 (zS (zA ?_)))
    simp[go_sem,q,hp,plR]
    refine zc0 (S:=Bool×List UInt8) [0,11,13,14,15,73,74,75] (fun u=> [.ptr 3 0,.lsv 7 2 N.length 0 N.length,.ptr (τ.length+8) 0,.str u.2,.bool (!u.1),.lsv 4 2 L.length 0 L.length,.int .i64 L.length,.int .i64 i])
      (fun u=> [a.ob .str,b.ob .str,sn.ob (V.int .i64),.box [.sl .ro xX,.sl .ro (tabsS.map GTable.row),.mp 0,.mp 1,.mp 2],.lst (L.map plR) 2,.it (some 1) b.clk se b.clk,.it (some 0) a.clk se2 a.clk,.lst (N.map nPut) 2]++(τ++ [.box [.int .i64 pr,.str pk]]))
      (fun u=>wrB b (pr,pk)=⟨(pr,pk),u.1,u.2⟩) hc hb ?_ ?_
    .refine yU [] (τ.length+9) (by simp) (by kernel_rfl) (by kernel_rfl) ?_
     simp[go_sem,eB]
     cases hat:b.at (pr,pk)with
     |none=>
      have hat':idxW (pr,pk) b.W=none:=hat
      have hw:wrB b (pr,pk)=⟨(pr,pk),true,[]⟩:=by simp[wrB,Mp.get,hat]
      simp[go_sem,zb4,hat',za2,zd2]
      exact zI (true,[]) ⟨hw,yB (by simp) (by simp[go_sem])⟩
     |some w=>
      have hat':idxW (pr,pk) b.W=some w:=hat
      have hw:wrB b (pr,pk)=⟨(pr,pk),false,w.2⟩:=by simp[wrB,Mp.get,hat]
      simp[go_sem,zb4,hat',za2,zd2]
      exact zI (false,w.2) ⟨hw,yB (by simp) (by simp[go_sem])⟩
    rintro⟨dr,dat⟩ hw
    simp only at hw
    rw[hw]at hfold
    rcases List.eq_nil_or_concat N with hN|⟨O,⟨r0,C,k⟩,hN⟩
    .subst hN
     refine zS (zS ?_)
     refine yU [] (τ.length+9) (by simp) (by kernel_rfl) (by kernel_rfl) ?_
     simp[go_sem]
     refine zQ8 (b:=true) (by simp[go_sem]) (fun _=> ?_) (fun h=>by cases h)
     refine zX2 4 rfl rfl rfl ?_
     simp[go_sem,Bu]
     refine zJ (yC rfl) ?_
     simp[go_sem]
     refine zS (zA ?_)
     simp[go_sem]
     refine zb7 [(4,2),(6,2),(12,3),(15,4)] 6 (by simp) (by kernel_rfl) (by kernel_rfl) ?_
     simp[go_sem]
     refine zJ ⟨(fun r hr=>by cases hr),yC rfl⟩ ?_
     simp[go_sem]
     refine zA ?_
     simp[go_sem,ei]
     exact zI (i+1,[(pr,[⟨(pr,pk),dr,dat⟩],τ.length+1)],τ++ [.box [.int .i64 pr,.str pk],.app 1 3]) ⟨by show L.length - (i+1)<L.length - i;omega,⟨q,by show 1<=i+1;omega,zS8 (N:= []) (by simp) (by simp),hfold⟩,at_w (by simp[nPut,wrR]) (by simp) (by simp[go_sem])⟩
    rw[List.concat_eq_append]at hN
    subst hN
    obtain⟨hk,hC⟩:=hla O r0 C k rfl
    have hkl:=(A1.1 hk).1
    have hOl:O.length+1<=i:=by simpa using hNi
    have z0:((O.length:Int)+1==0)=false:=by simp;omega
    have es:IntKind.i64.wrap (O.length:Int)=O.length:=i64_id (by omega) (by omega)
    have es1:IntKind.i64.wrap ((O.length:Int)+1)=((O.length+1:Nat):Int):=by rw[i64_id (by omega) (by omega)];omega
    by_cases hr:r0=pr
    .subst hr
     refine zS (zS ?_)
     refine yU [] (τ.length+9) (by simp) (by kernel_rfl) (by kernel_rfl) ?_
     simp[go_sem,nPut,z0,es]
     refine zJ (by omega) ?_
     simp[go_sem]
     refine zA ?_
     simp[go_sem]
     refine zS (zA ?_)
     simp[go_sem,es]
     refine zJ (by omega) ?_
     simp[go_sem]
     refine zb7 [(4,2),(6,2),(12,3),(15,4)] 6 (by simp) (by kernel_rfl) (by kernel_rfl) ?_
     have hkx:(τ++ [Ob.box [.int .i64 r0,.str pk]])[k]? =some (.app C.length 3):=by rw[Ab hkl];exact hk
     have hks: ∀o,(τ++ [Ob.box [.int .i64 r0,.str pk]]).set k o=τ.set k o++ [Ob.box [.int .i64 r0,.str pk]]:=fun o=>Dc _ _ hkl
     simp[go_sem,hkx,hks]
     refine zJ ⟨by omega,yC rfl⟩ ?_
     simp[go_sem]
     refine zA ?_
     simp[go_sem,ei]
     exact zI (i+1,O++ [(r0,C++ [⟨(r0,pk),dr,dat⟩],k)],τ.set k (.app (C.length+1) 3)++ [.box [.int .i64 r0,.str pk]]) ⟨by show L.length - (i+1)<L.length - i;omega,⟨q,by show(O++ [_]).length<=i+1;simp;omega,zS8 (by rw[Ab (by simpa using hkl),Ak hkl];simp) (by simp;omega),by rw[xq9 (r:=r0) (w:=⟨(r0,pk),dr,dat⟩) rfl]at hfold;exact hfold⟩,at_w (by simp[nPut,wrR]) (by simp) (by simp[go_sem])⟩
    .have hr':(r0 !=pr)=true:=by simpa using hr
     refine zS (zS ?_)
     refine yU [] (τ.length+9) (by simp) (by kernel_rfl) (by kernel_rfl) ?_
     simp[go_sem,nPut,z0,es]
     refine zJ (by omega) ?_
     simp[go_sem,hr']
     refine zQ8 (b:=true) (by simp[go_sem]) (fun _=> ?_) (fun h=>by cases h)
     refine zX2 4 rfl rfl rfl ?_
     simp[go_sem,Bu]
     refine zJ ⟨yC rfl,by omega⟩ ?_
     simp[go_sem]
     refine zS (zA ?_)
     simp[go_sem,es1]
     refine zJ (by omega) ?_
     simp[go_sem]
     refine zb7 [(4,2),(6,2),(12,3),(15,4)] 6 (by simp) (by kernel_rfl) (by kernel_rfl) ?_
     simp[go_sem]
     refine zJ ⟨(fun r hr=>by cases hr),yC rfl⟩ ?_
     simp[go_sem]
     refine zA ?_
     simp[go_sem,ei]
     exact zI (i+1,(O++ [(r0,C,k)])++ [(pr,[⟨(pr,pk),dr,dat⟩],τ.length+1)],τ++ [.box [.int .i64 pr,.str pk],.app 1 3]) ⟨by show L.length - (i+1)<L.length - i;omega,⟨q,by show((O++ [_])++ [_]).length<=i+1;simp;omega,zS8 (by simp) (by simp),by rw[xE2 (k':=τ.length+1) rfl hr]at hfold;exact hfold⟩,at_w (by simp[nPut,wrR]) (by simp) (by simp[go_sem])⟩
   .have hek:=yt9 (g:=V.str) ha.ok.nd (zJ2 hp)
    have hnx:=hD.next ha.ok.nd hp
    have hms:=(zC4 ha.ok.nd hp).length_eq
    obtain⟨⟨⟨pr,pk⟩,data⟩,stamp⟩:=p
    simp only[plV]at hek hnx hms
    have hmeas:(ze4 (se2++ [stamp]) a.W a.bs).length<(ze4 se2 a.W a.bs).length:=by rw[hms];exact Ek _
    clear hms hp
    have hkn:=xf0 b D ((pr,pk),data)
    have hiN:isO b ((pr,pk),data)=((b.at (pr,pk)).map (·.2)).isNone:=rfl
    simp[go_sem,plV,zh9,hek]
    refine yU [] 8 rfl (by kernel_rfl) (by kernel_rfl) ?_
    simp[go_sem,eB]
    cases hat:b.at (pr,pk)with
    |none=>
     have hat':idxW (pr,pk) b.W=none:=hat
     rw[if_pos (by rw[hiN,hat];rfl)]at hkn
     simp[go_sem,zb4,hat',za2,zd2,Bu]
     refine zJ ⟨yC rfl,by omega⟩ ?_
     simp[go_sem]
     exact zI (se2++ [stamp],D++ [((pr,pk),data)]) ⟨hmeas,hnx,at_n 7 (by simp[go_sem,hkn,plR,eA,eB]) rfl (ok7 _ _) (by decide) (zG (by simp[go_sem,hkn,Bv]) rfl)⟩
    |some w=>
     have hat':idxW (pr,pk) b.W=some w:=hat
     rw[hat]at hiN
     rw[if_neg (by rw[hiN];simp)]at hkn
     simp[go_sem,zb4,hat',za2,zd2]
     exact zI (se2++ [stamp],D++ [((pr,pk),data)]) ⟨hmeas,hnx,at_n 7 (by simp[go_sem,hkn,eA,eB]) rfl (ok7 _ _) (by decide) (zG (by simp[go_sem,hkn]) rfl)⟩
  .have hek:=yt9 (g:=V.str) hn.ok.nd (zJ2 hp)
   have hnx:=hD.next hn.ok.nd hp
   have hms:=(zC4 hn.ok.nd hp).length_eq
   obtain⟨⟨⟨pr,pk⟩,data⟩,stamp⟩:=p
   simp only[plV]at hek hnx hms
   have hmeas:(ze4 (se++ [stamp]) b.W b.bs).length<(ze4 se b.W b.bs).length:=by rw[hms];exact Ek _
   clear hms hp
   have hkn:=xe9 a D ((pr,pk),data)
   have hiN:isN a ((pr,pk),data)=((a.at (pr,pk)).map (·.2) !=some data):=rfl
   simp[go_sem,plV,zh9,hek]
   refine yU [] 7 rfl (by kernel_rfl) (by kernel_rfl) ?_
   simp[go_sem,eA]
   cases hat:a.at (pr,pk)with
   |none=>
    have hat':idxW (pr,pk) a.W=none:=hat
    rw[if_pos (by rw[hiN,hat];rfl)]at hkn
    simp[go_sem,zb4,hat',za2,zd2,Bu]
    refine zJ ⟨yC rfl,by omega⟩ ?_
    simp[go_sem]
    exact zI (se++ [stamp],D++ [((pr,pk),data)]) ⟨hmeas,hnx,at_n 6 (by simp[go_sem,hkn,plR,eA];rfl) rfl (ok6 _ _) (by decide) (zG (by simp[go_sem,hkn]) rfl)⟩
   |some w=>
    have hat':idxW (pr,pk) a.W=some w:=hat
    rw[hat]at hiN
    by_cases q:w.2=data
    .have q':(w.2==data)=true:=by simpa using q
     rw[if_neg (by rw[hiN];simpa using q)]at hkn
     simp[go_sem,zb4,hat',za2,zd2,q']
     exact zI (se++ [stamp],D++ [((pr,pk),data)]) ⟨hmeas,hnx,at_n 6 (by simp[go_sem,hkn,eA];rfl) rfl (ok6 _ _) (by decide) (zG (by simp[go_sem,hkn]) rfl)⟩
    .have q':(w.2==data)=false:=by simpa using q
     rw[if_pos (by rw[hiN];simpa using q)]at hkn
     simp[go_sem,zb4,hat',za2,zd2,q',Bu]
     refine zJ ⟨yC rfl,by omega⟩ ?_
     simp[go_sem]
     exact zI (se++ [stamp],D++ [((pr,pk),data)]) ⟨hmeas,hnx,at_n 6 (by simp[go_sem,hkn,plR,eA];rfl) rfl (ok6 _ _) (by decide) (zG (by simp[go_sem,hkn]) rfl)⟩
theorem xn2 (a b:GValue): -1<=cmpV a b/\cmpV a b<=1:=by
 unfold cmpV
 have h1: -1<=cmpI a.kind b.kind/\cmpI a.kind b.kind<=1:=by unfold cmpI;split<;>(try split)<;>omega
 have h2: -1<=cmpI a.n b.n/\cmpI a.n b.n<=1:=by unfold cmpI;split<;>(try split)<;>omega
 have h3: -1<=cmpS a.s b.s/\cmpS a.s b.s<=1:=by unfold cmpS;split<;>(try split)<;>omega
 simp only[orL]
 split
 .split
  .split<;>omega
  .omega
 .omega
theorem yJ3 {T:GTable}: ∀{l p:List GAssign},zq0 T p l=0-> ∀x∈l,0<=colF T x.name
 | [],_,_,x,hx=>by cases hx
 |y::l,p,h,x,hx=>by
  rw[zq0]at h
  by_cases q1:colF T y.name<0
  .rw[if_pos q1]at h;cases h
  rw[if_neg q1]at h
  by_cases q2:colF T y.name=T.key∨(colF T y.name=0/\T.place=0)
  .rw[if_pos q2]at h;cases h
  rw[if_neg q2]at h
  by_cases q3:(p.any fun z=>z.name==y.name)=true
  .rw[if_pos q3]at h;cases h
  rw[if_neg q3]at h
  by_cases q4:zu1 T y.e (colK T (colF T y.name))≠0
  .rw[if_pos q4]at h;exact absurd h q4
  rw[if_neg q4]at h
  rcases Ag.1 hx with rfl|hx
  .omega
  .exact yJ3 h x hx
theorem zR8 {mode:Int}: ∀{l:List GStmt} {i:Nat},(zL6 mode l i).2=0-> ∀z∈l,zn7 z=0
 | [],_,_,z,h=>by cases h
 |y::l,i,h,z,hx=>by
  rw[zL6]at h
  by_cases q1:mode≠0/\y.kind≠1
  .rw[if_pos q1]at h;cases h
  rw[if_neg q1]at h
  by_cases q2:zn7 y≠0
  .rw[if_pos q2]at h;exact absurd h q2
  rw[if_neg q2]at h
  rcases Ag.1 hx with rfl|hx
  .simpa using q2
  .exact zR8 h z hx
theorem yH8 {lot:GLot} (hl:LOk lot) (h:(zx3 lot).2=0): ∀st∈lot.stmts,StOk st:=by
 unfold zx3 at h
 by_cases q:mayL lot=true
 rotate_left
 .rw[if_neg q]at h;cases h
 rw[if_pos q]at h
 intro st hst
 have hc:=zR8 h st hst
 have hso:=hl.stmts.2 st hst
 have hm:mayS st=true:=by
  unfold mayL at q
  rw[A4,Af]at q
  exact q.2 st hst
 unfold zn7 at hc
 have htc:=zW5 st.table
 have hT: ∃T,tabsS[(zd6 st.table).toNat]? =some T:=by
  rcases htc with h|h
  .exact⟨_,A0 (show(zd6 st.table).toNat<tabsS.length by have:tabsS.length=3:=rfl;omega)⟩
  .exact⟨_,A0 (show(zd6 st.table).toNat<tabsS.length by have:tabsS.length=3:=rfl;omega)⟩
 obtain⟨T,hT⟩:=hT
 rw[hT]at hc
 simp only at hc
 have h0:0<=zd6 st.table:=by
  by_cases q:zd6 st.table<0
  .rw[if_pos q]at hc;cases hc
  .omega
 rw[if_neg (by omega)]at hc
 refine⟨hso,xy9 hso.where_.good,h0,fun k1=> ?_,fun k3=> ?_⟩
 .unfold mayS at hm
  rw[A4,A4]at hm
  have hb:=hm.2.2
  unfold xm2 at hb
  rw[if_pos k1,A4]at hb
  intro he
  rw[he]at hb
  exact absurd hb.1 (by decide)
 .rw[A5,hT]
  rw[if_neg (by omega),if_neg (by omega),if_pos k3]at hc
  by_cases q:zq0 T [] st.sets≠0
  .rw[if_pos q]at hc;exact absurd hc q
  .exact yJ3 (by simpa using q)
theorem xk1 (l:List Ln) (x:Ln):(zR0 l x).length=l.length+1:=(zh7 l x).length_eq
theorem yE4 {t:Nat} {T:GTable}: ∀{rs:List (List GExpr)} {l:List Ln},(insF t T rs l).1.length<=l.length+rs.length
 | [],l=>by rw[insF];simp
 |r::rs,l=>by
  rw[insF]
  split
  .simp
  split
  .simp
  split
  .simp
  refine Ay yE4 ?_
  rw[xk1,Ah];omega
theorem yK7 {T:GTable} {sets:List GAssign}: ∀{m l:List Ln},(updF T sets m l).1.length<=l.length
 | [],l=>A2 _
 |x::m,l=>by
  rw[updF]
  split
  .exact A3 _
  split
  .exact A3 _
  refine Ay yK7 ?_
  unfold putF
  rw[Aq]
  exact A2 _
theorem yC7: ∀{m l:List Ln},(delF m l).length<=l.length
 | [],l=>A2 _
 |x::m,l=>by
  rw[delF]
  exact Ay yC7 (Bk _ _)
theorem yV4 {st:GStmt} {l:List Ln}:(doS st l).2.1.length<=l.length+st.rows.length:=by
 unfold doS
 simp only
 split
 .split
  .simp
  .exact yE4
 split
 .simp
 split
 .simp
 split
 .split
  .simp
  .exact Ay yK7 (by omega)
 .exact Ay yC7 (by omega)
abbrev Vw:=Nat×List (List UInt8×List UInt8)
def prR (q:List UInt8×List UInt8):List V:= [.str q.1,.str q.2]
def vwR (x:Vw):List V:= [.int .i64 x.1,.sl .ro (x.2.map prR)]
def onF (g:Nat) (l:List (List UInt8×List UInt8)):List (Pl×List UInt8):=l.map fun q=>(((g:Int),q.1),q.2)
def yP (vs:List Vw):List (Pl×List UInt8):=vs.flatMap fun x=>onF x.1 x.2
def wW (vs:List Vw):List Ln:=((yP vs).foldl zw9 ([],[])).2
theorem zx2 (x:Vw) (vs:List Vw):yP (x::vs)=onF x.1 x.2++yP vs:=by unfold yP;rw[Bl]
theorem TkI.now_none {n:Nat} {s:List (Pl×List UInt8)×List Ln} {a b:Mp (List UInt8)} {sn:Mp Int} (h:TkI n s (a,b,sn)) (p:Pl) (h0:sn.at p=none):a.at p=none/\b.at p=none:=by
 have h1:=(h.seen p).1 (get_isNone.2 h0)
 have hb:b.at p=none:=by
  rw[h.now.at_none]
  cases e:atF s.2 p with
  |false=>rfl
  |true=>
   obtain⟨x,hx,hxp⟩:=Ac.1 (atF_iff.1 e)
   have:(s.1.any fun e=>e.1==p)=true:=Da.2 ⟨_,(h.lines x hx).2,by simp[hxp]⟩
   rw[this]at h1;cases h1
 exact⟨by rw[show a=b from h.same];exact hb,hb⟩
theorem TkI.pos {n:Nat} {s:List (Pl×List UInt8)×List Ln} {a b:Mp (List UInt8)} {sn:Mp Int} (h:TkI n s (a,b,sn)) (hn:n<=1000000) (p:Pl) (i:Nat) (v:Int) (h0:sn.at p=some (i,v)):1<=v/\v<=1000000:=by
 have:=h.cnt p v (by show(sn.at p).map (·.2)=some v;rw[h0];rfl)
 omega
theorem yL5 {P:Program} {c:Ctx} {n0:Kp} {σ:St} (k:Nat) {f:FuncId} {caps args args':List V} {σin:St} {v:V} {KV:V->St->Prop} (hc:VCalls P f args' σin (fun r s=>r=v/\s=σin)) (hb:wS P f=true) (hk:σ.take k=σin) (hl:σin.length=k) (hok:σin.all (ltOb k)=true) (hv:ltS k v=true)
  (hn: ∀i,i<k->n0.has i=true) (hargs: ∀N,All2 (argS (ren (List.range k) N)) args' (args++caps)) (hK:KV v σ):wVD P c n0 1 (.fn f caps) args σ KV fx:=by
 refine⟨v,σ, ?_,fun _=>rfl,fun _=>KeepN.refl,A2 _,hK⟩
 rw[if_neg (by decide),if_pos rfl]
 intro s hs
 have hsk:s.take k=σin:=by
  rw[<-hk]
  refine C4 fun i=> ?_
  rw[Ae,Ae]
  by_cases q:i<k
  .rw[if_pos q,if_pos q];exact Kp.get (hn i q) hs
  .rw[if_neg q,if_neg q]
 refine ze9 (P:=P) (c:=c) (KV:=fun r s'=>r=v/\s'=s) k hc hb hsk hl hok (hargs _) ?_ ?_
 .rintro r s' ⟨rfl,rfl⟩
  exact⟨hl,hok,hv⟩
 .rintro r s' ⟨rfl,rfl⟩
  exact⟨rfl,by rw[<-hsk];exact Bp k s⟩
theorem yy1 {a b:Mp (List UInt8)} {sn:Mp Int} (n:Nat) (h:3<=n) {τ:St} (hR:τ.all (ltOb n)=true):(runS a b sn++τ).all (ltOb n)=true:=by
 rw[Ea,xM n h,hR];rfl
def ansR (x:Int×Int×List Ot):List V:= [.int .i64 x.1,.int .i64 x.2.1,.sl .ro (x.2.2.map Ot.row)]
def runV (lot:GLot) (was:List Ln):V:= .tup [.agg (ansR (lotF lot was).1),.sl .ro ((if(lotF lot was).1.1≠0 then []else grpF (chgF was (lotF lot was).2)).map putR)]
def schO:Ob:= .box [.sl .ro xX,.sl .ro (tabsS.map GTable.row)]
theorem xw6 (lot:GLot) (hl:LOk lot) (vs:List Vw) (hvl:vs.length<=100000) (hv: ∀x∈vs,x.1<1000/\x.2.length<=100000/\ ∀q∈x.2,q.2.length<=maxB) (hN:(yP vs).length<=7500):
  Pure prog 12 [schR tabsS,.agg lot.row,.sl .ro (vs.map vwR)] (runV lot (wW vs)):=by
 have hcheck:=yH9 lot hl
 obtain⟨hsl,hso⟩:=hl.stmts
 have hst:=yH8 hl
 obtain⟨⟨ci,cr⟩,hP⟩: ∃P,zx3 lot=P:=⟨_,rfl⟩
 rw[hP]at hcheck hst
 generalize hM:runV lot (wW vs)=M
 unfold runV lotF at hM
 rw[hP]at hM
 simp only at hM hst
 refine iV 0 func12 ntmps12 results12 fun c hc hb=> ?_
 refine zS (zA ?_)
 simp[go_sem,schR]
 refine zS (zA ?_)
 simp[go_sem]
 refine zD hcheck cB (zR (by simp[go_sem,schR]) rfl) rfl ?_
 simp[go_sem,wA]
 by_cases c0:cr=0
 rotate_left
 .have c0':(cr !=0)=true:=by simpa using c0
  rw[if_pos c0]at hM
  simp[go_sem,c0']
  have hM2:M= .tup [.agg [.int .i64 cr,.int .i64 ci,.sl .ro []],.sl .ro []]:=by rw[<-hM];simp[c0,ansR]
  exact zQ (r:=M) (by rw[hM2];exact xT ⟨zc5 ⟨zZ rfl,zZ rfl,yX,trivial⟩,zr9,trivial⟩) ⟨rfl,rfl⟩
 have c0':(cr !=0)=false:=by simpa using c0
 rw[if_neg (fun h=>h c0)]at hM
 simp[go_sem,c0']
 refine zc0 (S:=Unit) [2,4,6,10] (fun _=> [.sl .ro (vs.map vwR),.ptr 5 0,.ptr 6 0,.ptr 3 0]) (fun _=>tkS (mp0 _,mp0 _,mp0 _)++ [schO,.box lot.row,.box [.int .i64 0,.int .i64 0,.sl .full []]]) (fun _=>True) hc hb ?_ ?_
 .refine zA ?_
  simp[go_sem]
  exact zI () ⟨trivial,zI3 [3,4,5,6,0,1,2] (by decide) rfl ⟨rfl,rfl,rfl,rfl,rfl,rfl,rfl,trivial⟩ ⟨zC rfl,.inl rfl,.inl rfl,.inl rfl,trivial⟩⟩
 rintro _ _
 have hlot:=hl
 obtain⟨Q,hQ⟩:=eX ((yP vs).foldl zw9 ([],[]))
 have hQ2:wW vs=Q.2:=by unfold wW;rw[hQ]
 rw[hQ2]at hM
 clear hQ2
 refine zS (zA ?_)
 simp[go_sem]
 refine zL (S:=Nat×Nat×(List (Pl×List UInt8)×List Ln)×M3) [4,6,10,36,37,38] (fun u=> [.ptr 5 0,.ptr 6 0,.ptr 3 0,.sl .ro (vs.map vwR),.int .i64 vs.length,.int .i64 u.1])
  (fun u=>tkS u.2.2.2++ [schO,.box lot.row,.box [.int .i64 0,.int .i64 0,.sl .full []]]) (fun u=>vs.length - u.1)
  (fun u=>u.1<=vs.length/\TkI u.2.1 u.2.2.1 u.2.2.2/\u.2.1+(yP (vs.drop u.1)).length=(yP vs).length/\(yP (vs.drop u.1)).foldl zw9 u.2.2.1=Q) hc hb (0,0,([],[]),(mp0 _,mp0 _,mp0 _)) ⟨A3 _,xM5,by simp,hQ⟩ ?_ ?_
 .exact yB (by simp) (by simp[go_sem])
 rintro⟨i,n,s,a,b,sn⟩ ⟨hi,hT,hn,hfold⟩
 simp only at hi hT hn hfold
 by_cases q:i<vs.length
 .have ei:=zV q (by omega)
  obtain⟨⟨g,ps⟩,hx⟩: ∃x,vs[i]=x:=⟨_,rfl⟩
  obtain⟨hg,hpl,hpd⟩:=hv (g,ps) (hx▸A8 q)
  simp only at hg hpl hpd
  rw[A6 q,hx,zx2]at hn hfold
  rw[Dh]at hfold
  rw[Aw]at hn
  refine zA ?_
  simp[go_sem,tkS,runS,runB,schO,q,hx,vwR]
  refine zL (S:=Nat×Nat×(List (Pl×List UInt8)×List Ln)×M3) [4,6,10,12,36,37,38,43,44,45] (fun u=> [.ptr 5 0,.ptr 6 0,.ptr 3 0,.ptr 7 0,.sl .ro (vs.map vwR),.int .i64 vs.length,.int .i64 i,.sl .ro (ps.map prR),.int .i64 ps.length,.int .i64 u.1])
   (fun u=>tkS u.2.2.2++ [schO,.box lot.row,.box [.int .i64 0,.int .i64 0,.sl .full []],.box (vwR (g,ps))]) (fun u=>ps.length - u.1)
   (fun u=>u.1<=ps.length/\TkI u.2.1 u.2.2.1 u.2.2.2/\u.2.1+((onF g (ps.drop u.1)).length+(yP (vs.drop (i+1))).length)=(yP vs).length/\(yP (vs.drop (i+1))).foldl zw9 ((onF g (ps.drop u.1)).foldl zw9 u.2.2.1)=Q) hc hb (0,n,s,a,b,sn) ⟨A3 _,hT,hn,hfold⟩ ?_ ?_
  .exact at_w rfl (by simp) (by simp[go_sem])
  rintro⟨j,n1,s1,a1,b1,sn1⟩ ⟨hj,hT1,hn1,hfold1⟩
  simp only at hj hT1 hn1 hfold1
  by_cases qj:j<ps.length
  .have ej:=zV qj (by omega)
   obtain⟨⟨k,d⟩,hp⟩: ∃x,ps[j]=x:=⟨_,rfl⟩
   have hd:=hpd (k,d) (hp▸A8 qj)
   simp only at hd
   have hon:onF g (ps.drop j)=(((g:Int),k),d)::onF g (ps.drop (j+1)):=by
    rw[A6 qj,hp];rfl
   rw[hon,Ah]at hn1
   rw[hon,Be]at hfold1
   have htake:=xS5 g hg k d hd a1 b1 sn1 (by rw[show a1=b1 from hT1.same];exact hT1.now.ok) hT1.now.ok hT1.sn (hT1.now_none _) (hT1.pos (by omega) _)
   have hT2:=hT1.step (((g:Int),k),d)
   obtain⟨⟨a2,b2,sn2⟩,hM3⟩: ∃M3,zW7 ((g:Int),k) d (a1,b1,sn1)=M3:=⟨_,rfl⟩
   simp only at hT2
   rw[hM3]at htake hT2
   refine zA ?_
   simp[go_sem,tkS,runS,runB,schO,qj,hp,vwR,prR]
   refine ze9 4 htake cB rfl rfl (xM 4 (by decide) a1 b1 sn1) (wU (n:=4) rfl) ?_ ?_
   .rintro r s' ⟨rfl,rfl⟩
    exact⟨rfl,xM 4 (by decide) a2 b2 sn2,rfl⟩
   rintro r s' ⟨rfl,rfl⟩
   simp[go_sem,tkS,runS,runB,ej]
   exact zI (j+1,n1+1,zw9 s1 (((g:Int),k),d),a2,b2,sn2) ⟨by show ps.length - (j+1)<ps.length - j;omega,⟨qj,hT2,by show n1+1+((onF g (ps.drop (j+1))).length+(yP (vs.drop (i+1))).length)=(yP vs).length;omega,hfold1⟩,at_n 8 (by rfl) rfl (yy1 8 (by decide) (by simp[ltOb,ltC,ltK])) (by decide) (zG (by simp[go_sem]) rfl)⟩
  .have:j=ps.length:=by omega
   subst this
   rw[Cu]at hn1 hfold1
   refine zA ?_
   simp[go_sem,tkS,runS,runB,schO,ei]
   exact zI (i+1,n1,s1,a1,b1,sn1) ⟨by show vs.length - (i+1)<vs.length - i;omega,⟨q,hT1,by show n1+(yP (vs.drop (i+1))).length=(yP vs).length;simp[onF]at hn1;omega,hfold1⟩,at_n 7 (by rfl) rfl (yy1 7 (by decide) (by simp[ltOb,ltC,ltK])) (by decide) (zG (by simp[go_sem]) rfl)⟩
 .have:i=vs.length:=by omega
  subst this
  rw[Cu]at hn hfold
  have hs:s=Q:=hfold
  subst hs
  have hnl:n<=7500:=by simp[yP]at hn;simp[yP]at hN;omega
  have hab:a=b:=hT.same
  subst hab
  have hnow:NowOk a s.2:=hT.now
  have hln:s.2.length<=n:=hT.len
  obtain⟨was,hwas⟩:=eX s.2
  rw[hwas]at hM hnow hln
  clear hT hn hfold hN hwas hv hvl
  obtain⟨D,hD⟩:=eX (doL lot.stmts 0 [] was)
  rw[hD]at hM
  have hMe:D.1.1≠0->M= .tup [.agg (ansR D.1),.sl .ro []]:=fun h=>by rw[<-hM];simp[h]
  have hMo:D.1.1=0->M= .tup [.agg (ansR D.1),.sl .ro ((grpF (chgF was D.2)).map putR)]:=fun h=>by rw[<-hM];simp[h]
  have hpl:D.1.1=0∨D.1.1≠0:=by omega
  have hstx:=hst c0
  clear hM hst hcheck hl hlot
  obtain⟨lm,ln,L⟩:=lot
  simp only at hsl hso hD hstx
  refine zA ?_
  simp[go_sem,tkS,runS,runB,schO]
  refine zH6 6 2 2 [.int .i64 0,.int .i64 0,.sl .full []] (by decide) rfl rfl ?_
  refine zS (zA ?_)
  simp[go_sem]
  refine zL (S:=Nat×Mp (List UInt8)×List Ln×List Ot) [6,10,57,58,59] (fun u=> [.ptr 6 0,.ptr 3 0,.sl .ro (L.map GStmt.row),.int .i64 L.length,.int .i64 u.1])
   (fun u=>tkS (a,u.2.1,sn)++ [schO,.box (GLot.row ⟨lm,ln,L⟩),.box [.int .i64 0,.int .i64 0,.sl (.app 7) (u.2.2.2.map Ot.row)],.app u.2.2.2.length 2]) (fun u=>L.length - u.1)
   (fun u=>u.1<=L.length/\NowOk u.2.1 u.2.2.1/\u.2.2.2.length=u.1/\u.2.2.1.length<=7500+20*u.1/\doL (L.drop u.1) u.1 u.2.2.2 u.2.2.1=D) hc hb (0,a,was,[]) ⟨A3 _,hnow,rfl,by show was.length<=7500+20*0;omega,hD⟩ ?_ ?_
  .exact at_w rfl (by simp) (by simp[go_sem])
  rintro⟨i,b,l,outs⟩ ⟨hi,hn,hol,hll,hfold⟩
  simp only at hi hn hol hll hfold
  by_cases q:i<L.length
  rotate_left
  .rw[A9 (by omega),doL]at hfold
   refine zA ?_
   simp[go_sem,tkS,runS,runB,schO,q]
   have hput:=xR8 a b sn was l hnow hn (by omega) (by omega)
   have hD2:D.2=l:=by rw[<-hfold]
   have hD1:D.1=(0,0,outs):=by rw[<-hfold]
   have hM:=hMo (by rw[hD1])
   rw[hD1,hD2]at hM
   obtain⟨PW,hPW⟩:=eX (grpF (chgF was l))
   rw[hPW]at hput hM
   refine zS ?_
   refine zb7 [(2,1)] 7 (by simp) (by kernel_rfl) (by kernel_rfl) ?_
   simp[go_sem]
   refine yL5 4 hput cB rfl rfl (xM 4 (by decide) a b sn) rfl (fun i hi=>by simp[go_sem];omega) (fun N=>wU (n:=4) rfl) ?_
   simp[go_sem]
   refine zA ?_
   simp[go_sem]
   exact zQ (r:=M) (by rw[hM];exact xT ⟨zc5 ⟨zZ rfl,zZ rfl,yX,trivial⟩,zr9,trivial⟩) ⟨rfl,rfl⟩
  have ei:=zV q (by omega)
  obtain⟨x,hx⟩:=eX (L[i])
  have hxL:x∈L:=hx▸A8 q
  have hstm:=xi4 x (hstx x hxL) a b sn l hn (by omega)
  have hlen:=yV4 (st:=x) (l:=l)
  have hr20:=(hso x hxL).rows.1
  rw[A6 q,hx,doL]at hfold
  obtain⟨E,hE⟩:=eX (doS x l)
  rw[hE]at hfold hstm hlen
  refine zA ?_
  simp[go_sem,tkS,runS,runB,schO,q,hx]
  refine ze9 4 hstm cB rfl rfl (xM 4 (by decide) a b sn) (wU (n:=4) rfl) ?_ ?_
  .rintro r s' ⟨b',rfl,rfl,_⟩
   exact⟨rfl,xM 4 (by decide) a b' sn,rfl⟩
  rintro r s' ⟨b',rfl,rfl,hb'⟩
  by_cases e0:E.2.2=0
  rotate_left
  .have e0':(E.2.2 !=0)=true:=by simpa using e0
   rw[if_pos e0]at hfold
   have hM:=hMe (by rw[<-hfold];exact e0)
   simp[go_sem,runS,runB,e0',Ot.row]
   exact zQ (r:=M) (by rw[hM,<-hfold];exact xT ⟨zc5 ⟨zZ rfl,zZ rfl,yX,trivial⟩,zr9,trivial⟩) ⟨rfl,rfl⟩
  have e0':(E.2.2 !=0)=false:=by simpa using e0
  rw[if_neg (fun h=>h e0)]at hfold
  simp[go_sem,runS,runB,e0,Ot.row]
  refine zJ ⟨by omega,yC rfl⟩ ?_
  simp[go_sem,ei]
  exact zI (i+1,b',E.2.1,outs++ [E.1]) ⟨by show L.length - (i+1)<L.length - i;omega,⟨q,hb' e0,by show(outs++ [E.1]).length=i+1;simp[hol],by show E.2.1.length<=7500+20*(i+1);omega,hfold⟩,at_n 8 (by simp[Ot.row]) rfl (yy1 8 (by decide) (by simp[ltOb,ltC,ltK])) (by decide) (zG (by simp[go_sem]) rfl)⟩
theorem yH7 {lot:GLot} (h:(zx3 lot).2=0): ∀st∈lot.stmts,mayS st=true/\zn7 st=0:=by
 unfold zx3 at h
 by_cases q:mayL lot=true
 rotate_left
 .rw[if_neg q]at h;cases h
 rw[if_pos q]at h
 intro st hst
 refine⟨?_,zR8 h st hst⟩
 unfold mayL at q
 rw[A4,Af]at q
 exact q.2 st hst
theorem yE5 {tn:Nat} {T:GTable} (hT:tabsS[tn]? =some T): ∀{R:List (List GExpr)} {b:Mp (List UInt8)} {l:List Ln},(∀r∈R,∀e∈r,EOk e)->NowOk b l->(insF tn T R l).2=0-> ∃b',NowOk b' (insF tn T R l).1
 | [],b,l,_,hn,_=>⟨b,hn⟩
 |r::R,b,l,he,hn,h=>by
  rw[insF]at h⊢
  have hev:=zY4 r [] (he r (Bb ..)) (fun v hv=>by cases hv)
  by_cases q1:(evsX noT [] r []).2≠0
  .rw[if_pos q1]at h;exact absurd h q1
  rw[if_neg q1]at h⊢
  obtain⟨_,hvo⟩:=hev (by simpa using q1)
  have hkok:=zY7 tn T hT (evsX noT [] r []).1
  by_cases q2:(keyS tn T (evsX noT [] r []).1).2.2≠0
  .rw[if_pos q2]at h;exact absurd h q2
  rw[if_neg q2]at h⊢
  obtain⟨hmay,ho1,ho2⟩:=hkok (by simpa using q2)
  by_cases q3:atF l ((keyS tn T (evsX noT [] r []).1).1,(keyS tn T (evsX noT [] r []).1).2.1)=true
  .rw[if_pos q3]at h;cases h
  rw[if_neg q3]at h⊢
  exact yE5 hT (fun x hx=>he x (B5 _ hx)) (hn.ins (x:=⟨(keyS tn T (evsX noT [] r []).1).1,(keyS tn T (evsX noT [] r []).1).2.1,(evsX noT [] r []).1⟩) ⟨⟨tn,T,ho1,hT,hmay⟩,ho2,hvo⟩ (Bool.eq_false_iff.2 q3)) h
theorem yC8: ∀{m:List Ln} {b:Mp (List UInt8)} {l:List Ln},NowOk b l-> ∃b',NowOk b' (delF m l)
 | [],b,_,hn=>⟨b,hn⟩
 |x::m,b,l,hn=>by
  rw[delF]
  exact yC8 (hn.del x.at)
theorem xD1 {st:GStmt} (hst:StOk st) {b:Mp (List UInt8)} {l:List Ln} (hn:NowOk b l) (h:(doS st l).2.2=0): ∃b',NowOk b' (doS st l).2.1:=by
 obtain⟨tn,htn⟩: ∃tn:Nat,zd6 st.table=tn:=⟨(zd6 st.table).toNat,by have:=hst.tab;omega⟩
 have htl:tn<3:=by
  have h:=zt6 (fun T:GTable=>T.name==st.table) tabsS 0
  have h2:tabsS.length=3:=rfl
  unfold zd6 at htn
  omega
 obtain⟨T,hT⟩: ∃T,tabsS[tn]? =some T:=⟨_,A0 (show tn<tabsS.length from htl)⟩
 unfold doS at h⊢
 simp only[htn,Ax]at h⊢
 rw[show tabsS.getD tn noT=T by rw[A5,hT];rfl]at h⊢
 by_cases k2:st.kind=2
 .rw[if_pos k2]at h⊢
  by_cases q:(insF tn T st.rows l).2≠0
  .rw[if_pos q]at h;exact absurd h q
  .rw[if_neg q]
   exact yE5 hT (fun r hr=>(hst.ok.rows.2 r hr).2) hn (by simpa using q)
 rw[if_neg k2]at h⊢
 by_cases q:(metF tn T st l).2≠0
 .rw[if_pos q]at h;exact absurd h q
 rw[if_neg q]at h⊢
 by_cases k1:st.kind=1
 .rw[if_pos k1];exact⟨b,hn⟩
 rw[if_neg k1]at h⊢
 by_cases k3:st.kind=3
 .rw[if_pos k3]at h⊢
  by_cases q2:(updF T st.sets (metF tn T st l).1 l).2≠0
  .rw[if_pos q2]at h;exact absurd h q2
  .rw[if_neg q2]
   refine⟨_,yj4 hT hst.ok hn (fun x hx=> ?_) (by simpa using q2)⟩
   obtain⟨h1,h2⟩:=yg3 x hx
   exact⟨atF_iff.2 (Ac.2 ⟨x,h1,rfl⟩),hn.rows x h1,zI4 htl h2⟩
 .rw[if_neg k3]
  exact yC8 hn
abbrev Pr:=List UInt8×List UInt8
theorem yr8: ∀(tn:Nat) (T:GTable),tabsS[tn]? =some T->tn=0->T.place=0:=by
 intro tn T h h0
 subst h0
 have e:tabsS[0]? =some T:=h
 exact(by decide: ∀T,tabsS[0]? =some T->T.place=0) T e
theorem xf2 {tn:Nat} {T:GTable} (hT:tabsS[tn]? =some T) {row row':List GValue} (h1:mayT T.cols row=0) (h2:mayT T.cols row'=0) (hk:row'.getD T.key.toNat zeroV=row.getD T.key.toNat zeroV) (hp:T.place=0->row'.getD 0 zeroV=row.getD 0 zeroV):keyS tn T row'=keyS tn T row:=by
 have hr:yq6 tn row'=yq6 tn row:=by
  unfold yq6
  by_cases h0:tn=0
  .rw[if_pos h0,if_pos h0,hp (yr8 tn T hT h0)]
  .rw[if_neg h0,if_neg h0]
 unfold keyS
 rw[if_neg (show ¬mayT T.cols row'≠0 from fun h=>h h2),if_neg (show ¬mayT T.cols row≠0 from fun h=>h h1),hr,hk]
 by_cases h0:tn=0
 .rw[hp (yr8 tn T hT h0)]
 .rw[if_neg (fun h=>h0 h.1),if_neg (fun h=>h0 h.1)]
theorem xs7 {x:Ln} (h:LnOk x) {tn:Nat} {T:GTable} (htn:(ofS x.r).1=(tn:Int)) (hT:tabsS[tn]? =some T) (hk:keyS tn T x.v=(x.r,x.k,0)):LnK x:=by
 unfold LnK zr6
 rw[h.read,htn,Ax,show tabsS.getD tn noT=T by rw[A5,hT];rfl,hk,h.err]
 simp
theorem yX4 {x:Ln} (h:LnOk x) (hK:LnK x) {tn:Nat} {T:GTable} (htn:(ofS x.r).1=(tn:Int)) (hT:tabsS[tn]? =some T):keyS tn T x.v=(x.r,x.k,0):=by
 unfold LnK zr6 at hK
 rw[h.read,htn,Ax,show tabsS.getD tn noT=T by rw[A5,hT];rfl]at hK
 simp only[A4,decide_eq_true_eq]at hK
 exact hK.2.2
theorem xr0 {l:List GValue} {i j:Nat} {v:GValue} (h:i≠j):(l.set i v).getD j zeroV=l.getD j zeroV:=by
 rw[A5,A5,Ad h]
theorem yi4 {T:GTable} {old:List GValue} {c:Nat} (hc:(c:Int)=T.key∨((c:Int)=0/\T.place=0)): ∀{sets p:List GAssign} {row:List GValue},zq0 T p sets=0->(setF T old sets row).2=0->(setF T old sets row).1.getD c zeroV=row.getD c zeroV
 | [],_,row,_,_=>rfl
 |y::l,p,row,h,h2=>by
  rw[setF]at h2⊢
  by_cases q:(evR T old y.e).2≠0
  .rw[if_pos q]at h2;exact absurd h2 q
  rw[if_neg q]at h2⊢
  rw[zq0]at h
  by_cases q1:colF T y.name<0
  .rw[if_pos q1]at h;cases h
  rw[if_neg q1]at h
  by_cases q2:colF T y.name=T.key∨(colF T y.name=0/\T.place=0)
  .rw[if_pos q2]at h;cases h
  rw[if_neg q2]at h
  by_cases q3:(p.any fun z=>z.name==y.name)=true
  .rw[if_pos q3]at h;cases h
  rw[if_neg q3]at h
  by_cases q4:zu1 T y.e (colK T (colF T y.name))≠0
  .rw[if_pos q4]at h;exact absurd h q4
  rw[if_neg q4]at h
  rw[yi4 hc h h2]
  refine xr0 fun e=>q2 ?_
  have e2:colF T y.name=(c:Int):=by omega
  rw[e2]
  exact hc
def LsK (l:List Ln):Prop:= ∀x∈l,LnOk x/\LnK x
theorem xr2 {tn:Nat} {T:GTable} (hT:tabsS[tn]? =some T): ∀{R:List (List GExpr)} {l:List Ln},(∀r∈R,∀e∈r,EOk e)->LsK l->(insF tn T R l).2=0->LsK (insF tn T R l).1
 | [],l,_,hn,_=>hn
 |r::R,l,he,hn,h=>by
  rw[insF]at h⊢
  have hev:=zY4 r [] (he r (Bb ..)) (fun v hv=>by cases hv)
  by_cases q1:(evsX noT [] r []).2≠0
  .rw[if_pos q1]at h;exact absurd h q1
  rw[if_neg q1]at h⊢
  obtain⟨_,hvo⟩:=hev (by simpa using q1)
  have hkok:=zY7 tn T hT (evsX noT [] r []).1
  obtain⟨⟨kr,kk,ke⟩,hks⟩: ∃ks,keyS tn T (evsX noT [] r []).1=ks:=⟨_,rfl⟩
  rw[hks]at h hkok⊢
  simp only at h hkok⊢
  by_cases q2:ke≠0
  .rw[if_pos q2]at h;exact absurd h q2
  rw[if_neg q2]at h⊢
  have ke0:ke=0:=by simpa using q2
  obtain⟨hmay,ho1,ho2⟩:=hkok ke0
  by_cases q3:atF l (kr,kk)=true
  .rw[if_pos q3]at h;cases h
  rw[if_neg q3]at h⊢
  have hx:LnOk ⟨kr,kk,(evsX noT [] r []).1⟩:=⟨⟨tn,T,ho1,hT,hmay⟩,ho2,hvo⟩
  refine xr2 hT (fun x hx=>he x (B5 _ hx)) (fun z hz=> ?_) h
  rcases Ag.1 ((zh7 l _).mem_iff.1 hz)with rfl|hz
  .exact⟨hx,xs7 hx ho1 hT (by rw[hks,ke0])⟩
  .exact hn z hz
theorem xn5: ∀{m l:List Ln},LsK l->LsK (delF m l)
 | [],l,h=>h
 |x::m,l,h=>by
  rw[delF]
  exact xn5 (fun y hy=>h y (B9.1 hy).1)
theorem xy7 {tn:Nat} {T:GTable} (hT:tabsS[tn]? =some T) {st:GStmt} (hst:SOk st) (hc:zq0 T [] st.sets=0): ∀{m l:List Ln},LsK l->(∀x∈m,LnOk x/\LnK x/\(ofS x.r).1=(tn:Int))->(updF T st.sets m l).2=0->LsK (updF T st.sets m l).1
 | [],_,hn,_,_=>hn
 |x::m,l,hn,hm,h0=>by
  obtain⟨hxo,hxk,hxt⟩:=hm x (Bb ..)
  obtain⟨hkp,hk0⟩:=(by decide: ∀T∈tabsS,0<=T.key/\T.key<T.cols.length) T (B1 hT)
  rw[updF]at h0⊢
  have hkeep:=fun(c:Nat) (hcc:(c:Int)=T.key∨((c:Int)=0/\T.place=0))=>yi4 (T:=T) (old:=x.v) hcc (sets:=st.sets) (p:= []) (row:=x.v) hc
  have hsv:=zZ3 (T:=T) hxo.ok (sets:=st.sets) (row:=x.v) (fun y hy=>(hst.sets.2 y hy).2) hxo.ok
  obtain⟨E,hE⟩:=eX (setF T x.v st.sets x.v)
  rw[hE]at h0 hkeep hsv⊢
  by_cases q:E.2≠0
  .rw[if_pos q]at h0;exact absurd h0 q
  rw[if_neg q]at h0⊢
  have q0:E.2=0:=by simpa using q
  by_cases q2:mayT T.cols E.1≠0
  .rw[if_pos q2]at h0;exact absurd h0 q2
  rw[if_neg q2]at h0⊢
  have m0:mayT T.cols E.1=0:=by simpa using q2
  obtain⟨tn',T',ht1,ht2,ht3⟩:=hxo.tab
  have:tn'=tn:=by omega
  subst this
  rw[hT]at ht2
  cases ht2
  have hnew:LnOk ⟨x.r,x.k,E.1⟩:=⟨⟨tn',T,hxt,hT,m0⟩,hxo.err,(hsv q0).2⟩
  have hkey:keyS tn' T E.1=(x.r,x.k,0):=by
   rw[xf2 hT ht3 m0 (hkeep T.key.toNat (.inl (by omega)) q0) (fun hp=>hkeep 0 (.inr ⟨rfl,hp⟩) q0)]
   exact yX4 hxo hxk hxt hT
  refine xy7 hT hst hc (fun z hz=> ?_) (fun y hy=>hm y (B5 _ hy)) h0
  unfold putF at hz
  obtain⟨y,hy,rfl⟩:=Ac.1 hz
  by_cases e:y.at=x.at
  .rw[if_pos e]
   have e1:y.r=x.r:=congrArg Prod.fst e
   have e2:y.k=x.k:=congrArg Prod.snd e
   rw[e1,e2]
   exact⟨hnew,xs7 hnew hxt hT hkey⟩
  .rw[if_neg e]
   exact hn y hy
theorem xV2 {st:GStmt} (hst:StOk st) (hc:zn7 st=0) {b:Mp (List UInt8)} {l:List Ln} (_hn:NowOk b l) (hk:LsK l) (h:(doS st l).2.2=0):LsK (doS st l).2.1:=by
 obtain⟨tn,htn⟩: ∃tn:Nat,zd6 st.table=tn:=⟨(zd6 st.table).toNat,by have:=hst.tab;omega⟩
 have htl:tn<3:=by
  have h:=zt6 (fun T:GTable=>T.name==st.table) tabsS 0
  have h2:tabsS.length=3:=rfl
  unfold zd6 at htn
  omega
 obtain⟨T,hT⟩: ∃T,tabsS[tn]? =some T:=⟨_,A0 (show tn<tabsS.length from htl)⟩
 unfold zn7 at hc
 rw[htn,Ax,hT]at hc
 simp only at hc
 rw[if_neg (by omega)]at hc
 unfold doS at h⊢
 simp only[htn,Ax]at h⊢
 rw[show tabsS.getD tn noT=T by rw[A5,hT];rfl]at h⊢
 by_cases k2:st.kind=2
 .rw[if_pos k2]at h⊢
  by_cases q:(insF tn T st.rows l).2≠0
  .rw[if_pos q]at h;exact absurd h q
  .rw[if_neg q]
   exact xr2 hT (fun r hr=>(hst.ok.rows.2 r hr).2) hk (by simpa using q)
 rw[if_neg k2]at h⊢
 by_cases q:(metF tn T st l).2≠0
 .rw[if_pos q]at h;exact absurd h q
 rw[if_neg q]at h⊢
 by_cases k1:st.kind=1
 .rw[if_pos k1];exact hk
 rw[if_neg k1]at h⊢
 by_cases k3:st.kind=3
 .rw[if_pos k3]at h⊢
  by_cases q2:(updF T st.sets (metF tn T st l).1 l).2≠0
  .rw[if_pos q2]at h;exact absurd h q2
  .rw[if_neg q2]
   have hsc:zq0 T [] st.sets=0:=by
    rw[if_neg k1,if_neg k2,if_pos k3]at hc
    by_cases z:zq0 T [] st.sets≠0
    .rw[if_pos z]at hc;exact hc
    .simpa using z
   refine xy7 hT hst.ok hsc hk (fun x hx=> ?_) (by simpa using q2)
   obtain⟨h1,h2⟩:=yg3 x hx
   exact⟨(hk x h1).1,(hk x h1).2,zI4 htl h2⟩
 .rw[if_neg k3]
  exact xn5 hk
theorem xL3: ∀{ss:List GStmt} {i:Nat} {acc:List Ot} {b:Mp (List UInt8)} {l:List Ln},(∀x∈ss,StOk x/\zn7 x=0)->NowOk b l->LsK l->(doL ss i acc l).1.1=0->(∃b',NowOk b' (doL ss i acc l).2)/\LsK (doL ss i acc l).2/\(doL ss i acc l).2.length<=l.length+20*ss.length
 | [],i,acc,b,l,_,hn,hk,_=>⟨⟨b,hn⟩,hk,by rw[doL];simp⟩
 |x::ss,i,acc,b,l,hs,hn,hk,h=>by
  rw[doL]at h⊢
  obtain⟨hx,hxc⟩:=hs x (Bb ..)
  by_cases q:(doS x l).2.2≠0
  .rw[if_pos q]at h;exact absurd h q
  rw[if_neg q]at h⊢
  have q0:(doS x l).2.2=0:=by simpa using q
  obtain⟨b',hb'⟩:=xD1 hx hn q0
  have hlen:=yV4 (st:=x) (l:=l)
  have hr:=hx.ok.rows.1
  obtain⟨h1,h2,h3⟩:=xL3 (fun y hy=>hs y (B5 _ hy)) hb' (xV2 hx hxc hn hk q0) h
  exact⟨h1,h2,by rw[Ah];omega⟩
theorem TkI.run: ∀(ps:List (Pl×List UInt8)) {n:Nat} {s:List (Pl×List UInt8)×List Ln} {m:M3},TkI n s m-> ∃m',TkI (n+ps.length) (ps.foldl zw9 s) m'
 | [],n,s,m,h=>⟨m,h⟩
 |p::ps,n,s,m,h=>by
  obtain⟨m',h'⟩:=TkI.run ps (h.step p)
  exact⟨m',by rw[Ah,show n+(ps.length+1)=n+1+ps.length by omega];exact h'⟩
theorem yf8 (vs:List Vw): ∃m,TkI (yP vs).length ((yP vs).foldl zw9 ([],[])) m:=by
 obtain⟨m,h⟩:=TkI.run (yP vs) xM5
 rw[Aa]at h
 exact⟨m,h⟩
theorem xk2 {l:List Wr} {was now:List Ln} (h1: ∀x∈was,LnOk x) (h2: ∀x∈now,LnOk x) (hw:Rise (was.map Ln.at)) (hn:Rise (now.map Ln.at)) (hl:l=chgF was now): ∀w∈l,w.p.1=0∨w.p.1=1∨w.p.1=2∨w.p.1=3:=fun w hwl=>by
 rw[hl]at hwl
 have hr: ∀x:Ln,LnOk x->x.r=0∨x.r=1∨x.r=2∨x.r=3:=fun x hx=>by
  have:=hx.err
  unfold ofS at this
  by_cases a0:x.r=0
  .exact .inl a0
  by_cases a1:x.r=1
  .exact .inr (.inl a1)
  by_cases a2:x.r=2
  .exact .inr (.inr (.inl a2))
  by_cases a3:x.r=3
  .exact .inr (.inr (.inr a3))
  rw[if_neg a0,if_neg a1,if_neg a2,if_neg a3]at this
  cases this
 rcases((yt7 hw hn).2 w).1 hwl with ⟨_,_,⟨x,hx,hxp⟩,_⟩|⟨_,x,hx,hxp,_,_⟩
 .rw[<-hxp];exact hr x (h1 x hx)
 .rw[<-hxp];exact hr x (h2 x hx)
theorem yX7 {lot:GLot} (hl:LOk lot) {b:Mp (List UInt8)} {l:List Ln} (hn:NowOk b l) (hk:LsK l) (h:(lotF lot l).1.1=0):(∃b',NowOk b' (lotF lot l).2)/\LsK (lotF lot l).2/\(lotF lot l).2.length<=l.length+240:=by
 unfold lotF at h⊢
 by_cases q:(zx3 lot).2≠0
 .rw[if_pos q]at h;exact absurd h q
 rw[if_neg q]at h⊢
 have q0:(zx3 lot).2=0:=by simpa using q
 by_cases q2:(doL lot.stmts 0 [] l).1.1≠0
 .rw[if_pos q2]at h;exact absurd h q2
 rw[if_neg q2]at h⊢
 obtain⟨h1,h2,h3⟩:=xL3 (fun x hx=>⟨yH8 hl q0 x hx,(yH7 q0 x hx).2⟩) hn hk h
 have:=hl.stmts.1
 exact⟨h1,h2,by omega⟩
end Go.Proofs.YtkigddpaonhmlaaGreat
