/-
  Which lots may be, by the document, over trees (the library Vx); used by the theorem at the end of the claim.
  Conditions: as each theorem states them.
-/
import Derived.Test.YtkigddpaonhmlaaGreatXBB
import Derived.Test.YtkigddpaonhmlaaGreatXAY
import Derived.Test.YtkigddpaonhmlaaGreatXAM
import Derived.Test.YtkigddpaonhmlaaGreatXAN
import Derived.Lib.Overlaps
import Derived.Lib.AppendZerosOnto
import Derived.Laws.Externs
import Derived.Laws.IdiomCopy
import Derived.Deep.RegionLaw
import Derived.Test.YtkigddpaonhmlaaGreatXAO
set_option maxHeartbeats 8000000
namespace Go.Proofs.YtkigddpaonhmlaaGreat
open Go Go.Vx R Go.Proofs.Tryz
set_option maxRecDepth 100000
theorem dec1 (n:Nat):decide ((1:Int)<=n)=decide (1<=n):=decide_eq_decide.2 (by omega)
theorem xL1 (n k:Nat):decide ((n:Int)<=k)=decide (n<=k):=decide_eq_decide.2 (by omega)
theorem xf6 (l:List (List GExpr)) (hl:l.length<=20) (hx: ∀r∈l,r.length<=12/\ ∀e∈r,EOk e):Pure prog 96 [.sl .ro (l.map fun r=> [V.sl .ro (r.map GExpr.row)])] (.bool (yG1 l)):=by
 obtain⟨n,hn⟩:=eX l.length
 generalize hM:yG1 l=M
 unfold yG1 at hM
 rw[hn]at hM
 have e1:=dec1 n
 have e2:decide ((n:Int)<=16)=decide (n<=16):=xL1 n 16
 refine iV 0 func96 ntmps96 results96 fun c hc hb=> ?_
 refine zA ?_
 simp[go_sem]
 refine zL (S:=Nat) [0,5,6,7] (fun i=> [.sl .ro (l.map fun r=> [V.sl .ro (r.map GExpr.row)]),.sl .ro (l.map fun r=> [V.sl .ro (r.map GExpr.row)]),.int .i64 n,.int .i64 (i:Int)]) (fun _=> []) (fun i=>n - i)
  (fun i=>i<=n/\((l.drop i).all mayR&&(decide (1<=n)&&decide (n<=16)))=M) hc hb 0 ⟨A3 _,by rw[Bd];exact hM⟩ ?_ ?_
 .exact at_0 rfl (zR (by simp[go_sem,hn]) rfl)
 rintro i ⟨hi,hinv⟩
 by_cases q:i<n
 rotate_left
 .rw[A9 (by omega),Cp,B8]at hinv
  refine zA ?_
  simp[go_sem,q,hn,e1]
  refine yZ (fun w=> ?_) (fun w=> ?_)
  .simp[go_sem,w,hn,e2]
   exact bret (by rw[<-hinv,w,B8])
  .simp[go_sem,w]
   exact bret (by rw[<-hinv,w];rfl)
 have hq:i<l.length:=by omega
 have ei:=zV q (by omega)
 rw[zE9 _ _ _ hq]at hinv
 obtain⟨r,hr⟩:=eX (l[i])
 obtain⟨hrl,hrE⟩:=hx r (hr▸A8 hq)
 have hcall:=xP0 r hrl hrE
 rw[hr]at hinv
 obtain⟨b,hb1⟩:=eX (mayR r)
 rw[hb1]at hinv
 unfold mayR at hb1
 have yes:b=true->((l.drop (i+1)).all mayR&&(decide (1<=n)&&decide (n<=16)))=M:=fun h=>by rw[h,B8]at hinv;exact hinv
 have no:b=false->false=M:=fun h=>by rw[h]at hinv;exact hinv
 clear hinv
 generalize r.all (mayE 16)=ra at hcall hb1
 have hr0:((r.length:Int)==0)= !decide (1<=r.length):=by
  cases r with
  |nil=>rfl
  |cons _ _=>rw[decide_eq_true (by simp)];simp;omega
 have hr6:decide ((6:Int)<r.length)= !decide (r.length<=6):=by
  by_cases h:r.length<=6
  .rw[decide_eq_true h,decide_eq_false (by omega)];rfl
  .rw[decide_eq_false h,decide_eq_true (by omega)];rfl
 generalize decide (1<=r.length)=d1 at hr0 hb1
 generalize decide (r.length<=6)=d2 at hr6 hb1
 refine zA ?_
 simp[go_sem,q,hq,hr,hr0]
 refine(A7 d1).elim (fun w=> ?_) (fun w=> ?_)
 rotate_left
 .simp[go_sem,w]
  exact bret (no (by rw[<-hb1,w];rfl))
 simp[go_sem,w,hr6]
 refine(A7 d2).elim (fun w2=> ?_) (fun w2=> ?_)
 rotate_left
 .simp[go_sem,w2]
  exact bret (no (by rw[<-hb1,w,w2];rfl))
 simp[go_sem,w2]
 refine zD hcall cB (zR (by simp[go_sem]) rfl) rfl ?_
 simp[go_sem]
 refine(A7 ra).elim (fun w3=> ?_) (fun w3=> ?_)
 .simp[go_sem,w3,ei]
  exact zI (i+1) ⟨by omega,⟨by omega,yes (by rw[<-hb1,w,w2,w3];rfl)⟩,aO⟩
 .simp[go_sem,w3]
  exact bret (no (by rw[<-hb1,w,w2,w3];rfl))
theorem xf7 (l:List GAssign) (hl:l.length<=12) (hx: ∀x∈l,x.name.length<=1048576/\EOk x.e):Pure prog 97 [.sl .ro (l.map GAssign.row)] (.bool (yF8 l)):=by
 have hcall:=xO8 l hl hx
 generalize hM:yF8 l=M
 unfold yF8 at hM
 generalize l.all mayA=a at hcall hM
 obtain⟨n,hn⟩:=eX l.length
 rw[hn]at hM
 have e1:=dec1 n
 have e2:decide ((n:Int)<=6)=decide (n<=6):=xL1 n 6
 refine iW 0 func97 ntmps97 results97 fun c hc hb=>zN ?_
 simp[go_sem,hn,e1]
 refine yZ (fun w=> ?_) (fun w=> ?_)
 rotate_left
 .simp[go_sem,w]
  exact bret (by rw[<-hM,w];rfl)
 simp[go_sem,w,hn,e2]
 refine yZ (fun w2=> ?_) (fun w2=> ?_)
 rotate_left
 .simp[go_sem,w2]
  exact bret (by rw[<-hM,w,w2];rfl)
 simp[go_sem,w2]
 refine zD hcall cB (zR (by simp[go_sem]) rfl) rfl ?_
 simp[go_sem]
 exact bret (by rw[<-hM,w,w2];rfl)
def xw8 (st:GStmt):Bool:=
 !((!(st.kind==1)&&(!st.items.isEmpty||(!st.order.isEmpty||(st.down|| !(st.limit==0)))))||((!(st.kind==2)&& !st.rows.isEmpty)||(!(st.kind==3)&& !st.sets.isEmpty)))
def xL6 (st:GStmt):Bool:=zk3 st.table&&(if st.filtered=true then mayE 16 st.where_ else zy3 st.where_)
def xm2 (st:GStmt):Bool:=
 if st.kind=1 then yG0 st.items&&(((st.order.isEmpty&& !st.down)||zk3 st.order)&&decide (-1<=st.limit))
 else if st.kind=2 then yG1 st.rows&& !st.filtered
 else if st.kind=3 then yF8 st.sets
 else st.kind==4
def mayS (st:GStmt):Bool:=xL6 st&&(xw8 st&&xm2 st)
theorem zS9 {α:Type} (l:List α):decide (0<l.length)= !l.isEmpty:=by
 cases l with
 |nil=>rfl
 |cons _ _=>exact decide_eq_true (by simp only[Ah];omega)
theorem xf8 (st:GStmt) (hs:SOk st):Pure prog 51 [.agg st.row] (.bool (mayS st)):=by
 have hwt:=zJ4 st.table (by have:=hs.table;unfold maxLen;omega)
 have hwo:=zJ4 st.order (by have:=hs.order;unfold maxLen;omega)
 have hme:=zA1 16 st.where_ (by decide) hs.where_.wide hs.where_.good
 have hbl:=yU8 st.where_ (by have:=hs.where_.wide.len;unfold maxLen;omega)
 have hit:=yP1 st.items hs.items.1 hs.items.2
 have hro:=xf6 st.rows hs.rows.1 hs.rows.2
 have hse:=xf7 st.sets hs.sets.1 hs.sets.2
 simp only[Cd]at hme
 generalize hM:mayS st=M
 unfold mayS xL6 xw8 xm2 at hM
 obtain⟨k,hk⟩:=eX st.kind
 obtain⟨f,hf⟩:=eX st.filtered
 obtain⟨d,hd⟩:=eX st.down
 rw[hk,hf,hd]at hM
 generalize zk3 st.table=wt at hwt hM
 generalize zk3 st.order=wo at hwo hM
 generalize mayE 16 st.where_=me at hme hM
 generalize zy3 st.where_=bl at hbl hM
 generalize yG0 st.items=mi at hit hM
 generalize yG1 st.rows=mr at hro hM
 generalize yF8 st.sets=ms at hse hM
 have hi0:=zS9 st.items
 have hr0:=zS9 st.rows
 have hs0:=zS9 st.sets
 have ho0:(st.order != [])= !st.order.isEmpty:=by cases st.order<;>rfl
 have ho1:(st.order== [])=st.order.isEmpty:=by cases st.order<;>rfl
 generalize st.items.isEmpty=ie at hi0 hM
 generalize st.rows.isEmpty=re at hr0 hM
 generalize st.sets.isEmpty=se at hs0 hM
 have hz: ∀b:Bool,b=M-> ∀σ:St,wret (some (.bool b)) 0 (fun r s=>r= .bool M/\s= []) σ:=fun b h σ=>bret h
 have step1:((wt&&(if f=true then me else bl))=false->false=M)/\((wt&&(if f=true then me else bl))=true->(!((!(k==1)&&(!ie||(!st.order.isEmpty||(d|| !(st.limit==0)))))||((!(k==2)&& !re)||(!(k==3)&& !se)))&&(if k=1 then mi&&(((st.order.isEmpty&& !d)||wo)&&decide (-1<=st.limit))else if k=2 then mr&& !f else if k=3 then ms else k==4))=M):=by
  constructor
  .intro h;rw[h]at hM;exact hM
  .intro h;rw[h,B8]at hM;exact hM
 obtain⟨no1,yes1⟩:=step1
 clear hM
 refine iV 0 func51 ntmps51 results51 fun c hc hb=> ?_
 refine zS (zA ?_)
 simp[go_sem]
 refine zc0 (S:=Unit) [1] (fun _=> [.ptr 0 0]) (fun _=> [.box st.row]) (fun _=>(wt&&(if f=true then me else bl))=true) hc hb ?_ ?_
 .refine zA ?_
  simp[go_sem]
  refine zD hwt cB (zR (by simp[go_sem]) rfl) rfl ?_
  refine(A7 wt).elim (fun w=> ?_) (fun w=> ?_)
  rotate_left
  .simp[go_sem,w]
   exact bret (no1 (by rw[w];rfl))
  simp[go_sem,w,hf]
  refine(A7 f).elim (fun w2=> ?_) (fun w2=> ?_)
  .simp[go_sem,w2]
   refine zD hme cB (zR (by simp[go_sem]) (by rw[GExpr.row_eq];rfl)) rfl ?_
   refine(A7 me).elim (fun w3=> ?_) (fun w3=> ?_)
   .simp[go_sem,w3,w2]
    exact zI () ⟨by rw[w,w2,w3];rfl,at_n 1 (by simp[go_sem,hk,hf,hd,w2]) rfl (by simp[ltOb,ltC,ltK]) (A3 _) (zG (by simp[go_sem]) rfl)⟩
   .simp[go_sem,w3]
    exact bret (no1 (by rw[w,w2,w3];rfl))
  .simp[go_sem,w2]
   refine zD hbl cB (zR (by simp[go_sem]) (by rw[GExpr.row_eq];rfl)) rfl ?_
   refine(A7 bl).elim (fun w3=> ?_) (fun w3=> ?_)
   .simp[go_sem,w3]
    exact zI () ⟨by rw[w,w2,w3];rfl,at_n 1 (by simp[go_sem,hk,hf,hd,w2]) rfl (by simp[ltOb,ltC,ltK]) (A3 _) (zG (by simp[go_sem]) rfl)⟩
   .simp[go_sem,w3]
    exact bret (no1 (by rw[w,w2,w3];rfl))
 .rintro _ h1
  have hM:=yes1 h1
  clear no1 yes1
  generalize hB:(if k=1 then mi&&(((st.order.isEmpty&& !d)||wo)&&decide (-1<=st.limit))else if k=2 then mr&& !f else if k=3 then ms else k==4)=B at hM
  obtain⟨S,hS⟩:=eX (((!(k==1)&&(!ie||(!st.order.isEmpty||(d|| !(st.limit==0)))))||((!(k==2)&& !re)||(!(k==3)&& !se))))
  rw[hS]at hM
  have no:S=true->false=M:=fun h=>by rw[h]at hM;exact hM
  have yes:S=false->B=M:=fun h=>by rw[h]at hM;exact hM
  clear hM
  have hl0:(st.limit !=0)= !(st.limit==0):=rfl
  have hk2:(st.kind !=2)= !(k==2):=by rw[hk];rfl
  have hk3:(st.kind !=3)= !(k==3):=by rw[hk];rfl
  have hk1:(st.kind==1)=(k==1):=by rw[hk]
  refine zS (zA ?_)
  simp[go_sem]
  refine zc0 (S:=Unit) [1] (fun _=> [.ptr 0 0]) (fun _=> [.box st.row]) (fun _=>S=false) hc hb ?_ ?_
  .generalize (st.limit==0)=l0 at hl0 hS
   generalize (k==1)=k1 at hk1 hS
   generalize (k==2)=k2 at hk2 hS
   generalize (k==3)=k3 at hk3 hS
   clear yes hB
   refine zA ?_
   simp[go_sem,hk1]
   repeat' (first
    |(refine yZ (fun w=> ?_) (fun w=> ?_)<;>simp[go_sem,w,hk2,hk3,hl0,hi0,hr0,hs0,hd])
    |(refine zT (fun w=> ?_) (fun w=> ?_)<;>simp[go_sem,w]))
   all_goals first
    |exact bret (no (by rw[<-hS];simp_all))
    |exact zI () ⟨by rw[<-hS];simp_all,at_n 1 (by simp[go_sem,hd]<;>simp_all) rfl (by simp[ltOb,ltC,ltK]) (A3 _) (zG (by simp[go_sem]) rfl)⟩
  .rintro _ hSf
   have hM:=yes hSf
   rw[<-hB]at hM
   clear yes no hS hB
   refine zA ?_
   simp[go_sem,hk]
   by_cases k1:k=1
   .have k1':(k==1)=true:=by simpa using k1
    rw[if_pos k1]at hM
    have hlm:decide (-1<=st.limit)=decide (-1<=st.limit):=rfl
    simp[go_sem,k1']
    refine zD hit cB (zR (by simp[go_sem]) rfl) rfl ?_
    simp[go_sem]
    repeat' (first
     |(refine yZ (fun w=> ?_) (fun w=> ?_)<;>simp[go_sem,w,ho1,hd])
     |(refine zD hwo cB (zR (by simp[go_sem]) rfl) rfl ?_;simp[go_sem]))
    all_goals exact bret (by rw[<-hM];simp_all)
   have k1':(k==1)=false:=by simpa using k1
   rw[if_neg k1]at hM
   by_cases k2:k=2
   .have k2':(k==2)=true:=by simpa using k2
    rw[if_pos k2]at hM
    simp[go_sem,k1',k2']
    refine zD hro cB (zR (by simp[go_sem]) rfl) rfl ?_
    simp[go_sem]
    refine(A7 mr).elim (fun w=> ?_) (fun w=> ?_)
    .simp[go_sem,w,hf]
     exact bret (by rw[<-hM,w];rfl)
    .simp[go_sem,w]
     exact bret (by rw[<-hM,w];rfl)
   have k2':(k==2)=false:=by simpa using k2
   rw[if_neg k2]at hM
   by_cases k3:k=3
   .have k3':(k==3)=true:=by simpa using k3
    rw[if_pos k3]at hM
    simp[go_sem,k1',k2',k3']
    refine zD hse cB (zR (by simp[go_sem]) rfl) rfl ?_
    simp[go_sem]
    exact bret hM
   have k3':(k==3)=false:=by simpa using k3
   rw[if_neg k3]at hM
   simp[go_sem,k1',k2',k3']
   exact bret hM
def xL5 (l:GLot):Bool:=(decide (0<=l.mode)&&(decide (l.mode<=2)&&(decide (0<=l.n)&&(!(l.mode==0&& !(l.n==0))))))&&(decide (1<=l.stmts.length)&&decide (l.stmts.length<=8))
def mayL (l:GLot):Bool:=xL5 l&&l.stmts.all mayS
theorem xj6 (l:GLot) (hl:LOk l):Pure prog 25 [.agg l.row] (.bool (mayL l)):=by
 obtain⟨L,hL⟩:=eX l.stmts
 obtain⟨m,hm⟩:=eX l.mode
 obtain⟨n,hn⟩:=eX l.n
 obtain⟨hLl,hLs⟩:=hl.stmts
 rw[hL]at hLl hLs
 generalize hM:mayL l=M
 unfold mayL xL5 at hM
 rw[hL,hm,hn]at hM
 have no: ∀h:Bool,(h&&L.all mayS)=M->h=false->false=M:=fun h q w=>by rw[w]at q;exact q
 refine iV 0 func25 ntmps25 results25 fun c hc hb=> ?_
 refine zS (zA ?_)
 simp[go_sem]
 refine zc0 (S:=Unit) [1] (fun _=> [.ptr 0 0]) (fun _=> [.box l.row]) (fun _=>L.all mayS=M) hc hb ?_ ?_
 .have d1:decide (m<0)= !decide (0<=m):=by
   by_cases h:0<=m
   .rw[decide_eq_true h,decide_eq_false (by omega)];rfl
   .rw[decide_eq_false h,decide_eq_true (by omega)];rfl
  have d2:decide (2<m)= !decide (m<=2):=by
   by_cases h:m<=2
   .rw[decide_eq_true h,decide_eq_false (by omega)];rfl
   .rw[decide_eq_false h,decide_eq_true (by omega)];rfl
  have d3:decide (n<0)= !decide (0<=n):=by
   by_cases h:0<=n
   .rw[decide_eq_true h,decide_eq_false (by omega)];rfl
   .rw[decide_eq_false h,decide_eq_true (by omega)];rfl
  have d4:((L.length:Int)==0)= !decide (1<=L.length):=by
   by_cases h:1<=L.length
   .rw[decide_eq_true h];simp;intro hh;rw[hh]at h;simp at h
   .rw[decide_eq_false h]
    have:L= []:=B2 (by omega)
    rw[this];rfl
  have d5:decide ((8:Int)<L.length)= !decide (L.length<=8):=by
   by_cases h:L.length<=8
   .rw[decide_eq_true h,decide_eq_false (by omega)];rfl
   .rw[decide_eq_false h,decide_eq_true (by omega)];rfl
  have d6:(n !=0)= !(n==0):=rfl
  generalize decide (0<=m)=b1 at d1 hM
  generalize decide (m<=2)=b2 at d2 hM
  generalize decide (0<=n)=b3 at d3 hM
  generalize decide (1<=L.length)=b4 at d4 hM
  generalize decide (L.length<=8)=b5 at d5 hM
  generalize (n==0)=b6 at d6 hM
  have no1:=no _ hM
  have yes1:((b1&&(b2&&(b3&&(!(m==0&& !b6)))))&&(b4&&b5))=true->L.all mayS=M:=fun h=>by rw[h,B8]at hM;exact hM
  generalize hm0:(m==0)=b7 at no1 yes1
  clear hM no
  refine zA ?_
  simp[go_sem,hm,hn,hL,d1]
  repeat' (first
   |(refine yZ (fun w=> ?_) (fun w=> ?_)<;>simp[go_sem,w,hm0,d2,d3,d4,d5,d6])
   |(refine zT (fun w=> ?_) (fun w=> ?_)<;>simp[go_sem,w]))
  all_goals first
   |exact bret (no1 (by simp_all))
   |exact zI () ⟨yes1 (by simp_all),at_n 1 (by simp[go_sem,hm,hn,hL]) rfl (by simp[ltOb,ltC,ltK]) (A3 _) (zG (by simp[go_sem]) rfl)⟩
 .rintro _ hM
  refine zA ?_
  simp[go_sem,hL]
  refine zL (S:=Nat) [41,42,43] (fun i=> [.sl .ro (L.map GStmt.row),.int .i64 L.length,.int .i64 (i:Int)]) (fun _=> []) (fun i=>L.length - i) (fun i=>i<=L.length/\(L.drop i).all mayS=M) hc hb 0 ⟨A3 _,by rw[Bd];exact hM⟩ ?_ ?_
  .exact aO
  rintro i ⟨hi,hinv⟩
  by_cases q:i<L.length
  rotate_left
  .rw[A9 (by omega)]at hinv
   refine zA ?_
   simp[go_sem,q]
   exact bret hinv
  have ei:=zV q (by omega)
  rw[zE9 _ _ _ q]at hinv
  obtain⟨st,hst⟩:=eX (L[i])
  have hcall:=xf8 st (hLs st (hst▸A8 q))
  rw[hst]at hinv
  generalize mayS st=b at hcall hinv
  refine zA ?_
  simp[go_sem,q,hst]
  refine zD hcall cB (zR (by simp[go_sem]) rfl) rfl ?_
  refine(A7 b).elim (fun p=> ?_) (fun p=> ?_)
  .rw[p,B8]at hinv
   simp[go_sem,p,ei]
   exact zI (i+1) ⟨by omega,⟨by omega,hinv⟩,aO⟩
  .rw[p,E1]at hinv
   simp[go_sem,p]
   exact bret hinv
def zu1 (T:GTable) (e:GExpr) (want:Int):Int:=if(zb0 T e).2≠0 then(zb0 T e).2 else if(zb0 T e).1≠want/\(zb0 T e).1≠0 then 15 else 0
theorem iret {b M:Int} {σ:St} (h:b=M):wret (some (.int .i64 b)) 0 (fun r s=>r= .int .i64 M/\s= []) σ:=by subst h;exact zQ (zC rfl) ⟨rfl,rfl⟩
theorem zY8 (T:GTable) (hT:T.cols.length<=maxLen) (e:GExpr) (he:EOk e) (want:Int):Pure prog 99 [.agg T.row,.agg e.row,.int .i64 want] (.int .i64 (zu1 T e want)):=by
 have h:=yt0 T hT e he
 generalize hM:zu1 T e want=M
 unfold zu1 at hM
 generalize zb0 T e=k at h hM
 refine iW 0 func99 ntmps99 results99 fun c hc hb=>zN ?_
 simp[go_sem]
 refine zD h cB (zR (by simp[go_sem]) (by rw[GExpr.row_eq];rfl)) rfl ?_
 simp[go_sem,wA]
 by_cases q1:k.2=0
 rotate_left
 .have q1':(k.2 !=0)=true:=by simpa using q1
  rw[if_pos q1]at hM
  simp[go_sem,q1']
  exact iret hM
 have q1':(k.2 !=0)=false:=by simpa using q1
 rw[if_neg (fun h=>h q1)]at hM
 simp[go_sem,q1']
 by_cases q2:k.1=want
 .have q2':(k.1 !=want)=false:=by simpa using q2
  rw[if_neg (fun h=>h.1 q2)]at hM
  simp[go_sem,q2']
  exact iret hM
 have q2':(k.1 !=want)=true:=by simpa using q2
 simp[go_sem,q2']
 by_cases q3:k.1=0
 .have q3':(k.1 !=0)=false:=by simpa using q3
  rw[if_neg (fun h=>h.2 q3)]at hM
  simp[go_sem,q3']
  exact iret hM
 .have q3':(k.1 !=0)=true:=by simpa using q3
  rw[if_pos ⟨q2,q3⟩]at hM
  simp[go_sem,q3']
  exact iret hM
def zH7 (T:GTable) (st:GStmt):Int:=if st.filtered=true then zu1 T st.where_ 1 else 0
theorem yL6 (T:GTable) (hT:T.cols.length<=maxLen) (st:GStmt) (hs:SOk st):Pure prog 55 [.agg T.row,.agg st.row] (.int .i64 (zH7 T st)):=by
 have h:=zY8 T hT st.where_ hs.where_ 1
 generalize hM:zH7 T st=M
 unfold zH7 at hM
 generalize zu1 T st.where_ 1=k at h hM
 refine iW 0 func55 ntmps55 results55 fun c hc hb=>zN ?_
 simp[go_sem]
 refine(A7 st.filtered).elim (fun w=> ?_) (fun w=> ?_)
 .rw[if_pos w]at hM
  simp[go_sem,w]
  refine zD h cB (zR (by simp[go_sem]) (by rw[GExpr.row_eq];rfl)) rfl ?_
  simp[go_sem]
  exact iret hM
 .rw[if_neg (by rw[w];decide)]at hM
  simp[go_sem,w]
  exact iret hM
def yp2 (T:GTable) (x:GItem):Int:=if x.kind=2 then(zb0 T x.e).2 else if x.kind=4 then zu1 T x.e 2 else 0
def zn9 (T:GTable):List GItem->Int
 | []=>0
 |x::l=>if yp2 T x≠0 then yp2 T x else zn9 T l
def zu9 (l:List GItem):Bool:=l.any fun x=>x.kind==2
def zr2 (l:List GItem):Bool:=l.any fun x=>x.kind==3||x.kind==4
def endC (T:GTable) (st:GStmt):Int:=if st.order.isEmpty=true then 0 else if colF T st.order<0 then 14 else if zr2 st.items=true then 9 else 0
def zY3 (T:GTable) (st:GStmt):Int:=
 if zn9 T st.items≠0 then zn9 T st.items else if(zu9 st.items&&zr2 st.items)=true then 9 else if zH7 T st≠0 then zH7 T st else endC T st
theorem xn1 (T:GTable) (hT:T.cols.length<=maxLen) (st:GStmt) (hs:SOk st):Pure prog 52 [.agg T.row,.agg st.row] (.int .i64 (zY3 T st)):=by
 obtain⟨L,hL⟩:=eX st.items
 obtain⟨hLl,hLx⟩:=hs.items
 rw[hL]at hLl hLx
 have hwh:=yL6 T hT st hs
 have hcol:=ym4 T st.order hT
 rw[show wN (fun c:GCol=>c.name==st.order) T.cols 0=colF T st.order from rfl]at hcol
 generalize hM:zY3 T st=M
 unfold zY3 endC at hM
 rw[hL]at hM
 refine iV 0 func52 ntmps52 results52 fun c hc hb=> ?_
 refine zS (zA ?_)
 simp[go_sem]
 refine zS (zA ?_)
 simp[go_sem]
 refine zc0 (S:=Unit) [2,3,5,6] (fun _=> [.ptr 0 0,.ptr 1 0,.bool (zu9 L),.bool (zr2 L)]) (fun _=> [.box T.row,.box st.row]) (fun _=>zn9 T L=0) hc hb ?_ ?_
 .refine zS (zA ?_)
  simp[go_sem,hL]
  refine zg0 ?_
  refine zL (S:=Nat×Bool×Bool) [2,3,5,6,12,13,14] (fun u=> [.ptr 0 0,.ptr 1 0,.bool u.2.1,.bool u.2.2,.sl .ro (L.map GItem.row),.int .i64 L.length,.int .i64 (u.1:Int)]) (fun _=> [.box T.row,.box st.row]) (fun u=>L.length - u.1)
   (fun u=>u.1<=L.length/\(u.2.1||zu9 (L.drop u.1))=zu9 L/\(u.2.2||zr2 (L.drop u.1))=zr2 L/\zn9 T (L.drop u.1)=zn9 T L) hc hb (0,false,false) ⟨A3 _,by simp,by simp,by simp⟩ ?_ ?_
  .exact at_n 2 (by simp[go_sem,hL]) rfl (by simp[ltOb,ltC,ltK,GTable.row,GStmt.row]) (A3 _) (zG (by simp[go_sem]) rfl)
  rintro⟨i,pl,wh⟩ ⟨hi,hp,hw,hinv⟩
  simp only at hi hp hw hinv
  by_cases q:i<L.length
  rotate_left
  .rw[A9 (by omega)]at hp hw hinv
   have hp:pl=zu9 L:=by rw[<-hp];exact(Bool.or_false _).symm
   have hw:wh=zr2 L:=by rw[<-hw];exact(Bool.or_false _).symm
   refine zA ?_
   simp[go_sem,q]
   exact zI () ⟨hinv.symm,aM 2 (by simp[ltOb,ltC,ltK]) (zG (by simp[go_sem,hp,hw]) rfl)⟩
  have ei:=zV q (by omega)
  obtain⟨x,hx⟩:=eX (L[i])
  have hE:=(hLx x (hx▸A8 q)).2
  rw[A6 q,hx]at hp hw hinv
  unfold zu9 at hp
  unfold zr2 at hw
  rw[List.any_cons]at hp hw
  rw[zn9]at hinv
  have bad:yp2 T x≠0->yp2 T x=M:=fun h=>by
   rw[if_pos h]at hinv
   rw[<-hM,<-hinv,if_pos h]
  have good:yp2 T x=0->zn9 T (L.drop (i+1))=zn9 T L:=fun h=>by
   rw[if_neg (fun g=>g h)]at hinv
   exact hinv
  clear hinv
  unfold yp2 at bad good
  have hty:=yt0 T hT x.e hE
  have hkc:=zY8 T hT x.e hE 2
  generalize zb0 T x.e=ty at hty bad good
  generalize zu1 T x.e 2=kc at hkc bad good
  have go: ∀(a b:Bool) (e σ),(a||zu9 (L.drop (i+1)))=zu9 L->(b||zr2 (L.drop (i+1)))=zr2 L->zn9 T (L.drop (i+1))=zn9 T L->At 0 [2,3,5,6,12,13,14] [.ptr 0 0,.ptr 1 0,.bool a,.bool b,.sl .ro (L.map GItem.row),.int .i64 L.length,.int .i64 ((i+1:Nat):Int)] [.box T.row,.box st.row] e σ->
   Vx.Next (fun s':Nat×Bool×Bool=>L.length - s'.1<L.length - i/\(s'.1<=L.length/\(s'.2.1||zu9 (L.drop s'.1))=zu9 L/\(s'.2.2||zr2 (L.drop s'.1))=zr2 L/\zn9 T (L.drop s'.1)=zn9 T L)/\At 0 [2,3,5,6,12,13,14] [.ptr 0 0,.ptr 1 0,.bool s'.2.1,.bool s'.2.2,.sl .ro (L.map GItem.row),.int .i64 L.length,.int .i64 (s'.1:Int)] [.box T.row,.box st.row] e σ) fx:=fun a b e σ h1 h2 h3 h4=>
    zI (i+1,a,b) ⟨by simp only;omega,⟨by simp only;omega,h1,h2,h3⟩,h4⟩
  refine zA ?_
  simp[go_sem,q,hx]
  by_cases k2:x.kind=2
  .have k2':(x.kind==2)=true:=by simpa using k2
   rw[if_pos k2]at bad good
   have k34:(x.kind==3||x.kind==4)=false:=by rw[k2];rfl
   simp only[k2',Dl,Eg]at hp
   simp only[k34,C8]at hw
   simp[go_sem,k2']
   refine zD hty cB (zR (by simp[go_sem]) (by rw[GExpr.row_eq];rfl)) rfl ?_
   by_cases qe:ty.2=0
   .have qe':(ty.2 !=0)=false:=by simpa using qe
    simp[go_sem,wA,qe',ei]
    exact go true wh _ _ (by rw[Dl];exact hp) hw (good qe) (aN 2 (by simp[ltOb,ltC,ltK,GTable.row,GStmt.row]))
   .have qe':(ty.2 !=0)=true:=by simpa using qe
    simp[go_sem,wA,qe']
    exact iret (bad qe)
  rw[if_neg k2]at bad good
  have k2':(x.kind==2)=false:=by simpa using k2
  simp only[k2',C8]at hp
  by_cases k4:x.kind=4
  .have k4':(x.kind==4)=true:=by simpa using k4
   rw[if_pos k4]at bad good
   simp only[k4',Dl,Eg]at hw
   simp[go_sem,k2',k4']
   refine zD hkc cB (zR (by simp[go_sem]) (by rw[GExpr.row_eq];rfl)) rfl ?_
   by_cases qe:kc=0
   .have qe':(kc !=0)=false:=by simpa using qe
    simp[go_sem,qe',ei]
    exact go pl true _ _ hp (by rw[Dl];exact hw) (good qe) (aN 2 (by simp[ltOb,ltC,ltK,GTable.row,GStmt.row]))
   .have qe':(kc !=0)=true:=by simpa using qe
    simp[go_sem,qe']
    exact iret (bad qe)
  rw[if_neg k4]at bad good
  have k4':(x.kind==4)=false:=by simpa using k4
  by_cases k3:x.kind=3
  .have k3':(x.kind==3)=true:=by simpa using k3
   simp only[k3',Dl,Eg]at hw
   simp[go_sem,k2',k4',k3',ei]
   exact go pl true _ _ hp (by rw[Dl];exact hw) (good rfl) (aN 2 (by simp[ltOb,ltC,ltK,GTable.row,GStmt.row]))
  .have k3':(x.kind==3)=false:=by simpa using k3
   simp only[k3',k4',C8]at hw
   simp[go_sem,k2',k4',k3',ei]
   exact go pl wh _ _ hp hw (good rfl) (aN 2 (by simp[ltOb,ltC,ltK,GTable.row,GStmt.row]))
 .rintro _ hI
  rw[if_neg (fun h=>h hI)]at hM
  generalize zu9 L=pl at hM⊢
  generalize zr2 L=wh at hM⊢
  generalize zH7 T st=wc at hwh hM
  have ho1:(st.order== [])=st.order.isEmpty:=by cases st.order<;>rfl
  refine zA ?_
  simp[go_sem]
  refine(A7 (pl&&wh)).elim (fun w=> ?_) (fun w=> ?_)
  .rw[if_pos w]at hM
   have w1:pl=true:=by cases pl<;>simp_all
   have w2:wh=true:=by cases wh<;>simp_all
   simp[go_sem,w1,w2]
   exact iret hM
  rw[if_neg (by rw[w];decide)]at hM
  refine yZ (fun w1=> ?_) (fun w1=> ?_)
  .have w2:wh=false:=by cases wh<;>simp_all
   simp[go_sem,w1,w2]
   refine zD hwh cB (zR (by simp[go_sem]) rfl) rfl ?_
   by_cases qe:wc=0
   rotate_left
   .have qe':(wc !=0)=true:=by simpa using qe
    rw[if_pos qe]at hM
    simp[go_sem,qe']
    exact iret hM
   have qe':(wc !=0)=false:=by simpa using qe
   rw[if_neg (fun h=>h qe)]at hM
   simp[go_sem,qe',ho1]
   refine(A7 st.order.isEmpty).elim (fun w3=> ?_) (fun w3=> ?_)
   .rw[if_pos w3]at hM
    simp[go_sem,w3]
    exact iret hM
   rw[if_neg (by rw[w3];decide)]at hM
   simp[go_sem,w3]
   refine zD hcol cB (zR (by simp[go_sem]) rfl) rfl ?_
   by_cases qc:colF T st.order<0
   .have qc':decide (colF T st.order<0)=true:=decide_eq_true qc
    rw[if_pos qc]at hM
    simp[go_sem,qc']
    exact iret hM
   have qc':decide (colF T st.order<0)=false:=decide_eq_false qc
   rw[if_neg qc]at hM
   simp[go_sem,qc']
   rw[if_neg (by rw[w2];decide)]at hM
   exact iret hM
  .have w1:pl=false:=by simpa using w1
   simp[go_sem,w1]
   refine zD hwh cB (zR (by simp[go_sem]) rfl) rfl ?_
   by_cases qe:wc=0
   rotate_left
   .have qe':(wc !=0)=true:=by simpa using qe
    rw[if_pos qe]at hM
    simp[go_sem,qe']
    exact iret hM
   have qe':(wc !=0)=false:=by simpa using qe
   rw[if_neg (fun h=>h qe)]at hM
   simp[go_sem,qe',ho1]
   refine(A7 st.order.isEmpty).elim (fun w3=> ?_) (fun w3=> ?_)
   .rw[if_pos w3]at hM
    simp[go_sem,w3]
    exact iret hM
   rw[if_neg (by rw[w3];decide)]at hM
   simp[go_sem,w3]
   refine zD hcol cB (zR (by simp[go_sem]) rfl) rfl ?_
   by_cases qc:colF T st.order<0
   .have qc':decide (colF T st.order<0)=true:=decide_eq_true qc
    rw[if_pos qc]at hM
    simp[go_sem,qc']
    exact iret hM
   have qc':decide (colF T st.order<0)=false:=decide_eq_false qc
   rw[if_neg qc]at hM
   simp[go_sem,qc']
   refine(A7 wh).elim (fun w4=> ?_) (fun w4=> ?_)
   .rw[if_pos w4]at hM
    simp[go_sem,w4]
    exact iret hM
   .rw[if_neg (by rw[w4];decide)]at hM
    simp[go_sem,w4]
    exact iret hM
theorem yC2 (x:Int):Pure prog 143 [.int .i64 x] (.bool false):=by
 refine iW 0 func143 ntmps143 results143 fun c hc hb=>zN ?_
 simp[go_sem]
 exact zQ (zC rfl) ⟨rfl,rfl⟩
def cmpI (x y:Int):Int:=if x<y then -1 else if x>y then 1 else 0
theorem yC1 (x y:Int):Pure prog 83 [.int .i64 x,.int .i64 y] (.int .i64 (cmpI x y)):=by
 generalize hM:cmpI x y=M
 have ret: ∀(r:Int) (σ:St),r=M->wret (some (.int .i64 r)) 0 (fun r s=>r= .int .i64 M/\s= []) σ:=fun r σ h=>by subst h;exact zQ (zC rfl) ⟨rfl,rfl⟩
 unfold cmpI at hM
 refine iW 0 func83 ntmps83 results83 fun c hc hb=>zN ?_
 simp[go_sem]
 refine zD (yC2 x) cB (zH rfl) rfl ?_
 simp[go_sem]
 refine zD (yC2 y) cB (zH rfl) rfl ?_
 simp[go_sem]
 repeat' (first|(refine zT (fun q=> ?_) (fun q=> ?_)<;>simp[go_sem,q]))
 all_goals exact ret _ _ (by rw[<-hM];simp only[decide_eq_true_eq,decide_eq_false_iff_not]at*;(repeat' split)<;>omega)
end Go.Proofs.YtkigddpaonhmlaaGreat
namespace Go.Proofs.YtkigddpaonhmlaaGreat
open Go Go.Vx Go.Proofs.Tryz
set_option maxRecDepth 100000
end Go.Proofs.YtkigddpaonhmlaaGreat
namespace Go.Proofs.YtkigddpaonhmlaaGreat
open Go Go.Vx Go.Proofs.Tryz
set_option maxRecDepth 100000
set_option maxHeartbeats 1000000
end Go.Proofs.YtkigddpaonhmlaaGreat
namespace Go.Proofs.YtkigddpaonhmlaaGreat
open Go Go.Vx R Go.Proofs.Tryz
set_option maxRecDepth 100000
section
variable {b:List V} {rows:List (List V)} {A:List Nat} {τ:St}
end
theorem zq6 (id off s:Nat) (cells:List V) {P:Program} {c:Ctx} {nt:Nat} {e:Env} {σ:St} {Q:QT} {y:Code} (h0:0<s) (hσ:σ[id]? =some (.box cells)) (hc:cells[off]? =some (.sl .full []))
  (hy:wVW P c nt y Q fx fx e (σ.set id (.box (cells.set off (.lsv σ.length s 0 0 0)))++ [.lst [] s])):wVW P c nt y Q fx fx e σ:=by
 intro a w L β hs
 obtain⟨x,h1,h2⟩:=yY4 hs.mem h0 hσ hc
 exact hy a w L (β++ [x]) ⟨h1,hs.size,hs.defs,fun k=>(hs.env k).mono (Le.refl _ _) h2⟩
def zd6 (name:List UInt8):Int:=wN (fun T:GTable=>T.name==name) tabsS 0
theorem yt4: ∀(n:Nat) (q l:List GExpr),(bfs n q l).length<=l.length+n
 |0,_,_=>A2 _
 |n+1,[],l=>by rw[bfs];omega
 |n+1,e::q,l=>by
  rw[bfs]
  split
  .have:=yt4 n (q++e.args) l;omega
  .have:=yt4 n q (l++ [e]);simp at this;omega
theorem yn1 (st:GStmt):(zr4 st).length<=4096:=by
 unfold zr4
 split
 .have:=yt4 4096 [st.where_] [];simpa using this
 .simp
theorem zW5 (name:List UInt8):zd6 name= -1∨zd6 name=0∨zd6 name=1∨zd6 name=2:=by
 have h:=zt6 (fun T:GTable=>T.name==name) tabsS 0
 have hl:tabsS.length=3:=rfl
 rw[hl]at h
 unfold zd6
 omega
theorem yx3 (t:Int) (st:GStmt):(za5 t st).length<=2:=by
 unfold za5
 split
 .exact yC5 _ _
 .split
  .simp
  .split<;>simp
def VOk (st:GStmt):Prop:= ∀e∈zr4 st,∀name s v,zd7 e name=some (s,v)->v.ok
def tab00:GTable:=⟨[],[],0,0,0,⟨[],[],[],0,0,0⟩⟩
def zR7:List GCol->List GExpr->Int
 |c::cs,e::es=>if zu1 tab00 e c.kind≠0 then zu1 tab00 e c.kind else zR7 cs es
 |_,_=>0
def zT5 (T:GTable) (r:List GExpr):Int:=if r.length≠T.cols.length then 9 else zR7 T.cols r
def yr1 (T:GTable):List (List GExpr)->Int
 | []=>0
 |r::l=>if zT5 T r≠0 then zT5 T r else yr1 T l
theorem xN6 {ρ:Nat->Nat} {g1 g2 g3 g4:Tag}:argS ρ (.agg tab00.row) (.agg [.str [],.sl g1 [],.int .i64 0,.int .i64 0,.int .i64 0,.sl g2 [],.sl g3 [],.sl g4 [],.int .i64 0,.int .i64 0,.int .i64 0]):=
 zt4 ⟨zZ rfl,yX,zZ rfl,zZ rfl,zZ rfl,yX,yX,yX,zZ rfl,zZ rfl,zZ rfl,trivial⟩
theorem zN2 {ρ:Nat->Nat} (e:GExpr):argS ρ (.agg e.row) (.agg [.int .i64 e.kind,.str e.s,.int .i64 e.v.kind,.int .i64 e.v.n,.str e.v.s,.sl .ro (e.args.map GExpr.row)]):=by rw[GExpr.row_eq];exact zC rfl
theorem st_T (T:GTable) (st:GStmt) (n:Nat):([.box T.row,.box st.row]:St).all (ltOb n)=true:=by simp[ltOb,ltC,ltK,GTable.row,GStmt.row]
theorem xe3 (T:GTable) (_hT:T.cols.length<=1000) (st:GStmt) (hs:SOk st):Pure prog 53 [.agg T.row,.agg st.row] (.int .i64 (yr1 T st.rows)):=by
 obtain⟨R,hR⟩:=eX st.rows
 obtain⟨hRl,hRx⟩:=hs.rows
 rw[hR]at hRl hRx
 rw[hR]
 generalize hM:yr1 T R=M
 refine iV 0 func53 ntmps53 results53 fun c hc hb=> ?_
 refine zA ?_
 simp[go_sem,hR]
 refine zL (S:=Nat) [2,3,11,12,13] (fun i=> [.ptr 0 0,.ptr 1 0,.sl .ro (R.map fun r=> [V.sl .ro (r.map GExpr.row)]),.int .i64 R.length,.int .i64 (i:Int)]) (fun _=> [.box T.row,.box st.row]) (fun i=>R.length - i)
  (fun i=>i<=R.length/\yr1 T (R.drop i)=M) hc hb 0 ⟨A3 _,hM⟩ ?_ ?_
 .exact at_n 2 (by simp[go_sem,hR]) rfl (st_T T st 2) (A3 _) (zG (by simp[go_sem]) rfl)
 rintro i ⟨hi,hinv⟩
 by_cases q:i<R.length
 rotate_left
 .rw[A9 (by omega)]at hinv
  refine zA ?_
  simp[go_sem,q]
  exact iret hinv
 have ei:=zV q (by omega)
 obtain⟨r,hr⟩:=eX (R[i])
 obtain⟨hrl,hrx⟩:=hRx r (hr▸A8 q)
 rw[A6 q,hr,yr1]at hinv
 by_cases q2:r.length=T.cols.length
 rotate_left
 .have q2':((r.length:Int) !=T.cols.length)=true:=by simp;omega
  have hrc:zT5 T r=9:=by unfold zT5;rw[if_pos q2]
  rw[hrc,if_pos (by decide)]at hinv
  refine zA ?_
  simp[go_sem,q,hr,q2']
  exact iret hinv
 have q2':((r.length:Int) !=T.cols.length)=false:=by simp;omega
 have hrc:zT5 T r=zR7 T.cols r:=by unfold zT5;rw[if_neg (fun h=>h q2)]
 rw[hrc]at hinv
 obtain⟨C,hC⟩:=eX (zR7 T.cols r)
 rw[hC]at hinv
 refine zA ?_
 simp[go_sem,q,hr,q2']
 refine zL (S:=Nat) [2,3,11,12,13,23,24,25] (fun k=> [.ptr 0 0,.ptr 1 0,.sl .ro (R.map fun r=> [V.sl .ro (r.map GExpr.row)]),.int .i64 R.length,.int .i64 (i:Int),.sl .ro (r.map GExpr.row),.int .i64 r.length,.int .i64 (k:Int)]) (fun _=> [.box T.row,.box st.row]) (fun k=>r.length - k)
  (fun k=>k<=r.length/\zR7 (T.cols.drop k) (r.drop k)=C) hc hb 0 ⟨A3 _,hC⟩ ?_ ?_
 .exact at_n 2 (by simp[go_sem,hR]) rfl (st_T T st 2) (A3 _) (zG (by simp[go_sem]) rfl)
 rintro k ⟨hk,hcv⟩
 by_cases qk:k<r.length
 rotate_left
 .rw[A9 (by omega),A9 (by omega)]at hcv
  have hcv:C=0:=hcv.symm
  rw[if_neg (fun h=>h hcv)]at hinv
  refine zA ?_
  simp[go_sem,qk,ei]
  exact zI (i+1) ⟨by omega,⟨by omega,hinv⟩,aN 2 (st_T T st 2)⟩
 have ek:=zV qk (by omega)
 have qc:k<T.cols.length:=by omega
 obtain⟨e,he⟩:=eX (r[k])
 obtain⟨c1,hc1⟩:=eX (T.cols[k])
 have hE:=hrx e (he▸A8 qk)
 rw[A6 qk,A6 qc,he,hc1,zR7]at hcv
 have hcall:=zY8 tab00 (by decide) e hE c1.kind
 generalize zu1 tab00 e c1.kind=kc at hcall hcv
 refine zA ?_
 simp[go_sem,qk,he]
 refine zb7 [(8,0)] 3 (by simp) (by kernel_rfl) (by kernel_rfl) ?_
 simp[go_sem,qc,hc1]
 refine zW hcall cB (fun _=>⟨xN6,zN2 e,zC rfl,trivial⟩) rfl ?_
 simp[go_sem]
 by_cases qe:kc=0
 .have qe':(kc !=0)=false:=by simpa using qe
  rw[if_neg (fun h=>h qe)]at hcv
  simp[go_sem,qe',ek]
  exact zI (k+1) ⟨by omega,⟨by omega,hcv⟩,aN 2 (st_T T st 2)⟩
 .have qe':(kc !=0)=true:=by simpa using qe
  rw[if_pos qe]at hcv
  rw[if_pos (by rw[<-hcv];exact qe)]at hinv
  simp[go_sem,qe']
  exact iret (hcv.trans hinv)
def zq0 (T:GTable):List GAssign->List GAssign->Int
 |_,[]=>0
 |p,x::l=>
  if colF T x.name<0 then 14
  else if colF T x.name=T.key∨(colF T x.name=0/\T.place=0)then 18
  else if(p.any fun y=>y.name==x.name)=true then 9
  else if zu1 T x.e (colK T (colF T x.name))≠0 then zu1 T x.e (colK T (colF T x.name))
  else zq0 T (p++ [x]) l
theorem st_x (x:GAssign):ltOb 0 (.box x.row)=true:=by simp[ltOb,ltC,ltK,GAssign.row]
theorem yR2 (x y:GAssign):VCalls prog 101 [.agg y.row,.ptr 0 0] [.box x.row] (fun r σ=>r= .bool (y.name==x.name)/\σ= [.box x.row]):=by
 refine iW 1 func101 ntmps101 results101 fun c hc hb=>zN ?_
 simp[go_sem]
 exact xJ 1 rfl rfl (by simp[ltOb,ltC,ltK]) (A2 _) (zC rfl) ⟨rfl,rfl⟩
theorem xP4 (x:GAssign) (l:List GAssign) (hl:l.length<=12):VCalls prog 166 [.sl .ro (l.map GAssign.row),.fn 101 [.ptr 0 0]] [.box x.row] (fun r σ=>r= .int .i64 (zb5 (fun y=>y.name==x.name) l 0)/\σ= [.box x.row]):=by
 generalize hM:zb5 (fun y:GAssign=>y.name==x.name) l 0=M
 have ret: ∀(r:Int) (σ:St),r=M->wret (some (.int .i64 r)) 1 (fun r s=>r= .int .i64 M/\s= [.box x.row]) (.box x.row::σ):=fun r σ h=>by subst h;exact xJ 1 rfl rfl (by simp[ltOb,ltC,ltK,GAssign.row]) (A2 _) (zC rfl) ⟨rfl,rfl⟩
 refine iV 1 func166 ntmps166 results166 fun c hc hb=> ?_
 refine zA ?_
 simp[go_sem]
 refine zL (S:=Nat) [0,1,6,7,8] (fun i=> [.sl .ro (l.map GAssign.row),.fn 101 [.ptr 0 0],.sl .ro (l.map GAssign.row),.int .i64 l.length,.int .i64 (i:Int)]) (fun _=> [.box x.row]) (fun i=>l.length - i)
  (fun i=>i<=l.length/\zb5 (fun y=>y.name==x.name) (l.drop i) i=M) hc hb 0 ⟨A3 _,hM⟩ ?_ ?_
 .exact aN 1 (by simp[ltOb,ltC,ltK,GAssign.row])
 rintro i ⟨hi,hinv⟩
 by_cases q:i<l.length
 rotate_left
 .rw[A9 (by omega)]at hinv
  refine zA ?_
  simp[go_sem,q]
  exact ret _ _ hinv
 have ei:=zV q (by omega)
 obtain⟨y,hy⟩:=eX (l[i])
 rw[A6 q,hy,zb5]at hinv
 have hcall:=yR2 x y
 generalize (y.name==x.name)=b at hcall hinv
 refine zA ?_
 simp[go_sem,q,hy]
 refine zl2 0 hcall cB rfl (st_x x) ⟨zC rfl,.inl rfl,trivial⟩ (fun r σ h=>⟨_,h.2,st_x x⟩) ?_
 rintro r o2 ⟨rfl,h2⟩
 obtain rfl:o2= .box x.row:=by simpa using h2
 refine(A7 b).elim (fun p=> ?_) (fun p=> ?_)
 .rw[if_pos p]at hinv
  simp[go_sem,p]
  exact ret _ _ hinv
 .rw[if_neg (by rw[p];decide)]at hinv
  simp[go_sem,p,ei]
  exact zI (i+1) ⟨by omega,⟨by omega,hinv⟩,aN 1 (by simp[ltOb,ltC,ltK])⟩
theorem xO9 (x:GAssign) (l:List GAssign) (hl:l.length<=12):VCalls prog 100 [.sl .ro (l.map GAssign.row),.fn 101 [.ptr 0 0]] [.box x.row] (fun r σ=>r= .bool (l.any fun y=>y.name==x.name)/\σ= [.box x.row]):=by
 have h:=xP4 x l hl
 have hg:=zz5 (fun y:GAssign=>y.name==x.name) l 0
 rw[<-hg]
 generalize zb5 (fun y:GAssign=>y.name==x.name) l 0=n at h⊢
 refine iW 1 func100 ntmps100 results100 fun c hc hb=>zN ?_
 simp[go_sem]
 refine zl2 0 h cB rfl (st_x x) ⟨zC rfl,.inl (by simp[renS,renA,renC,renK,ren]),trivial⟩ (fun r σ h=>⟨_,h.2,st_x x⟩) ?_
 rintro r o2 ⟨rfl,h2⟩
 obtain rfl:o2= .box x.row:=by simpa using h2
 simp[go_sem]
 exact xJ 1 rfl rfl (by simp[ltOb,ltC,ltK]) (A2 _) (zC rfl) ⟨rfl,rfl⟩
theorem xH6 (T:GTable) (hT:T.cols.length<=1000) (st:GStmt) (hs:SOk st):Pure prog 54 [.agg T.row,.agg st.row] (.int .i64 (zq0 T [] st.sets)):=by
 obtain⟨L,hL⟩:=eX st.sets
 obtain⟨hLl,hLx⟩:=hs.sets
 rw[hL]at hLl hLx
 rw[hL]
 generalize hM:zq0 T [] L=M
 refine iV 0 func54 ntmps54 results54 fun c hc hb=> ?_
 refine zA ?_
 simp[go_sem,hL]
 refine zL (S:=Nat) [2,3,10,11,12] (fun i=> [.ptr 0 0,.ptr 1 0,.sl .ro (L.map GAssign.row),.int .i64 L.length,.int .i64 (i:Int)]) (fun _=> [.box T.row,.box st.row]) (fun i=>L.length - i)
  (fun i=>i<=L.length/\zq0 T (L.take i) (L.drop i)=M) hc hb 0 ⟨A3 _,hM⟩ ?_ ?_
 .exact at_n 2 (by simp[go_sem,hL]) rfl (st_T T st 2) (A3 _) (zG (by simp[go_sem]) rfl)
 rintro i ⟨hi,hinv⟩
 by_cases q:i<L.length
 rotate_left
 .rw[A9 (by omega),zq0]at hinv
  refine zA ?_
  simp[go_sem,q]
  exact iret hinv
 have ei:=zV q (by omega)
 obtain⟨x,hx⟩:=eX (L[i])
 obtain⟨hxn,hE⟩:=hLx x (hx▸A8 q)
 have hcol:=ym4 T x.name (by unfold maxLen;omega)
 rw[show wN (fun c:GCol=>c.name==x.name) T.cols 0=colF T x.name from rfl]at hcol
 have hhas:=xO9 x (L.take i) (by simp;omega)
 have htk:L.take (i+1)=L.take i++ [x]:=by rw[Dg,A0 q,hx];rfl
 rw[A6 q,hx,zq0,<-htk]at hinv
 generalize ((L.take i).any fun y=>y.name==x.name)=b at hhas hinv
 by_cases qc:colF T x.name<0
 .have qc':decide (colF T x.name<0)=true:=decide_eq_true qc
  rw[if_pos qc]at hinv
  refine zA ?_
  simp[go_sem,q,hx]
  refine zD hcol cB (zR (by simp[go_sem]) rfl) rfl ?_
  simp[go_sem,qc']
  exact iret hinv
 have qc':decide (colF T x.name<0)=false:=decide_eq_false qc
 rw[if_neg qc]at hinv
 obtain⟨j,hj,hjl⟩:=zN5 T x.name qc
 obtain⟨C,hC⟩:=eX (T.cols[j])
 have hck:colK T (colF T x.name)=C.kind:=by
  unfold colK
  rw[hj,Ax,A0 hjl,hC];rfl
 rw[hck]at hinv
 have hcall:=zY8 T (by unfold maxLen;omega) x.e hE C.kind
 generalize zu1 T x.e C.kind=kc at hcall hinv
 rw[hj]at hcol hinv qc'
 by_cases qk:(j:Int)=T.key∨((j:Int)=0/\T.place=0)
 .rw[if_pos qk]at hinv
  refine zA ?_
  simp[go_sem,q,hx]
  refine zD hcol cB (zR (by simp[go_sem]) rfl) rfl ?_
  simp[go_sem,qc']
  by_cases k1:(j:Int)=T.key
  .have k1':((j:Int)==T.key)=true:=by simpa using k1
   simp[go_sem,k1']
   exact iret hinv
  .have k1':((j:Int)==T.key)=false:=by simpa using k1
   obtain⟨k2,k3⟩:=qk.resolve_left k1
   have k2':((j:Int)==0)=true:=by simpa using k2
   have k3':(T.place==0)=true:=by simpa using k3
   simp[go_sem,k1',k2',k3']
   exact iret hinv
 rw[if_neg qk]at hinv
 have k1':((j:Int)==T.key)=false:=by simpa using fun h=>qk (.inl h)
 have key:((j:Int)==0)=false∨(((j:Int)==0)=true/\(T.place==0)=false):=by
  by_cases k2:(j:Int)=0
  .exact .inr ⟨by simpa using k2,by simpa using fun h=>qk (.inr ⟨k2,h⟩)⟩
  .exact .inl (by simpa using k2)
 refine key.elim (fun k2'=> ?_) (fun⟨k2',k3'⟩=> ?_)
 .refine zA ?_
  simp[go_sem,q,hx]
  refine zD hcol cB (zR (by simp[go_sem]) rfl) rfl ?_
  simp[go_sem,qc',k1',k2',hL]
  refine zJ ⟨hi,zZ5 fun _=>rfl⟩ ?_
  simp[go_sem,<-List.map_take]
  refine zl2 2 hhas cB rfl (st_x x) ⟨zX,.inl (by simp[renS,renA,renC,renK,ren]),trivial⟩ (fun r σ h=>⟨_,h.2,st_x x⟩) ?_
  rintro r o2 ⟨rfl,h2⟩
  obtain rfl:o2= .box x.row:=by simpa using h2
  refine(A7 b).elim (fun p=> ?_) (fun p=> ?_)
  .rw[if_pos p]at hinv
   simp[go_sem,p]
   exact iret hinv
  rw[if_neg (by rw[p];decide)]at hinv
  simp[go_sem,p]
  refine zb7 [(9,0)] 3 (by simp) (by kernel_rfl) (by kernel_rfl) ?_
  simp[go_sem,hjl,hC]
  refine zW hcall cB (fun _=>⟨zC rfl,zN2 x.e,zC rfl,trivial⟩) rfl ?_
  simp[go_sem]
  by_cases qe:kc=0
  .have qe':(kc !=0)=false:=by simpa using qe
   rw[if_neg (fun h=>h qe)]at hinv
   simp[go_sem,qe',ei]
   exact zI (i+1) ⟨by omega,⟨by omega,hinv⟩,at_n 2 (by simp[go_sem,hL]) rfl (st_T T st 2) (A3 _) (zG (by simp[go_sem]) rfl)⟩
  .have qe':(kc !=0)=true:=by simpa using qe
   rw[if_pos qe]at hinv
   simp[go_sem,qe']
   exact iret hinv
 .refine zA ?_
  simp[go_sem,q,hx]
  refine zD hcol cB (zR (by simp[go_sem]) rfl) rfl ?_
  simp[go_sem,qc',k1',k2',k3',hL]
  refine zJ ⟨hi,zZ5 fun _=>rfl⟩ ?_
  simp[go_sem,<-List.map_take]
  refine zl2 2 hhas cB rfl (st_x x) ⟨zX,.inl (by simp[renS,renA,renC,renK,ren]),trivial⟩ (fun r σ h=>⟨_,h.2,st_x x⟩) ?_
  rintro r o2 ⟨rfl,h2⟩
  obtain rfl:o2= .box x.row:=by simpa using h2
  refine(A7 b).elim (fun p=> ?_) (fun p=> ?_)
  .rw[if_pos p]at hinv
   simp[go_sem,p]
   exact iret hinv
  rw[if_neg (by rw[p];decide)]at hinv
  simp[go_sem,p]
  refine zb7 [(9,0)] 3 (by simp) (by kernel_rfl) (by kernel_rfl) ?_
  simp[go_sem,hjl,hC]
  refine zW hcall cB (fun _=>⟨zC rfl,zN2 x.e,zC rfl,trivial⟩) rfl ?_
  simp[go_sem]
  by_cases qe:kc=0
  .have qe':(kc !=0)=false:=by simpa using qe
   rw[if_neg (fun h=>h qe)]at hinv
   simp[go_sem,qe',ei]
   exact zI (i+1) ⟨by omega,⟨by omega,hinv⟩,at_n 2 (by simp[go_sem,hL]) rfl (st_T T st 2) (A3 _) (zG (by simp[go_sem]) rfl)⟩
  .have qe':(kc !=0)=true:=by simpa using qe
   rw[if_pos qe]at hinv
   simp[go_sem,qe']
   exact iret hinv
def zn7 (st:GStmt):Int:=
 match tabsS[(zd6 st.table).toNat]? with
 |none=>14
 |some T=>if zd6 st.table<0 then 14 else if st.kind=1 then zY3 T st else if st.kind=2 then yr1 T st.rows else if st.kind=3 then(if zq0 T [] st.sets≠0 then zq0 T [] st.sets else zH7 T st)else zH7 T st
theorem xm8 (st:GStmt) (hs:SOk st):Pure prog 26 [schR tabsS,.agg st.row] (.int .i64 (zn7 st)):=by
 have hfi:=xk7 tabsS st.table (by decide)
 rw[show wN (fun t:GTable=>t.name==st.table) tabsS 0=zd6 st.table from rfl]at hfi
 generalize hM:zn7 st=M
 unfold zn7 at hM
 have htc:=zW5 st.table
 generalize zd6 st.table=t at hfi htc hM
 refine iW 0 func26 ntmps26 results26 fun c hc hb=>zN ?_
 simp[go_sem,schR]
 refine zD hfi cB (zR (by simp[go_sem,schR]) rfl) rfl ?_
 simp[go_sem]
 by_cases htn:t= -1
 .have hM:14=M:=by rw[<-hM,htn];rfl
  subst htn
  simp[go_sem]
  exact iret hM
 have ht0: ¬t<0:=by omega
 have ht0':decide (t<0)=false:=decide_eq_false ht0
 obtain⟨j,rfl⟩: ∃j:Nat,t=j:=⟨t.toNat,by omega⟩
 have hj3:j<tabsS.length:=by show j<3;omega
 obtain⟨T,hT⟩:=eX (tabsS[j])
 have hTc:T.cols.length<=1000:=by
  rw[<-hT]
  match j,hj3 with
  |0,_=>exact(by decide:tabT.cols.length<=1000)
  |1,_=>exact(by decide:tabG.cols.length<=1000)
  |2,_=>exact(by decide:tabH.cols.length<=1000)
 simp only[Ax,A0 hj3,hT]at hM
 rw[if_neg ht0]at hM
 have h1:=xn1 T (by unfold maxLen;omega) st hs
 have h2:=xe3 T hTc st hs
 have h3:=xH6 T hTc st hs
 have h4:=yL6 T (by unfold maxLen;omega) st hs
 simp[go_sem,ht0',hj3,hT]
 by_cases k1:st.kind=1
 .have k1':(st.kind==1)=true:=by simpa using k1
  rw[if_pos k1]at hM
  simp[go_sem,k1']
  refine zD h1 cB (zR (by simp[go_sem]) rfl) rfl ?_
  simp[go_sem]
  exact iret hM
 have k1':(st.kind==1)=false:=by simpa using k1
 rw[if_neg k1]at hM
 by_cases k2:st.kind=2
 .have k2':(st.kind==2)=true:=by simpa using k2
  rw[if_pos k2]at hM
  simp[go_sem,k1',k2']
  refine zD h2 cB (zR (by simp[go_sem]) rfl) rfl ?_
  simp[go_sem]
  exact iret hM
 have k2':(st.kind==2)=false:=by simpa using k2
 rw[if_neg k2]at hM
 by_cases k3:st.kind=3
 .have k3':(st.kind==3)=true:=by simpa using k3
  rw[if_pos k3]at hM
  generalize zq0 T [] st.sets=sc at h3 hM
  simp[go_sem,k1',k2',k3']
  refine zD h3 cB (zR (by simp[go_sem]) rfl) rfl ?_
  by_cases qe:sc=0
  .have qe':(sc !=0)=false:=by simpa using qe
   rw[if_neg (fun h=>h qe)]at hM
   simp[go_sem,qe']
   refine zD h4 cB (zR (by simp[go_sem]) rfl) rfl ?_
   simp[go_sem]
   exact iret hM
  .have qe':(sc !=0)=true:=by simpa using qe
   rw[if_pos qe]at hM
   simp[go_sem,qe']
   exact iret hM
 have k3':(st.kind==3)=false:=by simpa using k3
 rw[if_neg k3]at hM
 simp[go_sem,k1',k2',k3']
 refine zD h4 cB (zR (by simp[go_sem]) rfl) rfl ?_
 simp[go_sem]
 exact iret hM
def zL6 (mode:Int):List GStmt->Nat->Int×Int
 | [],_=>(0,0)
 |x::l,i=>if mode≠0/\x.kind≠1 then((i:Int),1)else if zn7 x≠0 then((i:Int),zn7 x)else zL6 mode l (i+1)
def zx3 (l:GLot):Int×Int:=if mayL l=true then zL6 l.mode l.stmts 0 else(0,9)
theorem yH9 (l:GLot) (hl:LOk l):Pure prog 19 [schR tabsS,.agg l.row] (wA (zx3 l)):=by
 have hmay:=xj6 l hl
 obtain⟨L,hL⟩:=eX l.stmts
 obtain⟨hLl,hLs⟩:=hl.stmts
 rw[hL]at hLl hLs
 obtain⟨m,hm⟩:=eX l.mode
 generalize hM:zx3 l=M
 unfold zx3 at hM
 rw[hL,hm]at hM
 generalize mayL l=b at hmay hM
 refine iV 0 func19 ntmps19 results19 fun c hc hb=> ?_
 refine zA ?_
 simp[go_sem,schR]
 refine zD hmay cB (zR (by simp[go_sem]) rfl) rfl ?_
 refine(A7 b).elim (fun p=> ?_) (fun p=> ?_)
 rotate_left
 .rw[if_neg (by rw[p];decide)]at hM
  simp[go_sem,p]
  exact zu2 hM
 rw[if_pos p]at hM
 simp[go_sem,p,hL]
 refine zL (S:=Nat) [2,3,13,14,15] (fun i=> [.ptr 0 0,.ptr 1 0,.sl .ro (L.map GStmt.row),.int .i64 L.length,.int .i64 (i:Int)]) (fun _=> [.box [.sl .ro xX,.sl .ro (tabsS.map GTable.row)],.box l.row]) (fun i=>L.length - i)
  (fun i=>i<=L.length/\zL6 m (L.drop i) i=M) hc hb 0 ⟨A3 _,hM⟩ ?_ ?_
 .exact at_n 2 (by simp[go_sem,hL]) rfl (by simp[ltOb,ltC,ltK,GLot.row]) (A3 _) (zG (by simp[go_sem]) rfl)
 rintro i ⟨hi,hinv⟩
 by_cases q:i<L.length
 rotate_left
 .rw[A9 (by omega),zL6]at hinv
  refine zA ?_
  simp[go_sem,q]
  exact zu2 hinv
 have ei:=zV q (by omega)
 obtain⟨st,hst⟩:=eX (L[i])
 have hcall:=xm8 st (hLs st (hst▸A8 q))
 rw[A6 q,hst,zL6]at hinv
 generalize zn7 st=ce at hcall hinv
 refine zA ?_
 simp[go_sem,q,hst,hm]
 by_cases q1:m≠0/\st.kind≠1
 .rw[if_pos q1]at hinv
  have q1a:(m !=0)=true:=by simpa using q1.1
  have q1b:(st.kind !=1)=true:=by simpa using q1.2
  simp[go_sem,q1a,q1b]
  exact zu2 hinv
 rw[if_neg q1]at hinv
 have key:(m !=0)=false∨((m !=0)=true/\(st.kind !=1)=false):=by
  by_cases h:m=0
  .exact .inl (by simpa using h)
  .refine .inr ⟨by simpa using h, ?_⟩
   simp only[bne_eq_false_iff_eq]
   exact Classical.byContradiction fun g=>q1 ⟨h,g⟩
 refine key.elim (fun a1=> ?_) (fun⟨a1,a2⟩=> ?_)
 .simp[go_sem,a1]
  refine zD hcall cB (zR (by simp[go_sem,schR]) rfl) rfl ?_
  by_cases qe:ce=0
  .have qe':(ce !=0)=false:=by simpa using qe
   rw[if_neg (fun h=>h qe)]at hinv
   simp[go_sem,qe',ei]
   exact zI (i+1) ⟨by omega,⟨by omega,hinv⟩,at_n 2 (by simp[go_sem,hL,hm]) rfl (by simp[ltOb,ltC,ltK]) (A3 _) (zG (by simp[go_sem]) rfl)⟩
  .have qe':(ce !=0)=true:=by simpa using qe
   rw[if_pos qe]at hinv
   simp[go_sem,qe']
   exact zu2 hinv
 .simp[go_sem,a1,a2]
  refine zD hcall cB (zR (by simp[go_sem,schR]) rfl) rfl ?_
  by_cases qe:ce=0
  .have qe':(ce !=0)=false:=by simpa using qe
   rw[if_neg (fun h=>h qe)]at hinv
   simp[go_sem,qe',ei]
   exact zI (i+1) ⟨by omega,⟨by omega,hinv⟩,at_n 2 (by simp[go_sem,hL,hm]) rfl (by simp[ltOb,ltC,ltK]) (A3 _) (zG (by simp[go_sem]) rfl)⟩
  .have qe':(ce !=0)=true:=by simpa using qe
   rw[if_pos qe]at hinv
   simp[go_sem,qe']
   exact zu2 hinv
end Go.Proofs.YtkigddpaonhmlaaGreat
