/-
  What a lot needs by the document: plain definitions and facts; used by the theorem at the end of the claim.
  Conditions: as each theorem states them.
-/
import Derived.Test.YtajjjghohakniaaGreatKBR
namespace Go.Proofs.YtajjjghohakniaaGreat
open Go Go.Vx R
set_option maxRecDepth 100000
structure UOk (U:US):Prop where
 asc:(U.map (·.1)).Pairwise (· < ·)
 spans: ∀y∈U,y.2≠ []∧y.2.Nodup∧ ∀x∈y.2,Op.bytesLess x.lo x.hi=true
def Has (U:US) (rng:Int) (x:GSpan):Prop:= ∃y∈U,y.1=rng∧x∈y.2
def zp6 (ps:List (Int×GSpan)) (U:US):US:=ps.foldl (fun U p=>zx4 p.1 p.2 U) U
def rowP (t:Int) (r:List GExpr):List (Int×GSpan):=
 match tabsS[t.toNat]? with
 |none=> []
 |some T=>
  if r.length≤T.key.toNat then []else
  if(evN (r.getD T.key.toNat zeroE)).2≠0∨(evN (r.getD T.key.toNat zeroE)).1.kind=0 then []else
  match regN T r with
  |none=> []
  |some g=>if(yV t g).2≠0 then []else [((yV t g).1,⟨wH 3 t (evN (r.getD T.key.toNat zeroE)).1,wH 3 t (evN (r.getD T.key.toNat zeroE)).1++ [0]⟩)]
theorem xo9 (t:Int) (r:List GExpr) (U:US):rowS t r U=zp6 (rowP t r) U:=by
 unfold rowS rowP
 cases tabsS[t.toNat]? with
 |none=>rfl
 |some T=>
  simp only
  generalize evN (r.getD T.key.toNat zeroE)=kv
  by_cases a:r.length≤T.key.toNat
  ·rw[if_pos a,if_pos a];rfl
  rw[if_neg a,if_neg a]
  by_cases b:kv.2≠0∨kv.1.kind=0
  ·rw[if_pos b,if_pos b];rfl
  rw[if_neg b,if_neg b]
  cases regN T r with
  |none=>rfl
  |some g=>
   simp only
   by_cases d:(yV t g).2≠0
   ·rw[if_pos d,if_pos d];rfl
   ·rw[if_neg d,if_neg d];rfl
def stP (st:GStmt):List (Int×GSpan):=
 if xP st.table<0 then []else if st.kind=2 then st.rows.flatMap (rowP (xP st.table))
 else(xZ (xP st.table) st).map fun rg=>((yV (xP st.table) rg).1,⟨(zc7 tabsS (xP st.table) st).1,(zc7 tabsS (xP st.table) st).2⟩)
theorem yb5 (ps qs:List (Int×GSpan)) (U:US):zp6 (ps++qs) U=zp6 qs (zp6 ps U):=List.foldl_append ..
theorem xc2 (U:US) (st:GStmt):zw2 rowS U st=zp6 (stP st) U:=by
 unfold zw2 stP
 split
 ·rfl
 ·split
  ·have: ∀(rs:List (List GExpr)) (U:US),rs.foldl (fun U r=>rowS (xP st.table) r U) U=zp6 (rs.flatMap (rowP (xP st.table))) U:=by
    intro rs
    induction rs with
    |nil=>intro U;rfl
    |cons r rs ih=>intro U;rw[List.foldl_cons,List.flatMap_cons,yb5,ih,xo9]
   exact this _ _
  ·unfold zp6
   rw[List.foldl_map]
   rfl
theorem zW8: ∀(l:List GStmt) (U:US),l.foldl (zw2 rowS) U=zp6 (l.flatMap stP) U
 | [],_=>rfl
 |x::l,U=>by rw[List.foldl_cons,List.flatMap_cons,yb5,zW8 l,xc2]
end Go.Proofs.YtajjjghohakniaaGreat
namespace Go.Proofs.YtajjjghohakniaaGreat
open Go Go.Vx R
set_option maxRecDepth 100000
theorem xp2 (x y:GSpan):(x.lo==y.lo&&x.hi==y.hi)=(x==y):=by
 rw[Bool.eq_iff_iff]
 obtain⟨a,b⟩:=x;obtain⟨c,d⟩:=y
 simp only[Bool.and_eq_true,beq_iff_eq,GSpan.mk.injEq]
theorem in_w (l:List GSpan) (x:GSpan) (hl:l.length≤maxLen):Pure Tryz.prog 51 [.sl .ro (l.map GSpan.row),.agg x.row] (.bool (l.contains x)):=by
 generalize hM:l.contains x=M
 refine VCalls.introV 0 Tryz.func51 Tryz.ntmps51 Tryz.results51 rfl rfl (Nat.le_of_ble_eq_true rfl) fun c hc hb=> ?_
 refine zC ?_
 simp[go_sem]
 refine zL (S:=Nat) [0,3,5] (fun i=> [.sl .ro (l.map GSpan.row),.ptr 0 0,.int .i64 i]) (fun _=> [.box x.row]) (fun i=>l.length - i) (fun i=>i≤l.length∧(l.drop i).contains x=M) hc hb 0 ⟨Nat.zero_le _,hM⟩ ?_ ?_
 ·exact at_n 1 (by simp[go_sem]) rfl rfl (Nat.zero_le _) (zD (by simp[go_sem]) rfl)
 rintro i ⟨hi,hinv⟩
 by_cases q:i<l.length
 rotate_left
 ·rw[List.drop_of_length_le (by omega)]at hinv
  refine zC ?_
  simp[go_sem,q]
  exact bret hinv
 have ei:=zT q (by unfold maxLen at hl;omega)
 obtain⟨y,hy⟩: ∃y,l[i]=y:=⟨_,rfl⟩
 rw[List.drop_eq_getElem_cons q,hy,List.contains_cons]at hinv
 obtain⟨b,hbb⟩: ∃b,(x==y)=b:=⟨_,rfl⟩
 rw[hbb]at hinv
 have hbx:(y.lo==x.lo&&y.hi==x.hi)=b:=by rw[xp2,←hbb,Bool.beq_comm]
 refine zC ?_
 simp[go_sem,q]
 refine zX [] 1 (by simp) (by kernel_rfl) (by kernel_rfl) ?_
 simp[go_sem,q,hy]
 rw[hbx]
 refine(Bool.eq_false_or_eq_true b).elim (fun w=> ?_) (fun w=> ?_)
 ·rw[w,Bool.true_or]at hinv
  simp[go_sem,w]
  exact bret hinv
 ·rw[w,Bool.false_or]at hinv
  simp[go_sem,w,ei]
  exact zN (i+1) ⟨by omega,⟨q,hinv⟩,at_n 1 (by simp[go_sem]) rfl rfl (Nat.zero_le _) (zD (by simp[go_sem]) rfl)⟩
def ofS4 (st:GStmt):List GCut:=ofF 4000 st
theorem ys6 {st:GStmt} (hs:SOk st):(ofS4 st).length≤4000:=by
 unfold ofS4 ofF
 split
 ·exact Nat.le_trans (zx3 _ _) hs.where_.size
 ·exact Nat.zero_le _
theorem zT3: ∀(n:Nat) (e:GExpr),Good e→ ∀x∈wJ n e,Good x
 |0,e,h,x,hx=>by rw[wJ,List.mem_singleton]at hx;subst hx;exact h
 |n+1,e,h,x,hx=>by
  rw[wJ]at hx
  split at hx
  ·obtain⟨y,hy,hxy⟩:=List.mem_flatMap.1 hx
   exact zT3 n y (h.sub y hy) x hxy
  ·rw[List.mem_singleton]at hx;subst hx;exact h
theorem xn5 {e:GExpr} {c:GCut} (h:c∈zj9 e): ∃a∈e.args,a.v=c.v:=by
 unfold zj9 at h
 split at h
 ·rename_i a b hab
  split at h
  ·cases h
  split at h
  ·rw[List.mem_singleton]at h;subst h;exact⟨b,by rw[hab];simp,rfl⟩
  split at h
  ·rw[List.mem_singleton]at h;subst h;exact⟨a,by rw[hab];simp,rfl⟩
  ·cases h
 ·cases h
theorem xj5 {st:GStmt} (hs:SOk st): ∀c∈ofS4 st,c.v.ok:=fun c hc=>by
 unfold ofS4 ofF at hc
 split at hc
 ·obtain⟨x,hx,hcx⟩:=List.mem_flatMap.1 hc
  obtain⟨a,ha,hv⟩:=xn5 hcx
  have:=(zT3 _ _ hs.where_.good x hx).sub a ha
  rw[←hv];exact this.v
 ·cases hc
theorem yh4 (t:Int) (st:GStmt) (hs:SOk st):Pure Tryz.prog 25 [schR tabsS,.int .i64 t,.agg st.row] (zE7 (zr2 tabsS t (ofS4 st))):=
 yt9 4000 wN tabsS t st (by decide) (by decide) (zr8 4000 _ hs.where_.size) hs.where_.size (by have:=ys6 hs;unfold maxLen;exact Nat.le_trans this (by decide)) (xj5 hs)
theorem zV8 (t:Int) (st:GStmt) (hs:SOk st):Pure Tryz.prog 27 [schR tabsS,.int .i64 t,.agg st.row] (.sl .ro ((zg0 t (ofS4 st)).map yH)):=
 yl6 4000 t st (zr8 4000 _ hs.where_.size) hs.where_.size (by have:=ys6 hs;unfold maxLen;exact Nat.le_trans this (by decide))
theorem zL7 (t:Int) (l:List GCut):(zg0 t l).length≤2:=by
 unfold zg0
 repeat' split
 ·exact List.length_filter_le _ _
 all_goals simp
def zm5 (T:GTable) (t reg:Int) (r:List GExpr):List GSpan:=
 if(evN (r.getD T.key.toNat zeroE)).2≠0∨(evN (r.getD T.key.toNat zeroE)).1.kind=0 then []else
 if T.place=0∧((evN (r.getD 0 zeroE)).2≠0∨(evN (r.getD 0 zeroE)).1.kind≠2∨(evN (r.getD 0 zeroE)).1.n≠reg)then []else
 [⟨wH 3 t (evN (r.getD T.key.toNat zeroE)).1,wH 3 t (evN (r.getD T.key.toNat zeroE)).1++ [0]⟩]
theorem yP0 (T:GTable) (t reg:Int) (r:List GExpr):(zm5 T t reg r).length≤1:=by
 unfold zm5
 repeat' split
 all_goals simp
def zz5 (T:GTable) (t reg:Int) (st:GStmt):List GSpan:=
 if st.kind=2 then st.rows.flatMap (zm5 T t reg)else((zg0 t (ofS4 st)).filter (· ==reg)).map fun _=>⟨(zr2 tabsS t (ofS4 st)).1,(zr2 tabsS t (ofS4 st)).2⟩
set_option maxHeartbeats 4000000 in
theorem xo6 (j:Nat) (T:GTable) (hT:tabsS[j]? =some T) (reg:Int) (st:GStmt) (hs:SOk st) (hr:st.kind=2→ ∀r∈st.rows,r.length=T.cols.length):
  Pure Tryz.prog 50 [schR tabsS,.int .i64 j,.int .i64 reg,.agg st.row] (.sl .ro ((zz5 T j reg st).map GSpan.row)):=by
 obtain⟨hj3,hTx⟩:=List.getElem?_eq_some_iff.1 hT
 have hbo:=yh4 j st hs
 have hre:=zV8 j st hs
 have hrl:=zL7 j (ofS4 st)
 obtain⟨Rs,hR⟩: ∃R,st.rows=R:=⟨_,rfl⟩
 obtain⟨hRl,hRx⟩:=hs.rows
 generalize hM:zz5 T j reg st=M
 unfold zz5 at hM
 rw[hR]at hr hRl hRx hM
 generalize zg0 j (ofS4 st)=G at hre hrl hM
 generalize zr2 tabsS j (ofS4 st)=B at hbo hM
 refine VCalls.introV 0 Tryz.func50 Tryz.ntmps50 Tryz.results50 rfl rfl (Nat.le_of_ble_eq_true rfl) fun c hc hb=> ?_
 refine zC ?_
 simp[go_sem,schR,hj3,hTx]
 by_cases hk:st.kind=2
 rotate_left
 ·have hk':(st.kind !=2)=true:=by simpa using hk
  rw[if_neg hk]at hM
  simp[go_sem,hk']
  refine zE hre Tryz.callB27 (zF (by simp[go_sem,schR]) rfl) rfl ?_
  simp[go_sem]
  refine zj1 9 2 (by decide) (by simp[go_sem]) ?_
  refine zL (S:=Nat×List GSpan) [1,2,4,7,9,11,12] (fun u=> [.int .i64 j,.int .i64 reg,.ptr 0 0,.ptr 1 0,.sl (.app 3) (u.2.map GSpan.row),.sl .ro (G.map yH),.int .i64 (u.1:Int)])
   (fun u=> [.box [.sl .ro wN,.sl .ro (tabsS.map GTable.row)],.box st.row,.box T.row,.app u.2.length 2]) (fun u=>G.length - u.1)
   (fun u=>u.1≤G.length∧u.2.length≤u.1∧u.2++((G.drop u.1).filter (· ==reg)).map (fun _=>(⟨B.1,B.2⟩:GSpan))=M) hc hb (0,[]) ⟨Nat.zero_le _,Nat.le_refl _,hM⟩ ?_ ?_
  ·exact at_n 4 (by simp[go_sem]) rfl (by simp[ltOb,ltC,ltK,GTable.row,GStmt.row]) (Nat.zero_le _) (zD (by simp[go_sem]) rfl)
  rintro⟨i,out⟩ ⟨hi,ho,hinv⟩
  simp only at hi ho hinv
  by_cases q:i<G.length
  rotate_left
  ·rw[List.drop_eq_nil_of_le (by omega)]at hinv
   have hinv:out=M:=by rw[←hinv];simp
   refine zC ?_
   simp[go_sem,q]
   rw[hinv]
   exact zQ zV ⟨rfl,rfl⟩
  have ei:=zT q (by omega)
  obtain⟨g,hg⟩: ∃g,G[i]=g:=⟨_,rfl⟩
  rw[List.drop_eq_getElem_cons q,hg,List.filter_cons]at hinv
  refine zC ?_
  simp[go_sem,q,hg,yH]
  by_cases w:g=reg
  ·have w':(g==reg)=true:=by simpa using w
   rw[if_pos w']at hinv
   simp[go_sem,w']
   refine zE hbo Tryz.callB25 (zF (by simp[go_sem,schR]) rfl) rfl ?_
   simp[go_sem,zE7]
   refine zP ⟨by omega,yT rfl⟩ ?_
   simp[go_sem,ei]
   exact zN (i+1,out++ [⟨B.1,B.2⟩]) ⟨by simp only;omega,⟨by simp only;omega,by simp;omega,by rw[←hinv];simp⟩,at_n 4 (by simp[go_sem]) rfl (by simp[ltOb,ltC,ltK]) (Nat.zero_le _) (zD (by simp[go_sem,GSpan.row]) rfl)⟩
  ·have w':(g==reg)=false:=by simpa using w
   rw[if_neg (by rw[w'];decide)]at hinv
   simp[go_sem,w',ei]
   exact zN (i+1,out) ⟨by simp only;omega,⟨by simp only;omega,by simp only;omega,hinv⟩,at_n 4 (by simp[go_sem]) rfl (by simp[ltOb,ltC,ltK]) (Nat.zero_le _) (zD (by simp[go_sem]) rfl)⟩
 have hk':(st.kind !=2)=false:=by simpa using hk
 rw[if_pos hk]at hM
 have hr:=hr hk
 simp[go_sem,hk']
 obtain⟨hk0,hk1⟩:=(by decide: ∀T∈tabsS,0≤T.key∧T.key<T.cols.length) T (hTx▸List.getElem_mem hj3)
 obtain⟨m,hm⟩: ∃m:Nat,T.key=m:=⟨T.key.toNat,by omega⟩
 have hmc:m<T.cols.length:=by omega
 obtain⟨pl,hpl⟩: ∃pl,T.place=pl:=⟨_,rfl⟩
 refine zj1 9 2 (by decide) (by simp[go_sem]) ?_
 refine zL (S:=Nat×List GSpan) [1,2,4,7,9,10,15] (fun u=> [.int .i64 j,.int .i64 reg,.ptr 0 0,.ptr 1 0,.sl (.app 3) (u.2.map GSpan.row),.ptr 2 0,.int .i64 (u.1:Int)])
  (fun u=> [.box [.sl .ro wN,.sl .ro (tabsS.map GTable.row)],.box st.row,.box T.row,.app u.2.length 2]) (fun u=>Rs.length - u.1)
  (fun u=>u.1≤Rs.length∧u.2.length≤u.1∧u.2++(Rs.drop u.1).flatMap (zm5 T j reg)=M) hc hb (0,[]) ⟨Nat.zero_le _,Nat.le_refl _,hM⟩ ?_ ?_
 ·exact at_n 4 (by simp[go_sem]) rfl (by simp[ltOb,ltC,ltK,GTable.row,GStmt.row]) (Nat.zero_le _) (zD (by simp[go_sem]) rfl)
 rintro⟨i,out⟩ ⟨hi,ho,hinv⟩
 simp only at hi ho hinv
 by_cases q:i<Rs.length
 rotate_left
 ·rw[List.drop_eq_nil_of_le (by omega)]at hinv
  have hinv:out=M:=by rw[←hinv];simp
  refine zC ?_
  simp[go_sem,hR,q]
  rw[hinv]
  exact zQ zV ⟨rfl,rfl⟩
 have ei:=zT q (by omega)
 obtain⟨r,hr'⟩: ∃r,Rs[i]=r:=⟨_,rfl⟩
 have hrm:r∈Rs:=hr'▸List.getElem_mem q
 have hrl:=hr r hrm
 obtain⟨hr12,hrE⟩:=hRx r hrm
 have hmr:m<r.length:=by omega
 have h0r:0<r.length:=by omega
 obtain⟨e,he⟩: ∃e,r[m]=e:=⟨_,rfl⟩
 obtain⟨e0,he0⟩: ∃e0,r[0]=e0:=⟨_,rfl⟩
 have hgm:r.getD T.key.toNat zeroE=e:=by rw[hm,Int.toNat_natCast,List.getD_eq_getElem?_getD,List.getElem?_eq_getElem hmr,he];rfl
 have hg0:r.getD 0 zeroE=e0:=by rw[List.getD_eq_getElem?_getD,List.getElem?_eq_getElem h0r,he0];rfl
 have hcm:=zZ8 e (hrE e (he▸List.getElem_mem hmr))
 have hc0:=zZ8 e0 (hrE e0 (he0▸List.getElem_mem h0r))
 rw[List.drop_eq_getElem_cons q,hr',List.flatMap_cons,←List.append_assoc]at hinv
 obtain⟨sp,hsp⟩: ∃sp,zm5 T j reg r=sp:=⟨_,rfl⟩
 rw[hsp]at hinv
 unfold zm5 at hsp
 rw[hgm,hg0,hpl]at hsp
 have hkm:=fun h=>xe9 (hrE e (he▸List.getElem_mem hmr)) h
 have hbd:(evN e).2=0→Pure Tryz.prog 40 [schR tabsS,.int .i64 j,.agg (evN e).1.row] (.str (wH 3 j (evN e).1)):=fun h=>zS5 wN (tabsS.map GTable.row) j (evN e).1 (by decide) (xc8 (hkm h)).1
 have hbl:(wH 3 j (evN e).1).length≤200:=by
  have:=yd0 (evN e).1
  unfold wH
  split
  ·simp only[List.length_cons];omega
  ·simp
 clear hkm
 generalize wH 3 j (evN e).1=bd at hbd hbl hsp
 generalize evN e=ve at hcm hbd hsp
 generalize evN e0=v0 at hc0 hsp
 have go: ∀(s:List GSpan) e σ,s=sp→s.length≤1→At 0 [1,2,4,7,9,10,15] [.int .i64 j,.int .i64 reg,.ptr 0 0,.ptr 1 0,.sl (.app 3) ((out++s).map GSpan.row),.ptr 2 0,.int .i64 ((i+1:Nat):Int)] [.box [.sl .ro wN,.sl .ro (tabsS.map GTable.row)],.box st.row,.box T.row,.app (out++s).length 2] e σ→
  Vx.Next (fun s':Nat×List GSpan=>Rs.length - s'.1<Rs.length - i∧(s'.1≤Rs.length∧s'.2.length≤s'.1∧s'.2++(Rs.drop s'.1).flatMap (zm5 T j reg)=M)∧At 0 [1,2,4,7,9,10,15] [.int .i64 j,.int .i64 reg,.ptr 0 0,.ptr 1 0,.sl (.app 3) (s'.2.map GSpan.row),.ptr 2 0,.int .i64 (s'.1:Int)] [.box [.sl .ro wN,.sl .ro (tabsS.map GTable.row)],.box st.row,.box T.row,.app s'.2.length 2] e σ) fx:=fun s e σ h1 h2 h3=>
   zN (i+1,out++s) ⟨by simp only;omega,⟨by simp only;omega,by simp only[List.length_append];omega,by simp only;rw[h1];exact hinv⟩,h3⟩
 have done: ∀e σ,[]=sp→At 0 [1,2,4,7,9,10,15] [.int .i64 j,.int .i64 reg,.ptr 0 0,.ptr 1 0,.sl (.app 3) (out.map GSpan.row),.ptr 2 0,.int .i64 ((i+1:Nat):Int)] [.box [.sl .ro wN,.sl .ro (tabsS.map GTable.row)],.box st.row,.box T.row,.app out.length 2] e σ→_:=fun e σ h1 h3=>go [] e σ h1 (Nat.zero_le _) (by rw[List.append_nil];exact h3)
 refine zC ?_
 simp[go_sem,hR,q]
 refine zX [(9,0)] 3 (by simp) (by kernel_rfl) (by kernel_rfl) ?_
 simp[go_sem,q,hr',hm,hmr,he]
 refine zS hcm Tryz.callB104 (fun _=>zF (by simp[go_sem]) (by rw[GExpr.row_eq];rfl)) rfl ?_
 by_cases c1:ve.2=0
 rotate_left
 ·have c1':(ve.2==0)=false:=by simpa using c1
  rw[if_pos (.inl c1)]at hsp
  simp[go_sem,c1',ei]
  exact done _ _ hsp (at_n 4 (by simp[go_sem,hR,hm,hpl]) rfl (by simp[ltOb,ltC,ltK,GTable.row,GStmt.row]) (Nat.zero_le _) (zD (by simp[go_sem]) rfl))
 have c1':(ve.2==0)=true:=by simpa using c1
 by_cases c2:ve.1.kind=0
 ·have c2':(ve.1.kind==0)=true:=by simpa using c2
  rw[if_pos (.inr c2)]at hsp
  simp[go_sem,c1',c2',ei]
  exact done _ _ hsp (at_n 4 (by simp[go_sem,hR,hm,hpl]) rfl (by simp[ltOb,ltC,ltK,GTable.row,GStmt.row]) (Nat.zero_le _) (zD (by simp[go_sem]) rfl))
 have c2':(ve.1.kind==0)=false:=by simpa using c2
 rw[if_neg (fun h=>h.elim (fun g=>g c1) c2)]at hsp
 simp[go_sem,c1',c2',hpl]
 have key:(pl==0)=false∨((pl==0)=true∧((v0.2==0)=false∨((v0.2==0)=true∧((v0.1.kind !=2)=true∨((v0.1.kind !=2)=false∧((v0.1.n !=reg)=true∨(v0.1.n !=reg)=false)))))):=by
  cases (pl==0)<;>cases (v0.2==0)<;>cases (v0.1.kind !=2)<;>cases (v0.1.n !=reg)<;>simp
 have one:(pl==0)=false→ [⟨bd,bd++ [0]⟩]=sp:=fun h=>by
  rw[if_neg (fun g=>by rw[g.1]at h;cases h)]at hsp;exact hsp
 have two:(v0.2==0)=true→(v0.1.kind !=2)=false→(v0.1.n !=reg)=false→ [⟨bd,bd++ [0]⟩]=sp:=fun h1 h2 h3=>by
  have h1:v0.2=0:=by simpa using h1
  have h2:v0.1.kind=2:=by simpa using h2
  have h3:v0.1.n=reg:=by simpa using h3
  rw[if_neg (fun g=>g.2.elim (fun q=>q h1) (fun q=>q.elim (fun q=>q h2) (fun q=>q h3)))]at hsp;exact hsp
 have bad:(pl==0)=true→((v0.2==0)=false∨(v0.1.kind !=2)=true∨(v0.1.n !=reg)=true)→ []=sp:=fun h1 h2=>by
  have h1:pl=0:=by simpa using h1
  have h2:v0.2≠0∨v0.1.kind≠2∨v0.1.n≠reg:=by simpa using h2
  rw[if_pos ⟨h1,h2⟩]at hsp;exact hsp
 have hbd:=hbd c1
 rcases key with d1|⟨d1,d2|⟨d2,d3|⟨d3,d4|d4⟩⟩⟩
 case' inl=>
  have hs1:=one d1
  simp[go_sem,d1]
 rotate_left
 ·have hs0:=bad d1 (.inl d2)
  simp[go_sem,d1,q,hr',h0r,he0]
  refine zE hc0 Tryz.callB104 (zF (by simp[go_sem]) (by rw[GExpr.row_eq];rfl)) rfl ?_
  simp[go_sem,d2,ei]
  exact done _ _ hs0 (at_n 4 (by simp[go_sem,hR,hm,hpl]) rfl (by simp[ltOb,ltC,ltK,GTable.row,GStmt.row]) (Nat.zero_le _) (zD (by simp[go_sem]) rfl))
 ·have hs0:=bad d1 (.inr (.inl d3))
  simp[go_sem,d1,q,hr',h0r,he0]
  refine zE hc0 Tryz.callB104 (zF (by simp[go_sem]) (by rw[GExpr.row_eq];rfl)) rfl ?_
  simp[go_sem,d2,d3,ei]
  exact done _ _ hs0 (at_n 4 (by simp[go_sem,hR,hm,hpl]) rfl (by simp[ltOb,ltC,ltK,GTable.row,GStmt.row]) (Nat.zero_le _) (zD (by simp[go_sem]) rfl))
 ·have hs0:=bad d1 (.inr (.inr d4))
  simp[go_sem,d1,q,hr',h0r,he0]
  refine zE hc0 Tryz.callB104 (zF (by simp[go_sem]) (by rw[GExpr.row_eq];rfl)) rfl ?_
  simp[go_sem,d2,d3,d4,ei]
  exact done _ _ hs0 (at_n 4 (by simp[go_sem,hR,hm,hpl]) rfl (by simp[ltOb,ltC,ltK,GTable.row,GStmt.row]) (Nat.zero_le _) (zD (by simp[go_sem]) rfl))
 case' inr=>
  have hs1:=two d2 d3 d4
  simp[go_sem,d1,q,hr',h0r,he0]
  refine zE hc0 Tryz.callB104 (zF (by simp[go_sem]) (by rw[GExpr.row_eq];rfl)) rfl ?_
  simp[go_sem,d2,d3,d4]
 all_goals
  refine zE hbd Tryz.callB40 (zF (by simp[go_sem,schR]) rfl) rfl ?_
  simp[go_sem]
  refine zP (by omega) ?_
  simp[go_sem]
  refine zP ⟨by omega,yT rfl⟩ ?_
  simp[go_sem,ei]
  exact go [⟨bd,bd++ [0]⟩] _ _ hs1 (Nat.le_refl _) (at_n 4 (by simp[go_sem,hR,hm,hpl]) rfl (by simp[ltOb,ltC,ltK,GTable.row,GStmt.row]) (Nat.zero_le _) (zD (by simp[go_sem,GSpan.row]) rfl))
end Go.Proofs.YtajjjghohakniaaGreat
namespace Go.Proofs.YtajjjghohakniaaGreat
open Go Go.Vx R
set_option maxRecDepth 100000
theorem zl2 {α β:Type} {f g:α→List β}: ∀{l:List α},(∀x∈l,f x=g x)→l.flatMap f=l.flatMap g
 | [],_=>rfl
 |x::l,h=>by rw[List.flatMap_cons,List.flatMap_cons,h x (List.mem_cons_self ..),zl2 fun y hy=>h y (List.mem_cons_of_mem _ hy)]
theorem zO6: ∀(d:Nat) (e:GExpr),yX e≤d→wJ (d+1) e=wJ d e
 |0,e,h=>by have:=ze8 e;omega
 |d+1,e,h=>by
  rw[wJ,wJ]
  by_cases q:zm4 e=true
  ·rw[if_pos q,if_pos q]
   have hde:=wX e
   refine zl2 fun x hx=>zO6 d x ?_
   have:=xQ e.args x hx
   omega
  ·rw[if_neg q,if_neg q]
theorem ys9 {d:Nat} {e:GExpr} (h:yX e≤d) (q:zm4 e=true):wJ d e=e.args.flatMap (wJ d):=by
 match d,h with
 |0,h=>have:=ze8 e;omega
 |d+1,h=>
  rw[wJ,if_pos q]
  have hde:=wX e
  refine zl2 fun x hx=>(zO6 d x ?_).symm
  have:=xQ e.args x hx
  omega
theorem yD6 {d:Nat} {e:GExpr} (q: ¬zm4 e=true):wJ d e= [e]:=by
 cases d with
 |zero=>rfl
 |succ d=>rw[wJ,if_neg q]
theorem yd3: ∀a b:List GExpr,wD (a++b)=wD a+wD b
 | [],b=>by simp[wD]
 |x::a,b=>by
  have:=yd3 a b
  simp only[List.cons_append,wD]at this⊢
  omega
theorem zX5 (d:Nat): ∀(n:Nat) (q l:List GExpr),wD q≤n→(∀e∈q,yX e≤d)→(bfs n q l).Perm (l++q.flatMap (wJ d))
 |0,[],l,_,_=>by rw[bfs];simp
 |0,e::q,l,h,_=>by
  have:=zr6 e
  simp only[wD]at h;omega
 |n+1,[],l,_,_=>by rw[bfs];simp
 |n+1,e::q,l,h,hd=>by
  have hs:zc2 e+wD q≤n+1:=by simpa only[wD]using h
  have hp:=zr6 e
  have hse:=zl4 e
  have hde:=hd e (List.mem_cons_self ..)
  have hdq: ∀x∈q,yX x≤d:=fun x hx=>hd x (List.mem_cons_of_mem _ hx)
  rw[bfs,List.flatMap_cons]
  by_cases w:zm4 e=true
  ·rw[if_pos w]
   have hda: ∀x∈e.args,yX x≤d:=fun x hx=>by
    have h1:=wX e
    have h2:=xQ e.args x hx
    omega
   refine(zX5 d n (q++e.args) l (by rw[yd3];omega) (fun x hx=>(List.mem_append.1 hx).elim (hdq x) (hda x))).trans ?_
   rw[ys9 hde w,List.flatMap_append]
   exact List.Perm.append_left l List.perm_append_comm
  ·rw[if_neg w]
   refine(zX5 d n q (l++ [e]) (by omega) hdq).trans ?_
   rw[yD6 w,List.append_assoc]
theorem yh2 {st:GStmt} (hs:SOk st):(zi5 st).Perm (if st.filtered=true then wJ 4000 st.where_ else []):=by
 unfold zi5
 split
 ·have:=zX5 4000 4096 [st.where_] [] (by have:=hs.where_.size;simp only[wD];omega) (fun e he=>by rw[List.mem_singleton]at he;subst he;exact zr8 4000 _ hs.where_.size)
  simpa using this
 ·exact List.Perm.refl _
theorem yI3 (st:GStmt):ofS4 st=(if st.filtered=true then wJ 4000 st.where_ else []).flatMap zj9:=by
 unfold ofS4 ofF zk7
 split<;>rfl
theorem zO7 {a b:List UInt8} (h:Op.bytesLess a b=true):Op.bytesLess b a=false:=by
 cases q:Op.bytesLess b a with
 |false=>rfl
 |true=>exact absurd (zu5 _ _ _ h q) (by rw[zn5];decide)
theorem yf9 (x y:List UInt8):maxS x y=maxS y x:=by
 unfold maxS
 rcases zx7 x y with h|h|h
 ·rw[if_pos h,if_neg (by rw[zO7 h];decide)]
 ·rw[h]
 ·rw[if_pos h,if_neg (by rw[zO7 h];decide)]
theorem yT9 (x y:List UInt8):minS x y=minS y x:=by
 unfold minS
 rcases zx7 x y with h|h|h
 ·rw[if_pos (.inl h),if_neg (fun g=>g.elim (fun g=>by rw[zO7 h]at g;cases g) (fun g=>by rw[g,zn5]at h;cases h))]
 ·rw[h]
 ·rw[if_neg (fun g=>g.elim (fun g=>by rw[zO7 h]at g;cases g) (fun g=>by rw[g,zn5]at h;cases h)),if_pos (.inl h)]
theorem xk2 (x a b:List UInt8):maxS (maxS x a) b=maxS (maxS x b) a:=by
 by_cases h1:Op.bytesLess x a=true<;>by_cases h2:Op.bytesLess x b=true
 ·rw[show maxS x a=a by unfold maxS;rw[if_pos h1],show maxS x b=b by unfold maxS;rw[if_pos h2]]
  exact yf9 a b
 ·rw[show maxS x a=a by unfold maxS;rw[if_pos h1],show maxS x b=x by unfold maxS;rw[if_neg h2],show maxS x a=a by unfold maxS;rw[if_pos h1]]
  unfold maxS
  rw[if_neg (fun g=>h2 (zu5 _ _ _ h1 g))]
 ·rw[show maxS x a=x by unfold maxS;rw[if_neg h1],show maxS x b=b by unfold maxS;rw[if_pos h2]]
  unfold maxS
  rw[if_neg (fun g=>h1 (zu5 _ _ _ h2 g))]
 ·rw[show maxS x a=x by unfold maxS;rw[if_neg h1],show maxS x b=x by unfold maxS;rw[if_neg h2],show maxS x a=x by unfold maxS;rw[if_neg h1]]
theorem zJ6 {x a:List UInt8} (h:Op.bytesLess x a=true∨x=a):minS x a=x:=by unfold minS;rw[if_pos h]
theorem yk6 {x a:List UInt8} (h: ¬(Op.bytesLess x a=true∨x=a)):minS x a=a∧Op.bytesLess a x=true:=by
 refine⟨by unfold minS;rw[if_neg h], ?_⟩
 rcases zx7 x a with q|q|q
 ·exact absurd (.inl q) h
 ·exact absurd (.inr q) h
 ·exact q
theorem xm4 (x a b:List UInt8):minS (minS x a) b=minS (minS x b) a:=by
 by_cases h1:Op.bytesLess x a=true∨x=a<;>by_cases h2:Op.bytesLess x b=true∨x=b
 ·rw[zJ6 h1,zJ6 h2,zJ6 h1]
 ·obtain⟨e2,l2⟩:=yk6 h2
  rw[zJ6 h1,e2]
  refine(zJ6 ?_).symm
  exact h1.elim (fun g=> .inl (zu5 _ _ _ l2 g)) (fun g=>by rw[g]at l2;exact .inl l2)
 ·obtain⟨e1,l1⟩:=yk6 h1
  rw[zJ6 h2,e1]
  refine zJ6 ?_
  exact h2.elim (fun g=> .inl (zu5 _ _ _ l1 g)) (fun g=>by rw[g]at l1;exact .inl l1)
 ·rw[(yk6 h1).1,(yk6 h2).1]
  exact yT9 a b
def zD9 (n:Nat) (t:Int) (name:List UInt8) (b:List UInt8×List UInt8) (e:GExpr):List UInt8×List UInt8:=match xS e name with|none=>b|some (s,v)=>cutF (wH n t v) s b
def ys4 (n:Nat) (t:Int) (name:List UInt8) (b:List UInt8×List UInt8) (c:GCut):List UInt8×List UInt8:=if c.name=name then cutF (wH n t c.v) c.sign b else b
theorem yD8 (A s:List UInt8): ∃f g:List UInt8→List UInt8,((f=fun x=>x)∨ ∃a,f=fun x=>maxS x a)∧((g=fun x=>x)∨ ∃a,g=fun x=>minS x a)∧ ∀b,cutF A s b=(f b.1,g b.2):=by
 unfold cutF
 by_cases h1:s= [61]
 ·exact⟨_,_,.inr ⟨A,rfl⟩,.inr ⟨A++ [0],rfl⟩,fun b=>by rw[if_pos h1]⟩
 by_cases h2:s= [60]
 ·exact⟨_,_,.inl rfl,.inr ⟨A,rfl⟩,fun b=>by rw[if_neg h1,if_pos h2]⟩
 by_cases h3:s= [60,61]
 ·exact⟨_,_,.inl rfl,.inr ⟨A++ [0],rfl⟩,fun b=>by rw[if_neg h1,if_neg h2,if_pos h3]⟩
 by_cases h4:s= [62]
 ·exact⟨_,_,.inr ⟨A++ [0],rfl⟩,.inl rfl,fun b=>by rw[if_neg h1,if_neg h2,if_neg h3,if_pos h4]⟩
 by_cases h5:s= [62,61]
 ·exact⟨_,_,.inr ⟨A,rfl⟩,.inl rfl,fun b=>by rw[if_neg h1,if_neg h2,if_neg h3,if_neg h4,if_pos h5]⟩
 ·exact⟨_,_,.inl rfl,.inl rfl,fun b=>by rw[if_neg h1,if_neg h2,if_neg h3,if_neg h4,if_neg h5]⟩
theorem zS3 (n:Nat) (t:Int) (name:List UInt8) (e:GExpr): ∃f g:List UInt8→List UInt8,((f=fun x=>x)∨ ∃a,f=fun x=>maxS x a)∧((g=fun x=>x)∨ ∃a,g=fun x=>minS x a)∧ ∀b,zD9 n t name b e=(f b.1,g b.2):=by
 unfold zD9
 cases xS e name with
 |none=>exact⟨_,_,.inl rfl,.inl rfl,fun b=>rfl⟩
 |some p=>exact yD8 _ _
theorem xa7 (n:Nat) (t:Int) (name:List UInt8) (b:List UInt8×List UInt8) (e1 e2:GExpr):zD9 n t name (zD9 n t name b e1) e2=zD9 n t name (zD9 n t name b e2) e1:=by
 obtain⟨f1,g1,hf1,hg1,h1⟩:=zS3 n t name e1
 obtain⟨f2,g2,hf2,hg2,h2⟩:=zS3 n t name e2
 rw[h1,h2,h2,h1]
 simp only[Prod.mk.injEq]
 constructor
 ·rcases hf1 with rfl|⟨a1,rfl⟩<;>rcases hf2 with rfl|⟨a2,rfl⟩<;>first|rfl|exact xk2 _ _ _
 ·rcases hg1 with rfl|⟨a1,rfl⟩<;>rcases hg2 with rfl|⟨a2,rfl⟩<;>first|rfl|exact xm4 _ _ _
theorem yD9 {α β:Type} (f:β→α→β) (hf: ∀b x y,f (f b x) y=f (f b y) x) {l l':List α} (h:l.Perm l'): ∀b,l.foldl f b=l'.foldl f b:=by
 induction h with
 |nil=>intro b;rfl
 |cons x _ ih=>intro b;rw[List.foldl_cons,List.foldl_cons,ih]
 |swap x y l=>intro b;rw[List.foldl_cons,List.foldl_cons,List.foldl_cons,List.foldl_cons,hf]
 |trans _ _ ih1 ih2=>intro b;rw[ih1,ih2]
theorem yE3 {A s:List UInt8} (h:cutOps.contains s=false) (b:List UInt8×List UInt8):cutF A s b=b:=by
 have h: ¬s= [61]∧ ¬s= [60]∧ ¬s= [60,61]∧ ¬s= [62]∧ ¬s= [62,61]:=by simpa[cutOps]using h
 unfold cutF
 rw[if_neg h.1,if_neg h.2.1,if_neg h.2.2.1,if_neg h.2.2.2.1,if_neg h.2.2.2.2]
theorem yv6 {s:List UInt8} (h:cutOps.contains s=false):zI4 s=s:=by
 have h: ¬s= [61]∧ ¬s= [60]∧ ¬s= [60,61]∧ ¬s= [62]∧ ¬s= [62,61]:=by simpa[cutOps]using h
 unfold zI4
 rw[if_neg h.2.1,if_neg h.2.2.1,if_neg h.2.2.2.1,if_neg h.2.2.2.2]
theorem zR9 (e:GExpr) (name:List UInt8):(cutOps.contains e.s=true→xS e name=((zj9 e).find? fun c=>c.name==name).map fun c=>(c.sign,c.v))∧(cutOps.contains e.s=false→zj9 e= []∧ ∀s v,xS e name=some (s,v)→s=e.s):=by
 unfold xS zj9
 constructor
 ·intro hc
  by_cases hk:e.kind=3
  ·have hk':(e.kind==3)=true:=by simpa using hk
   rw[hk']
   split
   ·rename_i a b heq hab
    rw[hab]
    simp only[hk,not_true,hc,false_or,Bool.true_eq_false,if_false]
    by_cases b2:b.kind=2
    ·have nb1: ¬(a.kind=2∧b.kind=1∧ ¬b.v.kind=0):=fun h=>by omega
     rw[if_pos b2,if_neg nb1]
     by_cases w:a.kind=1∧ ¬a.v.kind=0
     ·by_cases nm:b.s=name
      ·rw[if_pos ⟨nm,w.1,w.2⟩,if_pos ⟨b2,w.1,w.2⟩]
       simp[nm]
      ·rw[if_neg (fun h=>nm h.1),if_pos ⟨b2,w.1,w.2⟩]
       have nm':(b.s==name)=false:=by simpa using nm
       simp[nm']
     ·rw[if_neg (fun h=>w ⟨h.2.1,h.2.2⟩),if_neg (fun h=>w ⟨h.2.1,h.2.2⟩)]
      rfl
    ·rw[if_neg b2]
     have nb: ¬(b.kind=2∧a.kind=1∧ ¬a.v.kind=0):=fun h=>b2 h.1
     by_cases w:a.kind=2∧b.kind=1∧ ¬b.v.kind=0
     ·by_cases nm:a.s=name
      ·rw[if_pos ⟨w.1,nm,w.2.1,w.2.2⟩,if_pos w]
       simp[nm]
      ·rw[if_neg (fun h=>nm h.2.1),if_pos w]
       have nm':(a.s==name)=false:=by simpa using nm
       simp[nm']
     ·rw[if_neg (fun h=>w ⟨h.1,h.2.2.1,h.2.2.2⟩),if_neg w,if_neg nb]
      rfl
   ·rename_i h1
    split
    ·rename_i a b hab
     exact absurd hab (h1 a b rfl)
    ·rfl
  ·have hk':(e.kind==3)=false:=by simpa using hk
   rw[hk']
   simp only
   split
   ·rw[if_pos (.inl hk)];rfl
   ·rfl
 ·intro hc
  constructor
  ·split
   ·rw[if_pos (.inr hc)]
   ·rfl
  ·intro s v h
   split at h
   ·split at h
    ·split at h
     ·cases h;exact yv6 hc
     ·cases h
    ·split at h
     ·cases h;rfl
     ·cases h
   ·cases h
theorem yO9 {β:Type} (f:β→GCut→β) (name:List UInt8) (e:GExpr) (b:β) (hf: ∀b c,¬c.name=name→f b c=b):(zj9 e).foldl f b=match (zj9 e).find? fun c=>c.name==name with|none=>b|some c=>f b c:=by
 have hl:=zG1 e
 match zj9 e,hl with
 | [],_=>rfl
 | [c],_=>
  by_cases h:c.name=name
  ·have h':(c.name==name)=true:=by simpa using h
   simp[h']
  ·have h':(c.name==name)=false:=by simpa using h
   simp[h',hf b c h]
theorem xl9 (n:Nat) (t:Int) (name:List UInt8) (e:GExpr) (b:List UInt8×List UInt8):(zj9 e).foldl (ys4 n t name) b=zD9 n t name b e:=by
 obtain⟨h1,h2⟩:=zR9 e name
 by_cases hc:cutOps.contains e.s=true
 ·rw[yO9 (ys4 n t name) name e b (fun b c h=>by unfold ys4;rw[if_neg h])]
  unfold zD9
  rw[h1 hc]
  cases hf:(zj9 e).find? fun c=>c.name==name with
  |none=>rfl
  |some c=>
   have hn:c.name=name:=by have:=List.find?_some hf;simpa using this
   simp only[Option.map_some]
   unfold ys4
   rw[if_pos hn]
 ·have hc:cutOps.contains e.s=false:=by simpa using hc
  obtain⟨h3,h4⟩:=h2 hc
  rw[h3]
  unfold zD9
  cases ha:xS e name with
  |none=>rfl
  |some p=>
   obtain⟨s,v⟩:=p
   simp only
   rw[h4 s v ha,yE3 hc]
   rfl
theorem zD3 {α β γ:Type} (f:γ→β→γ) (g:α→List β): ∀(l:List α) (b:γ),(l.flatMap g).foldl f b=l.foldl (fun b a=>(g a).foldl f b) b
 | [],_=>rfl
 |x::l,b=>by rw[List.flatMap_cons,List.foldl_append,List.foldl_cons,zD3 f g l]
theorem xl4 (n:Nat) (t:Int) (name:List UInt8) {st:GStmt} (hs:SOk st) (b:List UInt8×List UInt8):zC8 n t name (ofS4 st) b=zI0 n t name (zi5 st) b:=by
 have h1:zI0 n t name (zi5 st) b=(zi5 st).foldl (zD9 n t name) b:=rfl
 have h2:zC8 n t name (ofS4 st) b=(ofS4 st).foldl (ys4 n t name) b:=rfl
 rw[h1,h2,yD9 (zD9 n t name) (fun b x y=>xa7 n t name b x y) (yh2 hs),yI3,zD3]
 congr 1
 funext b e
 exact xl9 n t name e b
theorem yf4 {st:GStmt} (hs:SOk st) (t:Int):zr2 tabsS t (ofS4 st)=zc7 tabsS t st:=by
 unfold zr2 zc7
 split
 ·cases (tabsS[t.toNat]?).bind zq6 with
  |none=>rfl
  |some name=>
   simp only
   rw[xl4 _ _ _ hs,yf9]
 ·rfl
def okP (r:Int) (e:GExpr):Bool:=match xS e [82]with|none=>true|some (s,v)=> !(s== [61]&&(v.kind==2&& !(v.n==r)))
theorem yM3: ∀(l:List GExpr) (rs:List Int),cutR l rs=rs.filter fun r=>l.all (okP r)
 | [],rs=>(List.filter_eq_self.2 fun _ _=>rfl).symm
 |e::l,rs=>by
  have ih:=yM3 l
  have h:cutR (e::l) rs=cutR l (match xS e [82]with|none=>rs|some (s,v)=>if s= [61]∧v.kind=2 then zg2 v.n rs else rs):=rfl
  rw[h,ih]
  have h2:(match xS e [82]with|none=>rs|some (s,v)=>if s= [61]∧v.kind=2 then zg2 v.n rs else rs)=rs.filter (okP · e):=by
   unfold okP
   cases xS e [82]with
   |none=>exact(List.filter_eq_self.2 fun _ _=>rfl).symm
   |some p=>
    obtain⟨s,v⟩:=p
    simp only
    by_cases q:s= [61]∧v.kind=2
    ·rw[if_pos q]
     unfold zg2
     refine List.filter_congr fun r _=> ?_
     rw[q.1,q.2]
     by_cases w:r=v.n
     ·subst w;simp
     ·have w1:(r==v.n)=false:=by simpa using w
      have w2:(v.n==r)=false:=by simpa using fun h=>w h.symm
      rw[w1,w2];rfl
    ·rw[if_neg q]
     refine(List.filter_eq_self.2 fun r _=> ?_).symm
     by_cases q1:s= [61]
     ·have q2:(v.kind==2)=false:=by simpa using fun h=>q ⟨q1,h⟩
      rw[q2];simp
     ·have q1':(s== [61])=false:=by simpa using q1
      rw[q1'];rfl
  rw[h2,List.filter_filter]
  refine List.filter_congr fun r _=> ?_
  rw[List.all_cons,Bool.and_comm]
theorem yQ2 (e:GExpr) (r:Int):((zj9 e).all fun c=> !(c.name== [82]&&(c.sign== [61]&&(c.v.kind==2&& !(c.v.n==r)))))=okP r e:=by
 obtain⟨h1,h2⟩:=zR9 e [82]
 unfold okP
 by_cases hc:cutOps.contains e.s=true
 ·rw[h1 hc]
  have hl:=zG1 e
  match zj9 e,hl with
  | [],_=>rfl
  | [c],_=>
   by_cases h:c.name= [82]
   ·have h':(c.name== [82])=true:=by simpa using h
    simp[h']
   ·have h':(c.name== [82])=false:=by simpa using h
    simp[h']
 ·have hc:cutOps.contains e.s=false:=by simpa using hc
  obtain⟨h3,h4⟩:=h2 hc
  rw[h3]
  cases ha:xS e [82]with
  |none=>rfl
  |some p=>
   obtain⟨s,v⟩:=p
   simp only
   rw[h4 s v ha]
   have:(e.s== [61])=false:=by
    have h: ¬e.s= [61]∧ ¬e.s= [60]∧ ¬e.s= [60,61]∧ ¬e.s= [62]∧ ¬e.s= [62,61]:=by simpa[cutOps]using hc
    simpa using h.1
   rw[this];rfl
theorem yY6 {α:Type} (p:α→Bool) {l l':List α} (h:l.Perm l'):l.all p=l'.all p:=by
 rw[Bool.eq_iff_iff,List.all_eq_true,List.all_eq_true]
 exact⟨fun g x hx=>g x (h.mem_iff.2 hx),fun g x hx=>g x (h.mem_iff.1 hx)⟩
theorem zK5 {α β:Type} (p:β→Bool) (g:α→List β): ∀l:List α,(l.flatMap g).all p=l.all fun a=>(g a).all p
 | []=>rfl
 |x::l=>by rw[List.flatMap_cons,List.all_append,List.all_cons,zK5 p g l]
theorem zX1 {st:GStmt} (hs:SOk st) (t:Int):zg0 t (ofS4 st)=xZ t st:=by
 unfold zg0 xZ
 split
 ·rw[yM3]
  refine List.filter_congr fun r _=> ?_
  rw[yY6 _ (yh2 hs)]
  unfold zM0
  rw[yI3,zK5]
  congr 1
  funext e
  exact yQ2 e r
 ·rfl
end Go.Proofs.YtajjjghohakniaaGreat
namespace Go.Proofs.YtajjjghohakniaaGreat
open Go Go.Vx R
set_option maxRecDepth 100000
def zv7 (sp:List GSpan) (x:GSpan):List GSpan:=if Op.bytesLess x.lo x.hi=true∧sp.contains x=false then sp++ [x]else sp
def zk0 (t:Int):GTable:=tabsS.getD t.toNat tabT
def stSp (tb reg:Int) (sp:List GSpan) (st:GStmt):List GSpan:=if xP st.table≠tb then sp else(zz5 (zk0 tb) tb reg st).foldl zv7 sp
def zB6 (tb reg:Int) (L:List GStmt):List GSpan:=L.foldl (stSp tb reg) []
def placesS:List (Int×Int):= [(0,0),(0,1),(1,-1),(2,1)]
def zr7:List (Int×Int)→Int→List GStmt→US
 | [],_,_=> []
 |p::ps,r,L=>(if(zB6 p.1 p.2 L).isEmpty=true then []else [(r,zB6 p.1 p.2 L)])++zr7 ps (r+1) L
def zr4 (l:GLot):US:=if(zu6 l).2≠0 then []else zr7 placesS 0 l.stmts
theorem zZ0 (T:GTable) (t reg:Int): ∀rs:List (List GExpr),(rs.flatMap (zm5 T t reg)).length≤rs.length
 | []=>Nat.le_refl _
 |r::rs=>by
  have h1:=yP0 T t reg r
  have h2:=zZ0 T t reg rs
  rw[List.flatMap_cons,List.length_append,List.length_cons];omega
theorem yA5 {T:GTable} {t reg:Int} {st:GStmt} (hs:SOk st):(zz5 T t reg st).length≤20:=by
 unfold zz5
 split
 ·have h1:=zZ0 T t reg st.rows
  have h2:=hs.rows.1
  omega
 ·rw[List.length_map]
  have h1:=List.length_filter_le (· ==reg) (zg0 t (ofS4 st))
  have h2:=zL7 t (ofS4 st)
  omega
theorem zW3 (l:List GSpan):xO (l.map GSpan.row)=true:=by simp[xO,GSpan.row,zi6]
theorem zT5 (l:List GSpan):za4 (l.map GSpan.row) 0 l.length=l.map GSpan.row:=by
 unfold za4
 rw[List.drop_zero,List.take_of_length_le (by simp),List.map_map]
 exact List.map_congr_left fun c _=>rfl
end Go.Proofs.YtajjjghohakniaaGreat
