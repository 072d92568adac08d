/-
  Which lots may be, by the document, over trees (the library Vx); used by the theorem at the end of the claim.
  Conditions: as each theorem states them.
-/
import Derived.Test.YtajjjghohakniaaGreatLBJ
import Derived.Test.YtajjjghohakniaaGreatLAS
import Derived.Test.YtajjjghohakniaaGreatLBH
namespace Go.Proofs.YtajjjghohakniaaGreat
open Go Go.Vx R
set_option maxRecDepth 100000
theorem xe0 (id off s:Nat) (cells:List V) {P:Program} {c:Ctx} {nt:Nat} {e:Env} {σ:St} {Q:QT} {y:Code} (h0:0<s) (hσ:σ[id]? =some (.box cells)) (hc:cells[off]? =some (.sl .full []))
  (hy:wVW P c nt y Q fx fx e (σ.set id (.box (cells.set off (.lsv σ.length s 0 0 0)))++ [.lst [] s])):wVW P c nt y Q fx fx e σ:=by
 intro a w L β hs
 obtain⟨x,h1,h2⟩:=yG9 hs.mem h0 hσ hc
 exact hy a w L (β++ [x]) ⟨h1,hs.size,hs.defs,fun k=>(hs.env k).mono (Le.refl _ _) h2⟩
abbrev US:=List (Int×List GSpan)
def Bd (n:Nat) (U:US):Prop:=U.length≤n∧ ∀y∈U,y.2.length≤n
theorem Bd.need {n:Nat} {U:US} (h:Bd n U) (r:Int) (x:GSpan):Bd (n+1) (zt8 r x U):=by
 have up:Bd (n+1) U:=⟨by have:=h.1;omega,fun y hy=>by have:=h.2 y hy;omega⟩
 unfold zt8
 split
 ·exact up
 ·unfold addF
  split
  ·refine⟨by rw[List.length_modify];exact up.1,fun y hy=> ?_⟩
   obtain⟨j,hj⟩:=List.mem_iff_getElem?.1 hy
   rw[List.getElem?_modify]at hj
   split at hj
   ·rw[Option.map_eq_map,Option.map_eq_some_iff]at hj
    obtain⟨z,hz,rfl⟩:=hj
    have hzl:=h.2 z (List.mem_of_getElem? hz)
    simp only
    split
    ·omega
    ·simp;omega
   ·simp at hj
    exact up.2 y (List.mem_of_getElem? hj)
  ·refine⟨by have:=h.1;simp;omega,fun y hy=> ?_⟩
   rcases List.mem_append.1 hy with hy|hy
   ·exact up.2 y (List.mem_of_mem_take hy)
   ·rcases List.mem_cons.1 hy with rfl|hy
    ·simp
    ·exact up.2 y (List.mem_of_mem_drop hy)
def zE6 (t:Int) (b:List UInt8×List UInt8) (U:US) (rg:Int):US:=zt8 (zb8 t rg).1 ⟨b.1,b.2⟩ U
def wA (name:List UInt8):Int:=xO (fun T:GTable=>T.name==name) tabsS 0
def zu2 (rowF:Int→List GExpr→US→US) (U:US) (st:GStmt):US:=
 if wA st.table<0 then U else if st.kind=2 then st.rows.foldl (fun U r=>rowF (wA st.table) r U) U
 else(zc6 (wA st.table) st).foldl (zE6 (wA st.table) (zg7 tabsS (wA st.table) st)) U
def cntF (st:GStmt):Nat:=if st.kind=2 then st.rows.length else 2
theorem yg6: ∀(n:Nat) (q l:List GExpr),(bfs n q l).length≤l.length+n
 |0,_,_=>Nat.le_refl _
 |n+1,[],l=>by rw[bfs];omega
 |n+1,e::q,l=>by
  rw[bfs]
  split
  ·have:=yg6 n (q++e.args) l;omega
  ·have:=yg6 n q (l++ [e]);simp at this;omega
theorem yb4 (st:GStmt):(zj4 st).length≤4096:=by
 unfold zj4
 split
 ·have:=yg6 4096 [st.where_] [];simpa using this
 ·simp
theorem zC2 (name:List UInt8):wA name= -1∨wA name=0∨wA name=1∨wA name=2:=by
 have h:=zV2 (fun T:GTable=>T.name==name) tabsS 0
 have hl:tabsS.length=3:=rfl
 rw[hl]at h
 unfold wA
 omega
theorem yn5: ∀(l:List GExpr) (rs:List Int) (r:Int),r∈cutR l rs→r∈rs
 | [],_,_,h=>h
 |e::l,rs,r,h=>by
  have h1:cutR (e::l) rs=cutR l (match xS e [82]with|none=>rs|some (s,v)=>if s= [61]∧v.kind=2 then zg0 v.n rs else rs):=rfl
  rw[h1]at h
  have:=yn5 l _ r h
  split at this
  ·exact this
  ·split at this
   ·exact(List.mem_filter.1 this).1
   ·exact this
theorem yj3 {t:Int} {st:GStmt} {r:Int} (h:r∈zc6 t st):r= -1∨r=0∨r=1:=by
 unfold zc6 at h
 split at h
 ·have:=yn5 _ _ _ h;simp at this;omega
 ·split at h
  ·simp at h;omega
  ·split at h
   ·simp at h;omega
   ·simp at h
theorem zK6 (t:Int) (st:GStmt):(zc6 t st).length≤2:=by
 unfold zc6
 split
 ·exact yn4 _ _
 ·split
  ·simp
  ·split<;>simp
def VOk (st:GStmt):Prop:= ∀e∈zj4 st,∀name s v,xS e name=some (s,v)→v.ok
theorem xv4 {b:List V} {rows:List (List V)} {A:List Nat} {τ:St} {h:0<(gS b rows A++τ).length}:(gS b rows A++τ)[0]'h= .box b:=rfl
theorem zV4 {b:List V} {rows:List (List V)} {A:List Nat} {x:Ob} {τ:St}:(gS b rows A++x::τ).take (A.length+3)=gS b rows A++ [x]:=by
 have e:(gS b rows A++ [x]).length=A.length+3:=by rw[List.length_append,yC];rfl
 rw[show gS b rows A++x::τ=(gS b rows A++ [x])++τ by simp,←e,List.take_left]
theorem zk8 (N:List (Int×List GSpan×Nat)) (A:List Nat):(nSt N A).length=A.length+2:=yC
theorem zu8 {N:List (Int×List GSpan×Nat)} {A:List Nat} (h:NOk N A):(nSt N A).all (ltOb (nSt N A).length)=true:=by rw[zk8];exact yc5 N A h
theorem yr0 {N:List (Int×List GSpan×Nat)} {A:List Nat} (h:NOk N A):(nSt N A++ [.box [.sl .ro zf3,.sl .ro (tabsS.map GTable.row)]]:St).all (ltOb (A.length+3))=true:=by
 rw[List.all_append,Bool.and_eq_true]
 refine⟨?_,by simp[ltOb,ltC,ltK]⟩
 have:=yc5 N A h
 rw[List.all_eq_true]at this⊢
 exact fun o ho=>yN5 (by omega) (this o ho)
theorem yI8:([.box [.sl .ro zf3,.sl .ro (tabsS.map GTable.row)]]:St).all (ltOb 0)=true:=by simp[ltOb,ltC,ltK]
def RowC (rowF:Int→List GExpr→US→US) (st:GStmt):Prop:= ∀r∈st.rows,∀N A,NOk N A→Bd 1000 (uOf N)→
 VCalls Tryz.prog 33 [.ptr 0 0,schR tabsS,.int .i64 (wA st.table),.sl .ro (r.map GExpr.row)] (nSt N A) (fun x s=>x= .tup []∧ ∃N' A',s=nSt N' A'∧NOk N' A'∧uOf N'=rowF (wA st.table) r (uOf N))
theorem xd2 {n:Nat} {N:List (Int×List GSpan×Nat)} (h:Bd n (uOf N)):N.length≤n∧ ∀y∈N,y.2.1.length≤n:=by
 unfold Bd uOf at h
 refine⟨by simpa using h.1,fun y hy=> ?_⟩
 have:=h.2 (y.1,y.2.1) (List.mem_map.2 ⟨y,hy,rfl⟩)
 exact this
set_option maxHeartbeats 2000000 in
theorem yD0 (rowF:Int→List GExpr→US→US) (hrowB: ∀t r n U,Bd n U→Bd (n+1) (rowF t r U)) (l:GLot) (hl:l.stmts.length≤maxLen) (hv: ∀st∈l.stmts,VOk st) (hcnt:(l.stmts.map cntF).sum≤900) (hrl: ∀st∈l.stmts,st.rows.length≤maxLen) (hrow: ∀st∈l.stmts,st.kind=2→wA st.table≠ -1→RowC rowF st):
  Pure Tryz.prog 15 [schR tabsS,.agg l.row] (.sl .ro ((l.stmts.foldl (zu2 rowF) []).map uRow)):=by
 obtain⟨L,hL⟩: ∃L,l.stmts=L:=⟨_,rfl⟩
 rw[hL]at hl hv hcnt hrl hrow⊢
 generalize hM:L.foldl (zu2 rowF) []=M
 refine VCalls.introV 0 Tryz.func15 Tryz.ntmps15 Tryz.results15 rfl rfl (Nat.le_of_ble_eq_true rfl) fun c hc hb=> ?_
 refine zC ?_
 simp[go_sem,schR,hL]
 refine xe0 2 0 2 [.sl .full []] (by decide) (by simp[go_sem]) (by simp) ?_
 refine zN (S:=Nat×List (Int×List GSpan×Nat)×List Nat) [2,5,20,21,22] (fun u=> [.ptr (u.2.2.length+2) 0,.ptr 0 0,.sl .ro (L.map GStmt.row),.int .i64 L.length,.int .i64 u.1])
  (fun u=>nSt u.2.1 u.2.2++ [.box [.sl .ro zf3,.sl .ro (tabsS.map GTable.row)]]) (fun u=>L.length - u.1)
  (fun u=>u.1≤L.length∧NOk u.2.1 u.2.2∧(L.drop u.1).foldl (zu2 rowF) (uOf u.2.1)=M∧ ∃n,Bd n (uOf u.2.1)∧n+((L.drop u.1).map cntF).sum≤900) hc hb (0,[],[])
  ⟨Nat.zero_le _,⟨fun x hx=>by simp at hx,List.nodup_nil,List.Pairwise.nil⟩,hM,0,⟨Nat.le_refl _,fun y hy=>by simp[uOf]at hy⟩,by simpa using hcnt⟩ ?_ ?_
 ·exact zw7 [2,3,0] (by decide) rfl ⟨by simp[go_sem,yF,renC,renK,ren],by simp[go_sem,yF],by simp[go_sem,yF,renC,renK],trivial⟩ ⟨.inl (by simp[go_sem,renS,renA,renC,renK,ren]),.inl (by simp[go_sem,renS,renA,renC,renK,ren]),zW,zA rfl,zA rfl,trivial⟩
 rintro⟨i,N,A⟩ ⟨hi,hok,hinv,n,hbd,hn⟩
 simp only at hi hok hinv hbd hn
 by_cases q:i<L.length
 rotate_left
 ·rw[List.drop_eq_nil_of_le (by omega)]at hinv
  have hNM:uOf N=M:=hinv
  refine zC ?_
  unfold nSt
  simp[go_sem,q,xv4]
  refine yu7 1 2 (N.map nRow) yh2 (yY4 N) ?_
  simp only[frzS,frzA,frzC,frzK,List.length_map,Nat.zero_add,Nat.le_refl,and_self,if_true,yE2,hNM]
  exact zQ zW ⟨rfl,rfl⟩
 have ei:=zU q (by unfold maxLen at hl;omega)
 obtain⟨st,hst⟩: ∃st,L[i]=st:=⟨_,rfl⟩
 have hstm:st∈L:=hst▸List.getElem_mem q
 rw[List.drop_eq_getElem_cons q,hst]at hinv hn
 rw[List.map_cons,List.sum_cons]at hn
 rw[List.foldl_cons]at hinv
 have hfi:=yR8 tabsS st.table (by decide)
 rw[show xO (fun t:GTable=>t.name==st.table) tabsS 0=wA st.table from rfl]at hfi
 obtain⟨t,ht⟩: ∃t,wA st.table=t:=⟨_,rfl⟩
 have htc:=zC2 st.table
 rw[ht]at hfi htc
 refine zC ?_
 unfold nSt
 simp[go_sem,q,hst,yC]
 refine zD hfi Tryz.callB32 (zI (by simp[go_sem,schR]) rfl) rfl ?_
 by_cases htn:t= -1
 ·have hF:zu2 rowF (uOf N) st=uOf N:=by unfold zu2;rw[ht,if_pos (by omega)]
  rw[hF]at hinv
  subst htn
  simp[go_sem,ei]
  refine zP (i+1,N,A) ⟨by simp only;omega,⟨by simp only;omega,hok,hinv,n,hbd,by simp only;omega⟩, ?_⟩
  exact at_n (A.length+3) zV4 (by simp[yC]) (yr0 hok) (Nat.zero_le _) (zE (by simp[go_sem]) (by simp[ltS,ltA,ltC,ltK]))
 have ht0: ¬t<0:=by omega
 have htl:decide (t<0)=false:=decide_eq_false ht0
 by_cases hk:st.kind=2
 ·have hk':(st.kind==2)=true:=by simpa using hk
  simp[go_sem,htl,hk',yC]
  have hrc:=hrow st hstm hk (by rw[ht];exact htn)
  have hrs:=hrl st hstm
  have hcn:cntF st=st.rows.length:=by unfold cntF;rw[if_pos hk]
  rw[hcn]at hn
  have hF:zu2 rowF (uOf N) st=st.rows.foldl (fun U r=>rowF t r U) (uOf N):=by unfold zu2;rw[ht,if_neg ht0,if_pos hk]
  rw[hF]at hinv
  obtain⟨U2,hU2⟩: ∃U2,st.rows.foldl (fun U r=>rowF t r U) (uOf N)=U2:=⟨_,rfl⟩
  rw[hU2]at hinv
  refine zN (S:=Nat×List (Int×List GSpan×Nat)×List Nat) [2,5,8,20,21,22,68,69,70] (fun u=> [.ptr (u.2.2.length+2) 0,.ptr 0 0,.int .i64 t,.sl .ro (L.map GStmt.row),.int .i64 L.length,.int .i64 i,.sl .ro (st.rows.map fun l=> [V.sl .ro (l.map GExpr.row)]),.int .i64 st.rows.length,.int .i64 u.1])
   (fun u=>nSt u.2.1 u.2.2++ [.box [.sl .ro zf3,.sl .ro (tabsS.map GTable.row)]]) (fun u=>st.rows.length - u.1)
   (fun u=>u.1≤st.rows.length∧NOk u.2.1 u.2.2∧(st.rows.drop u.1).foldl (fun U r=>rowF t r U) (uOf u.2.1)=U2∧ ∃m,Bd m (uOf u.2.1)∧m+(st.rows.length - u.1)+((L.drop (i+1)).map cntF).sum≤900) hc hb (0,N,A)
   ⟨Nat.zero_le _,hok,hU2,n,hbd,by simp only;omega⟩ ?_ ?_
  ·exact at_n (A.length+3) zV4 (by simp[zk8]) (yr0 hok) (Nat.zero_le _) (zE (by simp[go_sem]) (by simp[ltS,ltA,ltC,ltK]))
  rintro⟨j,N1,A1⟩ ⟨hj,hok1,hinv1,m,hbd1,hm⟩
  simp only at hj hok1 hinv1 hbd1 hm
  by_cases qj:j<st.rows.length
  rotate_left
  ·rw[List.drop_eq_nil_of_le (by omega)]at hinv1
   have hNU:uOf N1=U2:=hinv1
   refine zC ?_
   simp[go_sem,qj,ei]
   refine zP (i+1,N1,A1) ⟨by simp only;omega,⟨by simp only;omega,hok1,by rw[hNU];exact hinv,m,hbd1,by simp only;omega⟩, ?_⟩
   exact at_n (A1.length+3) (by rw[List.take_of_length_le (by simp[zk8])];rfl) (by simp[yC]) (yr0 hok1) (Nat.zero_le _) (zE (by simp[go_sem]) (by simp[ltS,ltA,ltC,ltK]))
  have ej:=zU qj (by unfold maxLen at hrs;omega)
  obtain⟨r,hr⟩: ∃r,st.rows[j]=r:=⟨_,rfl⟩
  have hrm:r∈st.rows:=hr▸List.getElem_mem qj
  rw[List.drop_eq_getElem_cons qj,hr,List.foldl_cons]at hinv1
  have hcall:=hrc r hrm N1 A1 hok1 ⟨by have:=hbd1.1;omega,fun y hy=>by have:=hbd1.2 y hy;omega⟩
  rw[ht]at hcall
  refine zC ?_
  unfold nSt
  simp[go_sem,qj,hr,yC]
  refine zF1 hcall Tryz.callB33 (zu8 hok1) yI8 ⟨zm4 (n:=(nSt N1 A1).length) (by simp[ltS,ltA,ltC,ltK,zk8]),zA rfl,zA rfl,zW,trivial⟩ (fun r s h=>by
   obtain⟨rfl,N2,A2,rfl,h2,_⟩:=h
   exact⟨rfl,zu8 h2⟩) ?_
  rintro r s ⟨rfl,N2,A2,rfl,hok2,hu2⟩ hle σ' pick hF2
  simp[go_sem,ej]
  refine zP (j+1,N2,A2) ⟨by simp only;omega,⟨by simp only;omega,hok2,by simp only;rw[hu2];exact hinv1,m+1,by simp only;rw[hu2];exact hrowB _ _ _ _ hbd1,by simp only;omega⟩, ?_⟩
  refine ym0 hF2 ⟨.inl ?_,.inl ?_,zA rfl,zW,zA rfl,zA rfl,zW,zA rfl,.inl (by simp[go_sem]),trivial⟩
  ·have:=hF2.ren2 (M:=σ'.length) (i:=0) (by simp)
   rw[zk8,yC]at this
   simp[go_sem,renS,renA,renC,renK]at this⊢
   exact this.symm
  ·have:=hF2.ren1 (M:=σ'.length) (i:=0) (by rw[yC];omega)
   simp[go_sem,renS,renA,renC,renK,this]
 have hk':(st.kind==2)=false:=by simpa using hk
 have hcn:cntF st=2:=by unfold cntF;rw[if_neg hk]
 rw[hcn]at hn
 have hbo:=yR6 zf3 tabsS t st (by decide) (fun T hT=>by rw[show tabsS= [tabT,tabG,tabH] from rfl]at hT;simp at hT;rcases hT with rfl|rfl|rfl<;>decide) (by have:=yb4 st;unfold maxLen;omega) (hv st hstm)
 have hre:=yK5 t st (by have:=yb4 st;unfold maxLen;omega)
 obtain⟨b,hb0⟩: ∃b,zg7 tabsS t st=b:=⟨_,rfl⟩
 obtain⟨rs,hrs⟩: ∃rs,zc6 t st=rs:=⟨_,rfl⟩
 rw[hb0]at hbo
 have hrsl:=zK6 t st
 have hrsm:=fun r=>yj3 (t:=t) (st:=st) (r:=r)
 rw[hrs]at hre hrsl hrsm
 have hF:zu2 rowF (uOf N) st=rs.foldl (zE6 t b) (uOf N):=by unfold zu2;rw[ht,if_neg ht0,if_neg hk,hrs,hb0]
 rw[hF]at hinv
 obtain⟨U2,hU2⟩: ∃U2,rs.foldl (zE6 t b) (uOf N)=U2:=⟨_,rfl⟩
 rw[hU2]at hinv
 simp[go_sem,htl,hk',yC]
 refine zD hbo Tryz.callB24 (zI (by simp[go_sem]) rfl) rfl ?_
 simp[go_sem,xa4,yC]
 refine zD hre Tryz.callB26 (zI (by simp[go_sem,schR]) rfl) rfl ?_
 simp[go_sem]
 refine zN (S:=Nat×List (Int×List GSpan×Nat)×List Nat) [2,5,8,11,12,20,21,22,40,41,42] (fun u=> [.ptr (u.2.2.length+2) 0,.ptr 0 0,.int .i64 t,.str b.1,.str b.2,.sl .ro (L.map GStmt.row),.int .i64 L.length,.int .i64 i,.sl .ro (rs.map yS),.int .i64 rs.length,.int .i64 u.1])
  (fun u=>nSt u.2.1 u.2.2++ [.box [.sl .ro zf3,.sl .ro (tabsS.map GTable.row)]]) (fun u=>rs.length - u.1)
  (fun u=>u.1≤rs.length∧NOk u.2.1 u.2.2∧(rs.drop u.1).foldl (zE6 t b) (uOf u.2.1)=U2∧ ∃m,Bd m (uOf u.2.1)∧m+(rs.length - u.1)+((L.drop (i+1)).map cntF).sum≤900) hc hb (0,N,A)
  ⟨Nat.zero_le _,hok,hU2,n,hbd,by simp only;omega⟩ ?_ ?_
 ·exact at_n (A.length+3) zV4 (by simp[zk8]) (yr0 hok) (Nat.zero_le _) (zE (by simp[go_sem]) (by simp[ltS,ltA,ltC,ltK]))
 rintro⟨j,N1,A1⟩ ⟨hj,hok1,hinv1,m,hbd1,hm⟩
 simp only at hj hok1 hinv1 hbd1 hm
 by_cases qj:j<rs.length
 rotate_left
 ·rw[List.drop_eq_nil_of_le (by omega)]at hinv1
  have hNU:uOf N1=U2:=hinv1
  refine zC ?_
  simp[go_sem,qj,ei]
  refine zP (i+1,N1,A1) ⟨by simp only;omega,⟨by simp only;omega,hok1,by rw[hNU];exact hinv,m,hbd1,by simp only;omega⟩, ?_⟩
  exact at_n (A1.length+3) (by rw[List.take_of_length_le (by simp[zk8])];rfl) (by simp[yC]) (yr0 hok1) (Nat.zero_le _) (zE (by simp[go_sem]) (by simp[ltS,ltA,ltC,ltK]))
 have ej:=zU qj (by omega)
 obtain⟨r,hr⟩: ∃r,rs[j]=r:=⟨_,rfl⟩
 have hrm:=hrsm r (hr▸List.getElem_mem qj)
 rw[List.drop_eq_getElem_cons qj,hr,List.foldl_cons]at hinv1
 have hrg:=zT6 t r (by omega) (by omega)
 have hbd1':=xd2 hbd1
 have hcall:=yy5 N1 A1 hok1 (zb8 t r).1 ⟨b.1,b.2⟩ (by omega) (fun y hy=>by have:=hbd1'.2 y hy;omega)
 obtain⟨⟨g,ge⟩,hg⟩: ∃g,zb8 t r=g:=⟨_,rfl⟩
 have hun:zE6 t b (uOf N1) r=zt8 g ⟨b.1,b.2⟩ (uOf N1):=by unfold zE6;rw[hg]
 rw[hg]at hrg hcall
 rw[hun]at hinv1
 refine zC ?_
 unfold nSt
 simp[go_sem,qj,hr,yC]
 refine zD hrg Tryz.callB34 (zI (by simp[go_sem,schR]) rfl) rfl ?_
 simp[go_sem,zy2]
 refine zF1 hcall Tryz.callB35 (zu8 hok1) yI8 ⟨zm4 (n:=(nSt N1 A1).length) (by simp[ltS,ltA,ltC,ltK,zk8]),zA rfl,zA rfl,trivial⟩ (fun r s h=>by
  obtain⟨rfl,N2,A2,rfl,h2,_⟩:=h
  exact⟨rfl,zu8 h2⟩) ?_
 rintro r' s ⟨rfl,N2,A2,rfl,hok2,hu2⟩ hle σ' pick hF2
 simp[go_sem,ej]
 refine zP (j+1,N2,A2) ⟨by simp only;omega,⟨by simp only;omega,hok2,by simp only;rw[hu2];exact hinv1,m+1,by simp only;rw[hu2];exact hbd1.need _ _,by simp only;omega⟩, ?_⟩
 refine ym0 hF2 ⟨.inl ?_,.inl ?_,zA rfl,zA rfl,zA rfl,zW,zA rfl,zA rfl,zW,zA rfl,.inl (by simp[go_sem]),trivial⟩
 ·have:=hF2.ren2 (M:=σ'.length) (i:=0) (by simp)
  rw[zk8,yC]at this
  simp[go_sem,renS,renA,renC,renK]at this⊢
  exact this.symm
 ·have:=hF2.ren1 (M:=σ'.length) (i:=0) (by rw[yC];omega)
  simp[go_sem,renS,renA,renC,renK,this]
end Go.Proofs.YtajjjghohakniaaGreat
namespace Go.Proofs.YtajjjghohakniaaGreat
open Go Go.Vx R
set_option maxRecDepth 100000
def tab00:GTable:=⟨[],[],0,0,0,⟨[],[],[],0,0,0⟩⟩
def zM4:List GCol→List GExpr→Int
 |c::cs,e::es=>if zv6 tab00 e c.kind≠0 then zv6 tab00 e c.kind else zM4 cs es
 |_,_=>0
def zO2 (T:GTable) (r:List GExpr):Int:=if r.length≠T.cols.length then 9 else zM4 T.cols r
def ye6 (T:GTable):List (List GExpr)→Int
 | []=>0
 |r::l=>if zO2 T r≠0 then zO2 T r else ye6 T l
theorem xp5 {ρ:Nat→Nat} {g1 g2 g3 g4:Tag}:argS ρ (.agg tab00.row) (.agg [.str [],.sl g1 [],.int .i64 0,.int .i64 0,.int .i64 0,.sl g2 [],.sl g3 [],.sl g4 [],.int .i64 0,.int .i64 0,.int .i64 0]):=
 zn0 ⟨zZ rfl,wD,zZ rfl,zZ rfl,zZ rfl,wD,wD,wD,zZ rfl,zZ rfl,zZ rfl,trivial⟩
theorem yl8 {ρ:Nat→Nat} (e:GExpr):argS ρ (.agg e.row) (.agg [.int .i64 e.kind,.str e.s,.int .i64 e.v.kind,.int .i64 e.v.n,.str e.v.s,.sl .ro (e.args.map GExpr.row)]):=by rw[GExpr.row_eq];exact zA rfl
theorem st_T (T:GTable) (st:GStmt) (n:Nat):([.box T.row,.box st.row]:St).all (ltOb n)=true:=by simp[ltOb,ltC,ltK,GTable.row,GStmt.row]
set_option maxHeartbeats 2000000 in
theorem yM6 (T:GTable) (_hT:T.cols.length≤1000) (st:GStmt) (hs:SOk st):Pure Tryz.prog 76 [.agg T.row,.agg st.row] (.int .i64 (ye6 T st.rows)):=by
 obtain⟨R,hR⟩: ∃R,st.rows=R:=⟨_,rfl⟩
 obtain⟨hRl,hRx⟩:=hs.rows
 rw[hR]at hRl hRx
 rw[hR]
 generalize hM:ye6 T R=M
 refine VCalls.introV 0 Tryz.func76 Tryz.ntmps76 Tryz.results76 rfl rfl (Nat.le_of_ble_eq_true rfl) fun c hc hb=> ?_
 refine zC ?_
 simp[go_sem,hR]
 refine zN (S:=Nat) [2,3,11,12,13] (fun i=> [.ptr 0 0,.ptr 1 0,.sl .ro (R.map fun r=> [V.sl .ro (r.map GExpr.row)]),.int .i64 R.length,.int .i64 (i:Int)]) (fun _=> [.box T.row,.box st.row]) (fun i=>R.length - i)
  (fun i=>i≤R.length∧ye6 T (R.drop i)=M) hc hb 0 ⟨Nat.zero_le _,hM⟩ ?_ ?_
 ·exact at_n 2 (by simp[go_sem,hR]) rfl (st_T T st 2) (Nat.zero_le _) (zE (by simp[go_sem]) rfl)
 rintro i ⟨hi,hinv⟩
 by_cases q:i<R.length
 rotate_left
 ·rw[List.drop_eq_nil_of_le (by omega)]at hinv
  refine zC ?_
  simp[go_sem,q]
  exact iret hinv
 have ei:=zU q (by omega)
 obtain⟨r,hr⟩: ∃r,R[i]=r:=⟨_,rfl⟩
 obtain⟨hrl,hrx⟩:=hRx r (hr▸List.getElem_mem q)
 rw[List.drop_eq_getElem_cons q,hr,ye6]at hinv
 by_cases q2:r.length=T.cols.length
 rotate_left
 ·have q2':((r.length:Int) !=T.cols.length)=true:=by simp;omega
  have hrc:zO2 T r=9:=by unfold zO2;rw[if_pos q2]
  rw[hrc,if_pos (by decide)]at hinv
  refine zC ?_
  simp[go_sem,q,hr,q2']
  exact iret hinv
 have q2':((r.length:Int) !=T.cols.length)=false:=by simp;omega
 have hrc:zO2 T r=zM4 T.cols r:=by unfold zO2;rw[if_neg (fun h=>h q2)]
 rw[hrc]at hinv
 obtain⟨C,hC⟩: ∃C,zM4 T.cols r=C:=⟨_,rfl⟩
 rw[hC]at hinv
 refine zC ?_
 simp[go_sem,q,hr,q2']
 refine zN (S:=Nat) [2,3,11,12,13,23,24,25] (fun k=> [.ptr 0 0,.ptr 1 0,.sl .ro (R.map fun r=> [V.sl .ro (r.map GExpr.row)]),.int .i64 R.length,.int .i64 (i:Int),.sl .ro (r.map GExpr.row),.int .i64 r.length,.int .i64 (k:Int)]) (fun _=> [.box T.row,.box st.row]) (fun k=>r.length - k)
  (fun k=>k≤r.length∧zM4 (T.cols.drop k) (r.drop k)=C) hc hb 0 ⟨Nat.zero_le _,hC⟩ ?_ ?_
 ·exact at_n 2 (by simp[go_sem,hR]) rfl (st_T T st 2) (Nat.zero_le _) (zE (by simp[go_sem]) rfl)
 rintro k ⟨hk,hcv⟩
 by_cases qk:k<r.length
 rotate_left
 ·rw[List.drop_eq_nil_of_le (by omega),List.drop_eq_nil_of_le (by omega)]at hcv
  have hcv:C=0:=hcv.symm
  rw[if_neg (fun h=>h hcv)]at hinv
  refine zC ?_
  simp[go_sem,qk,ei]
  exact zP (i+1) ⟨by omega,⟨by omega,hinv⟩,at_n 2 (by simp[go_sem]) rfl (st_T T st 2) (Nat.zero_le _) (zE (by simp[go_sem]) rfl)⟩
 have ek:=zU qk (by omega)
 have qc:k<T.cols.length:=by omega
 obtain⟨e,he⟩: ∃e,r[k]=e:=⟨_,rfl⟩
 obtain⟨c1,hc1⟩: ∃c1,T.cols[k]=c1:=⟨_,rfl⟩
 have hE:=hrx e (he▸List.getElem_mem qk)
 rw[List.drop_eq_getElem_cons qk,List.drop_eq_getElem_cons qc,he,hc1,zM4]at hcv
 have hcall:=zS2 tab00 (by decide) e hE c1.kind
 generalize zv6 tab00 e c1.kind=kc at hcall hcv
 refine zC ?_
 simp[go_sem,qk,he]
 refine xC [(8,0)] 3 (by simp) (by kernel_rfl) (by kernel_rfl) ?_
 simp[go_sem,qc,hc1]
 refine zT hcall Tryz.callB126 (fun _=>⟨xp5,yl8 e,zA rfl,trivial⟩) rfl ?_
 simp[go_sem]
 by_cases qe:kc=0
 ·have qe':(kc !=0)=false:=by simpa using qe
  rw[if_neg (fun h=>h qe)]at hcv
  simp[go_sem,qe',ek]
  exact zP (k+1) ⟨by omega,⟨by omega,hcv⟩,at_n 2 (by simp[go_sem]) rfl (st_T T st 2) (Nat.zero_le _) (zE (by simp[go_sem]) rfl)⟩
 ·have qe':(kc !=0)=true:=by simpa using qe
  rw[if_pos qe]at hcv
  rw[if_pos (by rw[←hcv];exact qe)]at hinv
  simp[go_sem,qe']
  exact iret (hcv.trans hinv)
def zL3 (T:GTable):List GAssign→List GAssign→Int
 |_,[]=>0
 |p,x::l=>
  if colF T x.name<0 then 14
  else if colF T x.name=T.key∨(colF T x.name=0∧T.place=0)then 18
  else if(p.any fun y=>y.name==x.name)=true then 9
  else if zv6 T x.e (colK T (colF T x.name))≠0 then zv6 T x.e (colK T (colF T x.name))
  else zL3 T (p++ [x]) l
theorem st_x (x:GAssign):ltOb 0 (.box x.row)=true:=by simp[ltOb,ltC,ltK,GAssign.row]
theorem yA6 (x y:GAssign):VCalls Tryz.prog 129 [.agg y.row,.ptr 0 0] [.box x.row] (fun r σ=>r= .bool (y.name==x.name)∧σ= [.box x.row]):=by
 refine VCalls.intro 1 Tryz.func129 Tryz.ntmps129 Tryz.results129 rfl rfl (Nat.le_of_ble_eq_true rfl) fun c hc hb=>zJ ?_
 simp[go_sem]
 exact zm3 1 rfl rfl (by simp[ltOb,ltC,ltK]) (Nat.le_refl _) (zA rfl) ⟨rfl,rfl⟩
theorem xr4 (x:GAssign) (l:List GAssign) (hl:l.length≤12):VCalls Tryz.prog 176 [.sl .ro (l.map GAssign.row),.fn 129 [.ptr 0 0]] [.box x.row] (fun r σ=>r= .int .i64 (ze9 (fun y=>y.name==x.name) l 0)∧σ= [.box x.row]):=by
 generalize hM:ze9 (fun y:GAssign=>y.name==x.name) l 0=M
 have ret: ∀(r:Int) (σ:St),r=M→wret (some (.int .i64 r)) 1 (fun r s=>r= .int .i64 M∧s= [.box x.row]) (.box x.row::σ):=fun r σ h=>by subst h;exact zm3 1 rfl rfl (by simp[ltOb,ltC,ltK,GAssign.row]) (Nat.le_refl _) (zA rfl) ⟨rfl,rfl⟩
 refine VCalls.introV 1 Tryz.func176 Tryz.ntmps176 Tryz.results176 rfl rfl (Nat.le_of_ble_eq_true rfl) fun c hc hb=> ?_
 refine zC ?_
 simp[go_sem]
 refine zN (S:=Nat) [0,1,6,7,8] (fun i=> [.sl .ro (l.map GAssign.row),.fn 129 [.ptr 0 0],.sl .ro (l.map GAssign.row),.int .i64 l.length,.int .i64 (i:Int)]) (fun _=> [.box x.row]) (fun i=>l.length - i)
  (fun i=>i≤l.length∧ze9 (fun y=>y.name==x.name) (l.drop i) i=M) hc hb 0 ⟨Nat.zero_le _,hM⟩ ?_ ?_
 ·exact at_n 1 (by simp[go_sem]) rfl (by simp[ltOb,ltC,ltK,GAssign.row]) (Nat.le_refl _) (zE (by simp[go_sem]) rfl)
 rintro i ⟨hi,hinv⟩
 by_cases q:i<l.length
 rotate_left
 ·rw[List.drop_eq_nil_of_le (by omega)]at hinv
  refine zC ?_
  simp[go_sem,q]
  exact ret _ _ hinv
 have ei:=zU q (by omega)
 obtain⟨y,hy⟩: ∃y,l[i]=y:=⟨_,rfl⟩
 rw[List.drop_eq_getElem_cons q,hy,ze9]at hinv
 have hcall:=yA6 x y
 generalize (y.name==x.name)=b at hcall hinv
 refine zC ?_
 simp[go_sem,q,hy]
 refine zm1 0 hcall Tryz.callB129 rfl (st_x x) ⟨zA rfl,.inl rfl,trivial⟩ (fun r σ h=>⟨_,h.2,st_x x⟩) ?_
 rintro r o2 ⟨rfl,h2⟩
 obtain rfl:o2= .box x.row:=by simpa using h2
 refine(Bool.eq_false_or_eq_true b).elim (fun p=> ?_) (fun p=> ?_)
 ·rw[if_pos p]at hinv
  simp[go_sem,p]
  exact ret _ _ hinv
 ·rw[if_neg (by rw[p];decide)]at hinv
  simp[go_sem,p,ei]
  exact zP (i+1) ⟨by omega,⟨by omega,hinv⟩,at_n 1 (by simp[go_sem]) rfl (by simp[ltOb,ltC,ltK]) (Nat.le_refl _) (zE (by simp[go_sem]) rfl)⟩
theorem xr0 (x:GAssign) (l:List GAssign) (hl:l.length≤12):VCalls Tryz.prog 128 [.sl .ro (l.map GAssign.row),.fn 129 [.ptr 0 0]] [.box x.row] (fun r σ=>r= .bool (l.any fun y=>y.name==x.name)∧σ= [.box x.row]):=by
 have h:=xr4 x l hl
 have hg:=zE0 (fun y:GAssign=>y.name==x.name) l 0
 rw[←hg]
 generalize ze9 (fun y:GAssign=>y.name==x.name) l 0=n at h⊢
 refine VCalls.intro 1 Tryz.func128 Tryz.ntmps128 Tryz.results128 rfl rfl (Nat.le_of_ble_eq_true rfl) fun c hc hb=>zJ ?_
 simp[go_sem]
 refine zm1 0 h Tryz.callB176 rfl (st_x x) ⟨zA rfl,.inl (by simp[renS,renA,renC,renK,ren]),trivial⟩ (fun r σ h=>⟨_,h.2,st_x x⟩) ?_
 rintro r o2 ⟨rfl,h2⟩
 obtain rfl:o2= .box x.row:=by simpa using h2
 simp[go_sem]
 exact zm3 1 rfl rfl (by simp[ltOb,ltC,ltK]) (Nat.le_refl _) (zA rfl) ⟨rfl,rfl⟩
end Go.Proofs.YtajjjghohakniaaGreat
namespace Go.Proofs.YtajjjghohakniaaGreat
open Go Go.Vx R
set_option maxRecDepth 100000
set_option maxHeartbeats 4000000 in
theorem xl5 (T:GTable) (hT:T.cols.length≤1000) (st:GStmt) (hs:SOk st):Pure Tryz.prog 77 [.agg T.row,.agg st.row] (.int .i64 (zL3 T [] st.sets)):=by
 obtain⟨L,hL⟩: ∃L,st.sets=L:=⟨_,rfl⟩
 obtain⟨hLl,hLx⟩:=hs.sets
 rw[hL]at hLl hLx
 rw[hL]
 generalize hM:zL3 T [] L=M
 refine VCalls.introV 0 Tryz.func77 Tryz.ntmps77 Tryz.results77 rfl rfl (Nat.le_of_ble_eq_true rfl) fun c hc hb=> ?_
 refine zC ?_
 simp[go_sem,hL]
 refine zN (S:=Nat) [2,3,10,11,12] (fun i=> [.ptr 0 0,.ptr 1 0,.sl .ro (L.map GAssign.row),.int .i64 L.length,.int .i64 (i:Int)]) (fun _=> [.box T.row,.box st.row]) (fun i=>L.length - i)
  (fun i=>i≤L.length∧zL3 T (L.take i) (L.drop i)=M) hc hb 0 ⟨Nat.zero_le _,hM⟩ ?_ ?_
 ·exact at_n 2 (by simp[go_sem,hL]) rfl (st_T T st 2) (Nat.zero_le _) (zE (by simp[go_sem]) rfl)
 rintro i ⟨hi,hinv⟩
 by_cases q:i<L.length
 rotate_left
 ·rw[List.drop_eq_nil_of_le (by omega),zL3]at hinv
  refine zC ?_
  simp[go_sem,q]
  exact iret hinv
 have ei:=zU q (by omega)
 obtain⟨x,hx⟩: ∃x,L[i]=x:=⟨_,rfl⟩
 obtain⟨hxn,hE⟩:=hLx x (hx▸List.getElem_mem q)
 have hcol:=yC8 T x.name (by unfold maxLen;omega)
 rw[show xO (fun c:GCol=>c.name==x.name) T.cols 0=colF T x.name from rfl]at hcol
 have hhas:=xr0 x (L.take i) (by simp;omega)
 have htk:L.take (i+1)=L.take i++ [x]:=by rw[List.take_add_one,List.getElem?_eq_getElem q,hx];rfl
 rw[List.drop_eq_getElem_cons q,hx,zL3,←htk]at hinv
 generalize ((L.take i).any fun y=>y.name==x.name)=b at hhas hinv
 by_cases qc:colF T x.name<0
 ·have qc':decide (colF T x.name<0)=true:=decide_eq_true qc
  rw[if_pos qc]at hinv
  refine zC ?_
  simp[go_sem,q,hx]
  refine zD hcol Tryz.callB127 (zI (by simp[go_sem]) rfl) rfl ?_
  simp[go_sem,qc']
  exact iret hinv
 have qc':decide (colF T x.name<0)=false:=decide_eq_false qc
 rw[if_neg qc]at hinv
 obtain⟨j,hj,hjl⟩:=zr0 T x.name qc
 obtain⟨C,hC⟩: ∃C,T.cols[j]=C:=⟨_,rfl⟩
 have hck:colK T (colF T x.name)=C.kind:=by
  unfold colK
  rw[hj,Int.toNat_natCast,List.getElem?_eq_getElem hjl,hC];rfl
 rw[hck]at hinv
 have hcall:=zS2 T (by unfold maxLen;omega) x.e hE C.kind
 generalize zv6 T x.e C.kind=kc at hcall hinv
 rw[hj]at hcol hinv qc'
 by_cases qk:(j:Int)=T.key∨((j:Int)=0∧T.place=0)
 ·rw[if_pos qk]at hinv
  refine zC ?_
  simp[go_sem,q,hx]
  refine zD hcol Tryz.callB127 (zI (by simp[go_sem]) rfl) rfl ?_
  simp[go_sem,qc']
  by_cases k1:(j:Int)=T.key
  ·have k1':((j:Int)==T.key)=true:=by simpa using k1
   simp[go_sem,k1']
   exact iret hinv
  ·have k1':((j:Int)==T.key)=false:=by simpa using k1
   obtain⟨k2,k3⟩:=qk.resolve_left k1
   have k2':((j:Int)==0)=true:=by simpa using k2
   have k3':(T.place==0)=true:=by simpa using k3
   simp[go_sem,k1',k2',k3']
   exact iret hinv
 rw[if_neg qk]at hinv
 have k1':((j:Int)==T.key)=false:=by simpa using fun h=>qk (.inl h)
 have key:((j:Int)==0)=false∨(((j:Int)==0)=true∧(T.place==0)=false):=by
  by_cases k2:(j:Int)=0
  ·exact .inr ⟨by simpa using k2,by simpa using fun h=>qk (.inr ⟨k2,h⟩)⟩
  ·exact .inl (by simpa using k2)
 refine key.elim (fun k2'=> ?_) (fun⟨k2',k3'⟩=> ?_)
 ·refine zC ?_
  simp[go_sem,q,hx]
  refine zD hcol Tryz.callB127 (zI (by simp[go_sem]) rfl) rfl ?_
  simp[go_sem,qc',k1',k2',hL]
  refine zO ⟨hi,zS7 fun _=>rfl⟩ ?_
  simp[go_sem,←List.map_take]
  refine zm1 2 hhas Tryz.callB128 rfl (st_x x) ⟨zW,.inl (by simp[renS,renA,renC,renK,ren]),trivial⟩ (fun r σ h=>⟨_,h.2,st_x x⟩) ?_
  rintro r o2 ⟨rfl,h2⟩
  obtain rfl:o2= .box x.row:=by simpa using h2
  refine(Bool.eq_false_or_eq_true b).elim (fun p=> ?_) (fun p=> ?_)
  ·rw[if_pos p]at hinv
   simp[go_sem,p]
   exact iret hinv
  rw[if_neg (by rw[p];decide)]at hinv
  simp[go_sem,p]
  refine xC [(9,0)] 3 (by simp) (by kernel_rfl) (by kernel_rfl) ?_
  simp[go_sem,hjl,hC]
  refine zT hcall Tryz.callB126 (fun _=>⟨zA rfl,yl8 x.e,zA rfl,trivial⟩) rfl ?_
  simp[go_sem]
  by_cases qe:kc=0
  ·have qe':(kc !=0)=false:=by simpa using qe
   rw[if_neg (fun h=>h qe)]at hinv
   simp[go_sem,qe',ei]
   exact zP (i+1) ⟨by omega,⟨by omega,hinv⟩,at_n 2 (by simp[go_sem,hL]) rfl (st_T T st 2) (Nat.zero_le _) (zE (by simp[go_sem]) rfl)⟩
  ·have qe':(kc !=0)=true:=by simpa using qe
   rw[if_pos qe]at hinv
   simp[go_sem,qe']
   exact iret hinv
 ·refine zC ?_
  simp[go_sem,q,hx]
  refine zD hcol Tryz.callB127 (zI (by simp[go_sem]) rfl) rfl ?_
  simp[go_sem,qc',k1',k2',k3',hL]
  refine zO ⟨hi,zS7 fun _=>rfl⟩ ?_
  simp[go_sem,←List.map_take]
  refine zm1 2 hhas Tryz.callB128 rfl (st_x x) ⟨zW,.inl (by simp[renS,renA,renC,renK,ren]),trivial⟩ (fun r σ h=>⟨_,h.2,st_x x⟩) ?_
  rintro r o2 ⟨rfl,h2⟩
  obtain rfl:o2= .box x.row:=by simpa using h2
  refine(Bool.eq_false_or_eq_true b).elim (fun p=> ?_) (fun p=> ?_)
  ·rw[if_pos p]at hinv
   simp[go_sem,p]
   exact iret hinv
  rw[if_neg (by rw[p];decide)]at hinv
  simp[go_sem,p]
  refine xC [(9,0)] 3 (by simp) (by kernel_rfl) (by kernel_rfl) ?_
  simp[go_sem,hjl,hC]
  refine zT hcall Tryz.callB126 (fun _=>⟨zA rfl,yl8 x.e,zA rfl,trivial⟩) rfl ?_
  simp[go_sem]
  by_cases qe:kc=0
  ·have qe':(kc !=0)=false:=by simpa using qe
   rw[if_neg (fun h=>h qe)]at hinv
   simp[go_sem,qe',ei]
   exact zP (i+1) ⟨by omega,⟨by omega,hinv⟩,at_n 2 (by simp[go_sem,hL]) rfl (st_T T st 2) (Nat.zero_le _) (zE (by simp[go_sem]) rfl)⟩
  ·have qe':(kc !=0)=true:=by simpa using qe
   rw[if_pos qe]at hinv
   simp[go_sem,qe']
   exact iret hinv
def zx0 (st:GStmt):Int:=
 match tabsS[(wA st.table).toNat]? with
 |none=>14
 |some T=>if wA st.table<0 then 14 else if st.kind=1 then zR8 T st else if st.kind=2 then ye6 T st.rows else if st.kind=3 then(if zL3 T [] st.sets≠0 then zL3 T [] st.sets else zC7 T st)else zC7 T st
set_option maxHeartbeats 1000000 in
theorem yT9 (st:GStmt) (hs:SOk st):Pure Tryz.prog 31 [schR tabsS,.agg st.row] (.int .i64 (zx0 st)):=by
 have hfi:=yR8 tabsS st.table (by decide)
 rw[show xO (fun t:GTable=>t.name==st.table) tabsS 0=wA st.table from rfl]at hfi
 generalize hM:zx0 st=M
 unfold zx0 at hM
 have htc:=zC2 st.table
 generalize wA st.table=t at hfi htc hM
 refine VCalls.intro 0 Tryz.func31 Tryz.ntmps31 Tryz.results31 rfl rfl (Nat.le_of_ble_eq_true rfl) fun c hc hb=>zJ ?_
 simp[go_sem,schR]
 refine zD hfi Tryz.callB32 (zI (by simp[go_sem,schR]) rfl) rfl ?_
 simp[go_sem]
 by_cases htn:t= -1
 ·have hM:14=M:=by rw[←hM,htn];rfl
  subst htn
  simp[go_sem]
  exact iret hM
 have ht0: ¬t<0:=by omega
 have ht0':decide (t<0)=false:=decide_eq_false ht0
 obtain⟨j,rfl⟩: ∃j:Nat,t=j:=⟨t.toNat,by omega⟩
 have hj3:j<tabsS.length:=by show j<3;omega
 obtain⟨T,hT⟩: ∃T,tabsS[j]=T:=⟨_,rfl⟩
 have hTc:T.cols.length≤1000:=by
  rw[←hT]
  match j,hj3 with
  |0,_=>exact(by decide:tabT.cols.length≤1000)
  |1,_=>exact(by decide:tabG.cols.length≤1000)
  |2,_=>exact(by decide:tabH.cols.length≤1000)
 simp only[Int.toNat_natCast,List.getElem?_eq_getElem hj3,hT]at hM
 rw[if_neg ht0]at hM
 have h1:=yU0 T (by unfold maxLen;omega) st hs
 have h2:=yM6 T hTc st hs
 have h3:=xl5 T hTc st hs
 have h4:=yu5 T (by unfold maxLen;omega) st hs
 simp[go_sem,ht0',hj3,hT]
 by_cases k1:st.kind=1
 ·have k1':(st.kind==1)=true:=by simpa using k1
  rw[if_pos k1]at hM
  simp[go_sem,k1']
  refine zD h1 Tryz.callB75 (zI (by simp[go_sem]) rfl) rfl ?_
  simp[go_sem]
  exact iret hM
 have k1':(st.kind==1)=false:=by simpa using k1
 rw[if_neg k1]at hM
 by_cases k2:st.kind=2
 ·have k2':(st.kind==2)=true:=by simpa using k2
  rw[if_pos k2]at hM
  simp[go_sem,k1',k2']
  refine zD h2 Tryz.callB76 (zI (by simp[go_sem]) rfl) rfl ?_
  simp[go_sem]
  exact iret hM
 have k2':(st.kind==2)=false:=by simpa using k2
 rw[if_neg k2]at hM
 by_cases k3:st.kind=3
 ·have k3':(st.kind==3)=true:=by simpa using k3
  rw[if_pos k3]at hM
  generalize zL3 T [] st.sets=sc at h3 hM
  simp[go_sem,k1',k2',k3']
  refine zD h3 Tryz.callB77 (zI (by simp[go_sem]) rfl) rfl ?_
  by_cases qe:sc=0
  ·have qe':(sc !=0)=false:=by simpa using qe
   rw[if_neg (fun h=>h qe)]at hM
   simp[go_sem,qe']
   refine zD h4 Tryz.callB78 (zI (by simp[go_sem]) rfl) rfl ?_
   simp[go_sem]
   exact iret hM
  ·have qe':(sc !=0)=true:=by simpa using qe
   rw[if_pos qe]at hM
   simp[go_sem,qe']
   exact iret hM
 have k3':(st.kind==3)=false:=by simpa using k3
 rw[if_neg k3]at hM
 simp[go_sem,k1',k2',k3']
 refine zD h4 Tryz.callB78 (zI (by simp[go_sem]) rfl) rfl ?_
 simp[go_sem]
 exact iret hM
def zH2 (mode:Int):List GStmt→Nat→Int×Int
 | [],_=>(0,0)
 |x::l,i=>if mode≠0∧x.kind≠1 then((i:Int),1)else if zx0 x≠0 then((i:Int),zx0 x)else zH2 mode l (i+1)
def zG6 (l:GLot):Int×Int:=if mayL l=true then zH2 l.mode l.stmts 0 else(0,9)
set_option maxHeartbeats 1000000 in
theorem zB7 (l:GLot) (hl:LOk l):Pure Tryz.prog 13 [schR tabsS,.agg l.row] (yN (zG6 l)):=by
 have hmay:=yR3 l hl
 obtain⟨L,hL⟩: ∃L,l.stmts=L:=⟨_,rfl⟩
 obtain⟨hLl,hLs⟩:=hl.stmts
 rw[hL]at hLl hLs
 obtain⟨m,hm⟩: ∃m,l.mode=m:=⟨_,rfl⟩
 generalize hM:zG6 l=M
 unfold zG6 at hM
 rw[hL,hm]at hM
 generalize mayL l=b at hmay hM
 refine VCalls.introV 0 Tryz.func13 Tryz.ntmps13 Tryz.results13 rfl rfl (Nat.le_of_ble_eq_true rfl) fun c hc hb=> ?_
 refine zC ?_
 simp[go_sem,schR]
 refine zD hmay Tryz.callB30 (zI (by simp[go_sem]) rfl) rfl ?_
 refine(Bool.eq_false_or_eq_true b).elim (fun p=> ?_) (fun p=> ?_)
 rotate_left
 ·rw[if_neg (by rw[p];decide)]at hM
  simp[go_sem,p]
  exact zd7 hM
 rw[if_pos p]at hM
 simp[go_sem,p,hL]
 refine zN (S:=Nat) [2,3,13,14,15] (fun i=> [.ptr 0 0,.ptr 1 0,.sl .ro (L.map GStmt.row),.int .i64 L.length,.int .i64 (i:Int)]) (fun _=> [.box [.sl .ro zf3,.sl .ro (tabsS.map GTable.row)],.box l.row]) (fun i=>L.length - i)
  (fun i=>i≤L.length∧zH2 m (L.drop i) i=M) hc hb 0 ⟨Nat.zero_le _,hM⟩ ?_ ?_
 ·exact at_n 2 (by simp[go_sem,hL]) rfl (by simp[ltOb,ltC,ltK,GLot.row]) (Nat.zero_le _) (zE (by simp[go_sem]) rfl)
 rintro i ⟨hi,hinv⟩
 by_cases q:i<L.length
 rotate_left
 ·rw[List.drop_eq_nil_of_le (by omega),zH2]at hinv
  refine zC ?_
  simp[go_sem,q]
  exact zd7 hinv
 have ei:=zU q (by omega)
 obtain⟨st,hst⟩: ∃st,L[i]=st:=⟨_,rfl⟩
 have hcall:=yT9 st (hLs st (hst▸List.getElem_mem q))
 rw[List.drop_eq_getElem_cons q,hst,zH2]at hinv
 generalize zx0 st=ce at hcall hinv
 refine zC ?_
 simp[go_sem,q,hst,hm]
 by_cases q1:m≠0∧st.kind≠1
 ·rw[if_pos q1]at hinv
  have q1a:(m !=0)=true:=by simpa using q1.1
  have q1b:(st.kind !=1)=true:=by simpa using q1.2
  simp[go_sem,q1a,q1b]
  exact zd7 hinv
 rw[if_neg q1]at hinv
 have key:(m !=0)=false∨((m !=0)=true∧(st.kind !=1)=false):=by
  by_cases h:m=0
  ·exact .inl (by simpa using h)
  ·refine .inr ⟨by simpa using h, ?_⟩
   simp only[bne_eq_false_iff_eq]
   exact Classical.byContradiction fun g=>q1 ⟨h,g⟩
 refine key.elim (fun a1=> ?_) (fun⟨a1,a2⟩=> ?_)
 ·simp[go_sem,a1]
  refine zD hcall Tryz.callB31 (zI (by simp[go_sem,schR]) rfl) rfl ?_
  by_cases qe:ce=0
  ·have qe':(ce !=0)=false:=by simpa using qe
   rw[if_neg (fun h=>h qe)]at hinv
   simp[go_sem,qe',ei]
   exact zP (i+1) ⟨by omega,⟨by omega,hinv⟩,at_n 2 (by simp[go_sem,hL,hm]) rfl (by simp[ltOb,ltC,ltK]) (Nat.zero_le _) (zE (by simp[go_sem]) rfl)⟩
  ·have qe':(ce !=0)=true:=by simpa using qe
   rw[if_pos qe]at hinv
   simp[go_sem,qe']
   exact zd7 hinv
 ·simp[go_sem,a1,a2]
  refine zD hcall Tryz.callB31 (zI (by simp[go_sem,schR]) rfl) rfl ?_
  by_cases qe:ce=0
  ·have qe':(ce !=0)=false:=by simpa using qe
   rw[if_neg (fun h=>h qe)]at hinv
   simp[go_sem,qe',ei]
   exact zP (i+1) ⟨by omega,⟨by omega,hinv⟩,at_n 2 (by simp[go_sem,hL,hm]) rfl (by simp[ltOb,ltC,ltK]) (Nat.zero_le _) (zE (by simp[go_sem]) rfl)⟩
  ·have qe':(ce !=0)=true:=by simpa using qe
   rw[if_pos qe]at hinv
   simp[go_sem,qe']
   exact zd7 hinv
end Go.Proofs.YtajjjghohakniaaGreat
namespace Go.Proofs.YtajjjghohakniaaGreat
open Go Go.Vx R
set_option maxRecDepth 100000
end Go.Proofs.YtajjjghohakniaaGreat
namespace Go.Proofs.YtajjjghohakniaaGreat
open Go Go.Vx R
set_option maxRecDepth 100000
end Go.Proofs.YtajjjghohakniaaGreat
namespace Go.Proofs.YtajjjghohakniaaGreat
open Go Go.Vx R
set_option maxRecDepth 100000
end Go.Proofs.YtajjjghohakniaaGreat
namespace Go.Proofs.YtajjjghohakniaaGreat
open Go Go.Vx R
set_option maxRecDepth 100000
end Go.Proofs.YtajjjghohakniaaGreat
namespace Go.Proofs.YtajjjghohakniaaGreat
open Go Go.Vx R
set_option maxRecDepth 100000
end Go.Proofs.YtajjjghohakniaaGreat
