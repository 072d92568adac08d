/-
  PlanTexts returns true for every input, and each argument reads behind the call as it read before.
  Conditions: none.
-/
import Derived.Test.YtajjjghohakniaaGreatKBS
import Derived.Test.YtajjjghohakniaaGreatRows
import Derived.Test.YtajjjghohakniaaGreatKBG
import Derived.HandedShaped
namespace Go.Proofs.YtajjjghohakniaaGreat
open Go Go.Vx R
set_option maxRecDepth 100000
def g1 (r:Int) (f:Int→List GSpan):US:=if(f r).isEmpty=true then []else [(r,f r)]
def zp9 (f:Int→List GSpan):US:=g1 0 f++(g1 1 f++(g1 2 f++(g1 3 f++ [])))
theorem yp2 {f g:Int→List GSpan} (h0:f 0=g 0) (h1:f 1=g 1) (h2:f 2=g 2) (h3:f 3=g 3):zp9 f=zp9 g:=by unfold zp9 g1;rw[h0,h1,h2,h3]
theorem xt7 (L:List GStmt):zr7 placesS 0 L=zp9 fun r=>if r=0 then zB6 0 0 L else if r=1 then zB6 0 1 L else if r=2 then zB6 1 (-1) L else zB6 2 1 L:=rfl
theorem xw2 {x:GSpan} (hx:Op.bytesLess x.lo x.hi=true) (s:List GSpan):zv7 s x=if s.contains x=true then s else s++ [x]:=by
 unfold zv7
 cases h:s.contains x with
 |true=>rw[if_neg (fun g=>by cases g.2),if_pos rfl]
 |false=>rw[if_pos ⟨hx,rfl⟩,if_neg (by decide)]
set_option maxHeartbeats 4000000 in
theorem xu8 (f:Int→List GSpan) (rng:Int) (hr:rng=0∨rng=1∨rng=2∨rng=3) (x:GSpan):zx4 rng x (zp9 f)=zp9 fun r=>if r=rng then zv7 (f r) x else f r:=by
 by_cases hx:Op.bytesLess x.lo x.hi=true
 rotate_left
 ·have h1:(Op.bytesLess x.hi x.lo||x.hi==x.lo)=true:=by
   rcases zx7 x.lo x.hi with h|h|h
   ·exact absurd h hx
   ·rw[h,beq_self_eq_true,Bool.or_true]
   ·rw[h,Bool.true_or]
  have h2: ∀s,zv7 s x=s:=fun s=>by unfold zv7;rw[if_neg (fun g=>hx g.1)]
  unfold zx4
  rw[if_pos h1]
  congr 1
  funext r
  rw[h2];split<;>rfl
 have h1: ¬(Op.bytesLess x.hi x.lo||x.hi==x.lo)=true:=fun h=>by
  rw[Bool.or_eq_true]at h
  rcases h with h|h
  ·rw[zO7 h]at hx;cases hx
  ·have:x.hi=x.lo:=by simpa using h
   rw[this,zn5]at hx;cases hx
 have hadd:=xw2 hx
 unfold zx4
 rw[if_neg h1]
 rcases hr with rfl|rfl|rfl|rfl<;>rcases h0:f 0 with _|⟨a0,l0⟩<;>rcases h1:f 1 with _|⟨a1,l1⟩<;>rcases h2:f 2 with _|⟨a2,l2⟩<;>rcases h3:f 3 with _|⟨a3,l3⟩
 all_goals simp[zp9,g1,h0,h1,h2,h3,addF,lowF,hadd]
 all_goals first|done|(split<;>simp)
theorem yv7: ∀(ps:List (Int×GSpan)) (f:Int→List GSpan),(∀p∈ps,p.1=0∨p.1=1∨p.1=2∨p.1=3)→zp6 ps (zp9 f)=zp9 fun r=>(ps.filter (·.1==r)).foldl (fun s p=>zv7 s p.2) (f r)
 | [],f,_=>rfl
 |p::ps,f,h=>by
  have e:zp6 (p::ps) (zp9 f)=zp6 ps (zx4 p.1 p.2 (zp9 f)):=rfl
  rw[e,xu8 f p.1 (h p (List.mem_cons_self ..)),yv7 ps _ (fun q hq=>h q (List.mem_cons_of_mem _ hq))]
  congr 1
  funext r
  rw[List.filter_cons]
  by_cases w:r=p.1
  ·subst w;simp
  ·have w':(p.1==r)=false:=by simpa using fun h=>w h.symm
   rw[if_neg w,w'];rfl
theorem yW4 (t:Int) (ht:t=0∨t=1∨t=2) (row:List GExpr) (hlen:row.length=(zk0 t).cols.length) (r tb reg:Int) (hp:(r=0∧tb=0∧reg=0)∨(r=1∧tb=0∧reg=1)∨(r=2∧tb=1∧reg= -1)∨(r=3∧tb=2∧reg=1)):
  ((rowP t row).filter (·.1==r)).map (·.2)=if t≠tb then []else zm5 (zk0 tb) tb reg row:=by
 have sel: ∀(g:Int) (s:GSpan),((if(yV t g).2≠0 then []else [((yV t g).1,s)]).filter (·.1==r)).map (·.2)=if(yV t g).2=0∧(yV t g).1=r then [s]else []:=fun g s=>by
  by_cases h1:(yV t g).2=0
  ·rw[if_neg (fun h=>h h1)]
   by_cases h2:(yV t g).1=r
   ·rw[if_pos ⟨h1,h2⟩];simp[h2]
   ·have h2':((yV t g).1==r)=false:=by simpa using h2
    rw[if_neg (fun h=>h2 h.2)];simp[h2']
  ·rw[if_pos h1,if_neg (fun h=>h1 h.1)];rfl
 have go: ∀T:GTable,tabsS[t.toNat]? =some T→zk0 t=T→ ¬row.length≤T.key.toNat→((rowP t row).filter (·.1==r)).map (·.2)=
   if(evN (row.getD T.key.toNat zeroE)).2≠0∨(evN (row.getD T.key.toNat zeroE)).1.kind=0 then []else
   match regN T row with
   |none=> []
   |some g=>if(yV t g).2=0∧(yV t g).1=r then [⟨wH 3 t (evN (row.getD T.key.toNat zeroE)).1,wH 3 t (evN (row.getD T.key.toNat zeroE)).1++ [0]⟩]else []:=fun T h1 h2 h3=>by
  unfold rowP
  rw[h1]
  simp only
  rw[if_neg h3]
  split
  ·rfl
  ·cases regN T row with
   |none=>rfl
   |some g=>exact sel _ _
 have hr4: ∀n:Int,(yV 0 (regC n)).2=0∧(yV 0 (regC n)).1=0↔n=0:=fun n=>by
  unfold yV regC
  constructor
  ·intro h;revert h;repeat' split
   all_goals (simp;try omega)
  ·intro h;subst h;decide
 have hr5: ∀n:Int,(yV 0 (regC n)).2=0∧(yV 0 (regC n)).1=1↔n=1:=fun n=>by
  unfold yV regC
  constructor
  ·intro h;revert h;repeat' split
   all_goals (simp;try omega)
  ·intro h;subst h;decide
 have hr6: ∀n k:Int,2≤k→ ¬((yV 0 (regC n)).2=0∧(yV 0 (regC n)).1=k):=fun n k hk=>by
  unfold yV
  simp only
  repeat' split
  all_goals (simp;try omega)
 rcases ht with rfl|rfl|rfl
 ·have hT:zk0 0=tabT:=rfl
  have hpl:tabT.place=0:=rfl
  rw[go tabT rfl rfl (by rw[hT]at hlen;rw[hlen];decide)]
  by_cases b:(evN (row.getD tabT.key.toNat zeroE)).2≠0∨(evN (row.getD tabT.key.toNat zeroE)).1.kind=0
  ·rw[if_pos b]
   split
   ·rfl
   ·rename_i h
    have h:tb=0:=by omega
    subst h
    unfold zm5
    rw[hT,if_pos b]
  rw[if_neg b]
  unfold regN
  rw[if_pos hpl]
  by_cases c:(evN (row.getD 0 zeroE)).2≠0∨(evN (row.getD 0 zeroE)).1.kind≠2
  ·rw[if_pos c]
   simp only
   split
   ·rfl
   ·rename_i h
    have h:tb=0:=by omega
    subst h
    unfold zm5
    rw[hT,if_neg b,if_pos ⟨hpl,c.elim .inl fun h=> .inr (.inl h)⟩]
  rw[if_neg c]
  simp only
  have cn: ∀k:Int,(evN (row.getD 0 zeroE)).1.n=k→ ¬(tabT.place=0∧((evN (row.getD 0 zeroE)).2≠0∨(evN (row.getD 0 zeroE)).1.kind≠2∨(evN (row.getD 0 zeroE)).1.n≠k)):=fun k hk h=>
   h.2.elim (fun g=>c (.inl g)) (fun g=>g.elim (fun g=>c (.inr g)) (fun g=>g hk))
  rcases hp with ⟨rfl,rfl,rfl⟩|⟨rfl,rfl,rfl⟩|⟨rfl,rfl,rfl⟩|⟨rfl,rfl,rfl⟩
  ·rw[if_neg (fun h:(0:Int)≠0=>h rfl)]
   unfold zm5
   rw[hT,if_neg b]
   by_cases w:(evN (row.getD 0 zeroE)).1.n=0
   ·rw[if_pos ((hr4 _).2 w),if_neg (cn 0 w)]
   ·rw[if_neg (fun h=>w ((hr4 _).1 h)),if_pos ⟨hpl,.inr (.inr w)⟩]
  ·rw[if_neg (fun h:(0:Int)≠0=>h rfl)]
   unfold zm5
   rw[hT,if_neg b]
   by_cases w:(evN (row.getD 0 zeroE)).1.n=1
   ·rw[if_pos ((hr5 _).2 w),if_neg (cn 1 w)]
   ·rw[if_neg (fun h=>w ((hr5 _).1 h)),if_pos ⟨hpl,.inr (.inr w)⟩]
  ·rw[if_neg (hr6 _ 2 (by decide)),if_pos (by decide)]
  ·rw[if_neg (hr6 _ 3 (by decide)),if_pos (by decide)]
 ·have hT:zk0 1=tabG:=rfl
  rw[go tabG rfl rfl (by rw[hT]at hlen;rw[hlen];decide)]
  by_cases b:(evN (row.getD tabG.key.toNat zeroE)).2≠0∨(evN (row.getD tabG.key.toNat zeroE)).1.kind=0
  ·rw[if_pos b]
   split
   ·rfl
   ·rename_i h
    have h:tb=1:=by omega
    subst h
    unfold zm5
    rw[hT,if_pos b]
  rw[if_neg b,show regN tabG row=some 0 from rfl]
  simp only
  rw[show yV 1 0=(2,0) from rfl]
  rcases hp with ⟨rfl,rfl,rfl⟩|⟨rfl,rfl,rfl⟩|⟨rfl,rfl,rfl⟩|⟨rfl,rfl,rfl⟩
  ·rw[if_neg (by decide),if_pos (by decide)]
  ·rw[if_neg (by decide),if_pos (by decide)]
  ·rw[if_pos (by decide),if_neg (by decide)]
   unfold zm5
   rw[hT,if_neg b,if_neg (fun h=>absurd h.1 (by decide))]
  ·rw[if_neg (by decide),if_pos (by decide)]
 ·have hT:zk0 2=tabH:=rfl
  rw[go tabH rfl rfl (by rw[hT]at hlen;rw[hlen];decide)]
  by_cases b:(evN (row.getD tabH.key.toNat zeroE)).2≠0∨(evN (row.getD tabH.key.toNat zeroE)).1.kind=0
  ·rw[if_pos b]
   split
   ·rfl
   ·rename_i h
    have h:tb=2:=by omega
    subst h
    unfold zm5
    rw[hT,if_pos b]
  rw[if_neg b,show regN tabH row=some 0 from rfl]
  simp only
  rw[show yV 2 0=(3,0) from rfl]
  rcases hp with ⟨rfl,rfl,rfl⟩|⟨rfl,rfl,rfl⟩|⟨rfl,rfl,rfl⟩|⟨rfl,rfl,rfl⟩
  ·rw[if_neg (by decide),if_pos (by decide)]
  ·rw[if_neg (by decide),if_pos (by decide)]
  ·rw[if_neg (by decide),if_pos (by decide)]
  ·rw[if_pos (by decide),if_neg (by decide)]
   unfold zm5
   rw[hT,if_neg b,if_neg (fun h=>absurd h.1 (by decide))]
theorem yq3 {α β γ:Type} (f:α→List β) (p:β→Bool) (g:β→γ): ∀l:List α,((l.flatMap f).filter p).map g=l.flatMap fun x=>((f x).filter p).map g
 | []=>rfl
 |x::l=>by rw[List.flatMap_cons,List.filter_append,List.map_append,yq3 f p g l,List.flatMap_cons]
theorem yq9 {t:Int} {st:GStmt} {rg:Int} (h:rg∈xZ t st):(t=0∧(rg=0∨rg=1))∨(t=1∧rg= -1)∨(t=2∧rg=1):=by
 unfold xZ at h
 split at h
 ·have:=ya3 _ _ _ h
  simp at this
  exact .inl ⟨by assumption,this⟩
 split at h
 ·simp at h;exact .inr (.inl ⟨by assumption,h⟩)
 split at h
 ·simp at h;exact .inr (.inr ⟨by assumption,h⟩)
 ·cases h
theorem xj2 {st:GStmt} (hs:SOk st) (hrow:st.kind=2→ ∀r∈st.rows,r.length=(zk0 (xP st.table)).cols.length) (r tb reg:Int) (hp:(r=0∧tb=0∧reg=0)∨(r=1∧tb=0∧reg=1)∨(r=2∧tb=1∧reg= -1)∨(r=3∧tb=2∧reg=1)):
  ((stP st).filter (·.1==r)).map (·.2)=if xP st.table≠tb then []else zz5 (zk0 tb) tb reg st:=by
 have htc:=zp3 st.table
 unfold stP
 generalize xP st.table=t at htc hrow
 by_cases h0:t<0
 ·rw[if_pos h0,if_pos (by omega)];rfl
 rw[if_neg h0]
 have ht:t=0∨t=1∨t=2:=by omega
 unfold zz5
 by_cases hk:st.kind=2
 ·rw[if_pos hk,if_pos hk,yq3]
  have e:(st.rows.flatMap fun x=>((rowP t x).filter (·.1==r)).map (·.2))=st.rows.flatMap fun x=>if t≠tb then []else zm5 (zk0 tb) tb reg x:=
   zl2 fun x hx=>yW4 t ht x (hrow hk x hx) r tb reg hp
  rw[e]
  by_cases w:t=tb
  ·simp only[w,ne_eq,not_true,if_false]
  ·rw[if_pos w]
   simp only[ne_eq,w,not_false_eq_true,if_true]
   induction st.rows with
   |nil=>rfl
   |cons x l ih=>rw[List.flatMap_cons,ih];rfl
 ·rw[if_neg hk,if_neg hk,List.filter_map,List.map_map,yf4 hs,zX1 hs]
  by_cases w:t=tb
  ·rw[if_neg (fun h=>h w)]
   subst w
   have e:(xZ t st).filter ((fun x:Int×GSpan=>x.1==r)∘fun rg=>((yV t rg).1,⟨(zc7 tabsS t st).1,(zc7 tabsS t st).2⟩))=(xZ t st).filter (· ==reg):=by
    refine List.filter_congr fun rg hrg=> ?_
    rcases yq9 hrg with ⟨rfl,rfl|rfl⟩|⟨rfl,rfl⟩|⟨rfl,rfl⟩<;>rcases hp with ⟨rfl,h,rfl⟩|⟨rfl,h,rfl⟩|⟨rfl,h,rfl⟩|⟨rfl,h,rfl⟩<;>first|rfl|(exact absurd h (by decide))
   rw[e]
   rfl
  ·rw[if_pos w]
   have e:(xZ t st).filter ((fun x:Int×GSpan=>x.1==r)∘fun rg=>((yV t rg).1,⟨(zc7 tabsS t st).1,(zc7 tabsS t st).2⟩))= []:=by
    refine List.filter_eq_nil_iff.2 fun rg hrg=> ?_
    rcases yq9 hrg with ⟨rfl,rfl|rfl⟩|⟨rfl,rfl⟩|⟨rfl,rfl⟩<;>rcases hp with ⟨rfl,rfl,rfl⟩|⟨rfl,rfl,rfl⟩|⟨rfl,rfl,rfl⟩|⟨rfl,rfl,rfl⟩<;>first|(exact absurd rfl w)|(simp[yV])
   rw[e];rfl
theorem xo7 {st:GStmt}: ∀p∈stP st,p.1=0∨p.1=1∨p.1=2∨p.1=3:=fun p hp=>by
 have rs: ∀t g:Int,(yV t g).1=0∨(yV t g).1=1∨(yV t g).1=2∨(yV t g).1=3:=fun t g=>by
  unfold yV
  repeat' split
  all_goals simp
 unfold stP at hp
 split at hp
 ·cases hp
 split at hp
 ·obtain⟨x,_,hx⟩:=List.mem_flatMap.1 hp
  unfold rowP at hx
  split at hx
  ·cases hx
  split at hx
  ·cases hx
  split at hx
  ·cases hx
  split at hx
  ·cases hx
  split at hx
  ·cases hx
  ·rw[List.mem_singleton]at hx;subst hx;exact rs _ _
 ·obtain⟨x,_,hx⟩:=List.mem_map.1 hp
  subst hx
  exact rs _ _
theorem zs5 (r tb reg:Int) (hp:(r=0∧tb=0∧reg=0)∨(r=1∧tb=0∧reg=1)∨(r=2∧tb=1∧reg= -1)∨(r=3∧tb=2∧reg=1)): ∀(L:List GStmt),(∀st∈L,SOk st∧(st.kind=2→ ∀r∈st.rows,r.length=(zk0 (xP st.table)).cols.length))→ ∀sp,
  (((L.flatMap stP).filter (·.1==r)).foldl (fun s p=>zv7 s p.2) sp)=L.foldl (stSp tb reg) sp
 | [],_,sp=>rfl
 |x0::L,h,sp=>by
  obtain⟨h1,h2⟩:=h x0 (List.mem_cons_self ..)
  rw[List.flatMap_cons,List.filter_append,List.foldl_append,List.foldl_cons,zs5 r tb reg hp L (fun x hx=>h x (List.mem_cons_of_mem _ hx))]
  congr 1
  have e:=xj2 h1 h2 r tb reg hp
  have e2:((stP x0).filter (·.1==r)).foldl (fun s p=>zv7 s p.2) sp=(((stP x0).filter (·.1==r)).map (·.2)).foldl zv7 sp:=by rw[List.foldl_map]
  rw[e2,e]
  unfold stSp
  split<;>rfl
theorem yQ0 (l:GLot) (hl:LOk l) (h:(zu6 l).2=0) (hrow: ∀st∈l.stmts,st.kind=2→ ∀r∈st.rows,r.length=(zk0 (xP st.table)).cols.length):zr4 l=zK1 l:=by
 unfold zr4 zK1
 rw[if_neg (fun g=>g h),xt7,zW8]
 have e0:([]:US)=zp9 fun _=> []:=rfl
 rw[e0,yv7 _ _ (fun p hp=>by
  obtain⟨st,_,hst⟩:=List.mem_flatMap.1 hp
  exact xo7 p hst)]
 have hall: ∀st∈l.stmts,SOk st∧(st.kind=2→ ∀r∈st.rows,r.length=(zk0 (xP st.table)).cols.length):=fun st hst=>⟨hl.stmts.2 st hst,hrow st hst⟩
 exact yp2 (zs5 0 0 0 (by simp) _ hall []).symm (zs5 1 0 1 (by simp) _ hall []).symm (zs5 2 1 (-1) (by simp) _ hall []).symm (zs5 3 2 1 (by simp) _ hall []).symm
end Go.Proofs.YtajjjghohakniaaGreat
namespace Go.Proofs.YtajjjghohakniaaGreat
open Go Go.Vx R
set_option maxRecDepth 100000
set_option maxHeartbeats 8000000 in
theorem yA7 (l:GLot) (hl:LOk l) (hr:(zu6 l).2=0→ ∀st∈l.stmts,st.kind=2→ ∀r∈st.rows,r.length=(zk0 (xP st.table)).cols.length):
  Pure Tryz.prog 23 [schR tabsS,.agg l.row] (.sl .ro ((zr4 l).map uRow)):=by
 have hck:=yb2 l hl
 have hli:=yP7
 obtain⟨L,hL⟩: ∃L,l.stmts=L:=⟨_,rfl⟩
 obtain⟨hLl,hLs⟩:=hl.stmts
 rw[hL]at hLl hLs hr
 generalize hM:zr4 l=M
 unfold zr4 at hM
 rw[hL]at hM
 generalize zu6 l=ck at hck hr hM
 have hpl:([[.int .i64 0,.int .i64 0],[.int .i64 0,.int .i64 1],[.int .i64 1,.int .i64 (-1)],[.int .i64 2,.int .i64 1]]:List (List V))=placesS.map fun p=> [.int .i64 p.1,.int .i64 p.2]:=rfl
 rw[hpl]at hli
 obtain⟨P,hP⟩: ∃P,placesS=P:=⟨_,rfl⟩
 have hP4:P.length=4:=by rw[←hP];rfl
 have hPt: ∀p∈P,∃j:Nat,p.1=j∧j<3:=by
  rw[←hP]
  intro p hp
  have:=(by decide: ∀p∈placesS,0≤p.1∧p.1<3) p hp
  exact⟨p.1.toNat,by omega,by omega⟩
 rw[hP]at hli hM
 refine VCalls.introV 0 Tryz.func23 Tryz.ntmps23 Tryz.results23 rfl rfl (Nat.le_of_ble_eq_true rfl) fun c hc hb=> ?_
 refine zC ?_
 simp[go_sem,schR]
 refine zE hck Tryz.callB21 (zF (by simp[go_sem,schR]) rfl) rfl ?_
 simp[go_sem,yK]
 by_cases c1:ck.2=0
 rotate_left
 ·have c1':(ck.2 !=0)=true:=by simpa using c1
  rw[if_pos c1]at hM
  subst hM
  simp[go_sem,c1']
  exact zQ zV ⟨rfl,rfl⟩
 have c1':(ck.2 !=0)=false:=by simpa using c1
 rw[if_neg (fun h=>h c1)]at hM
 have hr:=hr c1
 simp[go_sem,c1']
 refine zE hli Tryz.callB49 (zF (by simp[go_sem,schR]) rfl) rfl ?_
 simp[go_sem]
 refine zj1 5 2 (by decide) (by simp[go_sem]) ?_
 refine zL (S:=Nat×US) [2,3,5,8,9] (fun u=> [.ptr 0 0,.ptr 1 0,.sl (.app 2) (u.2.map uRow),.sl .ro (P.map fun p=> [.int .i64 p.1,.int .i64 p.2]),.int .i64 (u.1:Int)])
  (fun u=> [.box [.sl .ro wN,.sl .ro (tabsS.map GTable.row)],.box l.row,.app u.2.length 2]) (fun u=>P.length - u.1)
  (fun u=>u.1≤P.length∧u.2.length≤u.1∧u.2++zr7 (P.drop u.1) u.1 L=M) hc hb (0,[]) ⟨Nat.zero_le _,Nat.le_refl _,hM⟩ ?_ ?_
 ·exact at_n 3 (by simp[go_sem]) rfl (by simp[ltOb,ltC,ltK,GLot.row]) (Nat.zero_le _) (zD (by simp[go_sem]) rfl)
 rintro⟨i,out⟩ ⟨hi,ho,hinv⟩
 simp only at hi ho hinv
 by_cases q:i<P.length
 rotate_left
 ·rw[List.drop_eq_nil_of_le (by omega),zr7,List.append_nil]at hinv
  refine zC ?_
  simp[go_sem,q]
  rw[hinv]
  exact zQ zV ⟨rfl,rfl⟩
 have ei:=zT q (by omega)
 obtain⟨⟨tb,reg⟩,hp⟩: ∃p,P[i]=p:=⟨_,rfl⟩
 obtain⟨jt,hjt,hj3⟩:=hPt (tb,reg) (hp▸List.getElem_mem q)
 simp only at hjt
 have hT:tabsS[jt]? =some (zk0 tb):=by
  rw[hjt]
  match jt,hj3 with
  |0,_=>rfl
  |1,_=>rfl
  |2,_=>rfl
 rw[List.drop_eq_getElem_cons q,hp,zr7]at hinv
 simp only at hinv
 obtain⟨X,hX⟩: ∃X,zB6 tb reg L=X:=⟨_,rfl⟩
 rw[hX]at hinv
 refine zC ?_
 simp[go_sem,q]
 refine yt7 3 1 2 [.int .i64 (i:Int),.sl .full []] (by decide) (by simp[go_sem]) (by simp) ?_
 refine zL (S:=Nat×List GSpan) [2,3,5,8,9,10,11] (fun u=> [.ptr 0 0,.ptr 1 0,.sl (.app 2) (out.map uRow),.sl .ro (P.map fun p=> [.int .i64 p.1,.int .i64 p.2]),.int .i64 (i:Int),.ptr 3 0,.int .i64 (u.1:Int)])
  (fun u=> [.box [.sl .ro wN,.sl .ro (tabsS.map GTable.row)],.box l.row,.app out.length 2,.box [.int .i64 (i:Int),.lsv 4 2 u.2.length 0 u.2.length],.lst (u.2.map GSpan.row) 2]) (fun u=>L.length - u.1)
  (fun u=>u.1≤L.length∧u.2.length≤20*u.1∧(L.drop u.1).foldl (stSp tb reg) u.2=X) hc hb (0,[]) ⟨Nat.zero_le _,Nat.le_refl _,hX⟩ ?_ ?_
 ·exact at_n 5 (by simp[go_sem]) rfl (by simp[ltOb,ltC,ltK,GLot.row]) (Nat.zero_le _) (zD (by simp[go_sem]) rfl)
 rintro⟨k,sp⟩ ⟨hk,hsl,hkv⟩
 simp only at hk hsl hkv
 by_cases qk:k<L.length
 rotate_left
 ·rw[List.drop_eq_nil_of_le (by omega)]at hkv
  have hkv:sp=X:=hkv
  refine yH5 4 2 (sp.map GSpan.row) rfl (zW3 sp) ?_
  refine zC ?_
  simp[go_sem,frzS,frzA,frzC,frzK,zk5,zZ5,hL,qk,zT5]
  rw[←hkv]at hinv
  by_cases z:sp= []
  ·have z':decide (0<sp.length)=false:=by rw[z];rfl
   rw[if_pos (by rw[z];rfl),List.nil_append]at hinv
   simp[go_sem,z',ei]
   exact zN (i+1,out) ⟨by simp only;omega,⟨by simp only;omega,by simp only;omega,hinv⟩,at_n 3 (by simp[go_sem,hL]) rfl (by simp[ltOb,ltC,ltK]) (Nat.zero_le _) (zD (by simp[go_sem]) rfl)⟩
  ·have z0:0<sp.length:=List.length_pos_iff.2 z
   have z':decide (0<sp.length)=true:=decide_eq_true z0
   rw[if_neg (by simpa using z)]at hinv
   simp[go_sem,z']
   refine zP ⟨by omega,yT rfl⟩ ?_
   simp[go_sem,ei]
   exact zN (i+1,out++ [((i:Int),sp)]) ⟨by simp only;omega,⟨by simp only;omega,by simp only[List.length_append,List.length_cons,List.length_nil];omega,by simp only;rw[←hinv,List.append_assoc];rfl⟩,at_n 3 (by simp[go_sem,hL]) rfl (by simp[ltOb,ltC,ltK]) (Nat.zero_le _) (zD (by simp[go_sem,uRow]) rfl)⟩
 have ek:=zT qk (by omega)
 obtain⟨st,hst⟩: ∃st,L[k]=st:=⟨_,rfl⟩
 have hstm:st∈L:=hst▸List.getElem_mem qk
 have hs:=hLs st hstm
 have hfi:=yg2 tabsS st.table (by decide)
 rw[show xD (fun t:GTable=>t.name==st.table) tabsS 0=xP st.table from rfl]at hfi
 rw[List.drop_eq_getElem_cons qk,hst,List.foldl_cons]at hkv
 obtain⟨sp2,hsp2⟩: ∃sp2,stSp tb reg sp st=sp2:=⟨_,rfl⟩
 rw[hsp2]at hkv
 unfold stSp at hsp2
 have hrs:=hr st hstm
 generalize xP st.table=t at hfi hsp2 hrs
 refine zC ?_
 simp[go_sem,hL,qk]
 refine zX [(7,0)] 3 (by simp) (by kernel_rfl) (by kernel_rfl) ?_
 simp[go_sem,qk,hst]
 refine zS hfi Tryz.callB16 (fun _=>zF (by simp[go_sem,schR]) rfl) rfl ?_
 simp[go_sem,q,hp]
 have goK: ∀e σ,At 0 [2,3,5,8,9,10,11] [.ptr 0 0,.ptr 1 0,.sl (.app 2) (out.map uRow),.sl .ro (P.map fun p=> [.int .i64 p.1,.int .i64 p.2]),.int .i64 (i:Int),.ptr 3 0,.int .i64 ((k+1:Nat):Int)]
   [.box [.sl .ro wN,.sl .ro (tabsS.map GTable.row)],.box l.row,.app out.length 2,.box [.int .i64 (i:Int),.lsv 4 2 sp2.length 0 sp2.length],.lst (sp2.map GSpan.row) 2] e σ→sp2.length≤20*(k+1)→
   Vx.Next (fun s':Nat×List GSpan=>L.length - s'.1<L.length - k∧(s'.1≤L.length∧s'.2.length≤20*s'.1∧(L.drop s'.1).foldl (stSp tb reg) s'.2=X)∧At 0 [2,3,5,8,9,10,11] [.ptr 0 0,.ptr 1 0,.sl (.app 2) (out.map uRow),.sl .ro (P.map fun p=> [.int .i64 p.1,.int .i64 p.2]),.int .i64 (i:Int),.ptr 3 0,.int .i64 (s'.1:Int)]
    [.box [.sl .ro wN,.sl .ro (tabsS.map GTable.row)],.box l.row,.app out.length 2,.box [.int .i64 (i:Int),.lsv 4 2 s'.2.length 0 s'.2.length],.lst (s'.2.map GSpan.row) 2] e σ) fx:=fun e σ h1 h2=>
  zN (k+1,sp2) ⟨by simp only;omega,⟨by simp only;omega,h2,hkv⟩,h1⟩
 by_cases ct:t=tb
 rotate_left
 ·have ct':(t !=tb)=true:=by simpa using ct
  rw[if_pos ct]at hsp2
  subst hsp2
  simp[go_sem,ct',ek]
  exact goK _ _ (at_n 5 (by simp[go_sem,hL]) rfl (by simp[ltOb,ltC,ltK,GLot.row,GSpan.row]) (Nat.zero_le _) (zD (by simp[go_sem]) rfl)) (by omega)
 have ct':(t !=tb)=false:=by simpa using ct
 rw[if_neg (fun h=>h ct)]at hsp2
 rw[ct]at hrs ct'
 have hspn:=xo6 jt (zk0 tb) hT reg st hs hrs
 rw[←hjt]at hspn
 have hxl:=yA5 (T:=zk0 tb) (t:=tb) (reg:=reg) hs
 generalize zz5 (zk0 tb) tb reg st=xs at hspn hxl hsp2
 simp[go_sem,ct]
 refine zX [(12,0)] 3 (by simp) (by kernel_rfl) (by kernel_rfl) ?_
 simp[go_sem,qk,hst,q,hp]
 refine zS hspn Tryz.callB50 (fun _=>zF (by simp[go_sem,schR]) rfl) rfl ?_
 simp[go_sem]
 refine zL (S:=Nat×List GSpan) [2,3,5,8,9,10,11,13,14] (fun u=> [.ptr 0 0,.ptr 1 0,.sl (.app 2) (out.map uRow),.sl .ro (P.map fun p=> [.int .i64 p.1,.int .i64 p.2]),.int .i64 (i:Int),.ptr 3 0,.int .i64 (k:Int),.sl .ro (xs.map GSpan.row),.int .i64 (u.1:Int)])
  (fun u=> [.box [.sl .ro wN,.sl .ro (tabsS.map GTable.row)],.box l.row,.app out.length 2,.box [.int .i64 (i:Int),.lsv 4 2 u.2.length 0 u.2.length],.lst (u.2.map GSpan.row) 2]) (fun u=>xs.length - u.1)
  (fun u=>u.1≤xs.length∧u.2.length≤20*k+u.1∧(xs.drop u.1).foldl zv7 u.2=sp2) hc hb (0,sp) ⟨Nat.zero_le _,by simp only;omega,hsp2⟩ ?_ ?_
 ·exact at_n 5 (by simp[go_sem,hL]) rfl (by simp[ltOb,ltC,ltK,GLot.row,GSpan.row]) (Nat.zero_le _) (zD (by simp[go_sem]) rfl)
 rintro⟨m,sq⟩ ⟨hm,hql,hmv⟩
 simp only at hm hql hmv
 by_cases qm:m<xs.length
 rotate_left
 ·rw[List.drop_eq_nil_of_le (by omega)]at hmv
  have hmv:sq=sp2:=hmv
  subst hmv
  refine zC ?_
  simp[go_sem,qm,ek]
  exact goK _ _ (at_n 5 (by simp[go_sem,hL]) rfl (by simp[ltOb,ltC,ltK,GLot.row,GSpan.row]) (Nat.zero_le _) (zD (by simp[go_sem]) rfl)) (by omega)
 have em:=zT qm (by omega)
 obtain⟨x,hx⟩: ∃x,xs[m]=x:=⟨_,rfl⟩
 rw[List.drop_eq_getElem_cons qm,hx,List.foldl_cons]at hmv
 obtain⟨sq2,hsq2⟩: ∃s,zv7 sq x=s:=⟨_,rfl⟩
 rw[hsq2]at hmv
 unfold zv7 at hsq2
 have hin:=in_w sq x (by unfold maxLen;omega)
 obtain⟨b1,hb1⟩: ∃b,Op.bytesLess x.lo x.hi=b:=⟨_,rfl⟩
 obtain⟨b2,hb2⟩: ∃b,sq.contains x=b:=⟨_,rfl⟩
 rw[hb2]at hin hsq2
 rw[hb1]at hsq2
 refine zC ?_
 simp[go_sem,qm]
 refine zX [(18,1)] 5 (by simp) (by kernel_rfl) (by kernel_rfl) ?_
 simp[go_sem,qm,hx,hb1]
 have goM: ∀(s:List GSpan),s=sq2→s.length≤sq.length+1→ ∀e σ,At 0 [2,3,5,8,9,10,11,13,14] [.ptr 0 0,.ptr 1 0,.sl (.app 2) (out.map uRow),.sl .ro (P.map fun p=> [.int .i64 p.1,.int .i64 p.2]),.int .i64 (i:Int),.ptr 3 0,.int .i64 (k:Int),.sl .ro (xs.map GSpan.row),.int .i64 ((m+1:Nat):Int)]
   [.box [.sl .ro wN,.sl .ro (tabsS.map GTable.row)],.box l.row,.app out.length 2,.box [.int .i64 (i:Int),.lsv 4 2 s.length 0 s.length],.lst (s.map GSpan.row) 2] e σ→
   Vx.Next (fun s':Nat×List GSpan=>xs.length - s'.1<xs.length - m∧(s'.1≤xs.length∧s'.2.length≤20*k+s'.1∧(xs.drop s'.1).foldl zv7 s'.2=sp2)∧At 0 [2,3,5,8,9,10,11,13,14] [.ptr 0 0,.ptr 1 0,.sl (.app 2) (out.map uRow),.sl .ro (P.map fun p=> [.int .i64 p.1,.int .i64 p.2]),.int .i64 (i:Int),.ptr 3 0,.int .i64 (k:Int),.sl .ro (xs.map GSpan.row),.int .i64 (s'.1:Int)]
    [.box [.sl .ro wN,.sl .ro (tabsS.map GTable.row)],.box l.row,.app out.length 2,.box [.int .i64 (i:Int),.lsv 4 2 s'.2.length 0 s'.2.length],.lst (s'.2.map GSpan.row) 2] e σ) fx:=fun s h1 h2 e σ h3=>
  zN (m+1,s) ⟨by simp only;omega,⟨by simp only;omega,by simp only;omega,by simp only;rw[h1];exact hmv⟩,h3⟩
 refine(Bool.eq_false_or_eq_true b1).elim (fun p1=> ?_) (fun p1=> ?_)
 rotate_left
 ·rw[if_neg (by rw[p1];simp)]at hsq2
  simp[go_sem,p1,em]
  exact goM sq hsq2 (by omega) _ _ (at_n 5 (by simp[go_sem,hL]) rfl (by simp[ltOb,ltC,ltK,GLot.row,GSpan.row]) (Nat.zero_le _) (zD (by simp[go_sem]) rfl))
 simp[go_sem,p1,qm,hx]
 refine yW2 hin Tryz.callB51 (fun s hs=>⟨_,_,.step 4 2 (sq.map GSpan.row) ?_ (zW3 sq) (.refl _ _), ?_⟩) rfl ?_
 ·rw[Kp.get (k:=Kp.pre 5) (by decide) hs];rfl
 ·exact zF (by simp[frzS,frzA,frzC,frzK,zT5,GSpan.row]) rfl
 refine(Bool.eq_false_or_eq_true b2).elim (fun p2=> ?_) (fun p2=> ?_)
 ·rw[if_neg (by rw[p2];simp)]at hsq2
  simp[go_sem,p2,em]
  exact goM sq hsq2 (by omega) _ _ (at_n 5 (by simp[go_sem,hL]) rfl (by simp[ltOb,ltC,ltK,GLot.row,GSpan.row]) (Nat.zero_le _) (zD (by simp[go_sem]) rfl))
 rw[if_pos ⟨p1,p2⟩]at hsq2
 simp[go_sem,p2]
 refine zX [(1,2),(7,3),(9,3)] 3 (by simp) (by kernel_rfl) (by kernel_rfl) ?_
 have hno: ¬sq.length+1≤sq.length:=by omega
 simp[go_sem,qm,hx,hno]
 refine zP ⟨yT rfl,by omega⟩ ?_
 simp[go_sem,em]
 exact goM (sq++ [x]) hsq2 (by simp) _ _ (at_n 5 (by simp[go_sem,hL,GSpan.row]) rfl (by simp[ltOb,ltC,ltK,GLot.row,GSpan.row]) (Nat.zero_le _) (zD (by simp[go_sem]) rfl))
end Go.Proofs.YtajjjghohakniaaGreat
namespace Go.Proofs.YtajjjghohakniaaGreat
open Go Go.Vx R
set_option maxRecDepth 100000
theorem yf8: ∀(ps:List (Int×GSpan)) {n:Nat} {U:US},Bd n U→Bd (n+ps.length) (zp6 ps U)
 | [],_,_,h=>h
 |p::ps,n,U,h=>by
  have h1:=yf8 ps (Bd.need h p.1 p.2)
  rw[List.length_cons,show n+(ps.length+1)=n+1+ps.length by omega]
  exact h1
theorem xh4 (t:Int) (r:List GExpr):(rowP t r).length≤1:=by
 unfold rowP
 repeat' split
 all_goals simp
theorem yh6 (t:Int): ∀rs:List (List GExpr),(rs.flatMap (rowP t)).length≤rs.length
 | []=>Nat.le_refl _
 |r::rs=>by
  rw[List.flatMap_cons,List.length_append,List.length_cons]
  have:=xh4 t r
  have:=yh6 t rs
  omega
theorem xj6 {st:GStmt} (h:SOk st):(stP st).length≤20:=by
 unfold stP
 split
 ·simp
 ·split
  ·have:=yh6 (xP st.table) st.rows
   have:=h.rows.1
   omega
  ·rw[List.length_map]
   have:=zB4 (xP st.table) st
   omega
theorem yU0 (l:GLot) (hs: ∀st∈l.stmts,SOk st):Bd (20*l.stmts.length) (zK1 l):=by
 have: ∀L:List GStmt,(∀st∈L,SOk st)→(L.flatMap stP).length≤20*L.length:=by
  intro L
  induction L with
  |nil=>intro _;exact Nat.le_refl _
  |cons x L ih=>
   intro h
   have h1:=ih (fun y hy=>h y (List.mem_cons_of_mem _ hy))
   have h2:=xj6 (h x (List.mem_cons_self ..))
   rw[List.flatMap_cons,List.length_append,List.length_cons]
   omega
 have h1:=this _ hs
 unfold zK1
 rw[zW8]
 have h2:=yf8 (l.stmts.flatMap stP) (n:=0) (U:= []) ⟨Nat.le_refl _,fun y hy=>by cases hy⟩
 exact⟨by have:=h2.1;omega,fun y hy=>by have:=h2.2 y hy;omega⟩
end Go.Proofs.YtajjjghohakniaaGreat
namespace Go.Proofs.YtajjjghohakniaaGreat
open Go Go.Vx R
set_option maxRecDepth 100000
theorem ye1 {mode:Int}: ∀{L:List GStmt} {i:Nat},(zt4 mode L i).2=0→ ∀st∈L,zs7 st=0
 | [],_,_,y,hst=>by cases hst
 |x::l,i,h,y,hst=>by
  rw[zt4]at h
  split at h
  ·cases h
  split at h
  ·rename_i h2;exact absurd h h2
  ·rename_i h2
   have h2:zs7 x=0:=by simpa using h2
   rcases List.mem_cons.1 hst with rfl|hst
   ·exact h2
   ·exact ye1 h y hst
theorem zW2 {T:GTable}: ∀{rs:List (List GExpr)},zC4 T rs=0→ ∀r∈rs,r.length=T.cols.length
 | [],_,r,hr=>by cases hr
 |x::rs,h,r,hr=>by
  rw[zC4]at h
  split at h
  ·rename_i h2;exact absurd h h2
  ·rename_i h2
   have h2:zq1 T x=0:=by simpa using h2
   rcases List.mem_cons.1 hr with rfl|hr
   ·unfold zq1 at h2
    split at h2
    ·cases h2
    ·rename_i h3;simpa using h3
   ·exact zW2 h r hr
theorem ye9 {l:GLot} (h:(zu6 l).2=0): ∀st∈l.stmts,st.kind=2→ ∀r∈st.rows,r.length=(zk0 (xP st.table)).cols.length:=fun st hst hk r hr=>by
 unfold zu6 at h
 split at h
 rotate_left
 ·cases h
 have hc:=ye1 h st hst
 unfold zs7 at hc
 unfold zk0
 rw[List.getD_eq_getElem?_getD]
 cases hT:tabsS[(xP st.table).toNat]? with
 |none=>rw[hT]at hc;cases hc
 |some T=>
  rw[hT]at hc
  simp only at hc
  split at hc
  ·cases hc
  split at hc
  ·omega
  first
   |exact zW2 hc r hr
   |(rw[if_pos hk]at hc;exact zW2 hc r hr)
set_option maxHeartbeats 2000000 in
theorem xw6 (U:US) (hU:U.length≤1000∧ ∀y∈U,y.2.length≤1000):Pure Tryz.prog 22 [.sl .ro (U.map uRow),.sl .ro (U.map uRow)] (.bool true):=by
 refine VCalls.introV 0 Tryz.func22 Tryz.ntmps22 Tryz.results22 rfl rfl (Nat.le_of_ble_eq_true rfl) fun c hc hb=> ?_
 have hll:((U.length:Int) !=(U.length:Int))=false:=by simp
 refine zC ?_
 simp[go_sem]
 refine zL (S:=Nat) [0,1,5] (fun i=> [.sl .ro (U.map uRow),.sl .ro (U.map uRow),.int .i64 (i:Int)]) (fun _=> []) (fun i=>U.length - i) (fun i=>i≤U.length) hc hb 0 (Nat.zero_le _) ?_ ?_
 ·exact at_0 rfl (zF (by simp[go_sem]) rfl)
 rintro i hi
 by_cases q:i<U.length
 rotate_left
 ·refine zC ?_
  simp[go_sem,q]
  exact bret rfl
 have ei:=zT q (by omega)
 obtain⟨⟨r,sp⟩,hy⟩: ∃y,U[i]=y:=⟨_,rfl⟩
 have hsl:=hU.2 (r,sp) (hy▸List.getElem_mem q)
 simp only at hsl
 have hrr:(r !=r)=false:=by simp
 have hss:((sp.length:Int) !=(sp.length:Int))=false:=by simp
 refine zC ?_
 simp[go_sem,q]
 refine zX [] 0 (Nat.zero_le _) (by kernel_rfl) (by kernel_rfl) ?_
 simp[go_sem,q,hy]
 refine zL (S:=Nat) [0,1,5,6] (fun k=> [.sl .ro (U.map uRow),.sl .ro (U.map uRow),.int .i64 (i:Int),.int .i64 (k:Int)]) (fun _=> []) (fun k=>sp.length - k) (fun k=>k≤sp.length) hc hb 0 (Nat.zero_le _) ?_ ?_
 ·exact at_0 rfl (zF (by simp[go_sem]) rfl)
 rintro k hk
 by_cases qk:k<sp.length
 rotate_left
 ·refine zC ?_
  simp[go_sem,q,hy,qk,ei]
  exact zN (i+1) ⟨by omega,by omega,at_0 rfl (zF (by simp[go_sem]) rfl)⟩
 have ek:=zT qk (by omega)
 obtain⟨x,hx⟩: ∃x,sp[k]=x:=⟨_,rfl⟩
 refine zC ?_
 simp[go_sem,q,hy,qk]
 refine zX [] 0 (Nat.zero_le _) (by kernel_rfl) (by kernel_rfl) ?_
 simp[go_sem,q,hy,qk,hx,ek]
 exact zN (k+1) ⟨by omega,qk,at_0 rfl (zF (by simp[go_sem]) rfl)⟩
theorem yw2 {st:GStmt}:(zi5 st).length≤maxLen:=Nat.le_trans (zQ1 st) (by decide)
set_option maxHeartbeats 8000000 in
theorem xt3 (l:GLot) (hl:LOk l):Pure Tryz.prog 9 [schR tabsS,.agg l.row] (.bool true):=by
 have hck:=zF1 l hl
 have hrc:=yb2 l hl
 obtain⟨L,hL⟩: ∃L,l.stmts=L:=⟨_,rfl⟩
 obtain⟨hLl,hLs⟩:=hl.stmts
 have hnd:=xg9 l (by omega) hLs
 have hrn:=yA7 l hl ye9
 have hne:=fun h=>yQ0 l hl h (ye9 h)
 have hBd:=yU0 l hLs
 have hsm:=xw6 (zK1 l) ⟨by have:=hBd.1;omega,fun y hy=>by have:=hBd.2 y hy;omega⟩
 generalize zK1 l=U at hnd hne hsm
 generalize zr4 l=U2 at hrn hne
 generalize zu6 l=ck at hck hrc hne
 rw[hL]at hLl hLs
 have h1:(ck.1 !=ck.1)=false:=by simp
 have h2:(ck.2 !=ck.2)=false:=by simp
 have key:(ck.2==0)=false∨ck.2=0:=by by_cases h:ck.2=0<;>simp[h]
 have h3:tabsS.length=3:=rfl
 refine VCalls.introV 0 Tryz.func9 Tryz.ntmps9 Tryz.results9 rfl rfl (Nat.le_of_ble_eq_true rfl) fun c hc hb=> ?_
 refine zC ?_
 simp[go_sem,schR]
 refine zE hck Tryz.callB13 (zF (by simp[go_sem,schR]) rfl) rfl ?_
 simp[go_sem,yK]
 refine zE hrc Tryz.callB21 (zF (by simp[go_sem,schR]) rfl) rfl ?_
 simp[go_sem,yK]
 refine zX [(14,0),(17,0),(18,0)] 2 (by simp) (by kernel_rfl) (by kernel_rfl) ?_
 simp[go_sem]
 rcases key with k|k
 case' inl=>simp[go_sem,k]
 case' inr=>
  have k':(ck.2==0)=true:=by simpa using k
  rw[hne k]at hrn
  simp[go_sem,k']
  refine zS hnd Tryz.callB15 (fun _=>zF (by simp[go_sem,schR]) rfl) rfl ?_
  simp[go_sem]
  refine zS hrn Tryz.callB23 (fun _=>zF (by simp[go_sem,schR]) rfl) rfl ?_
  simp[go_sem]
  refine zS hsm Tryz.callB22 (fun _=>⟨zV,zV,trivial⟩) rfl ?_
  simp[go_sem]
 all_goals
  refine zL (S:=Nat) [2,3,9] (fun i=> [.ptr 0 0,.ptr 1 0,.int .i64 (i:Int)]) (fun _=> [.box [.sl .ro wN,.sl .ro (tabsS.map GTable.row)],.box l.row]) (fun i=>L.length - i) (fun i=>i≤L.length) hc hb 0 (Nat.zero_le _) ?_ ?_
  ·exact at_n 2 (by simp[go_sem]) rfl (by simp[ltOb,ltC,ltK,GLot.row]) (Nat.zero_le _) (zD (by simp[go_sem]) rfl)
  intro i hi
  by_cases q:i<L.length
  rotate_left
  ·refine zC ?_
   simp[go_sem,hL,q]
   exact bret rfl
  have ei:=zT q (by omega)
  obtain⟨st,hst⟩: ∃st,L[i]=st:=⟨_,rfl⟩
  have hs:=hLs st (hst▸List.getElem_mem q)
  have hbp: ∀t,Pure Tryz.prog 24 [schR tabsS,.int .i64 t,.agg st.row] (zE7 (zc7 tabsS t st)):=fun t=>yw5 wN tabsS t st (by decide) (by decide) yw2 (yr8 hs.where_.good)
  have hbr: ∀t,Pure Tryz.prog 25 [schR tabsS,.int .i64 t,.agg st.row] (zE7 (zc7 tabsS t st)):=fun t=>yf4 hs t▸yh4 t st hs
  have hrp: ∀t,Pure Tryz.prog 26 [schR tabsS,.int .i64 t,.agg st.row] (.sl .ro ((xZ t st).map yH)):=fun t=>yj3 t st yw2
  have hrr: ∀t,Pure Tryz.prog 27 [schR tabsS,.int .i64 t,.agg st.row] (.sl .ro ((xZ t st).map yH)):=fun t=>zX1 hs t▸zV8 t st hs
  have hrl:=fun t=>zB4 t st
  refine zC ?_
  simp[go_sem,hL,q]
  refine zL (S:=Nat) [2,3,9,10] (fun m=> [.ptr 0 0,.ptr 1 0,.int .i64 (i:Int),.int .i64 ((m:Int) - 1)]) (fun _=> [.box [.sl .ro wN,.sl .ro (tabsS.map GTable.row)],.box l.row]) (fun m=>5 - m) (fun m=>m≤5) hc hb 0 (Nat.zero_le _) ?_ ?_
  ·exact at_n 2 (by simp[go_sem,hL]) rfl (by simp[ltOb,ltC,ltK,GLot.row]) (Nat.zero_le _) (zD (by simp[go_sem]) rfl)
  intro m hm
  by_cases qm:m<5
  rotate_left
  ·have q':decide ((m:Int) - 1≤(tabsS.length:Int))=false:=decide_eq_false (by omega)
   refine zC ?_
   simp[go_sem,q',ei]
   exact zN (i+1) ⟨by omega,by omega,at_n 2 (by simp[go_sem,hL]) rfl (by simp[ltOb,ltC,ltK]) (Nat.zero_le _) (zD (by simp[go_sem]) rfl)⟩
  have q':decide ((m:Int) - 1≤(tabsS.length:Int))=true:=decide_eq_true (by omega)
  have em:IntKind.i64.wrap ((m:Int) - 1+1)=((m+1:Nat):Int) - 1:=by rw[Vx.i64_id (by omega) (by omega)];omega
  have em2:IntKind.i64.wrap (m:Int)=(m:Int):=Vx.i64_id (by omega) (by omega)
  have hbp:=hbp ((m:Int) - 1)
  have hbr:=hbr ((m:Int) - 1)
  have hrp:=hrp ((m:Int) - 1)
  have hrr:=hrr ((m:Int) - 1)
  have hrl:=hrl ((m:Int) - 1)
  generalize zc7 tabsS ((m:Int) - 1) st=B at hbp hbr
  generalize xZ ((m:Int) - 1) st=G at hrp hrr hrl
  have hgg:((G.length:Int) !=(G.length:Int))=false:=by simp
  refine zC ?_
  simp[go_sem,q']
  refine zX [(7,0)] 2 (by simp) (by kernel_rfl) (by kernel_rfl) ?_
  simp[go_sem,hL,q,hst]
  refine zS hbp Tryz.callB24 (fun _=>zF (by simp[go_sem,schR]) rfl) rfl ?_
  simp[go_sem,zE7]
  refine zX [(7,0)] 2 (by simp) (by kernel_rfl) (by kernel_rfl) ?_
  simp[go_sem,q,hst]
  refine zS hbr Tryz.callB25 (fun _=>zF (by simp[go_sem,schR]) rfl) rfl ?_
  simp[go_sem,zE7]
  refine zX [(7,0),(15,0)] 2 (by simp) (by kernel_rfl) (by kernel_rfl) ?_
  simp[go_sem,q,hst]
  refine zS hrp Tryz.callB26 (fun _=>zF (by simp[go_sem,schR]) rfl) rfl ?_
  simp[go_sem,q,hst]
  refine zS hrr Tryz.callB27 (fun _=>zF (by simp[go_sem,schR]) rfl) rfl ?_
  simp[go_sem]
  refine zL (S:=Nat) [2,3,9,10,15,16,17] (fun n=> [.ptr 0 0,.ptr 1 0,.int .i64 (i:Int),.int .i64 ((m:Int) - 1),.sl .ro (G.map yH),.sl .ro (G.map yH),.int .i64 (n:Int)]) (fun _=> [.box [.sl .ro wN,.sl .ro (tabsS.map GTable.row)],.box l.row]) (fun n=>G.length - n) (fun n=>n≤G.length) hc hb 0 (Nat.zero_le _) ?_ ?_
  ·exact at_n 2 (by simp[go_sem,hL]) rfl (by simp[ltOb,ltC,ltK,GLot.row]) (Nat.zero_le _) (zD (by simp[go_sem]) rfl)
  intro n hn
  by_cases qn:n<G.length
  rotate_left
  ·refine zC ?_
   simp[go_sem,qn]
   exact zN (m+1) ⟨by omega,by omega,at_n 2 (by simp[go_sem,hL]) rfl (by simp[ltOb,ltC,ltK]) (Nat.zero_le _) (zD (by simp[go_sem,em2]) rfl)⟩
  have en:=zT qn (by omega)
  obtain⟨g,hg⟩: ∃g,G[n]=g:=⟨_,rfl⟩
  have hgn:(g !=g)=false:=by simp
  refine zC ?_
  simp[go_sem,qn]
  refine zX [] 2 (by simp) (by kernel_rfl) (by kernel_rfl) ?_
  simp[go_sem,qn,hg,yH,en]
  exact zN (n+1) ⟨by omega,by omega,at_n 2 (by simp[go_sem,hL]) rfl (by simp[ltOb,ltC,ltK]) (Nat.zero_le _) (zD (by simp[go_sem]) rfl)⟩
theorem xl8 (s:List UInt8) (hs0:s.length≤maxLen):Pure Tryz.prog 3 [.str s] (.bool true):=by
 have hbg:=xn2
 have hsc:=yp7
 have hlt:=xe2 s hs0
 have has:=xt3 _ (yw4 s)
 generalize (zt5 s).1=l at hlt has
 refine VCalls.intro 0 Tryz.func3 Tryz.ntmps3 Tryz.results3 rfl rfl (Nat.le_of_ble_eq_true rfl) fun c hc hb=>zJ ?_
 simp[go_sem]
 refine zE hbg Tryz.callB8 (zH rfl) rfl ?_
 simp[go_sem]
 refine yI (fun q=> ?_) (fun q=> ?_)
 ·simp[go_sem,q]
  refine zE hsc Tryz.callB10 (zH rfl) rfl ?_
  simp[go_sem,schS]
  refine zE hlt Tryz.callB11 (zH rfl) rfl ?_
  simp[go_sem]
  refine zE has Tryz.callB9 ⟨zN8,zA rfl,trivial⟩ rfl ?_
  simp[go_sem]
  exact bret rfl
 ·simp[go_sem,q]
  exact bret rfl
end Go.Proofs.YtajjjghohakniaaGreat
namespace Go.Proofs.YtajjjghohakniaaGreat
open Go Go.Vx
set_option maxRecDepth 100000
theorem yd7:ownKnob Tryz.prog.godebug=none:=by kernel_rfl
theorem ya8:laidOutB Tryz.prog=true:=by kernel_rfl
theorem yd4 (xs:List V) (h:ShpA Tryz.prog [9] xs):VCalls Tryz.prog 3 xs [] fun r _=>r= .bool true:=by
 obtain⟨_,_,rfl,h0,h⟩:=h.cons_inv
 obtain rfl:=h.nil_inv
 obtain⟨x0,rfl,w0⟩:=h0.str_inv Tryz.underlying9
 rw[yO6 (by rw[Tryz.underlying9])]
 exact(xl8 x0 w0).mono fun r s h=>h.1
theorem yc0 {W:World} (hsh:W.ShapedOpen Tryz.prog):GlobOk W (lims W):=by
 refine⟨fun p hp=> ?_,fun p hp=> ?_⟩
 ·cases hp
 ·obtain rfl:p=(0,.i64):=by simpa[vints]using hp
  obtain⟨m,hm⟩:=Tryz.laysM144.s1_3 W hsh
  exact⟨yI7 hm,m,hm⟩
theorem zR2 (os:Os) (started:os.Started) (H:Type) (enc:TypeId×Value→H):
  ReturnsInHanded {} Tryz.checked os 3 .any (Rows.planTextsSpec.pre6 enc Tryz.prog Tryz.f3 Rows.planTextsRow.domain false) (Rows.planTextsSpec.post enc Tryz.prog Tryz.f3 false true false false):=by
 refine returnsInHanded_of_change_shaped (C:=Tryz.checked) yd7 started (by kernel_rfl) Tryz.func3
  (ChangeSpec.witness6 (enc:=enc) (C:=Tryz.checked) false ⟨#[], #[.string ⟨#[]⟩],[]⟩ 8 (by kernel_rfl) (by kernel_rfl) (by kernel_rfl) (by kernel_rfl)) ?_
 intro W base args ds gs before hval hW _ _ hsh _
 exact xc7 (P:=Tryz.prog) [9] [9] 4 Tryz.params3 (by kernel_rfl) Tryz.underlying4 (by kernel_rfl) (by kernel_rfl) (by kernel_rfl) ya8 rfl
  (fun H ds h=>by
   match ds,h with
   | [_],_=>rfl) yd4 H enc W base args ds gs before hval hW (yc0 hsh)
theorem planTexts_proved:Rows.PlanTextsSaid:=
 OpenClaim.holds_of_wide 3 Tryz.f3 rfl rfl rfl rfl rfl rfl rfl ⟨rfl,rfl,rfl,rfl,rfl⟩ rfl rfl rfl rfl rfl (by kernel_rfl) Tryz.func3 (by kernel_rfl)
  (of_decide_eq_true (by kernel_rfl)) (by unfold Func.isWrapper;first|(rw[if_pos (by decide+kernel)];kernel_rfl)|(rw[if_neg (by decide+kernel)];exact⟨rfl,rfl⟩))
  (fun os started H enc _=>zR2 os started H enc)
#print axioms planTexts_proved
end Go.Proofs.YtajjjghohakniaaGreat
