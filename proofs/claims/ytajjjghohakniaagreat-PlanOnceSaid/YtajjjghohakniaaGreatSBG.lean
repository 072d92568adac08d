/-
  Contracts of functions that the claimed statement reaches, each proved over trees (the library Vx); used by the theorem at the end of the claim.
  Conditions: as each theorem states them.
-/
import Derived.Test.YtajjjghohakniaaGreatSBD
import Derived.Test.YtajjjghohakniaaGreatSBF
import Derived.Test.YtajjjghohakniaaGreatSAS
namespace Go.Proofs.YtajjjghohakniaaGreat
open Go Go.Vx R
set_option maxRecDepth 100000
def nRow (x:Int×List GSpan×Nat):List V:= [.int .i64 x.1,.sl (.app (x.2.2+2)) (x.2.1.map GSpan.row)]
def gS (b:List V) (rows:List (List V)) (A:List Nat):St:= .box b:: .lst rows 2::A.map (fun n=>Ob.app n 2)
def nSt (N:List (Int×List GSpan×Nat)) (A:List Nat):St:=gS [.lsv 1 2 N.length 0 N.length] (N.map nRow) A
structure NOk (N:List (Int×List GSpan×Nat)) (A:List Nat):Prop where
 app: ∀x∈N,A[x.2.2]? =some x.2.1.length
 ids:(N.map (·.2.2)).Nodup
 asc:(N.map (·.1)).Pairwise (· < ·)
def uOf (N:List (Int×List GSpan×Nat)):List (Int×List GSpan):=N.map fun x=>(x.1,x.2.1)
def addF (rng:Int) (x:GSpan) (U:List (Int×List GSpan)):List (Int×List GSpan):=
 if(U.map (·.1)).contains rng=true then U.modify (lowF (U.map (·.1)) rng) (fun y=>(y.1,if y.2.contains x=true then y.2 else y.2++ [x]))
 else U.take (lowF (U.map (·.1)) rng)++(rng,[x])::U.drop (lowF (U.map (·.1)) rng)
def needF (rng:Int) (x:GSpan) (U:List (Int×List GSpan)):List (Int×List GSpan):=if(Op.bytesLess x.hi x.lo||x.hi==x.lo)=true then U else addF rng x U
section
variable {b:List V} {rows:List (List V)} {A:List Nat} {τ:St}
theorem gS_len:(gS b rows A).length=A.length+2:=by simp[gS]
theorem gS_get0:(gS b rows A++τ)[0]? =some (.box b):=rfl
theorem gS_get1:(gS b rows A++τ)[1]? =some (.lst rows 2):=rfl
theorem gS_e0 {h:0<(gS b rows A).length}:(gS b rows A)[0]'h= .box b:=rfl
theorem gS_e1 {h:1<(gS b rows A).length}:(gS b rows A)[1]'h= .lst rows 2:=rfl
theorem gS_get2:(gS b rows A++τ)[A.length+2]? =τ[0]? :=by rw[List.getElem?_append_right (by rw[gS_len];exact Nat.le_refl _),gS_len,Nat.sub_self]
theorem gS_get3:(gS b rows A++τ)[A.length+3]? =τ[1]? :=by rw[List.getElem?_append_right (by rw[gS_len];omega),gS_len];congr 1;omega
theorem gS_get4:(gS b rows A++τ)[A.length+4]? =τ[2]? :=by rw[List.getElem?_append_right (by rw[gS_len];omega),gS_len];congr 1;omega
theorem gS_getA {i n:Nat} (h:A[i]? =some n):(gS b rows A++τ)[i+2]? =some (.app n 2):=by
 have hi:=(List.getElem?_eq_some_iff.1 h).1
 rw[List.getElem?_append_left (by rw[gS_len];omega)]
 show(A.map (fun n=>Ob.app n 2))[i]? =_
 rw[List.getElem?_map,h];rfl
theorem gS_set0 {b':List V}:(gS b rows A++τ).set 0 (.box b')=gS b' rows A++τ:=rfl
theorem gS_set1 {r':List (List V)}:(gS b rows A++τ).set 1 (.lst r' 2)=gS b r' A++τ:=rfl
theorem gS_setA {i m:Nat} (h:i<A.length):(gS b rows A++τ).set (i+2) (.app m 2)=gS b rows (A.set i m)++τ:=by
 rw[List.set_append_left _ _ (by rw[gS_len];omega)]
 show Ob.box b:: .lst rows 2::(A.map (fun n=>Ob.app n 2)).set i (.app m 2)++τ=_
 rw[←List.map_set];rfl
end
theorem chunk_n (N:List (Int×List GSpan×Nat)):chunk (N.map nRow) 0 N.length=(uOf N).map uRow:=by
 unfold chunk uOf
 rw[List.drop_zero,List.take_of_length_le (by simp),List.map_map,List.map_map]
 rfl
theorem n_pure (N:List (Int×List GSpan×Nat)):pureRows (N.map nRow)=true:=by simp[pureRows,nRow,pureV]
theorem low_ex (v:Int): ∀l:List Int,l.Pairwise (· < ·)→ ∃i,i≤l.length∧(∀k (h:k<l.length),k<i→l[k]<v)∧(∀k (h:k<l.length),i≤k→v≤l[k])
 | [],_=>⟨0,Nat.le_refl _,fun k h=>absurd h (Nat.not_lt_zero _),fun k h=>absurd h (Nat.not_lt_zero _)⟩
 |a::l,hp=>by
  obtain⟨i,h0,h1,h2⟩:=low_ex v l (List.pairwise_cons.1 hp).2
  by_cases ha:a<v
  ·refine⟨i+1,by simp;omega,fun k h hk=> ?_,fun k h hk=> ?_⟩
   ·match k with
    |0=>exact ha
    |k+1=>exact h1 k (by simpa using h) (by omega)
   ·match k with
    |0=>omega
    |k+1=>exact h2 k (by simpa using h) (by omega)
  ·refine⟨0,Nat.zero_le _,fun k h hk=>absurd hk (Nat.not_lt_zero _),fun k h hk=> ?_⟩
   match k with
   |0=>simp;omega
   |k+1=>
    have hkl:k<l.length:=by simpa using h
    have:=(List.pairwise_cons.1 hp).1 l[k] (List.getElem_mem hkl)
    simp only[List.getElem_cons_succ]
    omega
theorem low_facts {l:List Int} {v:Int} {k:Nat} (hp:l.Pairwise (· < ·)) (hk:lowF l v=k):k≤l.length∧(∀j (h:j<l.length),j<k→l[j]<v)∧(∀j (h:j<l.length),k≤j→v≤l[j])∧(if h:k<l.length then l[k]==v else false)=l.contains v:=by
 obtain⟨i,h0,h1,h2⟩:=low_ex v l hp
 have:=low_eq l v i h0 h1 h2
 rw[hk]at this
 subst this
 exact⟨h0,h1,h2,low_has l v hp k h1 h2⟩
theorem addF_same {rng:Int} {x:GSpan} {U:List (Int×List GSpan)} {k:Nat} {sp:List GSpan} (hk:lowF (U.map (·.1)) rng=k) (hth:(U.map (·.1)).contains rng=true) (hU:U[k]? =some (rng,sp)) (hx:sp.contains x=true):addF rng x U=U:=by
 unfold addF
 rw[if_pos hth,hk]
 refine List.ext_getElem? fun j=> ?_
 rw[List.getElem?_modify]
 by_cases q:k=j
 ·subst q;rw[hU];simp at hx;simp[hx]
 ·simp[q]
theorem addF_app {rng:Int} {x:GSpan} {U:List (Int×List GSpan)} {k:Nat} {sp:List GSpan} (hk:lowF (U.map (·.1)) rng=k) (hth:(U.map (·.1)).contains rng=true) (hU:U[k]? =some (rng,sp)) (hx:sp.contains x=false):addF rng x U=U.set k (rng,sp++ [x]):=by
 unfold addF
 rw[if_pos hth,hk]
 refine List.ext_getElem? fun j=> ?_
 rw[List.getElem?_modify,List.getElem?_set]
 by_cases q:k=j
 ·subst q
  have hl:=(List.getElem?_eq_some_iff.1 hU).1
  rw[hU];simp at hx;simp[hx,hl]
 ·simp[q]
theorem uOf_get {N:List (Int×List GSpan×Nat)} {k:Nat} {y:Int×List GSpan×Nat} (h:N[k]? =some y):(uOf N)[k]? =some (y.1,y.2.1):=by
 unfold uOf;rw[List.getElem?_map,h];rfl
theorem set_self_map {α β:Type} (f:α→β) {l:List α} {k:Nat} {a b:α} (h:l[k]? =some a) (hf:f b=f a):(l.set k b).map f=l.map f:=by
 refine List.ext_getElem? fun j=> ?_
 rw[List.getElem?_map,List.getElem?_map,List.getElem?_set]
 by_cases q:k=j
 ·subst q
  have hl:=(List.getElem?_eq_some_iff.1 h).1
  simp[hl,hf,(List.getElem?_eq_some_iff.1 h).2]
 ·simp[q]
theorem NOk.upd {N:List (Int×List GSpan×Nat)} {A:List Nat} (h:NOk N A) {k:Nat} {r:Int} {sp:List GSpan} {id:Nat} (hk:N[k]? =some (r,sp,id)) (x:GSpan):NOk (N.set k (r,sp++ [x],id)) (A.set id (sp.length+1)):=by
 have hid:=h.app _ (List.mem_of_getElem? hk)
 have hidl:=(List.getElem?_eq_some_iff.1 hid).1
 refine⟨fun y hy=> ?_, ?_, ?_⟩
 ·obtain⟨j,hj⟩:=List.mem_iff_getElem?.1 hy
  rw[List.getElem?_set]at hj
  by_cases q:k=j
  ·subst q
   have hl:=(List.getElem?_eq_some_iff.1 hk).1
   simp[hl]at hj
   subst hj
   simp[hidl]
  ·rw[if_neg q]at hj
   have hne:id≠y.2.2:=fun e=>by
    have hi:=h.ids
    have h1:(N.map (·.2.2))[k]? =some id:=by rw[List.getElem?_map,hk];rfl
    have h2:(N.map (·.2.2))[j]? =some y.2.2:=by rw[List.getElem?_map,hj];rfl
    obtain⟨l1,e1⟩:=List.getElem?_eq_some_iff.1 h1
    obtain⟨l2,e2⟩:=List.getElem?_eq_some_iff.1 h2
    exact q ((List.getElem_inj hi).1 (e1.trans (e.trans e2.symm)))
   rw[List.getElem?_set_ne hne]
   exact h.app y (List.mem_of_getElem? hj)
 ·rw[set_self_map (fun y:Int×List GSpan×Nat=>y.2.2) (b:=(r,sp++ [x],id)) hk rfl];exact h.ids
 ·rw[set_self_map (fun y:Int×List GSpan×Nat=>y.1) (b:=(r,sp++ [x],id)) hk rfl];exact h.asc
theorem gS_ok (N:List (Int×List GSpan×Nat)) (A:List Nat) (h:NOk N A):(gS [.lsv 1 2 N.length 0 N.length] (N.map nRow) A).all (ltOb (A.length+2))=true:=by
 have hi: ∀x∈N,x.2.2<A.length:=fun x hx=>(List.getElem?_eq_some_iff.1 (h.app x hx)).1
 simp only[gS,List.all_cons,Bool.and_eq_true]
 refine⟨by simp[ltOb,ltC,ltK], ?_,by simp[ltOb]⟩
 simp only[ltOb,List.all_map,List.all_eq_true]
 intro x hx
 simp[nRow,ltC,ltK,hi x hx]
theorem NOk.new {N:List (Int×List GSpan×Nat)} {A:List Nat} (h:NOk N A) {k:Nat} {rng:Int} (x:GSpan) (hk:k≤N.length)
  (h1: ∀j (h:j<((uOf N).map (·.1)).length),j<k→((uOf N).map (·.1))[j]<rng) (h2: ∀j (h:j<((uOf N).map (·.1)).length),k≤j→rng≤((uOf N).map (·.1))[j]) (h3:((uOf N).map (·.1)).contains rng=false):
  NOk (N.take k++(rng,[x],A.length)::N.drop k) (A++ [1]):=by
 have hi: ∀y∈N,y.2.2<A.length:=fun y hy=>(List.getElem?_eq_some_iff.1 (h.app y hy)).1
 have hu:(uOf N).map (·.1)=N.map (·.1):=by unfold uOf;rw[List.map_map];rfl
 simp only[hu]at h1 h2 h3
 refine⟨fun y hy=> ?_, ?_, ?_⟩
 ·rcases List.mem_append.1 hy with hy|hy
  ·have hm:=List.mem_of_mem_take hy
   rw[List.getElem?_append_left (hi y hm)];exact h.app y hm
  ·rcases List.mem_cons.1 hy with rfl|hy
   ·simp
   ·have hm:=List.mem_of_mem_drop hy
    rw[List.getElem?_append_left (hi y hm)];exact h.app y hm
 ·have hp:(N.take k++(rng,[x],A.length)::N.drop k).Perm ((rng,[x],A.length)::N):=by
   refine List.perm_middle.trans (List.Perm.cons _ ?_)
   rw[List.take_append_drop]
  have:=(hp.map (fun y:Int×List GSpan×Nat=>y.2.2)).nodup_iff
  rw[this,List.map_cons,List.nodup_cons]
  refine⟨fun hm=> ?_,h.ids⟩
  obtain⟨y,hy,e⟩:=List.mem_map.1 hm
  have:=hi y hy
  simp only at e
  omega
 ·have hasc:=h.asc
  rw[List.map_append,List.map_cons,List.map_take,List.map_drop]
  rw[←List.take_append_drop k (N.map (·.1))]at hasc
  obtain⟨p1,p2,p3⟩:=List.pairwise_append.1 hasc
  refine List.pairwise_append.2 ⟨p1,List.pairwise_cons.2 ⟨fun b hb=> ?_,p2⟩,fun a ha b hb=> ?_⟩
  ·obtain⟨j,hj,e⟩:=List.mem_iff_getElem.1 hb
   rw[List.getElem_drop]at e
   rw[List.length_drop]at hj
   have hge:=h2 (k+j) (by omega) (by omega)
   rw[e]at hge
   have hne:rng≠b:=fun q=>by
    rw[←q]at hb
    have:(N.map (·.1)).contains rng=true:=List.contains_iff_mem.2 (List.mem_of_mem_drop hb)
    rw[this]at h3;cases h3
   omega
  ·have hlt:a<rng:=by
    obtain⟨j,hj,e⟩:=List.mem_iff_getElem.1 ha
    rw[List.getElem_take]at e
    rw[List.length_take]at hj
    rw[←e]
    exact h1 j (by omega) (by omega)
   rcases List.mem_cons.1 hb with rfl|hb
   ·exact hlt
   ·exact p3 a ha b hb
theorem need_new {N:List (Int×List GSpan×Nat)} {A:List Nat} (h:NOk N A) {k:Nat} {rng:Int} {x:GSpan} {M:List (Int×List GSpan)} (hk:k≤N.length) (hM:(uOf N).take k++(rng,[x])::(uOf N).drop k=M)
  (h1: ∀j (h:j<((uOf N).map (·.1)).length),j<k→((uOf N).map (·.1))[j]<rng) (h2: ∀j (h:j<((uOf N).map (·.1)).length),k≤j→rng≤((uOf N).map (·.1))[j]) (h3:((uOf N).map (·.1)).contains rng=false) (o1 o2:Ob):
  wret (some (.tup [])) (A.length+2) (fun r s=>r=V.tup []∧ ∃N' A',s=gS [V.lsv 1 2 N'.length 0 N'.length] (List.map nRow N') A'∧NOk N' A'∧uOf N'=M)
   (gS [.lsv 1 2 (N.length+1) 0 (N.length+1)] ((N.take k).map nRow++ [.int .i64 rng,.sl (.app (A.length+4)) [x.row]]::(N.drop k).map nRow) A++ [o1,o2,.app 1 2]):=by
 have hi: ∀y∈N,y.2.2<A.length:=fun y hy=>(List.getElem?_eq_some_iff.1 (h.app y hy)).1
 have hok:=h.new x hk h1 h2 h3
 have hlen:(N.take k++(rng,[x],A.length)::N.drop k).length=N.length+1:=by simp;omega
 obtain⟨pick,hp⟩: ∃pick,pick=List.range (A.length+2)++ [A.length+4]:=⟨_,rfl⟩
 have hpl:pick.length=A.length+3:=by rw[hp];simp
 have hp1: ∀i,i<A.length+2→pick[i]? =some i:=fun i hi=>by
  rw[hp,List.getElem?_append_left (by simpa using hi),List.getElem?_range hi]
 have hp2:pick[A.length+2]? =some (A.length+4):=by
  rw[hp,List.getElem?_append_right (by simp)];simp
 have hr1: ∀(M i:Nat),i<A.length+2→ren pick M i=i:=fun M i hi=>by
  unfold ren
  rw[dif_pos (by omega)]
  have:=hp1 i hi
  rw[List.getElem?_eq_getElem (by omega)]at this
  exact Option.some.inj this
 have hr2: ∀M:Nat,ren pick M (A.length+2)=A.length+4:=fun M=>by
  unfold ren
  rw[dif_pos (by omega)]
  have:=hp2
  rw[List.getElem?_eq_getElem (by omega)]at this
  exact Option.some.inj this
 have hrow: ∀(M:Nat) (y:Int×List GSpan×Nat),y∈N→(nRow y).map (renC (ren pick M))=nRow y:=fun M y hy=>by
  have:=hi y hy
  simp[nRow,renC,renK,hr1 M (y.2.2+2) (by omega)]
 refine wret_pickN pick ?_ hp1 (s:=nSt (N.take k++(rng,[x],A.length)::N.drop k) (A++ [1])) (by unfold nSt;rw[gS_len,hpl];simp) (fun i j o hij ho=> ?_) (argS_no rfl) ⟨rfl,_,_,rfl,hok, ?_⟩
 ·rw[hp]
  refine List.nodup_append.2 ⟨List.nodup_range,by simp,fun a ha b hb=> ?_⟩
  simp at ha hb
  omega
 ·unfold nSt at ho
  match i with
  |0=>
   rw[hp1 0 (by omega)]at hij;cases hij
   cases ho
   show some (Ob.box _)=_
   simp[renOb,renC,renK,hr1 _ 1 (by omega)]
   omega
  |1=>
   rw[hp1 1 (by omega)]at hij;cases hij
   cases ho
   show some (Ob.lst _ 2)=_
   simp only[renOb,List.map_append,List.map_cons,List.map_map]
   congr 2
   congr 1
   ·refine List.map_congr_left fun y hy=> ?_
    exact(hrow _ y (List.mem_of_mem_take hy)).symm
   ·congr 1
    ·simp[nRow,renC,renK,hr2]
    ·refine List.map_congr_left fun y hy=> ?_
     exact(hrow _ y (List.mem_of_mem_drop hy)).symm
  |i+2=>
   have ho2:((A++ [1]).map fun n=>Ob.app n 2)[i]? =some o:=ho
   rw[List.getElem?_map,Option.map_eq_some_iff]at ho2
   obtain⟨n,hn,rfl⟩:=ho2
   have hil:=(List.getElem?_eq_some_iff.1 hn).1
   by_cases hiA:i<A.length
   ·rw[hp1 (i+2) (by omega)]at hij;cases hij
    rw[List.getElem?_append_left hiA]at hn
    exact gS_getA hn
   ·have hiA:i=A.length:=by simp at hil;omega
    subst hiA
    rw[hp2]at hij;cases hij
    simp at hn
    subst hn
    rw[gS_get4];rfl
 ·rw[←hM]
  unfold uOf
  rw[List.map_append,List.map_cons,List.map_take,List.map_drop]
theorem need_w (N:List (Int×List GSpan×Nat)) (A:List Nat) (h:NOk N A) (rng:Int) (x:GSpan) (hN:N.length≤1000) (hS: ∀y∈N,y.2.1.length≤1000000):
  VCalls Tryz.prog 35 [.ptr 0 0,.int .i64 rng,.agg x.row] (nSt N A) (fun r s=>r= .tup []∧ ∃N' A',s=nSt N' A'∧NOk N' A'∧uOf N'=needF rng x (uOf N)):=by
 have hbs:=bsf_w (uOf N) rng (by unfold uOf;simpa using hN) (by unfold uOf;rw[List.map_map];exact h.asc)
 have hlow:lowF ((uOf N).map (·.1)) rng≤N.length:=by
  unfold lowF uOf
  refine Nat.le_trans (List.length_filter_le _ _) (by simp)
 obtain⟨k,hk⟩: ∃k,lowF ((uOf N).map (·.1)) rng=k:=⟨_,rfl⟩
 obtain⟨there,hth⟩: ∃there,((uOf N).map (·.1)).contains rng=there:=⟨_,rfl⟩
 rw[hk,hth]at hbs
 rw[hk]at hlow
 have hasc:((uOf N).map (·.1)).Pairwise (· < ·):=by unfold uOf;rw[List.map_map];exact h.asc
 obtain⟨_,hlo1,hlo2,hhas⟩:=low_facts hasc hk
 rw[hth]at hhas
 generalize hM:needF rng x (uOf N)=M
 unfold needF at hM
 refine VCalls.introV (A.length+2) Tryz.func35 Tryz.ntmps35 Tryz.results35 rfl (by simp[nSt,gS]) (Nat.le_of_ble_eq_true rfl) fun c hc hb=> ?_
 refine wVW_hint 32 (by decide) ?_
 refine wVW_code ?_
 unfold nSt
 rw[←List.append_nil (gS _ _ _)]
 simp[go_sem,gS_len]
 refine(Bool.eq_false_or_eq_true (Op.bytesLess x.hi x.lo||x.hi==x.lo)).elim (fun q=> ?_) (fun q=> ?_)
 ·simp only[q,if_true]at hM
  simp[go_sem,q]
  refine wret_s (A.length+2) (s:=gS [.lsv 1 2 N.length 0 N.length] (N.map nRow) A) (by rw[←gS_len (b:= [.lsv 1 2 N.length 0 N.length]) (rows:=N.map nRow),List.take_left]) gS_len (gS_ok _ _ h) (Nat.le_refl _) (argS_no rfl) ⟨rfl,N,A,rfl,h,hM⟩
 simp only[q]at hM
 simp[go_sem,q,gS_get0,gS_get1,gS_len,gS_e0,gS_e1]
 refine wVC_view hbs Tryz.callB85 (.step 1 2 (N.map nRow) gS_get1 (n_pure N) (.refl _ _)) ?_ rfl ?_
 ·simp only[List.append_nil,List.map_cons,List.map_nil,frzS,frzA,frzC,frzK,List.length_map,Nat.zero_add,Nat.le_refl,and_self,if_true,chunk_n]
  exact⟨argS_ro,argS_no rfl,argS_no rfl,trivial⟩
 simp[go_sem]
 rw[if_neg (by decide)]at hM
 refine(Bool.eq_false_or_eq_true there).elim (fun q2=> ?_) (fun q2=> ?_)
 ·have hkN:k<N.length:=by
   rw[q2]at hhas
   split at hhas
   ·rename_i h1;unfold uOf at h1;simpa using h1
   ·cases hhas
  obtain⟨⟨r0,sp,id⟩,hNk⟩: ∃y,N[k]=y:=⟨_,rfl⟩
  have hr0:r0=rng:=by
   rw[q2,dif_pos (by unfold uOf;simpa using hkN)]at hhas
   unfold uOf at hhas
   simpa[hNk]using hhas
  subst hr0
  have hmem:(r0,sp,id)∈N:=hNk▸List.getElem_mem hkN
  have hid:A[id]? =some sp.length:=h.app _ hmem
  have hsl:sp.length≤1000000:=hS _ hmem
  have hidl:=(List.getElem?_eq_some_iff.1 hid).1
  have hct:=hasS_w sp x (by unfold maxLen;omega)
  simp[go_sem,q2]
  refine wdraw [(9,0)] (A.length+3) (by simp[gS_len]) (by kernel_rfl) (by kernel_rfl) ?_
  simp[go_sem,gS_get0,gS_get1,gS_get2,gS_len,gS_e0,gS_e1,hkN,hNk,nRow]
  refine wVD_pure hct Tryz.callB89 (fun _=>⟨argS_ro,argS_no rfl,trivial⟩) rfl ?_
  simp[go_sem]
  refine(Bool.eq_false_or_eq_true (sp.contains x)).elim (fun q3=> ?_) (fun q3=> ?_)
  ·have hM2:=(addF_same hk (hth.trans q2) (uOf_get (by rw[List.getElem?_eq_getElem hkN,hNk])) q3).symm.trans hM
   simp only[List.contains_eq_mem]at q3
   simp[go_sem,q3]
   exact wret_s (A.length+2) (s:=gS [.lsv 1 2 N.length 0 N.length] (N.map nRow) A) (by rw[←gS_len (b:= [.lsv 1 2 N.length 0 N.length]) (rows:=N.map nRow),List.take_left]) gS_len (gS_ok _ _ h) (Nat.le_refl _) (argS_no rfl) ⟨rfl,N,A,rfl,h,hM2⟩
  ·have hM2:=(addF_app hk (hth.trans q2) (uOf_get (by rw[List.getElem?_eq_getElem hkN,hNk])) q3).symm.trans hM
   simp only[List.contains_eq_mem]at q3
   simp[go_sem,q3]
   refine wdraw_le [(13,2),(15,3),(18,4)] 2 (by simp[gS_len]) (by kernel_rfl) (by kernel_rfl) ?_
   simp[go_sem,gS_get0,gS_get1,gS_get2,gS_len,gS_e0,gS_e1,hkN,hNk,nRow,gS_getA hid,gS_setA hidl]
   refine wneed_i ⟨by omega,uni_one rfl⟩ ?_
   simp[go_sem,gS_get0,gS_get1,gS_get2,gS_len,gS_e0,gS_e1,gS_set1,hkN,hNk,nRow]
   have hNk':N[k]? =some (r0,sp,id):=by rw[List.getElem?_eq_getElem hkN,hNk]
   have hok2:=h.upd hNk' x
   refine wret_s (A.length+2) (s:=nSt (N.set k (r0,sp++ [x],id)) (A.set id (sp.length+1))) ?_ (by unfold nSt;rw[gS_len,List.length_set]) (by have:=gS_ok _ _ hok2;rw[show(A.set id (sp.length+1)).length=A.length by simp]at this;unfold nSt;exact this) (Nat.le_refl _) (argS_no rfl) ⟨rfl,_,_,rfl,hok2, ?_⟩
   ·rw[List.take_append_of_le_length (by rw[List.length_set,gS_len,List.length_set];exact Nat.le_refl _),List.take_of_length_le (by rw[List.length_set,gS_len,List.length_set];exact Nat.le_refl _)]
    unfold nSt
    rw[List.length_set,List.map_set]
    simp[gS,nRow,GSpan.row]
   ·rw[←hM2]
    unfold uOf
    rw[List.map_set]
 ·have hM2:(uOf N).take k++(rng,[x])::(uOf N).drop k=M:=by rw[←hM];unfold addF;rw[hth,q2,if_neg (by decide),hk]
  simp[go_sem,q2,gS_get0,gS_get1,gS_get2,gS_len,gS_e0,gS_e1]
  have hins:=insert_w (gS [.lsv 1 2 N.length 0 N.length] (N.map nRow) A++ [.box [.str x.lo,.str x.hi],.lst [[.int .i64 rng,.sl .full []]] 2]) 1 (A.length+2+1) (N.map nRow) [.int .i64 rng,.sl .full []] k gS_get1 gS_get3 (by omega) (by simpa using hlow) (by simp;omega)
  simp only[List.length_map,gS_set1]at hins
  obtain⟨R,hR⟩: ∃R,List.take k (List.map nRow N)++ [V.int IntKind.i64 rng,V.sl Tag.full []]::List.drop k (List.map nRow N)=R:=⟨_,rfl⟩
  rw[hR]at hins
  have hkm:k≤(N.map nRow).length:=by simpa using hlow
  have hRl:R.length=N.length+1:=by rw[←hR];simp;omega
  have hRk:R[k]? =some [.int .i64 rng,.sl .full []]:=by
   rw[←hR,List.getElem?_append_right (by simp;omega),List.length_take,Nat.min_eq_left hkm,Nat.sub_self];rfl
  have hk1:k<N.length+1:=by omega
  have hkR:k<R.length:=by omega
  have hRk':R[k]= [.int .i64 rng,.sl .full []]:=by have:=hRk;rw[List.getElem?_eq_getElem hkR]at this;exact Option.some.inj this
  have hct:=hasS_w [] x (by simp)
  have hki:(k:Int)<N.length+1:=by omega
  refine wVC_whole hins Tryz.callB88 ?_
  rintro r s ⟨rfl,rfl⟩ _
  simp[go_sem,gS_get0,gS_get1,gS_get2,gS_len,gS_e0,gS_e1,gS_set0]
  refine wdraw [(9,0)] (A.length+4) (by simp[gS_len]) (by kernel_rfl) (by kernel_rfl) ?_
  simp[go_sem,gS_get0,gS_get1,gS_get2,gS_len,gS_e0,gS_e1,hk1,hRk,hRk',hRl]
  refine wneed_i hki ?_
  simp[go_sem,gS_get0,gS_get1,gS_get2,gS_len,gS_e0,gS_e1,hk1,hRk,hRk',hRl]
  refine wVD_pure hct Tryz.callB89 (fun _=>⟨argS_ro,argS_no rfl,trivial⟩) rfl ?_
  simp[go_sem]
  refine wdraw_le [(13,2),(15,3),(18,4)] 2 (by simp[gS_len]) (by kernel_rfl) (by kernel_rfl) ?_
  simp[go_sem,gS_get0,gS_get1,gS_get2,gS_len,gS_e0,gS_e1,hk1,hRk,hRk',hRl]
  refine wneed_i hki ?_
  simp[go_sem,gS_get0,gS_get1,gS_get2,gS_len,gS_e0,gS_e1,hk1,hRk,hRk',hRl]
  refine wneed_i ⟨fun _ q=>by simp at q,uni_one rfl⟩ ?_
  simp[go_sem,gS_get0,gS_get1,gS_get2,gS_len,gS_e0,gS_e1,hk1,hRk,hRk',hRl]
  refine wneed_i hki ?_
  simp[go_sem,gS_get0,gS_get1,gS_get2,gS_len,gS_e0,gS_e1,gS_set1,hk1,hRk,hRk',hRl]
  have hset:R.set k [.int .i64 rng,.sl (.app (A.length+2+2)) [[.str x.lo,.str x.hi]]]=(N.take k).map nRow++ [.int .i64 rng,.sl (.app (A.length+4)) [x.row]]::(N.drop k).map nRow:=by
   rw[←hR,List.set_append_right _ _ (by simp;omega),List.length_take,Nat.min_eq_left hkm,Nat.sub_self,List.set_cons_zero,List.map_take,List.map_drop]
   rfl
  rw[hset]
  exact need_new h (by simpa using hlow) hM2 hlo1 hlo2 (by rw[hth,q2]) _ _
end Go.Proofs.YtajjjghohakniaaGreat
namespace Go.Proofs.YtajjjghohakniaaGreat
open Go Go.Vx R
set_option maxRecDepth 100000
theorem wVW_nilB (id off s:Nat) (cells:List V) {P:Program} {c:Ctx} {nt:Nat} {e:Env} {σ:St} {Q:QT} {y:Code} (h0:0<s) (hσ:σ[id]? =some (.box cells)) (hc:cells[off]? =some (.sl .full []))
  (hy:wVW P c nt y Q fx fx e (σ.set id (.box (cells.set off (.lsv σ.length s 0 0 0)))++ [.lst [] s])):wVW P c nt y Q fx fx e σ:=by
 intro a w L β hs
 obtain⟨x,h1,h2⟩:=nil_mem hs.mem h0 hσ hc
 exact hy a w L (β++ [x]) ⟨h1,hs.size,hs.defs,fun k=>(hs.env k).mono (Le.refl _ _) h2⟩
abbrev US:=List (Int×List GSpan)
def Bd (n:Nat) (U:US):Prop:=U.length≤n∧ ∀y∈U,y.2.length≤n
theorem Bd.need {n:Nat} {U:US} (h:Bd n U) (r:Int) (x:GSpan):Bd (n+1) (needF r x U):=by
 have up:Bd (n+1) U:=⟨by have:=h.1;omega,fun y hy=>by have:=h.2 y hy;omega⟩
 unfold needF
 split
 ·exact up
 ·unfold addF
  split
  ·refine⟨by rw[List.length_modify];exact up.1,fun y hy=> ?_⟩
   obtain⟨j,hj⟩:=List.mem_iff_getElem?.1 hy
   rw[List.getElem?_modify]at hj
   split at hj
   ·rw[Option.map_eq_map,Option.map_eq_some_iff]at hj
    obtain⟨z,hz,rfl⟩:=hj
    have hzl:=h.2 z (List.mem_of_getElem? hz)
    simp only
    split
    ·omega
    ·simp;omega
   ·simp at hj
    exact up.2 y (List.mem_of_getElem? hj)
  ·refine⟨by have:=h.1;simp;omega,fun y hy=> ?_⟩
   rcases List.mem_append.1 hy with hy|hy
   ·exact up.2 y (List.mem_of_mem_take hy)
   ·rcases List.mem_cons.1 hy with rfl|hy
    ·simp
    ·exact up.2 y (List.mem_of_mem_drop hy)
def regNeed (t:Int) (b:List UInt8×List UInt8) (U:US) (rg:Int):US:=needF (rangeS t rg).1 ⟨b.1,b.2⟩ U
def tabOf (name:List UInt8):Int:=findF (fun T:GTable=>T.name==name) tabsS 0
def stepF (rowF:Int→List GExpr→US→US) (U:US) (st:GStmt):US:=
 if tabOf st.table<0 then U else if st.kind=2 then st.rows.foldl (fun U r=>rowF (tabOf st.table) r U) U
 else(regionsF (tabOf st.table) st).foldl (regNeed (tabOf st.table) (boundsF tabsS (tabOf st.table) st)) U
def cntF (st:GStmt):Nat:=if st.kind=2 then st.rows.length else 2
theorem bfs_len: ∀(n:Nat) (q l:List GExpr),(bfs n q l).length≤l.length+n
 |0,_,_=>Nat.le_refl _
 |n+1,[],l=>by rw[bfs];omega
 |n+1,e::q,l=>by
  rw[bfs]
  split
  ·have:=bfs_len n (q++e.args) l;omega
  ·have:=bfs_len n q (l++ [e]);simp at this;omega
theorem conjF_len (st:GStmt):(conjF st).length≤4096:=by
 unfold conjF
 split
 ·have:=bfs_len 4096 [st.where_] [];simpa using this
 ·simp
theorem tabOf_cases (name:List UInt8):tabOf name= -1∨tabOf name=0∨tabOf name=1∨tabOf name=2:=by
 have h:=findF_ge (fun T:GTable=>T.name==name) tabsS 0
 have hl:tabsS.length=3:=rfl
 rw[hl]at h
 unfold tabOf
 omega
theorem cutR_mem: ∀(l:List GExpr) (rs:List Int) (r:Int),r∈cutR l rs→r∈rs
 | [],_,_,h=>h
 |e::l,rs,r,h=>by
  have h1:cutR (e::l) rs=cutR l (match against e [82]with|none=>rs|some (s,v)=>if s= [61]∧v.kind=2 then keepF v.n rs else rs):=rfl
  rw[h1]at h
  have:=cutR_mem l _ r h
  split at this
  ·exact this
  ·split at this
   ·exact(List.mem_filter.1 this).1
   ·exact this
theorem regionsF_mem {t:Int} {st:GStmt} {r:Int} (h:r∈regionsF t st):r= -1∨r=0∨r=1:=by
 unfold regionsF at h
 split at h
 ·have:=cutR_mem _ _ _ h;simp at this;omega
 ·split at h
  ·simp at h;omega
  ·split at h
   ·simp at h;omega
   ·simp at h
theorem regionsF_len (t:Int) (st:GStmt):(regionsF t st).length≤2:=by
 unfold regionsF
 split
 ·exact cutR_len _ _
 ·split
  ·simp
  ·split<;>simp
def VOk (st:GStmt):Prop:= ∀e∈conjF st,∀name s v,against e name=some (s,v)→v.ok
theorem gS_a0 {b:List V} {rows:List (List V)} {A:List Nat} {τ:St} {h:0<(gS b rows A++τ).length}:(gS b rows A++τ)[0]'h= .box b:=rfl
theorem gS_take3 {b:List V} {rows:List (List V)} {A:List Nat} {x:Ob} {τ:St}:(gS b rows A++x::τ).take (A.length+3)=gS b rows A++ [x]:=by
 have e:(gS b rows A++ [x]).length=A.length+3:=by rw[List.length_append,gS_len];rfl
 rw[show gS b rows A++x::τ=(gS b rows A++ [x])++τ by simp,←e,List.take_left]
theorem nSt_len (N:List (Int×List GSpan×Nat)) (A:List Nat):(nSt N A).length=A.length+2:=gS_len
theorem nSt_ok {N:List (Int×List GSpan×Nat)} {A:List Nat} (h:NOk N A):(nSt N A).all (ltOb (nSt N A).length)=true:=by rw[nSt_len];exact gS_ok N A h
theorem nT_ok {N:List (Int×List GSpan×Nat)} {A:List Nat} (h:NOk N A):(nSt N A++ [.box [.sl .ro regsS,.sl .ro (tabsS.map GTable.row)]]:St).all (ltOb (A.length+3))=true:=by
 rw[List.all_append,Bool.and_eq_true]
 refine⟨?_,by simp[ltOb,ltC,ltK]⟩
 have:=gS_ok N A h
 rw[List.all_eq_true]at this⊢
 exact fun o ho=>ltOb_mono (by omega) (this o ho)
theorem schB_ok:([.box [.sl .ro regsS,.sl .ro (tabsS.map GTable.row)]]:St).all (ltOb 0)=true:=by simp[ltOb,ltC,ltK]
def RowC (rowF:Int→List GExpr→US→US) (st:GStmt):Prop:= ∀r∈st.rows,∀N A,NOk N A→Bd 1000 (uOf N)→
 VCalls Tryz.prog 33 [.ptr 0 0,schR tabsS,.int .i64 (tabOf st.table),.sl .ro (r.map GExpr.row)] (nSt N A) (fun x s=>x= .tup []∧ ∃N' A',s=nSt N' A'∧NOk N' A'∧uOf N'=rowF (tabOf st.table) r (uOf N))
theorem uOf_bd {n:Nat} {N:List (Int×List GSpan×Nat)} (h:Bd n (uOf N)):N.length≤n∧ ∀y∈N,y.2.1.length≤n:=by
 unfold Bd uOf at h
 refine⟨by simpa using h.1,fun y hy=> ?_⟩
 have:=h.2 (y.1,y.2.1) (List.mem_map.2 ⟨y,hy,rfl⟩)
 exact this
set_option maxHeartbeats 2000000 in
theorem Needs_w (rowF:Int→List GExpr→US→US) (hrowB: ∀t r n U,Bd n U→Bd (n+1) (rowF t r U)) (l:GLot) (hl:l.stmts.length≤maxLen) (hv: ∀st∈l.stmts,VOk st) (hcnt:(l.stmts.map cntF).sum≤900) (hrl: ∀st∈l.stmts,st.rows.length≤maxLen) (hrow: ∀st∈l.stmts,st.kind=2→tabOf st.table≠ -1→RowC rowF st):
  Pure Tryz.prog 15 [schR tabsS,.agg l.row] (.sl .ro ((l.stmts.foldl (stepF rowF) []).map uRow)):=by
 obtain⟨L,hL⟩: ∃L,l.stmts=L:=⟨_,rfl⟩
 rw[hL]at hl hv hcnt hrl hrow⊢
 generalize hM:L.foldl (stepF rowF) []=M
 refine VCalls.introV 0 Tryz.func15 Tryz.ntmps15 Tryz.results15 rfl rfl (Nat.le_of_ble_eq_true rfl) fun c hc hb=> ?_
 refine wVW_code ?_
 simp[go_sem,schR,hL]
 refine wVW_nilB 2 0 2 [.sl .full []] (by decide) (by simp[go_sem]) (by simp) ?_
 refine wVW_while (S:=Nat×List (Int×List GSpan×Nat)×List Nat) [2,5,20,21,22] (fun u=> [.ptr (u.2.2.length+2) 0,.ptr 0 0,.sl .ro (L.map GStmt.row),.int .i64 L.length,.int .i64 u.1])
  (fun u=>nSt u.2.1 u.2.2++ [.box [.sl .ro regsS,.sl .ro (tabsS.map GTable.row)]]) (fun u=>L.length - u.1)
  (fun u=>u.1≤L.length∧NOk u.2.1 u.2.2∧(L.drop u.1).foldl (stepF rowF) (uOf u.2.1)=M∧ ∃n,Bd n (uOf u.2.1)∧n+((L.drop u.1).map cntF).sum≤900) hc hb (0,[],[])
  ⟨Nat.zero_le _,⟨fun x hx=>by simp at hx,List.nodup_nil,List.Pairwise.nil⟩,hM,0,⟨Nat.le_refl _,fun y hy=>by simp[uOf]at hy⟩,by simpa using hcnt⟩ ?_ ?_
 ·exact at_pick [2,3,0] (by decide) rfl ⟨by simp[go_sem,renOb,renC,renK,ren],by simp[go_sem,renOb],by simp[go_sem,renOb,renC,renK],trivial⟩ ⟨.inl (by simp[go_sem,renS,renA,renC,renK,ren]),.inl (by simp[go_sem,renS,renA,renC,renK,ren]),argS_ro,argS_no rfl,argS_no rfl,trivial⟩
 rintro⟨i,N,A⟩ ⟨hi,hok,hinv,n,hbd,hn⟩
 simp only at hi hok hinv hbd hn
 by_cases q:i<L.length
 rotate_left
 ·rw[List.drop_eq_nil_of_le (by omega)]at hinv
  have hNM:uOf N=M:=hinv
  refine wVW_code ?_
  unfold nSt
  simp[go_sem,q,gS_get0,gS_a0]
  refine wret_frz 1 2 (N.map nRow) gS_get1 (n_pure N) ?_
  simp only[frzS,frzA,frzC,frzK,List.length_map,Nat.zero_add,Nat.le_refl,and_self,if_true,chunk_n,hNM]
  exact wret_0 argS_ro ⟨rfl,rfl⟩
 have ei:=i64_inc q (by unfold maxLen at hl;omega)
 obtain⟨st,hst⟩: ∃st,L[i]=st:=⟨_,rfl⟩
 have hstm:st∈L:=hst▸List.getElem_mem q
 rw[List.drop_eq_getElem_cons q,hst]at hinv hn
 rw[List.map_cons,List.sum_cons]at hn
 rw[List.foldl_cons]at hinv
 have hfi:=Find_w tabsS st.table (by decide)
 rw[show findF (fun t:GTable=>t.name==st.table) tabsS 0=tabOf st.table from rfl]at hfi
 obtain⟨t,ht⟩: ∃t,tabOf st.table=t:=⟨_,rfl⟩
 have htc:=tabOf_cases st.table
 rw[ht]at hfi htc
 refine wVW_code ?_
 unfold nSt
 simp[go_sem,q,hst,gS_len,gS_get2,gS_get3]
 refine wVC_pure hfi Tryz.callB32 (args_eq (by simp[go_sem,schR]) rfl) rfl ?_
 by_cases htn:t= -1
 ·have hF:stepF rowF (uOf N) st=uOf N:=by unfold stepF;rw[ht,if_pos (by omega)]
  rw[hF]at hinv
  subst htn
  simp[go_sem,ei]
  refine next_i (i+1,N,A) ⟨by simp only;omega,⟨by simp only;omega,hok,hinv,n,hbd,by simp only;omega⟩, ?_⟩
  exact at_n (A.length+3) gS_take3 (by simp[gS_len,nSt_len]) (nT_ok hok) (Nat.zero_le _) (args_lt_eq (by simp[go_sem]) (by simp[ltS,ltA,ltC,ltK]))
 have ht0: ¬t<0:=by omega
 have htl:decide (t<0)=false:=decide_eq_false ht0
 by_cases hk:st.kind=2
 ·have hk':(st.kind==2)=true:=by simpa using hk
  simp[go_sem,htl,hk',gS_len,gS_get2,gS_get3]
  have hrc:=hrow st hstm hk (by rw[ht];exact htn)
  have hrs:=hrl st hstm
  have hcn:cntF st=st.rows.length:=by unfold cntF;rw[if_pos hk]
  rw[hcn]at hn
  have hF:stepF rowF (uOf N) st=st.rows.foldl (fun U r=>rowF t r U) (uOf N):=by unfold stepF;rw[ht,if_neg ht0,if_pos hk]
  rw[hF]at hinv
  obtain⟨U2,hU2⟩: ∃U2,st.rows.foldl (fun U r=>rowF t r U) (uOf N)=U2:=⟨_,rfl⟩
  rw[hU2]at hinv
  refine wVW_while (S:=Nat×List (Int×List GSpan×Nat)×List Nat) [2,5,8,20,21,22,68,69,70] (fun u=> [.ptr (u.2.2.length+2) 0,.ptr 0 0,.int .i64 t,.sl .ro (L.map GStmt.row),.int .i64 L.length,.int .i64 i,.sl .ro (st.rows.map fun l=> [V.sl .ro (l.map GExpr.row)]),.int .i64 st.rows.length,.int .i64 u.1])
   (fun u=>nSt u.2.1 u.2.2++ [.box [.sl .ro regsS,.sl .ro (tabsS.map GTable.row)]]) (fun u=>st.rows.length - u.1)
   (fun u=>u.1≤st.rows.length∧NOk u.2.1 u.2.2∧(st.rows.drop u.1).foldl (fun U r=>rowF t r U) (uOf u.2.1)=U2∧ ∃m,Bd m (uOf u.2.1)∧m+(st.rows.length - u.1)+((L.drop (i+1)).map cntF).sum≤900) hc hb (0,N,A)
   ⟨Nat.zero_le _,hok,hU2,n,hbd,by simp only;omega⟩ ?_ ?_
  ·exact at_n (A.length+3) gS_take3 (by simp[gS_len,nSt_len]) (nT_ok hok) (Nat.zero_le _) (args_lt_eq (by simp[go_sem]) (by simp[ltS,ltA,ltC,ltK]))
  rintro⟨j,N1,A1⟩ ⟨hj,hok1,hinv1,m,hbd1,hm⟩
  simp only at hj hok1 hinv1 hbd1 hm
  by_cases qj:j<st.rows.length
  rotate_left
  ·rw[List.drop_eq_nil_of_le (by omega)]at hinv1
   have hNU:uOf N1=U2:=hinv1
   refine wVW_code ?_
   simp[go_sem,qj,ei]
   refine next_i (i+1,N1,A1) ⟨by simp only;omega,⟨by simp only;omega,hok1,by rw[hNU];exact hinv,m,hbd1,by simp only;omega⟩, ?_⟩
   exact at_n (A1.length+3) (by rw[List.take_of_length_le (by simp[nSt_len])];rfl) (by simp[nSt_len,gS_len]) (nT_ok hok1) (Nat.zero_le _) (args_lt_eq (by simp[go_sem]) (by simp[ltS,ltA,ltC,ltK]))
  have ej:=i64_inc qj (by unfold maxLen at hrs;omega)
  obtain⟨r,hr⟩: ∃r,st.rows[j]=r:=⟨_,rfl⟩
  have hrm:r∈st.rows:=hr▸List.getElem_mem qj
  rw[List.drop_eq_getElem_cons qj,hr,List.foldl_cons]at hinv1
  have hcall:=hrc r hrm N1 A1 hok1 ⟨by have:=hbd1.1;omega,fun y hy=>by have:=hbd1.2 y hy;omega⟩
  rw[ht]at hcall
  refine wVW_code ?_
  unfold nSt
  simp[go_sem,qj,hr,gS_len,gS_get2,gS_get3]
  refine wVC_front hcall Tryz.callB33 (nSt_ok hok1) schB_ok ⟨argS_lt (n:=(nSt N1 A1).length) (by simp[ltS,ltA,ltC,ltK,nSt_len]),argS_no rfl,argS_no rfl,argS_ro,trivial⟩ (fun r s h=>by
   obtain⟨rfl,N2,A2,rfl,h2,_⟩:=h
   exact⟨rfl,nSt_ok h2⟩) ?_
  rintro r s ⟨rfl,N2,A2,rfl,hok2,hu2⟩ hle σ' pick hF2
  simp[go_sem,ej]
  refine next_i (j+1,N2,A2) ⟨by simp only;omega,⟨by simp only;omega,hok2,by simp only;rw[hu2];exact hinv1,m+1,by simp only;rw[hu2];exact hrowB _ _ _ _ hbd1,by simp only;omega⟩, ?_⟩
  refine at_front hF2 ⟨.inl ?_,.inl ?_,argS_no rfl,argS_ro,argS_no rfl,argS_no rfl,argS_ro,argS_no rfl,.inl (by simp[go_sem]),trivial⟩
  ·have:=hF2.ren2 (M:=σ'.length) (i:=0) (by simp)
   rw[nSt_len,gS_len]at this
   simp[go_sem,renS,renA,renC,renK]at this⊢
   exact this.symm
  ·have:=hF2.ren1 (M:=σ'.length) (i:=0) (by rw[gS_len];omega)
   simp[go_sem,renS,renA,renC,renK,this]
 have hk':(st.kind==2)=false:=by simpa using hk
 have hcn:cntF st=2:=by unfold cntF;rw[if_neg hk]
 rw[hcn]at hn
 have hbo:=Bounds_w regsS tabsS t st (by decide) (fun T hT=>by rw[show tabsS= [tabT,tabG,tabH] from rfl]at hT;simp at hT;rcases hT with rfl|rfl|rfl<;>decide) (by have:=conjF_len st;unfold maxLen;omega) (hv st hstm)
 have hre:=Regions_w t st (by have:=conjF_len st;unfold maxLen;omega)
 obtain⟨b,hb0⟩: ∃b,boundsF tabsS t st=b:=⟨_,rfl⟩
 obtain⟨rs,hrs⟩: ∃rs,regionsF t st=rs:=⟨_,rfl⟩
 rw[hb0]at hbo
 have hrsl:=regionsF_len t st
 have hrsm:=fun r=>regionsF_mem (t:=t) (st:=st) (r:=r)
 rw[hrs]at hre hrsl hrsm
 have hF:stepF rowF (uOf N) st=rs.foldl (regNeed t b) (uOf N):=by unfold stepF;rw[ht,if_neg ht0,if_neg hk,hrs,hb0]
 rw[hF]at hinv
 obtain⟨U2,hU2⟩: ∃U2,rs.foldl (regNeed t b) (uOf N)=U2:=⟨_,rfl⟩
 rw[hU2]at hinv
 simp[go_sem,htl,hk',gS_len,gS_get2,gS_get3]
 refine wVC_pure hbo Tryz.callB24 (args_eq (by simp[go_sem]) rfl) rfl ?_
 simp[go_sem,pairS,gS_len,gS_get2,gS_get3]
 refine wVC_pure hre Tryz.callB26 (args_eq (by simp[go_sem,schR]) rfl) rfl ?_
 simp[go_sem]
 refine wVW_while (S:=Nat×List (Int×List GSpan×Nat)×List Nat) [2,5,8,11,12,20,21,22,40,41,42] (fun u=> [.ptr (u.2.2.length+2) 0,.ptr 0 0,.int .i64 t,.str b.1,.str b.2,.sl .ro (L.map GStmt.row),.int .i64 L.length,.int .i64 i,.sl .ro (rs.map intRow),.int .i64 rs.length,.int .i64 u.1])
  (fun u=>nSt u.2.1 u.2.2++ [.box [.sl .ro regsS,.sl .ro (tabsS.map GTable.row)]]) (fun u=>rs.length - u.1)
  (fun u=>u.1≤rs.length∧NOk u.2.1 u.2.2∧(rs.drop u.1).foldl (regNeed t b) (uOf u.2.1)=U2∧ ∃m,Bd m (uOf u.2.1)∧m+(rs.length - u.1)+((L.drop (i+1)).map cntF).sum≤900) hc hb (0,N,A)
  ⟨Nat.zero_le _,hok,hU2,n,hbd,by simp only;omega⟩ ?_ ?_
 ·exact at_n (A.length+3) gS_take3 (by simp[gS_len,nSt_len]) (nT_ok hok) (Nat.zero_le _) (args_lt_eq (by simp[go_sem]) (by simp[ltS,ltA,ltC,ltK]))
 rintro⟨j,N1,A1⟩ ⟨hj,hok1,hinv1,m,hbd1,hm⟩
 simp only at hj hok1 hinv1 hbd1 hm
 by_cases qj:j<rs.length
 rotate_left
 ·rw[List.drop_eq_nil_of_le (by omega)]at hinv1
  have hNU:uOf N1=U2:=hinv1
  refine wVW_code ?_
  simp[go_sem,qj,ei]
  refine next_i (i+1,N1,A1) ⟨by simp only;omega,⟨by simp only;omega,hok1,by rw[hNU];exact hinv,m,hbd1,by simp only;omega⟩, ?_⟩
  exact at_n (A1.length+3) (by rw[List.take_of_length_le (by simp[nSt_len])];rfl) (by simp[nSt_len,gS_len]) (nT_ok hok1) (Nat.zero_le _) (args_lt_eq (by simp[go_sem]) (by simp[ltS,ltA,ltC,ltK]))
 have ej:=i64_inc qj (by omega)
 obtain⟨r,hr⟩: ∃r,rs[j]=r:=⟨_,rfl⟩
 have hrm:=hrsm r (hr▸List.getElem_mem qj)
 rw[List.drop_eq_getElem_cons qj,hr,List.foldl_cons]at hinv1
 have hrg:=Range_at t r (by omega) (by omega)
 have hbd1':=uOf_bd hbd1
 have hcall:=need_w N1 A1 hok1 (rangeS t r).1 ⟨b.1,b.2⟩ (by omega) (fun y hy=>by have:=hbd1'.2 y hy;omega)
 obtain⟨⟨g,ge⟩,hg⟩: ∃g,rangeS t r=g:=⟨_,rfl⟩
 have hun:regNeed t b (uOf N1) r=needF g ⟨b.1,b.2⟩ (uOf N1):=by unfold regNeed;rw[hg]
 rw[hg]at hrg hcall
 rw[hun]at hinv1
 refine wVW_code ?_
 unfold nSt
 simp[go_sem,qj,hr,gS_len,gS_get2,gS_get3]
 refine wVC_pure hrg Tryz.callB34 (args_eq (by simp[go_sem,schR]) rfl) rfl ?_
 simp[go_sem,rangeV]
 refine wVC_front hcall Tryz.callB35 (nSt_ok hok1) schB_ok ⟨argS_lt (n:=(nSt N1 A1).length) (by simp[ltS,ltA,ltC,ltK,nSt_len]),argS_no rfl,argS_no rfl,trivial⟩ (fun r s h=>by
  obtain⟨rfl,N2,A2,rfl,h2,_⟩:=h
  exact⟨rfl,nSt_ok h2⟩) ?_
 rintro r' s ⟨rfl,N2,A2,rfl,hok2,hu2⟩ hle σ' pick hF2
 simp[go_sem,ej]
 refine next_i (j+1,N2,A2) ⟨by simp only;omega,⟨by simp only;omega,hok2,by simp only;rw[hu2];exact hinv1,m+1,by simp only;rw[hu2];exact hbd1.need _ _,by simp only;omega⟩, ?_⟩
 refine at_front hF2 ⟨.inl ?_,.inl ?_,argS_no rfl,argS_no rfl,argS_no rfl,argS_ro,argS_no rfl,argS_no rfl,argS_ro,argS_no rfl,.inl (by simp[go_sem]),trivial⟩
 ·have:=hF2.ren2 (M:=σ'.length) (i:=0) (by simp)
  rw[nSt_len,gS_len]at this
  simp[go_sem,renS,renA,renC,renK]at this⊢
  exact this.symm
 ·have:=hF2.ren1 (M:=σ'.length) (i:=0) (by rw[gS_len];omega)
  simp[go_sem,renS,renA,renC,renK,this]
end Go.Proofs.YtajjjghohakniaaGreat
