/-
  Running code over trees: what a closed run comes to, and that the contracts say the same.
  No condition: a library text; nothing of the program is named.
-/
import Derived.Test.YtajjjghohakniaaGreatKAS
import Derived.Test.YtajjjghohakniaaGreatKAP
namespace Go.Vx
open Go
theorem yW1 (t s:Nat) (rows:List (List V)) {P:Program} {c:Ctx} {nt:Nat} {e:Env} {σ:St} {Q:QT} {y:Code} (h0:0<s) (hu:uni s rows) (ht:e t= .sl .full rows) (hy:wVW P c nt y Q fx fx (upd e t (.sl (.app σ.length) rows)) (σ++ [.app rows.length s])):wVW P c nt y Q fx fx e σ:=by
 intro a w L β hs
 have hr:=hs.env t
 rw[ht]at hr
 have hr:RdP w L (.sl .full rows) (a.tmps.getD t undef):=hr
 obtain⟨ad,hx,hro⟩: ∃ad,a.tmps.getD t undef= .slice ad rows.length rows.length∧RdP w L (.sl .ro rows) (.slice ad rows.length rows.length):=by
  generalize a.tmps.getD t undef=x at hr
  cases hr with
  |sl0 g ad cap hg ha=>have:=hg rfl;subst this;exact⟨ad,rfl,.sl0 .ro ad 0 (fun h=>by cases h) (fun _ h=>by cases h)⟩
  |sl g rows s b o cap c ha hs hlen hlim hcap hg hc hr=>have:=hg rfl;subst this;exact⟨_,rfl,.sl .ro rows s b o _ c (fun _ h=>by cases h) hs hlen hlim hcap (fun h=>by cases h) hc hr⟩
 have hext:=Ext.push σ β hs.mem.len (.app rows.length s) (.slice ad rows.length rows.length)
 refine hy a w L (β++ [.slice ad rows.length rows.length]) ⟨hs.mem.own h0,hs.size,hs.defs,fun k=> ?_⟩
 simp only[upd]
 split
 ·rename_i hk
  subst hk
  rw[hx]
  exact⟨hro,rows.length,s,by simp,Nat.le_refl _,fun _=>by rw[←hs.mem.len];simp,hu⟩
 ·exact(hs.env k).mono (Le.refl _ _) hext
theorem xm2 {P:Program} {c:Ctx} {σ:St} (i j:Nat) {o p:Ob} {f:FuncId} {caps args args':List V} {KV:V→St→Prop} {R:V→St→Prop} (hc:VCalls P f args' [o,p] R) (hb:zK P f=true) (hij:i≠j) (ho:σ[i]? =some o) (hp:σ[j]? =some p) (hok:ltOb 0 o=true) (hpk:ltOb 0 p=true)
  (hargs:All2 (argS (ren [i,j] σ.length)) args' (args++caps)) (hR: ∀r s,R r s→ ∃o2 p2,s= [o2,p2]∧ltOb 0 o2=true∧ltOb 0 p2=true) (hK: ∀r o2 p2,R r [o2,p2]→KV (renS (ren [i,j] σ.length) r) ((σ.set i o2).set j p2)):wVC P c (.fn f caps) args σ KV fx:=by
 have hno: ∀q:Ob,ltOb 0 q=true→yF (ren [i,j] σ.length) q=q:=fun q h=>zf9 (n:=0) (fun _ h=>absurd h (Nat.not_lt_zero _)) h
 refine VC.of hc hb [i,j] (by simpa using hij) rfl (fun k l q h1 h2=> ?_) hargs fun r s h _=> ?_
 ·match k with
  |0=>simp at h1 h2;subst h1;subst h2;rw[hno _ hok];exact ho
  |1=>simp at h1 h2;subst h1;subst h2;rw[hno _ hpk];exact hp
  |k+2=>simp at h1
 ·obtain⟨o2,p2,rfl,h1,h2⟩:=hR r s h
  have e:xR [i,j] σ [o2,p2]=(σ.set i o2).set j p2:=by
   simp only[xR,List.length_cons,List.length_nil,List.take_succ_cons,List.take_zero,List.drop_succ_cons,List.drop_zero,List.map_cons,List.map_nil,mset,List.append_nil,hno _ h1,hno _ h2]
  rw[e];exact hK r o2 p2 h
theorem zt1 (pick:List Nat) {n0:Nat} {R:V→St→Prop} {σ s:St} {v r:V} (hnd:pick.Nodup) (hn: ∀i,i<n0→pick[i]? =some i) (hlen:s.length=pick.length) (hob: ∀(i j:Nat) (o:Ob),pick[i]? =some j→s[i]? =some o→σ[j]? =some (yF (ren pick σ.length) o)) (hr:argS (ren pick σ.length) r v) (hR:R r s):wret (some v) n0 R σ:=
 ⟨v,rfl,v,σ,pick,s,r,.refl _ _,⟨hlen,hnd,hob,hn⟩,hr,hR⟩
theorem VCalls.frz {P:Program} {f:FuncId} {args:List V} {v:V} {R:V→St→Prop} (h:VCalls P f args [] R) (hR: ∀r s,R r s→ ∃r' s',Frz [r] s [r'] s'∧argS (ren [] s'.length) v r'):Pure P f args v:=by
 intro w L β vals hm ha
 refine(h w L β vals hm ha).mono ?_
 rintro e w' ⟨x,r,L',σ',β',he,hr,hl,hm',hrd⟩
 obtain⟨r',s',hf,hv⟩:=hR r σ' hr
 obtain⟨L2,β2,hm2,hle2,hext2,hv2⟩:=hf.ok hm' (show All2 (RdS w' L' σ' β') [r] [x] from⟨hrd,trivial⟩)
 have hβ:β.length=([]:St).length:=hm.len
 have hp:Picks (zp4 w L [] β).σ0.length [] s' []:=⟨rfl,List.nodup_nil,fun i j o q=>by simp at q,fun i q=>absurd q (Nat.not_lt_zero i)⟩
 have hm3:=hm2.pick hp hβ
 refine⟨x,v,L2,[],[],he,⟨rfl,rfl⟩,Nat.le_refl _,hm3, ?_⟩
 exact zA6 (hp.bak hm2.len) hv hv2.1
end Go.Vx
namespace Go.Vx
open Go
structure Front (k:Nat) (τ s σ':St) (pick:List Nat):Prop where
 picks:Picks 0 pick σ' (s++τ)
 first: ∀i,i<k→pick[i]? =some i
 rest: ∀i,i<τ.length→pick[s.length+i]? =some (k+i)
theorem Front.ren1 {k:Nat} {τ s σ':St} {pick:List Nat} (h:Front k τ s σ' pick) {M i:Nat} (hi:i<k):ren pick M i=i:=by
 have h1:=h.first i hi
 obtain⟨hl,e⟩:=List.getElem?_eq_some_iff.1 h1
 unfold ren;rw[dif_pos hl];exact e
theorem Front.ren2 {k:Nat} {τ s σ':St} {pick:List Nat} (h:Front k τ s σ' pick) {M i:Nat} (hi:i<τ.length):ren pick M (s.length+i)=k+i:=by
 have h1:=h.rest i hi
 obtain⟨hl,e⟩:=List.getElem?_eq_some_iff.1 h1
 unfold ren;rw[dif_pos hl];exact e
theorem ys0 {n m:Nat} (h:n≤m) {v:V} (hv:ltK n v=true):ltK m v=true:=by
 cases v with
 |sl g rows=>cases g<;>simp_all[ltK]<;>omega
 |_=>simp_all[ltK]<;>omega
theorem zM4 {n m:Nat} (h:n≤m) {v:V} (hv:ltC n v=true):ltC m v=true:=by
 cases v with
 |fn f caps=>
  simp only[ltC,List.all_eq_true]at hv⊢
  exact fun x hx=>ys0 h (hv x hx)
 |_=>simp only[ltC]at hv⊢;exact ys0 h hv
theorem xb3 {n m:Nat} (h:n≤m) {v:V} (hv:ltA n v=true):ltA m v=true:=by
 cases v with
 |agg cs=>
  simp only[ltA,List.all_eq_true]at hv⊢
  exact fun x hx=>zM4 h (hv x hx)
 |_=>simp only[ltA]at hv⊢;exact zM4 h hv
theorem yS7 {n m:Nat} (h:n≤m) {o:Ob} (ho:ltOb n o=true):ltOb m o=true:=by
 cases o with
 |box cells=>simp only[ltOb,List.all_eq_true]at ho⊢;exact fun x hx=>zM4 h (ho x hx)
 |lst rows s=>simp only[ltOb,List.all_eq_true]at ho⊢;exact fun r hr x hx=>zM4 h (ho r hr x hx)
 |mp kvs borns clk=>simp only[ltOb,List.all_eq_true]at ho⊢;exact fun x hx=>xb3 h (ho x hx)
 |it m' since seen last=>cases m' with
  |none=>rfl
  |some i=>simp only[ltOb,decide_eq_true_eq]at ho⊢;omega
 |_=>rfl
theorem zZ9 {ρ ρ':Nat→Nat} {n:Nat} {v:V} (h: ∀i,i<n→ρ i=ρ' i) (hv:ltK n v=true):renK ρ v=renK ρ' v:=by
 cases v with
 |sl g rows=>cases g<;>simp_all[renK,ltK]
 |_=>simp_all[renK,ltK]
theorem zB8 {ρ ρ':Nat→Nat} {n:Nat} {v:V} (h: ∀i,i<n→ρ i=ρ' i) (hv:ltC n v=true):renC ρ v=renC ρ' v:=by
 cases v with
 |fn f caps=>
  simp only[ltC,List.all_eq_true]at hv
  simp only[renC]
  congr 1
  exact List.map_congr_left fun x hx=>zZ9 h (hv x hx)
 |_=>simp only[renC];exact zZ9 (n:=n) h (by simpa only[ltC]using hv)
theorem yG2 {ρ ρ':Nat→Nat} {n:Nat} {v:V} (h: ∀i,i<n→ρ i=ρ' i) (hv:ltA n v=true):renA ρ v=renA ρ' v:=by
 cases v with
 |agg cs=>
  simp only[ltA,List.all_eq_true]at hv
  simp only[renA]
  congr 1
  exact List.map_congr_left fun x hx=>zB8 h (hv x hx)
 |_=>simp only[renA];exact zB8 (n:=n) h (by simpa only[ltA]using hv)
theorem zS8 {ρ ρ':Nat→Nat} {n:Nat} {o:Ob} (h: ∀i,i<n→ρ i=ρ' i) (ho:ltOb n o=true):yF ρ o=yF ρ' o:=by
 cases o with
 |box cells=>
  simp only[ltOb,List.all_eq_true]at ho
  simp only[yF]
  congr 1
  exact List.map_congr_left fun x hx=>zB8 h (ho x hx)
 |lst rows s=>
  simp only[ltOb,List.all_eq_true]at ho
  simp only[yF]
  congr 1
  exact List.map_congr_left fun r hr=>List.map_congr_left fun x hx=>zB8 h (ho r hr x hx)
 |mp kvs borns clk=>
  simp only[ltOb,List.all_eq_true]at ho
  simp only[yF]
  congr 1
  exact List.map_congr_left fun x hx=>yG2 h (ho x hx)
 |it m since seen last=>
  cases m with
  |none=>rfl
  |some i=>simp only[ltOb,decide_eq_true_eq]at ho;simp[yF,h i ho]
 |_=>rfl
theorem zG8 {P:Program} {c:Ctx} {f:FuncId} {caps args args':List V} {σin τ:St} {KV:V→St→Prop} {R:V→St→Prop} (hc:VCalls P f args' σin R) (hb:zK P f=true) (hin:σin.all (ltOb σin.length)=true) (hτ:τ.all (ltOb 0)=true)
  (hargs:All2 (argS (ren (List.range σin.length) (σin.length+τ.length))) args' (args++caps))
  (hR: ∀r s,R r s→noS r=true∧s.all (ltOb s.length)=true)
  (hk: ∀r s,R r s→σin.length≤s.length→ ∀σ' pick,Front σin.length τ s σ' pick→KV r σ'):wVC P c (.fn f caps) args (σin++τ) KV fx:=by
 have hσl:(σin++τ).length=σin.length+τ.length:=List.length_append
 refine VC.of hc hb (List.range σin.length) List.nodup_range (by simp) (fun i j o h1 h2=> ?_) (by rw[hσl];exact hargs) fun r s hr hl=> ?_
 ·obtain⟨h3,h4⟩:=List.getElem?_eq_some_iff.1 h1
  simp at h3 h4
  subst h4
  rw[List.getElem?_append_left h3,h2]
  have ho:ltOb σin.length o=true:=by
   rw[List.all_eq_true]at hin
   exact hin o (List.mem_iff_getElem?.2 ⟨i,h2⟩)
  rw[zf9 (n:=σin.length) (fun i hi=>zc8 hi) ho]
 ·obtain⟨hno,hs⟩:=hR r s hr
  rw[zv9 hno]
  rw[List.length_range]at hl
  obtain⟨k,hk0⟩: ∃k,σin.length=k:=⟨_,rfl⟩
  rw[hk0]at hl hk⊢
  obtain⟨σ',hσ'⟩: ∃σ',xR (List.range k) (σin++τ) s=σ':=⟨_,rfl⟩
  rw[hσ']
  have hσ0:(σin++τ).length=k+τ.length:=by rw[hσl,hk0]
  have hσ'l:σ'.length=s.length+τ.length:=by
   rw[←hσ',zq7,hσ0,List.length_range];omega
  have hold: ∀i o,s[i]? =some o→σ'[if i<k then i else i+τ.length]? =some (yF (ren (List.range k) (k+τ.length)) o):=fun i o ho=>by
   have:=zm8 (sel:=List.range k) (σc:=σin++τ) (σ':=s) List.nodup_range (fun q hq=>by have:=List.mem_range.1 hq;omega) (by simpa using hl) ho
   rw[hσ',hσ0]at this
   by_cases hi:i<k
   ·rw[if_pos hi];rwa [zc8 hi]at this
   ·rw[if_neg hi]
    rw[zp7 (by simp;omega),List.length_range]at this
    rw[show i+τ.length=k+τ.length+(i - k) by omega];exact this
  have hrest: ∀i,i<τ.length→σ'[k+i]? =τ[i]? :=fun i hi=>by
   rw[←hσ']
   unfold xR
   rw[List.getElem?_append_left (by rw[xM,hσ0];omega),ze3 _ _ _ _ (fun q=>by have:=List.mem_range.1 q;omega),List.getElem?_append_right (by omega),hk0]
   congr 1;omega
  refine hk r s hr hl σ' (List.range k++(List.range (s.length - k)).map (k+τ.length+ ·)++(List.range τ.length).map (k+ ·)) ?_
  obtain⟨pick,hp⟩: ∃pick,List.range k++(List.range (s.length - k)).map (k+τ.length+ ·)++(List.range τ.length).map (k+ ·)=pick:=⟨_,rfl⟩
  rw[hp]
  have hpl:pick.length=s.length+τ.length:=by rw[←hp];simp;omega
  have hp1: ∀i,i<k→pick[i]? =some i:=fun i hi=>by
   rw[←hp,List.append_assoc,List.getElem?_append_left (by simpa using hi),List.getElem?_range hi]
  have hp2: ∀i,k≤i→i<s.length→pick[i]? =some (i+τ.length):=fun i h1 h2=>by
   rw[←hp,List.getElem?_append_left (by simp;omega),List.getElem?_append_right (by simpa using h1),List.length_range,List.getElem?_map,List.getElem?_range (by omega),Option.map_some]
   congr 1;omega
  have hp3: ∀i,i<τ.length→pick[s.length+i]? =some (k+i):=fun i hi=>by
   rw[←hp,List.getElem?_append_right (by simp;omega)]
   simp only[List.length_append,List.length_range,List.length_map]
   rw[show s.length+i - (k+(s.length - k))=i by omega,List.getElem?_map,List.getElem?_range hi,Option.map_some]
  have hρ: ∀i,i<s.length→ren pick σ'.length i=ren (List.range k) (k+τ.length) i:=fun i hi=>by
   have hil:i<pick.length:=by omega
   unfold ren
   rw[dif_pos hil]
   by_cases h1:i<k
   ·rw[dif_pos (by simpa using h1)]
    have:=hp1 i h1
    rw[List.getElem?_eq_getElem hil]at this
    simp[Option.some.inj this]
   ·rw[dif_neg (by simpa using h1)]
    have:=hp2 i (by omega) hi
    rw[List.getElem?_eq_getElem hil]at this
    rw[Option.some.inj this,List.length_range]
    omega
  refine⟨⟨by rw[List.length_append,hpl], ?_,fun i j o hij ho=> ?_,fun i hi=>absurd hi (Nat.not_lt_zero i)⟩,hp1,hp3⟩
  ·rw[←hp]
   refine List.nodup_append.2 ⟨List.nodup_append.2 ⟨List.nodup_range, ?_,fun a ha b hb=> ?_⟩, ?_,fun a ha b hb=> ?_⟩
   ·exact List.Pairwise.map _ (fun a b q=>by omega) (List.nodup_range (n:=_))
   ·simp at ha hb;omega
   ·exact List.Pairwise.map _ (fun a b q=>by omega) (List.nodup_range (n:=_))
   ·simp only[List.mem_append,List.mem_range,List.mem_map]at ha hb
    obtain⟨b',hb',rfl⟩:=hb
    rcases ha with ha|⟨a',ha',rfl⟩<;>omega
  ·by_cases hi:i<s.length
   ·rw[List.getElem?_append_left hi]at ho
    have h1:=hold i o ho
    have h2:pick[i]? =some (if i<k then i else i+τ.length):=by
     by_cases q:i<k
     ·rw[if_pos q];exact hp1 i q
     ·rw[if_neg q];exact hp2 i (by omega) hi
    rw[h2]at hij;cases hij
    rw[h1]
    congr 1
    have hlt:ltOb s.length o=true:=by
     rw[List.all_eq_true]at hs
     exact hs o (List.mem_iff_getElem?.2 ⟨i,ho⟩)
    exact(zS8 hρ hlt).symm
   ·rw[List.getElem?_append_right (by omega)]at ho
    have hil:=(List.getElem?_eq_some_iff.1 ho).1
    have h2:=hp3 (i - s.length) hil
    rw[show s.length+(i - s.length)=i by omega]at h2
    rw[h2]at hij;cases hij
    rw[hrest _ hil,ho]
    have hlt:ltOb 0 o=true:=by
     rw[List.all_eq_true]at hτ
     exact hτ o (List.mem_iff_getElem?.2 ⟨_,ho⟩)
    rw[zf9 (n:=0) (fun _ h=>absurd h (Nat.not_lt_zero _)) hlt]
theorem yr7 {e:Env} {k:Nat} {τ s σ':St} {pick keep:List Nat} {vs:List V} (h:Front k τ s σ' pick) (ha:All2 (argS (ren pick σ'.length)) vs (keep.map e)):At 0 keep vs (s++τ) e σ':=⟨pick,h.picks,ha⟩
theorem zX7 {k n0:Nat} {τ s σ':St} {pick:List Nat} {R:V→St→Prop} {v:V} (h:Front k τ s σ' pick) (hn:n0≤k) (hs:s.all (ltOb s.length)=true) (hks:k≤s.length) (hv:noS v=true) (hR:R v s):wret (some v) n0 R σ':=by
 have hpl:pick.length=s.length+τ.length:=by rw[←h.picks.len,List.length_append]
 refine zt1 (pick.take s.length) ?_ (fun i hi=> ?_) (by simp;omega) (fun i j o hij ho=> ?_) (zA hv) hR
 ·exact h.picks.nodup.sublist (List.take_sublist _ _)
 ·rw[List.getElem?_take,if_pos (by omega)];exact h.first i (by omega)
 ·have hi:=(List.getElem?_eq_some_iff.1 ho).1
  rw[List.getElem?_take,if_pos hi]at hij
  rw[h.picks.ob i j o hij (by rw[List.getElem?_append_left hi];exact ho)]
  congr 1
  have hlt:ltOb s.length o=true:=by
   rw[List.all_eq_true]at hs
   exact hs o (List.mem_iff_getElem?.2 ⟨i,ho⟩)
  refine zS8 (fun q hq=> ?_) hlt
  unfold ren
  rw[dif_pos (by omega),dif_pos (by simp;omega)]
  simp
theorem xj3 {P:Program} {c:Ctx} {n:Nat} {f:FuncId} {caps args args':List V} {σ:St} {o o2:Ob} {v:V} {KV:V→St→Prop} (hc:VCalls P f args' [o] (fun r s=>r=v∧s= [o2])) (hb:zK P f=true) (ho:σ[0]? =some o) (hlt:ltOb 0 o=true) (hlt2:ltOb 0 o2=true)
  (hargs:All2 (argS (ren [0] σ.length)) args' (args++caps)) (hn:noS v=true) (hk:KV v (σ.set 0 o2)):wVD P c ⟨1,n⟩ 3 (.fn f caps) args σ KV fx:=by
 have hno: ∀q:Ob,ltOb 0 q=true→yF (ren [0] σ.length) q=q:=fun q h=>zf9 (n:=0) (fun _ h=>absurd h (Nat.not_lt_zero _)) h
 have e:xR [0] σ [o2]=σ.set 0 o2:=by
  simp only[xR,List.length_singleton,List.take_succ_cons,List.take_zero,List.drop_succ_cons,List.drop_zero,List.map_cons,List.map_nil,mset,List.append_nil,hno _ hlt2]
 refine yc7 hc hb [0] (by simp) rfl (fun i j q h1 h2=> ?_) hargs (.inr ?_) ?_
 ·match i with
  |0=>simp at h1 h2;subst h1;subst h2;rw[hno _ hlt];exact ho
  |i+1=>simp at h1
 ·rw[e];exact Kp.of_set (.inl Nat.zero_lt_one)
 ·rw[e,zv9 hn];exact hk
end Go.Vx
namespace Go.Vx
open Go
def yO (b:Bool):R→Prop
 | .need p _=>b=true→p
 | .needst p _ _=>b=true→p
 |_=>True
def uniB (s:Nat) (rows:List (List V)):Bool:=rows.all fun r=>r.length==s
theorem zl6 {s:Nat} {rows:List (List V)} (h:uniB s rows=true):uni s rows:=fun r hr=>by
 have:=List.all_eq_true.1 h r hr
 simpa using this
def xc3:List V→Bool
 | [.int .u8 _]=>true
 |_=>false
theorem xe4 {rows:List (List V)} (h:rows.all xc3=true):zM1 rows:=fun r hr=>by
 have:=List.all_eq_true.1 h r hr
 unfold xc3 at this
 split at this
 ·exact⟨_,rfl⟩
 ·cases this
def zV4 (op:BinOp) (y:Int):Bool:=
 match op with
 | .quo| .rem=>decide (y≠0)
 | .shl| .shr=>decide (0≤y)
 |_=>true
def yo3 (op:BinOp) (x y:List UInt8):Bool:=
 match op with
 | .add=>decide (x.length+y.length≤9223372036854775807)
 |_=>true
def binB (op:BinOp) (x y:V):Bool:=
 match x,y with
 | .int _ _,.int _ b=>zV4 op b
 | .str a,.str b=>yo3 op a b
 |_,_=>true
theorem yq6 (op:BinOp) (k:IntKind) (x y:Int):yO (zV4 op y) (zJ4 op k x y):=by
 cases op<;>simp[zJ4,zV4,yO]
theorem yw6 (op:BinOp) (x y:List UInt8):yO (yo3 op x y) (zK4 op x y):=by
 cases op<;>simp[zK4,yo3,yO]
theorem xe6 (op:BinOp) (ek:Nat) (es:Option (List Pk)) (x y:V):yO (binB op x y) (zl3 op ek es x y):=by
 unfold zl3
 split
 ·simp only[binB]
  split
  ·exact yq6 ..
  ·cases op<;>simp[zV4,yO]
 ·exact yw6 ..
 all_goals (repeat' split)<;>trivial
theorem yC8 (op:BinOp) (ek:Nat) (x:V) (b:Bool):yO b (zr0 op ek x):=by
 unfold zr0 yx4
 (repeat' split)<;>trivial
def zX2 (sl:Option Nat) (ar:Option (Nat×Nat×Bool)) (x i:V):Bool:=
 match x,i with
 | .sl _ rows,.int _ k=>(match sl with|some s=>decide (0≤k∧k<rows.length∧(rows.getD k.toNat []).length=s)|none=>true)
 | .ptr _ _,.int _ k=>(match ar with|some (n,_,_)=>decide (0≤k∧k<n)|none=>true)
 | .elp _ _,.int _ k=>(match ar with|some (n,_,_)=>decide (0≤k∧k<n)|none=>true)
 | .lsv _ _ _ _ m,.int _ k=>decide (0≤k∧k<m)
 | .bsv _ _ _ n,.int _ k=>decide (0≤k∧k<n)
 |_,_=>true
theorem yj9 (sl:Option Nat) (ar:Option (Nat×Nat×Bool)) (x i:V):yO (zX2 sl ar x i) (zh1 sl ar x i):=by
 unfold zh1
 split
 all_goals first|trivial|simp only[zX2]
 all_goals split<;>first|trivial|simp only[yO,decide_eq_true_eq,imp_self]
def idxB (x i:V) (ar:Option (Nat×Nat×Bool)):Bool:=
 match x,i with
 | .str b,.int _ k=>decide (0≤k∧k<b.length)
 | .agg cs,.int _ k=>(match ar with|some (n,s,false)=>decide (0≤k∧k<n∧(k.toNat*s)<cs.length)|_=>true)
 |_,_=>true
theorem xf1 (x i:V) (str:Bool) (ar:Option (Nat×Nat×Bool)):yO (idxB x i ar) (zN0 x i str ar):=by
 unfold zN0
 split
 ·simp only[idxB]
  split<;>first|trivial|simp only[yO,decide_eq_true_eq,imp_self]
 ·split
  ·simp only[idxB,yO,decide_eq_true_eq,imp_self]
  ·trivial
 ·trivial
def zY1 (es:Option Nat) (x:V) (lo hi:Option V):Bool:=
 match x with
 | .lsv _ s n l0 m=>(match bnd lo 0,bnd hi m,es with|some l,some h,some z=>decide (0≤l∧l≤h∧(h≤m∨(l0:Int)+h≤n)∧z=s)|_,_,_=>true)
 | .str s=>(match bnd lo 0,bnd hi s.length with|some l,some h=>decide (0≤l∧l≤h∧h≤s.length)|_,_=>true)
 | .sl _ rows=>(match bnd lo 0,bnd hi rows.length,es with|some l,some h,some z=>decide (0≤l∧l≤h∧h≤rows.length)&&uniB z rows|_,_,_=>true)
 |_=>true
theorem yF6 (ar:Option (Nat×Nat×Bool)) (k:Nat) (es:Option Nat) (x:V) (lo hi:Option V):yO (zY1 es x lo hi) (zm2 ar k es x lo hi):=by
 unfold zm2
 split
 ·split
  ·rename_i h1 h2
   split
   ·simp only[zY1,h1,h2,yO,decide_eq_true_eq,imp_self]
   ·trivial
  ·trivial
 ·split<;>trivial
 ·split
  ·rename_i h1 h2
   split
   ·simp only[zY1,h1,h2,yO,decide_eq_true_eq,imp_self]
   ·trivial
  ·trivial
 ·split
  ·rename_i h1 h2
   split
   ·simp only[zY1,h1,h2,yO,Bool.and_eq_true,decide_eq_true_eq]
    exact fun h=>⟨h.1.1,h.1.2.1,h.1.2.2,zl6 h.2⟩
   ·trivial
  ·trivial
 ·trivial
def zU2 (es:Option Nat) (x lo hi mx:V):Bool:=
 match x,lo,hi,mx,es with
 | .sl _ rows,.int _ l,.int _ h,.int _ m,some z=>decide (0≤l∧l≤h∧h≤rows.length∧m=h)&&uniB z rows
 | .lsv _ s _ _ n,.int _ l,.int _ h,.int _ m,some z=>decide (0≤l∧l≤h∧h≤m∧m≤n∧z=s)
 |_,_,_,_,_=>true
theorem yu6 (es:Option Nat) (x lo hi mx:V):yO (zU2 es x lo hi mx) (zm3 es x lo hi mx):=by
 unfold zm3
 split
 ·simp only[zU2,yO,Bool.and_eq_true,decide_eq_true_eq]
  exact fun h=>⟨h.1.1,h.1.2.1,h.1.2.2.1,h.1.2.2.2,zl6 h.2⟩
 ·simp only[zU2,yO,decide_eq_true_eq,imp_self]
 ·trivial
def xq9 (x:V):Bool:=
 match x with
 | .sl _ rows=>rows.all xc3
 |_=>true
theorem yR2 (ks kd:Option Kd) (x:V):yO (xq9 x) (zA0 ks kd x):=by
 unfold zA0
 split
 ·split<;>trivial
 ·split<;>trivial
 ·split<;>trivial
 ·split
  ·exact xe4
  ·trivial
 ·trivial
def yx3 (el:Option (Nat×Nat)) (l m:V):Bool:=
 match el,l,m with
 |some (_,by'),.int .i64 n,.int .i64 k=>decide (0≤n∧n≤k∧k.toNat*by'≤140737488355328)
 |_,_,_=>false
theorem yP3 (el:Option (Nat×Nat)) (zs:Option (List V)) (σ:St) (l m:V):yO (yx3 el l m) (zA9 el zs σ l m):=by
 unfold zA9
 split
 ·simp only[yx3,yO,decide_eq_true_eq,imp_self]
 ·trivial
theorem yB5 (el:Option (Nat×Nat)) (zs:Option (List V)) (σ:St) (l m:V):yO (yx3 el l m) (zq9 el zs σ l m):=by
 unfold zq9
 split
 ·simp only[yx3,yO,decide_eq_true_eq,imp_self]
 ·trivial
def yE0 (sl:Option Nat) (σ:St) (x:V):Bool:=
 match x with
 | .lsv id s n lo m=>(match σ[id]? with|some (.lst rows s')=>decide (sl=some s∧s'=s∧rows.length=n∧lo+m≤n)|_=>true)
 |_=>true
theorem yE8 (sl:Option Nat) (zs:Option (List V)) (σ:St) (x:V):yO (yE0 sl σ x) (zq5 sl zs σ x):=by
 unfold zq5
 split
 ·split
  ·rename_i h1
   simp only[yE0,h1,yO,decide_eq_true_eq,imp_self]
  ·trivial
 ·trivial
def srcB (σ:St):V→Bool
 | .lsv id s n lo m=>(match σ[id]? with|some (.lst rows s')=>decide (s'=s∧rows.length=n∧lo+m≤n)&&xO ((rows.drop lo).take m)|_=>false)
 |_=>true
theorem zL9 {σ:St} {y:V} (h:srcB σ y=true):zl1 σ y:=by
 unfold zl1
 split
 ·simp only[srcB]at h
  split at h
  ·rename_i h1
   rw[h1]
   simp only[Bool.and_eq_true,decide_eq_true_eq]at h
   exact⟨h.1.1,h.1.2.1,h.1.2.2,h.2⟩
  ·cases h
 ·trivial
def zF7 (el:Option (Nat×Nat)) (k2:Nat) (σ:St) (x y:V):Bool:=
 match el,zB9 k2 σ y with
 |some (s,by'),some r2=>
  (match x with
  | .sl .full r1=>srcB σ y&&decide ((r1.length+r2.length)*by'≤140737488355328)&&uniB s r1&&uniB s r2
  | .sl (.app id) r1=>(match σ[id]? with
   |some (.app n s')=>srcB σ y&&decide (r1.length=n∧s'=s∧(r1.length+r2.length)*by'≤140737488355328)&&uniB s r2
   |_=>true)
  | .lsv id s1 n lo m=>(match σ[id]? with
   |some (.lst rows s')=>srcB σ y&&decide (s1=s∧s'=s∧rows.length=n)&&uniB s r2&&(decide (lo+m+r2.length≤n)||decide (lo=0∧m=n∧(n+r2.length)*by'≤140737488355328))
   |_=>true)
  |_=>true)
 |_,_=>true
theorem yr6 (el:Option (Nat×Nat)) (k2:Nat) (σ:St) (x y:V):yO (zF7 el k2 σ x y) (zg6 el k2 σ x y):=by
 unfold zg6
 split
 ·rename_i h2
  split
  ·simp only[zF7,h2,yO,Bool.and_eq_true,decide_eq_true_eq]
   exact fun h=>⟨zL9 h.1.1.1,h.1.1.2,zl6 h.1.2,zl6 h.2⟩
  ·split
   ·rename_i h3
    simp only[zF7,h2,h3,yO,Bool.and_eq_true,decide_eq_true_eq]
    exact fun h=>⟨zL9 h.1.1,h.1.2.1,h.1.2.2.1,h.1.2.2.2,zl6 h.2⟩
   ·trivial
  ·split
   ·rename_i h3
    split
    ·simp only[zF7,h2,h3,yO,Bool.and_eq_true,decide_eq_true_eq]
     exact fun h=>⟨zL9 h.1.1.1,h.1.1.2.1,h.1.1.2.2.1,h.1.1.2.2.2,zl6 h.1.2⟩
    ·rename_i hno
     simp only[zF7,h2,h3,yO,Bool.and_eq_true,Bool.or_eq_true,decide_eq_true_eq]
     exact fun h=>⟨zL9 h.1.1.1,h.1.1.2.1,h.1.1.2.2.1,h.1.1.2.2.2,zl6 h.1.2,(h.2.resolve_left hno)⟩
   ·trivial
  ·trivial
 ·trivial
def yV6 (σ:St):V→Bool
 | .lsv id s n lo m=>(match σ[id]? with|some (.lst rows s')=>decide (s'=s∧rows.length=n∧lo+m≤n)|_=>false)
 |_=>true
theorem yr1 {σ:St} {y:V} (h:yV6 σ y=true):zu2 σ y:=by
 unfold zu2
 split
 ·simp only[yV6]at h
  split at h
  ·rename_i h1
   rw[h1]
   exact of_decide_eq_true h
  ·cases h
 ·trivial
def zF3 (el:Option (Nat×Nat)) (k2:Nat) (σ:St) (x y:V):Bool:=
 match x with
 | .lsv id s1 n lo m=>(match el,zD5 k2 σ y with
  |some (s,by'),some r2=>(match σ[id]? with
   |some (.lst rows s')=>yV6 σ y&&decide (s1=s∧s'=s∧rows.length=n)&&uniB s r2&&(decide (lo+m+r2.length≤n)||decide (lo=0∧m=n∧(n+r2.length)*by'≤140737488355328))
   |_=>true)
  |_,_=>true)
 |x=>match el,zB9 k2 σ y with
 |some (s,by'),some r2=>
  (match x with
  | .sl .full r1=>srcB σ y&&decide ((r1.length+r2.length)*by'≤140737488355328)&&uniB s r1&&uniB s r2&&(!r2.isEmpty||r1.isEmpty)
  |_=>true)
 |_,_=>true
theorem yo6 (el:Option (Nat×Nat)) (k2:Nat) (σ:St) (x y:V):yO (zF3 el k2 σ x y) (zc9 el k2 σ x y):=by
 unfold zc9
 split
 ·split
  ·rename_i h2
   split
   ·rename_i h3
    split
    ·simp only[zF3,h2,h3,yO,Bool.and_eq_true,decide_eq_true_eq]
     exact fun h=>⟨yr1 h.1.1.1,h.1.1.2.1,h.1.1.2.2.1,h.1.1.2.2.2,zl6 h.1.2⟩
    ·rename_i hno
     simp only[zF3,h2,h3,yO,Bool.and_eq_true,Bool.or_eq_true,decide_eq_true_eq]
     exact fun h=>⟨yr1 h.1.1.1,h.1.1.2.1,h.1.1.2.2.1,h.1.1.2.2.2,zl6 h.1.2,(h.2.resolve_left hno)⟩
   ·trivial
  ·trivial
 ·split
  ·rename_i h2
   split
   ·simp only[zF3,h2,yO,Bool.and_eq_true,decide_eq_true_eq]
    refine fun h=>⟨zL9 h.1.1.1.1,h.1.1.1.2,zl6 h.1.1.2,zl6 h.1.2,fun e=> ?_⟩
    have:=h.2
    rw[e]at this
    simpa using this
   ·trivial
  ·trivial
def zo9 (L:Bool) (es:Option Nat) (len:Nat) (parts:List (Nat×V)):Bool:=
 match es with
 |some s=>(parts.all fun p=>(L||ye0 p.2)&&(wB p.2).length==s)&&decide (len*s≤16777216∧0<s)
 |none=>true
theorem zU0 (es:Option Nat) (len:Nat) (parts:List (Nat×V)):yO (zo9 false es len parts) (wU es len parts):=by
 unfold wU
 split
 ·split
  ·simp only[zo9,yO,Bool.and_eq_true,decide_eq_true_eq,List.all_eq_true,Bool.false_or,beq_iff_eq]
   exact fun h=>⟨fun p hp=>h.1 p hp,h.2⟩
  ·trivial
 ·trivial
theorem zQ3 (es:Option Nat) (len:Nat) (σ:St) (parts:List (Nat×V)):yO (zo9 true es len parts) (wC es len σ parts):=by
 unfold wC
 split
 ·split
  ·simp only[zo9,yO,Bool.and_eq_true,decide_eq_true_eq,List.all_eq_true,Bool.true_or,beq_iff_eq]
   exact fun h=>⟨fun p hp=>(h.1 p hp).2,h.2⟩
  ·trivial
 ·trivial
def zX6 (P:Program) (L:Bool) (e:Env) (σ:St):Op→Bool
 | .buildSlice t n ps=>zo9 L ((elT P t).map (·.1)) n (ps.toList.map fun p=>(p.1,zG e p.2))
 | .binOp op _ x y _=>binB op (zG e x) (zG e y)
 | .convert _ _ x=>xq9 (zG e x)
 | .slice t x lo hi none=>if L then false else zY1 ((elT P t).map (·.1)) (zG e x) (lo.map (zG e)) (hi.map (zG e))
 | .slice t x (some lo) (some hi) (some mx)=>zU2 ((elT P t).map (·.1)) (zG e x) (zG e lo) (zG e hi) (zG e mx)
 | .indexAddr t x i=>zX2 (slcT P t) (arrT P t) (zG e x) (zG e i)
 | .index t x i=>idxB (zG e x) (zG e i) (arrT P t)
 | .makeSlice t l m=>yx3 (elT P t) (zG e l) (zG e m)
 | .call ⟨.builtin .append,⟨[x,y]⟩,⟨[t,t']⟩⟩=>if L then zF3 (elT P t) (lenT P t') σ (zG e x) (zG e y)else zF7 (elT P t) (lenT P t') σ (zG e x) (zG e y)
 | .call ⟨.builtin .clear,⟨[x]⟩,⟨[t]⟩⟩=>yE0 ((elT P t).map (·.1)) σ (zG e x)
 |_=>true
def xy8:R→Bool
 | .need _ _| .needst _ _ _=>false
 |_=>true
theorem xA {b:Bool} {r:R} (h:xy8 r=true):yO b r:=by
 cases r<;>first|trivial|cases h
theorem zQ2 {P:Program} {e:Env} {σ:St} (op:Op):yO (zX6 P false e σ op) (evOp P e σ op):=by
 unfold evOp
 split
 ·trivial
 ·trivial
 ·refine xA ?_;unfold zE5;(repeat' split)<;>rfl
 ·refine xA ?_;unfold zi8;(repeat' split)<;>rfl
 ·refine xA ?_;unfold zH9;(repeat' split)<;>rfl
 ·refine xA ?_;unfold zw0;(repeat' split)<;>rfl
 ·exact zU0 ..
 ·refine xA ?_;unfold zg3;(repeat' split)<;>first|rfl|(unfold zi7;(repeat' split)<;>rfl)
 ·refine xA ?_;unfold zr1;(repeat' split)<;>rfl
 ·refine xA ?_;unfold zS9;(repeat' split)<;>rfl
 ·split
  ·exact yC8 ..
  ·split
   ·refine xA ?_;unfold zo7;(repeat' split)<;>rfl
   ·exact xe6 ..
 ·refine xA ?_;unfold evUn;(repeat' split)<;>rfl
 ·exact yR2 ..
 ·exact yF6 ..
 ·exact yu6 ..
 ·refine xA ?_;unfold zd5;(repeat' split)<;>rfl
 ·refine xA ?_;unfold zu8;(repeat' split)<;>rfl
 ·exact yj9 ..
 ·exact xf1 ..
 ·refine xA ?_;unfold zk2;(repeat' split)<;>rfl
 ·refine xA ?_;unfold zE9;(repeat' split)<;>rfl
 ·exact yP3 ..
 ·refine xA ?_;unfold zS0;(repeat' split)<;>rfl
 ·exact yr6 ..
 ·exact yE8 ..
 ·refine xA ?_;unfold zx5;(repeat' split)<;>rfl
 ·refine xA ?_;unfold zx5;(repeat' split)<;>rfl
 ·refine xA ?_;unfold zo8;(repeat' split)<;>rfl
 ·refine xA ?_;unfold zk3;(repeat' split)<;>rfl
 ·refine xA ?_;unfold zp0;(repeat' split)<;>rfl
 ·refine xA ?_;unfold xH;(repeat' split)<;>rfl
 ·refine xA ?_;unfold xH;(repeat' split)<;>rfl
 ·refine xA ?_;unfold zv6;(repeat' split)<;>rfl
 ·refine xA ?_;unfold zq2;(repeat' split)<;>rfl
 ·trivial
theorem yA1 {P:Program} {e:Env} {σ:St} (op:Op):yO (zX6 P false e σ op&&zX6 P true e σ op) (wR P e σ op):=by
 have weak: ∀{b c:Bool} {r:R},yO b r→yO (c&&b) r:=by
  intro b c r h
  cases r with
  |need p v=>exact fun q=>h (by simp at q;exact q.2)
  |needst p v s=>exact fun q=>h (by simp at q;exact q.2)
  |_=>trivial
 have weak1: ∀{b c:Bool} {r:R},yO b r→yO (b&&c) r:=by
  intro b c r h
  cases r with
  |need p v=>exact fun q=>h (by simp at q;exact q.1)
  |needst p v s=>exact fun q=>h (by simp at q;exact q.1)
  |_=>trivial
 unfold wR
 split
 ·exact weak (zQ3 ..)
 ·exact weak (yB5 ..)
 ·refine xA ?_;unfold zw1;(repeat' split)<;>rfl
 ·refine weak (b:=false) ?_;unfold zo4;(repeat' split)<;>first|trivial|exact fun q=>by cases q
 ·exact weak (yo6 ..)
 ·refine xA ?_;unfold zq2;(repeat' split)<;>rfl
 ·exact weak1 (zQ2 op)
def xopR (b:Bool) (σ:St):R→Option (V×St)
 | .ok v=>some (v,σ)
 | .need _ v=>if b then some (v,σ)else none
 | .st v σ'=>some (v,σ')
 | .needst _ v σ'=>if b then some (v,σ')else none
 |_=>none
def xop (P:Program) (d:Option Tmp) (e:Env) (σ:St) (op:Op):Option (V×St):=
 if zc3 e d then xopR (zX6 P false e σ op&&zX6 P true e σ op) σ (wR P e σ op)else xopR (zX6 P false e σ op) σ (evOp P e σ op)
theorem ya2 {b:Bool} {σ σ':St} {r:R} {v:V} {nt:Nat} {d:Option Tmp} {K:KT} {e:Env} (hn:yO b r) (h:xopR b σ r=some (v,σ')) (hk:vput nt d v K e σ'):vfin nt d r K e σ:=by
 cases r with
 |fail=>cases h
 |ok v'=>cases h;exact hk
 |need p v'=>
  simp only[xopR]at h
  split at h
  ·rename_i hb
   cases h;exact⟨hn hb,hk⟩
  ·cases h
 |st v' s=>cases h;exact hk
 |needst p v' s=>
  simp only[xopR]at h
  split at h
  ·rename_i hb
   cases h;exact⟨hn hb,hk⟩
  ·cases h
 |all f=>cases h
 |any l=>cases h
theorem xq4 {P:Program} {σ σ':St} {op:Op} {v:V} {nt:Nat} {d:Option Tmp} {K:KT} {e:Env} (h:xop P d e σ op=some (v,σ')) (hk:vput nt d v K e σ'):vfin nt d (xE P d e σ op) K e σ:=by
 unfold xop at h
 unfold xE
 split at h
 ·rename_i hh
  rw[if_pos hh]
  exact ya2 (yA1 op) h hk
 ·rename_i hh
  rw[if_neg hh]
  exact ya2 (zQ2 op) h hk
end Go.Vx
