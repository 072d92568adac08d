/-
  Running code over trees: what a closed run comes to, and that the contracts say the same.
  No condition: a library text; nothing of the program is named.
-/
import Derived.Test.YtajjjghohakniaaGreatLAR
import Derived.Test.YtajjjghohakniaaGreatLAO
namespace Go.Vx
open Go
theorem xd9 (t s:Nat) (rows:List (List V)) {P:Program} {c:Ctx} {nt:Nat} {e:Env} {σ:St} {Q:QT} {y:Code} (h0:0<s) (hu:uni s rows) (ht:e t= .sl .full rows) (hy:wVW P c nt y Q fx fx (upd e t (.sl (.app σ.length) rows)) (σ++ [.app rows.length s])):wVW P c nt y Q fx fx e σ:=by
 intro a w L β hs
 have hr:=hs.env t
 rw[ht]at hr
 have hr:RdP w L (.sl .full rows) (a.tmps.getD t undef):=hr
 obtain⟨ad,hx,hro⟩: ∃ad,a.tmps.getD t undef= .slice ad rows.length rows.length∧RdP w L (.sl .ro rows) (.slice ad rows.length rows.length):=by
  generalize a.tmps.getD t undef=x at hr
  cases hr with
  |sl0 g ad cap hg ha=>have:=hg rfl;subst this;exact⟨ad,rfl,.sl0 .ro ad 0 (fun h=>by cases h) (fun _ h=>by cases h)⟩
  |sl g rows s b o cap c ha hs hlen hlim hcap hg hc hr=>have:=hg rfl;subst this;exact⟨_,rfl,.sl .ro rows s b o _ c (fun _ h=>by cases h) hs hlen hlim hcap (fun h=>by cases h) hc hr⟩
 have hext:=Ext.push σ β hs.mem.len (.app rows.length s) (.slice ad rows.length rows.length)
 refine hy a w L (β++ [.slice ad rows.length rows.length]) ⟨hs.mem.own h0,hs.size,hs.defs,fun k=> ?_⟩
 simp only[upd]
 split
 ·rename_i hk
  subst hk
  rw[hx]
  exact⟨hro,rows.length,s,by simp,Nat.le_refl _,fun _=>by rw[←hs.mem.len];simp,hu⟩
 ·exact(hs.env k).mono (Le.refl _ _) hext
theorem xm8 {P:Program} {c:Ctx} {σ:St} (i j:Nat) {o p:Ob} {f:FuncId} {caps args args':List V} {KV:V→St→Prop} {R:V→St→Prop} (hc:VCalls P f args' [o,p] R) (hb:zK P f=true) (hij:i≠j) (ho:σ[i]? =some o) (hp:σ[j]? =some p) (hok:ltOb 0 o=true) (hpk:ltOb 0 p=true)
  (hargs:All2 (argS (ren [i,j] σ.length)) args' (args++caps)) (hR: ∀r s,R r s→ ∃o2 p2,s= [o2,p2]∧ltOb 0 o2=true∧ltOb 0 p2=true) (hK: ∀r o2 p2,R r [o2,p2]→KV (renS (ren [i,j] σ.length) r) ((σ.set i o2).set j p2)):wVC P c (.fn f caps) args σ KV fx:=by
 have hno: ∀q:Ob,ltOb 0 q=true→yF (ren [i,j] σ.length) q=q:=fun q h=>zg3 (n:=0) (fun _ h=>absurd h (Nat.not_lt_zero _)) h
 refine VC.of hc hb [i,j] (by simpa using hij) rfl (fun k l q h1 h2=> ?_) hargs fun r s h _=> ?_
 ·match k with
  |0=>simp at h1 h2;subst h1;subst h2;rw[hno _ hok];exact ho
  |1=>simp at h1 h2;subst h1;subst h2;rw[hno _ hpk];exact hp
  |k+2=>simp at h1
 ·obtain⟨o2,p2,rfl,h1,h2⟩:=hR r s h
  have e:xV [i,j] σ [o2,p2]=(σ.set i o2).set j p2:=by
   simp only[xV,List.length_cons,List.length_nil,List.take_succ_cons,List.take_zero,List.drop_succ_cons,List.drop_zero,List.map_cons,List.map_nil,mset,List.append_nil,hno _ h1,hno _ h2]
  rw[e];exact hK r o2 p2 h
theorem zZ7 (pick:List Nat) {n0:Nat} {R:V→St→Prop} {σ s:St} {v r:V} (hnd:pick.Nodup) (hn: ∀i,i<n0→pick[i]? =some i) (hlen:s.length=pick.length) (hob: ∀(i j:Nat) (o:Ob),pick[i]? =some j→s[i]? =some o→σ[j]? =some (yF (ren pick σ.length) o)) (hr:argS (ren pick σ.length) r v) (hR:R r s):wret (some v) n0 R σ:=
 ⟨v,rfl,v,σ,pick,s,r,.refl _ _,⟨hlen,hnd,hob,hn⟩,hr,hR⟩
theorem VCalls.frz {P:Program} {f:FuncId} {args:List V} {v:V} {R:V→St→Prop} (h:VCalls P f args [] R) (hR: ∀r s,R r s→ ∃r' s',Frz [r] s [r'] s'∧argS (ren [] s'.length) v r'):Pure P f args v:=by
 intro w L β vals hm ha
 refine(h w L β vals hm ha).mono ?_
 rintro e w' ⟨x,r,L',σ',β',he,hr,hl,hm',hrd⟩
 obtain⟨r',s',hf,hv⟩:=hR r σ' hr
 obtain⟨L2,β2,hm2,hle2,hext2,hv2⟩:=hf.ok hm' (show All2 (RdS w' L' σ' β') [r] [x] from⟨hrd,trivial⟩)
 have hβ:β.length=([]:St).length:=hm.len
 have hp:Picks (zn3 w L [] β).σ0.length [] s' []:=⟨rfl,List.nodup_nil,fun i j o q=>by simp at q,fun i q=>absurd q (Nat.not_lt_zero i)⟩
 have hm3:=hm2.pick hp hβ
 refine⟨x,v,L2,[],[],he,⟨rfl,rfl⟩,Nat.le_refl _,hm3, ?_⟩
 exact zw6 (hp.bak hm2.len) hv hv2.1
end Go.Vx
namespace Go.Vx
open Go
structure Front (k:Nat) (τ s σ':St) (pick:List Nat):Prop where
 picks:Picks 0 pick σ' (s++τ)
 first: ∀i,i<k→pick[i]? =some i
 rest: ∀i,i<τ.length→pick[s.length+i]? =some (k+i)
theorem Front.ren1 {k:Nat} {τ s σ':St} {pick:List Nat} (h:Front k τ s σ' pick) {M i:Nat} (hi:i<k):ren pick M i=i:=by
 have h1:=h.first i hi
 obtain⟨hl,e⟩:=List.getElem?_eq_some_iff.1 h1
 unfold ren;rw[dif_pos hl];exact e
theorem Front.ren2 {k:Nat} {τ s σ':St} {pick:List Nat} (h:Front k τ s σ' pick) {M i:Nat} (hi:i<τ.length):ren pick M (s.length+i)=k+i:=by
 have h1:=h.rest i hi
 obtain⟨hl,e⟩:=List.getElem?_eq_some_iff.1 h1
 unfold ren;rw[dif_pos hl];exact e
theorem yq1 {n m:Nat} (h:n≤m) {v:V} (hv:ltK n v=true):ltK m v=true:=by
 cases v with
 |sl g rows=>cases g<;>simp_all[ltK]<;>omega
 |_=>simp_all[ltK]<;>omega
theorem zK3 {n m:Nat} (h:n≤m) {v:V} (hv:ltC n v=true):ltC m v=true:=by
 cases v with
 |fn f caps=>
  simp only[ltC,List.all_eq_true]at hv⊢
  exact fun x hx=>yq1 h (hv x hx)
 |_=>simp only[ltC]at hv⊢;exact yq1 h hv
theorem yY0 {n m:Nat} (h:n≤m) {v:V} (hv:ltA n v=true):ltA m v=true:=by
 cases v with
 |agg cs=>
  simp only[ltA,List.all_eq_true]at hv⊢
  exact fun x hx=>zK3 h (hv x hx)
 |_=>simp only[ltA]at hv⊢;exact zK3 h hv
theorem yN5 {n m:Nat} (h:n≤m) {o:Ob} (ho:ltOb n o=true):ltOb m o=true:=by
 cases o with
 |box cells=>simp only[ltOb,List.all_eq_true]at ho⊢;exact fun x hx=>zK3 h (ho x hx)
 |lst rows s=>simp only[ltOb,List.all_eq_true]at ho⊢;exact fun r hr x hx=>zK3 h (ho r hr x hx)
 |mp kvs borns clk=>simp only[ltOb,List.all_eq_true]at ho⊢;exact fun x hx=>yY0 h (ho x hx)
 |it m' since seen last=>cases m' with
  |none=>rfl
  |some i=>simp only[ltOb,decide_eq_true_eq]at ho⊢;omega
 |_=>rfl
theorem zY0 {ρ ρ':Nat→Nat} {n:Nat} {v:V} (h: ∀i,i<n→ρ i=ρ' i) (hv:ltK n v=true):renK ρ v=renK ρ' v:=by
 cases v with
 |sl g rows=>cases g<;>simp_all[renK,ltK]
 |_=>simp_all[renK,ltK]
theorem zy5 {ρ ρ':Nat→Nat} {n:Nat} {v:V} (h: ∀i,i<n→ρ i=ρ' i) (hv:ltC n v=true):renC ρ v=renC ρ' v:=by
 cases v with
 |fn f caps=>
  simp only[ltC,List.all_eq_true]at hv
  simp only[renC]
  congr 1
  exact List.map_congr_left fun x hx=>zY0 h (hv x hx)
 |_=>simp only[renC];exact zY0 (n:=n) h (by simpa only[ltC]using hv)
theorem yA4 {ρ ρ':Nat→Nat} {n:Nat} {v:V} (h: ∀i,i<n→ρ i=ρ' i) (hv:ltA n v=true):renA ρ v=renA ρ' v:=by
 cases v with
 |agg cs=>
  simp only[ltA,List.all_eq_true]at hv
  simp only[renA]
  congr 1
  exact List.map_congr_left fun x hx=>zy5 h (hv x hx)
 |_=>simp only[renA];exact zy5 (n:=n) h (by simpa only[ltA]using hv)
theorem zQ6 {ρ ρ':Nat→Nat} {n:Nat} {o:Ob} (h: ∀i,i<n→ρ i=ρ' i) (ho:ltOb n o=true):yF ρ o=yF ρ' o:=by
 cases o with
 |box cells=>
  simp only[ltOb,List.all_eq_true]at ho
  simp only[yF]
  congr 1
  exact List.map_congr_left fun x hx=>zy5 h (ho x hx)
 |lst rows s=>
  simp only[ltOb,List.all_eq_true]at ho
  simp only[yF]
  congr 1
  exact List.map_congr_left fun r hr=>List.map_congr_left fun x hx=>zy5 h (ho r hr x hx)
 |mp kvs borns clk=>
  simp only[ltOb,List.all_eq_true]at ho
  simp only[yF]
  congr 1
  exact List.map_congr_left fun x hx=>yA4 h (ho x hx)
 |it m since seen last=>
  cases m with
  |none=>rfl
  |some i=>simp only[ltOb,decide_eq_true_eq]at ho;simp[yF,h i ho]
 |_=>rfl
theorem zF1 {P:Program} {c:Ctx} {f:FuncId} {caps args args':List V} {σin τ:St} {KV:V→St→Prop} {R:V→St→Prop} (hc:VCalls P f args' σin R) (hb:zK P f=true) (hin:σin.all (ltOb σin.length)=true) (hτ:τ.all (ltOb 0)=true)
  (hargs:All2 (argS (ren (List.range σin.length) (σin.length+τ.length))) args' (args++caps))
  (hR: ∀r s,R r s→noS r=true∧s.all (ltOb s.length)=true)
  (hk: ∀r s,R r s→σin.length≤s.length→ ∀σ' pick,Front σin.length τ s σ' pick→KV r σ'):wVC P c (.fn f caps) args (σin++τ) KV fx:=by
 have hσl:(σin++τ).length=σin.length+τ.length:=List.length_append
 refine VC.of hc hb (List.range σin.length) List.nodup_range (by simp) (fun i j o h1 h2=> ?_) (by rw[hσl];exact hargs) fun r s hr hl=> ?_
 ·obtain⟨h3,h4⟩:=List.getElem?_eq_some_iff.1 h1
  simp at h3 h4
  subst h4
  rw[List.getElem?_append_left h3,h2]
  have ho:ltOb σin.length o=true:=by
   rw[List.all_eq_true]at hin
   exact hin o (List.mem_iff_getElem?.2 ⟨i,h2⟩)
  rw[zg3 (n:=σin.length) (fun i hi=>zc7 hi) ho]
 ·obtain⟨hno,hs⟩:=hR r s hr
  rw[zu0 hno]
  rw[List.length_range]at hl
  obtain⟨k,hk0⟩: ∃k,σin.length=k:=⟨_,rfl⟩
  rw[hk0]at hl hk⊢
  obtain⟨σ',hσ'⟩: ∃σ',xV (List.range k) (σin++τ) s=σ':=⟨_,rfl⟩
  rw[hσ']
  have hσ0:(σin++τ).length=k+τ.length:=by rw[hσl,hk0]
  have hσ'l:σ'.length=s.length+τ.length:=by
   rw[←hσ',zp7,hσ0,List.length_range];omega
  have hold: ∀i o,s[i]? =some o→σ'[if i<k then i else i+τ.length]? =some (yF (ren (List.range k) (k+τ.length)) o):=fun i o ho=>by
   have:=zl8 (sel:=List.range k) (σc:=σin++τ) (σ':=s) List.nodup_range (fun q hq=>by have:=List.mem_range.1 hq;omega) (by simpa using hl) ho
   rw[hσ',hσ0]at this
   by_cases hi:i<k
   ·rw[if_pos hi];rwa [zc7 hi]at this
   ·rw[if_neg hi]
    rw[zo5 (by simp;omega),List.length_range]at this
    rw[show i+τ.length=k+τ.length+(i - k) by omega];exact this
  have hrest: ∀i,i<τ.length→σ'[k+i]? =τ[i]? :=fun i hi=>by
   rw[←hσ']
   unfold xV
   rw[List.getElem?_append_left (by rw[xN,hσ0];omega),zd9 _ _ _ _ (fun q=>by have:=List.mem_range.1 q;omega),List.getElem?_append_right (by omega),hk0]
   congr 1;omega
  refine hk r s hr hl σ' (List.range k++(List.range (s.length - k)).map (k+τ.length+ ·)++(List.range τ.length).map (k+ ·)) ?_
  obtain⟨pick,hp⟩: ∃pick,List.range k++(List.range (s.length - k)).map (k+τ.length+ ·)++(List.range τ.length).map (k+ ·)=pick:=⟨_,rfl⟩
  rw[hp]
  have hpl:pick.length=s.length+τ.length:=by rw[←hp];simp;omega
  have hp1: ∀i,i<k→pick[i]? =some i:=fun i hi=>by
   rw[←hp,List.append_assoc,List.getElem?_append_left (by simpa using hi),List.getElem?_range hi]
  have hp2: ∀i,k≤i→i<s.length→pick[i]? =some (i+τ.length):=fun i h1 h2=>by
   rw[←hp,List.getElem?_append_left (by simp;omega),List.getElem?_append_right (by simpa using h1),List.length_range,List.getElem?_map,List.getElem?_range (by omega),Option.map_some]
   congr 1;omega
  have hp3: ∀i,i<τ.length→pick[s.length+i]? =some (k+i):=fun i hi=>by
   rw[←hp,List.getElem?_append_right (by simp;omega)]
   simp only[List.length_append,List.length_range,List.length_map]
   rw[show s.length+i - (k+(s.length - k))=i by omega,List.getElem?_map,List.getElem?_range hi,Option.map_some]
  have hρ: ∀i,i<s.length→ren pick σ'.length i=ren (List.range k) (k+τ.length) i:=fun i hi=>by
   have hil:i<pick.length:=by omega
   unfold ren
   rw[dif_pos hil]
   by_cases h1:i<k
   ·rw[dif_pos (by simpa using h1)]
    have:=hp1 i h1
    rw[List.getElem?_eq_getElem hil]at this
    simp[Option.some.inj this]
   ·rw[dif_neg (by simpa using h1)]
    have:=hp2 i (by omega) hi
    rw[List.getElem?_eq_getElem hil]at this
    rw[Option.some.inj this,List.length_range]
    omega
  refine⟨⟨by rw[List.length_append,hpl], ?_,fun i j o hij ho=> ?_,fun i hi=>absurd hi (Nat.not_lt_zero i)⟩,hp1,hp3⟩
  ·rw[←hp]
   refine List.nodup_append.2 ⟨List.nodup_append.2 ⟨List.nodup_range, ?_,fun a ha b hb=> ?_⟩, ?_,fun a ha b hb=> ?_⟩
   ·exact List.Pairwise.map _ (fun a b q=>by omega) (List.nodup_range (n:=_))
   ·simp at ha hb;omega
   ·exact List.Pairwise.map _ (fun a b q=>by omega) (List.nodup_range (n:=_))
   ·simp only[List.mem_append,List.mem_range,List.mem_map]at ha hb
    obtain⟨b',hb',rfl⟩:=hb
    rcases ha with ha|⟨a',ha',rfl⟩<;>omega
  ·by_cases hi:i<s.length
   ·rw[List.getElem?_append_left hi]at ho
    have h1:=hold i o ho
    have h2:pick[i]? =some (if i<k then i else i+τ.length):=by
     by_cases q:i<k
     ·rw[if_pos q];exact hp1 i q
     ·rw[if_neg q];exact hp2 i (by omega) hi
    rw[h2]at hij;cases hij
    rw[h1]
    congr 1
    have hlt:ltOb s.length o=true:=by
     rw[List.all_eq_true]at hs
     exact hs o (List.mem_iff_getElem?.2 ⟨i,ho⟩)
    exact(zQ6 hρ hlt).symm
   ·rw[List.getElem?_append_right (by omega)]at ho
    have hil:=(List.getElem?_eq_some_iff.1 ho).1
    have h2:=hp3 (i - s.length) hil
    rw[show s.length+(i - s.length)=i by omega]at h2
    rw[h2]at hij;cases hij
    rw[hrest _ hil,ho]
    have hlt:ltOb 0 o=true:=by
     rw[List.all_eq_true]at hτ
     exact hτ o (List.mem_iff_getElem?.2 ⟨_,ho⟩)
    rw[zg3 (n:=0) (fun _ h=>absurd h (Nat.not_lt_zero _)) hlt]
theorem ym0 {e:Env} {k:Nat} {τ s σ':St} {pick keep:List Nat} {vs:List V} (h:Front k τ s σ' pick) (ha:All2 (argS (ren pick σ'.length)) vs (keep.map e)):At 0 keep vs (s++τ) e σ':=⟨pick,h.picks,ha⟩
theorem zZ5 {k n0:Nat} {τ s σ':St} {pick:List Nat} {R:V→St→Prop} {v:V} (h:Front k τ s σ' pick) (hn:n0≤k) (hs:s.all (ltOb s.length)=true) (hks:k≤s.length) (hv:noS v=true) (hR:R v s):wret (some v) n0 R σ':=by
 have hpl:pick.length=s.length+τ.length:=by rw[←h.picks.len,List.length_append]
 refine zZ7 (pick.take s.length) ?_ (fun i hi=> ?_) (by simp;omega) (fun i j o hij ho=> ?_) (zA hv) hR
 ·exact h.picks.nodup.sublist (List.take_sublist _ _)
 ·rw[List.getElem?_take,if_pos (by omega)];exact h.first i (by omega)
 ·have hi:=(List.getElem?_eq_some_iff.1 ho).1
  rw[List.getElem?_take,if_pos hi]at hij
  rw[h.picks.ob i j o hij (by rw[List.getElem?_append_left hi];exact ho)]
  congr 1
  have hlt:ltOb s.length o=true:=by
   rw[List.all_eq_true]at hs
   exact hs o (List.mem_iff_getElem?.2 ⟨i,ho⟩)
  refine zQ6 (fun q hq=> ?_) hlt
  unfold ren
  rw[dif_pos (by omega),dif_pos (by simp;omega)]
  simp
theorem xm9 {P:Program} {c:Ctx} {n:Nat} {f:FuncId} {caps args args':List V} {σ:St} {o o2:Ob} {v:V} {KV:V→St→Prop} (hc:VCalls P f args' [o] (fun r s=>r=v∧s= [o2])) (hb:zK P f=true) (ho:σ[0]? =some o) (hlt:ltOb 0 o=true) (hlt2:ltOb 0 o2=true)
  (hargs:All2 (argS (ren [0] σ.length)) args' (args++caps)) (hn:noS v=true) (hk:KV v (σ.set 0 o2)):wVD P c ⟨1,n⟩ 3 (.fn f caps) args σ KV fx:=by
 have hno: ∀q:Ob,ltOb 0 q=true→yF (ren [0] σ.length) q=q:=fun q h=>zg3 (n:=0) (fun _ h=>absurd h (Nat.not_lt_zero _)) h
 have e:xV [0] σ [o2]=σ.set 0 o2:=by
  simp only[xV,List.length_singleton,List.take_succ_cons,List.take_zero,List.drop_succ_cons,List.drop_zero,List.map_cons,List.map_nil,mset,List.append_nil,hno _ hlt2]
 refine yu3 hc hb [0] (by simp) rfl (fun i j q h1 h2=> ?_) hargs (.inr ?_) ?_
 ·match i with
  |0=>simp at h1 h2;subst h1;subst h2;rw[hno _ hlt];exact ho
  |i+1=>simp at h1
 ·rw[e];exact Kp.of_set (.inl Nat.zero_lt_one)
 ·rw[e,zu0 hn];exact hk
end Go.Vx
namespace Go.Vx
open Go
def yK (b:Bool):R→Prop
 | .need p _=>b=true→p
 | .needst p _ _=>b=true→p
 |_=>True
def uniB (s:Nat) (rows:List (List V)):Bool:=rows.all fun r=>r.length==s
theorem zl2 {s:Nat} {rows:List (List V)} (h:uniB s rows=true):uni s rows:=fun r hr=>by
 have:=List.all_eq_true.1 h r hr
 simpa using this
def yT5:List V→Bool
 | [.int .u8 _]=>true
 |_=>false
theorem yT6 {rows:List (List V)} (h:rows.all yT5=true):zJ8 rows:=fun r hr=>by
 have:=List.all_eq_true.1 h r hr
 unfold yT5 at this
 split at this
 ·exact⟨_,rfl⟩
 ·cases this
def zS1 (op:BinOp) (y:Int):Bool:=
 match op with
 | .quo| .rem=>decide (y≠0)
 | .shl| .shr=>decide (0≤y)
 |_=>true
def yk1 (op:BinOp) (x y:List UInt8):Bool:=
 match op with
 | .add=>decide (x.length+y.length≤9223372036854775807)
 |_=>true
def binB (op:BinOp) (x y:V):Bool:=
 match x,y with
 | .int _ _,.int _ b=>zS1 op b
 | .str a,.str b=>yk1 op a b
 |_,_=>true
theorem yp1 (op:BinOp) (k:IntKind) (x y:Int):yK (zS1 op y) (zH4 op k x y):=by
 cases op<;>simp[zH4,zS1,yK]
theorem yt8 (op:BinOp) (x y:List UInt8):yK (yk1 op x y) (zI4 op x y):=by
 cases op<;>simp[zI4,yk1,yK]
theorem yS9 (op:BinOp) (ek:Nat) (es:Option (List Pk)) (x y:V):yK (binB op x y) (zk2 op ek es x y):=by
 unfold zk2
 split
 ·simp only[binB]
  split
  ·exact yp1 ..
  ·cases op<;>simp[zS1,yK]
 ·exact yt8 ..
 all_goals (repeat' split)<;>trivial
theorem yy8 (op:BinOp) (ek:Nat) (x:V) (b:Bool):yK b (zp4 op ek x):=by
 unfold zp4 yr3
 (repeat' split)<;>trivial
def zV5 (sl:Option Nat) (ar:Option (Nat×Nat×Bool)) (x i:V):Bool:=
 match x,i with
 | .sl _ rows,.int _ k=>(match sl with|some s=>decide (0≤k∧k<rows.length∧(rows.getD k.toNat []).length=s)|none=>true)
 | .ptr _ _,.int _ k=>(match ar with|some (n,_,_)=>decide (0≤k∧k<n)|none=>true)
 | .elp _ _,.int _ k=>(match ar with|some (n,_,_)=>decide (0≤k∧k<n)|none=>true)
 | .lsv _ _ _ _ m,.int _ k=>decide (0≤k∧k<m)
 | .bsv _ _ _ n,.int _ k=>decide (0≤k∧k<n)
 |_,_=>true
theorem yh6 (sl:Option Nat) (ar:Option (Nat×Nat×Bool)) (x i:V):yK (zV5 sl ar x i) (zg9 sl ar x i):=by
 unfold zg9
 split
 all_goals first|trivial|simp only[zV5]
 all_goals split<;>first|trivial|simp only[yK,decide_eq_true_eq,imp_self]
def idxB (x i:V) (ar:Option (Nat×Nat×Bool)):Bool:=
 match x,i with
 | .str b,.int _ k=>decide (0≤k∧k<b.length)
 | .agg cs,.int _ k=>(match ar with|some (n,s,false)=>decide (0≤k∧k<n∧(k.toNat*s)<cs.length)|_=>true)
 |_,_=>true
theorem yW4 (x i:V) (str:Bool) (ar:Option (Nat×Nat×Bool)):yK (idxB x i ar) (zJ4 x i str ar):=by
 unfold zJ4
 split
 ·simp only[idxB]
  split<;>first|trivial|simp only[yK,decide_eq_true_eq,imp_self]
 ·split
  ·simp only[idxB,yK,decide_eq_true_eq,imp_self]
  ·trivial
 ·trivial
def zY4 (es:Option Nat) (x:V) (lo hi:Option V):Bool:=
 match x with
 | .lsv _ s n l0 m=>(match bnd lo 0,bnd hi m,es with|some l,some h,some z=>decide (0≤l∧l≤h∧(h≤m∨(l0:Int)+h≤n)∧z=s)|_,_,_=>true)
 | .str s=>(match bnd lo 0,bnd hi s.length with|some l,some h=>decide (0≤l∧l≤h∧h≤s.length)|_,_=>true)
 | .sl _ rows=>(match bnd lo 0,bnd hi rows.length,es with|some l,some h,some z=>decide (0≤l∧l≤h∧h≤rows.length)&&uniB z rows|_,_,_=>true)
 |_=>true
theorem yB3 (ar:Option (Nat×Nat×Bool)) (k:Nat) (es:Option Nat) (x:V) (lo hi:Option V):yK (zY4 es x lo hi) (zk3 ar k es x lo hi):=by
 unfold zk3
 split
 ·split
  ·rename_i h1 h2
   split
   ·simp only[zY4,h1,h2,yK,decide_eq_true_eq,imp_self]
   ·trivial
  ·trivial
 ·split<;>trivial
 ·split
  ·rename_i h1 h2
   split
   ·simp only[zY4,h1,h2,yK,decide_eq_true_eq,imp_self]
   ·trivial
  ·trivial
 ·split
  ·rename_i h1 h2
   split
   ·simp only[zY4,h1,h2,yK,Bool.and_eq_true,decide_eq_true_eq]
    exact fun h=>⟨h.1.1,h.1.2.1,h.1.2.2,zl2 h.2⟩
   ·trivial
  ·trivial
 ·trivial
def zS6 (es:Option Nat) (x lo hi mx:V):Bool:=
 match x,lo,hi,mx,es with
 | .sl _ rows,.int _ l,.int _ h,.int _ m,some z=>decide (0≤l∧l≤h∧h≤rows.length∧m=h)&&uniB z rows
 | .lsv _ s _ _ n,.int _ l,.int _ h,.int _ m,some z=>decide (0≤l∧l≤h∧h≤m∧m≤n∧z=s)
 |_,_,_,_,_=>true
theorem yt4 (es:Option Nat) (x lo hi mx:V):yK (zS6 es x lo hi mx) (zk4 es x lo hi mx):=by
 unfold zk4
 split
 ·simp only[zS6,yK,Bool.and_eq_true,decide_eq_true_eq]
  exact fun h=>⟨h.1.1,h.1.2.1,h.1.2.2.1,h.1.2.2.2,zl2 h.2⟩
 ·simp only[zS6,yK,decide_eq_true_eq,imp_self]
 ·trivial
def xn8 (x:V):Bool:=
 match x with
 | .sl _ rows=>rows.all yT5
 |_=>true
theorem yL8 (ks kd:Option Kd) (x:V):yK (xn8 x) (zx2 ks kd x):=by
 unfold zx2
 split
 ·split<;>trivial
 ·split<;>trivial
 ·split<;>trivial
 ·split
  ·exact yT6
  ·trivial
 ·trivial
def yq2 (el:Option (Nat×Nat)) (l m:V):Bool:=
 match el,l,m with
 |some (_,by'),.int .i64 n,.int .i64 k=>decide (0≤n∧n≤k∧k.toNat*by'≤140737488355328)
 |_,_,_=>false
theorem yN6 (el:Option (Nat×Nat)) (zs:Option (List V)) (σ:St) (l m:V):yK (yq2 el l m) (zx4 el zs σ l m):=by
 unfold zx4
 split
 ·simp only[yq2,yK,decide_eq_true_eq,imp_self]
 ·trivial
theorem yx9 (el:Option (Nat×Nat)) (zs:Option (List V)) (σ:St) (l m:V):yK (yq2 el l m) (zp3 el zs σ l m):=by
 unfold zp3
 split
 ·simp only[yq2,yK,decide_eq_true_eq,imp_self]
 ·trivial
def yv8 (sl:Option Nat) (σ:St) (x:V):Bool:=
 match x with
 | .lsv id s n lo m=>(match σ[id]? with|some (.lst rows s')=>decide (sl=some s∧s'=s∧rows.length=n∧lo+m≤n)|_=>true)
 |_=>true
theorem yv9 (sl:Option Nat) (zs:Option (List V)) (σ:St) (x:V):yK (yv8 sl σ x) (zp2 sl zs σ x):=by
 unfold zp2
 split
 ·split
  ·rename_i h1
   simp only[yv8,h1,yK,decide_eq_true_eq,imp_self]
  ·trivial
 ·trivial
def srcB (σ:St):V→Bool
 | .lsv id s n lo m=>(match σ[id]? with|some (.lst rows s')=>decide (s'=s∧rows.length=n∧lo+m≤n)&&wO ((rows.drop lo).take m)|_=>false)
 |_=>true
theorem zL5 {σ:St} {y:V} (h:srcB σ y=true):zl1 σ y:=by
 unfold zl1
 split
 ·simp only[srcB]at h
  split at h
  ·rename_i h1
   rw[h1]
   simp only[Bool.and_eq_true,decide_eq_true_eq]at h
   exact⟨h.1.1,h.1.2.1,h.1.2.2,h.2⟩
  ·cases h
 ·trivial
def zD4 (el:Option (Nat×Nat)) (k2:Nat) (σ:St) (x y:V):Bool:=
 match el,zz0 k2 σ y with
 |some (s,by'),some r2=>
  (match x with
  | .sl .full r1=>srcB σ y&&decide ((r1.length+r2.length)*by'≤140737488355328)&&uniB s r1&&uniB s r2
  | .sl (.app id) r1=>(match σ[id]? with
   |some (.app n s')=>srcB σ y&&decide (r1.length=n∧s'=s∧(r1.length+r2.length)*by'≤140737488355328)&&uniB s r2
   |_=>true)
  | .lsv id s1 n lo m=>(match σ[id]? with
   |some (.lst rows s')=>srcB σ y&&decide (s1=s∧s'=s∧rows.length=n)&&uniB s r2&&(decide (lo+m+r2.length≤n)||decide (lo=0∧m=n∧(n+r2.length)*by'≤140737488355328))
   |_=>true)
  |_=>true)
 |_,_=>true
theorem yl7 (el:Option (Nat×Nat)) (k2:Nat) (σ:St) (x y:V):yK (zD4 el k2 σ x y) (zf6 el k2 σ x y):=by
 unfold zf6
 split
 ·rename_i h2
  split
  ·simp only[zD4,h2,yK,Bool.and_eq_true,decide_eq_true_eq]
   exact fun h=>⟨zL5 h.1.1.1,h.1.1.2,zl2 h.1.2,zl2 h.2⟩
  ·split
   ·rename_i h3
    simp only[zD4,h2,h3,yK,Bool.and_eq_true,decide_eq_true_eq]
    exact fun h=>⟨zL5 h.1.1,h.1.2.1,h.1.2.2.1,h.1.2.2.2,zl2 h.2⟩
   ·trivial
  ·split
   ·rename_i h3
    split
    ·simp only[zD4,h2,h3,yK,Bool.and_eq_true,decide_eq_true_eq]
     exact fun h=>⟨zL5 h.1.1.1,h.1.1.2.1,h.1.1.2.2.1,h.1.1.2.2.2,zl2 h.1.2⟩
    ·rename_i hno
     simp only[zD4,h2,h3,yK,Bool.and_eq_true,Bool.or_eq_true,decide_eq_true_eq]
     exact fun h=>⟨zL5 h.1.1.1,h.1.1.2.1,h.1.1.2.2.1,h.1.1.2.2.2,zl2 h.1.2,(h.2.resolve_left hno)⟩
   ·trivial
  ·trivial
 ·trivial
def xc4 (σ:St):V→Bool
 | .lsv id s n lo m=>(match σ[id]? with|some (.lst rows s')=>decide (s'=s∧rows.length=n∧lo+m≤n)|_=>false)
 |_=>true
theorem yt6 {σ:St} {y:V} (h:xc4 σ y=true):zs6 σ y:=by
 unfold zs6
 split
 ·simp only[xc4]at h
  split at h
  ·rename_i h1
   rw[h1]
   exact of_decide_eq_true h
  ·cases h
 ·trivial
def zA0 (el:Option (Nat×Nat)) (k2:Nat) (σ:St) (x y:V):Bool:=
 match x with
 | .lsv id s1 n lo m=>(match el,zB9 k2 σ y with
  |some (s,by'),some r2=>(match σ[id]? with
   |some (.lst rows s')=>xc4 σ y&&decide (s1=s∧s'=s∧rows.length=n)&&uniB s r2&&(decide (lo+m+r2.length≤n)||decide (lo=0∧m=n∧(n+r2.length)*by'≤140737488355328))
   |_=>true)
  |_,_=>true)
 |x=>match el,zz0 k2 σ y with
 |some (s,by'),some r2=>
  (match x with
  | .sl .full r1=>srcB σ y&&decide ((r1.length+r2.length)*by'≤140737488355328)&&uniB s r1&&uniB s r2&&(!r2.isEmpty||r1.isEmpty)
  |_=>true)
 |_,_=>true
theorem yg2 (el:Option (Nat×Nat)) (k2:Nat) (σ:St) (x y:V):yK (zA0 el k2 σ x y) (zc3 el k2 σ x y):=by
 unfold zc3
 split
 ·split
  ·rename_i h2
   split
   ·rename_i h3
    split
    ·simp only[zA0,h2,h3,yK,Bool.and_eq_true,decide_eq_true_eq]
     exact fun h=>⟨yt6 h.1.1.1,h.1.1.2.1,h.1.1.2.2.1,h.1.1.2.2.2,zl2 h.1.2⟩
    ·rename_i hno
     simp only[zA0,h2,h3,yK,Bool.and_eq_true,Bool.or_eq_true,decide_eq_true_eq]
     exact fun h=>⟨yt6 h.1.1.1,h.1.1.2.1,h.1.1.2.2.1,h.1.1.2.2.2,zl2 h.1.2,(h.2.resolve_left hno)⟩
   ·trivial
  ·trivial
 ·split
  ·rename_i h2
   split
   ·simp only[zA0,h2,yK,Bool.and_eq_true,decide_eq_true_eq]
    refine fun h=>⟨zL5 h.1.1.1.1,h.1.1.1.2,zl2 h.1.1.2,zl2 h.1.2,fun e=> ?_⟩
    have:=h.2
    rw[e]at this
    simpa using this
   ·trivial
  ·trivial
def zn2 (L:Bool) (es:Option Nat) (len:Nat) (parts:List (Nat×V)):Bool:=
 match es with
 |some s=>(parts.all fun p=>(L||ye1 p.2)&&(xU p.2).length==s)&&decide (len*s≤16777216∧0<s)
 |none=>true
theorem zR6 (es:Option Nat) (len:Nat) (parts:List (Nat×V)):yK (zn2 false es len parts) (wK es len parts):=by
 unfold wK
 split
 ·split
  ·simp only[zn2,yK,Bool.and_eq_true,decide_eq_true_eq,List.all_eq_true,Bool.false_or,beq_iff_eq]
   exact fun h=>⟨fun p hp=>h.1 p hp,h.2⟩
  ·trivial
 ·trivial
theorem zM3 (es:Option Nat) (len:Nat) (σ:St) (parts:List (Nat×V)):yK (zn2 true es len parts) (xW es len σ parts):=by
 unfold xW
 split
 ·split
  ·simp only[zn2,yK,Bool.and_eq_true,decide_eq_true_eq,List.all_eq_true,Bool.true_or,beq_iff_eq]
   exact fun h=>⟨fun p hp=>(h.1 p hp).2,h.2⟩
  ·trivial
 ·trivial
def zW4 (P:Program) (L:Bool) (e:Env) (σ:St):Op→Bool
 | .buildSlice t n ps=>zn2 L ((elT P t).map (·.1)) n (ps.toList.map fun p=>(p.1,zF e p.2))
 | .binOp op _ x y _=>binB op (zF e x) (zF e y)
 | .convert _ _ x=>xn8 (zF e x)
 | .slice t x lo hi none=>if L then false else zY4 ((elT P t).map (·.1)) (zF e x) (lo.map (zF e)) (hi.map (zF e))
 | .slice t x (some lo) (some hi) (some mx)=>zS6 ((elT P t).map (·.1)) (zF e x) (zF e lo) (zF e hi) (zF e mx)
 | .indexAddr t x i=>zV5 (slcT P t) (arrT P t) (zF e x) (zF e i)
 | .index t x i=>idxB (zF e x) (zF e i) (arrT P t)
 | .makeSlice t l m=>yq2 (elT P t) (zF e l) (zF e m)
 | .call ⟨.builtin .append,⟨[x,y]⟩,⟨[t,t']⟩⟩=>if L then zA0 (elT P t) (lenT P t') σ (zF e x) (zF e y)else zD4 (elT P t) (lenT P t') σ (zF e x) (zF e y)
 | .call ⟨.builtin .clear,⟨[x]⟩,⟨[t]⟩⟩=>yv8 ((elT P t).map (·.1)) σ (zF e x)
 |_=>true
def xw1:R→Bool
 | .need _ _| .needst _ _ _=>false
 |_=>true
theorem xB {b:Bool} {r:R} (h:xw1 r=true):yK b r:=by
 cases r<;>first|trivial|cases h
theorem zN0 {P:Program} {e:Env} {σ:St} (op:Op):yK (zW4 P false e σ op) (evOp P e σ op):=by
 unfold evOp
 split
 ·trivial
 ·trivial
 ·refine xB ?_;unfold zA5;(repeat' split)<;>rfl
 ·refine xB ?_;unfold zi7;(repeat' split)<;>rfl
 ·refine xB ?_;unfold zF8;(repeat' split)<;>rfl
 ·refine xB ?_;unfold zt1;(repeat' split)<;>rfl
 ·exact zR6 ..
 ·refine xB ?_;unfold zf7;(repeat' split)<;>first|rfl|(unfold zi8;(repeat' split)<;>rfl)
 ·refine xB ?_;unfold zp5;(repeat' split)<;>rfl
 ·refine xB ?_;unfold zQ2;(repeat' split)<;>rfl
 ·split
  ·exact yy8 ..
  ·split
   ·refine xB ?_;unfold zn6;(repeat' split)<;>rfl
   ·exact yS9 ..
 ·refine xB ?_;unfold evUn;(repeat' split)<;>rfl
 ·exact yL8 ..
 ·exact yB3 ..
 ·exact yt4 ..
 ·refine xB ?_;unfold zc9;(repeat' split)<;>rfl
 ·refine xB ?_;unfold zt3;(repeat' split)<;>rfl
 ·exact yh6 ..
 ·exact yW4 ..
 ·refine xB ?_;unfold zj5;(repeat' split)<;>rfl
 ·refine xB ?_;unfold zA3;(repeat' split)<;>rfl
 ·exact yN6 ..
 ·refine xB ?_;unfold zQ1;(repeat' split)<;>rfl
 ·exact yl7 ..
 ·exact yv9 ..
 ·refine xB ?_;unfold zv2;(repeat' split)<;>rfl
 ·refine xB ?_;unfold zv2;(repeat' split)<;>rfl
 ·refine xB ?_;unfold zn4;(repeat' split)<;>rfl
 ·refine xB ?_;unfold zj6;(repeat' split)<;>rfl
 ·refine xB ?_;unfold zn5;(repeat' split)<;>rfl
 ·refine xB ?_;unfold xI;(repeat' split)<;>rfl
 ·refine xB ?_;unfold xI;(repeat' split)<;>rfl
 ·refine xB ?_;unfold zt4;(repeat' split)<;>rfl
 ·refine xB ?_;unfold zo4;(repeat' split)<;>rfl
 ·trivial
theorem yw6 {P:Program} {e:Env} {σ:St} (op:Op):yK (zW4 P false e σ op&&zW4 P true e σ op) (wJ P e σ op):=by
 have weak: ∀{b c:Bool} {r:R},yK b r→yK (c&&b) r:=by
  intro b c r h
  cases r with
  |need p v=>exact fun q=>h (by simp at q;exact q.2)
  |needst p v s=>exact fun q=>h (by simp at q;exact q.2)
  |_=>trivial
 have weak1: ∀{b c:Bool} {r:R},yK b r→yK (b&&c) r:=by
  intro b c r h
  cases r with
  |need p v=>exact fun q=>h (by simp at q;exact q.1)
  |needst p v s=>exact fun q=>h (by simp at q;exact q.1)
  |_=>trivial
 unfold wJ
 split
 ·exact weak (zM3 ..)
 ·exact weak (yx9 ..)
 ·refine xB ?_;unfold zt2;(repeat' split)<;>rfl
 ·refine weak (b:=false) ?_;unfold zn7;(repeat' split)<;>first|trivial|exact fun q=>by cases q
 ·exact weak (yg2 ..)
 ·refine xB ?_;unfold zo4;(repeat' split)<;>rfl
 ·exact weak1 (zN0 op)
def xopR (b:Bool) (σ:St):R→Option (V×St)
 | .ok v=>some (v,σ)
 | .need _ v=>if b then some (v,σ)else none
 | .st v σ'=>some (v,σ')
 | .needst _ v σ'=>if b then some (v,σ')else none
 |_=>none
def xop (P:Program) (d:Option Tmp) (e:Env) (σ:St) (op:Op):Option (V×St):=
 if zb4 e d then xopR (zW4 P false e σ op&&zW4 P true e σ op) σ (wJ P e σ op)else xopR (zW4 P false e σ op) σ (evOp P e σ op)
theorem zZ8 {b:Bool} {σ σ':St} {r:R} {v:V} {nt:Nat} {d:Option Tmp} {K:KT} {e:Env} (hn:yK b r) (h:xopR b σ r=some (v,σ')) (hk:vput nt d v K e σ'):vfin nt d r K e σ:=by
 cases r with
 |fail=>cases h
 |ok v'=>cases h;exact hk
 |need p v'=>
  simp only[xopR]at h
  split at h
  ·rename_i hb
   cases h;exact⟨hn hb,hk⟩
  ·cases h
 |st v' s=>cases h;exact hk
 |needst p v' s=>
  simp only[xopR]at h
  split at h
  ·rename_i hb
   cases h;exact⟨hn hb,hk⟩
  ·cases h
 |all f=>cases h
 |any l=>cases h
theorem xn3 {P:Program} {σ σ':St} {op:Op} {v:V} {nt:Nat} {d:Option Tmp} {K:KT} {e:Env} (h:xop P d e σ op=some (v,σ')) (hk:vput nt d v K e σ'):vfin nt d (xG P d e σ op) K e σ:=by
 unfold xop at h
 unfold xG
 split at h
 ·rename_i hh
  rw[if_pos hh]
  exact zZ8 (yw6 op) h hk
 ·rename_i hh
  rw[if_neg hh]
  exact zZ8 (zN0 op) h hk
end Go.Vx
