/-
  Small helps for walks: numbers that do not wrap, rows at an index, arguments and results piece by piece.
  No condition: a library text; nothing of the program is named.
-/
import Derived.Test.YtajjjghohakniaaGreatKAO
import Derived.IntWalk
namespace Go.Vx
open Go
theorem xk3 {j:Nat} (h:j≤9223372036854775807):IntKind.i64.wrap (j:Int)=j:=IntWalk.i64_in _ (by omega)
theorem i64_id {n:Int} (h: -9223372036854775808≤n) (h2:n≤9223372036854775807):IntKind.i64.wrap n=n:=IntWalk.i64_in _ (by omega)
theorem u64_id {n:Int} (h:0≤n) (h2:n≤18446744073709551615):IntKind.u64.wrap n=n:=by
 unfold IntKind.wrap
 simp[IntKind.bits,IntKind.signed]
 omega
@[go_sem] theorem i64_lit (n:Nat) (h:n≤9223372036854775807):IntKind.i64.wrap (no_index (OfNat.ofNat n))=OfNat.ofNat n:=by
 rw[show(OfNat.ofNat n:Int)=((n:Nat):Int) from rfl]
 exact xk3 h
@[go_sem] theorem i64_lit0:IntKind.i64.wrap 0=0:=by decide+kernel
@[go_sem] theorem i64_lit1:IntKind.i64.wrap 1=1:=by decide+kernel
@[go_sem] theorem evBin_shl {k k':IntKind} {x y:Int} {ek:Nat} {es:Option (List Pk)} (h:k≠k'):zl3 .shl ek es (.int k x) (.int k' y)= .need (0≤y) (.int k (k.wrap (x*2^(min y.toNat k.bits)))):=by simp[zl3,h]
@[go_sem] theorem evBin_shr {k k':IntKind} {x y:Int} {ek:Nat} {es:Option (List Pk)} (h:k≠k'):zl3 .shr ek es (.int k x) (.int k' y)= .need (0≤y) (.int k (x.fdiv (2^(min y.toNat k.bits)))):=by simp[zl3,h]
theorem zT {i n:Nat} (h:i<n) (hn:n≤9223372036854775807):IntKind.i64.wrap ((i:Int)+1)=((i+1:Nat):Int):=by
 rw[IntWalk.i64_in _ (by omega)];rfl
theorem zN5 {α:Type} {f:α→List V} {s:Nat} {l:List α} (h: ∀x,(f x).length=s):uni s (l.map f):=fun r hr=>by
 obtain⟨x,_,rfl⟩:=List.mem_map.1 hr
 exact h x
theorem yT {s:Nat} {r:List V} (h:r.length=s):uni s [r]:=fun x hx=>by simp at hx;subst hx;exact h
theorem zn4 (k:Nat) {n0:Nat} {R:V→St→Prop} {σ s:St} {v r:V} (hs:σ.take k=s) (hl:s.length=k) (hok:s.all (ltOb k)=true) (hn:n0≤k) (hr:argS (ren (List.range k) σ.length) r v) (hR:R r s):wret (some v) n0 R σ:=by
 subst hs;exact zQ4 k hl hok hn hr hR
def i64R (n:Int):Prop:= -9223372036854775808≤n∧n≤9223372036854775807
instance (n:Int):Decidable (i64R n):=inferInstanceAs (Decidable (_∧_))
@[go_sem] def yH (n:Int):List V:= [.int .i64 n]
theorem zL5 {ρ:Nat→Nat} {vs' vs:List V} (h:All2 (argA ρ) vs' vs):argS ρ (.tup vs') (.tup vs):= .inr (.inr (.inr (.inr ⟨vs',vs,rfl,rfl,h⟩)))
theorem ym4 {ρ:Nat→Nat} {g:Tag} {rows:List (List V)}:argA ρ (.sl .ro rows) (.sl g rows):= .inr (.inl ⟨g,rows,rfl,rfl⟩)
theorem zN1 {ρ:Nat→Nat} {v:V} (h:noA v=true):argA ρ v v:= .inl (yo2 h).symm
theorem wK {ρ:Nat→Nat} {g:Tag} {rows:List (List V)}:argC ρ (.sl .ro rows) (.sl g rows):= .inr ⟨g,rows,rfl,rfl⟩
theorem yA {ρ:Nat→Nat} {v:V} (h:noC v=true):argC ρ v v:= .inl (zK8 h).symm
theorem zo3 {ρ:Nat→Nat} {cs' cs:List V} (h:All2 (argC ρ) cs' cs):argS ρ (.agg cs') (.agg cs):= .inr (.inr (.inr (.inl ⟨cs',cs,rfl,rfl,h⟩)))
theorem xd6 {ρ:Nat→Nat} {cs' cs:List V} (h:All2 (argC ρ) cs' cs):argA ρ (.agg cs') (.agg cs):= .inr (.inr ⟨cs',cs,rfl,rfl,h⟩)
theorem xj8 {P:Program} {c:Ctx} {σ:St} {f:FuncId} {caps args args':List V} {KV:V→St→Prop} {R:V→Prop} (hc:VCalls P f args' [] fun r s=>R r∧s= []) (hb:zK P f=true) (hargs:All2 (argS (ren [] σ.length)) args' (args++caps))
  (hn: ∀r,R r→noS r=true) (hk: ∀r,R r→KV r σ):wVC P c (.fn f caps) args σ KV fx:=by
 refine VC.of hc hb [] List.nodup_nil rfl (fun i j o h=>by simp at h) hargs ?_
 rintro r σ' ⟨hR,rfl⟩ _
 rw[zv9 (hn r hR)]
 have:xR [] σ []=σ:=by simp[xR,mset]
 rw[this];exact hk r hR
theorem yv4 {k:Nat} {σ s:St} (hk:k≤σ.length) (hs:s.length=k) (hok:s.all (ltOb k)=true):xR (List.range k) σ s=s++σ.drop k:=by
 have e1:(s.take (List.range k).length).map (yF (ren (List.range k) σ.length))=s:=by
  rw[List.length_range,List.take_of_length_le (by omega)]
  exact za5 (fun o h=>zf9 (n:=k) (fun i hi=>zc8 hi) h) hok
 have e2:(s.drop (List.range k).length).map (yF (ren (List.range k) σ.length))= []:=by
  rw[List.length_range,List.drop_of_length_le (by omega)];rfl
 unfold xR
 rw[e1,e2,List.append_nil]
 apply List.ext_getElem?
 intro i
 by_cases hi:i<k
 ·rw[zU5 (List.range k) σ s i i List.nodup_range (fun q hq=>by have:=List.mem_range.1 hq;omega) (by rw[List.length_range];omega) (by rw[List.getElem?_range hi]),List.getElem?_append_left (by omega)]
 ·rw[ze3 _ _ _ _ (fun h=>hi (List.mem_range.1 h)),List.getElem?_append_right (by omega),List.getElem?_drop,hs]
  congr 1;omega
theorem yo8 {P:Program} {c:Ctx} {σ:St} (k:Nat) {f:FuncId} {caps args args':List V} {σin:St} {KV:V→St→Prop} {R:V→St→Prop} (hc:VCalls P f args' σin R) (hb:zK P f=true) (hk:σ.take k=σin) (hl:σin.length=k) (hok:σin.all (ltOb k)=true)
  (hargs:All2 (argS (ren (List.range k) σ.length)) args' (args++caps)) (hR: ∀r s,R r s→s.length=k∧s.all (ltOb k)=true∧ltS k r=true) (hK: ∀r s,R r s→KV r (s++σ.drop k)):wVC P c (.fn f caps) args σ KV fx:=by
 have hkl:k≤σ.length:=by rw[←hl,←hk];simp;exact Nat.min_le_right _ _
 refine VC.of hc hb (List.range k) List.nodup_range (by simp[hl]) (fun i j o h1 h2=> ?_) hargs fun r s h _=> ?_
 ·obtain⟨h3,h4⟩:=List.getElem?_eq_some_iff.1 h1
  simp at h3 h4
  subst h4
  have ho:ltOb k o=true:=by
   rw[List.all_eq_true]at hok
   exact hok o (List.mem_iff_getElem?.2 ⟨i,h2⟩)
  rw[zf9 (n:=k) (fun i hi=>zc8 hi) ho]
  rw[←hk,List.getElem?_take,if_pos h3]at h2
  exact h2
 ·obtain⟨h1,h2,h3⟩:=hR r s h
  rw[ym6 (n:=k) (fun i hi=>zc8 hi) h3,yv4 hkl h1 h2]
  exact hK r s h
theorem zn6 {P:Program} {c:Ctx} {σ:St} (i:Nat) {o:Ob} {f:FuncId} {caps args args':List V} {KV:V→St→Prop} {R:V→St→Prop} (hc:VCalls P f args' [o] R) (hb:zK P f=true) (ho:σ[i]? =some o) (hok:ltOb 0 o=true)
  (hargs:All2 (argS (ren [i] σ.length)) args' (args++caps)) (hR: ∀r s,R r s→ ∃o2,s= [o2]∧ltOb 0 o2=true) (hK: ∀r o2,R r [o2]→KV (renS (ren [i] σ.length) r) (σ.set i o2)):wVC P c (.fn f caps) args σ KV fx:=by
 refine xk1 hc hb ho hok hargs fun r s h _=> ?_
 obtain⟨o2,rfl,h2⟩:=hR r s h
 have e:xR [i] σ [o2]=σ.set i o2:=by
  simp only[xR,List.length_singleton,List.take_succ_cons,List.take_zero,List.drop_succ_cons,List.drop_zero,List.map_cons,List.map_nil,mset,List.append_nil]
  rw[zf9 (n:=0) (fun _ h=>absurd h (Nat.not_lt_zero _)) h2]
 rw[e];exact hK r o2 h
theorem xn1 {i N:Nat}:ren [i] N 0=i:=rfl
attribute [go_sem] renS renA renC renK xn1
section
variable {ρ:Nat→Nat} (hρ: ∀i,ρ i=i)
include hρ
theorem xj9 (v:V):renK ρ v=v:=by
 cases v with
 |sl g rows=>cases g<;>simp[renK,hρ]
 |_=>simp[renK,hρ]
theorem yL0 (v:V):renC ρ v=v:=by
 have h:renK ρ=fun v=>v:=funext fun v=>xj9 hρ v
 cases v with
 |fn f caps=>simp only[renC,h,List.map_id']
 |_=>simp only[renC,h]
theorem yN3 (v:V):renA ρ v=v:=by
 have h:renC ρ=fun v=>v:=funext fun v=>yL0 hρ v
 cases v with
 |agg cs=>simp only[renA,h,List.map_id']
 |_=>simp only[renA,h]
theorem zz4 (v:V):renS ρ v=v:=by
 have h:renA ρ=fun v=>v:=funext fun v=>yN3 hρ v
 cases v with
 |tup vs=>simp only[renS,h,List.map_id']
 |_=>simp only[renS,h]
theorem zu0 (o:Ob):yF ρ o=o:=by
 have h:renC ρ=fun v=>v:=funext fun v=>yL0 hρ v
 cases o with
 |box cells=>simp only[yF,h,List.map_id']
 |lst rows s=>simp only[yF,h,List.map_id']
 |mp kvs borns clk=>
  have h:renA ρ=fun v=>v:=funext fun v=>yN3 hρ v
  simp only[yF,h,List.map_id']
 |it m since seen last=>cases m<;>simp[yF,hρ]
 |_=>rfl
end
theorem yX2 {P:Program} {c:Ctx} {f:FuncId} {caps args args':List V} {KV:V→St→Prop} {R:V→St→Prop} (hc:VCalls P f args' [] R) (hb:zK P f=true)
  (hargs:All2 (argS (ren [] 0)) args' (args++caps)) (hK: ∀r s,R r s→KV r s):wVC P c (.fn f caps) args [] KV fx:=by
 have hid: ∀i,ren [] 0 i=i:=fun i=>by simp[ren]
 refine VC.of hc hb [] List.nodup_nil rfl (fun i j o h=>by simp at h) hargs fun r s h _=> ?_
 have e:xR [] [] s=s:=by
  have h2:yF (ren [] 0)=fun o=>o:=funext fun o=>zu0 hid o
  simp[xR,mset,h2]
 show KV (renS (ren [] 0) r) (xR [] [] s)
 rw[e,zz4 hid]
 exact hK r s h
theorem zX {P:Program} {c:Ctx} {nt:Nat} {id:Nat} {ops:List Oper} {Q:QT} {e:Env} {σ:St} (q:List (Nat×Nat)) (n0:Nat) (hn:n0≤σ.length) (hm:P.follows .mixedOrders=true) (hd:(zB1 ops q&&zd2 ops)=true) (h:wtr P c nt (Kp.pre n0) ops q 0 ops (Q .normal) fx fx fx e σ):wVW P c nt (.region id ops.toArray true) Q fx fx e σ:=by
 simp only[Bool.and_eq_true]at hd
 obtain⟨tr,ht,hK⟩:=zs1 ops 0 (Q .normal) e σ h
 exact VW.draw (n0:=Kp.pre n0) hm hn hd.1 hd.2 ht hK
theorem za0 {P:Program} {c:Ctx} {nt:Nat} {id:Nat} {ops:List Oper} {Q:QT} {e:Env} {σ:St} (q:List (Nat×Nat)) (x n0:Nat) (hn:n0≤σ.length) (hm:P.follows .mixedOrders=true) (hd:(zB1 ops q&&zd2 ops)=true) (h:wtr P c nt (Kp.mk x n0) ops q 0 ops (Q .normal) fx fx fx e σ):wVW P c nt (.region id ops.toArray true) Q fx fx e σ:=by
 simp only[Bool.and_eq_true]at hd
 obtain⟨tr,ht,hK⟩:=zs1 ops 0 (Q .normal) e σ h
 exact VW.draw (n0:=Kp.mk x n0) hm hn hd.1 hd.2 ht hK
theorem zj1 (t s:Nat) {P:Program} {c:Ctx} {nt:Nat} {e:Env} {σ:St} {Q:QT} {y:Code} (h0:0<s) (ht:e t= .sl .full []) (hy:wVW P c nt y Q fx fx (upd e t (.sl (.app σ.length) [])) (σ++ [.app 0 s])):wVW P c nt y Q fx fx e σ:=by
 intro a w L β hs
 have hr:=hs.env t
 rw[ht]at hr
 obtain⟨ad,hx⟩: ∃ad,a.tmps.getD t undef= .slice ad 0 0:=by
  have hr:RdP w L (.sl .full []) (a.tmps.getD t undef):=hr
  generalize a.tmps.getD t undef=x at hr
  cases hr with
  |sl0 g ad cap hg ha=>have:=hg rfl;subst this;exact⟨ad,rfl⟩
  |sl g rows s b o cap c ha hs hlen hlim hcap hg hc hr=>have:=hg rfl;subst this;exact⟨_,rfl⟩
 have hext:=Ext.push σ β hs.mem.len (.app 0 s) (.slice ad 0 0)
 refine hy a w L (β++ [.slice ad 0 0]) ⟨hs.mem.own h0,hs.size,hs.defs,fun k=> ?_⟩
 simp only[upd]
 split
 ·rename_i hk
  subst hk
  rw[hx]
  exact⟨.sl0 .ro ad 0 (fun h=>by cases h) (fun _ h=>by cases h),0,s,by simp,Nat.zero_le _,fun _=>by rw[←hs.mem.len];simp,fun r h=>by simp at h⟩
 ·exact(hs.env k).mono (Le.refl _ _) hext
theorem zX9 (id off s:Nat) (cells:List V) {P:Program} {c:Ctx} {nt:Nat} {e:Env} {σ:St} {Q:QT} {y:Code} (h0:0<s) (hσ:σ[id]? =some (.box cells)) (hc:cells[off]? =some (.sl .full []))
  (hy:wVW P c nt y Q fx fx e (σ.set id (.box (cells.set off (.sl (.app σ.length) [])))++ [.app 0 s])):wVW P c nt y Q fx fx e σ:=by
 intro a w L β hs
 obtain⟨x,h1,h2⟩:=xn4 hs.mem h0 hσ hc
 exact hy a w L (β++ [x]) ⟨h1,hs.size,hs.defs,fun k=>(hs.env k).mono (Le.refl _ _) h2⟩
theorem xk0 (t s:Nat) {P:Program} {c:Ctx} {nt:Nat} {e:Env} {σ:St} {Q:QT} {y:Code} (h0:0<s) (ht:e t= .sl .full []) (hy:wVW P c nt y Q fx fx (upd e t (.lsv σ.length s 0 0 0)) (σ++ [.lst [] s])):wVW P c nt y Q fx fx e σ:=by
 intro a w L β hs
 have hr:=hs.env t
 rw[ht]at hr
 obtain⟨ad,hx⟩: ∃ad,a.tmps.getD t undef= .slice ad 0 0:=by
  have hr:RdP w L (.sl .full []) (a.tmps.getD t undef):=hr
  generalize a.tmps.getD t undef=x at hr
  cases hr with
  |sl0 g ad cap hg ha=>have:=hg rfl;subst this;exact⟨ad,rfl⟩
  |sl g rows s b o cap c ha hs hlen hlim hcap hg hc hr=>have:=hg rfl;subst this;exact⟨_,rfl⟩
 have hext:=Ext.push σ β hs.mem.len (.lst [] s) (.slice ad 0 0)
 refine hy a w L (β++ [.slice ad 0 0]) ⟨hs.mem.lstNil h0,hs.size,hs.defs,fun k=> ?_⟩
 simp only[upd]
 split
 ·rename_i hk
  subst hk
  rw[hx]
  exact zO3 (w':=w) (L':=L) (s:=s) (rows:= []) (cap:=0) (a0:=ad) hs.mem.len (Nat.le_refl _) (fun h=>absurd h (by omega))
 ·exact(hs.env k).mono (Le.refl _ _) hext
theorem yy1 {σ s:St} (h:σ.length≤s.length):xR (List.range σ.length) σ s=s:=by
 have ra: ∀i,ren (List.range σ.length) σ.length i=i:=fun i=>by
  by_cases h:i<σ.length
  ·exact zc8 h
  ·rw[zp7 (by simp;omega)];simp;omega
 have hid:yF (ren (List.range σ.length) σ.length)=fun o=>o:=funext fun o=>zu0 ra o
 apply List.ext_getElem?
 intro i
 by_cases hi:i<s.length
 ·have:=zm8 (sel:=List.range σ.length) (σc:=σ) (σ':=s) List.nodup_range (fun q hq=>List.mem_range.1 hq) (by simpa using h) (List.getElem?_eq_getElem hi)
  rw[ra,hid]at this
  rw[this,List.getElem?_eq_getElem hi]
 ·have hl:(xR (List.range σ.length) σ s).length=s.length:=by rw[zq7];simp;omega
  rw[List.getElem?_eq_none (by omega),List.getElem?_eq_none (by omega)]
theorem zw8 {P:Program} {c:Ctx} {σ:St} {f:FuncId} {caps args:List V} {KV:V→St→Prop} {R:V→St→Prop} (hc:VCalls P f (args++caps) σ R) (hb:zK P f=true)
  (hk: ∀r s,R r s→σ.length≤s.length→KV r s):wVC P c (.fn f caps) args σ KV fx:=by
 have ra: ∀i,ren (List.range σ.length) σ.length i=i:=fun i=>by
  by_cases h:i<σ.length
  ·exact zc8 h
  ·rw[zp7 (by simp;omega)];simp;omega
 refine VC.of hc hb (List.range σ.length) List.nodup_range (by simp) (fun i j o hi ho=> ?_) ?_ ?_
 ·obtain⟨h3,h4⟩:=List.getElem?_eq_some_iff.1 hi
  simp at h3 h4
  subst h4
  rw[zu0 ra];exact ho
 ·have: ∀l:List V,All2 (argS (ren (List.range σ.length) σ.length)) l l:=by
   intro l
   induction l with
   |nil=>trivial
   |cons a l ih=>exact⟨.inl (zz4 ra a).symm,ih⟩
  exact this _
 ·intro r s hr hl
  rw[zz4 ra,yy1 (by simpa using hl)]
  exact hk r s hr (by simpa using hl)
theorem yw9 {n0:Nat} {R:V→St→Prop} {σ:St} {r:V} (hn:n0≤σ.length) (hR:R r σ):wret (some r) n0 R σ:=by
 have ra: ∀i,ren (List.range σ.length) σ.length i=i:=fun i=>by
  by_cases h:i<σ.length
  ·exact zc8 h
  ·rw[zp7 (by simp;omega)];simp;omega
 refine⟨r,rfl,r,σ,List.range σ.length,σ,r,.refl _ _,⟨by simp,List.nodup_range,fun i j o hi ho=> ?_,fun i hi=>by rw[List.getElem?_range (by omega)]⟩,.inl (zz4 ra r).symm,hR⟩
 obtain⟨h1,h2⟩:=List.getElem?_eq_some_iff.1 hi
 simp at h1 h2
 subst h2
 rw[zu0 ra]
 exact ho
end Go.Vx
