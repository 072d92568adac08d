/-
  From a statement's reading of its arguments to trees, and back: what a walk over trees gives for a law that returns true and changes no argument.
  No condition: a library text; nothing of the program is named.
-/
import Derived.Test.YtajjjghohakniaaGreatKAN
import Derived.Carry
import Derived.ProofKit
import Derived.OpenShut
namespace Go.Vx
open Go
def At (n0:Nat) (keep:List Nat) (vs:List V) (s:St) (e:Env) (σ:St):Prop:=
 ∃pick,Picks n0 pick σ s∧All2 (argS (ren pick σ.length)) vs (keep.map e)
def Next {S:Type} (p:S→Prop) (_:Fx p):Prop:= ∃s,p s
theorem zN {S:Type} {p:S→Prop} (s:S) (h:p s):Next p fx:=⟨s,h⟩
section
variable {P:Program} {c:Ctx} {nt:Nat} {e:Env} {σ:St} {a:Act} {w:World} {L:Nat→Nat} {β:List Value} {Q:QT} {n0:Nat}
theorem zC {code:Code} (h:zp1 P c nt code Q fx fx e σ):wVW P c nt code Q fx fx e σ:=zd3 code Q e σ h
theorem zN7 {x y:Code} {K:KT} (h:wVW P c nt x (zT6 K Q fx fx) fx fx e σ) (hy: ∀e' σ',K e' σ'→wVW P c nt y Q fx fx e' σ'):wVW P c nt (.seq x y) Q fx fx e σ:=by
 intro a w L β hs
 refine wp_seq (wp_mono (h a w L β hs) fun ex a' w' q=> ?_)
 cases ex with
 |normal=>obtain⟨e',σ',L',β',hs',hq⟩:=q;exact hy e' σ' hq a' w' L' β' hs'
 |exit id=>exact q
 |goto l=>exact q
 |ret=>exact q
 |panic ch=>exact q
 |outgrown=>exact q
theorem wM {x y:Code} (h:wVW P c nt x (zT6 (wVW P c nt y Q fx fx) Q fx fx) fx fx e σ):wVW P c nt (.seq x y) Q fx fx e σ:=zN7 h fun _ _ h=>h
theorem zk6 {id:Nat} {b:Code} (h:wVW P c nt b (wblk id Q fx) fx fx e σ):wVW P c nt (.block id b) Q fx fx e σ:=by
 intro a w L β hs
 refine wp_block (wp_mono (h a w L β hs) fun ex a' w' q=> ?_)
 cases ex with
 |exit id'=>
  obtain⟨e',σ',L',β',hs',hq⟩:=q
  change (if id'=id then Q .normal e' σ' else Q (.exit id') e' σ')at hq
  change (if id'=id then Lift c nt Q .normal a' w' else Lift c nt Q (.exit id') a' w')
  split
  ·rename_i hid
   rw[if_pos hid]at hq
   exact⟨e',σ',L',β',hs',hq⟩
  ·rename_i hid
   rw[if_neg hid]at hq
   exact⟨e',σ',L',β',hs',hq⟩
 |normal=>exact q
 |goto l=>exact q
 |ret=>exact q
 |panic ch=>exact q
 |outgrown=>exact q
theorem yx7 {b:Bool} {x:Operand} {t f:Code} (hx:zG e x= .bool b) (ht:b=true→wVW P c nt t Q fx fx e σ) (hf:b=false→wVW P c nt f Q fx fx e σ):wVW P c nt (.cond x t f) Q fx fx e σ:=by
 intro a w L β hs
 have hv:=hs.eval x
 rw[hx]at hv
 exact wp_cond_split (zc0 hv) (fun h=>ht h a w L β hs) (fun h=>hf h a w L β hs)
theorem xu3 {y:Code} {keep:List Nat} {vs:List V} {s:St} (hn:c.σ0.length=n0) (hc:c.β0.length=c.σ0.length) (hk:At n0 keep vs s e σ) (hy:wVW P c nt y Q fx fx (envK (keep.zip vs)) s):wVW P c nt y Q fx fx e σ:=by
 intro a w L β hs
 subst hn
 obtain⟨pick,hp,hall⟩:=hk
 obtain⟨vs',s',β',⟨rfl,rfl⟩,_,hs'⟩:=zu4 (Inv:=fun vs' s' _=>vs'=vs∧s'=s) (m:=0) hs hc ⟨vs,s,pick,hp,hall,rfl,rfl⟩
 exact hy a w L β' hs'
theorem zf4 {x y:Code} {S:Type} (keep:List Nat) (vals:S→List V) (sto:S→St) (I:S→Prop) (hn:c.σ0.length=n0) (hc:c.β0.length=c.σ0.length)
  (hx:wVW P c nt x (zT6 (fun e' σ'=>Next (fun s=>I s∧At n0 keep (vals s) (sto s) e' σ') fx) Q fx fx) fx fx e σ)
  (hy: ∀s,I s→wVW P c nt y Q fx fx (envK (keep.zip (vals s))) (sto s)):wVW P c nt (.seq x y) Q fx fx e σ:=
 zN7 hx fun _ _ ⟨s,hI,hat⟩=>xu3 hn hc hat (hy s hI)
theorem zL {body:Code} {S:Type} (keep:List Nat) (vals:S→List V) (sto:S→St) (meas:S→Nat) (I:S→Prop) (hn:c.σ0.length=n0) (hc:c.β0.length=c.σ0.length)
  (s0:S) (hI:I s0) (h0:At n0 keep (vals s0) (sto s0) e σ)
  (hr: ∀s,I s→wVW P c nt body (zT6 (fun e' σ'=>Next (fun s'=>meas s'<meas s∧I s'∧At n0 keep (vals s') (sto s') e' σ') fx) Q fx fx) fx fx (envK (keep.zip (vals s))) (sto s)):wVW P c nt (.loop body) Q fx fx e σ:=by
 subst hn
 intro a w L β hs
 refine zD4 (fun m a w=> ∃s L β,m=meas s∧I s∧Sim c nt (envK (keep.zip (vals s))) (sto s) a w L β) (meas s0) ?_ ?_
 ·obtain⟨pick,hp,hall⟩:=h0
  obtain⟨vs',s',β',⟨rfl,rfl⟩,_,hs'⟩:=zu4 (Inv:=fun vs' s' _=>vs'=vals s0∧s'=sto s0) (m:=0) hs hc ⟨_,_,pick,hp,hall,rfl,rfl⟩
  exact⟨s0,L,β',rfl,hI,hs'⟩
 ·rintro m a w ⟨s,L,β,rfl,hIs,hs⟩
  refine wp_mono (hr s hIs a w L β hs) fun x a' w' q=> ?_
  cases x with
  |normal=>
   obtain⟨e',σ',L',β',hs',s',hlt,hI',pick,hp,hall⟩:=q
   obtain⟨vs',s2,β2,⟨rfl,rfl⟩,_,hs2⟩:=zu4 (Inv:=fun vs' s2 _=>vs'=vals s'∧s2=sto s') (m:=0) hs' hc ⟨_,_,pick,hp,hall,rfl,rfl⟩
   exact⟨meas s',hlt,s',L',β2,rfl,hI',hs2⟩
  |exit id=>exact q
  |goto l=>exact q
  |ret=>exact q
  |panic ch=>exact q
  |outgrown=>exact q
theorem zF {ρ:Nat→Nat} {l m:List V} (h:l=m) (hn:l.all noS=true):All2 (argS ρ) l m:=by subst h;exact zH hn
theorem zD7 {n N:Nat}: ∀{l:List V},l.all (ltS n)=true→All2 (argS (ren (List.range n) N)) l l
 | [],_=>trivial
 |v::l,h=>by
  simp only[List.all_cons,Bool.and_eq_true]at h
  exact⟨zo0 h.1,zD7 h.2⟩
theorem zD {n N:Nat} {l m:List V} (h:l=m) (hn:l.all (ltS n)=true):All2 (argS (ren (List.range n) N)) l m:=by subst h;exact zD7 hn
theorem at_0 {keep:List Nat} {vs:List V} {ρN:Nat} (hN:σ.length=ρN) (h:All2 (argS (ren [] ρN)) vs (keep.map e)):At 0 keep vs [] e σ:=by
 subst hN
 exact⟨[],⟨rfl,List.nodup_nil,fun i j o h=>by simp at h,fun i h=>absurd h (Nat.not_lt_zero i)⟩,h⟩
theorem at_n (k:Nat) {keep:List Nat} {vs:List V} {s:St} (hs:σ.take k=s) (hk:s.length=k) (hok:s.all (ltOb k)=true) (hn:n0≤k) (h:All2 (argS (ren (List.range k) σ.length)) vs (keep.map e)):At n0 keep vs s e σ:=by
 subst hs
 have h1:σ.take k++σ.drop k=σ:=List.take_append_drop k σ
 have hp:=yg9 (n0:=n0) (s:=σ.take k) (loc:=σ.drop k) (by rw[hk];exact hok) (by rw[hk];exact hn)
 rw[h1,hk]at hp
 exact⟨_,hp,h⟩
theorem zv5 (pick:List Nat) {keep:List Nat} {vs:List V} {s:St} (hnd:pick.Nodup) (hn:n0=0) (hob:All2 (fun o j=>σ[j]? =some (yF (ren pick σ.length) o)) s pick) (h:All2 (argS (ren pick σ.length)) vs (keep.map e)):At n0 keep vs s e σ:=by
 subst hn
 refine⟨pick,⟨hob.length,hnd,fun i j o hi ho=> ?_,fun i h=>absurd h (Nat.not_lt_zero i)⟩,h⟩
 obtain⟨j',hj',hr⟩:=hob.get i o ho
 rw[hi]at hj'
 cases hj'
 exact hr
theorem VCalls.introV {f:FuncId} {fn:Func} {code:Code} {nt:Nat} {rs:List ResultVar} {args:List V} {R:V→St→Prop} (n0:Nat) (hf:P.funcs[f]? =some fn) (hnt:fn.ntmps=nt) (hrs:fn.results=rs.toArray) (hb:fn.body=some code) (h0:σ.length=n0) (hal:args.length≤nt)
  (h: ∀c:Ctx,c.σ0.length=n0→c.β0.length=c.σ0.length→wVW P c nt code (retQ P rs n0 R) fx fx (envA 0 args) σ):VCalls P f args σ R:=VCalls.introW n0 hf hnt hrs hb h0 hal h
theorem zo6 (t:Nat) {y:Code} (hn:nt≤100000) (hy:wVW P c nt y Q fx fx (upd e (100000+t) (.tup [])) σ):wVW P c nt y Q fx fx e σ:=by
 intro a w L β hs
 refine hy a w L β ⟨hs.mem,hs.size,hs.defs,fun k=> ?_⟩
 simp only[upd]
 split
 ·rename_i hk
  subst hk
  refine⟨[], ?_,trivial⟩
  have: ¬(100000+t<a.tmps.size):=by rw[hs.size];omega
  simp[Array.getD,this,undef]
 ·exact hs.env k
theorem yH5 (id s:Nat) (rows:List (List V)) {y:Code} (hσ:σ[id]? =some (.lst rows s)) (hp:xO rows=true) (hy:wVW P c nt y Q fx fx (fun t=>frzS id rows (e t)) (zk5 id rows σ)):wVW P c nt y Q fx fx e σ:=by
 intro a w L β hs
 obtain⟨h1,h2,h3,h4⟩:=yH8 hs.mem hσ hp
 exact hy a w _ β ⟨h1,hs.size,hs.defs,fun t=>h4 _ _ (hs.env t)⟩
theorem yY0 {f:FuncId} {caps args args' as1:List V} {v:V} {σ1:St} {KV:V→St→Prop} (hc:Pure P f args' v) (hb:zK P f=true) (hf:Frz (args++caps) σ as1 σ1)
  (hargs:All2 (argS (ren [] σ1.length)) args' as1) (hfl:ys7 v=true) (hk:KV v σ):wVC P c (.fn f caps) args σ KV fx:=
 VC.view hc hb hf hargs (fun r s h=>⟨h.2,by rw[h.1];exact hfl⟩) fun r h=>by rw[h.1];exact hk
attribute [go_sem] frzS frzA frzC frzK zZ5 zk5
attribute [go_sem] List.zip_cons_cons List.zip_nil_left List.zip_nil_right
end
end Go.Vx
namespace Go.Vx
open Go
mutual
inductive Shp (P:Program):TypeId→List V→Prop
 |bool {t:TypeId} (b:Bool):P.underlying t=some .bool→Shp P t [.bool b]
 |int {t:TypeId} {k:IntKind} {n:Int}:P.underlying t=some (.int k)→(Lit.int k n).wf=true→Shp P t [.int k n]
 |str {t:TypeId} {s:List UInt8}:P.underlying t=some .string→s.length≤maxLen→Shp P t [.str s]
 |sl {t e:TypeId} {rows:List (List V)}:P.underlying t=some (.slice e)→rows.length≤maxLen→ShpR P e rows→Shp P t [.sl .ro rows]
 |struct {t:TypeId} {fs:Array Field} {cells:List V}:P.underlying t=some (.struct fs)→ShpF P (fs.toList.map (·.type)) cells→Shp P t cells
inductive ShpR (P:Program):TypeId→List (List V)→Prop
 |nil {e:TypeId}:ShpR P e []
 |cons {e:TypeId} {r:List V} {rows:List (List V)}:Shp P e r→ShpR P e rows→ShpR P e (r::rows)
inductive ShpF (P:Program):List TypeId→List V→Prop
 |nil:ShpF P [] []
 |cons {t:TypeId} {ts:List TypeId} {a b:List V}:Shp P t a→ShpF P ts b→ShpF P (t::ts) (a++b)
end
def zz9 (P:Program):Nat→List Field→Nat→Bool
 |o,[],n=>o==n
 |o,f::fs,n=>f.offset==o&&zz9 P (o+P.cellsOf f.type) fs n
def okT (P:Program) (T:List TypeId):Bool:=T.all fun t=>
 match P.underlying t with
 |some .bool|some (.int _)|some .string=>true
 |some (.slice e)=>T.contains e&&decide (0<P.cellsOf e)
 |some (.struct fs)=>fs.all (fun f=>T.contains f.type)&&zz9 P 0 fs.toList (P.cellsOf t)
 |_=>false
def lims (w:World):Nat→Nat:=fun b=>match w.heap[b]? with|some (.cells c _ _)=>c.size|_=>0
section
variable {H:Type} {enc:TypeId×Value→H} {P:Program} {w:World} {base:Nat} {spare:Nat→Bool} {held:Bool}
theorem yI7 {b o:Nat} {x:Value} (h:w.cell? ⟨b,o,none⟩=some x):o<lims w b:=by
 unfold World.cell? at h
 unfold lims
 simp only at h
 split at h
 ·rename_i c _ _ hb
  rw[hb]
  simp only[Option.isSome_none,Bool.false_eq_true,if_false]at h
  exact(Array.getElem?_eq_some_iff.1 h).1
 ·cases h
theorem yM1 {T:List TypeId} (hT:okT P T=true) {t:TypeId} (h:t∈T):(match P.underlying t with
  |some .bool|some (.int _)|some .string=>true
  |some (.slice e)=>T.contains e&&decide (0<P.cellsOf e)
  |some (.struct fs)=>fs.all (fun f=>T.contains f.type)&&zz9 P 0 fs.toList (P.cellsOf t)
  |_=>false)=true:=by
 unfold okT at hT
 rw[List.all_eq_true]at hT
 exact hT t h
inductive Sm (M:Nat):V→Prop
 |bool (b:Bool):Sm M (.bool b)
 |int (k:IntKind) (n:Int):Sm M (.int k n)
 |str {s:List UInt8}:s.length≤M→Sm M (.str s)
 |sl {g:Tag} {rows:List (List V)}:rows.length≤M→(∀r∈rows,∀v∈r,Sm M v)→Sm M (.sl g rows)
 |agg {cs:List V}:(∀v∈cs,Sm M v)→Sm M (.agg cs)
structure BulkOk {H:Type} (B:DataW H→Nat) (BA:List (DataW H)→Nat):Prop where
 str: ∀s:List UInt8,s.length≤B (.lit (.string s))
 sl: ∀es sp,BA es≤B (.slice es sp)
 agg: ∀ps,BA ps≤B (.agg ps)
 mem: ∀d l,d∈l→B d≤BA l
 len: ∀l:List (DataW H),l.length≤BA l
def SmD {H:Type} (d:DataW H) (vs:List V):Prop:= ∀(B:DataW H→Nat) (BA:List (DataW H)→Nat),BulkOk B BA→ ∀M,B d≤M→ ∀v∈vs,Sm M v
theorem zJ0 {T:List TypeId} (hT:okT P T=true): ∀(fuel:Nat) (t:TypeId) (cs:List Value) (x:DataW H×List MemPlace),t∈T→DataW.trod enc P w base spare held fuel t cs=some x→
  ∃vs,Shp P t vs∧All2 (RdP w (lims w)) vs cs∧SmD x.1 vs
 |0,t,cs,x,_,h=>by simp[DataW.trod]at h
 |fuel+1,t,cs,x,ht,h=>by
  have hk:=yM1 hT ht
  split at hk
  ·rename_i hu
   obtain⟨b,rfl,_⟩:=DataW.trod_bool hu h
   exact⟨[.bool b],.bool b hu,⟨.bool b,trivial⟩,fun _ _ _ _ _ v hv=>by simp at hv;subst hv;exact .bool b⟩
  ·rename_i k hu
   obtain⟨n,rfl,_,hw⟩:=DataW.trod_int hu h
   exact⟨[.int k n],.int hu hw,⟨.int k n,trivial⟩,fun _ _ _ _ _ v hv=>by simp at hv;subst hv;exact .int k n⟩
  ·rename_i hu
   obtain⟨s,rfl,rfl,hs⟩:=DataW.trod_string hu h
   have hr:RdP w (lims w) (.str s.data.toList) (.string ⟨s.data.toList.toArray⟩):= .str _
   exact⟨[.str s.data.toList],.str hu (by simpa using hs),⟨hr,trivial⟩,fun B BA hB M hM v hv=>by simp at hv;subst hv;exact .str (by have:=hB.str s.data.toList;simp only at hM;simp at this hM⊢;omega)⟩
  ·rename_i e hu
   simp only[Bool.and_eq_true,decide_eq_true_eq,List.contains_iff_mem]at hk
   obtain⟨he,hpos⟩:=hk
   rcases DataW.trod_slice hu h with ⟨rfl,_⟩|⟨a,len,cap,elems,rest,n,hfu,rfl,hxe,hb,hl,hm,hlen,hel,_,_⟩
   ·exact⟨[.sl .ro []],.sl hu (Nat.zero_le _) .nil,⟨.sl0 _ _ _ (fun q=>by cases q) (fun _=>by simp),trivial⟩,fun _ _ _ _ _ v hv=>by simp at hv;subst hv;exact .sl (Nat.zero_le _) (by simp)⟩
   ·obtain rfl:fuel=n:=by omega
    have each: ∀i,i<len→ ∃(vs:List V) (cs':List Value),Shp P e vs∧All2 (RdP w (lims w)) vs cs'∧cs'.length=P.cellsOf e∧(∀j,j<P.cellsOf e→w.cell? ((a.add (i*P.cellsOf e)).add j)=cs'[j]?)∧ ∃d∈elems.map (·.1),SmD d vs:=by
     intro i hi
     have h1:=hel i hi
     rw[List.getElem?_eq_getElem (by omega)]at h1
     cases hc:w.cells? base (a.add (i*P.cellsOf e)) (P.cellsOf e)with
     |none=>rw[hc]at h1;cases h1
     |some cs'=>
      rw[hc]at h1
      obtain⟨_,hl',hcell⟩:=World.cells?_some hc
      obtain⟨vs,hs,hr,hsm⟩:=zJ0 hT fuel e cs' _ he h1
      exact⟨vs,cs',hs,hr,hl',hcell,_,List.mem_map.2 ⟨_,List.getElem_mem _,rfl⟩,hsm⟩
    rcases Nat.eq_zero_or_pos len with rfl|hlp
    ·exact⟨[.sl .ro []],.sl hu (Nat.zero_le _) .nil,⟨.sl0 _ _ _ (fun q=>by cases q) (fun _=>by simp),trivial⟩,fun _ _ _ _ _ v hv=>by simp at hv;subst hv;exact .sl (Nat.zero_le _) (by simp)⟩
    ·obtain⟨b,o,spot⟩:=a
     have hspot:spot=none:=by
      obtain⟨vs,cs',_,_,hl',hcell,_⟩:=each 0 hlp
      have h0:=hcell 0 hpos
      rw[List.getElem?_eq_getElem (by omega)]at h0
      simp only[Nat.zero_mul,Addr.add,if_true]at h0
      cases spot with
      |none=>rfl
      |some _=>
       exfalso
       unfold World.cell? at h0
       split at h0
       ·simp at h0
       ·cases h0
     subst hspot
     have hadd: ∀i j,((⟨b,o,none⟩:Addr).add (i*P.cellsOf e)).add j=⟨b,o+i*P.cellsOf e+j,none⟩:=by
      intro i j;rw[xU,xU]
     have key: ∀m,m≤len→ ∃rows:List (List V),rows.length=m∧ShpR P e rows∧(∀r∈rows,r.length=P.cellsOf e)∧(∀r∈rows,∃d∈elems.map (·.1),SmD d r)∧
       ∀i j (hi:i<rows.length) (hj:j<rows[i].length),∃x,w.cell? ⟨b,o+(len - m+i)*P.cellsOf e+j,none⟩=some x∧RdP w (lims w) (rows[i][j]) x:=by
      intro m
      induction m with
      |zero=>exact fun _=>⟨[],rfl,.nil,fun _ q=>by simp at q,fun _ q=>by simp at q,fun i j hi=>by simp at hi⟩
      |succ m ih=>
       intro hm
       obtain⟨rows,h1,h2,h3,h3b,h4⟩:=ih (by omega)
       obtain⟨vs,cs',hs,hr,hl',hcell,hsm⟩:=each (len - (m+1)) (by omega)
       refine⟨vs::rows,by simp[h1],.cons hs h2,fun r hr'=> ?_,fun r hr'=> ?_,fun i j hi hj=> ?_⟩
       ·rcases List.mem_cons.1 hr' with rfl|hr'
        ·rw[hr.length,hl']
        ·exact h3 r hr'
       ·rcases List.mem_cons.1 hr' with rfl|hr'
        ·exact hsm
        ·exact h3b r hr'
       ·cases i with
        |zero=>
         simp only[List.getElem_cons_zero]at hj⊢
         obtain⟨x,hx,hrx⟩:=hr.get j _ (List.getElem?_eq_getElem hj)
         refine⟨x, ?_,hrx⟩
         have:=hcell j (by rw[←hl',←hr.length];exact hj)
         rw[hadd,hx]at this
         simpa using this
        |succ i=>
         simp only[List.getElem_cons_succ]at hj⊢
         obtain⟨x,hx,hrx⟩:=h4 i j (by simpa using hi) hj
         refine⟨x, ?_,hrx⟩
         rw[show len - (m+1)+(i+1)=len - m+i by omega]
         exact hx
     obtain⟨rows,h1,h2,h3,h3b,h4⟩:=key len (Nat.le_refl _)
     have hsub:len - len=0:=by omega
     rw[hsub]at h4
     simp only[Nat.zero_add]at h4
     subst h1
     refine⟨[.sl .ro rows],.sl hu (by omega) h2,⟨?_,trivial⟩,fun B BA hB M hM v hv=>by
      simp at hv;subst hv
      rw[hxe]at hM
      have q1:=hB.sl (elems.map (·.1)) (rest.map (·.1))
      have q2:=hB.len (elems.map (·.1))
      rw[List.length_map]at q2
      simp only at hM
      refine .sl (by omega) fun r hr v hv=> ?_
      obtain⟨d,hd,hsd⟩:=h3b r hr
      have q3:=hB.mem _ _ hd
      exact hsd B BA hB M (by omega) v hv⟩
     let c:Nat→Nat→Value:=fun i j=>(w.cell? ⟨b,o+i*P.cellsOf e+j,none⟩).getD undef
     refine .sl .ro rows (P.cellsOf e) b o cap c (fun _=>by simp) hpos h3 ?_ hl (fun q=>by cases q) (fun i j hi hj=> ?_) (fun i j hi hj=> ?_)
     ·obtain⟨x,hx,_⟩:=h4 (rows.length - 1) (P.cellsOf e - 1) (by omega) (by rw[h3 _ (List.getElem_mem _)];omega)
      have hlt:=yI7 hx
      have h5:(rows.length - 1)*P.cellsOf e+P.cellsOf e=rows.length*P.cellsOf e:=by
       rw[←Nat.succ_mul];congr 1;omega
      omega
     ·obtain⟨x,hx,_⟩:=h4 i j hi (by rw[h3 _ (List.getElem_mem _)];exact hj)
      simp[c,hx]
     ·obtain⟨x,hx,hr⟩:=h4 i j hi hj
      simp only[c,hx,Option.getD_some]
      exact hr
  ·rename_i fs hu
   simp only[Bool.and_eq_true,Array.all_eq_true_iff_forall_mem,List.contains_iff_mem]at hk
   obtain⟨hmem,hrow⟩:=hk
   obtain⟨xs,n,hfu,hxe,hlen,hxl,hat⟩:=DataW.trod_struct hu h
   obtain rfl:fuel=n:=by omega
   have key: ∀(l:List Field) (pre:List Field) (off:Nat),fs.toList=pre++l→zz9 P off l (P.cellsOf t)=true→off≤cs.length→
     ∃vs,ShpF P (l.map (·.type)) vs∧All2 (RdP w (lims w)) vs (cs.drop off)∧SmD (.agg (xs.map (·.1))) vs:=by
    intro l
    induction l with
    |nil=>
     intro pre off _ hr _
     unfold zz9 at hr
     have:off=P.cellsOf t:=by simpa using hr
     refine⟨[],.nil, ?_,fun _ _ _ _ _ v hv=>by simp at hv⟩
     rw[List.drop_eq_nil_of_le (by omega)]
     trivial
    |cons f l ih=>
     intro pre off hfs hr hle
     unfold zz9 at hr
     simp only[Bool.and_eq_true,beq_iff_eq]at hr
     obtain⟨hoff,hr⟩:=hr
     have hf:fs[pre.length]? =some f:=by
      have:fs.toList[pre.length]? =some f:=by rw[hfs];simp
      simpa using this
     have hx:=hat pre.length f hf
     have hpl:pre.length<xs.length:=by
      rw[hxl];exact(Array.getElem?_eq_some_iff.1 hf).1
     rw[List.getElem?_eq_getElem hpl,hoff]at hx
     obtain⟨vs1,hs1,hr1,hm1⟩:=zJ0 hT fuel f.type _ _ (hmem f (Array.mem_of_getElem? hf)) hx
     have hle2:off+P.cellsOf f.type≤cs.length:=by
      rw[hlen]
      clear ih hx hat hs1 hr1 hm1
      revert hr
      generalize off+P.cellsOf f.type=o2
      intro hr
      have: ∀(l:List Field) (o:Nat),zz9 P o l (P.cellsOf t)=true→o≤P.cellsOf t:=by
       intro l
       induction l with
       |nil=>intro o h;unfold zz9 at h;simp at h;omega
       |cons f l ih=>intro o h;unfold zz9 at h;simp at h;have:=ih _ h.2;omega
      exact this l o2 hr
     obtain⟨vs2,hs2,hr2,hm2⟩:=ih (pre++ [f]) (off+P.cellsOf f.type) (by rw[hfs];simp) hr hle2
     refine⟨vs1++vs2,.cons hs1 hs2, ?_,fun B BA hB M hM v hv=>by
      rcases List.mem_append.1 hv with hv|hv
      ·have q1:=hB.agg (xs.map (·.1))
       have q2:=hB.mem (xs[pre.length]'hpl).1 (xs.map (·.1)) (List.mem_map.2 ⟨_,List.getElem_mem _,rfl⟩)
       exact hm1 B BA hB M (by omega) v hv
      ·exact hm2 B BA hB M hM v hv⟩
     have e:cs.drop off=(cs.drop off).take (P.cellsOf f.type)++cs.drop (off+P.cellsOf f.type):=by
      rw[←List.drop_drop];exact(List.take_append_drop _ _).symm
     rw[e]
     exact hr1.append hr2
   obtain⟨vs,h1,h2,h3⟩:=key fs.toList [] 0 rfl hrow (Nat.zero_le _)
   exact⟨vs,.struct hu h1,by simpa using h2,by rw[hxe];exact h3⟩
  ·cases hk
def zH7 (P:Program) (t:TypeId) (vs:List V):V:=match P.underlying t with|some (.struct _)=> .agg vs|_=>vs.headD .u
inductive ShpA (P:Program):List TypeId→List V→Prop
 |nil:ShpA P [] []
 |cons {t:TypeId} {ts:List TypeId} {vs:List V} {xs:List V}:Shp P t vs→ShpA P ts xs→ShpA P (t::ts) (zH7 P t vs::xs)
theorem yF8 {W:World} {r:Reach} {b:Nat} {t:TypeId} {v:Value} {T:List TypeId} (hT:okT P T=true) (ht:t∈T) (h:Value.okWide P W r b t v):(∃fs cs,P.underlying t=some (.struct fs)∧v= .agg cs)∨((∀fs,P.underlying t≠some (.struct fs))∧v.oneCell'=true):=by
 have hk:=yM1 hT ht
 split at hk
 ·rename_i hu
  refine .inr ⟨fun fs q=>(by rw[hu]at q;cases q), ?_⟩
  cases v<;>simp[Value.okWide,hu,Cell.okWide,Cell.ok]at h<;>rfl
 ·rename_i k hu
  refine .inr ⟨fun fs q=>(by rw[hu]at q;cases q), ?_⟩
  cases v<;>simp[Value.okWide,hu,Cell.okWide,Cell.ok]at h<;>rfl
 ·rename_i hu
  refine .inr ⟨fun fs q=>(by rw[hu]at q;cases q), ?_⟩
  cases v<;>simp[Value.okWide,hu,Cell.okWide,Cell.ok]at h<;>rfl
 ·rename_i e hu
  refine .inr ⟨fun fs q=>(by rw[hu]at q;cases q), ?_⟩
  cases v<;>simp[Value.okWide,hu,Cell.okWide,Cell.ok]at h<;>rfl
 ·rename_i fs hu
  refine .inl ⟨fs, ?_⟩
  simp only[Value.okWide,hu]at h
  obtain⟨cs,rfl,_⟩:=h
  exact⟨cs,hu,rfl⟩
 ·cases hk
theorem zH5 {T:List TypeId} (hT:okT P T=true): ∀(ts:List TypeId) (vals:List Value) (ds:List (DataW H)) (ps:List MemPlace),(∀t∈ts,t∈T)→(∀(j:Nat) t v,ts[j]? =some t→vals[j]? =some v→Value.okWide P w .any base t v)→
  DataW.TrodAll enc P w 0 spare held ts vals ds ps→ ∃xs,ShpA P ts xs∧All2 (RdS w (lims w) [] []) xs vals∧ ∀(B:DataW H→Nat) (BA:List (DataW H)→Nat),BulkOk B BA→ ∀M,(∀d∈ds,B d≤M)→ ∀v∈xs,Sm M v
 | [],[],_,_,_,_,_=>⟨[],.nil,trivial,fun _ _ _ _ _ v hv=>by simp at hv⟩
 |t::ts,v::vals,ds,ps,hm,hok,h=>by
  obtain⟨v',vs',d,ds',p,q,hv,rfl,rfl,h1,h2⟩:=ChangeShapes.trodAll_cons h
  cases hv
  obtain⟨xs,hx1,hx2,hx3⟩:=zH5 hT ts vals ds' q (fun t ht=>hm t (by simp[ht])) (fun j t' v' h1 h2=>hok (j+1) t' v' (by simpa using h1) (by simpa using h2)) h2
  obtain⟨fuel,hf⟩:=h1
  obtain⟨vs,hs,hr,hsm⟩:=zJ0 hT fuel t _ _ (hm t (by simp)) hf
  suffices hall:RdS w (lims w) [] [] (zH7 P t vs) v∧ ∀M,(∀v∈vs,Sm M v)→Sm M (zH7 P t vs) from
   ⟨zH7 P t vs::xs,.cons hs hx1,⟨hall.1,hx2⟩,fun B BA hB M hM v' hv'=>by
    rcases List.mem_cons.1 hv' with rfl|hv'
    ·exact hall.2 M fun v hv=>hsm B BA hB M (hM _ (by simp)) v hv
    ·exact hx3 B BA hB M (fun d hd=>hM d (by simp[hd])) v' hv'⟩
  rcases yF8 hT (hm t (by simp)) (hok 0 t v rfl rfl)with ⟨fs,cs,hu,rfl⟩|⟨hno,hone⟩
  ·unfold zH7
   rw[hu]
   exact⟨⟨cs.toList,by simp,hr.imp fun _ _ r=>RdC.of_pure r⟩,fun M hM=> .agg hM⟩
  ·rw[zw9 hone]at hr
   have:zH7 P t vs=vs.headD .u:=by
    unfold zH7
    split
    ·rename_i fs hu;exact absurd hu (hno fs)
    ·rfl
   rw[this]
   cases vs with
   |nil=>exact hr.elim
   |cons x vs=>exact⟨RdS.of_cell (RdC.of_pure hr.1),fun M hM=>hM _ (by simp)⟩
 | [],_::_,_,_,_,_,h=>by cases (ChangeShapes.trodAll_nil h).1
 |_::_,[],ds,_,_,_,h=>by cases ds<;>simp[DataW.TrodAll]at h
theorem zw4 {w':World} {sp':Nat→Bool} (hl:laidOutB P=true): ∀(ts:List TypeId) (vals:List Value) (ds:List (DataW H)) (ps:List MemPlace),(∀t∈ts,P.readableRec t=true∧t<P.types.size)→
  DataW.TrodAll enc P w 0 (fun _=>true) true ts vals ds ps→(∀x∈ps,w.sameAt w' x)→(∀x∈ps,sp' x.block=true)→DataW.TrodAll enc P w' 0 sp' true ts vals ds ps
 | [],_,_,_,_,h,_,_=>by
  obtain⟨rfl,rfl,rfl⟩:=ChangeShapes.trodAll_nil h
  rfl
 |t::ts,vals,ds,ps,hr,h,hs,hp=>by
  obtain⟨v,vs',d,ds',p,q,rfl,rfl,rfl,h1,h2⟩:=ChangeShapes.trodAll_cons h
  exact⟨p,q,WideElems.Trod_stays hl (hr t (by simp)).1 (hr t (by simp)).2 h1 (fun x hx=>hs x (by simp[hx])) (fun x hx=>hp x (by simp[hx])),
   zw4 hl ts vs' ds' q (fun t ht=>hr t (by simp[ht])) h2 (fun x hx=>hs x (by simp[hx])) (fun x hx=>hp x (by simp[hx])),rfl⟩
theorem yO3 (w:World) (ht:GlobOk w (lims w)):Mem (zp4 w (lims w) [] []) w (lims w) [] []:=
 ⟨rfl,fun i o x h=>by simp at h,fun i j o o' x x' b _ h=>by simp at h,fun i o x b h=>by simp at h,fun b hb hx=>⟨rfl,rfl⟩,Le.refl _ _,Nat.le_refl _,rfl,rfl,rfl,
  fun b hb=>by
   have hb:w.heap.size≤b:=hb
   unfold lims
   rw[Array.getElem?_eq_none hb],Ext.refl _ _,ht⟩
theorem yQ5 {f:FuncId} {fn:Func} {s:ChangeSpec} {apart fresh handsOn again:Bool} (T ts:List TypeId) (tb:TypeId) (hps:fn.params=ts.toArray) (hrt:fn.resultTypes= #[tb]) (hb:P.underlying tb=some .bool) (hT:okT P T=true) (hts:ts.all (T.contains ·)=true)
  (hrd:ts.all (fun t=>P.readableRec t&&decide (t<P.types.size))=true) (hl:laidOutB P=true) (hvars:s.vars= [])
  (hspec: ∀(H:Type) (ds:List (DataW H)),ds.length=ts.length→s.fn H ds={results:= [.lit (.bool true)],args:=ds})
  (Lim:List V→Prop) (hw: ∀xs,ShpA P ts xs→Lim xs→VCalls P f xs [] fun r _=>r= .bool true) (H:Type) (enc:TypeId×Value→H) (W:World) (base:Nat) (args:Array Value) (ds gs:List (DataW H)) (before:List MemPlace)
  (hval: ∀(j:Nat) t v,fn.params[j]? =some t→args[j]? =some v→Value.okWide P W .any base t v)
  (hW:DataW.Whole enc P fn.params.toList s.vars apart W args.toList ds gs before) (hglob:GlobOk W (lims W))
  (hlim: ∀xs,(∀(B:DataW H→Nat) (BA:List (DataW H)→Nat),BulkOk B BA→ ∀M,(∀d∈ds++gs,B d≤M)→ ∀v∈xs,Sm M v)→Lim xs):
  Calls P f args W fun e W'=> ∃v,e= .returned v∧s.post enc P fn apart fresh handsOn again W args v W':=by
 have hW':=hW
 obtain⟨p,q,hA,hV,rfl,hfz,hnd⟩:=hW
 rw[hvars]at hV
 obtain⟨rfl,rfl⟩:=ChangeShapes.trodVars_none hV
 have hpl:fn.params.toList=ts:=by rw[hps]
 rw[hpl]at hA
 rw[List.all_eq_true]at hts hrd
 obtain⟨xs,hx,hr,hsm⟩:=zH5 (base:=base) hT ts args.toList ds p (fun t ht=>by simpa using hts t ht) (fun j t v h1 h2=>hval j t v (by rw[hps];simpa using h1) (by simpa using h2)) hA
 have hlen:ds.length=ts.length:=by
  have: ∀(ts:List TypeId) (vals:List Value) (ds:List (DataW H)) (p:List MemPlace),DataW.TrodAll enc P W 0 (fun _=>true) true ts vals ds p→ds.length=ts.length:=by
   intro ts
   induction ts with
   |nil=>intro vals ds p h;obtain⟨_,rfl,_⟩:=ChangeShapes.trodAll_nil h;rfl
   |cons t ts ih=>intro vals ds p h;obtain⟨_,_,_,ds',_,_,_,rfl,_,_,h2⟩:=ChangeShapes.trodAll_cons h;simp[ih _ _ _ h2]
  exact this ts _ _ _ hA
 have hcall:=hw xs hx (hlim xs fun B BA hB M hM=>hsm B BA hB M fun d hd=>hM d (by simp[hd])) W (lims W) [] args.toList (yO3 W hglob) hr
 have harr:args.toList.toArray=args:=by simp
 rw[harr]at hcall
 refine hcall.mono ?_
 rintro e W' ⟨v,r,L',σ',β',rfl,rfl,_,hm,hrd'⟩
 have hvb:v= .bool true:=zc0 hrd'
 subst hvb
 have hbel:RowKit.Below W.heap.size W W':=⟨hm.os,hm.tape,hm.output,hm.size,fun k hk=>(hm.same k hk (by simp[zp4,zl7])).1⟩
 have hlt:=hW'.lt
 simp only[List.append_nil]at hlt hW' hfz hnd
 have hsp:s.fn H ds={results:= [.lit (.bool true)],args:=ds}:=hspec H ds hlen
 refine⟨_,rfl,ds,[],p,[],p,[],hW', ?_, ?_, ?_, ?_,fun _=>⟨?_, ?_⟩⟩
 ·rw[List.append_nil,hsp,hrt]
  exact ChangeShapes.trodAll_mk1 (RowKit.shut_bool hb _)
 ·rw[List.append_nil,hsp,hpl]
  exact zw4 hl ts _ _ _ (fun t ht=>by simpa using hrd t ht) hA (fun x hx=>hbel.same (hlt x hx)) (fun x hx=>by simpa using hlt x hx)
 ·rw[List.append_nil,hsp,hvars]
  rfl
 ·exact hbel.frame _
 ·exact RowKit.ok_one hrt rfl (RowKit.okWide_bool_mk hb _)
 ·rw[hpl,hrt]
  refine⟨[.lit (.bool true)]++ds,[],p,⟨[]++p,[],ChangeShapes.trodAll_append (zw4 (sp':=fun _=>true) hl ts _ _ _ (fun t ht=>by simpa using hrd t ht) hA (fun x hx=>hbel.same (hlt x hx)) (fun x hx=>rfl)) ?_,by rw[hvars];rfl,by simp, ?_,hnd⟩,fun x hx _=>hx⟩
  ·exact ChangeShapes.trodAll_mk1 (RowKit.shut_bool hb _)
  ·intro b off hp
   rw[hbel.frozen (p:=⟨b,off,none⟩) (hlt _ hp)]
   exact hfz b off hp
theorem xc7 {f:FuncId} {fn:Func} {s:ChangeSpec} {apart fresh handsOn again:Bool} (T ts:List TypeId) (tb:TypeId) (hps:fn.params=ts.toArray) (hrt:fn.resultTypes= #[tb]) (hb:P.underlying tb=some .bool) (hT:okT P T=true) (hts:ts.all (T.contains ·)=true)
  (hrd:ts.all (fun t=>P.readableRec t&&decide (t<P.types.size))=true) (hl:laidOutB P=true) (hvars:s.vars= [])
  (hspec: ∀(H:Type) (ds:List (DataW H)),ds.length=ts.length→s.fn H ds={results:= [.lit (.bool true)],args:=ds})
  (hw: ∀xs,ShpA P ts xs→VCalls P f xs [] fun r _=>r= .bool true) (H:Type) (enc:TypeId×Value→H) (W:World) (base:Nat) (args:Array Value) (ds gs:List (DataW H)) (before:List MemPlace)
  (hval: ∀(j:Nat) t v,fn.params[j]? =some t→args[j]? =some v→Value.okWide P W .any base t v)
  (hW:DataW.Whole enc P fn.params.toList s.vars apart W args.toList ds gs before) (hglob:GlobOk W (lims W)):
  Calls P f args W fun e W'=> ∃v,e= .returned v∧s.post enc P fn apart fresh handsOn again W args v W':=
 yQ5 T ts tb hps hrt hb hT hts hrd hl hvars hspec (fun _=>True) (fun xs h _=>hw xs h) H enc W base args ds gs before hval hW hglob fun _ _=>trivial
variable {t:TypeId} {vs:List V}
theorem ShpA.cons_inv {ts:List TypeId} {xs:List V} (h:ShpA P (t::ts) xs): ∃vs xs',xs=zH7 P t vs::xs'∧Shp P t vs∧ShpA P ts xs':=by
 cases h with
 |cons h1 h2=>exact⟨_,_,rfl,h1,h2⟩
theorem ShpA.nil_inv {xs:List V} (h:ShpA P [] xs):xs= []:=by cases h;rfl
theorem Shp.str_inv (hu:P.underlying t=some .string) (h:Shp P t vs): ∃s,vs= [.str s]∧s.length≤maxLen:=by
 cases h with
 |int h1 h2=>rw[hu]at h1;cases h1
 |bool b h1=>rw[hu]at h1;cases h1
 |str h1 h2=>exact⟨_,rfl,h2⟩
 |sl h1 _ _=>rw[hu]at h1;cases h1
 |struct h1 _=>rw[hu]at h1;cases h1
theorem ShpF.cons_inv {ts:List TypeId} (h:ShpF P (t::ts) vs): ∃a b,vs=a++b∧Shp P t a∧ShpF P ts b:=by
 cases h with
 |cons h1 h2=>exact⟨_,_,rfl,h1,h2⟩
theorem ShpF.nil_inv (h:ShpF P [] vs):vs= []:=by cases h;rfl
theorem yO6 {v:V} (h:(match P.underlying t with|some (.struct _)=>false|_=>true)=true):zH7 P t [v]=v:=by
 unfold zH7
 split
 ·rename_i hu;rw[hu]at h;cases h
 ·rfl
end
end Go.Vx
