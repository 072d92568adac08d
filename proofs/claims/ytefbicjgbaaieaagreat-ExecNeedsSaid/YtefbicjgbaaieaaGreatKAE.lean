/-
  Returns, loops and calls in their everyday forms.
  No condition: a library text; nothing of the program is named.
-/
import Derived.Test.YtefbicjgbaaieaaGreatKAD
set_option maxHeartbeats 8000000
namespace Go.Vx
open Go
def frzK(id:Nat)(rows:List (List V)):V->V |.lsv i s n lo m=>if i=id/\n=rows.length/\lo+m<=n then .sl .ro (za7 rows lo m)else .lsv i s n lo m|v=>v
def frzC(id:Nat)(rows:List (List V)):V->V |.fn f caps=>.fn f (caps.map (frzK id rows))|.ifc t vs=>.ifc t (vs.map (frzK id rows))|v=>frzK id rows v
def frzA(id:Nat)(rows:List (List V)):V->V |.agg cs=>.agg (cs.map (frzC id rows))|v=>frzC id rows v
def frzS(id:Nat)(rows:List (List V)):V->V |.tup vs=>.tup (vs.map (frzA id rows))|v=>frzA id rows v
def zs7(id:Nat)(rows:List (List V)):Ob->Ob |.box cells=>.box (cells.map (frzC id rows))|.lst rs s=>.lst (rs.map λr=>r.map (frzC id rows)) s|.mp kvs borns clk=>.mp (kvs.map (frzA id rows)) borns clk|o=>o
def zj7(id:Nat)(rows:List (List V))(σ:St):St:=(σ.set id .dead).map (zs7 id rows)
structure Like(σ σ':St):Prop where
 app:∀(id:Nat)n s,σ[id]?=some (.app n s)->σ'[id]?=some (.app n s)lst:∀(id:Nat)rows s,σ[id]?=some (.lst rows s)->∃rows',σ'[id]?=some (.lst rows' s)/\rows'.length=rows.length
 dead:∀(id:Nat),σ[id]?=some .dead->σ'[id]?=some .dead
section
variable{w:World}{L:Nat->Nat}{σ σ':St}{β:List Value}
theorem RdK.like(h:Like σ σ'){v:V}{x:Value}(r:RdK w L σ β v x):RdK w L σ' β v x:=by cases v with
 |sl g rows=>cases g with |app id=>obtain⟨hr,n,s,hσ,hle,hβ,hl⟩:=r;exact⟨hr,n,s,h.app _ _ _ hσ,hle,hβ,hl⟩|ro=>exact r|full=>exact r
 |lsv id s n lo m=>
  obtain⟨a,cap,hx,hm,ha,hc⟩:=r;refine⟨a,cap,hx,hm,ha,?_⟩;rcases hc with hd|⟨rows,hσ,hn,hb⟩;.exact .inl (h.dead id hd)
  .obtain⟨r2,e2,l2⟩:=h.lst id rows s hσ;grind|lsp id s n i j=>
  obtain⟨b,o,hx,hc⟩:=r;refine⟨b,o,hx,?_⟩;rcases hc with hd|⟨rows,hσ,hn,hb⟩;.exact .inl (h.dead id hd)
  .obtain⟨r2,e2,l2⟩:=h.lst id rows s hσ;grind|_=>exact r
theorem Like.frz{id:Nat}{rows:List (List V)}(σ:St):Like σ (σ.map (zs7 id rows)):=by
 refine⟨λi n s h=>?_,λi rs s h=>⟨_,by rw[B2,h];rfl,sm⟩,λi h=>?_⟩;.rw[B2,h];rfl
 .rw[B2,h];rfl
theorem wb4{c:Ctx}{L':Nat->Nat}{id s n lo m:Nat}{rows:List (List V)}{x:Value}(hm:Mem c w L σ β)(hσ:σ[id]?=some (.lst rows s))(hp:xM rows=true)(hL:∀b n' cap,β[id]?=some (.slice (some ⟨b,0,none⟩) n' cap)->0<cap->rows.length*s<=L' b)(hle:Le w L w L')(r:RdK w L σ β (.lsv id s n lo m) x)(hn:n=rows.length)(av:lo+m<=n):RdP w L' (.sl .ro (za7 rows lo m)) x:=by
 obtain⟨a,cap,rfl,aw,ab,hc⟩:=r;have aj:(za7 rows lo m).length=m:=by grind[za7]
 by_cases h0:m=0
 .subst h0;have:za7 rows lo 0=[]:=by rfl
  rw[this];exact .sl0 _ _ _ sm sm
 rcases hc with hd|⟨rows2,ad,ax,hb⟩;.grind
 .rw[hσ]at ad;cases ad;obtain⟨b0,c0,hβ,hcap,ay,aa⟩:=hb hn;clear hb ab;have az:0<m:=om;have ak:lo<c0:=om;obtain⟨k0,rfl,rfl⟩:=aa ak;clear aa;have ae:0<c0:=om;have a1:=hL _ _ _ hβ ae;obtain⟨a2,ar,e1,au,af,al,hok⟩:=hm.objs id _ _ hσ hβ;cases e1;obtain⟨b',arr,T,fz,e2,hh,_,a6,_,ag⟩:=hok ae;cases e2;clear hok;have hu:uni s (za7 rows lo m):=λq hq=>by obtain⟨q0,a7,rfl⟩:=Ac.1 hq;grind
  have an:=zW hu;rw[aj]at an;have ao:(lo+m)*s<=rows.length*s:=Ao _ om;rw[B4]at ao;have key:RdP w L' (.sl .ro (za7 rows lo m)) (.slice (some ⟨k0,lo*s,none⟩) (za7 rows lo m).length cap):=by
   refine .of_flat af hu (by grind) om sm sm λk v hk=>?_;have a8:k<m*s:=by grind
   have hi:k/s<m:=by simp_all[Cw]
   have hj:k%s<s:=Do _ af;have aq:k=k/s*s+k%s:=by grind[Dv]
   rw[aq,yP _ _ hu hj]at hk;simp only[za7,B2,Ai,if_pos hi,Bj]at hk;have ah:lo+k/s<rows.length:=om;rw[A0 ah]at hk;simp only[B8,B3,B2,B0]at hk;obtain⟨v0,aA,rfl⟩:=hk;have hf:rows.flatten[(lo+k/s)*s+k%s]?=some v0:=by rw[yP _ _ al hj,A0 ah];grind
   obtain⟨z,hz,rz⟩:=ag.get _ _ hf;have ai:(lo+k/s)*s+k%s=lo*s+k:=by grind
   rw[ai,Ai,if_pos om,Ap]at hz;refine⟨z,by simp only[World.cell?,hh];grind,?_⟩;refine(RdC.dem rz ?_).mono hle;unfold xM at hp;grind
  grind
def frzL(β:List Value)(id k:Nat)(L:Nat->Nat):Nat->Nat:=match β[id]?with |some (.slice (some a) _ cap)=>if 0<cap then xF L a.block k else L|_=>L
theorem xd6{c:Ctx}{id s:Nat}{rows:List (List V)}(hm:Mem c w L σ β)(hσ:σ[id]?=some (.lst rows s))(hp:xM rows=true):Mem c w (frzL β id (rows.length*s) L) (zj7 id rows σ) β/\Le w L w (frzL β id (rows.length*s) L)/\Ext σ β (zj7 id rows σ) β/\(∀v x,RdS w L σ β v x->RdS w (frzL β id (rows.length*s) L) (zj7 id rows σ) β (frzS id rows v) x):=by
 have ao:id<σ.length:=(by grind);obtain⟨x0,hβ⟩:∃x0,β[id]?=some x0:=⟨_,A0 (by rw[hm.len];exact ao)⟩;obtain⟨a,cap,rfl,hcap,hs,aB,hok⟩:=hm.objs id _ _ hσ hβ;have aC:rows.length*s<=cap*s:=Ao _ hcap;have hle:Le w L w (frzL β id (rows.length*s) L):=by refine⟨λb=>?_,sm⟩;unfold frzL;rw[hβ];cases a with|none=>simp|some a=>
   by_cases h0:0<cap;.obtain⟨b',arr,T,fz,e,hh,hf,ah,hl,a8⟩:=hok h0;cases e;simp only[h0,if_true,xF];grind
   grind
 have ad:Ext σ β (σ.set id .dead) β:=by refine⟨sm,(by grind),(by grind),(by grind)⟩;all_goals grind
 have ab:Like (σ.set id .dead) (zj7 id rows σ):=Like.frz _;have ae:Ext (σ.set id .dead) β (zj7 id rows σ) β:=⟨sm,λi n s' h=>⟨n,ab.app i n s' h,om,λ_=>rfl⟩,λi rs s' h=>by obtain⟨r2,h2,l2⟩:=ab.lst i rs s' h;grind,λi h=>ab.dead i h⟩;have aq:∀b n' aa,β[id]?=some (.slice (some ⟨b,0,none⟩) n' aa)->0<aa->rows.length*s<=frzL β id (rows.length*s) L b:=(by simp_all[frzL,xF]);have al:∀v x,RdK w L σ β v x->RdK w (frzL β id (rows.length*s) L) (zj7 id rows σ) β (frzK id rows v) x:=λv x r=>by have ar:RdK w (frzL β id (rows.length*s) L) (zj7 id rows σ) β v x:=RdK.like ab (r.mono hle ad);cases v with
  |lsv i s' n lo m=>
   simp only[frzK];split
   .rename_i hc;obtain⟨rfl,hn,au⟩:=hc;have af:s'=s:=by obtain⟨_,_,_,_,_,hc⟩:=r;grind
    subst af;exact wb4 hm hσ hp aq hle r hn au
   omega|_=>exact ar
 have av:∀v x,RdC w L σ β v x->RdC w (frzL β id (rows.length*s) L) (zj7 id rows σ) β (frzC id rows v) x:=λv x r=>by cases v with
  |fn f caps=>obtain⟨xs,hx,hc⟩:=r;exact⟨xs,hx,(by grind[All2.map_l])⟩|ifc t v=>obtain⟨y,hx,hc⟩:=r;exact⟨y,hx,(by grind[All2.map_l])⟩|lsv i s' n lo m=>
   have h2:=al (.lsv i s' n lo m) x r;show RdC w _ _ β (frzK id rows (.lsv i s' n lo m)) x;simp only[frzK]at h2⊢;split;.rename_i hc;rw[if_pos hc]at h2;exact h2
   .rename_i hc;rw[if_neg hc]at h2;exact h2|_=>simp only[RdC]at r;have h2:=al _ _ r;exact h2
 have aw:∀v x,RdA w L σ β v x->RdA w (frzL β id (rows.length*s) L) (zj7 id rows σ) β (frzA id rows v) x:=λv x r=>by cases v with |agg cs=>obtain⟨xs,hx,hc⟩:=r;exact⟨xs,hx,(by grind[All2.map_l])⟩|_=>simp only[RdA]at r;have h2:=av _ _ r;exact RdA.of_cell h2
 have ax:∀v x,RdS w L σ β v x->RdS w (frzL β id (rows.length*s) L) (zj7 id rows σ) β (frzS id rows v) x:=λv x r=>by cases v with |u=>trivial|tup vs=>obtain⟨xs,hx,hc⟩:=r;exact⟨xs,hx,(by grind[All2.map_l])⟩|_=>simp only[RdS]at r;have h2:=aw _ _ r;exact RdS.of_a h2
 refine⟨?_,hle,ad.trans ae,ax⟩;have ai:∀b,excl (.lst rows s) (.slice a rows.length cap)≠some b->frzL β id (rows.length*s) L b=L b:=λb h=>by unfold frzL;rw[hβ];cases a with |none=>rfl|some a=>
   by_cases h0:0<cap;.simp_all[excl,xF];omega
   grind
 have aD:∀i o x,i≠id->σ[i]?=some o->β[i]?=some x->ObOk w (frzL β id (rows.length*s) L) (zj7 id rows σ) β (zs7 id rows o) x:=λi o x hi ho hx=>by have hr:=hm.objs i o x ho hx;have aj:∀b,excl o x=some b->frzL β id (rows.length*s) L b=L b:=λb hb=>ai b λq=>hm.apart i id o _ x _ b hi ho hx hσ hβ hb q;cases o with
  |box cells=>obtain⟨b,arr,T,fz,rfl,hh,hf,hl,hc⟩:=hr;exact⟨b,arr,T,fz,rfl,hh,hf,(aj b rfl).trans hl,(by grind[All2.map_l])⟩|app n s'=>obtain⟨a',aa,rfl,hn,af,ag⟩:=hr;refine⟨a',aa,rfl,hn,af,λay=>?_⟩;obtain⟨b,o',arr,T,fz,rfl,hh,hf,ah,hl⟩:=ag ay;exact⟨b,o',arr,T,fz,rfl,hh,hf,ah,(by grind[excl])⟩|lst rs s'=>
   obtain⟨a',aa,rfl,hn,af,aE,ag⟩:=hr;refine⟨a',aa,sm,by grind,af,λr hr=>?_,λh0=>?_⟩;.grind
   .obtain⟨b,arr,T,fz,rfl,hh,hf,ah,hl,hc⟩:=ag h0;refine⟨b,arr,T,fz,rfl,hh,hf,ah,(by grind[excl]),?_⟩;grind[All2.map_l]|dead=>trivial|mp kvs borns clk=>obtain⟨b,es,rfl,hh,hl,hc,az⟩:=hr;exact⟨b,es,rfl,hh,(aj b rfl).trans hl,(by grind[All2.map_l]),az⟩|it m since seen last=>obtain⟨b,mo,rfl,hh,hl,hc⟩:=hr;exact⟨b,mo,rfl,hh,(aj b rfl).trans hl,hc⟩
 have inv:∀i o,(zj7 id rows σ)[i]?=some o->(i=id/\o=.dead)∨(i≠id/\∃o',σ[i]?=some o'/\o=zs7 id rows o'):=λi o h=>by
  unfold zj7 at h;rw[B2,B0]at h;obtain⟨o',h1,rfl⟩:=h;rcases ze7 h1 with⟨rfl,rfl,_⟩|⟨ak,h2⟩;.exact .inl (by trivial)
  grind
 have an:∀o x,excl (zs7 id rows o) x=excl o x:=λo x=>by cases o with
  |lst rs s'=>cases x with |slice a n cap=>cases a<;>rfl|_=>rfl
  |_=>cases x<;>first|rfl|(rename_i q;cases q<;>rfl)
 refine⟨by simp[zj7,hm.len],λi o x ho hx=>?_,λi j o o' x x' b a1 ho hx a6 a7 hb=>?_,λi o x b ho hx hb=>?_,λb hb hx=>?_,hm.le.trans hle,hm.size,hm.os,hm.tape,hm.output,hm.drawn,λb hb=>?_,hm.ext.trans (ad.trans ae),hm.tab⟩
 .rcases inv i o ho with⟨_,rfl⟩|⟨ak,o',h2,rfl⟩;.trivial
  grind
 .rcases inv i o ho with⟨_,rfl⟩|⟨ak,o1,h2,rfl⟩;.trivial
  .rcases inv j o' a6 with⟨_,rfl⟩|⟨aA,o2,h3,rfl⟩;.simp[excl]
   .rw[an]at hb⊢;exact hm.apart i j o1 o2 x x' b a1 h2 hx h3 a7 hb
 .rcases inv i o ho with⟨_,rfl⟩|⟨ak,o1,h2,rfl⟩;.trivial
  .rw[an]at hb;exact hm.mine i o1 x b h2 hx hb
 .obtain⟨e1,e2⟩:=hm.same b hb hx;refine⟨e1,?_⟩;rw[ai b λq=>?_];.exact e2
  .rcases hm.mine id _ _ b hσ hβ q with h|h;all_goals grind
 .rw[ai b λq=>?_];.exact hm.lim b hb
  .have:=(hm.objs id _ _ hσ hβ).excl_lt q;omega
end
variable{c:Ctx}{w:World}{σ:St}{cells:List V}{L:Nat->Nat}{β:List Value}{off:Nat}
theorem xg3{id s:Nat}(hm:Mem c w L σ β)(hs:0<s)(hσ:σ[id]?=some (.box cells))(hc:cells[off]?=some (.sl .full [])):∃x,Mem c w L (σ.set id (.box (cells.set off (.lsv σ.length s 0 0 0)))++[.lst [] s]) (β++[x])/\Ext σ β (σ.set id (.box (cells.set off (.lsv σ.length s 0 0 0)))++[.lst [] s]) (β++[x]):=by
 have ag:id<σ.length:=(by grind);obtain⟨x0,hβ⟩:∃x0,β[id]?=some x0:=⟨_,A0 (by rw[hm.len];exact ag)⟩;obtain⟨b,arr,T,fz,rfl,hh,hf,hl,ab⟩:=hm.objs id _ _ hσ hβ;obtain⟨y,hy,ry⟩:=ab.get _ _ hc;have al:RdP w L (.sl .full []) y:=ry;obtain⟨a,cap,aj,_,hcap⟩:=al.len;have ad:=hcap rfl;simp only[Dp]at ad aj;subst ad;have h1:=hm.lstNil (s:=s) (a:=a) hs;have ae:=Ext.push σ β hm.len (.lst [] s) (.slice a 0 0);have ah:(σ++[Ob.lst [] s])[id]?=some (.box cells):=by grind
 have ai:(β++[Value.slice a 0 0])[id]?=some (.pointer (some ⟨b,0,none⟩)):=by grind
 have aa:Ext (σ++[Ob.lst [] s]) (β++[Value.slice a 0 0]) ((σ++[Ob.lst [] s]).set id (.box (cells.set off (.lsv σ.length s 0 0 0)))) (β++[Value.slice a 0 0]):=Ext.setBox ah _;have af:=yK _ _ _ ai;have key:=h1.upd (w':=w) (L':=L) id (.box (cells.set off (.lsv σ.length s 0 0 0))) (.pointer (some ⟨b,0,none⟩)) (Le.refl _ _) (by grind) (λk=>k=b) (λj o' x' k hj an ao hk e=>by subst e;exact h1.apart j id o' _ x' _ k hj an ao ah ai hk rfl) (λk e=>by subst e;exact h1.mine id _ _ k ah ai rfl) sm rfl rfl rfl rfl h1.lim ?_ (λk hk=>by simpa[excl]using hk.symm);.rw[af,E3 _ _ ag]at key;rw[E3 _ _ ag]at aa;exact⟨_,key,ae.trans aa⟩
 .rw[af];refine⟨b,arr,T,fz,rfl,hh,hf,hl,?_⟩;refine All2.of (by rw[Db];exact ab.length) λk p z hp hz=>?_;rcases ze7 hp with⟨rfl,rfl,_⟩|⟨ar,aq⟩
  .rw[hy]at hz;cases hz;rw[aj];refine⟨a,0,rfl,om,om,.inr ⟨[],?_,om,λ_=>⟨a,0,?_,rfl,om,om⟩⟩⟩;.grind
   .rw[<-hm.len];simp
  .obtain⟨z',ak,rz⟩:=ab.get _ _ aq;rw[hz]at ak;cases ak;exact rz.mono (Le.refl _ _) (ae.trans aa)
theorem xL6{id s:Nat}(hm:Mem c w L σ β)(hs:0<s)(hσ:σ[id]?=some (.box cells))(hc:cells[off]?=some (.sl .full [])):∃x,Mem c w L (σ.set id (.box (cells.set off (.sl (.app σ.length) [])))++[.app 0 s]) (β++[x])/\Ext σ β (σ.set id (.box (cells.set off (.sl (.app σ.length) [])))++[.app 0 s]) (β++[x]):=by
 have ag:id<σ.length:=(by grind);obtain⟨x0,hβ⟩:∃x0,β[id]?=some x0:=⟨_,A0 (by rw[hm.len];exact ag)⟩;obtain⟨b,arr,T,fz,rfl,hh,hf,hl,ab⟩:=hm.objs id _ _ hσ hβ;obtain⟨y,hy,ry⟩:=ab.get _ _ hc;have al:RdP w L (.sl .full []) y:=ry;obtain⟨a,cap,aj,_,hcap⟩:=al.len;have ad:=hcap rfl;simp only[Dp]at ad aj;subst ad;have h1:=hm.own (n:=0) (a:=a) hs;have ae:=Ext.push σ β hm.len (.app 0 s) (.slice a 0 0);have ah:(σ++[Ob.app 0 s])[id]?=some (.box cells):=by grind
 have ai:(β++[Value.slice a 0 0])[id]?=some (.pointer (some ⟨b,0,none⟩)):=by grind
 have aa:Ext (σ++[Ob.app 0 s]) (β++[Value.slice a 0 0]) ((σ++[Ob.app 0 s]).set id (.box (cells.set off (.sl (.app σ.length) [])))) (β++[Value.slice a 0 0]):=Ext.setBox ah _;have af:=yK _ _ _ ai;have key:=h1.upd (w':=w) (L':=L) id (.box (cells.set off (.sl (.app σ.length) []))) (.pointer (some ⟨b,0,none⟩)) (Le.refl _ _) (by grind) (λk=>k=b) (λj o' x' k hj an ao hk e=>by subst e;exact h1.apart j id o' _ x' _ k hj an ao ah ai hk rfl) (λk e=>by subst e;exact h1.mine id _ _ k ah ai rfl) sm rfl rfl rfl rfl h1.lim ?_ (λk hk=>by simpa[excl]using hk.symm);.rw[af,E3 _ _ ag]at key;rw[E3 _ _ ag]at aa;exact⟨_,key,ae.trans aa⟩
 .rw[af];refine⟨b,arr,T,fz,rfl,hh,hf,hl,?_⟩;refine All2.of (by rw[Db];exact ab.length) λk p z hp hz=>?_;rcases ze7 hp with⟨rfl,rfl,_⟩|⟨ar,aq⟩
  .rw[hy]at hz;cases hz;rw[aj];refine⟨.sl0 .ro a 0 om sm,0,s,?_,om,λ_=>?_,sm⟩;.grind
   .rw[<-hm.len];simp
  .obtain⟨z',ak,rz⟩:=ab.get _ _ aq;rw[hz]at ak;cases ak;exact rz.mono (Le.refl _ _) (ae.trans aa)
def zD0(cells:List V)(s off n:Nat):List (List V):=(List.range n).map λi=>((cells.drop (off+i*s)).take s).map dem
def frzB(id:Nat)(cells:List V):V->V |.bsv i s off n=>if i=id/\0<s/\off+n*s<=cells.length/\((cells.drop off).take (n*s)).all zy4=true then .sl .ro (zD0 cells s off n)else .bsv i s off n|v=>v
theorem yH1{s n:Nat}(h:off+n*s<=cells.length):uni s (zD0 cells s off n):=λr hr=>by obtain⟨i,hi,rfl⟩:=Ac.1 hr;have hi:=C3.1 hi;have:(i+1)*s<=n*s:=Ao _ hi;grind
theorem xM0{id:Nat}(hm:Mem c w L σ β)(hσ:σ[id]?=some (.box cells)):∃L',Mem c w L' (σ.set id .dead) β/\Le w L w L'/\Ext σ β (σ.set id .dead) β/\(∀v x,RdS w L σ β v x->RdS w L' (σ.set id .dead) β (frzB id cells v) x):=by
 have aj:id<σ.length:=(by grind);obtain⟨x0,hβ⟩:∃x0,β[id]?=some x0:=⟨_,A0 (by rw[hm.len];exact aj)⟩;obtain⟨b,arr,T,fz,rfl,hh,hf,hl,ae⟩:=hm.objs id _ _ hσ hβ;have hle:Le w L w (xF L b cells.length):=by refine⟨λk=>?_,sm⟩;simp only[xF];grind
 have aa:Ext σ β (σ.set id .dead) β:=by refine⟨sm,(by grind),(by grind),(by grind)⟩;all_goals grind
 have ab:∀k,k≠b->xF L b cells.length k=L k:=λk h=>if_neg h;have inv:∀i o,(σ.set id .dead)[i]?=some o->(i=id/\o=.dead)∨(i≠id/\σ[i]?=some o):=(by grind);refine⟨xF L b cells.length,⟨by simp[hm.len],λi o x ho hx=>?_,λi j o o' x x' k ak ho hx al an hb=>?_,λi o x k ho hx hb=>?_,λk hb hx=>?_,hm.le.trans hle,hm.size,hm.os,hm.tape,hm.output,hm.drawn,λk hb=>?_,hm.ext.trans aa,hm.tab⟩,hle,aa,λv x r=>?_⟩
 .rcases inv i o ho with⟨_,rfl⟩|⟨ad,h2⟩;.trivial
  .exact(hm.objs i o x h2 hx).step hle aa λk hk=>⟨rfl,ab k λe=>by subst e;exact hm.apart i id o _ x _ k ad h2 hx hσ hβ hk rfl⟩
 .rcases inv i o ho with⟨_,rfl⟩|⟨ad,h2⟩;.trivial
  .rcases inv j o' al with⟨_,rfl⟩|⟨ar,h3⟩;.simp[excl]
   .exact hm.apart i j o o' x x' k ak h2 hx h3 an hb
 .rcases inv i o ho with⟨_,rfl⟩|⟨ad,h2⟩;.trivial
  .exact hm.mine i o x k h2 hx hb
 .obtain⟨e1,e2⟩:=hm.same k hb hx;refine⟨e1,?_⟩;rw[ab k λq=>?_];.exact e2
  .subst q;rcases hm.mine id _ _ k hσ hβ rfl with h|h;all_goals grind
 .rw[ab k λq=>?_];.exact hm.lim k hb
  grind
 .have ao:=r.mono hle aa;cases v with
  |bsv i s off n=>
   simp only[frzB];split
   .rename_i hc;obtain⟨rfl,hs,hlen,hp⟩:=hc;obtain⟨b',af,rfl⟩:=r;rw[hβ]at af;cases af;have hu:=yH1 (s:=s) (off:=off) (n:=n) hlen;have ag:(zD0 cells s off n).length=n:=by simp[zD0]
    have key:RdP w (xF L b cells.length) (.sl .ro (zD0 cells s off n)) (.slice (some ⟨b,off,none⟩) (zD0 cells s off n).length n):=by
     refine .of_flat hs hu (by grind[xF]) om sm om λk v hk=>?_;have au:k<n*s:=by rw[<-ag,<-zW hu];grind
     have hi:k/s<n:=by simp_all[Cw]
     have hj:k%s<s:=Do _ hs;have aq:k=k/s*s+k%s:=by grind[Dv]
     rw[aq,yP _ _ hu hj]at hk;simp only[zD0,B2,C4 hi,B8,B3,Ai,if_pos hj,Bj,B0]at hk;obtain⟨v0,ah,rfl⟩:=hk;have ai:off+k/s*s+k%s=off+k:=om;rw[ai]at ah;obtain⟨z,hz,rz⟩:=ae.get _ _ ah;rw[Ap]at hz;refine⟨z,by simp only[World.cell?,hh];grind,(RdC.dem rz ?_).mono hle⟩;rw[Af]at hp;refine hp _ (Aq.2 ⟨k,?_⟩);grind
    rw[ag]at key;simpa
   omega|_=>exact ao
inductive Frz:List V->St->List V->St->Prop|refl(vs:List V)(σ:St):Frz vs σ vs σ|step(id s:Nat)(rows:List (List V)){vs vs':List V}{σ σ':St}(hσ:σ[id]?=some (.lst rows s))(hp:xM rows=true)(h:Frz (vs.map (frzS id rows)) (zj7 id rows σ) vs' σ'):Frz vs σ vs' σ'|nil(id off s:Nat)(cells:List V){vs vs':List V}{σ σ':St}(hs:0<s)(hσ:σ[id]?=some (.box cells))(hc:cells[off]?=some (.sl .full []))(h:Frz vs (σ.set id (.box (cells.set off (.lsv σ.length s 0 0 0)))++[.lst [] s]) vs' σ'):Frz vs σ vs' σ'|box(id:Nat)(cells:List V){vs vs':List V}{σ σ':St}(hσ:σ[id]?=some (.box cells))(h:Frz (vs.map (frzB id cells)) (σ.set id .dead) vs' σ'):Frz vs σ vs' σ'|nilv(i s:Nat){vs vs':List V}{σ σ':St}(hs:0<s)(hv:vs[i]?=some (.sl .full []))(h:Frz (vs.set i (.lsv σ.length s 0 0 0)) (σ++[.lst [] s]) vs' σ'):Frz vs σ vs' σ'
theorem Frz.ok{vs vs':List V}{σ':St}(h:Frz vs σ vs' σ'):∀{L:Nat->Nat}{β xs:List Value},Mem c w L σ β->All2 (RdS w L σ β) vs xs->∃L' β',Mem c w L' σ' β'/\Le w L w L'/\Ext σ β σ' β'/\All2 (RdS w L' σ' β') vs' xs:=by induction h with |refl vs σ=>grind[Le.refl,Ext.refl]|step id s rows hσ hp _ ih=>intro L β xs hm ha;obtain⟨h1,h2,h3,h4⟩:=xd6 hm hσ hp;obtain⟨L',β',h5,h6,h7,h8⟩:=ih h1 (All2.map_l (f:=frzS id rows) (λ_ _ q=>h4 _ _ q) ha);exact⟨L',β',h5,h2.trans h6,h3.trans h7,h8⟩|nil id off s cells hs hσ hc _ ih=>intro L β xs hm ha;obtain⟨x,h1,h2⟩:=xg3 hm hs hσ hc;obtain⟨L',β',h5,h6,h7,h8⟩:=ih h1 (ha.imp λ_ _ q=>q.mono (Le.refl _ _) h2);exact⟨L',β',h5,h6,h2.trans h7,h8⟩|box id cells hσ _ ih=>intro L β xs hm ha;obtain⟨L1,h1,h2,h3,h4⟩:=xM0 hm hσ;obtain⟨L',β',h5,h6,h7,h8⟩:=ih h1 (All2.map_l (f:=frzB id cells) (λ_ _ q=>h4 _ _ q) ha);exact⟨L',β',h5,h2.trans h6,h3.trans h7,h8⟩|nilv i s hs hv _ ih=>
  rename_i ab ae s0 s1 _;intro L β xs hm ha;obtain⟨x,hx,r⟩:=ha.get _ _ hv;have hr:RdP w L (.sl .full []) x:=r;obtain⟨ad,rfl⟩:∃ad,x=.slice ad 0 0:=by cases hr<;>grind
  have h1:=hm.lstNil (a:=ad) hs;have aa:=Ext.push _ _ hm.len (Ob.lst [] s) (.slice ad 0 0);have h2:All2 (RdS w L (s0++[Ob.lst [] s]) (β++[.slice ad 0 0])) (ab.set i (.lsv s0.length s 0 0 0)) xs:=by
   refine All2.of (by rw[Db];exact ha.length) λj p y hp hy=>?_;rcases ze7 hp with⟨rfl,rfl,_⟩|⟨_,hp⟩;.rw[hx]at hy;cases hy;exact zR9 (w':=w) (L':=L) (s:=s) (rows:=[]) (cap:=0) (a0:=ad) hm.len sm om
   .obtain⟨z,hz,rz⟩:=ha.get _ _ hp;rw[hy]at hz;cases hz;exact rz.mono (Le.refl _ _) aa
  obtain⟨L',β',h5,h6,h7,h8⟩:=ih h1 h2;exact⟨L',β',h5,h6,aa.trans h7,h8⟩
def flatK:V->Bool|.bool _|.int _ _|.str _|.nilp|.u=>true|.raw _=>true|.sl _ rows=>rows.isEmpty|_=>false
def xd5:V->Bool|.agg cs=>cs.all flatK|v=>flatK v
def yK0:V->Bool|.tup vs=>vs.all xd5|v=>xd5 v
section
variable{w w':World}{L L':Nat->Nat}{σ σ':St}{β β':List Value}
variable {x:Value}
theorem yJ9{v:V}(h:flatK v=true)(r:RdC w L [] [] v x):RdC w' L' σ' β' v x:=by cases v with
 |sl g rows=>
  have hr:rows=[]:=by grind[flatK]
  subst hr;cases g with
  |app id=>obtain⟨_,n,s,h,_⟩:=r;grind|ro=>cases r with |sl0 _ a cap hg ha=>exact RdP.sl0 _ _ _ hg ha|sl _ _ s b o cap c ha hs hlen hlim hcap hg hc hr=>exact RdP.sl0 _ _ _ om om
  |full=>cases r with |sl0 _ a cap hg ha=>exact RdP.sl0 _ _ _ hg ha|sl _ _ s b o cap c ha hs hlen hlim hcap hg hc hr=>exact RdP.sl0 _ _ _ hg om
 |bool b=>cases r;exact RdP.bool _|int k n=>cases r;exact RdP.int _ _|str s=>cases r;exact RdP.str _|nilp=>cases r;exact RdP.nilp|raw v=>cases r with|raw _ h=>exact RdP.raw _ h
 |u=>exact r|_=>simp[flatK]at h
theorem yJ8{v:V}(h:xd5 v=true)(r:RdA w L [] [] v x):RdA w' L' σ' β' v x:=by cases v with
 |agg cs=>obtain⟨xs,hx,hc⟩:=r;refine⟨xs,hx,?_⟩;clear hx;simp only[xd5]at h;induction cs generalizing xs with|nil=>cases xs<;>simpa|cons c cs ih=>cases xs with|nil=>simpa|cons y ys=>simp only[Ar,A6]at h;exact⟨yJ9 h.1 hc.1,ih h.2 _ hc.2⟩
 |tup vs=>simpa|fn f c=>trivial|ifc t c=>trivial|_=>exact RdA.of_cell (yJ9 (w:=w) (L:=L) h r)
theorem xy7{v:V}(h:yK0 v=true)(r:RdS w L [] [] v x):RdS w' L' σ' β' v x:=by cases v with
 |tup vs=>obtain⟨xs,hx,hc⟩:=r;refine⟨xs,hx,?_⟩;clear hx;simp only[yK0]at h;induction vs generalizing xs with |nil=>cases xs<;>simpa|cons c cs ih=>cases xs with|nil=>simpa|cons y ys=>simp only[Ar,A6]at h;exact⟨yJ8 h.1 hc.1,ih h.2 _ hc.2⟩
 |u=>trivial|_=>exact RdS.of_a (yJ8 (w:=w) (L:=L) h r)
end
theorem VC.view{P:Program}{c:Ctx}{f:FuncId}{caps args args' af:List V}{σc σ1:St}{R:V->St->Prop}{K:V->St->Prop}(hc:VCalls P f args' [] R)(hb:wB P f=true)(hf:Frz (args++caps) σc af σ1)(aa:All2 (argS (ren [] σ1.length)) args' af)(hR:∀r s,R r s->s=[]/\yK0 r=true)(hk:∀r,R r []->K r σc):VC P c (.fn f caps) args σc K:=by
 refine⟨f,caps,rfl,.inl ⟨zD1 hb,λw L βc ab hm hv=>?_⟩⟩;obtain⟨L1,β1,ai,a1,ar,aj⟩:=hf.ok hm hv;have ak:Bak (ren [] σ1.length) [] [] σ1 β1:=by
  have ao:∀id,σ1.length<=ren [] σ1.length id:=λid=>by simp[ren]
  refine⟨λid x hx=>?_,λid n s hx=>?_,λid rows s hx=>?_,λid hx=>?_⟩;.have h1:=(A3.1 hx).1;have h2:=ao id;rw[ai.len]at h1;omega
  all_goals have h1:=(A3.1 hx).1;have h2:=ao id;omega
 have au:Mem (entry w L1 [] []) w L1 [] []:=⟨rfl,λi o x ho _=>by simp at ho,λi j o o' x x' b _ ho _ _ _ _=>by simp at ho,λi o x b ho _ _=>by simp at ho,λb _ _=>⟨rfl,rfl⟩,Le.refl _ _,A5 _,rfl,rfl,rfl,A5 _,ai.lim,Ext.refl _ _,ai.tab.mono ai.le⟩;have av:All2 (RdS w L1 [] []) args' ab:=by clear hf hc hk;induction args' generalizing af ab with
  |nil=>cases af with
   |nil=>cases ab with|nil=>trivial|cons _ _=>exact aj.elim
   |cons _ _=>exact aa.elim
  |cons p args' ih=>cases af with |nil=>exact aa.elim|cons q az=>cases ab with |nil=>exact aj.elim|cons y ys=>
     refine⟨zx1 ak aa.1 aj.1,?_⟩;clear ih;have key:∀(args' az:List V)(ys:List Value),All2 (argS (ren [] σ1.length)) args' az->All2 (RdS w L1 σ1 β1) az ys->All2 (RdS w L1 [] []) args' ys:=by intro args';induction args' with
      |nil=>intro az ys h1 h2;cases az with
       |nil=>cases ys with|nil=>trivial|cons _ _=>exact h2.elim
       |cons _ _=>exact h1.elim
      |cons p l ih=>intro az ys h1 h2;cases az with|nil=>exact h1.elim|cons q az=>cases ys with|nil=>exact h2.elim|cons y ys=>exact⟨zx1 ak h1.1 h2.1,ih az ys h1.2 h2.2⟩
     exact key _ _ _ aa.2 aj.2
 refine(hc w L1 [] ab au av).mono λe w' ⟨v,r,L2,σ',β',he,aq,a6,ad,aw⟩=>?_;obtain⟨rfl,al⟩:=hR r σ' aq;have ax:β'=[]:=B7 (by rw[ad.len];rfl);subst ax;have ae:∀b,b<w.heap.size->w'.heap[b]?=w.heap[b]?:=λb hb=>(ad.same b hb (by show b∉zj3 [] [];simp[zj3])).1;have ay:w.heap.size<=w'.heap.size:=ad.size;let L3:Nat->Nat:=λb=>if b<w.heap.size then L b else L2 b;have an:∀b,b<w.heap.size->L3 b=L b:=λb hb=>if_pos hb;have ag:Le w L w' L3:=by
  refine⟨λb=>?_,λb o ho=>?_⟩
  .by_cases hb:b<w.heap.size;.rw[an b hb];exact A5 _
   .rw[hm.lim b om];exact A4 _
  .have hb:b<w.heap.size:=by
    rcases Cf b w.heap.size with hb|hb;.exact hb
    .rw[hm.lim b hb]at ho;omega
   exact zd2 (ae b hb) o
 refine⟨v,r,L3,σc,βc,he,hk r aq,?_,ag,Ext.refl _ _,xy7 al aw⟩;refine⟨hm.len,λi o x ho hx=>(hm.objs i o x ho hx).step ag (Ext.refl _ _) λb hb=>?_,hm.apart,hm.mine,λb hb hx=>?_,hm.le.trans ag,Ax hm.size ay,ad.os.trans hm.os,ad.tape.trans hm.tape,ad.output.trans hm.output,Ax hm.drawn ad.drawn,λb hb=>?_,hm.ext,hm.tab⟩;.have ah:=(hm.objs i o x ho hx).excl_lt hb;exact⟨ae b ah,an b ah⟩
 .have ah:=E6 hb hm.size;rw[ae b ah,an b ah];exact hm.same b hb hx
 .show(if b<w.heap.size then L b else L2 b)=0;rw[if_neg om];exact ad.lim b hb
def evOp(P:Program)(e:Env)(σ:St):Op->R |.move x=>.ok (zD e x)|.assign x=>.ok (zD e x)|.pick x y z=>zH4 (zD e x) (zD e y) (zD e z)|.alloc t=>zl1 P t σ|.box _ x=>zR0 σ (zD e x)|.build t ps=>zx4 (wI P t) (plcT P t) (ps.toList.map λp=>(p.1,zD e p.2))|.buildSlice t n ps=>zb0 ((elT P t).map (·.1)) n (ps.toList.map λp=>(p.1,zD e p.2))|.load t x=>zh0 P t σ (zD e x)|.store t x y=>zt7 P t σ (zD e x) (zD e y)|.nilCheck x=>zZ0 (zD e x)|.binOp op t x y _=>if zg5 y=true then zt6 op (eqK P t) (zD e x)else if zf0 y=true then zq3 op (zh4 P t) (zD e x)else zs6 op (eqK P t) (eqS P t) (zD e x) (zD e y)|.unOp op _ x=>evUn op (zD e x)|.convert t t' x=>zD3 (kdT P t) (kdT P t') (zD e x)|.slice t x lo hi none=>zm9 (arrT P t) (lenT P t) ((elT P t).map (·.1)) (zD e x) (lo.map (zD e)) (hi.map (zD e))|.slice t x (some lo) (some hi) (some mx)=>zq4 ((elT P t).map (·.1)) (zD e x) (zD e lo) (zD e hi) (zD e mx)|.fieldAddr t x f=>ze3 P t (zD e x) f|.field t x f=>zx6 (fldT P t f) (zD e x)|.indexAddr t x i=>zi1 (slcT P t) (arrT P t) (zD e x) (zD e i)|.index t x i=>zR1 (zD e x) (zD e i) (strT P t) (arrT P t)|.extract x i=>zm1 (zD e x) i|.makeFunc fn first caps=>zH3 fn first.size (caps.toList.map (zD e))|.makeSlice t l m=>zD5 (elT P t) (zelT P t) σ (zD e l) (zD e m)|.call ⟨.builtin .len,⟨[x]⟩,⟨[t]⟩⟩=>zY9 (lenT P t) (zD e x)|.call ⟨.builtin .append,⟨[x,y]⟩,⟨[t,t']⟩⟩=>zg9 (elT P t) (lenT P t') σ (zD e x) (zD e y)|.call ⟨.builtin .clear,⟨[x]⟩,⟨[t]⟩⟩=>zt4 ((elT P t).map (·.1)) (zelT P t) σ (zD e x)|.call ⟨.builtin .min,⟨xs⟩,_⟩=>zA6 false (xs.map (zD e))|.call ⟨.builtin .max,⟨xs⟩,_⟩=>zA6 true (xs.map (zD e))|.call ⟨.builtin .delete,⟨[x,k]⟩,⟨[t,_]⟩⟩=>zq2 (mapT P t) σ (zD e x) (zD e k)|.makeMap t r=>zm2 σ (zh4 P t) (r.map (zD e))|.lookup t x k ok=>xR (mapT P t) σ (zD e x) (zD e k) ok|.mapUpdate t x k v=>xO (mapT P t) σ (zD e x) (zD e k) (zD e v)|.insert t x k v=>xO (mapT P t) σ (zD e x) (zD e k) (zD e v)|.mapEntry t x k=>xU (mapT P t) σ (zD e x) (zD e k)|.entryStore _ x s v=>xL σ (zD e x) (zD e s) (zD e v)|.range t x=>zx7 (zh4 P t) σ (zD e x)|.entry x=>zi0 σ (zD e x)|.makeInterface t x=>zY8 (ys6 P t) t (zD e x)|.next x false=>zh1 false σ (zD e x)|_=>.fail
def wX(P:Program)(e:Env)(σ:St):Op->R |.buildSlice t n ps=>wU ((elT P t).map (·.1)) n σ (ps.toList.map λp=>(p.1,zD e p.2))|.makeSlice t l m=>zt5 (elT P t) (zelT P t) σ (zD e l) (zD e m)|.convert t t' x=>zx5 (kdT P t) (kdT P t') σ (zD e x)|.slice t x (some lo) none none=>zq5 (lenT P t) ((elT P t).map (·.1)) σ (zD e x) (zD e lo)|.call ⟨.builtin .append,⟨[x,y]⟩,⟨[t,t']⟩⟩=>ze0 (elT P t) (lenT P t') σ (zD e x) (zD e y)|.next x false=>zh1 true σ (zD e x)|op=>evOp P e σ op
def zd3(e:Env)(d:Option Tmp):Bool:=match d with|some t=>(match e (100000+t)with|.tup []=>true|_=>false)|none=>false
def xP(P:Program)(d:Option Tmp)(e:Env)(σ:St)(op:Op):R:=if zd3 e d=true then wX P e σ op else evOp P e σ op
section
variable{P:Program}{c:Ctx}{nt:Nat}{e:Env}{σ:St}{a:Act}{w:World}{L:Nat->Nat}{β:List Value}
theorem xc9(o:Oper)(h:Sim c nt e σ a w L β):ROk (evOp P e σ o.op) σ (Yield P c o a w L σ β):=by
 obtain⟨dst,op,ty,pos,aft,g⟩:=o;show ROk (evOp P e σ op) σ _;unfold evOp;split;.grind[xQ8]
 .grind[xp6]
 .grind[xQ9]
 .grind[xD1]
 .grind[wc1]
 .grind[xD2]
 .grind[yo9]
 .grind[xQ6]
 .grind[xE2]
 .grind[yN9]
 .grind[xD9,xq1,wc0]
 .grind[wg9]
 .grind[xQ4]
 .grind[xE1]
 .grind[xq2]
 .grind[yC3]
 .grind[xD6]
 .grind[yX0]
 .grind[wc2]
 .grind[yW9]
 .grind[xQ5]
 .grind[xQ7]
 .grind[wc4]
 .grind[xp5]
 .grind[xD3]
 .grind[xD8]
 .grind[xD8]
 .grind[xp7]
 .grind[yX1]
 .grind[xq0]
 .grind[yC4]
 .grind[xp8]
 .grind[yN8]
 .grind[yp0]
 .grind[xE0]
 .grind[xD5]
 .grind[wc3]
 .grind[xg9]
 .trivial
theorem xx8(o:Oper)(h:Sim c nt e σ a w L β):ROk (xP P o.dst e σ o.op) σ (Yield P c o a w L σ β):=by
 unfold xP;split
 .obtain⟨dst,op,ty,pos,aft,g⟩:=o;show ROk (wX P e σ op) σ _;unfold wX;split;.grind[yi4]
  .grind[xD7]
  .grind[xD4]
  .grind[xq3]
  .grind[yW8]
  .grind[xg9]
  .exact xc9 ⟨dst,op,ty,pos,aft,g⟩ h
 grind[xc9]
def vput(nt:Nat)(d:Option Tmp)(v:V)(K:Env->St->Prop)(e:Env)(σ:St):Prop:=match d with |some t=>t<nt/\K (upd e t v) σ|none=>K e σ
def xk4 (p q:Prop):Prop:=p/\q
def vfin(nt:Nat)(d:Option Tmp)(r:R)(K:Env->St->Prop)(e:Env)(σ:St):Prop:=match r with |.fail=>False|.ok v=>vput nt d v K e σ|.need p v=>xk4 p (vput nt d v K e σ)|.st v σ'=>vput nt d v K e σ'|.needst p v σ'=>xk4 p (vput nt d v K e σ')|.all f=>∀b,vput nt d (f b) K e σ|.any l=>∀p∈l,vput nt d p.1 K e p.2
def vop(P:Program)(c:Ctx)(nt:Nat)(d:Option Tmp)(op:Op)(K:Env->St->Prop)(e:Env)(σ:St):Prop:=match op with |.call ⟨.value f,args,_⟩=>VC P c (zD e f) (args.toList.map (zD e)) σ (λv σ'=>vput nt d v K e σ')|op=>vfin nt d (xP P d e σ op) K e σ
def vgrd(x:V)(want:Bool)(A B:Prop):Prop:=match x with|.bool b=>(b=want->A)/\(b≠want->B)|.tup []=>B|_=>False
def gdst(ops:List Oper)(j:Nat):Option Tmp:=(ops[j]?).bind (·.dst)
def vgd(g:Option (Nat×Bool))(ops:List Oper)(e:Env)(A B:Prop):Prop:=match g with|none=>A|some (j,want)=>(match gdst ops j with|some t=>vgrd (e t) want A B|none=>False)
def vrun(P:Program)(c:Ctx)(nt:Nat)(ops:List Oper):List Oper->(Env->St->Prop)->Env->St->Prop|[],K,e,σ=>K e σ|o::rest,K,e,σ=>vgd o.guard ops e (vop P c nt o.dst o.op (vrun P c nt ops rest K) e σ) (vput nt o.dst (.tup []) (vrun P c nt ops rest K) e σ)
theorem Sim.put(h:Sim c nt e σ a w L β){w':World}{L':Nat->Nat}{σ':St}{β':List Value}{v:V}{x:Value}(hm:Mem c w' L' σ' β')(hle:Le w L w' L')(aa:Ext σ β σ' β')(r:RdS w' L' σ' β' v x)(d:Option Tmp)(hd:∀t,d=some t->t<nt):Sim c nt (match d with|some t=>upd e t v|none=>e) σ' (a.put d x) w' L' β':=by cases d with |none=>exact⟨hm,h.size,h.defs,λt=>(h.env t).mono hle aa⟩|some d=>
  refine⟨hm,by simp[Act.put,h.size],by simp[Act.put,h.defs],λt=>?_⟩;have ab:=hd d rfl;simp only[upd,Act.put];by_cases ht:t=d
  .subst ht;rw[if_pos rfl];have:(a.tmps.setIfInBounds t x).getD t undef=x:=by simp[Array.getD,h.size,ab]
   grind
  .rw[if_neg ht];have:(a.tmps.setIfInBounds d x).getD t undef=a.tmps.getD t undef:=by have ad:¬d=t:=(by grind);simp_all
   rw[this];exact(h.env t).mono hle aa
def Lift(c:Ctx)(nt:Nat)(Q:Exit->Env->St->Prop):Exit->Act->World->Prop|.panic _,_,_|.outgrown,_,_|.goto _,_,_=>False|x,a,w=>∃e σ L β,Sim c nt e σ a w L β/\Q x e σ
def VW(P:Program)(c:Ctx)(nt:Nat)(code:Code)(Q:Exit->Env->St->Prop)(e:Env)(σ:St):Prop:=∀a w L β,Sim c nt e σ a w L β->code.wp P (Lift c nt Q) a w
theorem zC3(h:Sim c nt e σ a w L β){w':World}{L':Nat->Nat}{σ':St}{β':List Value}{v:V}{x:Value}(hm:Mem c w' L' σ' β')(hle:Le w L w' L')(aa:Ext σ β σ' β')(r:RdS w' L' σ' β' v x){d:Option Tmp}{K:Env->St->Prop}(hK:vput nt d v K e σ'):∃e',Sim c nt e' σ' (a.put d x) w' L' β'/\K e' σ':=by cases d with |none=>exact⟨e,h.put hm hle aa r none sm,hK⟩|some t=>exact⟨upd e t v,h.put hm hle aa r (some t) (λt' q=>by cases q;exact hK.1),hK.2⟩
theorem yE5(o:Oper){K:Env->St->Prop}{next:Act->World->Prop}{Q:Exit->Act->World->Prop}(h:Sim c nt e σ a w L β)(hK:vop P c nt o.dst o.op K e σ)(hn:∀e' σ' a' w' L' β',Sim c nt e' σ' a' w' L' β'->K e' σ'->next a' w'):o.wp P a w next Q:=by
 have fin:∀{r:R},ROk r σ (Yield P c o a w L σ β)->vfin nt o.dst r K e σ->o.wp P a w next Q:=by
  intro r hr hv;have done:∀{v σ'},Yield P c o a w L σ β v σ'->vput nt o.dst v K e σ'->o.wp P a w next Q:=by
   rintro v σ' ⟨x,w',L',β',hrun,hm,hle,hext,hrd⟩hp;obtain⟨e',hs,hk⟩:=zC3 h hm hle hext hrd hp;unfold Oper.wp;rcases hrun with hrun|⟨hrun,rfl⟩;.rw[hrun];exact hn _ _ _ _ _ _ hs hk
   .rw[hrun];exact hn _ _ _ _ _ _ hs hk
  cases r with |fail=>exact hv.elim|ok v=>exact done hr hv|need p v=>exact done (hr hv.1) hv.2|st v σ'=>exact done hr hv|needst p v σ'=>exact done (hr hv.1) hv.2|all f=>obtain⟨b,hr⟩:=hr;exact done hr (hv b)|any l=>obtain⟨p,hp,hr⟩:=hr;exact done hr (hv p hp)
 unfold vop at hK;split at hK
 .rename_i f args ts hop;obtain⟨fid,caps,hf,hK⟩:=hK;have hfv:=h.eval f;rw[hf]at hfv;obtain⟨xs,hx,hcaps⟩:=hfv;have hargs:All2 (RdS w L σ β) (args.toList.map (zD e)++caps) (args.toList.map a.eval++xs):=by
   refine All2.append ?_ (hcaps.imp λp q r=>?_);.generalize args.toList=l;induction l with|nil=>trivial|cons p l ih=>exact⟨h.eval p,ih⟩
   .exact RdS.of_cell (by cases p<;>first|exact r|exact r.elim)
  rcases hK with⟨⟨fn,hfn,hname,hbody⟩,hcall⟩|hcall
  .have hrun:(execOp a.eval o).run P w=.ok (.enter fid (args.toList.map a.eval++xs).toArray) w:=by
    obtain⟨dst,op,ty,pos,aft,g⟩:=o;simp only at hop;subst hop;have hbn:¬fn.body=none:=by intro q;simp[q]at hbody
    have hne:¬fn.name="runtime.NumGoroutine":=by simpa using hname
    have hsz:(Array.map a.eval args++xs.toArray)=(args.toList.map a.eval++xs).toArray:=by apply Array.ext';simp
    simp[execOp,resolve,hx,Deferred.ofValue,invoke,callFunc,hfn,hne,hbn,hsz]
   unfold Oper.wp;rw[hrun];show Calls P fid _ w _;refine(hcall w L β _ h.mem hargs).mono ?_;rintro en w' ⟨v,r,L',σ',β',rfl,hp,hm,hle,hext,hrd⟩;obtain⟨e',hs,hk⟩:=zC3 h hm hle hext hrd hp;exact hn _ _ _ _ _ _ hs hk
  .obtain⟨v,r,w',L',σ',β',hrv,hp,hm,hle,hext,hrd⟩:=hcall w L β _ h.mem hargs;have hrun:(execOp a.eval o).run P w=.ok (.value v) w':=by
    obtain⟨dst,op,ty,pos,aft,g⟩:=o;simp only at hop;subst hop;have hsz:(Array.map a.eval args++xs.toArray)=(args.toList.map a.eval++xs).toArray:=by apply Array.ext';simp
    simp[execOp,resolve,hx,Deferred.ofValue,invoke,hsz,hrv]
   obtain⟨e',hs,hk⟩:=zC3 h hm hle hext hrd hp;unfold Oper.wp;rw[hrun];exact hn _ _ _ _ _ _ hs hk
 .exact fin (xx8 o h) hK
theorem ya9{ops:List Oper}{j:Nat}{t:Tmp}(ht:gdst ops j=some t)(hv:RdS w L σ β (.tup []) (a.tmps.getD t undef)):yielded ops.toArray a.tmps j=none:=by
 obtain⟨xs,hx,ab⟩:=hv;have ad:xs=[]:=by cases xs with |nil=>rfl|cons x xs=>exact ab.elim
 subst ad;unfold yielded;unfold gdst at ht;have ae:(ops.toArray[j]?).bind (·.dst)=some t:=by simpa using ht
 rw[ae];simp only[B3];by_cases aa:t<a.tmps.size;.rw[B9 aa];simp[Array.getD,aa]at hx;rw[hx]
 .rw[Array.getElem?_eq_none (Nat.le_of_not_lt aa)]
theorem yE6{ops:List Oper}{Q:Exit->Act->World->Prop}:∀(l:List Oper)(K:Env->St->Prop)(e:Env)(σ:St)(a:Act)(w:World)(L:Nat->Nat)(β:List Value),Sim c nt e σ a w L β->vrun P c nt ops l K e σ->(∀e' σ' a' w' L' β',Sim c nt e' σ' a' w' L' β'->K e' σ'->Q .normal a' w')->wpList P ops.toArray Q l a w
 |[],K,e,σ,a,w,L,β,h,hK,hn=>hn _ _ _ _ _ _ h hK|o::rest,K,e,σ,a,w,L,β,h,hK,hn=>by
  have ih:=yE6 (ops:=ops) (Q:=Q) rest K;have yes:vop P c nt o.dst o.op (vrun P c nt ops rest K) e σ->o.wp P a w (wpList P ops.toArray Q rest) Q∨(o.asks P a w/\LetsOut Q):=λhv=>.inl (yE5 o h hv λe' σ' a' w' L' β' hs hk=>ih e' σ' a' w' L' β' hs hk hn);have no:vput nt o.dst (.tup []) (vrun P c nt ops rest K) e σ->wpList P ops.toArray Q rest (a.put o.dst undef) w:=λhv=>by obtain⟨e',hs,hk⟩:=zC3 h h.mem (Le.refl _ _) (Ext.refl _ _) (show RdS w L σ β (.tup []) undef from⟨[],rfl,tV⟩) hv;exact ih e' σ _ _ _ _ hs hk hn
  unfold vrun at hK;unfold wpList;unfold vgd at hK;split at hK;.rename_i hg;rw[if_pos (by simp[Region.wanted,hg])];exact yes hK
  .rename_i j want hg;split at hK
   .rename_i t ht;have hv:=h.env t;unfold vgrd at hK;split at hK
    .rename_i b hb;rw[hb]at hv;have hv:=zd0 hv;have hy:yielded ops.toArray a.tmps j=some b:=by
      unfold yielded;unfold gdst at ht;have ad:(ops.toArray[j]?).bind (·.dst)=some t:=by simpa using ht
      rw[ad];simp only[B3];have ab:t<a.tmps.size:=by
       rcases Cf t a.tmps.size with q|q;.exact q
       .simp[Array.getD,Nat.not_lt.2 q,undef]at hv
      rw[B9 ab];simp[Array.getD,ab]at hv;rw[hv]
     by_cases aa:b=want;.rw[if_pos (by simp[Region.wanted,hg,hy,aa])];exact yes (hK.1 aa)
     .rw[if_neg (by simp[Region.wanted,hg,hy,aa])];exact no (hK.2 aa)
    .rename_i hb;rw[hb]at hv;rw[if_neg (by simp[Region.wanted,hg,ya9 ht hv])];exact no hK
    .exact hK.elim
   .exact hK.elim
def yR6(x:V)(A B:Prop):Prop:=match x with|.bool b=>(b=true->A)/\(b=false->B)|_=>False
def xH8(K:Env->St->Prop)(Q:Exit->Env->St->Prop):Exit->Env->St->Prop|.normal,e,σ=>K e σ|x,e,σ=>Q x e σ
def blkV(id:Nat)(Q:Exit->Env->St->Prop):Exit->Env->St->Prop |.exit id',e,σ=>if id'=id then Q .normal e σ else Q (.exit id') e σ|x,e,σ=>Q x e σ
def zz3(P:Program)(c:Ctx)(nt:Nat):Code->(Exit->Env->St->Prop)->Env->St->Prop |.skip,Q,e,σ=>Q .normal e σ|.seq x y,Q,e,σ=>zz3 P c nt x (xH8 (zz3 P c nt y Q) Q) e σ|.cond x t f,Q,e,σ=>yR6 (zD e x) (zz3 P c nt t Q e σ) (zz3 P c nt f Q e σ)|.block id b,Q,e,σ=>zz3 P c nt b (blkV id Q) e σ|.exit id,Q,e,σ=>Q (.exit id) e σ|.ret,Q,e,σ=>Q .ret e σ|.label _,Q,e,σ=>Q .normal e σ|.region id ops draw,Q,e,σ=>if draw then VW P c nt (.region id ops true) Q e σ else vrun P c nt ops.toList ops.toList (Q .normal) e σ|.loop b,Q,e,σ=>VW P c nt (.loop b) Q e σ|_,_,_,_=>False
theorem zf5:∀(code:Code)(Q:Exit->Env->St->Prop)(e:Env)(σ:St),zz3 P c nt code Q e σ->VW P c nt code Q e σ
 |.skip,Q,e,σ,h=>λa w L β hs=>wp_skip ⟨e,σ,L,β,hs,h⟩|.seq x y,Q,e,σ,h=>λa w L β hs=>by refine wp_seq (wp_mono (zf5 x _ e σ h a w L β hs) λex a' w' q=>?_);cases ex with |normal=>obtain⟨e',σ',L',β',aa,hq⟩:=q;exact zf5 y Q e' σ' hq a' w' L' β' aa|exit id=>exact q|goto l=>exact q|ret=>exact q|panic ch=>exact q|outgrown=>exact q
 |.cond x t f,Q,e,σ,h=>λa w L β hs=>by
  unfold zz3 yR6 at h;split at h;.rename_i b hb;have hv:=hs.eval x;rw[hb]at hv;exact wp_cond_split (zd0 hv) (λad=>zf5 t Q e σ (h.1 ad) a w L β hs) (λae=>zf5 f Q e σ (h.2 ae) a w L β hs)
  .exact h.elim|.block id b,Q,e,σ,h=>λa w L β hs=>by refine wp_block (wp_mono (zf5 b _ e σ h a w L β hs) λex a' w' q=>?_);cases ex with
  |exit ab=>
   obtain⟨e',σ',L',β',aa,hq⟩:=q;change(if ab=id then Q .normal e' σ' else Q (.exit ab) e' σ')at hq;change(if ab=id then Lift c nt Q .normal a' w' else Lift c nt Q (.exit ab) a' w');split;.rename_i hid;rw[if_pos hid]at hq;exact⟨e',σ',L',β',aa,hq⟩
   .rename_i hid;rw[if_neg hid]at hq;exact⟨e',σ',L',β',aa,hq⟩|normal=>exact q|goto l=>exact q|ret=>exact q|panic ch=>exact q|outgrown=>exact q
 |.exit id,Q,e,σ,h=>λa w L β hs=>wp_exit ⟨e,σ,L,β,hs,h⟩|.ret,Q,e,σ,h=>λa w L β hs=>wp_ret ⟨e,σ,L,β,hs,h⟩|.label _,Q,e,σ,h=>λa w L β hs=>wp_label ⟨e,σ,L,β,hs,h⟩|.region id ops draw,Q,e,σ,h=>λa w L β hs=>by unfold zz3 at h;cases draw with|true=>exact h a w L β hs|false=>refine wp_region_list (ops:=ops) ?_;have:=yE6 (P:=P) (ops:=ops.toList) (Q:=Lift c nt Q) ops.toList (Q .normal) e σ a w L β hs (by simpa using h) λe' σ' a' w' L' β' aa hk=>⟨e',σ',L',β',aa,hk⟩;simpa using this
 |.loop b,Q,e,σ,h=>h|.rangeFunc _ _ _ _,_,_,_,h=>h.elim|.scope _,_,_,_,h=>h.elim|.goto _,_,_,_,h=>h.elim|.refuse _,_,_,_,h=>h.elim
end
section
variable{P:Program}{c:Ctx}{nt:Nat}{e:Env}{σ:St}{a:Act}{w:World}{L:Nat->Nat}{β:List Value}
variable {fn:Func}{code:Code}
def envA:Nat->List V->Env |_,[]=>env0|i,v::vs=>upd (envA (i+1) vs) i v
theorem yf0:∀(vs:List V)(i t:Nat),envA i vs (i+t)=vs.getD t .u
 |[],_,_=>by simp[envA,env0]|v::vs,i,0=>by simp[envA,upd]|v::vs,i,t+1=>by simp only[envA,upd];rw[if_neg om];have:=yf0 vs (i+1) t;rw[show i+(t+1)=i+1+t by omega,this];simp
def yu8(P:Program)(e:Env)(σ:St):ResultVar->Option V |.tmp t=>some (e t)|.cell t T=>(match zh0 P T σ (e t)with|.ok v=>some v|_=>none)
def zP4(P:Program)(e:Env)(σ:St):List ResultVar->Option (List V) |[]=>some []|r::rs=>(match yu8 P e σ r,zP4 P e σ rs with|some v,some vs=>if wY v=true then some (v::vs)else none|_,_=>none)
def retV(P:Program)(rs:List ResultVar)(e:Env)(σ:St):Option V:=match rs with|[r]=>yu8 P e σ r|rs=>(zP4 P e σ rs).map .tup
def resS(a:Act):ResultVar->Sem Value |.tmp t=>pure (a.tmps.getD t undef)|.cell t T=>do loadVar T (<-asAddr (a.tmps.getD t undef))
theorem yY0(fn:Func)(a:Act):results fn a.tmps=(do let vs<-fn.results.mapM (resS a);pure (if h:vs.size=1then vs[0]else .tuple vs)):=by unfold results;rfl
theorem xF4(h:Sim c nt e σ a w L β){r:ResultVar}{v:V}(hv:yu8 P e σ r=some v):∃x,(resS a r).run P w=.ok x w/\RdS w L σ β v x:=by cases r with |tmp t=>simp only[yu8,Option.some.injEq]at hv;subst hv;exact⟨_,rfl,h.env t⟩|cell t T=>
  simp only[yu8]at hv;split at hv;.rename_i v' hl;simp only[Option.some.injEq]at hv;subst hv;obtain⟨bl,off,z,hy,hz,r⟩:=yL7 (P:=P) T h.mem (h.env t) hl;exact⟨z,by simp only[resS,Sem.run_bind,hy,asAddr,Sem.run_pure,Result.andThen_ok,hz],r⟩
  .cases hv
theorem yu7(h:Sim c nt e σ a w L β):∀(rs:List ResultVar)(vs:List V),zP4 P e σ rs=some vs->∃xs:List Value,(rs.mapM (resS a)).run P w=.ok xs w/\All2 (RdA w L σ β) vs xs/\xs.length=rs.length
 |[],vs,hv=>by simp only[zP4,Option.some.injEq]at hv;subst hv;exact⟨[],rfl,tV,rfl⟩|r::rs,vs,hv=>by
  simp only[zP4]at hv;split at hv
  .rename_i v vs' h1 h2;split at hv;.rename_i hh;simp only[Option.some.injEq]at hv;subst hv;obtain⟨x,hx,hr⟩:=xF4 (P:=P) h h1;obtain⟨xs,aa,ab,hl⟩:=yu7 h rs vs' h2;refine⟨x::xs,?_,⟨yu6 hr hh,ab⟩,by simp[hl]⟩;rw[List.mapM_cons];simp only[Sem.run_bind,hx,Result.andThen_ok,aa,Sem.run_pure]
   .cases hv
  .cases hv
theorem xR7(h:Sim c nt e σ a w L β){v:V}(hv:retV P fn.results.toList e σ=some v):∃x,(results fn a.tmps).run P w=.ok x w/\RdS w L σ β v x:=by
 have aa:∀xs:List Value,(fn.results.toList.mapM (resS a)).run P w=.ok xs w->(results fn a.tmps).run P w=.ok (if hs:xs.toArray.size=1then xs.toArray[0]else .tuple xs.toArray) w:=by intro xs hx;rw[yY0,Array.mapM_eq_mapM_toList];simp only[Sem.run_bind,Sem.run_map,hx,Result.andThen_ok,Sem.run_pure]
 unfold retV at hv;split at hv;.rename_i r hr;obtain⟨x,hx,ad⟩:=xF4 (P:=P) h hv;refine⟨x,?_,ad⟩;have:=aa [x] (by rw[hr,List.mapM_cons];simp only[Sem.run_bind,hx,Result.andThen_ok,List.mapM_nil,Sem.run_pure]);simpa using this
 .rename_i rs ae;cases ha:zP4 P e σ fn.results.toList with |none=>rw[ha]at hv;cases hv|some vs=>
   rw[ha]at hv;simp only[B8,Option.some.injEq]at hv;subst hv;obtain⟨xs,af,ab,hl⟩:=yu7 (P:=P) h _ _ ha;refine⟨.tuple xs.toArray,?_,xs,rfl,ab⟩;have hn:¬xs.toArray.size=1:=by intro q;simp only[List.size_toArray]at q;rw[hl]at q;obtain⟨r,hr⟩:=List.length_eq_one_iff.1 q;exact ae r hr
   have:=aa xs af;rw[dif_neg hn]at this;exact this
def VRet(n0:Nat)(R:V->St->Prop)(v:V)(σ:St):Prop:=∃v1 σ1 pick σ' r,Frz [v] σ [v1] σ1/\Picks n0 pick σ1 σ'/\argS (ren pick σ1.length) r v1/\R r σ'
def retQ(P:Program)(rs:List ResultVar)(n0:Nat)(R:V->St->Prop):Exit->Env->St->Prop|.normal,e,σ|.ret,e,σ=>∃v,retV P rs e σ=some v/\VRet n0 R v σ|_,_,_=>False
theorem VCalls.introW{f:FuncId}{nt:Nat}{rs:List ResultVar}{args:List V}{σ:St}{R:V->St->Prop}(n0:Nat)(hf:P.funcs[f]?=some fn)(ag:fn.ntmps=nt)(ad:fn.results=rs.toArray)(hb:fn.body=some code)(h0:σ.length=n0)(an:args.length<=nt)(h:∀c:Ctx,c.σ0.length=n0->c.β0.length=c.σ0.length->VW P c nt code (retQ P rs n0 R) (envA 0 args) σ):VCalls P f args σ R:=by
 subst ag;subst h0;have ad:fn.results.toList=rs:=by rw[ad]
 subst ad;intro w L β aa hm ha;have hlen:=ha.length;refine calls_of_wp hf hb ?_;have ae:Sim (entry w L σ β) fn.ntmps (envA 0 args) σ {tmps:=aa.toArray++Array.replicate (fn.ntmps-aa.toArray.size) undef,defers:=[]} w L β:=by
  refine⟨hm,by simp;omega,rfl,λt=>?_⟩;have e1:=yf0 args 0 t;rw[Ad]at e1;rw[e1];by_cases ht:t<args.length
  .obtain⟨x,hx,r⟩:=ha.get t _ (A0 ht);have:(aa.toArray++Array.replicate (fn.ntmps-aa.toArray.size) undef).getD t undef=x:=by rw[Array.getD_eq_getD_getElem?,Ec (by simp;omega)];simp[hx]
   rw[this,A7,A0 ht];exact r
  .rw[A7,Bh om];trivial
 refine wp_mono (h (entry w L σ β) rfl hm.len _ w L β ae) λx a' w' q=>?_;have fin:∀{x:Exit},(x=.normal∨x=.ret)->Lift (entry w L σ β) fn.ntmps (retQ P fn.results.toList σ.length R) x a' w'->a'.defers=[]/\∃v,(results fn a'.tmps).run P w'=.ok v w'/\∃v' r L' σ' β',Ending.returned v=Ending.returned v'/\R r σ'/\σ.length<=σ'.length/\Mem (entry w L σ β) w' L' σ' β'/\RdS w' L' σ' β' r v':=by
  intro x hx q;have hq:∃e' σ' L' β',Sim (entry w L σ β) fn.ntmps e' σ' a' w' L' β'/\∃v,retV P fn.results.toList e' σ'=some v/\VRet σ.length R v σ':=by rcases hx with rfl|rfl<;>exact q
  obtain⟨e',σ0,ao,β1,hs,v,hv,v1,σ1,pick,σ',r,ah,hp,ai,hR⟩:=hq;obtain⟨x,hx,af⟩:=xR7 (P:=P) hs hv;obtain⟨L',β2,ab,_,_,aj,_⟩:=ah.ok hs.mem (xs:=[x]) ⟨af,tV⟩;refine⟨hs.defs,x,hx,x,r,L',σ',_,rfl,hR,?_,ab.pick hp hm.len,zx1 (hp.bak ab.len) ai aj⟩;rw[hp.len];rcases Cf pick.length σ.length with ak|al;.have:=(A3.1 (hp.id pick.length ak)).1;omega
  .exact al
 cases x with |normal=>exact fin (.inl rfl) q|ret=>exact fin (.inr rfl) q|exit id=>obtain⟨e',σ',L',β',hs,hq⟩:=q;exact hq.elim|goto l=>exact q.elim|panic ch=>exact q.elim|outgrown=>exact q.elim
theorem VCalls.intro{f:FuncId}{nt:Nat}{rs:List ResultVar}{args:List V}{σ:St}{R:V->St->Prop}(n0:Nat)(hf:P.funcs[f]?=some fn)(aa:fn.ntmps=nt)(ab:fn.results=rs.toArray)(hb:fn.body=some code)(h0:σ.length=n0)(ad:args.length<=nt)(h:∀c:Ctx,c.σ0.length=n0->c.β0.length=c.σ0.length->zz3 P c nt code (retQ P rs n0 R) (envA 0 args) σ):VCalls P f args σ R:=VCalls.introW n0 hf aa ab hb h0 ad λc h1 h2=>zf5 code _ _ _ (h c h1 h2)
theorem ya7{Q:Exit->Act->World->Prop}(I:Nat->Act->World->Prop)(n:Nat)(h₀:I n a w)(round:∀n a w,I n a w->code.wp P (Exit.then (λa' w'=>∃m,m<n/\I m a' w') Q) a w):(Code.loop code).wp P Q a w:=by
 intro b k cs;have key:∀n a w,I n a w->∃e a' w',Q e a' w'/\Arrives P (lone (b.at a (.code code::.inLoop code::k)) cs w) b k cs e a' w':=by intro n;induction n using Nat.strongRecOn with|_ n ih=>intro a w hI;obtain⟨e,a₁,w₁,hq,aa⟩:=round n a w hI b (.inLoop code::k) cs;cases e with |normal=>obtain⟨m,ad,ae⟩:=hq;obtain⟨e₂,a₂,w₂,af,ab⟩:=ih m ad a₁ w₁ ae;exact⟨e₂,a₂,w₂,af,.of_steps (Steps.trans aa (.one step_inLoop)) ab⟩|exit id=>exact⟨_,a₁,w₁,hq,.pass (x:=.inLoop code) rfl (λ_ _=>.inl sm) aa⟩|goto l=>exact⟨_,a₁,w₁,hq,.pass (x:=.inLoop code) rfl (λ_ _=>.inl sm) aa⟩|ret=>exact⟨_,a₁,w₁,hq,.pass (x:=.inLoop code) rfl (λ_ _=>.inl sm) aa⟩|panic ch=>exact⟨_,a₁,w₁,hq,.pass (x:=.inLoop code) rfl (λ_ _=>.inl sm) aa⟩|outgrown=>exact⟨_,a₁,w₁,hq,.pass (x:=.inLoop code) rfl (λ_ _=>.inl sm) aa⟩
 obtain⟨e,a',w',hq,aa⟩:=key n a w h₀;exact⟨e,a',w',hq,.of_steps (.one step_loop) aa⟩
def envK:List (Nat×V)->Env |[]=>env0|(t,v)::r=>upd (envK r) t v
def xY4(n0:Nat)(keep:List Nat)(Inv:List V->St->Nat->Prop)(m:Nat)(e:Env)(σ:St):Prop:=∃vs s pick,Picks n0 pick σ s/\All2 (argS (ren pick σ.length)) vs (keep.map e)/\Inv vs s m
theorem zP6(h:Sim c nt e σ a w L β)(hc:c.β0.length=c.σ0.length){keep:List Nat}{Inv:List V->St->Nat->Prop}{m:Nat}(hk:xY4 c.σ0.length keep Inv m e σ):∃vs s β',Inv vs s m/\vs.length=keep.length/\Sim c nt (envK (keep.zip vs)) s a w L β':=by obtain⟨vs,s,pick,hp,aa,hI⟩:=hk;have hl:=aa.length;simp at hl;refine⟨vs,s,_,hI,hl,h.mem.pick hp hc,h.size,h.defs,λt=>?_⟩;have hb:=hp.bak h.mem.len;clear hI;revert aa hl;generalize keep=kl;intro aa hl;induction kl generalizing vs with|nil=>trivial|cons q kl ih=>cases vs with |nil=>simp at hl|cons v vs=>
   simp only[Em,envK,upd];by_cases hq:t=q;.subst hq;rw[if_pos rfl];exact zx1 hb aa.1 (h.env t)
   .rw[if_neg hq];exact ih vs aa.2 (by simpa using hl)
end
def Fx.{v}{α:Sort v}(_:α):Type:=Unit
def fx.{v} {α:Sort v} {a:α}:Fx a:=()
abbrev KT:=Env->St->Prop
abbrev QT:=Exit->Env->St->Prop
def zt1(P:Program)(c:Ctx)(nt:Nat)(code:Code)(Q:QT)(_:Fx code)(_:Fx Q)(e:Env)(σ:St):Prop:=zz3 P c nt code Q e σ
def wrun(P:Program)(c:Ctx)(nt:Nat)(ops l:List Oper)(K:KT)(_:Fx ops)(_:Fx l)(_:Fx K)(e:Env)(σ:St):Prop:=vrun P c nt ops l K e σ
def wop(P:Program)(c:Ctx)(nt:Nat)(d:Option Tmp)(op:Op)(K:KT)(_:Fx op)(_:Fx K)(e:Env)(σ:St):Prop:=vop P c nt d op K e σ
def wfin(nt:Nat)(d:Option Tmp)(r:R)(K:KT)(_:Fx K)(e:Env)(σ:St):Prop:=vfin nt d r K e σ
def wput(nt:Nat)(d:Option Tmp)(v:V)(K:KT)(_:Fx K)(e:Env)(σ:St):Prop:=vput nt d v K e σ
def zK3(p q:Prop)(_:Fx q):Prop:=xk4 p q
def yw6(x:V)(A B:Prop)(_:Fx A)(_:Fx B):Prop:=yR6 x A B
def wgrd(x:V)(want:Bool)(A B:Prop)(_:Fx A)(_:Fx B):Prop:=vgrd x want A B
def wgdo(t:Option Tmp)(want:Bool)(e:Env)(A B:Prop)(_:Fx A)(_:Fx B):Prop:=match t with|some t=>vgrd (e t) want A B|none=>False
def wdst(ops:List Oper)(_:Fx ops)(j:Nat):Option Tmp:=gdst ops j
def ya8(K:KT)(Q:QT)(_:Fx K)(_:Fx Q)(x:Exit)(e:Env)(σ:St):Prop:=xH8 K Q x e σ
def wblk(id:Nat)(Q:QT)(_:Fx Q)(x:Exit)(e:Env)(σ:St):Prop:=blkV id Q x e σ
def wVW(P:Program)(c:Ctx)(nt:Nat)(code:Code)(Q:QT)(_:Fx code)(_:Fx Q)(e:Env)(σ:St):Prop:=VW P c nt code Q e σ
def wVC(P:Program)(c:Ctx)(fv:V)(az:List V)(σ:St)(K:V->St->Prop)(_:Fx K):Prop:=VC P c fv az σ K
def xK2(nt:Nat)(d:Option Tmp)(K:KT)(_:Fx K)(e:Env)(v:V)(σ:St):Prop:=vput nt d v K e σ
section
variable{P:Program}{c:Ctx}{nt:Nat}{e:Env}{σ:St}{K:KT}{Q:QT}{d:Option Tmp}
variable{x:Operand}{t:TypeId}{i:Nat}{A:Prop}{B:Prop}{op:BinOp}{b:Bool}{es:Option (List Pk)}{y:Operand}{l:List Operand}{want:Bool}{t':TypeId}{k:IntKind}{f:FuncId}{ops:List Oper}{ty:TypeId}{aft:Array Edge}{n:Int}{p:Prop}{ts:Array TypeId}{ek:Nat}
theorem zL{code:Code}(h:zt1 P c nt code Q fx fx e σ):zz3 P c nt code Q e σ:=h
@[go_sem]theorem wcode_skip:zt1 P c nt .skip Q fx fx e σ=Q .normal e σ:=id rfl
@[go_sem]theorem wcode_seq{x y:Code}:zt1 P c nt (.seq x y) Q fx fx e σ=zt1 P c nt x (ya8 (zt1 P c nt y Q fx fx) Q fx fx) fx fx e σ:=id rfl
@[go_sem]theorem wcode_cond{t f:Code}:zt1 P c nt (.cond x t f) Q fx fx e σ=yw6 (zD e x) (zt1 P c nt t Q fx fx e σ) (zt1 P c nt f Q fx fx e σ) fx fx:=id rfl
@[go_sem]theorem wcode_block{b:Code}:zt1 P c nt (.block i b) Q fx fx e σ=zt1 P c nt b (wblk i Q fx) fx fx e σ:=id rfl
@[go_sem]theorem wcode_exit:zt1 P c nt (.exit i) Q fx fx e σ=Q (.exit i) e σ:=id rfl
@[go_sem]theorem wcode_ret:zt1 P c nt .ret Q fx fx e σ=Q .ret e σ:=id rfl
@[go_sem]theorem wcode_region{l:List Oper}:zt1 P c nt (.region i l.toArray false) Q fx fx e σ=wrun P c nt l l (Q .normal) fx fx fx e σ:=id rfl
@[go_sem]theorem wcode_draw{ops:Array Oper}:zt1 P c nt (.region i ops true) Q fx fx e σ=wVW P c nt (.region i ops true) Q fx fx e σ:=id rfl
@[go_sem]theorem wcode_loop{b:Code}:zt1 P c nt (.loop b) Q fx fx e σ=wVW P c nt (.loop b) Q fx fx e σ:=id rfl
@[go_sem]theorem wthen_normal:ya8 K Q fx fx .normal e σ=K e σ:=id rfl
@[go_sem]theorem wthen_ret:ya8 K Q fx fx .ret e σ=Q .ret e σ:=id rfl
@[go_sem]theorem wthen_exit:ya8 K Q fx fx (.exit i) e σ=Q (.exit i) e σ:=id rfl
@[go_sem]theorem wblk_normal:wblk i Q fx .normal e σ=Q .normal e σ:=id rfl
@[go_sem]theorem wblk_ret:wblk i Q fx .ret e σ=Q .ret e σ:=id rfl
@[go_sem]theorem wblk_same:wblk i Q fx (.exit i) e σ=Q .normal e σ:=by show(if i=i then _ else _)=_;rw[if_pos rfl]
@[go_sem]theorem wblk_exit{j:Nat}:wblk i Q fx (.exit j) e σ=if j=i then Q .normal e σ else Q (.exit j) e σ:=id rfl
theorem yX{op:Op}(h1:wX P e σ op=evOp P e σ op)(h2:vop P c nt d op K e σ=vfin nt d (xP P d e σ op) K e σ):wop P c nt d op K fx fx e σ=wfin nt d (evOp P e σ op) K fx e σ:=by unfold wop wfin;rw[h2];unfold xP;rw[h1];simp
def wh(b:Bool)(x y:R):R:=if b=true then x else y
@[go_sem]theorem wh_t{x y:R}:wh true x y=x:=rfl
@[go_sem]theorem wh_f{x y:R}:wh false x y=y:=rfl
def yB1:V->Bool|.tup []=>true|_=>false
@[go_sem]theorem hinted_some{t:Nat}:zd3 e (some t)=yB1 (e (100000+t)):=by unfold zd3 yB1;rfl
@[go_sem]theorem hinted_none:zd3 e none=false:=rfl
@[go_sem]theorem isMark_t:yB1 (.tup [])=true:=rfl
@[go_sem]theorem isMark_u:yB1 .u=false:=rfl
@[go_sem]theorem env0_u{t:Nat}:env0 t=.u:=rfl
@[go_sem]theorem wrun_nil:wrun P c nt ops [] K fx fx fx e σ=K e σ:=id rfl
@[go_sem]theorem wrun_cons{rest:List Oper}{op:Op}{pos:String}:wrun P c nt ops (⟨d,op,ty,pos,aft,none⟩::rest) K fx fx fx e σ=wop P c nt d op (wrun P c nt ops rest K fx fx fx) fx fx e σ:=id rfl
@[go_sem]theorem wrun_guard{rest:List Oper}{op:Op}{pos:String}{j:Nat}:wrun P c nt ops (⟨d,op,ty,pos,aft,some (j,want)⟩::rest) K fx fx fx e σ=wgdo (wdst ops fx j) want e (wop P c nt d op (wrun P c nt ops rest K fx fx fx) fx fx e σ) (wput nt d (.tup []) (wrun P c nt ops rest K fx fx fx) fx e σ) fx fx:=id rfl
@[go_sem]theorem wgdo_some{t:Tmp}:wgdo (some t) want e A B fx fx=wgrd (e t) want A B fx fx:=id rfl
@[go_sem]theorem wdst_zero{d:Option Tmp}{op:Op}{pos:String}{g:Option (Nat×Bool)}{l:List Oper}:wdst (⟨d,op,ty,pos,aft,g⟩::l) fx 0=d:=id rfl
@[go_sem]theorem wdst_succ{o:Oper}{l:List Oper}{n:Nat}:wdst (o::l) fx (n+1)=wdst l fx n:=by simp[wdst,gdst]
@[go_sem]theorem wgrd_tt:wgrd (.bool true) true A B fx fx=A:=by simp[wgrd,vgrd]
@[go_sem]theorem wgrd_ff:wgrd (.bool false) false A B fx fx=A:=by simp[wgrd,vgrd]
@[go_sem]theorem wgrd_tf:wgrd (.bool true) false A B fx fx=B:=by simp[wgrd,vgrd]
@[go_sem]theorem wgrd_ft:wgrd (.bool false) true A B fx fx=B:=by simp[wgrd,vgrd]
@[go_sem]theorem wgrd_no:wgrd (.tup []) want A B fx fx=B:=by simp[wgrd,vgrd]
@[go_sem]theorem wcond_t:yw6 (.bool true) A B fx fx=A:=by simp[yw6,yR6]
@[go_sem]theorem wcond_f:yw6 (.bool false) A B fx fx=B:=by simp[yw6,yR6]
theorem zR(ha:b=true->A)(hb:b=false->B):yw6 (.bool b) A B fx fx:=⟨ha,hb⟩
theorem xE(ha:b=want->A)(hb:b=(!want)->B):wgrd (.bool b) want A B fx fx:=⟨ha,λh=>hb (by cases b<;>cases want<;>simp_all)⟩
theorem zI{q:Prop}(hp:p)(hq:q):zK3 p q fx:=⟨hp,hq⟩
@[go_sem]theorem wneed_t{q:Prop}:zK3 True q fx=q:=by simp[zK3,xk4]
@[go_sem]theorem wfin_ok{v:V}:wfin nt d (.ok v) K fx e σ=wput nt d v K fx e σ:=id rfl
@[go_sem]theorem wfin_need{v:V}:wfin nt d (.need p v) K fx e σ=zK3 p (wput nt d v K fx e σ) fx:=id rfl
@[go_sem]theorem wfin_st{v:V}{s:St}:wfin nt d (.st v s) K fx e σ=wput nt d v K fx e s:=id rfl
@[go_sem]theorem wfin_needst{v:V}{s:St}:wfin nt d (.needst p v s) K fx e σ=zK3 p (wput nt d v K fx e s) fx:=id rfl
@[go_sem]theorem wput_some{t:Nat}{v:V}:wput nt (some t) v K fx e σ=(t<nt/\K (upd e t v) σ):=id rfl
@[go_sem]theorem wput_none{v:V}:wput nt none v K fx e σ=K e σ:=id rfl
@[go_sem]theorem wputK_eq{v:V}:xK2 nt d K fx e v σ=wput nt d v K fx e σ:=id rfl
@[go_sem]theorem wop_move:wop P c nt d (.move x) K fx fx e σ=wput nt d (zD e x) K fx e σ:=(yX rfl rfl).trans rfl
@[go_sem]theorem wop_assign:wop P c nt d (.assign x) K fx fx e σ=wput nt d (zD e x) K fx e σ:=(yX rfl rfl).trans rfl
@[go_sem]theorem wop_pick{z:Operand}:wop P c nt d (.pick x y z) K fx fx e σ=wfin nt d (zH4 (zD e x) (zD e y) (zD e z)) K fx e σ:=(yX rfl rfl).trans rfl
@[go_sem]theorem wop_alloc:wop P c nt d (.alloc t) K fx fx e σ=wfin nt d (zl1 P t σ) K fx e σ:=(yX rfl rfl).trans rfl
@[go_sem]theorem wop_box:wop P c nt d (.box t x) K fx fx e σ=wfin nt d (zR0 σ (zD e x)) K fx e σ:=(yX rfl rfl).trans rfl
@[go_sem]theorem wop_build{l:List (Nat×Operand)}:wop P c nt d (.build t l.toArray) K fx fx e σ=wfin nt d (zx4 (wI P t) (plcT P t) (l.map λp=>(p.1,zD e p.2))) K fx e σ:=(yX rfl rfl).trans rfl
@[go_sem]theorem wop_buildSlice{n:Nat}{l:List (Nat×Operand)}:wop P c nt d (.buildSlice t n l.toArray) K fx fx e σ=wfin nt d (wh (zd3 e d) (wU ((elT P t).map (·.1)) n σ (l.map λp=>(p.1,zD e p.2))) (zb0 ((elT P t).map (·.1)) n (l.map λp=>(p.1,zD e p.2)))) K fx e σ:=id rfl
@[go_sem]theorem wop_load:wop P c nt d (.load t x) K fx fx e σ=wfin nt d (zh0 P t σ (zD e x)) K fx e σ:=(yX rfl rfl).trans rfl
@[go_sem]theorem wop_store:wop P c nt d (.store t x y) K fx fx e σ=wfin nt d (zt7 P t σ (zD e x) (zD e y)) K fx e σ:=(yX rfl rfl).trans rfl
@[go_sem]theorem wop_nil:wop P c nt d (.nilCheck x) K fx fx e σ=wfin nt d (zZ0 (zD e x)) K fx e σ:=(yX rfl rfl).trans rfl
@[go_sem]theorem wop_bin:wop P c nt d (.binOp op t x y t') K fx fx e σ=wfin nt d (wh (zg5 y) (zt6 op (eqK P t) (zD e x)) (wh (zf0 y) (zq3 op (zh4 P t) (zD e x)) (zs6 op (eqK P t) (eqS P t) (zD e x) (zD e y)))) K fx e σ:=(yX rfl rfl).trans rfl
@[go_sem]theorem isNilOp_tmp{t:Nat}:zg5 (.tmp t)=false:=rfl
@[go_sem]theorem isNilOp_nil:zg5 (.const (.slice none 0 0))=true:=rfl
@[go_sem]theorem isNilOp_int:zg5 (.const (.int k n))=false:=rfl
@[go_sem]theorem isNilOp_bool:zg5 (.const (.bool b))=false:=rfl
@[go_sem]theorem isNilOp_str{b:ByteArray}:zg5 (.const (.string b))=false:=rfl
@[go_sem]theorem isNilOp_ptr{a:Option Addr}:zg5 (.const (.pointer a))=false:=rfl
@[go_sem]theorem isNilOp_func:zg5 (.func f)=false:=rfl
@[go_sem]theorem isNilOp_map{m:Option Nat}:zg5 (.const (.map m))=false:=rfl
@[go_sem]theorem isNilMap_tmp{t:Nat}:zf0 (.tmp t)=false:=rfl
@[go_sem]theorem isNilMap_nil:zf0 (.const (.map none))=true:=rfl
@[go_sem]theorem isNilMap_int:zf0 (.const (.int k n))=false:=rfl
@[go_sem]theorem isNilMap_bool:zf0 (.const (.bool b))=false:=rfl
@[go_sem]theorem isNilMap_str{b:ByteArray}:zf0 (.const (.string b))=false:=rfl
@[go_sem]theorem isNilMap_ptr{a:Option Addr}:zf0 (.const (.pointer a))=false:=rfl
@[go_sem]theorem isNilMap_func:zf0 (.func f)=false:=rfl
def xX9(l:List (V×St))(A:V->St->Prop)(_:Fx A):Prop:=∀p∈l,A p.1 p.2
@[go_sem]theorem xJ6{l:List (V×St)}:wfin nt d (.any l) K fx e σ=xX9 l (λv s=>wput nt d v K fx e s) fx:=id rfl
theorem xU9{l:List (V×St)}{A:V->St->Prop}(h:∀p∈l,A p.1 p.2):xX9 l A fx:=h
@[go_sem]theorem wop_makeMap{r:Option Operand}:wop P c nt d (.makeMap t r) K fx fx e σ=wfin nt d (zm2 σ (zh4 P t) (r.map (zD e))) K fx e σ:=(yX rfl rfl).trans rfl
@[go_sem]theorem wop_lookup{k:Operand}{ok:Bool}:wop P c nt d (.lookup t x k ok) K fx fx e σ=wfin nt d (xR (mapT P t) σ (zD e x) (zD e k) ok) K fx e σ:=(yX rfl rfl).trans rfl
@[go_sem]theorem wop_mapUpdate{k v:Operand}:wop P c nt d (.mapUpdate t x k v) K fx fx e σ=wfin nt d (xO (mapT P t) σ (zD e x) (zD e k) (zD e v)) K fx e σ:=(yX rfl rfl).trans rfl
@[go_sem]theorem wop_range:wop P c nt d (.range t x) K fx fx e σ=wfin nt d (zx7 (zh4 P t) σ (zD e x)) K fx e σ:=(yX rfl rfl).trans rfl
@[go_sem]theorem wop_next:wop P c nt d (.next x false) K fx fx e σ=wfin nt d (wh (zd3 e d) (zh1 true σ (zD e x)) (zh1 false σ (zD e x))) K fx e σ:=id rfl
@[go_sem]theorem wop_delete{k:Operand}:wop P c nt d (.call ⟨.builtin .delete,#[x,k],#[t,t']⟩) K fx fx e σ=wfin nt d (zq2 (mapT P t) σ (zD e x) (zD e k)) K fx e σ:=(yX rfl rfl).trans rfl
attribute[go_sem] zJ6 zw3 zm2 xR xO zx7 zh1 zq2 zq3 zn1 zj1 zw2 zQ7 zI1
@[go_sem]theorem wop_un{op:UnOp}:wop P c nt d (.unOp op t x) K fx fx e σ=wfin nt d (evUn op (zD e x)) K fx e σ:=(yX rfl rfl).trans rfl
@[go_sem]theorem wop_conv:wop P c nt d (.convert t t' x) K fx fx e σ=wfin nt d (wh (zd3 e d) (zx5 (kdT P t) (kdT P t') σ (zD e x)) (zD3 (kdT P t) (kdT P t') (zD e x))) K fx e σ:=id rfl
@[go_sem]theorem wop_slice{hi:Option Operand}:wop P c nt d (.slice t x none hi none) K fx fx e σ=wfin nt d (zm9 (arrT P t) (lenT P t) ((elT P t).map (·.1)) (zD e x) none (hi.map (zD e))) K fx e σ:=(yX rfl rfl).trans rfl
@[go_sem]theorem wop_sliceH{lo hi:Operand}:wop P c nt d (.slice t x (some lo) (some hi) none) K fx fx e σ=wfin nt d (zm9 (arrT P t) (lenT P t) ((elT P t).map (·.1)) (zD e x) (some (zD e lo)) (some (zD e hi))) K fx e σ:=(yX rfl rfl).trans rfl
@[go_sem]theorem wop_sliceL{lo:Operand}:wop P c nt d (.slice t x (some lo) none none) K fx fx e σ=wfin nt d (wh (zd3 e d) (zq5 (lenT P t) ((elT P t).map (·.1)) σ (zD e x) (zD e lo)) (zm9 (arrT P t) (lenT P t) ((elT P t).map (·.1)) (zD e x) (some (zD e lo)) none)) K fx e σ:=id rfl
@[go_sem]theorem wop_fieldAddr{f:Nat}:wop P c nt d (.fieldAddr t x f) K fx fx e σ=wfin nt d (ze3 P t (zD e x) f) K fx e σ:=(yX rfl rfl).trans rfl
@[go_sem]theorem wop_field{f:Nat}:wop P c nt d (.field t x f) K fx fx e σ=wfin nt d (zx6 (fldT P t f) (zD e x)) K fx e σ:=(yX rfl rfl).trans rfl
@[go_sem]theorem wop_idxAddr{i:Operand}:wop P c nt d (.indexAddr t x i) K fx fx e σ=wfin nt d (zi1 (slcT P t) (arrT P t) (zD e x) (zD e i)) K fx e σ:=(yX rfl rfl).trans rfl
@[go_sem]theorem wop_idx{i:Operand}:wop P c nt d (.index t x i) K fx fx e σ=wfin nt d (zR1 (zD e x) (zD e i) (strT P t) (arrT P t)) K fx e σ:=(yX rfl rfl).trans rfl
@[go_sem]theorem wop_extract:wop P c nt d (.extract x i) K fx fx e σ=wfin nt d (zm1 (zD e x) i) K fx e σ:=(yX rfl rfl).trans rfl
@[go_sem]theorem wop_func{fn:Fn}{m:List Operand}:wop P c nt d (.makeFunc fn l.toArray m.toArray) K fx fx e σ=wfin nt d (zH3 fn l.length (m.map (zD e))) K fx e σ:=(yX rfl rfl).trans rfl
@[go_sem]theorem wop_make{l m:Operand}:wop P c nt d (.makeSlice t l m) K fx fx e σ=wfin nt d (wh (zd3 e d) (zt5 (elT P t) (zelT P t) σ (zD e l) (zD e m)) (zD5 (elT P t) (zelT P t) σ (zD e l) (zD e m))) K fx e σ:=id rfl
@[go_sem]theorem wop_len:wop P c nt d (.call ⟨.builtin .len,#[x],#[t]⟩) K fx fx e σ=wfin nt d (zY9 (lenT P t) (zD e x)) K fx e σ:=(yX rfl rfl).trans rfl
@[go_sem]theorem wop_clear:wop P c nt d (.call ⟨.builtin .clear,#[x],#[t]⟩) K fx fx e σ=wfin nt d (zt4 ((elT P t).map (·.1)) (zelT P t) σ (zD e x)) K fx e σ:=(yX rfl rfl).trans rfl
@[go_sem]theorem wop_append:wop P c nt d (.call ⟨.builtin .append,#[x,y],#[t,t']⟩) K fx fx e σ=wfin nt d (wh (zd3 e d) (ze0 (elT P t) (lenT P t') σ (zD e x) (zD e y)) (zg9 (elT P t) (lenT P t') σ (zD e x) (zD e y))) K fx e σ:=id rfl
@[go_sem]theorem wop_min:wop P c nt d (.call ⟨.builtin .min,l.toArray,ts⟩) K fx fx e σ=wfin nt d (zA6 false (l.map (zD e))) K fx e σ:=(yX rfl rfl).trans rfl
@[go_sem]theorem wop_max:wop P c nt d (.call ⟨.builtin .max,l.toArray,ts⟩) K fx fx e σ=wfin nt d (zA6 true (l.map (zD e))) K fx e σ:=(yX rfl rfl).trans rfl
@[go_sem]theorem wop_call{f:Operand}:wop P c nt d (.call ⟨.value f,l.toArray,ts⟩) K fx fx e σ=wVC P c (zD e f) (l.map (zD e)) σ (xK2 nt d K fx e) fx:=id rfl
@[go_sem]theorem evalV_tmp{t:Nat}:zD e (.tmp t)=e t:=rfl
@[go_sem]theorem evalV_const{v:Value}:zD e (.const v)=zc1 v:=rfl
@[go_sem]theorem evalV_glob{g:Nat}:zD e (.global g)=xW6 g:=rfl
@[go_sem]theorem evalV_func:zD e (.func f)=.fn f []:=rfl
@[go_sem]theorem upd_get{t':Nat}{v:V}{t:Nat}:upd e t' v t=if t=t' then v else e t:=rfl
@[go_sem]theorem ofVal_bool:zc1 (.bool b)=.bool b:=rfl
@[go_sem]theorem ofVal_int:zc1 (.int k n)=.int k n:=rfl
@[go_sem]theorem ofVal_str{s:ByteArray}:zc1 (.string s)=.str s.data.toList:=rfl
@[go_sem]theorem ofVal_nilp:zc1 (.pointer none)=.nilp:=rfl
@[go_sem]theorem ofVal_nils:zc1 (.slice none 0 0)=.sl .full []:=rfl
attribute[go_sem] zq5 zt6 yN4 lenV zH4 zZ0 evUn zD3 zx5 zA6 zY9 zR0 zl1 zm1 zx6 ze3 zh0 zl2 zt7 wY xI zR1 zi1 zm9 zq4 bnd zg9 ze0 zF3 zn8 xX4 zt4 zb0 wU zt5 zn0 zx4 yw3 zD5 zH3 isK zy4 dem zG4 zN6 envA envK
@[go_sem]theorem evBin_int{x y:Int}:zs6 op ek es (.int k x) (.int k y)=zO4 op k x y:=by simp[zs6]
@[go_sem]theorem evBin_str{x y:List UInt8}:zs6 op ek es (.str x) (.str y)=zP8 op x y:=rfl
@[go_sem]theorem evBin_bool{x y:Bool}:zs6 op 1 es (.bool x) (.bool y)=(match op with|.eql=>.ok (.bool (x==y))|.neq=>.ok (.bool (!(x==y)))|_=>.fail):=rfl
@[go_sem]theorem evBin_ptr{o:Nat}:zs6 op 2 es (.ptr i o) .nilp=(match op with|.eql=>.ok (.bool false)|.neq=>.ok (.bool true)|_=>.fail):=rfl
@[go_sem]theorem evBin_nil:zs6 op 2 es .nilp .nilp=(match op with|.eql=>.ok (.bool true)|.neq=>.ok (.bool false)|_=>.fail):=rfl
@[go_sem]theorem evBin_agg{ks:List Pk}{az bs:List V}:zs6 op ek (some ks) (.agg az) (.agg bs)=(match eqVs ks az bs with|some r=>(match op with|.eql=>.ok (.bool r)|.neq=>.ok (.bool (!r))|_=>.fail)|none=>.fail):=rfl
attribute[go_sem] zO4 zP8 eqVs eqPk putCells
end
def noK:V->Bool |.ptr _ _|.sl (.app _) _|.agg _|.tup _|.fn _ _|.lsv _ _ _ _ _|.lsp _ _ _ _ _|.bsv _ _ _ _|.mp _|.ifc _ _=>false|_=>true
def noC:V->Bool|.fn _ caps=>caps.all noK|.ifc _ vs=>vs.all noK|v=>noK v
def noA:V->Bool|.agg cs=>cs.all noC|v=>noC v
def noS:V->Bool|.tup vs=>vs.all noA|v=>noA v
def ltK(n:Nat):V->Bool |.ptr id _=>decide (id<n)|.sl (.app id) _=>decide (id<n)|.lsv id _ _ _ _=>decide (id<n)|.lsp id _ _ _ _=>decide (id<n)|.bsv id _ _ _=>decide (id<n)|.mp id=>decide (id<n)|.agg _|.tup _|.fn _ _|.ifc _ _=>false|_=>true
def ltC(n:Nat):V->Bool |.fn _ caps=>caps.all (ltK n)|.ifc _ vs=>vs.all (ltK n)|v=>ltK n v
def ltA(n:Nat):V->Bool |.agg cs=>cs.all (ltC n)|v=>ltC n v
def ltS(n:Nat):V->Bool |.tup vs=>vs.all (ltA n)|v=>ltA n v
def ltOb(n:Nat):Ob->Bool |.box cells=>cells.all (ltC n)|.lst rows _=>rows.all λr=>r.all (ltC n)|.mp kvs _ _=>kvs.all (ltA n)|.it m _ _ _=>(match m with|some id=>decide (id<n)|none=>true)|_=>true
theorem xX{α:Type}{f:α->α}{p:α->Bool}(h:∀a,p a=true->f a=a):∀{l:List α},l.all p=true->l.map f=l
 |[],_=>rfl|a::l,q=>by simp only[Ar,A6]at q;rw[Aj,h a q.1,xX h q.2]
section
variable {ρ:Nat->Nat}
theorem xi1{v:V}(h:noK v=true):renK ρ v=v:=by cases v with
 |sl g rows=>cases g<;>first|rfl|simp[noK]at h
 |_=>first|rfl|simp[noK]at h
theorem zF0{v:V}(h:noC v=true):renC ρ v=v:=by cases v with
 |fn f caps=>simp only[renC];rw[xX (λ_=>xi1) h]|ifc t v=>simp only[renC];rw[xX (λ_=>xi1) h]|sl g rows=>cases g<;>first|rfl|simp[noC,noK]at h
 |_=>first|rfl|simp[noC,noK]at h
theorem yD0{v:V}(h:noA v=true):renA ρ v=v:=by cases v with
 |agg cs=>simp only[renA];rw[xX (λ_=>zF0) h]|fn f caps=>exact zF0 (v:=.fn f caps) h|ifc t v=>exact zF0 (v:=.ifc t v) h|sl g rows=>cases g<;>first|rfl|simp[noA,noC,noK]at h
 |_=>first|rfl|simp[noA,noC,noK]at h
theorem zy9{v:V}(h:noS v=true):renS ρ v=v:=by cases v with
 |tup vs=>simp only[renS];rw[xX (λ_=>yD0) h]|agg cs=>exact yD0 (v:=.agg cs) h|fn f caps=>exact zF0 (v:=.fn f caps) h|ifc t v=>exact zF0 (v:=.ifc t v) h|sl g rows=>cases g<;>first|rfl|simp[noS,noA,noC,noK]at h
 |_=>first|rfl|simp[noS,noA,noC,noK]at h
variable{n:Nat}(hρ:∀i,i<n->ρ i=i)
include hρ
theorem zy7{v:V}(h:ltK n v=true):renK ρ v=v:=by cases v with
 |sl g rows=>cases g with|app id=>simp only[ltK,decide_eq_true_eq]at h;simp only[renK,hρ id h]|_=>rfl
 |ptr id off=>simp only[ltK,decide_eq_true_eq]at h;simp only[renK,hρ id h]|lsv id s n lo m=>simp only[ltK,decide_eq_true_eq]at h;simp only[renK,hρ id h]|lsp id s n k j=>simp only[ltK,decide_eq_true_eq]at h;simp only[renK,hρ id h]|bsv id s off n=>simp only[ltK,decide_eq_true_eq]at h;simp only[renK,hρ id h]|mp id=>simp only[ltK,decide_eq_true_eq]at h;simp only[renK,hρ id h]|_=>first|rfl|simp[ltK]at h
theorem zc0{v:V}(h:ltC n v=true):renC ρ v=v:=by cases v with |fn f caps=>simp only[renC];rw[xX (λ_=>zy7 hρ) h]|ifc t v=>simp only[renC];rw[xX (λ_=>zy7 hρ) h]|sl g rows=>have:=zy7 hρ (v:=.sl g rows) h;cases g<;>exact this|ptr id off=>exact zy7 hρ (v:=.ptr id off) h|lsv id s' n' lo m=>exact zy7 hρ (v:=.lsv id s' n' lo m) h|lsp id s' n' k j=>exact zy7 hρ (v:=.lsp id s' n' k j) h|bsv id s' off n'=>exact zy7 hρ (v:=.bsv id s' off n') h|mp id=>exact zy7 hρ (v:=.mp id) h|_=>first|rfl|simp[ltC,ltK]at h
theorem yc5{v:V}(h:ltA n v=true):renA ρ v=v:=by cases v with |agg cs=>simp only[renA];rw[xX (λ_=>zc0 hρ) h]|fn f caps=>exact zc0 hρ (v:=.fn f caps) h|ifc t v=>exact zc0 hρ (v:=.ifc t v) h|sl g rows=>have:=zc0 hρ (v:=.sl g rows) h;cases g<;>exact this|ptr id off=>exact zc0 hρ (v:=.ptr id off) h|lsv id s' n' lo m=>exact zc0 hρ (v:=.lsv id s' n' lo m) h|lsp id s' n' k j=>exact zc0 hρ (v:=.lsp id s' n' k j) h|bsv id s' off n'=>exact zc0 hρ (v:=.bsv id s' off n') h|mp id=>exact zc0 hρ (v:=.mp id) h|_=>first|rfl|simp[ltA,ltC,ltK]at h
theorem yD1{v:V}(h:ltS n v=true):renS ρ v=v:=by cases v with |tup vs=>simp only[renS];rw[xX (λ_=>yc5 hρ) h]|agg cs=>exact yc5 hρ (v:=.agg cs) h|fn f caps=>exact zc0 hρ (v:=.fn f caps) h|ifc t v=>exact zc0 hρ (v:=.ifc t v) h|sl g rows=>have:=yc5 hρ (v:=.sl g rows) h;cases g<;>exact this|ptr id off=>exact zc0 hρ (v:=.ptr id off) h|lsv id s' n' lo m=>exact zc0 hρ (v:=.lsv id s' n' lo m) h|lsp id s' n' k j=>exact zc0 hρ (v:=.lsp id s' n' k j) h|bsv id s' off n'=>exact zc0 hρ (v:=.bsv id s' off n') h|mp id=>exact zc0 hρ (v:=.mp id) h|_=>first|rfl|simp[ltS,ltA,ltC,ltK]at h
theorem xT{o:Ob}(h:ltOb n o=true):yF ρ o=o:=by cases o with
 |box cells=>simp only[yF];rw[xX (λ_=>zc0 hρ) h]|lst rows s=>simp only[yF];rw[xX (λ_ q=>xX (λ_=>zc0 hρ) q) h]|mp kvs borns clk=>simp only[yF];rw[xX (λ_=>yc5 hρ) h]|it m since seen last=>cases m with |none=>rfl|some id=>simp only[ltOb,decide_eq_true_eq]at h;simp only[yF,B8,hρ id h]
 |_=>rfl
end
theorem zb2{n N i:Nat}(h:i<n):ren (List.range n) N i=i:=by rw[wM (by simpa using h)];simp
theorem yu4{n0:Nat}{s loc:St}(hok:s.all (ltOb s.length)=true)(hn:n0<=s.length):Picks n0 (List.range s.length) (s++loc) s:=by
 refine⟨sm,Bm,λi j o hi ho=>?_,λi hi=>?_⟩
 .obtain⟨hl,hj⟩:=A3.1 hi;simp at hj hl;subst hj;have:ltOb s.length o=true:=by rw[Af]at hok;exact hok o (Aq.2 ⟨i,ho⟩)
  rw[xT (λk hk=>zb2 hk) this,Ah hl];exact ho
 .rw[C4 om]
theorem zC{ρ:Nat->Nat}{v:V}(h:noS v=true):argS ρ v v:=.inl (zy9 h).symm
theorem zK{ρ:Nat->Nat}{g:Tag}{rows:List (List V)}:argS ρ (.sl .ro rows) (.sl g rows):=.inr (.inr (.inl ⟨g,rows,rfl,rfl⟩))
theorem zg2{n N:Nat}{v:V}(h:ltS n v=true):argS (ren (List.range n) N) v v:=.inl (yD1 (λ_ hk=>zb2 hk) h).symm
theorem yC{ρ:Nat->Nat}:∀{l:List V},l.all noS=true->All2 (argS ρ) l l
 |[],_=>trivial|v::l,h=>by simp only[Ar,A6]at h;exact⟨zC h.1,yC h.2⟩
section
variable{P:Program}{c:Ctx}{nt:Nat}{e:Env}{σ:St}{K:KT}{Q:QT}{d:Option Tmp}{R:V->St->Prop}{rs:List ResultVar}{n0:Nat}
def wret(v:Option V)(n0:Nat)(R:V->St->Prop)(σ:St):Prop:=∃x,v=some x/\VRet n0 R x σ
@[go_sem]theorem retQ_ret:retQ P rs n0 R .ret e σ=wret (retV P rs e σ) n0 R σ:=id rfl
@[go_sem]theorem retQ_normal:retQ P rs n0 R .normal e σ=wret (retV P rs e σ) n0 R σ:=id rfl
attribute [go_sem] retV yu8 zP4
theorem wG{v r:V}(hr:argS (ren [] σ.length) r v)(hR:R r []):wret (some v) 0 R σ:=⟨v,rfl,v,σ,[],[],r,.refl _ _,⟨rfl,D9,λi j o h=>by simp at h,λi h=>absurd h (Bc i)⟩,hr,hR⟩
theorem zw8(k:Nat){v r:V}(hk:(σ.take k).length=k)(hok:(σ.take k).all (ltOb k)=true)(hn:n0<=k)(hr:argS (ren (List.range k) σ.length) r v)(hR:R r (σ.take k)):wret (some v) n0 R σ:=by have h1:σ.take k++σ.drop k=σ:=Bf k σ;have hp:=yu4 (n0:=n0) (s:=σ.take k) (loc:=σ.drop k) (by rw[hk];exact hok) (by rw[hk];exact hn);rw[h1,hk]at hp;exact⟨v,rfl,v,σ,_,σ.take k,r,.refl _ _,hp,hr,hR⟩
theorem yl9(id s:Nat)(rows:List (List V)){v:V}(hσ:σ[id]?=some (.lst rows s))(hp:xM rows=true)(h:wret (some (frzS id rows v)) n0 R (zj7 id rows σ)):wret (some v) n0 R σ:=by obtain⟨x,hx,v1,σ1,pick,σ',r,hf,hr⟩:=h;cases hx;exact⟨v,rfl,v1,σ1,pick,σ',r,.step id s rows hσ hp hf,hr⟩
abbrev Pure(P:Program)(f:FuncId)(args:List V)(v:V):Prop:=VCalls P f args [] λr s=>r=v/\s=[]
theorem zJ{f:FuncId}{caps args args':List V}{v:V}{KV:V->St->Prop}(hc:Pure P f args' v)(hb:wB P f=true)(aa:All2 (argS (ren [] σ.length)) args' (args++caps))(hn:noS v=true)(hk:KV v σ):wVC P c (.fn f caps) args σ KV fx:=by
 refine VC.of hc hb [] D9 rfl (λi j o h=>by simp at h) aa ?_;rintro r σ' ⟨rfl,rfl⟩_;rw[zy9 hn];have:xD [] σ []=σ:=by simp[xD,mset]
 rw[this];exact hk
theorem xU5{f:FuncId}{caps args args':List V}{o:Ob}{i:Nat}{KV:V->St->Prop}{R:V->St->Prop}(hc:VCalls P f args' [o] R)(hb:wB P f=true)(ho:σ[i]?=some o)(ab:ltOb 0 o=true)(aa:All2 (argS (ren [i] σ.length)) args' (args++caps))(hk:∀r σ',R r σ'->1<=σ'.length->KV (renS (ren [i] σ.length) r) (xD [i] σ σ')):wVC P c (.fn f caps) args σ KV fx:=by refine VC.of hc hb [i] sm rfl (λk j o' h1 h2=>?_) aa hk;cases k with |zero=>simp at h1 h2;subst h1;subst h2;rw[xT (n:=0) (λ_ h=>absurd h (Bc _)) ab];exact ho|succ k=>simp at h1
end
end Go.Vx
