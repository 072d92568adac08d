/-
  Operations over trees: indexes, slices, lengths, appends, literals, conversions.
  No condition: a library text; nothing of the program is named.
-/
import Derived.Test.YtefbicjgbaaieaaGreatQAA
import Derived.Laws.BytesArg
import Derived.Laws.IdiomStrings
import Derived.Great.BuildSlice
set_option maxHeartbeats 8000000
namespace Go.Vx
open Go
def Yield(P:Program)(c:Ctx)(o:Oper)(a:Act)(w:World)(L:Nat->Nat)(σ:St)(β:List Value)(v:V)(σ':St):Prop:=∃x w' L' β',((execOp a.eval o).run P w=.ok (.value x) w'∨((execOp a.eval o).run P w=.ok .skip w'/\x=undef))/\Mem c w' L' σ' β'/\Le w L w' L'/\Ext σ β σ' β'/\RdS w' L' σ' β' v x
def ROk(r:R)(σ:St)(Y:V->St->Prop):Prop:=match r with |.fail=>True|.ok v=>Y v σ|.need p v=>p->Y v σ|.st v σ'=>Y v σ'|.needst p v σ'=>p->Y v σ'|.all f=>∃b,Y (f b) σ|.any l=>∃p∈l,Y p.1 p.2
section
variable{P:Program}{c:Ctx}{nt:Nat}{e:Env}{σ:St}{a:Act}{w:World}{L:Nat->Nat}{β:List Value}{o:Oper}
variable{dst:Option Tmp}{ty:TypeId}{aft:Array Edge}{g:Option (Nat×Bool)}{t:TypeId}{el:TypeId}
theorem Yield.pure(h:Sim c nt e σ a w L β){v:V}{x:Value}(hr:(execOp a.eval o).run P w=.ok (.value x) w)(r:RdS w L σ β v x):Yield P c o a w L σ β v σ:=⟨x,w,L,β,.inl hr,h.mem,Le.refl _ _,Ext.refl _ _,r⟩
def zH6(b x y:V):R:=match b with |.bool t=>.ok (if t then x else y)|_=>.fail
theorem xM5{pos:String}(x y z:Operand)(h:Sim c nt e σ a w L β):ROk (zH6 (zF e x) (zF e y) (zF e z)) σ (Yield P c ⟨dst,.pick x y z,ty,pos,aft,g⟩ a w L σ β):=by
 have hx:=h.eval x;unfold zH6;split
 .rename_i b hb;rw[hb]at hx;have:=zd8 hx;refine Yield.pure h (x:=if b then a.eval y else a.eval z) (by simp[execOp,this,asBool]) ?_;cases b;.exact h.eval z
  .exact h.eval y
 .trivial
theorem xM4{pos:String}(x:Operand)(h:Sim c nt e σ a w L β):ROk (.ok (zF e x)) σ (Yield P c ⟨dst,.move x,ty,pos,aft,g⟩ a w L σ β):=Yield.pure h (by simp[execOp]) (h.eval x)
theorem xk8{pos:String}(x:Operand)(h:Sim c nt e σ a w L β):ROk (.ok (zF e x)) σ (Yield P c ⟨dst,.assign x,ty,pos,aft,g⟩ a w L σ β):=Yield.pure h (by simp[execOp]) (h.eval x)
def zY4(x:V):R:=match x with |.ptr id off=>.ok (.ptr id off)|.elp cs off=>.ok (.elp cs off)|.lsp id s n k j=>.ok (.lsp id s n k j)|.fn f caps=>.ok (.fn f caps)|_=>.fail
theorem yL3{pos:String}(x:Operand)(h:Sim c nt e σ a w L β):ROk (zY4 (zF e x)) σ (Yield P c ⟨dst,.nilCheck x,ty,pos,aft,g⟩ a w L σ β):=by
 have hx:=h.eval x;unfold zY4;split;.rename_i id off hb;rw[hb]at hx;obtain⟨b,_,hv⟩:=hx;exact Yield.pure h (x:=a.eval x) (by simp[execOp,hv]) (hb▸h.eval x)
 .rename_i cs off hb;rw[hb]at hx;obtain⟨b,o,_,hv,_⟩:=hx;exact Yield.pure h (x:=a.eval x) (by simp[execOp,hv]) (hb▸h.eval x)
 .rename_i id s n k j hb;rw[hb]at hx;obtain⟨b,o,hv,_⟩:=hx;exact Yield.pure h (x:=a.eval x) (by simp[execOp,hv]) (hb▸h.eval x)
 .rename_i f caps hb;rw[hb]at hx;obtain⟨xs,hv,_⟩:=hx;exact Yield.pure h (x:=a.eval x) (by simp[execOp,hv]) (hb▸h.eval x)
 .trivial
def zf5(op:BinOp)(k:IntKind)(x y:Int):Int:=match op with |.and=>k.wrap (BitVec.ofInt k.bits x&&&BitVec.ofInt k.bits y).toNat|.or=>k.wrap (BitVec.ofInt k.bits x|||BitVec.ofInt k.bits y).toNat|.xor=>k.wrap (BitVec.ofInt k.bits x^^^BitVec.ofInt k.bits y).toNat|_=>k.wrap (BitVec.ofInt k.bits x&&&~~~BitVec.ofInt k.bits y).toNat
def zO3(op:BinOp)(k:IntKind)(x y:Int):R:=match op with |.add=>.ok (.int k (k.wrap (x+y)))|.sub=>.ok (.int k (k.wrap (x-y)))|.mul=>.ok (.int k (k.wrap (x*y)))|.quo=>.need (y≠0) (.int k (k.wrap (x.tdiv y)))|.rem=>.need (y≠0) (.int k (x.tmod y))|.and=>.ok (.int k (zf5 .and k x y))|.or=>.ok (.int k (zf5 .or k x y))|.xor=>.ok (.int k (zf5 .xor k x y))|.andNot=>.ok (.int k (zf5 .andNot k x y))|.eql=>.ok (.bool (x==y))|.neq=>.ok (.bool (x !=y))|.lss=>.ok (.bool (decide (x<y)))|.leq=>.ok (.bool (decide (x<=y)))|.gtr=>.ok (.bool (decide (x>y)))|.geq=>.ok (.bool (decide (x≥y)))|.shl=>.need (0<=y) (.int k (k.wrap (x*2^(min y.toNat k.bits))))|.shr=>.need (0<=y) (.int k (x.fdiv (2^(min y.toNat k.bits))))
def zP7(op:BinOp)(x y:List UInt8):R:=match op with |.add=>.need (x.length+y.length<=9223372036854775807) (.str (x++y))|.eql=>.ok (.bool (x==y))|.neq=>.ok (.bool (!(x==y)))|.lss=>.ok (.bool (Op.bytesLess x y))|.leq=>.ok (.bool (Op.bytesLess x y||x==y))|.gtr=>.ok (.bool (!(Op.bytesLess x y||x==y)))|.geq=>.ok (.bool (!(Op.bytesLess x y)))|_=>.fail
def eqK(P:Program)(t:TypeId):Nat:=match P.underlying t with |some .bool=>1|some (.pointer _)=>2|some (.slice _)=>3|_=>0
def yK8(op:BinOp)(n:Nat):R:=match op with |.eql=>if 0<n then .ok (.bool false)else .all .bool|.neq=>if 0<n then .ok (.bool true)else .all λb=>.bool (!b)|_=>.fail
def lenV:V->Option Nat |.sl _ rows=>some rows.length|.lsv _ _ _ _ m=>some m|_=>none
def zt5(op:BinOp)(ek:Nat)(es:Option (List Pk))(x y:V):R:=match x,y with |.int k a,.int k' b=>if k=k' then zO3 op k a b else(match op with|.shl=>.need (0<=b) (.int k (k.wrap (a*2^(min b.toNat k.bits))))|.shr=>.need (0<=b) (.int k (a.fdiv (2^(min b.toNat k.bits))))|_=>.fail)|.str a,.str b=>zP7 op a b|.bool a,.bool b=>if ek=1then(match op with|.eql=>.ok (.bool (a==b))|.neq=>.ok (.bool (!(a==b)))|_=>.fail)else .fail|.ptr _ _,.nilp=>if ek=2then(match op with|.eql=>.ok (.bool false)|.neq=>.ok (.bool true)|_=>.fail)else .fail|.nilp,.nilp=>if ek=2then(match op with|.eql=>.ok (.bool true)|.neq=>.ok (.bool false)|_=>.fail)else .fail|.agg az,.agg bs=>(match es.bind λks=>eqVs ks az bs with |some r=>(match op with|.eql=>.ok (.bool r)|.neq=>.ok (.bool (!r))|_=>.fail)|none=>.fail)|_,_=>.fail
def zu3(op:BinOp)(ek:Nat)(x:V):R:=if ek=3then(match lenV x with|some n=>yK8 op n|none=>.fail)else .fail
def zh8:Operand->Bool |.const (.slice none 0 0)=>true|_=>false
theorem zu7{k k':IntKind}{x y:Int}(op:BinOp)(aa:op=.shl∨op=.shr)(hy:0<=y)(w:World):(Op.shift op k x k' y).run P w=.ok (.int k (if op=.shl then k.wrap (x*2^(min y.toNat k.bits))else x.fdiv (2^(min y.toNat k.bits)))) w:=by have:¬y<0:=om;rcases aa with rfl|rfl<;>simp[Op.shift,this]
theorem xl1{pos:String}(op:BinOp)(t t':TypeId)(x y:Operand)(h:Sim c nt e σ a w L β){k:IntKind}{m n:Int}(hx:a.eval x=.int k m)(hy:a.eval y=.int k n):ROk (zO3 op k m n) σ (Yield P c ⟨dst,.binOp op t x y t',ty,pos,aft,g⟩ a w L σ β):=by
 have run:∀v,(binOp op t (.int k m) (.int k n)).run P w=.ok v w->(execOp a.eval ⟨dst,.binOp op t x y t',ty,pos,aft,g⟩).run P w=.ok (.value v) w:=by intro v hv;cases op<;>simp[execOp,hx,hy,eqGuard,hv]
 cases op;case quo=>exactλhn=>Yield.pure h (run _ (by simp[binOp,Op.intDiv,hn])) (RdP.int _ _)
 case rem=>exactλhn=>Yield.pure h (run _ (by simp[binOp,Op.intDiv,hn])) (RdP.int _ _)
 case shl=>exactλhn=>Yield.pure h (run _ (by simp only[binOp];rw[zu7 .shl (.inl rfl) hn];simp)) (RdP.int _ _)
 case shr=>exactλhn=>Yield.pure h (run _ (by simp only[binOp];rw[zu7 .shr (.inr rfl) hn];simp)) (RdP.int _ _)
 case add=>exact Yield.pure h (run _ (by simp[binOp,Op.intArith])) (RdP.int _ _)
 case sub=>exact Yield.pure h (run _ (by simp[binOp,Op.intArith])) (RdP.int _ _)
 case mul=>exact Yield.pure h (run _ (by simp[binOp,Op.intArith])) (RdP.int _ _)
 case and=>exact Yield.pure h (run _ (by simp only[binOp,Op.intBits,ne_eq,not_true_eq_false,if_false,Sem.run_pure];rfl)) (RdP.int _ _)
 case or=>exact Yield.pure h (run _ (by simp only[binOp,Op.intBits,ne_eq,not_true_eq_false,if_false,Sem.run_pure];rfl)) (RdP.int _ _)
 case xor=>exact Yield.pure h (run _ (by simp only[binOp,Op.intBits,ne_eq,not_true_eq_false,if_false,Sem.run_pure];rfl)) (RdP.int _ _)
 case andNot=>exact Yield.pure h (run _ (by simp only[binOp,Op.intBits,ne_eq,not_true_eq_false,if_false,Sem.run_pure];rfl)) (RdP.int _ _)
 case eql=>exact Yield.pure h (run _ (by simp[binOp,Op.intCmp])) (RdP.bool _)
 case neq=>exact Yield.pure h (run _ (by simp[binOp,Op.intCmp])) (RdP.bool _)
 case lss=>exact Yield.pure h (run _ (by simp[binOp,Op.intCmp])) (RdP.bool _)
 case leq=>exact Yield.pure h (run _ (by simp[binOp,Op.intCmp])) (RdP.bool _)
 case gtr=>exact Yield.pure h (run _ (by simp[binOp,Op.intCmp])) (RdP.bool _)
 case geq=>exact Yield.pure h (run _ (by simp[binOp,Op.intCmp])) (RdP.bool _)
theorem xl6{pos:String}(op:BinOp)(t t':TypeId)(x y:Operand)(h:Sim c nt e σ a w L β){m n:List UInt8}(hx:a.eval x=.string ⟨m.toArray⟩)(hy:a.eval y=.string ⟨n.toArray⟩):ROk (zP7 op m n) σ (Yield P c ⟨dst,.binOp op t x y t',ty,pos,aft,g⟩ a w L σ β):=by
 have run:∀v,(binOp op t (.string ⟨m.toArray⟩) (.string ⟨n.toArray⟩)).run P w=.ok v w->(execOp a.eval ⟨dst,.binOp op t x y t',ty,pos,aft,g⟩).run P w=.ok (.value v) w:=by intro v hv;cases op<;>simp[execOp,hx,hy,eqGuard,hv]
 cases op;case add=>
  intro hn;refine Yield.pure h (run (.string ⟨(m++n).toArray⟩) ?_) (RdP.str _);have hs:¬((m.length:Int)+(n.length:Int)>9223372036854775807):=om;have ab:∀l:List UInt8,(ByteArray.mk l.toArray).size=l.length:=λl=>by simp[ByteArray.size]
  have aa:(ByteArray.mk m.toArray)++(ByteArray.mk n.toArray)=ByteArray.mk (m++n).toArray:=by apply ByteArray.ext;simp
  simp[binOp,Op.stringOp,ab,hs,aa,IntKind.max,IntKind.signed,IntKind.bits]
 case eql=>exact Yield.pure h (run _ (by simp[binOp,Op.stringOp])) (RdP.bool _)
 case neq=>exact Yield.pure h (run _ (by simp[binOp,Op.stringOp])) (RdP.bool _)
 case lss=>exact Yield.pure h (run _ (by simp[binOp,Op.stringOp])) (RdP.bool _)
 case leq=>exact Yield.pure h (run _ (by simp[binOp,Op.stringOp])) (RdP.bool _)
 case gtr=>exact Yield.pure h (run _ (by simp[binOp,Op.stringOp])) (RdP.bool _)
 case geq=>exact Yield.pure h (run _ (by simp[binOp,Op.stringOp])) (RdP.bool _)
 all_goals trivial
theorem eqK1(h:eqK P t=1):P.underlying t=some .bool:=by unfold eqK at h;split at h<;>first|assumption|simp at h
theorem eqK2(h:eqK P t=2):∃el,P.underlying t=some (.pointer el):=by unfold eqK at h;split at h<;>first|exact⟨_,by assumption⟩|simp at h
theorem zW2(hb:P.underlying t=some .bool)(x y:Bool)(w:World)(d:Nat):(Op.equalIn (d+1) t (.bool x) (.bool y)).run P w=.ok (x==y) w:=by simp[Op.equalIn,run_underlying hb]
theorem ya7(hb:P.underlying t=some (.pointer el))(x:Option Addr)(w:World)(d:Nat):(Op.equalIn (d+1) t (.pointer x) (.pointer none)).run P w=.ok x.isNone w:=by cases x<;>simp[Op.equalIn,run_underlying hb]
theorem zJ0(hb:P.underlying t=some .bool)(x y:Bool)(w:World):(Op.equal t (.bool x) (.bool y)).run P w=.ok (x==y) w:=zW2 hb x y w 9999
theorem zq7(hb:P.underlying t=some (.pointer el))(x:Option Addr)(w:World):(Op.equal t (.pointer x) (.pointer none)).run P w=.ok x.isNone w:=ya7 hb x w 9999
theorem xW6{pos:String}(op:BinOp)(t t':TypeId)(x y:Operand)(h:Sim c nt e σ a w L β):ROk (zt5 op (eqK P t) (eqS P t) (zF e x) (zF e y)) σ (Yield P c ⟨dst,.binOp op t x y t',ty,pos,aft,g⟩ a w L σ β):=by
 have hx:=h.eval x;have hy:=h.eval y;unfold zt5;split
 .rename_i k m k' n h1 h2;rw[h1]at hx;rw[h2]at hy;have e1:=yH hx;have e2:=yH hy;by_cases hk:k=k';.subst hk;rw[if_pos rfl];exact xl1 op t t' x y h e1 e2
  .rw[if_neg hk];split;.exactλhn=>Yield.pure h (by simp only[execOp,e1,e2,eqGuard,binOp];simp[zu7 .shl (.inl rfl) hn]) (RdP.int _ _)
   .exactλhn=>Yield.pure h (by simp only[execOp,e1,e2,eqGuard,binOp];simp[zu7 .shr (.inr rfl) hn]) (RdP.int _ _)
   .trivial
 .rename_i m n h1 h2;rw[h1]at hx;rw[h2]at hy;exact xl6 op t t' x y h (wW hx) (wW hy)
 .rename_i m n h1 h2;rw[h1]at hx;rw[h2]at hy;have e1:=zd8 hx;have e2:=zd8 hy;split
  .rename_i hb;have aa:=eqK1 hb;split;.exact Yield.pure h (by simp[execOp,e1,e2,eqGuard,binOp,zJ0 aa]) (RdP.bool _)
   .exact Yield.pure h (by simp[execOp,e1,e2,eqGuard,binOp,zJ0 aa]) (RdP.bool _)
   .trivial
  .trivial
 .rename_i id off h1 h2;rw[h1]at hx;rw[h2]at hy;obtain⟨b,_,e1⟩:=hx;have e2:=yi5 hy;split
  .rename_i hb;obtain⟨el,aa⟩:=eqK2 hb;split;.exact Yield.pure h (x:=.bool false) (by simp[execOp,e1,e2,eqGuard,binOp,zq7 aa]) (RdP.bool _)
   .exact Yield.pure h (x:=.bool true) (by simp[execOp,e1,e2,eqGuard,binOp,zq7 aa]) (RdP.bool _)
   .trivial
  .trivial
 .rename_i h1 h2;rw[h1]at hx;rw[h2]at hy;have e1:=yi5 hx;have e2:=yi5 hy;split
  .rename_i hb;obtain⟨el,aa⟩:=eqK2 hb;split;.exact Yield.pure h (x:=.bool true) (by simp[execOp,e1,e2,eqGuard,binOp,zq7 aa]) (RdP.bool _)
   .exact Yield.pure h (x:=.bool false) (by simp[execOp,e1,e2,eqGuard,binOp,zq7 aa]) (RdP.bool _)
   .trivial
  .trivial
 .rename_i az bs h1 h2;rw[h1]at hx;rw[h2]at hy;obtain⟨xs,e1,r1⟩:=hx;obtain⟨ys,e2,r2⟩:=hy;split;.rename_i r hr;cases ab:eqS P t with |none=>rw[ab]at hr;cases hr|some ks=>
    rw[ab]at hr;simp only[Aw]at hr;have ag:=zU9 ks az bs xs ys r r1 r2 hr;unfold eqS at ab;split at ab
    .rename_i fs hu;split at ab
     .rename_i hg;have ha:aggT P t=some true:=by simp[aggT,hu,yS5]
      have o1:∀z∈xs,z.oneCell'=true:=λz hz=>by obtain⟨i,hi⟩:=Ax.1 hz;have hl:=r1.length;obtain⟨y,ad,rr⟩:=r1.get i (az[i]'(by rw[hl];exact(A1.1 hi).1)) (A0 _);rw[hi]at ad;cases ad;exact rr.oneCell
      have o2:∀z∈ys,z.oneCell'=true:=λz hz=>by obtain⟨i,hi⟩:=Ax.1 hz;have hl:=r2.length;obtain⟨y,ad,rr⟩:=r2.get i (bs[i]'(by rw[hl];exact(A1.1 hi).1)) (A0 _);rw[hi]at ad;cases ad;exact rr.oneCell
      have ae:∀z:List Value,zv9 P t (.agg z.toArray):=λz=>by unfold zv9;rw[if_pos ha];exact⟨_,rfl⟩
      have af:=zI9 10 t ks ab 10000 om (.agg xs.toArray) (.agg ys.toArray) r (ae _) (ae _) (by simpa[Value.cells]using o1) (by simpa[Value.cells]using o2) (by simpa[Value.cells]using ag) w;split;.exact Yield.pure h (x:=.bool r) (by simp only[execOp,e1,e2,Sem.run_bind,run_eqGuard_agg (P:=P) (w:=w) _ t x y _ _ hg,Result.andThen_ok,run_eql_struct (P:=P) (w:=w) t,af];simp) (RdP.bool _)
      .exact Yield.pure h (x:=.bool (!r)) (by simp only[execOp,e1,e2,Sem.run_bind,run_eqGuard_agg (P:=P) (w:=w) _ t x y _ _ hg,Result.andThen_ok,run_neq_struct (P:=P) (w:=w) t,af];simp) (RdP.bool _)
      .trivial
     .cases ab
    .cases ab
  .trivial
 .trivial
theorem eqK3(h:eqK P t=3):∃el,P.underlying t=some (.slice el):=by unfold eqK at h;split at h<;>first|exact⟨_,by assumption⟩|simp at h
theorem yy7{y:Operand}(h:zh8 y=true):y=.const (.slice none 0 0):=by
 unfold zh8 at h;split at h;.rfl
 .cases h
theorem zm2(hb:P.underlying t=some (.slice el))(a:Option Addr)(n cap:Nat)(w:World):(Op.equal t (.slice a n cap) (.slice none 0 0)).run P w=.ok a.isNone w:=by
 have key:∀d,(Op.equalIn (d+1) t (.slice a n cap) (.slice none 0 0)).run P w=.ok a.isNone w:=λd=>by cases a<;>simp[Op.equalIn,run_underlying hb]
 exact key 9999
theorem xy9{pos:String}(op:BinOp)(t t':TypeId)(x y:Operand)(hy:zh8 y=true)(h:Sim c nt e σ a w L β):ROk (zu3 op (eqK P t) (zF e x)) σ (Yield P c ⟨dst,.binOp op t x y t',ty,pos,aft,g⟩ a w L σ β):=by
 have hx:=h.eval x;have hy:=yy7 hy;subst hy;unfold zu3;split
 .rename_i hk;obtain⟨el,hu⟩:=eqK3 hk;split
  .rename_i n hn;have hv:∃ad cap,a.eval x=.slice ad n cap/\(0<n->ad.isNone=false):=by
    unfold lenV at hn;split at hn;.rename_i gg rows h1;rw[h1]at hx;cases hn;have hr:=zw7 hx;clear hx;revert hr;generalize a.eval x=z;intro hr;cases hr with |sl0 _ ad cap hg ha=>exact⟨ad,cap,rfl,λq=>by simp at q⟩|sl _ _ s b o cap c ha hs hlen hlim hcap hg hc hr=>exact⟨_,cap,rfl,λ_=>rfl⟩
    .rename_i id s n' lo m h1;rw[h1]at hx;cases hn;obtain⟨ad,cap,hv,ab,aa,_⟩:=hx;exact⟨ad,cap,hv,λq=>by obtain⟨b,o,rfl⟩:=aa (by have:=ab.1;omega);rfl⟩
    .cases hn
   obtain⟨ad,cap,hv,hz⟩:=hv;have hc:a.eval (.const (.slice none 0 0))=.slice none 0 0:=rfl;unfold yK8;split
   .split;.rename_i h0;exact Yield.pure h (x:=.bool false) (by simp[execOp,hv,hc,eqGuard,binOp,zm2 hu,hz h0]) (RdP.bool _)
    .exact⟨ad.isNone,Yield.pure h (x:=.bool ad.isNone) (by simp[execOp,hv,hc,eqGuard,binOp,zm2 hu]) (RdP.bool _)⟩
   .split;.rename_i h0;exact Yield.pure h (x:=.bool true) (by simp[execOp,hv,hc,eqGuard,binOp,zm2 hu,hz h0]) (RdP.bool _)
    .exact⟨ad.isNone,Yield.pure h (x:=.bool (!ad.isNone)) (by simp[execOp,hv,hc,eqGuard,binOp,zm2 hu]) (RdP.bool _)⟩
   .trivial
  .trivial
 .trivial
def evUn(op:UnOp)(x:V):R:=match op,x with |.not,.bool b=>.ok (.bool (!b))|.neg,.int k n=>.ok (.int k (k.wrap (0-n)))|.xor,.int k n=>.ok (.int k (zf5 .xor k (if k.signed then-1 else k.max) n))|_,_=>.fail
theorem wb6{pos:String}(op:UnOp)(t:TypeId)(x:Operand)(h:Sim c nt e σ a w L β):ROk (evUn op (zF e x)) σ (Yield P c ⟨dst,.unOp op t x,ty,pos,aft,g⟩ a w L σ β):=by
 have hx:=h.eval x;unfold evUn;split;.rename_i b h1;rw[h1]at hx;exact Yield.pure h (x:=.bool (!b)) (by simp[execOp,zd8 hx,Op.unary]) (RdP.bool _)
 .rename_i k n h1;rw[h1]at hx;exact Yield.pure h (x:=.int k (k.wrap (0-n))) (by simp only[execOp,yH hx,Op.unary,Op.intArith,Sem.run_bind,Sem.run_pure,Result.andThen_ok]) (RdP.int _ _)
 .rename_i k n h1;rw[h1]at hx;exact Yield.pure h (x:=.int k (zf5 .xor k (if k.signed then-1 else k.max) n)) (by simp only[execOp,yH hx,Op.unary,Op.intBits,Sem.run_bind,Sem.run_pure,Result.andThen_ok];rfl) (RdP.int _ _)
 .trivial
def zn0(x:V)(i:Nat):R:=match x with |.tup vs=>(match vs[i]?with|some v=>.ok v|none=>.fail)|_=>.fail
theorem yT9{pos:String}(x:Operand)(i:Nat)(h:Sim c nt e σ a w L β):ROk (zn0 (zF e x) i) σ (Yield P c ⟨dst,.extract x i,ty,pos,aft,g⟩ a w L σ β):=by
 have hx:=h.eval x;unfold zn0;split
 .rename_i vs h1;rw[h1]at hx;obtain⟨xs,hv,aa⟩:=hx;split;.rename_i v ab;obtain⟨y,hy,r⟩:=aa.get _ _ ab;exact Yield.pure h (x:=y) (by simp[execOp,hv,Instr.extract,hy]) (RdS.of_a r)
  .trivial
 .trivial
def zf6(P:Program)(t:TypeId)(x:V)(f:Nat):R:=match fldT P t f,x with |some (off,_,_),.ptr id o=>.ok (.ptr id (o+off))|some (off,_,_),.elp cs o=>.ok (.elp cs (o+off))|some (off,_,_),.lsp id s n k j=>.ok (.lsp id s n k (j+off))|_,_=>.fail
theorem zV2{f off s:Nat}{b:Bool}(h:fldT P t f=some (off,s,b)):∃fs fd,P.underlying t=some (.struct fs)/\fs[f]?=some fd/\fd.offset=off/\szT P fd.type=some s/\aggT P fd.type=some b/\s≠0:=by
 unfold fldT at h;split at h;.rename_i fs hu;cases hf:fs[f]?with |none=>simp[hf]at h|some fd=>simp only[hf,Aw]at h;cases hs:szT P fd.type with |none=>simp[hs]at h|some s'=>simp only[hs,Aw]at h;cases hb:aggT P fd.type with |none=>simp[hb]at h|some b'=>
     simp only[hb,Aw]at h;by_cases h0:s'=0;.simp[h0]at h
     .simp[h0]at h;obtain⟨rfl,rfl,rfl⟩:=h;exact⟨fs,fd,hu,hf,rfl,hs,hb,h0⟩
 .simp at h
theorem yz8{pos:String}(t:TypeId)(x:Operand)(f:Nat)(h:Sim c nt e σ a w L β):ROk (zf6 P t (zF e x) f) σ (Yield P c ⟨dst,.fieldAddr t x f,ty,pos,aft,g⟩ a w L σ β):=by
 have hx:=h.eval x;have run:∀{off s:Nat}{b:Bool}{bl o:Nat},fldT P t f=some (off,s,b)->a.eval x=.pointer (some ⟨bl,o,none⟩)->(execOp a.eval ⟨dst,.fieldAddr t x f,ty,pos,aft,g⟩).run P w=.ok (.value (.pointer (some ⟨bl,o+off,none⟩))) w:=by intro off s b bl o hf hv;obtain⟨fs,fd,hu,aa,rfl,hs,hb,h0⟩:=zV2 hf;simp[execOp,hv,Instr.fieldAt,run_underlying hu,aa,Instr.sureAddr,fieldPlace,za0 hs,h0,wE]
 unfold zf6;split;.rename_i off s b id o hf h1;rw[h1]at hx;obtain⟨bl,hb,hv⟩:=hx;exact Yield.pure h (run hf hv) ⟨bl,hb,rfl⟩
 .rename_i off s b cs o hf h1;rw[h1]at hx;obtain⟨bl,o',c',hv,hl,hc⟩:=hx;exact Yield.pure h (run hf hv) ⟨bl,o',c',by rw[By],hl,hc⟩
 .rename_i off s b id s' n k j hf h1;rw[h1]at hx;obtain⟨bl,o',hv,hc⟩:=hx;refine Yield.pure h (run hf hv) ⟨bl,o'+off,rfl,?_⟩;rcases hc with hd|⟨rows,hσ,hn,hb⟩;.exact .inl hd
  .refine .inr ⟨rows,hσ,hn,λq1 q2=>?_⟩;obtain⟨c0,h2,h3⟩:=hb q1 q2;exact⟨c0,h2,by rw[h3,By]⟩
 .trivial
end
section
variable{P:Program}{c:Ctx}{nt:Nat}{e:Env}{σ:St}{a:Act}{w:World}{L:Nat->Nat}{β:List Value}{o:Oper}
variable{t:TypeId}{off:Nat}{dst:Option Tmp}{ty:TypeId}{aft:Array Edge}{g:Option (Nat×Bool)}{bl:Nat}{cs:List V}
def zm1(ag:Option Bool)(sz:Option Nat)(cs:List V)(off:Nat):R:=match ag,sz with |some true,some s=>if off+s<=cs.length then .ok (.agg ((cs.drop off).take s))else .fail|some false,_=>(match cs[off]?with|some v=>.ok v|none=>.fail)|_,_=>.fail
def zi4(P:Program)(t:TypeId)(σ:St)(x:V):R:=match x with |.ptr id off=>(match σ[id]?with|some (.box cs)=>zm1 (aggT P t) (szT P t) cs off|_=>.fail)|.elp cs off=>zm1 (aggT P t) (szT P t) cs off|.lsp id s n k j=>(match σ[id]?with|some (.lst rows s')=>if s'=s/\rows.length=n/\k<n then zm1 (aggT P t) (szT P t) (rows.getD k []) j else .fail|_=>.fail)|_=>.fail
theorem zS4{s:Nat}{xs:List Value}(aa:aggT P t=some true)(ab:szT P t=some s)(hl:xs.length=s)(hx:∀(j:Nat) v,xs[j]?=some v->w.cell? ⟨bl,off+j,none⟩=some v):(loadVar t ⟨bl,off,none⟩).run P w=.ok (.agg xs.toArray) w:=by have:=run_loadCells_list (P:=P) w ⟨bl,off,none⟩ xs (λj v hj=>by rw[wE];exact hx j v hj);rw[hl]at this;simp only[loadVar,Sem.run_bind,zl5 aa,Result.andThen_ok,if_true,za0 ab,this,Sem.run_pure]
theorem zW3{v:Value}(aa:aggT P t=some false)(hx:w.cell? ⟨bl,off,none⟩=some v):(loadVar t ⟨bl,off,none⟩).run P w=.ok v w:=by simp only[loadVar,Sem.run_bind,zl5 aa,Result.andThen_ok,Bj,if_false];simp[hx]
theorem zV9(t:TypeId){o:Nat}{v:V}(hc:∀(j:Nat) v,cs[j]?=some v->∃y,w.cell? ⟨bl,o+j,none⟩=some y/\RdC w L σ β v y)(hl:zm1 (aggT P t) (szT P t) cs off=.ok v):∃y,(loadVar t ⟨bl,o+off,none⟩).run P w=.ok y w/\RdS w L σ β v y:=by
 unfold zm1 at hl;split at hl
 .rename_i s aa ad;split at hl
  .rename_i hle;simp only[R.ok.injEq]at hl;subst hl;let f:=λk=>(w.cell? ⟨bl,o+(off+k),none⟩).getD undef;let xs:=(List.range s).map f;have ab:∀(j:Nat) v,xs[j]?=some v->w.cell? ⟨bl,o+off+j,none⟩=some v/\∃p,cs[off+j]?=some p/\RdC w L σ β p v:=by
    intro j v hj;have ae:j<s:=by have:=(A1.1 hj).1;simpa[xs]using this
    simp only[xs,B0,Co ae,B9,Option.some.injEq]at hj;obtain⟨y,hy,r⟩:=hc (off+j) _ (A0 om);have af:y=v:=by rw[<-hj];simp[f,hy]
    subst af;exact⟨by rw[By];exact hy,_,A0 om,r⟩
   refine⟨.agg xs.toArray,zS4 (P:=P) (w:=w) (xs:=xs) aa ad (by simp[xs]) (λj v hj=>(ab j v hj).1),xs,rfl,All2.of (by simp[xs];omega) λj p v hu hj=>?_⟩;obtain⟨_,p',ag,r⟩:=ab j v hj;rw[Ae,B5]at hu;split at hu;.rw[ag]at hu;cases hu;exact r
   .cases hu
  .cases hl
 .rename_i aa;split at hl;.rename_i v' ah;simp only[R.ok.injEq]at hl;subst hl;obtain⟨y,hy,r⟩:=hc off _ ah;exact⟨y,zW3 (P:=P) aa hy,RdS.of_cell r⟩
  .cases hl
 .cases hl
theorem zD7{ag:Option Bool}{sz:Option Nat}:(∃v,zm1 ag sz cs off=.ok v)∨zm1 ag sz cs off=.fail:=by
 unfold zm1;split
 .split;.exact .inl ⟨_,rfl⟩
  .exact .inr rfl
 .split;.exact .inl ⟨_,rfl⟩
  .exact .inr rfl
 .exact .inr rfl
theorem yJ7(t:TypeId){x:V}{y:Value}{v:V}(hm:Mem c w L σ β)(hx:RdS w L σ β x y)(hl:zi4 P t σ x=.ok v):∃bl off z,y=.pointer (some ⟨bl,off,none⟩)/\(loadVar t ⟨bl,off,none⟩).run P w=.ok z w/\RdS w L σ β v z:=by
 unfold zi4 at hl;split at hl
 .rename_i id off;obtain⟨bl,hb,hv⟩:=hx;split at hl;.rename_i cs hσ;obtain⟨b',arr,T,fz,e1,hh,_,_,aa⟩:=hm.objs id _ _ hσ hb;cases e1;obtain⟨z,hz,r⟩:=zV9 (P:=P) (w:=w) (L:=L) (σ:=σ) (β:=β) t (bl:=bl) (o:=0) (λj v hj=>by obtain⟨y,hy,r⟩:=aa.get _ _ hj;refine⟨y,?_,r⟩;simp only[World.cell?,hh];simpa using hy) hl;rw[Ab]at hz;exact⟨bl,off,z,hv,hz,r⟩
  .cases hl
 .rename_i cs off;obtain⟨bl,o',c',hv,hlim,hc⟩:=hx;obtain⟨z,hz,r⟩:=zV9 (P:=P) (w:=w) (L:=L) (σ:=σ) (β:=β) t (bl:=bl) (o:=o') (λj v hj=>by obtain⟨ae,af⟩:=A1.1 hj;obtain⟨h2,h3⟩:=hc j ae;rw[af]at h3;exact⟨_,h2,RdC.of_pure h3⟩) hl;exact⟨bl,o'+off,z,hv,hz,r⟩
 .rename_i id s n k j;obtain⟨bl,o',hv,hc⟩:=hx;split at hl
  .rename_i rows s' hσ;split at hl
   .rename_i ab;obtain⟨rfl,hn,hk⟩:=ab;rcases hc with hd|⟨rows2,ad,ah,hb⟩;.rw[hσ]at hd;cases hd
    .rw[hσ]at ad;cases ad;obtain⟨c0,hβ,ho⟩:=hb hn.symm hk;obtain⟨a,cap,e1,hcap,hs,hu,hok⟩:=hm.objs id _ _ hσ hβ;cases e1;obtain⟨b',arr,T,fz,e2,hh,_,_,_,aa⟩:=hok om;cases e2;have hg:rows.getD k []=rows[k]'om:=by rw[A7,A0 om];rfl
     obtain⟨z,hz,r⟩:=zV9 (P:=P) (w:=w) (L:=L) (σ:=σ) (β:=β) t (bl:=bl) (o:=k*s') (cs:=rows.getD k []) (off:=j) (λi v hi=>by
      have ag:i<s':=by have:=(A1.1 hi).1;rwa[hg,hu _ (A8 _)]at this
      have hf:rows.flatten[k*s'+i]?=some v:=by rw[yK _ _ hu ag,A0 om,<-hg];exact hi
      obtain⟨y,hy,r⟩:=aa.get _ _ hf;refine⟨y,?_,r⟩;rw[Ae]at hy;split at hy;.simp only[World.cell?,hh];simpa using hy
      .cases hy) hl;exact⟨bl,k*s'+j,z,by rw[hv,ho],hz,r⟩
   .cases hl
  .cases hl
 .cases hl
theorem yH2{x:V}:(∃v,zi4 P t σ x=.ok v)∨zi4 P t σ x=.fail:=by
 unfold zi4;split
 .split;.exact zD7
  .exact .inr rfl
 .exact zD7
 .split
  .split;.exact zD7
   .exact .inr rfl
  .exact .inr rfl
 .exact .inr rfl
theorem zy2{s:Nat}{vs:List V}:∀{rows:List (List V)}(k j:Nat),(∀r∈rows,r.length=s)->k<rows.length->j+vs.length<=s->(rows.set k (putCells (rows.getD k []) j vs)).flatten=putCells rows.flatten (k*s+j) vs
 |[],k,j,_,hk,_=>by simp at hk|r::rows,0,j,h,_,hj=>by have hr:=h r sm;have e:(r::rows).getD 0 []=r:=rfl;rw[e,Dd,Ce,Ce,Cf,Ab];unfold putCells;rw[Cx om,List.drop_append_of_le_length om];simp|r::rows,k+1,j,h,hk,hj=>by
  have hr:=h r sm;have ih:=zy2 (s:=s) (vs:=vs) (rows:=rows) k j (λx hx=>h x (by simp[hx])) (by simpa using hk) hj;have e:(r::rows).getD (k+1) []=rows.getD k []:=sm;rw[e,Ca,Ce,ih,Ce];unfold putCells;have e2:(k+1)*s+j=r.length+(k*s+j):=by rw[Am,hr];omega
  have e3:r.length+(k*s+j)+vs.length=r.length+(k*s+j+vs.length):=By _ _ _;rw[e2,List.take_length_add_append,e3,List.drop_length_add_append];simp
theorem xM2{pos:String}(t:TypeId)(x:Operand)(h:Sim c nt e σ a w L β):ROk (zi4 P t σ (zF e x)) σ (Yield P c ⟨dst,.load t x,ty,pos,aft,g⟩ a w L σ β):=by
 rcases yH2 (P:=P) (σ:=σ) (t:=t) (x:=zF e x)with⟨v,hv⟩|hv;.obtain⟨bl,off,z,hy,hz,r⟩:=yJ7 (P:=P) t h.mem (h.eval x) hv;rw[hv];exact Yield.pure h (x:=z) (by simp[execOp,hy,Instr.loadAt,Instr.sureAddr,hz]) r
 .rw[hv];trivial
def zu4(P:Program)(t:TypeId)(σ:St)(x y:V):R:=match x with |.ptr id off=>(match σ[id]?,szT P t with |some (.box cs),some s=>if wO y=true/\(xH y).length=s/\off+s<=cs.length then .st .u (σ.set id (.box (putCells cs off (xH y))))else .fail|_,_=>.fail)|.lsp id s n k j=>(match σ[id]?,szT P t with |some (.lst rows s'),some z=>if wO y=true/\(xH y).length=z/\j+z<=s/\s'=s/\rows.length=n/\k<n then .st .u (σ.set id (.lst (rows.set k (putCells (rows.getD k []) j (xH y))) s))else .fail|_,_=>.fail)|_=>.fail
theorem xz2{pos:String}(t:TypeId)(x y:Operand)(h:Sim c nt e σ a w L β):ROk (zu4 P t σ (zF e x) (zF e y)) σ (Yield P c ⟨dst,.store t x y,ty,pos,aft,g⟩ a w L σ β):=by
 have hx:=h.eval x;have hy:=h.eval y;unfold zu4;split
 .rename_i id off h1;rw[h1]at hx;obtain⟨bl,hb,hv⟩:=hx;split
  .rename_i cs s hσ an;split
   .rename_i ad;obtain⟨af,hlen,hle⟩:=ad;have aa:=zp9 hy af;obtain⟨arr,T,fz,hh,hf,ag,ae,ah⟩:=h.mem.setBox (off:=off) hσ hb aa om;have ai:=aa.length;have aj:=wD P bl off T fz (a.eval y).cells.toList 0 arr w hh hf (by simp at ai⊢;omega) (λv hv=>?_)
    .refine⟨undef,_,L,β,.inr ⟨?_,rfl⟩,ae,ah,Ext.setBox hσ _,tV⟩;rw[Cg]at aj;have ak:(a.eval y).cells.size=s:=by simp at ai;omega
     simp[execOp,hv,Instr.storeAt,Instr.sureAddr,storeVar,za0 an,ak,aj]
    .obtain⟨k,hk⟩:=Ax.1 hv;have ab:k<(xH (zF e y)).length:=by have:=(A1.1 hk).1;omega
     obtain⟨z,hz,r⟩:=aa.get k _ (A0 ab);rw[hk]at hz;cases hz;exact r.oneCell
   .trivial
  .trivial
 .rename_i id s n k j h1;rw[h1]at hx;obtain⟨bl,o',hv,hc⟩:=hx;split
  .rename_i rows s' z hσ an;split
   .rename_i ad;obtain⟨af,hlen,hle,rfl,hn,hk⟩:=ad;rcases hc with hd|⟨rows2,ao,aw,hb⟩;.rw[hσ]at hd;cases hd
    .rw[hσ]at ao;cases ao;obtain⟨c0,hβ,ho⟩:=hb hn.symm hk;obtain⟨a',cap,e1,hcap,hs,hu,_⟩:=h.mem.objs id _ _ hσ hβ;cases e1;have aa:=zp9 hy af;have ai:=aa.length;have ab:k<rows.length:=om;have au:(k+1)*s'<=rows.length*s':=An _ ab;rw[Am,Bl]at au;have hg:rows.getD k []=rows[k]'ab:=by rw[A7,A0 ab];rfl
     obtain⟨arr,T,fz,hh,hf,ag,ae,ah,al⟩:=h.mem.lstPut (rows2:=rows.set k (putCells (rows.getD k []) j (xH (zF e y)))) (off:=k*s'+j) hσ hβ om aa om (λr hr=>by
      rcases Ch hr with hr|hr;.exact hu r hr
      .subst hr;rw[zG3 _ _ _ (by rw[hg,hu _ (A8 ab)];omega),hg];exact hu _ (A8 ab)) (zy2 k j hu ab om) sm (by simp;omega);have aq:β.set id (.slice (some ⟨bl,0,none⟩) (rows.set k (putCells (rows.getD k []) j (xH (zF e y)))).length c0)=β:=yE _ _ _ (by rw[Eh,hn];exact hβ);rw[aq]at ae al;have aj:=wD P bl (k*s'+j) T fz (a.eval y).cells.toList 0 arr w hh hf (by simp at ai ag⊢;omega) (λv hv=>?_)
     .refine⟨undef,_,L,β,.inr ⟨?_,rfl⟩,ae,ah,al,tV⟩;rw[Cg]at aj;have ak:(a.eval y).cells.size=z:=by simp at ai;omega
      simp[execOp,hv,ho,Instr.storeAt,Instr.sureAddr,storeVar,za0 an,ak,aj]
     .obtain⟨q,hq⟩:=Ax.1 hv;have av:q<(xH (zF e y)).length:=by have:=(A1.1 hq).1;omega
      obtain⟨z',ar,r⟩:=aa.get q _ (A0 av);rw[hq]at ar;cases ar;exact r.oneCell
   .trivial
  .trivial
 .trivial
def zQ5(σ:St)(x:V):R:=if wO x=true then .st (.ptr σ.length 0) (σ++[.box (xH x)])else .fail
theorem xW7{pos:String}(t:TypeId)(x:Operand)(h:Sim c nt e σ a w L β):ROk (zQ5 σ (zF e x)) σ (Yield P c ⟨dst,.box t x,ty,pos,aft,g⟩ a w L σ β):=by
 have hx:=h.eval x;unfold zQ5;split
 .rename_i aa;obtain⟨h1,h2⟩:=h.mem.box _ (a.eval x).cells t (zp9 hx aa);refine⟨_,_,L,_,.inl ?_,h1,h2,Ext.push σ β h.mem.len _ _,⟨w.heap.size,?_,rfl⟩⟩;.simp[execOp,Instr.box,newVar,newRow]
  .rw[<-h.mem.len,Ai (A3 _)];simp
 .trivial
def zm0(P:Program)(t:TypeId)(σ:St):R:=match zb1 P t with |some cs=>.st (.ptr σ.length 0) (σ++[.box cs])|none=>.fail
theorem zF9(h:zb1 P t=some cs):∃i z,P.info? t=some i/\i.zero=some z/\(∀v∈z.cells.toList,v.oneCell'=true)/\cs=z.cells.toList.map zc9:=by unfold zb1 at h;cases hi:P.info? t with |none=>simp[hi]at h|some i=>cases hz:i.zero with |none=>simp[hi,hz]at h|some z=>
   simp only[hi,hz,Aw]at h;split at h;.rename_i ha;simp at h;refine⟨i,z,rfl,hz,λv hv=>?_,h.symm⟩;exact D5.1 ha v (Array.mem_toList_iff.1 hv)
   .simp at h
theorem zX1{xs:List Value}(h:∀v∈xs,v.oneCell'=true):All2 (RdP w L) (xs.map zc9) xs:=by induction xs with |nil=>trivial|cons x xs ih=>exact⟨(zw6 x (h x sm)).1,ih λv hv=>h v (by simp[hv])⟩
theorem xy1{pos:String}(t:TypeId)(h:Sim c nt e σ a w L β):ROk (zm0 P t σ) σ (Yield P c ⟨dst,.alloc t,ty,pos,aft,g⟩ a w L σ β):=by
 unfold zm0;split
 .rename_i cs hc;obtain⟨i,z,hi,ab,aa,rfl⟩:=zF9 hc;obtain⟨h1,h2⟩:=h.mem.box (z.cells.toList.map zc9) z.cells t ((zX1 aa).imp λ_ _=>RdC.of_pure);refine⟨_,_,L,_,.inl ?_,h1,h2,Ext.push σ β h.mem.len _ _,⟨w.heap.size,?_,rfl⟩⟩;.simp[execOp,Instr.alloc,zeroValue,typeInfo,hi,ab,newVar,newRow]
  .rw[<-h.mem.len,Ai (A3 _)];simp
 .trivial
end
section
variable{P:Program}{c:Ctx}{nt:Nat}{e:Env}{σ:St}{a:Act}{w:World}{L:Nat->Nat}{β:List Value}{o:Oper}
variable{t:TypeId}{dst:Option Tmp}{ty:TypeId}{aft:Array Edge}{g:Option (Nat×Bool)}
def zj6(sl:Option Nat)(ar:Option (Nat×Nat×Bool))(x i:V):R:=match x,i with
 |.sl _ rows,.int _ k=>(match sl with |some s=>.need (0<=k/\k<rows.length/\(rows.getD k.toNat []).length=s) (.elp (rows.getD k.toNat []) 0)|none=>.fail)|.ptr id off,.int _ k=>(match ar with |some (n,s,_)=>.need (0<=k/\k<n) (.ptr id (off+k.toNat*s))|none=>.fail)|.elp cs off,.int _ k=>(match ar with |some (n,s,_)=>.need (0<=k/\k<n) (.elp cs (off+k.toNat*s))|none=>.fail)|.lsv id s n lo m,.int _ k=>if sl=some s then .need (0<=k/\k<m) (.lsp id s n (lo+k.toNat) 0)else .fail|.bsv id s off n,.int _ k=>if sl=some s then .need (0<=k/\k<n) (.ptr id (off+k.toNat*s))else .fail|_,_=>.fail
theorem zW4{s:Nat}(h:slcT P t=some s):∃el,P.underlying t=some (.slice el)/\szT P el=some s:=by
 unfold slcT at h;split at h;.exact⟨_,by assumption,h⟩
 .simp at h
theorem zK5{n s:Nat}{b:Bool}(h:arrT P t=some (n,s,b)):∃el,P.underlying t=some (.array n el)/\szT P el=some s/\aggT P el=some b:=by
 unfold arrT at h;split at h;.rename_i m el hu;cases hs:szT P el with |none=>simp[hs]at h|some s'=>cases hb:aggT P el with |none=>simp[hs,hb]at h|some b'=>simp[hs,hb]at h;obtain⟨rfl,rfl,rfl⟩:=h;exact⟨el,hu,hs,hb⟩
 .simp at h
theorem yU0{pos:String}(t:TypeId)(x i:Operand)(h:Sim c nt e σ a w L β):ROk (zj6 (slcT P t) (arrT P t) (zF e x) (zF e i)) σ (Yield P c ⟨dst,.indexAddr t x i,ty,pos,aft,g⟩ a w L σ β):=by
 have hx:=h.eval x;have hi:=h.eval i;unfold zj6;split
 .rename_i gg rows kd k h1 h2;rw[h1]at hx;rw[h2]at hi;split
  .rename_i s hs;obtain⟨el,hu,aa⟩:=zW4 hs;rintro⟨h0,ab,ae⟩;have hk:k.toNat<rows.length:=om;have aj:rows≠[]:=λq=>by subst q;simp at hk
   obtain⟨s',b,o',cap,hv,an,af,hlim,_,_,hc⟩:=(zw7 hx).flat aj;have ag:rows.getD k.toNat []∈rows:=by rw[A7,A0 hk];exact A8 hk
   have ak:s'=s:=by rw[<-af _ ag];exact ae
   subst ak;have al:rows.getD k.toNat []=rows[k.toNat]:=by rw[A7,A0 hk];rfl
   have e1:=yH hi;refine Yield.pure h (x:=.pointer (some ⟨b,o'+k.toNat*s',none⟩)) ?_ ?_;.simp[execOp,hv,e1,Instr.indexAt,asIntOf,run_underlying hu,za0 aa,h0,ab,wE]
   .refine⟨b,o'+k.toNat*s',λj=>(w.cell? ⟨b,o'+k.toNat*s'+j,none⟩).getD undef,rfl,?_,λj hj=>?_⟩;.rw[ae];have:(k.toNat+1)*s'<=rows.length*s':=An _ hk;rw[Am,Bl]at this;omega
    .rw[ae]at hj;obtain⟨y,hy,r⟩:=hc (k.toNat*s'+j) ((rows.getD k.toNat [])[j]'(by rw[ae];exact hj)) (by rw[yK _ _ af hj,A0 hk];simp only[Aw];rw[A0 (by rw[af _ (A8 hk)];exact hj)];simp only[al]);rw[<-By]at hy;simpa[hy]using r
  .trivial
 .rename_i id off kd k h1 h2;rw[h1]at hx;rw[h2]at hi;split;.rename_i n s b hs;obtain⟨el,hu,aa,_⟩:=zK5 hs;rintro⟨h0,ab⟩;obtain⟨bl,hb,hv⟩:=hx;refine Yield.pure h (x:=.pointer (some ⟨bl,off+k.toNat*s,none⟩)) ?_ ⟨bl,hb,rfl⟩;simp[execOp,hv,yH hi,Instr.indexAt,asIntOf,run_underlying hu,za0 aa,h0,ab,wE,Instr.sureAddr]
  .trivial
 .rename_i cs off kd k h1 h2;rw[h1]at hx;rw[h2]at hi;split;.rename_i n s b hs;obtain⟨el,hu,aa,_⟩:=zK5 hs;rintro⟨h0,ab⟩;obtain⟨bl,o',c',hv,hl,hc⟩:=hx;refine Yield.pure h (x:=.pointer (some ⟨bl,o'+(off+k.toNat*s),none⟩)) ?_ ⟨bl,o',c',rfl,hl,hc⟩;simp[execOp,hv,yH hi,Instr.indexAt,asIntOf,run_underlying hu,za0 aa,h0,ab,wE,Instr.sureAddr,By]
  .trivial
 .rename_i id s n lo m kd k h1 h2;rw[h1]at hx;rw[h2]at hi;split
  .rename_i hs;obtain⟨el,hu,aa⟩:=zW4 hs;rintro⟨h0,ab⟩;obtain⟨ad,cap,hv,hm,ah,hc⟩:=hx;obtain⟨b,o,rfl⟩:=ah om;refine Yield.pure h (x:=.pointer (some ⟨b,o+k.toNat*s,none⟩)) ?_ ⟨b,o+k.toNat*s,rfl,?_⟩;.simp[execOp,hv,yH hi,Instr.indexAt,asIntOf,run_underlying hu,za0 aa,h0,ab,wE]
   .rcases hc with hd|⟨rows,hσ,hn,hb⟩;.exact .inl hd
    .refine .inr ⟨rows,hσ,hn,λq1 q2=>?_⟩;obtain⟨b0,c0,hβ,hcap,ao,ai⟩:=hb q1;obtain⟨k0,rfl,e⟩:=ai om;cases e;exact⟨c0,hβ,by rw[Am];rfl⟩
  .trivial
 .rename_i id s off n kd k h1 h2;rw[h1]at hx;rw[h2]at hi;split;.rename_i hs;obtain⟨el,hu,aa⟩:=zW4 hs;rintro⟨h0,ab⟩;obtain⟨bl,hb,hv⟩:=hx;refine Yield.pure h (x:=.pointer (some ⟨bl,off+k.toNat*s,none⟩)) ?_ ⟨bl,hb,rfl⟩;simp[execOp,hv,yH hi,Instr.indexAt,asIntOf,run_underlying hu,za0 aa,h0,ab,wE]
  .trivial
 .trivial
def zQ6(x i:V)(str:Bool)(ar:Option (Nat×Nat×Bool)):R:=match x,i with |.str b,.int _ k=>if str then .need (0<=k/\k<b.length) (.int .u8 (b.getD k.toNat 0).toNat)else .fail|.agg cs,.int _ k=>(match ar with |some (n,s,false)=>.need (0<=k/\k<n/\(k.toNat*s)<cs.length) (cs.getD (k.toNat*s) .u)|_=>.fail)|_,_=>.fail
def strT(P:Program)(t:TypeId):Bool:=match P.underlying t with|some .string=>true|_=>false
theorem xn7(h:strT P t=true):P.underlying t=some .string:=by unfold strT at h;split at h<;>first|assumption|simp at h
theorem xW8{pos:String}(t:TypeId)(x i:Operand)(h:Sim c nt e σ a w L β):ROk (zQ6 (zF e x) (zF e i) (strT P t) (arrT P t)) σ (Yield P c ⟨dst,.index t x i,ty,pos,aft,g⟩ a w L σ β):=by
 have hx:=h.eval x;have hi:=h.eval i;unfold zQ6;split
 .rename_i b kd k h1 h2;rw[h1]at hx;rw[h2]at hi;split
  .rename_i hs;have hu:=xn7 hs;rintro⟨h0,aa⟩;have hk:k.toNat<b.length:=om;refine Yield.pure h (x:=.int .u8 (b.getD k.toNat 0).toNat) ?_ (RdP.int _ _);have hg:(ByteArray.mk b.toArray)[k.toNat]?=some (b.getD k.toNat 0):=by
    have:k.toNat<(ByteArray.mk b.toArray).size:=by simpa[ByteArray.size]using hk
    rw[getElem?_pos (ByteArray.mk b.toArray) k.toNat this];rw[A7,A0 hk];rfl
   simp[execOp,wW hx,yH hi,Instr.index,asIntOf,run_underlying hu,h0,hg]
  .trivial
 .rename_i cs kd k h1 h2;rw[h1]at hx;rw[h2]at hi;split
  .rename_i n s hs;obtain⟨el,hu,ae,af⟩:=zK5 hs;rintro⟨h0,aa,ab⟩;obtain⟨xs,hv,ad⟩:=hx;obtain⟨y,hy,r⟩:=ad.get (k.toNat*s) _ (A0 ab);refine Yield.pure h (x:=y) ?_ (RdS.of_cell ?_);.simp[execOp,hv,yH hi,Instr.index,asIntOf,run_underlying hu,za0 ae,h0,aa,part,zl5 af,hy]
   .rw[A7,A0 ab];exact r
  .trivial
 .trivial
theorem zm3(l:List UInt8):(ByteArray.mk l.toArray).size=l.length:=by simp[ByteArray.size]
def lenT(P:Program)(t:TypeId):Nat:=match P.underlying t with |some .string=>1|some (.slice _)=>2|_=>0
theorem xb6(h:lenT P t=1):P.underlying t=some .string:=by unfold lenT at h;split at h<;>first|assumption|simp at h
theorem zM9(h:lenT P t=2):∃el,P.underlying t=some (.slice el):=by unfold lenT at h;split at h<;>first|exact⟨_,by assumption⟩|simp at h
def zY3(k:Nat)(x:V):R:=match x with |.sl _ rows=>if k=2then .ok (.int .i64 rows.length)else .fail|.str s=>if k=1then .ok (.int .i64 s.length)else .fail|.lsv _ _ _ _ m=>if k=2then .ok (.int .i64 m)else .fail|.bsv _ _ _ n=>if k=2then .ok (.int .i64 n)else .fail|_=>.fail
theorem xX0{pos:String}(t:TypeId)(x:Operand)(h:Sim c nt e σ a w L β):ROk (zY3 (lenT P t) (zF e x)) σ (Yield P c ⟨dst,.call ⟨.builtin .len,#[x],#[t]⟩,ty,pos,aft,g⟩ a w L σ β):=by
 have hx:=h.eval x;unfold zY3;split
 .rename_i gg rows h1;rw[h1]at hx;obtain⟨a',cap,hv,_,_⟩:=(zw7 hx).len;split;.rename_i hk;obtain⟨el,hu⟩:=zM9 hk;exact Yield.pure h (x:=.int .i64 rows.length) (by simp[execOp,resolve,invoke,builtin,Builtin.len_,hv,run_underlying hu,goInt]) (RdP.int _ _)
  .trivial
 .rename_i s h1;rw[h1]at hx;split;.rename_i hk;exact Yield.pure h (x:=.int .i64 s.length) (by simp[execOp,resolve,invoke,builtin,Builtin.len_,wW hx,run_underlying (xb6 hk),goInt,zm3]) (RdP.int _ _)
  .trivial
 .rename_i id s n lo m h1;rw[h1]at hx;obtain⟨ad,cap,hv,_⟩:=hx;split;.rename_i hk;obtain⟨el,hu⟩:=zM9 hk;exact Yield.pure h (x:=.int .i64 m) (by simp[execOp,resolve,invoke,builtin,Builtin.len_,hv,run_underlying hu,goInt]) (RdP.int _ _)
  .trivial
 .rename_i id s off n h1;rw[h1]at hx;obtain⟨bl,_,hv⟩:=hx;split;.rename_i hk;obtain⟨el,hu⟩:=zM9 hk;exact Yield.pure h (x:=.int .i64 n) (by simp[execOp,resolve,invoke,builtin,Builtin.len_,hv,run_underlying hu,goInt]) (RdP.int _ _)
  .trivial
 .trivial
def zA9(isMax:Bool):List V->R |[.int k x,.int _ y]=>.ok (.int k (if isMax then(if y>x then y else x)else(if y<x then y else x)))|[.str x,.str y]=>.ok (.str (if isMax then(if Op.bytesLess x y then y else x)else(if(Op.bytesLess x y||x==y)then x else y)))|[.int k x,.int _ y,.int _ z]=>.ok (.int k (if isMax then(let m:=if y>x then y else x;if z>m then z else m)else(let m:=if y<x then y else x;if z<m then z else m)))|_=>.fail
theorem xy8{pos:String}(ts:Array TypeId)(xs:List Operand)(isMax:Bool)(h:Sim c nt e σ a w L β):ROk (zA9 isMax (xs.map (zF e))) σ (Yield P c ⟨dst,.call ⟨.builtin (if isMax then .max else .min),xs.toArray,ts⟩,ty,pos,aft,g⟩ a w L σ β):=by
 unfold zA9;split
 .rename_i k m k' n hl;obtain⟨x,y,rfl⟩:∃x y,xs=[x,y]:=by cases xs with |nil=>simp at hl|cons x xs=>cases xs with |nil=>simp at hl|cons y xs=>cases xs with |nil=>exact⟨x,y,rfl⟩|cons z xs=>simp at hl
  simp at hl;have e1:=yH (hl.1▸h.eval x);have e2:=yH (hl.2▸h.eval y);cases isMax;.exact Yield.pure h (x:=.int k (if n<m then n else m)) (by simp[execOp,resolve,invoke,builtin,Builtin.min_,Builtin.min2,e1,e2]) (RdP.int _ _)
  .exact Yield.pure h (x:=.int k (if n>m then n else m)) (by simp[execOp,resolve,invoke,builtin,Builtin.max_,Builtin.max2,e1,e2]) (RdP.int _ _)
 .rename_i m n hl;obtain⟨x,y,rfl⟩:∃x y,xs=[x,y]:=by cases xs with |nil=>simp at hl|cons x xs=>cases xs with |nil=>simp at hl|cons y xs=>cases xs with |nil=>exact⟨x,y,rfl⟩|cons z xs=>simp at hl
  simp at hl;have e1:=wW (hl.1▸h.eval x);have e2:=wW (hl.2▸h.eval y);cases isMax;.refine Yield.pure h (x:=.string ⟨(if(Op.bytesLess m n||m==n)then m else n).toArray⟩) ?_ (RdP.str _);simp[execOp,resolve,invoke,builtin,Builtin.min_,Builtin.min2,e1,e2,Op.stringOp,asBool];split<;>rfl
  .refine Yield.pure h (x:=.string ⟨(if Op.bytesLess m n then n else m).toArray⟩) ?_ (RdP.str _);simp[execOp,resolve,invoke,builtin,Builtin.max_,Builtin.max2,e1,e2,Op.stringOp,asBool];cases Op.bytesLess m n<;>rfl
 .rename_i k m k' n aa q hl;obtain⟨x,y,z,rfl⟩:∃x y z,xs=[x,y,z]:=by cases xs with |nil=>simp at hl|cons x xs=>cases xs with |nil=>simp at hl|cons y xs=>cases xs with |nil=>simp at hl|cons z xs=>cases xs with |nil=>exact⟨x,y,z,rfl⟩|cons _ _=>simp at hl
  simp at hl;have e1:=yH (hl.1▸h.eval x);have e2:=yH (hl.2.1▸h.eval y);have e3:=yH (hl.2.2▸h.eval z);cases isMax;.exact Yield.pure h (x:=.int k (let p:=if n<m then n else m;if q<p then q else p)) (by simp[execOp,resolve,invoke,builtin,Builtin.min_,Builtin.min2,e1,e2,e3]) (RdP.int _ _)
  .exact Yield.pure h (x:=.int k (let p:=if n>m then n else m;if q>p then q else p)) (by simp[execOp,resolve,invoke,builtin,Builtin.max_,Builtin.max2,e1,e2,e3]) (RdP.int _ _)
 .trivial
end
end Go.Vx
