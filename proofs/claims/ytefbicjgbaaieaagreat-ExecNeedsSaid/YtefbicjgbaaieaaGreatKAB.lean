/-
  Operations over trees: appends and literals of slices and structs.
  No condition: a library text; nothing of the program is named.
-/
import Derived.Test.YtefbicjgbaaieaaGreatKAA
import Derived.Laws.BytesArg
import Derived.Laws.IdiomStrings
import Derived.Great.BuildSlice
set_option maxHeartbeats 8000000
namespace Go.Vx
open Go
def Yield(P:Program)(c:Ctx)(o:Oper)(a:Act)(w:World)(L:Nat->Nat)(σ:St)(β:List Value)(v:V)(σ':St):Prop:=∃x w' L' β',((execOp a.eval o).run P w=.ok (.value x) w'∨((execOp a.eval o).run P w=.ok .skip w'/\x=undef))/\Mem c w' L' σ' β'/\Le w L w' L'/\Ext σ β σ' β'/\RdS w' L' σ' β' v x
def ROk(r:R)(σ:St)(Y:V->St->Prop):Prop:=match r with |.fail=>True|.ok v=>Y v σ|.need p v=>p->Y v σ|.st v σ'=>Y v σ'|.needst p v σ'=>p->Y v σ'|.all f=>∃b,Y (f b) σ|.any l=>∃p∈l,Y p.1 p.2
section
variable{P:Program}{c:Ctx}{nt:Nat}{e:Env}{σ:St}{a:Act}{w:World}{L:Nat->Nat}{β:List Value}{o:Oper}
variable{dst:Option Tmp}{ty:TypeId}{aft:Array Edge}{g:Option (Nat×Bool)}{t:TypeId}{el:TypeId}
theorem Yield.pure(h:Sim c nt e σ a w L β){v:V}{x:Value}(hr:(execOp a.eval o).run P w=.ok (.value x) w)(r:RdS w L σ β v x):Yield P c o a w L σ β v σ:=⟨x,w,L,β,.inl hr,h.mem,Le.refl _ _,Ext.refl _ _,r⟩
def zH4(b x y:V):R:=match b with |.bool t=>.ok (if t then x else y)|_=>.fail
theorem xQ9{pos:String}(x y z:Operand)(h:Sim c nt e σ a w L β):ROk (zH4 (zD e x) (zD e y) (zD e z)) σ (Yield P c ⟨dst,.pick x y z,ty,pos,aft,g⟩ a w L σ β):=by
 have hx:=h.eval x;unfold zH4;split
 .rename_i b hb;rw[hb]at hx;have:=zd0 hx;refine Yield.pure h (x:=if b then a.eval y else a.eval z) (by simp_all[execOp,asBool]) ?_;cases b;.exact h.eval z
  .exact h.eval y
 trivial
theorem xQ8{pos:String}(x:Operand)(h:Sim c nt e σ a w L β):ROk (.ok (zD e x)) σ (Yield P c ⟨dst,.move x,ty,pos,aft,g⟩ a w L σ β):=Yield.pure h (by rfl) (h.eval x)
theorem xp6{pos:String}(x:Operand)(h:Sim c nt e σ a w L β):ROk (.ok (zD e x)) σ (Yield P c ⟨dst,.assign x,ty,pos,aft,g⟩ a w L σ β):=Yield.pure h (by rfl) (h.eval x)
def zZ0(x:V):R:=match x with |.ptr id off=>.ok (.ptr id off)|.elp cs off=>.ok (.elp cs off)|.lsp id s n k j=>.ok (.lsp id s n k j)|.fn f caps=>.ok (.fn f caps)|_=>.fail
theorem yN9{pos:String}(x:Operand)(h:Sim c nt e σ a w L β):ROk (zZ0 (zD e x)) σ (Yield P c ⟨dst,.nilCheck x,ty,pos,aft,g⟩ a w L σ β):=by
 have hx:=h.eval x;unfold zZ0;split;.rename_i id off hb;rw[hb]at hx;obtain⟨b,_,hv⟩:=hx;exact Yield.pure h (x:=a.eval x) (by simp_all[execOp]) (hb▸h.eval x)
 .rename_i cs off hb;rw[hb]at hx;obtain⟨b,o,_,hv,_⟩:=hx;exact Yield.pure h (x:=a.eval x) (by simp_all[execOp]) (hb▸h.eval x)
 .rename_i id s n k j hb;rw[hb]at hx;obtain⟨b,o,hv,_⟩:=hx;exact Yield.pure h (x:=a.eval x) (by simp_all[execOp]) (hb▸h.eval x)
 .rename_i f caps hb;rw[hb]at hx;obtain⟨xs,hv,_⟩:=hx;exact Yield.pure h (x:=a.eval x) (by simp_all[execOp]) (hb▸h.eval x)
 trivial
def ze2(op:BinOp)(k:IntKind)(x y:Int):Int:=match op with |.and=>k.wrap (BitVec.ofInt k.bits x&&&BitVec.ofInt k.bits y).toNat|.or=>k.wrap (BitVec.ofInt k.bits x|||BitVec.ofInt k.bits y).toNat|.xor=>k.wrap (BitVec.ofInt k.bits x^^^BitVec.ofInt k.bits y).toNat|_=>k.wrap (BitVec.ofInt k.bits x&&&~~~BitVec.ofInt k.bits y).toNat
def zO4(op:BinOp)(k:IntKind)(x y:Int):R:=match op with |.add=>.ok (.int k (k.wrap (x+y)))|.sub=>.ok (.int k (k.wrap (x-y)))|.mul=>.ok (.int k (k.wrap (x*y)))|.quo=>.need (y≠0) (.int k (k.wrap (x.tdiv y)))|.rem=>.need (y≠0) (.int k (x.tmod y))|.and=>.ok (.int k (ze2 .and k x y))|.or=>.ok (.int k (ze2 .or k x y))|.xor=>.ok (.int k (ze2 .xor k x y))|.andNot=>.ok (.int k (ze2 .andNot k x y))|.eql=>.ok (.bool (x==y))|.neq=>.ok (.bool (x !=y))|.lss=>.ok (.bool (decide (x<y)))|.leq=>.ok (.bool (decide (x<=y)))|.gtr=>.ok (.bool (decide (x>y)))|.geq=>.ok (.bool (decide (x≥y)))|.shl=>.need (0<=y) (.int k (k.wrap (x*2^(min y.toNat k.bits))))|.shr=>.need (0<=y) (.int k (x.fdiv (2^(min y.toNat k.bits))))
def zP8(op:BinOp)(x y:List UInt8):R:=match op with |.add=>.need (x.length+y.length<=9223372036854775807) (.str (x++y))|.eql=>.ok (.bool (x==y))|.neq=>.ok (.bool (!(x==y)))|.lss=>.ok (.bool (Op.bytesLess x y))|.leq=>.ok (.bool (Op.bytesLess x y||x==y))|.gtr=>.ok (.bool (!(Op.bytesLess x y||x==y)))|.geq=>.ok (.bool (!(Op.bytesLess x y)))|_=>.fail
def eqK(P:Program)(t:TypeId):Nat:=match P.underlying t with |some .bool=>1|some (.pointer _)=>2|some (.slice _)=>3|_=>0
def yN4(op:BinOp)(n:Nat):R:=match op with |.eql=>if 0<n then .ok (.bool false)else .all .bool|.neq=>if 0<n then .ok (.bool true)else .all λb=>.bool (!b)|_=>.fail
def lenV:V->Option Nat |.sl _ rows=>some rows.length|.lsv _ _ _ _ m=>some m|_=>none
def zs6(op:BinOp)(ek:Nat)(es:Option (List Pk))(x y:V):R:=match x,y with |.int k a,.int k' b=>if k=k' then zO4 op k a b else(match op with|.shl=>.need (0<=b) (.int k (k.wrap (a*2^(min b.toNat k.bits))))|.shr=>.need (0<=b) (.int k (a.fdiv (2^(min b.toNat k.bits))))|_=>.fail)|.str a,.str b=>zP8 op a b|.bool a,.bool b=>if ek=1then(match op with|.eql=>.ok (.bool (a==b))|.neq=>.ok (.bool (!(a==b)))|_=>.fail)else .fail|.ptr _ _,.nilp=>if ek=2then(match op with|.eql=>.ok (.bool false)|.neq=>.ok (.bool true)|_=>.fail)else .fail|.nilp,.nilp=>if ek=2then(match op with|.eql=>.ok (.bool true)|.neq=>.ok (.bool false)|_=>.fail)else .fail|.agg az,.agg bs=>(match es.bind λks=>eqVs ks az bs with |some r=>(match op with|.eql=>.ok (.bool r)|.neq=>.ok (.bool (!r))|_=>.fail)|none=>.fail)|_,_=>.fail
def zt6(op:BinOp)(ek:Nat)(x:V):R:=if ek=3then(match lenV x with|some n=>yN4 op n|none=>.fail)else .fail
def zg5:Operand->Bool |.const (.slice none 0 0)=>true|_=>false
theorem zt9{k k':IntKind}{x y:Int}(op:BinOp)(aa:op=.shl∨op=.shr)(hy:0<=y)(w:World):(Op.shift op k x k' y).run P w=.ok (.int k (if op=.shl then k.wrap (x*2^(min y.toNat k.bits))else x.fdiv (2^(min y.toNat k.bits)))) w:=by have:¬y<0:=om;rcases aa with rfl|rfl<;>simp[Op.shift,this]
theorem xp9{pos:String}(op:BinOp)(t t':TypeId)(x y:Operand)(h:Sim c nt e σ a w L β){k:IntKind}{m n:Int}(hx:a.eval x=.int k m)(hy:a.eval y=.int k n):ROk (zO4 op k m n) σ (Yield P c ⟨dst,.binOp op t x y t',ty,pos,aft,g⟩ a w L σ β):=by
 have run:∀v,(binOp op t (.int k m) (.int k n)).run P w=.ok v w->(execOp a.eval ⟨dst,.binOp op t x y t',ty,pos,aft,g⟩).run P w=.ok (.value v) w:=by simp_all[execOp,eqGuard]
 cases op;case quo=>exactλhn=>Yield.pure h (by simp_all[binOp,Op.intDiv]) (RdP.int _ _)
 case rem=>exactλhn=>Yield.pure h (by simp_all[binOp,Op.intDiv]) (RdP.int _ _)
 case shl=>exactλhn=>Yield.pure h (run _ (by simp only[binOp];rw[zt9 .shl (.inl rfl) hn];simp)) (RdP.int _ _)
 case shr=>exactλhn=>Yield.pure h (run _ (by simp only[binOp];rw[zt9 .shr (.inr rfl) hn];simp)) (RdP.int _ _)
 case add=>exact Yield.pure h (by simp_all[binOp,Op.intArith]) (RdP.int _ _)
 case sub=>exact Yield.pure h (by simp_all[binOp,Op.intArith]) (RdP.int _ _)
 case mul=>exact Yield.pure h (by simp_all[binOp,Op.intArith]) (RdP.int _ _)
 case and=>exact Yield.pure h (run _ (by simp only[binOp,Op.intBits,ne_eq,not_true_eq_false,if_false,Sem.run_pure];rfl)) (RdP.int _ _)
 case or=>exact Yield.pure h (run _ (by simp only[binOp,Op.intBits,ne_eq,not_true_eq_false,if_false,Sem.run_pure];rfl)) (RdP.int _ _)
 case xor=>exact Yield.pure h (run _ (by simp only[binOp,Op.intBits,ne_eq,not_true_eq_false,if_false,Sem.run_pure];rfl)) (RdP.int _ _)
 case andNot=>exact Yield.pure h (run _ (by simp only[binOp,Op.intBits,ne_eq,not_true_eq_false,if_false,Sem.run_pure];rfl)) (RdP.int _ _)
 case eql=>exact Yield.pure h (by simp_all[binOp,Op.intCmp]) (RdP.bool _)
 case neq=>exact Yield.pure h (by simp_all[binOp,Op.intCmp]) (RdP.bool _)
 case lss=>exact Yield.pure h (by simp_all[binOp,Op.intCmp]) (RdP.bool _)
 case leq=>exact Yield.pure h (by simp_all[binOp,Op.intCmp]) (RdP.bool _)
 case gtr=>exact Yield.pure h (by simp_all[binOp,Op.intCmp]) (RdP.bool _)
 case geq=>exact Yield.pure h (by simp_all[binOp,Op.intCmp]) (RdP.bool _)
theorem xq4{pos:String}(op:BinOp)(t t':TypeId)(x y:Operand)(h:Sim c nt e σ a w L β){m n:List UInt8}(hx:a.eval x=.string ⟨m.toArray⟩)(hy:a.eval y=.string ⟨n.toArray⟩):ROk (zP8 op m n) σ (Yield P c ⟨dst,.binOp op t x y t',ty,pos,aft,g⟩ a w L σ β):=by
 have run:∀v,(binOp op t (.string ⟨m.toArray⟩) (.string ⟨n.toArray⟩)).run P w=.ok v w->(execOp a.eval ⟨dst,.binOp op t x y t',ty,pos,aft,g⟩).run P w=.ok (.value v) w:=by simp_all[execOp,eqGuard]
 cases op;case add=>
  intro hn;refine Yield.pure h (run (.string ⟨(m++n).toArray⟩) ?_) (RdP.str _);have hs:¬((m.length:Int)+(n.length:Int)>9223372036854775807):=om;have ab:∀l:List UInt8,(ByteArray.mk l.toArray).size=l.length:=(by grind[ByteArray.size]);have aa:(ByteArray.mk m.toArray)++(ByteArray.mk n.toArray)=ByteArray.mk (m++n).toArray:=by rfl
  simp_all[binOp,Op.stringOp]
 case eql=>exact Yield.pure h (by simp_all[binOp,Op.stringOp]) (RdP.bool _)
 case neq=>exact Yield.pure h (by simp_all[binOp,Op.stringOp]) (RdP.bool _)
 case lss=>exact Yield.pure h (by simp_all[binOp,Op.stringOp]) (RdP.bool _)
 case leq=>exact Yield.pure h (by simp_all[binOp,Op.stringOp]) (RdP.bool _)
 case gtr=>exact Yield.pure h (by simp_all[binOp,Op.stringOp]) (RdP.bool _)
 case geq=>exact Yield.pure h (by simp_all[binOp,Op.stringOp]) (RdP.bool _)
 all_goals trivial
theorem eqK1(h:eqK P t=1):P.underlying t=some .bool:=by grind[eqK]
theorem eqK2(h:eqK P t=2):∃el,P.underlying t=some (.pointer el):=by grind[eqK]
theorem zX0(hb:P.underlying t=some .bool)(x y:Bool)(w:World)(d:Nat):(Op.equalIn (d+1) t (.bool x) (.bool y)).run P w=.ok (x==y) w:=by simp[Op.equalIn,run_underlying hb]
theorem yb2(hb:P.underlying t=some (.pointer el))(x:Option Addr)(w:World)(d:Nat):(Op.equalIn (d+1) t (.pointer x) (.pointer none)).run P w=.ok x.isNone w:=by cases x<;>simp[Op.equalIn,run_underlying hb]
theorem zJ3(hb:P.underlying t=some .bool)(x y:Bool)(w:World):(Op.equal t (.bool x) (.bool y)).run P w=.ok (x==y) w:=zX0 hb x y w 9999
theorem zp9(hb:P.underlying t=some (.pointer el))(x:Option Addr)(w:World):(Op.equal t (.pointer x) (.pointer none)).run P w=.ok x.isNone w:=yb2 hb x w 9999
theorem wc0{pos:String}(op:BinOp)(t t':TypeId)(x y:Operand)(h:Sim c nt e σ a w L β):ROk (zs6 op (eqK P t) (eqS P t) (zD e x) (zD e y)) σ (Yield P c ⟨dst,.binOp op t x y t',ty,pos,aft,g⟩ a w L σ β):=by
 have hx:=h.eval x;have hy:=h.eval y;unfold zs6;split
 .rename_i k m k' n h1 h2;rw[h1]at hx;rw[h2]at hy;have e1:=yM hx;have e2:=yM hy;by_cases hk:k=k';.subst hk;rw[if_pos rfl];grind[xp9]
  .rw[if_neg hk];split;.exactλhn=>Yield.pure h (by simp only[execOp,e1,e2,eqGuard,binOp];simp[zt9 .shl (.inl rfl) hn]) (RdP.int _ _)
   .exactλhn=>Yield.pure h (by simp only[execOp,e1,e2,eqGuard,binOp];simp[zt9 .shr (.inr rfl) hn]) (RdP.int _ _)
   trivial
 .grind[xq4,wV]
 .rename_i m n h1 h2;rw[h1]at hx;rw[h2]at hy;have e1:=zd0 hx;have e2:=zd0 hy;split
  .rename_i hb;have ae:=eqK1 hb;split;.exact Yield.pure h (by simp_all[execOp,eqGuard,binOp,zJ3]) (RdP.bool _)
   .exact Yield.pure h (by simp_all[execOp,eqGuard,binOp,zJ3]) (RdP.bool _)
   trivial
  trivial
 .rename_i id off h1 h2;rw[h1]at hx;rw[h2]at hy;obtain⟨b,_,e1⟩:=hx;have e2:=yj0 hy;split
  .rename_i hb;obtain⟨el,ae⟩:=eqK2 hb;split;.exact Yield.pure h (x:=.bool false) (by simp_all[execOp,eqGuard,binOp,zp9]) (RdP.bool _)
   .exact Yield.pure h (x:=.bool true) (by simp_all[execOp,eqGuard,binOp,zp9]) (RdP.bool _)
   trivial
  trivial
 .rename_i h1 h2;rw[h1]at hx;rw[h2]at hy;have e1:=yj0 hx;have e2:=yj0 hy;split
  .rename_i hb;obtain⟨el,ae⟩:=eqK2 hb;split;.exact Yield.pure h (x:=.bool true) (by simp_all[execOp,eqGuard,binOp,zp9]) (RdP.bool _)
   .exact Yield.pure h (x:=.bool false) (by simp_all[execOp,eqGuard,binOp,zp9]) (RdP.bool _)
   trivial
  trivial
 .rename_i az bs h1 h2;rw[h1]at hx;rw[h2]at hy;obtain⟨xs,e1,r1⟩:=hx;obtain⟨ys,e2,r2⟩:=hy;split;.rename_i r hr;cases aa:eqS P t with |none=>grind|some ks=>
    rw[aa]at hr;simp only[B3]at hr;have af:=zV3 ks az bs xs ys r r1 r2 hr;unfold eqS at aa;split at aa
    .rename_i fs hu;split at aa
     .rename_i hg;have ha:aggT P t=some true:=by grind[aggT,yV2]
      have o1:∀z∈xs,z.oneCell'=true:=λz hz=>by obtain⟨i,hi⟩:=Aq.1 hz;have hl:=r1.length;obtain⟨y,ab,rr⟩:=r1.get i (az[i]'(by grind)) sm;rw[hi]at ab;cases ab;exact rr.oneCell
      have o2:∀z∈ys,z.oneCell'=true:=λz hz=>by obtain⟨i,hi⟩:=Aq.1 hz;have hl:=r2.length;obtain⟨y,ab,rr⟩:=r2.get i (bs[i]'(by grind)) sm;rw[hi]at ab;cases ab;exact rr.oneCell
      have ad:∀z:List Value,zu8 P t (.agg z.toArray):=λz=>by unfold zu8;grind
      have ag:=zJ2 10 t ks aa 10000 om (.agg xs.toArray) (.agg ys.toArray) r (ad _) (ad _) (by simpa[Value.cells]using o1) (by simpa[Value.cells]using o2) (by simpa[Value.cells]using af) w;split;.exact Yield.pure h (x:=.bool r) (by simp_all[execOp,run_eqGuard_agg,run_eql_struct]) (RdP.bool _)
      .exact Yield.pure h (x:=.bool (!r)) (by simp_all[execOp,run_eqGuard_agg,run_neq_struct]) (RdP.bool _)
      trivial
     grind
    grind
  trivial
 trivial
theorem eqK3(h:eqK P t=3):∃el,P.underlying t=some (.slice el):=by grind[eqK]
theorem yB2{y:Operand}(h:zg5 y=true):y=.const (.slice none 0 0):=by unfold zg5 at h;grind
theorem zl3(hb:P.underlying t=some (.slice el))(a:Option Addr)(n cap:Nat)(w:World):(Op.equal t (.slice a n cap) (.slice none 0 0)).run P w=.ok a.isNone w:=by
 have key:∀d,(Op.equalIn (d+1) t (.slice a n cap) (.slice none 0 0)).run P w=.ok a.isNone w:=λd=>by cases a<;>simp[Op.equalIn,run_underlying hb]
 exact key 9999
theorem xD9{pos:String}(op:BinOp)(t t':TypeId)(x y:Operand)(hy:zg5 y=true)(h:Sim c nt e σ a w L β):ROk (zt6 op (eqK P t) (zD e x)) σ (Yield P c ⟨dst,.binOp op t x y t',ty,pos,aft,g⟩ a w L σ β):=by
 have hx:=h.eval x;have hy:=yB2 hy;subst hy;unfold zt6;split
 .rename_i hk;obtain⟨el,hu⟩:=eqK3 hk;split
  .rename_i n hn;have hv:∃ad cap,a.eval x=.slice ad n cap/\(0<n->ad.isNone=false):=by
    unfold lenV at hn;split at hn;.rename_i gg rows h1;rw[h1]at hx;cases hn;have hr:=zw0 hx;clear hx;revert hr;generalize a.eval x=z;intro hr;cases hr<;>simp
    .rename_i id s n' lo m h1;rw[h1]at hx;cases hn;obtain⟨ad,cap,hv,ab,aa,_⟩:=hx;grind
    grind
   obtain⟨ad,cap,hv,hz⟩:=hv;have hc:a.eval (.const (.slice none 0 0))=.slice none 0 0:=rfl;unfold yN4;split
   .split;.rename_i h0;exact Yield.pure h (x:=.bool false) (by simp_all[execOp,eqGuard,binOp,zl3]) (RdP.bool _)
    .exact⟨ad.isNone,Yield.pure h (x:=.bool ad.isNone) (by simp_all[execOp,eqGuard,binOp,zl3]) (RdP.bool _)⟩
   .split;.rename_i h0;exact Yield.pure h (x:=.bool true) (by simp_all[execOp,eqGuard,binOp,zl3]) (RdP.bool _)
    .exact⟨ad.isNone,Yield.pure h (x:=.bool (!ad.isNone)) (by simp_all[execOp,eqGuard,binOp,zl3]) (RdP.bool _)⟩
   trivial
  trivial
 trivial
def evUn(op:UnOp)(x:V):R:=match op,x with |.not,.bool b=>.ok (.bool (!b))|.neg,.int k n=>.ok (.int k (k.wrap (0-n)))|.xor,.int k n=>.ok (.int k (ze2 .xor k (if k.signed then-1 else k.max) n))|_,_=>.fail
theorem wg9{pos:String}(op:UnOp)(t:TypeId)(x:Operand)(h:Sim c nt e σ a w L β):ROk (evUn op (zD e x)) σ (Yield P c ⟨dst,.unOp op t x,ty,pos,aft,g⟩ a w L σ β):=by
 have hx:=h.eval x;unfold evUn;split;.rename_i b h1;rw[h1]at hx;exact Yield.pure h (x:=.bool (!b)) (by simp[execOp,zd0 hx,Op.unary]) (RdP.bool _)
 .rename_i k n h1;rw[h1]at hx;exact Yield.pure h (x:=.int k (k.wrap (0-n))) (by simp only[execOp,yM hx,Op.unary,Op.intArith,Sem.run_bind,Sem.run_pure,Result.andThen_ok]) (RdP.int _ _)
 .rename_i k n h1;rw[h1]at hx;exact Yield.pure h (x:=.int k (ze2 .xor k (if k.signed then-1 else k.max) n)) (by simp only[execOp,yM hx,Op.unary,Op.intBits,Sem.run_bind,Sem.run_pure,Result.andThen_ok];rfl) (RdP.int _ _)
 trivial
def zm1(x:V)(i:Nat):R:=match x with |.tup vs=>(match vs[i]?with|some v=>.ok v|none=>.fail)|_=>.fail
theorem yW9{pos:String}(x:Operand)(i:Nat)(h:Sim c nt e σ a w L β):ROk (zm1 (zD e x) i) σ (Yield P c ⟨dst,.extract x i,ty,pos,aft,g⟩ a w L σ β):=by
 have hx:=h.eval x;unfold zm1;split
 .rename_i vs h1;rw[h1]at hx;obtain⟨xs,hv,aa⟩:=hx;split;.rename_i v ab;obtain⟨y,hy,r⟩:=aa.get _ _ ab;exact Yield.pure h (x:=y) (by simp_all[execOp,Instr.extract]) (RdS.of_a r)
  trivial
 trivial
def ze3(P:Program)(t:TypeId)(x:V)(f:Nat):R:=match fldT P t f,x with |some (off,_,_),.ptr id o=>.ok (.ptr id (o+off))|some (off,_,_),.elp cs o=>.ok (.elp cs (o+off))|some (off,_,_),.lsp id s n k j=>.ok (.lsp id s n k (j+off))|_,_=>.fail
theorem zV6{f off s:Nat}{b:Bool}(h:fldT P t f=some (off,s,b)):∃fs fd,P.underlying t=some (.struct fs)/\fs[f]?=some fd/\fd.offset=off/\szT P fd.type=some s/\aggT P fd.type=some b/\s≠0:=by
 unfold fldT at h;split at h;.rename_i fs hu;cases hf:fs[f]?with |none=>grind|some fd=>simp only[hf,B3]at h;cases hs:szT P fd.type with |none=>grind|some s'=>simp only[hs,B3]at h;cases hb:aggT P fd.type<;>grind
 grind
theorem yC3{pos:String}(t:TypeId)(x:Operand)(f:Nat)(h:Sim c nt e σ a w L β):ROk (ze3 P t (zD e x) f) σ (Yield P c ⟨dst,.fieldAddr t x f,ty,pos,aft,g⟩ a w L σ β):=by
 have hx:=h.eval x;have run:∀{off s:Nat}{b:Bool}{bl o:Nat},fldT P t f=some (off,s,b)->a.eval x=.pointer (some ⟨bl,o,none⟩)->(execOp a.eval ⟨dst,.fieldAddr t x f,ty,pos,aft,g⟩).run P w=.ok (.value (.pointer (some ⟨bl,o+off,none⟩))) w:=by intro off s b bl o hf hv;obtain⟨fs,fd,hu,aa,rfl,hs,hb,h0⟩:=zV6 hf;simp_all[execOp,Instr.fieldAt,run_underlying,Instr.sureAddr,fieldPlace,wT,xV]
 unfold ze3;split;.rename_i off s b id o hf h1;rw[h1]at hx;obtain⟨bl,hb,hv⟩:=hx;exact Yield.pure h (run hf hv) ⟨bl,hb,rfl⟩
 .rename_i off s b cs o hf h1;rw[h1]at hx;obtain⟨bl,o',c',hv,hl,hc⟩:=hx;exact Yield.pure h (run hf hv) ⟨bl,o',c',sm,hl,hc⟩
 .rename_i off s b id s' n k j hf h1;rw[h1]at hx;obtain⟨bl,o',hv,hc⟩:=hx;refine Yield.pure h (run hf hv) ⟨bl,o'+off,rfl,?_⟩;grind
 trivial
end
section
variable{P:Program}{c:Ctx}{nt:Nat}{e:Env}{σ:St}{a:Act}{w:World}{L:Nat->Nat}{β:List Value}{o:Oper}
variable{t:TypeId}{off:Nat}{dst:Option Tmp}{ty:TypeId}{aft:Array Edge}{g:Option (Nat×Bool)}{bl:Nat}{cs:List V}
def zl2(ag:Option Bool)(sz:Option Nat)(cs:List V)(off:Nat):R:=match ag,sz with |some true,some s=>if off+s<=cs.length then .ok (.agg ((cs.drop off).take s))else .fail|some false,_=>(match cs[off]?with|some v=>.ok v|none=>.fail)|_,_=>.fail
def zh0(P:Program)(t:TypeId)(σ:St)(x:V):R:=match x with |.ptr id off=>(match σ[id]?with|some (.box cs)=>zl2 (aggT P t) (szT P t) cs off|_=>.fail)|.elp cs off=>zl2 (aggT P t) (szT P t) cs off|.lsp id s n k j=>(match σ[id]?with|some (.lst rows s')=>if s'=s/\rows.length=n/\k<n then zl2 (aggT P t) (szT P t) (rows.getD k []) j else .fail|_=>.fail)|_=>.fail
theorem zS7{s:Nat}{xs:List Value}(aa:aggT P t=some true)(ab:szT P t=some s)(hl:xs.length=s)(hx:∀(j:Nat) v,xs[j]?=some v->w.cell? ⟨bl,off+j,none⟩=some v):(loadVar t ⟨bl,off,none⟩).run P w=.ok (.agg xs.toArray) w:=by have:=run_loadCells_list (P:=P) w ⟨bl,off,none⟩ xs (λj v hj=>by rw[xV];exact hx j v hj);simp_all[loadVar,zk5,wT]
theorem zX1{v:Value}(aa:aggT P t=some false)(hx:w.cell? ⟨bl,off,none⟩=some v):(loadVar t ⟨bl,off,none⟩).run P w=.ok v w:=by simp_all[loadVar,zk5]
theorem zW4(t:TypeId){o:Nat}{v:V}(hc:∀(j:Nat) v,cs[j]?=some v->∃y,w.cell? ⟨bl,o+j,none⟩=some y/\RdC w L σ β v y)(hl:zl2 (aggT P t) (szT P t) cs off=.ok v):∃y,(loadVar t ⟨bl,o+off,none⟩).run P w=.ok y w/\RdS w L σ β v y:=by
 unfold zl2 at hl;split at hl
 .rename_i s aa ae;split at hl
  .rename_i hle;simp only[R.ok.injEq]at hl;subst hl;let f:=λk=>(w.cell? ⟨bl,o+(off+k),none⟩).getD undef;let xs:=(List.range s).map f;have af:∀(j:Nat) v,xs[j]?=some v->w.cell? ⟨bl,o+off+j,none⟩=some v/\∃p,cs[off+j]?=some p/\RdC w L σ β p v:=by
    intro j v hj;have ab:j<s:=by grind
    simp only[xs,B2,C4 ab,B8,Option.some.injEq]at hj;obtain⟨y,hy,r⟩:=hc (off+j) _ (A0 om);grind
   refine⟨.agg xs.toArray,(by grind[zS7]),xs,rfl,All2.of (by simp[xs];omega) λj p v hu hj=>?_⟩;grind
  grind
 .rename_i aa;split at hl;.rename_i v' ad;simp only[R.ok.injEq]at hl;subst hl;obtain⟨y,hy,r⟩:=hc off _ ad;simp_all[zX1,RdS.of_cell]
  grind
 grind
theorem zD4{ag:Option Bool}{sz:Option Nat}:(∃v,zl2 ag sz cs off=.ok v)∨zl2 ag sz cs off=.fail:=by unfold zl2;grind
theorem yL7(t:TypeId){x:V}{y:Value}{v:V}(hm:Mem c w L σ β)(hx:RdS w L σ β x y)(hl:zh0 P t σ x=.ok v):∃bl off z,y=.pointer (some ⟨bl,off,none⟩)/\(loadVar t ⟨bl,off,none⟩).run P w=.ok z w/\RdS w L σ β v z:=by
 unfold zh0 at hl;split at hl
 .rename_i id off;obtain⟨bl,hb,hv⟩:=hx;split at hl;.rename_i cs hσ;obtain⟨b',arr,T,fz,e1,hh,_,_,aa⟩:=hm.objs id _ _ hσ hb;cases e1;obtain⟨z,hz,r⟩:=zW4 (P:=P) (w:=w) (L:=L) (σ:=σ) (β:=β) t (bl:=bl) (o:=0) (λj v hj=>by obtain⟨y,hy,r⟩:=aa.get _ _ hj;grind[World.cell?]) hl;grind
  grind
 .rename_i cs off;obtain⟨bl,o',c',hv,hlim,hc⟩:=hx;obtain⟨z,hz,r⟩:=zW4 (P:=P) (w:=w) (L:=L) (σ:=σ) (β:=β) t (bl:=bl) (o:=o') (by grind[RdC.of_pure]) hl;grind
 .rename_i id s n k j;obtain⟨bl,o',hv,hc⟩:=hx;split at hl
  .rename_i rows s' hσ;split at hl
   .rename_i ab;obtain⟨rfl,hn,hk⟩:=ab;rcases hc with hd|⟨rows2,ad,ae,hb⟩;.grind
    .rw[hσ]at ad;cases ad;obtain⟨c0,hβ,ho⟩:=hb hn.symm hk;obtain⟨a,cap,e1,hcap,hs,hu,hok⟩:=hm.objs id _ _ hσ hβ;cases e1;obtain⟨b',arr,T,fz,e2,hh,_,_,_,aa⟩:=hok om;cases e2;have hg:rows.getD k []=rows[k]'om:=by grind
     obtain⟨z,hz,r⟩:=zW4 (P:=P) (w:=w) (L:=L) (σ:=σ) (β:=β) t (bl:=bl) (o:=k*s') (cs:=rows.getD k []) (off:=j) (λi v hi=>by
      have af:i<s':=by grind
      have hf:rows.flatten[k*s'+i]?=some v:=by grind[yP]
      obtain⟨y,hy,r⟩:=aa.get _ _ hf;grind[World.cell?]) hl;grind
   grind
  grind
 grind
theorem yJ1{x:V}:(∃v,zh0 P t σ x=.ok v)∨zh0 P t σ x=.fail:=by
 unfold zh0;split
 .split;.exact zD4
  simp
 .exact zD4
 .split
  .split;.exact zD4
   simp
  simp
 simp
theorem zx9{s:Nat}{vs:List V}:∀{rows:List (List V)}(k j:Nat),(∀r∈rows,r.length=s)->k<rows.length->j+vs.length<=s->(rows.set k (putCells (rows.getD k []) j vs)).flatten=putCells rows.flatten (k*s+j) vs
 |[],k,j,_,hk,_=>by grind|r::rows,0,j,h,_,hj=>by have hr:=h r sm;have e:(r::rows).getD 0 []=r:=rfl;rw[e,Dc,Dk,Dk,Dj,Ad];grind[putCells]|r::rows,k+1,j,h,hk,hj=>by
  have hr:=h r sm;have ih:=zx9 (s:=s) (vs:=vs) (rows:=rows) k j (λx hx=>h x (by simp[hx])) (by simpa using hk) hj;have e:(r::rows).getD (k+1) []=rows.getD k []:=sm;rw[e,Cg,Dk,ih,Dk];unfold putCells;have e2:(k+1)*s+j=r.length+(k*s+j):=by rw[B4,hr];omega
  have e3:r.length+(k*s+j)+vs.length=r.length+(k*s+j+vs.length):=Ds _ _ _;rw[e2,List.take_length_add_append,e3,List.drop_length_add_append];simp
theorem xQ6{pos:String}(t:TypeId)(x:Operand)(h:Sim c nt e σ a w L β):ROk (zh0 P t σ (zD e x)) σ (Yield P c ⟨dst,.load t x,ty,pos,aft,g⟩ a w L σ β):=by
 rcases yJ1 (P:=P) (σ:=σ) (t:=t) (x:=zD e x)with⟨v,hv⟩|hv;.obtain⟨bl,off,z,hy,hz,r⟩:=yL7 (P:=P) t h.mem (h.eval x) hv;rw[hv];exact Yield.pure h (x:=z) (by simp_all[execOp,Instr.loadAt,Instr.sureAddr]) r
 .rw[hv];trivial
def zt7(P:Program)(t:TypeId)(σ:St)(x y:V):R:=match x with |.ptr id off=>(match σ[id]?,szT P t with |some (.box cs),some s=>if wY y=true/\(xI y).length=s/\off+s<=cs.length then .st .u (σ.set id (.box (putCells cs off (xI y))))else .fail|_,_=>.fail)|.lsp id s n k j=>(match σ[id]?,szT P t with |some (.lst rows s'),some z=>if wY y=true/\(xI y).length=z/\j+z<=s/\s'=s/\rows.length=n/\k<n then .st .u (σ.set id (.lst (rows.set k (putCells (rows.getD k []) j (xI y))) s))else .fail|_,_=>.fail)|_=>.fail
theorem xE2{pos:String}(t:TypeId)(x y:Operand)(h:Sim c nt e σ a w L β):ROk (zt7 P t σ (zD e x) (zD e y)) σ (Yield P c ⟨dst,.store t x y,ty,pos,aft,g⟩ a w L σ β):=by
 have hx:=h.eval x;have hy:=h.eval y;unfold zt7;split
 .rename_i id off h1;rw[h1]at hx;obtain⟨bl,hb,hv⟩:=hx;split
  .rename_i cs s hσ an;split
   .rename_i ab;obtain⟨ae,hlen,hle⟩:=ab;have aa:=zp2 hy ae;obtain⟨arr,T,fz,hh,hf,ai,ad,af⟩:=h.mem.setBox (off:=off) hσ hb aa om;have ao:=aa.length;have aq:=xJ P bl off T fz (a.eval y).cells.toList 0 arr w hh hf om (λv hv=>?_);.refine⟨undef,_,L,β,.inr ⟨?_,rfl⟩,ad,af,Ext.setBox hσ _,tV⟩;simp_all[execOp,Instr.storeAt,Instr.sureAddr,storeVar,wT]
    .obtain⟨k,hk⟩:=Aq.1 hv;have ag:k<(xI (zD e y)).length:=by grind
     obtain⟨z,hz,r⟩:=aa.get k _ (A0 ag);rw[hk]at hz;cases hz;exact r.oneCell
   trivial
  trivial
 .rename_i id s n k j h1;rw[h1]at hx;obtain⟨bl,o',hv,hc⟩:=hx;split
  .rename_i rows s' z hσ an;split
   .rename_i ab;obtain⟨ae,hlen,hle,rfl,hn,hk⟩:=ab;rcases hc with hd|⟨rows2,aj,av,hb⟩;.grind
    .rw[hσ]at aj;cases aj;obtain⟨c0,hβ,ho⟩:=hb hn.symm hk;obtain⟨a',cap,e1,hcap,hs,hu,_⟩:=h.mem.objs id _ _ hσ hβ;cases e1;have aa:=zp2 hy ae;have ao:=aa.length;have ag:k<rows.length:=om;have ar:(k+1)*s'<=rows.length*s':=Ao _ ag;rw[B4,Cx]at ar;have hg:rows.getD k []=rows[k]'ag:=by grind
     obtain⟨arr,T,fz,hh,hf,ai,ad,af,ah⟩:=h.mem.lstPut (rows2:=rows.set k (putCells (rows.getD k []) j (xI (zD e y)))) (off:=k*s'+j) hσ hβ om aa om (λr hr=>by grind[zG1]) (by grind[zx9]) sm (by grind);have ak:β.set id (.slice (some ⟨bl,0,none⟩) (rows.set k (putCells (rows.getD k []) j (xI (zD e y)))).length c0)=β:=(by grind[yK]);rw[ak]at ad ah;have aq:=xJ P bl (k*s'+j) T fz (a.eval y).cells.toList 0 arr w hh hf om (λv hv=>?_);.refine⟨undef,_,L,β,.inr ⟨?_,rfl⟩,ad,af,ah,tV⟩;simp_all[execOp,Instr.storeAt,Instr.sureAddr,storeVar,wT]
     .obtain⟨q,hq⟩:=Aq.1 hv;have au:q<(xI (zD e y)).length:=by grind
      obtain⟨z',al,r⟩:=aa.get q _ (A0 au);rw[hq]at al;cases al;exact r.oneCell
   trivial
  trivial
 trivial
def zR0(σ:St)(x:V):R:=if wY x=true then .st (.ptr σ.length 0) (σ++[.box (xI x)])else .fail
theorem wc1{pos:String}(t:TypeId)(x:Operand)(h:Sim c nt e σ a w L β):ROk (zR0 σ (zD e x)) σ (Yield P c ⟨dst,.box t x,ty,pos,aft,g⟩ a w L σ β):=by
 have hx:=h.eval x;unfold zR0;split
 .rename_i aa;obtain⟨h1,h2⟩:=h.mem.box _ (a.eval x).cells t (zp2 hx aa);refine⟨_,_,L,_,.inl ?_,h1,h2,Ext.push σ β h.mem.len _ _,⟨w.heap.size,?_,rfl⟩⟩;.rfl
  .rw[<-h.mem.len,Am (A5 _)];simp
 trivial
def zl1(P:Program)(t:TypeId)(σ:St):R:=match wI P t with |some cs=>.st (.ptr σ.length 0) (σ++[.box cs])|none=>.fail
theorem zF7(h:wI P t=some cs):∃i z,P.info? t=some i/\i.zero=some z/\(∀v∈z.cells.toList,v.oneCell'=true)/\cs=z.cells.toList.map zc1:=by unfold wI at h;cases hi:P.info? t with |none=>grind|some i=>cases hz:i.zero with |none=>grind|some z=>
   simp only[hi,hz,B3]at h;split at h;.rename_i ha;simp at h;refine⟨i,z,rfl,hz,λv hv=>?_,h.symm⟩;exact Df.1 ha v (by grind)
   grind
theorem zX9{xs:List Value}(h:∀v∈xs,v.oneCell'=true):All2 (RdP w L) (xs.map zc1) xs:=by induction xs with |nil=>trivial|cons x xs ih=>exact⟨(by grind[zv7]),(by grind)⟩
theorem xD1{pos:String}(t:TypeId)(h:Sim c nt e σ a w L β):ROk (zl1 P t σ) σ (Yield P c ⟨dst,.alloc t,ty,pos,aft,g⟩ a w L σ β):=by
 unfold zl1;split
 .rename_i cs hc;obtain⟨i,z,hi,ab,aa,rfl⟩:=zF7 hc;obtain⟨h1,h2⟩:=h.mem.box (z.cells.toList.map zc1) z.cells t ((zX9 aa).imp λ_ _=>RdC.of_pure);refine⟨_,_,L,_,.inl ?_,h1,h2,Ext.push σ β h.mem.len _ _,⟨w.heap.size,?_,rfl⟩⟩;.simp_all[execOp,Instr.alloc,zeroValue,typeInfo,newVar,newRow]
  .rw[<-h.mem.len,Am (A5 _)];simp
 trivial
end
section
variable{P:Program}{c:Ctx}{nt:Nat}{e:Env}{σ:St}{a:Act}{w:World}{L:Nat->Nat}{β:List Value}{o:Oper}
variable{t:TypeId}{dst:Option Tmp}{ty:TypeId}{aft:Array Edge}{g:Option (Nat×Bool)}
def zi1(sl:Option Nat)(ar:Option (Nat×Nat×Bool))(x i:V):R:=match x,i with
 |.sl _ rows,.int _ k=>(match sl with |some s=>.need (0<=k/\k<rows.length/\(rows.getD k.toNat []).length=s) (.elp (rows.getD k.toNat []) 0)|none=>.fail)|.ptr id off,.int _ k=>(match ar with |some (n,s,_)=>.need (0<=k/\k<n) (.ptr id (off+k.toNat*s))|none=>.fail)|.elp cs off,.int _ k=>(match ar with |some (n,s,_)=>.need (0<=k/\k<n) (.elp cs (off+k.toNat*s))|none=>.fail)|.lsv id s n lo m,.int _ k=>if sl=some s then .need (0<=k/\k<m) (.lsp id s n (lo+k.toNat) 0)else .fail|.bsv id s off n,.int _ k=>if sl=some s then .need (0<=k/\k<n) (.ptr id (off+k.toNat*s))else .fail|_,_=>.fail
theorem zX2{s:Nat}(h:slcT P t=some s):∃el,P.underlying t=some (.slice el)/\szT P el=some s:=by grind[slcT]
theorem zK7{n s:Nat}{b:Bool}(h:arrT P t=some (n,s,b)):∃el,P.underlying t=some (.array n el)/\szT P el=some s/\aggT P el=some b:=by
 unfold arrT at h;split at h;.rename_i m el hu;cases hs:szT P el with |none=>grind|some s'=>cases hb:aggT P el<;>grind
 grind
theorem yX0{pos:String}(t:TypeId)(x i:Operand)(h:Sim c nt e σ a w L β):ROk (zi1 (slcT P t) (arrT P t) (zD e x) (zD e i)) σ (Yield P c ⟨dst,.indexAddr t x i,ty,pos,aft,g⟩ a w L σ β):=by
 have hx:=h.eval x;have hi:=h.eval i;unfold zi1;split
 .rename_i gg rows kd k h1 h2;rw[h1]at hx;rw[h2]at hi;split
  .rename_i s hs;obtain⟨el,hu,aa⟩:=zX2 hs;rintro⟨h0,ab,ae⟩;have hk:k.toNat<rows.length:=om;have ai:rows≠[]:=(by grind);obtain⟨s',b,o',cap,hv,ak,af,hlim,_,_,hc⟩:=(zw0 hx).flat ai;have ag:rows.getD k.toNat []∈rows:=by grind
   have aj:s'=s:=by rw[<-af _ ag];omega
   subst aj;have al:rows.getD k.toNat []=rows[k.toNat]:=by grind
   have e1:=yM hi;refine Yield.pure h (x:=.pointer (some ⟨b,o'+k.toNat*s',none⟩)) ?_ ?_;.simp[execOp,hv,e1,Instr.indexAt,asIntOf,run_underlying hu,wT aa,h0,ab,xV]
   .refine⟨b,o'+k.toNat*s',λj=>(w.cell? ⟨b,o'+k.toNat*s'+j,none⟩).getD undef,rfl,?_,λj hj=>?_⟩;.rw[ae];have:(k.toNat+1)*s'<=rows.length*s':=Ao _ hk;grind
    .rw[ae]at hj;obtain⟨y,hy,r⟩:=hc (k.toNat*s'+j) ((rows.getD k.toNat [])[j]'om) (by rw[yP _ _ af hj,A0 hk];grind);grind
  trivial
 .rename_i id off kd k h1 h2;rw[h1]at hx;rw[h2]at hi;split;.rename_i n s b hs;obtain⟨el,hu,aa,_⟩:=zK7 hs;rintro⟨h0,ab⟩;obtain⟨bl,hb,hv⟩:=hx;refine Yield.pure h (x:=.pointer (some ⟨bl,off+k.toNat*s,none⟩)) ?_ ⟨bl,hb,rfl⟩;simp[execOp,hv,yM hi,Instr.indexAt,asIntOf,run_underlying hu,wT aa,h0,ab,xV,Instr.sureAddr]
  trivial
 .rename_i cs off kd k h1 h2;rw[h1]at hx;rw[h2]at hi;split;.rename_i n s b hs;obtain⟨el,hu,aa,_⟩:=zK7 hs;rintro⟨h0,ab⟩;obtain⟨bl,o',c',hv,hl,hc⟩:=hx;refine Yield.pure h (x:=.pointer (some ⟨bl,o'+(off+k.toNat*s),none⟩)) ?_ ⟨bl,o',c',rfl,hl,hc⟩;simp[execOp,hv,yM hi,Instr.indexAt,asIntOf,run_underlying hu,wT aa,h0,ab,xV,Instr.sureAddr,Ds]
  trivial
 .rename_i id s n lo m kd k h1 h2;rw[h1]at hx;rw[h2]at hi;split
  .rename_i hs;obtain⟨el,hu,aa⟩:=zX2 hs;rintro⟨h0,ab⟩;obtain⟨ad,cap,hv,hm,ah,hc⟩:=hx;obtain⟨b,o,rfl⟩:=ah om;refine Yield.pure h (x:=.pointer (some ⟨b,o+k.toNat*s,none⟩)) ?_ ⟨b,o+k.toNat*s,rfl,?_⟩;.simp[execOp,hv,yM hi,Instr.indexAt,asIntOf,run_underlying hu,wT aa,h0,ab,xV]
   grind
  trivial
 .rename_i id s off n kd k h1 h2;rw[h1]at hx;rw[h2]at hi;split;.rename_i hs;obtain⟨el,hu,aa⟩:=zX2 hs;rintro⟨h0,ab⟩;obtain⟨bl,hb,hv⟩:=hx;refine Yield.pure h (x:=.pointer (some ⟨bl,off+k.toNat*s,none⟩)) ?_ ⟨bl,hb,rfl⟩;simp[execOp,hv,yM hi,Instr.indexAt,asIntOf,run_underlying hu,wT aa,h0,ab,xV]
  trivial
 trivial
def zR1(x i:V)(str:Bool)(ar:Option (Nat×Nat×Bool)):R:=match x,i with |.str b,.int _ k=>if str then .need (0<=k/\k<b.length) (.int .u8 (b.getD k.toNat 0).toNat)else .fail|.agg cs,.int _ k=>(match ar with |some (n,s,false)=>.need (0<=k/\k<n/\(k.toNat*s)<cs.length) (cs.getD (k.toNat*s) .u)|_=>.fail)|_,_=>.fail
def strT(P:Program)(t:TypeId):Bool:=match P.underlying t with|some .string=>true|_=>false
theorem xr7(h:strT P t=true):P.underlying t=some .string:=by grind[strT]
theorem wc2{pos:String}(t:TypeId)(x i:Operand)(h:Sim c nt e σ a w L β):ROk (zR1 (zD e x) (zD e i) (strT P t) (arrT P t)) σ (Yield P c ⟨dst,.index t x i,ty,pos,aft,g⟩ a w L σ β):=by
 have hx:=h.eval x;have hi:=h.eval i;unfold zR1;split
 .rename_i b kd k h1 h2;rw[h1]at hx;rw[h2]at hi;split
  .rename_i hs;have hu:=xr7 hs;rintro⟨h0,aa⟩;have hk:k.toNat<b.length:=om;refine Yield.pure h (x:=.int .u8 (b.getD k.toNat 0).toNat) ?_ (RdP.int _ _);have hg:(ByteArray.mk b.toArray)[k.toNat]?=some (b.getD k.toNat 0):=by
    have:k.toNat<(ByteArray.mk b.toArray).size:=by simpa
    rw[getElem?_pos (ByteArray.mk b.toArray) k.toNat this];rw[A7,A0 hk];rfl
   simp[execOp,wV hx,yM hi,Instr.index,asIntOf,run_underlying hu,h0,hg]
  trivial
 .rename_i cs kd k h1 h2;rw[h1]at hx;rw[h2]at hi;split
  .rename_i n s hs;obtain⟨el,hu,ad,ae⟩:=zK7 hs;rintro⟨h0,aa,af⟩;obtain⟨xs,hv,ab⟩:=hx;obtain⟨y,hy,r⟩:=ab.get (k.toNat*s) _ (A0 af);refine Yield.pure h (x:=y) ?_ (RdS.of_cell ?_);.simp[execOp,hv,yM hi,Instr.index,asIntOf,run_underlying hu,wT ad,h0,aa,part,zk5 ae,hy]
   grind
  trivial
 trivial
theorem zu0(l:List UInt8):(ByteArray.mk l.toArray).size=l.length:=by rfl
def lenT(P:Program)(t:TypeId):Nat:=match P.underlying t with |some .string=>1|some (.slice _)=>2|_=>0
theorem xe8(h:lenT P t=1):P.underlying t=some .string:=by grind[lenT]
theorem zN2(h:lenT P t=2):∃el,P.underlying t=some (.slice el):=by grind[lenT]
def zY9(k:Nat)(x:V):R:=match x with |.sl _ rows=>if k=2then .ok (.int .i64 rows.length)else .fail|.str s=>if k=1then .ok (.int .i64 s.length)else .fail|.lsv _ _ _ _ m=>if k=2then .ok (.int .i64 m)else .fail|.bsv _ _ _ n=>if k=2then .ok (.int .i64 n)else .fail|_=>.fail
theorem wc4{pos:String}(t:TypeId)(x:Operand)(h:Sim c nt e σ a w L β):ROk (zY9 (lenT P t) (zD e x)) σ (Yield P c ⟨dst,.call ⟨.builtin .len,#[x],#[t]⟩,ty,pos,aft,g⟩ a w L σ β):=by
 have hx:=h.eval x;unfold zY9;split
 .rename_i gg rows h1;rw[h1]at hx;obtain⟨a',cap,hv,_,_⟩:=(zw0 hx).len;split;.rename_i hk;obtain⟨el,hu⟩:=zN2 hk;exact Yield.pure h (x:=.int .i64 rows.length) (by simp_all[execOp,resolve,invoke,builtin,Builtin.len_,run_underlying,goInt]) (RdP.int _ _)
  trivial
 .rename_i s h1;rw[h1]at hx;split;.rename_i hk;exact Yield.pure h (x:=.int .i64 s.length) (by simp[execOp,resolve,invoke,builtin,Builtin.len_,wV hx,run_underlying (xe8 hk),goInt,zu0]) (RdP.int _ _)
  trivial
 .rename_i id s n lo m h1;rw[h1]at hx;obtain⟨ad,cap,hv,_⟩:=hx;split;.rename_i hk;obtain⟨el,hu⟩:=zN2 hk;exact Yield.pure h (x:=.int .i64 m) (by simp_all[execOp,resolve,invoke,builtin,Builtin.len_,run_underlying,goInt]) (RdP.int _ _)
  trivial
 .rename_i id s off n h1;rw[h1]at hx;obtain⟨bl,_,hv⟩:=hx;split;.rename_i hk;obtain⟨el,hu⟩:=zN2 hk;exact Yield.pure h (x:=.int .i64 n) (by simp_all[execOp,resolve,invoke,builtin,Builtin.len_,run_underlying,goInt]) (RdP.int _ _)
  trivial
 trivial
def zA6(isMax:Bool):List V->R |[.int k x,.int _ y]=>.ok (.int k (if isMax then(if y>x then y else x)else(if y<x then y else x)))|[.str x,.str y]=>.ok (.str (if isMax then(if Op.bytesLess x y then y else x)else(if(Op.bytesLess x y||x==y)then x else y)))|[.int k x,.int _ y,.int _ z]=>.ok (.int k (if isMax then(let m:=if y>x then y else x;if z>m then z else m)else(let m:=if y<x then y else x;if z<m then z else m)))|_=>.fail
theorem xD8{pos:String}(ts:Array TypeId)(xs:List Operand)(isMax:Bool)(h:Sim c nt e σ a w L β):ROk (zA6 isMax (xs.map (zD e))) σ (Yield P c ⟨dst,.call ⟨.builtin (if isMax then .max else .min),xs.toArray,ts⟩,ty,pos,aft,g⟩ a w L σ β):=by
 unfold zA6;split
 .rename_i k m k' n hl;obtain⟨x,y,rfl⟩:∃x y,xs=[x,y]:=by cases xs with |nil=>grind|cons x xs=>cases xs<;>simp_all
  simp at hl;have e1:=yM (hl.1▸h.eval x);have e2:=yM (hl.2▸h.eval y);cases isMax;.exact Yield.pure h (x:=.int k (if n<m then n else m)) (by simp_all[execOp,resolve,invoke,builtin,Builtin.min_,Builtin.min2]) (RdP.int _ _)
  .exact Yield.pure h (x:=.int k (if n>m then n else m)) (by simp_all[execOp,resolve,invoke,builtin,Builtin.max_,Builtin.max2]) (RdP.int _ _)
 .rename_i m n hl;obtain⟨x,y,rfl⟩:∃x y,xs=[x,y]:=by cases xs with |nil=>grind|cons x xs=>cases xs<;>simp_all
  simp at hl;have e1:=wV (hl.1▸h.eval x);have e2:=wV (hl.2▸h.eval y);cases isMax;.refine Yield.pure h (x:=.string ⟨(if(Op.bytesLess m n||m==n)then m else n).toArray⟩) ?_ (RdP.str _);simp[execOp,resolve,invoke,builtin,Builtin.min_,Builtin.min2,e1,e2,Op.stringOp,asBool];grind
  .refine Yield.pure h (x:=.string ⟨(if Op.bytesLess m n then n else m).toArray⟩) ?_ (RdP.str _);simp[execOp,resolve,invoke,builtin,Builtin.max_,Builtin.max2,e1,e2,Op.stringOp,asBool];grind
 .rename_i k m k' n aa q hl;obtain⟨x,y,z,rfl⟩:∃x y z,xs=[x,y,z]:=by cases xs with |nil=>grind|cons x xs=>cases xs with |nil=>grind|cons y xs=>cases xs<;>simp_all
  simp at hl;have e1:=yM (hl.1▸h.eval x);have e2:=yM (hl.2.1▸h.eval y);have e3:=yM (hl.2.2▸h.eval z);cases isMax;.exact Yield.pure h (x:=.int k (let p:=if n<m then n else m;if q<p then q else p)) (by simp_all[execOp,resolve,invoke,builtin,Builtin.min_,Builtin.min2]) (RdP.int _ _)
  .exact Yield.pure h (x:=.int k (let p:=if n>m then n else m;if q>p then q else p)) (by simp_all[execOp,resolve,invoke,builtin,Builtin.max_,Builtin.max2]) (RdP.int _ _)
 trivial
end
section
variable{P:Program}{c:Ctx}{nt:Nat}{e:Env}{σ:St}{a:Act}{w:World}{L:Nat->Nat}{β:List Value}{o:Oper}
variable{t:TypeId}{tx:TypeId}{ty:TypeId}{el:TypeId}{cap:Nat}{x:Value}{r2:List (List V)}{i:TypeInfo}{base:Option Addr}{n:Nat}
theorem zd9{s aa:Nat}(h:elT P t=some (s,aa)):∃el i z,P.underlying t=some (.slice el)/\P.info? el=some i/\i.zero=some z/\i.size=s/\i.bytes=aa/\z.cells.size=s/\0<s/\0<aa:=by
 unfold elT at h;split at h;.rename_i el hu;cases hi:P.info? el with |none=>grind|some i=>cases hz:i.zero<;>grind
 grind
def za7(rows:List (List V))(lo m:Nat):List (List V):=((rows.drop lo).take m).map λr=>r.map dem
def xM(rows:List (List V)):Bool:=rows.all λr=>r.all zy4
def xX4(rows:List (List V))(s' s n lo m:Nat):Prop:=s'=s/\rows.length=n/\lo+m<=n/\xM ((rows.drop lo).take m)=true
def zF3(k:Nat)(σ:St):V->Option (List (List V)) |.sl _ rows=>if k=2then some rows else none|.str s=>if k=1then some (zP s)else none|.lsv id _ _ lo m=>if k=2then(match σ[id]?with|some (.lst rows _)=>some (za7 rows lo m)|_=>none)else none|_=>none
def zn8(σ:St):V->Prop |.lsv id s n lo m=>(match σ[id]?with|some (.lst rows s')=>xX4 rows s' s n lo m|_=>False)|_=>True
def zg9(el:Option (Nat×Nat))(k2:Nat)(σ:St)(x y:V):R:=match el,zF3 k2 σ y with |some (s,by'),some r2=>(match x with |.sl .full r1=>.needst (zn8 σ y/\(r1.length+r2.length)*by'<=140737488355328/\uni s r1/\uni s r2) (.sl (.app σ.length) (r1++r2)) (σ++[.app (r1.length+r2.length) s])|.sl (.app id) r1=>(match σ[id]?with |some (.app n s')=>.needst (zn8 σ y/\r1.length=n/\s'=s/\(r1.length+r2.length)*by'<=140737488355328/\uni s r2) (.sl (.app id) (r1++r2)) (σ.set id (.app (n+r2.length) s'))|_=>.fail)|.lsv id s1 n lo m=>(match σ[id]?with |some (.lst rows s')=>if lo+m+r2.length<=n then .needst (zn8 σ y/\s1=s/\s'=s/\rows.length=n/\uni s r2) (.lsv id s n lo (m+r2.length)) (σ.set id (.lst (rows.take (lo+m)++r2++rows.drop (lo+m+r2.length)) s))else .needst (zn8 σ y/\s1=s/\s'=s/\rows.length=n/\uni s r2/\lo=0/\m=n/\(n+r2.length)*by'<=140737488355328) (.lsv id s (n+r2.length) 0 (n+r2.length)) (σ.set id (.lst (rows++r2) s))|_=>.fail)|_=>.fail)|_,_=>.fail
def zJ6(k:Nat)(σ:St):V->Option (List (List V)) |.sl _ rows=>if k=2then some rows else none|.str s=>if k=1then some (zP s)else none|.lsv id _ _ lo m=>if k=2then(match σ[id]?with|some (.lst rows _)=>some ((rows.drop lo).take m)|_=>none)else none|_=>none
def zw3(σ:St):V->Prop |.lsv id s n lo m=>(match σ[id]?with|some (.lst rows s')=>s'=s/\rows.length=n/\lo+m<=n|_=>False)|_=>True
def ze0(el:Option (Nat×Nat))(k2:Nat)(σ:St)(x y:V):R:=match x with |.lsv id s1 n lo m=>(match el,zJ6 k2 σ y with |some (s,by'),some r2=>(match σ[id]?with |some (.lst rows s')=>if lo+m+r2.length<=n then .needst (zw3 σ y/\s1=s/\s'=s/\rows.length=n/\uni s r2) (.lsv id s n lo (m+r2.length)) (σ.set id (.lst (rows.take (lo+m)++r2++rows.drop (lo+m+r2.length)) s))else .needst (zw3 σ y/\s1=s/\s'=s/\rows.length=n/\uni s r2/\lo=0/\m=n/\(n+r2.length)*by'<=140737488355328) (.lsv id s (n+r2.length) 0 (n+r2.length)) (σ.set id (.lst (rows++r2) s))|_=>.fail)|_,_=>.fail)|x=>match el,zF3 k2 σ y with
 |some (s,by'),some r2=>(match x with |.sl .full r1=>.needst (zn8 σ y/\(r1.length+r2.length)*by'<=140737488355328/\uni s r1/\uni s r2/\(r2=[]->r1=[])) (.lsv σ.length s (r1.length+r2.length) 0 (r1.length+r2.length)) (σ++[.lst (r1++r2) s])|_=>.fail)|_,_=>.fail
theorem yk0{y:V}{s:Nat}(hm:Mem c w L σ β)(ah:zn8 σ y)(hy:zF3 (lenT P tx) σ y=some r2)(r:RdS w L σ β y x)(hs:0<s)(hu:uni s r2):∃news,Src P s tx x r2.length news w/\All2 (RdP w L) r2.flatten news:=by
 unfold zF3 at hy;split at hy
 .rename_i gg rows;split at hy;.rename_i h2;cases hy;obtain⟨el,ab⟩:=zN2 h2;exact(zw0 r).src ab hs hu
  grind
 .rename_i q;split at hy
  .rename_i h1;cases hy;have h1:=xe8 h1;have hx:=wV r;subst hx;by_cases hq:q=[];.subst hq;refine⟨[],⟨.inr h1,λ_=>rfl,?_,?_,by simp[zP],sm⟩,tV⟩;all_goals simp[Builtin.firstCells]
   .have au:s=1:=by obtain⟨b,rest,rfl⟩:=Di hq;exact(hu [.int .u8 b.toNat] (by simp[zP])).symm
    subst au;have:=Src.ofString w h1 ⟨q.toArray⟩;grind[zu0,zP,zp6]
  grind
 .rename_i id s1 n lo m;split at hy
  .rename_i h2;obtain⟨el,ab⟩:=zN2 h2;split at hy
   .rename_i rows s' hσ;cases hy;simp only[zn8,hσ]at ah;obtain⟨rfl,hn,aB,hp⟩:=ah;obtain⟨ad,cap,hv,aC,ai,hc⟩:=r;have aj:(za7 rows lo m).length=m:=by grind[za7]
    by_cases h0:m=0
    .subst h0;have ak:za7 rows lo 0=[]:=by rfl
     rw[ak,hv];cases ad with |none=>exact⟨[],Src.ofNil w ab cap,tV⟩|some ad=>exact⟨[],(by grind[Src.ofSlice]),tV⟩
    .rcases hc with hd|⟨rows2,al,aD,hb⟩;.grind
     .rw[hσ]at al;cases al;obtain⟨b0,c0,hβ,hcap,aE,af⟩:=hb hn.symm;clear hb ai;have aF:0<m:=om;have an:lo<c0:=om;obtain⟨k0,rfl,rfl⟩:=af an;clear af;obtain⟨a2,a7,e1,a8,aG,ao,hok⟩:=hm.objs id _ _ hσ hβ;cases e1;obtain⟨b',arr,T,fz,e2,hh,_,aH,_,ag⟩:=hok (Nat.lt_of_le_of_lt (A4 _) an);cases e2;clear hok;have av:s'=s:=by have ae:0<(za7 rows lo m).length:=om;have h1:=hu _ (Aa ae);grind[za7]
      subst av;have aI:=zW ao;have aw:=zW hu;rw[aj]at aw;have ax:(lo+m)*s'<=rows.length*s':=Ao _ om;rw[B4]at ax;have aJ:rows.length*s'<=arr.size:=by have:=ag.length;grind
      have aA:∀k v y,(za7 rows lo m).flatten[k]?=some v->arr[lo*s'+k]?=some y->RdP w L v y:=by
       intro k v y hk ay;have aq:k<m*s':=by grind
       have hi:k/s'<m:=by simp_all[Cw]
       have hj:k%s'<s':=Do _ hs;have az:k=k/s'*s'+k%s':=by grind[Dv]
       rw[az,yP _ _ hu hj]at hk;simp only[za7,B2,Ai,if_pos hi,Bj]at hk;have ae:lo+k/s'<rows.length:=om;rw[A0 ae]at hk;simp only[B8,B3,B2,B0]at hk;obtain⟨v0,aK,rfl⟩:=hk;have hf:rows.flatten[(lo+k/s')*s'+k%s']?=some v0:=by rw[yP _ _ ao hj,A0 ae];grind
       obtain⟨z,hz,rz⟩:=ag.get _ _ hf;have ar:(lo+k/s')*s'+k%s'=lo*s'+k:=by grind
       rw[ar,Ai,if_pos om,Ap,ay]at hz;cases hz;refine RdC.dem rz ?_;unfold xM at hp;rw[Af]at hp;have aL:rows[lo+k/s']∈(rows.drop lo).take m:=by rw[Aq];exact⟨k/s',by grind⟩
       grind
      have a1:((arr.toList.drop (lo*s')).take (m*s')).length=m*s':=by grind
      rw[aj,hv];have aa:All2 (RdP w L) (za7 rows lo m).flatten ((arr.toList.drop (lo*s')).take (m*s')):=by grind[All2.of]
      refine⟨_,Src.ofSlice w ab ⟨k0,lo*s',none⟩ m cap _ a1 (λj u hj=>?_) (λu a6=>?_),aa⟩
      .rw[Ai]at hj;split at hj;.rw[Bj,Ap]at hj;grind[xV,World.cell?]
       grind
      .obtain⟨k,hk⟩:=Aq.1 a6;have aq:k<(za7 rows lo m).flatten.length:=by grind
       obtain⟨z,hz,rz⟩:=aa.get k _ (A0 aq);rw[hk]at hz;cases hz;exact rz.oneCell
   grind
  grind
 grind
theorem xG8{y:V}{s:Nat}(hm:Mem c w L σ β)(ah:zw3 σ y)(hy:zJ6 (lenT P tx) σ y=some r2)(r:RdS w L σ β y x)(hs:0<s)(hu:uni s r2):∃news,Src P s tx x r2.length news w/\All2 (RdC w L σ β) r2.flatten news:=by
 unfold zJ6 at hy;split at hy
 .rename_i gg rows;split at hy;.rename_i h2;cases hy;obtain⟨el,ab⟩:=zN2 h2;obtain⟨news,q1,q2⟩:=(zw0 r).src ab hs hu;exact⟨news,q1,q2.imp λ_ _=>RdC.of_pure⟩
  grind
 .rename_i q;split at hy
  .rename_i h1;cases hy;have h1:=xe8 h1;have hx:=wV r;subst hx;by_cases hq:q=[];.subst hq;refine⟨[],⟨.inr h1,λ_=>rfl,?_,?_,by simp[zP],sm⟩,tV⟩;all_goals simp[Builtin.firstCells]
   .have ar:s=1:=by obtain⟨b,rest,rfl⟩:=Di hq;exact(hu [.int .u8 b.toNat] (by simp[zP])).symm
    subst ar;have:=Src.ofString w h1 ⟨q.toArray⟩;rw[zu0]at this;have hl:(zP q).length=q.length:=by simp[zP]
    exact⟨_,by grind,(zp6 q).imp λ_ _=>RdC.of_pure⟩
  grind
 .rename_i id s1 n lo m;split at hy
  .rename_i h2;obtain⟨el,ab⟩:=zN2 h2;split at hy
   .rename_i rows s' hσ;cases hy;simp only[zw3,hσ]at ah;obtain⟨rfl,hn,aA⟩:=ah;obtain⟨ad,cap,hv,aB,ai,hc⟩:=r;have aj:((rows.drop lo).take m).length=m:=by grind
    by_cases h0:m=0;.subst h0;have ak:(rows.drop lo).take 0=[]:=sm;rw[ak,hv];cases ad with |none=>exact⟨[],Src.ofNil w ab cap,tV⟩|some ad=>exact⟨[],(by grind[Src.ofSlice]),tV⟩
    .rcases hc with hd|⟨rows2,al,aC,hb⟩;.grind
     .rw[hσ]at al;cases al;obtain⟨b0,c0,hβ,hcap,aD,af⟩:=hb hn.symm;clear hb ai;have aE:0<m:=om;have an:lo<c0:=om;obtain⟨k0,rfl,rfl⟩:=af an;clear af;obtain⟨a2,a1,e1,a6,aF,ao,hok⟩:=hm.objs id _ _ hσ hβ;cases e1;obtain⟨b',arr,T,fz,e2,hh,_,aG,_,ag⟩:=hok (Nat.lt_of_le_of_lt (A4 _) an);cases e2;clear hok;have au:s'=s:=by have ae:0<((rows.drop lo).take m).length:=om;have h1:=hu _ (Aa ae);grind
      subst au;have aH:=zW ao;have av:=zW hu;rw[aj]at av;have aw:(lo+m)*s'<=rows.length*s':=Ao _ om;rw[B4]at aw;have aI:rows.length*s'<=arr.size:=by have:=ag.length;grind
      have a7:∀k v y,((rows.drop lo).take m).flatten[k]?=some v->arr[lo*s'+k]?=some y->RdC w L σ β v y:=by
       intro k v y hk aJ;have aq:k<m*s':=by grind
       have hi:k/s'<m:=by rw[Cw hs];omega
       have hj:k%s'<s':=Do _ hs;have ax:k=k/s'*s'+k%s':=by rw[Dh];exact(Dv k s').symm
       rw[ax,yP _ _ hu hj]at hk;simp only[Ai,if_pos hi,Bj]at hk;have ae:lo+k/s'<rows.length:=om;rw[A0 ae]at hk;simp only[B3]at hk;have hf:rows.flatten[(lo+k/s')*s'+k%s']?=some v:=by rw[yP _ _ ao hj,A0 ae];exact hk
       obtain⟨z,hz,rz⟩:=ag.get _ _ hf;have a8:(lo+k/s')*s'+k%s'=lo*s'+k:=by grind
       grind
      have ay:((arr.toList.drop (lo*s')).take (m*s')).length=m*s':=by grind
      rw[aj,hv];have aa:All2 (RdC w L σ β) ((rows.drop lo).take m).flatten ((arr.toList.drop (lo*s')).take (m*s')):=by grind[All2.of]
      refine⟨_,Src.ofSlice w ab ⟨k0,lo*s',none⟩ m cap _ ay (λj u hj=>?_) (λu az=>?_),aa⟩
      .rw[Ai]at hj;split at hj;.rw[Bj,Ap]at hj;rw[xV];simp only[World.cell?,hh];grind
       grind
      .obtain⟨k,hk⟩:=Aq.1 az;have aq:k<((rows.drop lo).take m).flatten.length:=by grind
       obtain⟨z,hz,rz⟩:=aa.get k _ (A0 aq);rw[hk]at hz;cases hz;exact rz.oneCell
   grind
  grind
 grind
theorem zf2(ht:P.underlying t=some (.slice el))(hi:P.info? el=some i)(hs:Src P i.size tx x 0 [] w)(hle:n<=cap):(Builtin.append_ #[t,tx] ty #[.slice base n cap,x]).run P w=.ok (.slice base n cap) w:=by have hc:=hs.cells;have hl:=hs.len w;rcases hs.kind with⟨e',hk⟩|hk<;>cases base<;>simp[Builtin.append_,run_underlying ht,run_underlying hk,sizeOf,typeInfo,hi,hl,hle,hc,storeCells]
theorem zf9{b o m:Nat}{news:List Value}{arr:Array Value}{T:TypeId}{fz:Nat×Nat}(ht:P.underlying t=some (.slice el))(hi:P.info? el=some i)(hs:Src P i.size tx x m news w)(hle:n+m<=cap)(hh:w.heap[b]?=some (.cells arr T fz))(hf:zf4 arr fz)(ab:o+n*i.size+news.length<=arr.size):(Builtin.append_ #[t,tx] ty #[.slice (some ⟨b,o,none⟩) n cap,x]).run P w=.ok (.slice (some ⟨b,o,none⟩) (n+m) cap) (zX w b (.cells (zY arr (o+n*i.size) news) T fz)):=by have hc:=hs.cells;have hl:=hs.len w;have aa:=xJ P b (o+n*i.size) T fz news 0 arr w hh hf om hs.one;rw[D1]at aa;rcases hs.kind with⟨e',hk⟩|hk<;>simp[Builtin.append_,run_underlying ht,run_underlying hk,sizeOf,typeInfo,hi,hl,hle,hc,xV,aa]
theorem yr4{P:Program}{w:World}{L:Nat->Nat}{rows:List (List V)}{s:Nat}(ht:P.underlying t=some (.slice el))(hs:0<s)(hu:uni s rows)(r:RdP w L (.sl .ro rows) (.slice base rows.length cap)):∃olds,(Builtin.firstCells s rows.length (.slice base rows.length cap)).run P w.drew=.ok olds.toArray w.drew/\All2 (RdP w L) rows.flatten olds/\olds.length=rows.length*s:=by obtain⟨news,h1,h2⟩:=r.src ht hs hu;exact⟨news,h1.cellsD,h2,h1.newsLen⟩
theorem zS6{z:Value}(hu:P.underlying t=some (.slice el))(hi:P.info? el=some i)(hz:i.zero=some z)(af:z.cells.size=i.size)(ag:0<i.bytes){k:Nat}{olds news:List Value}{y:Value}(hold:(Builtin.firstCells i.size n (.slice base n cap)).run P w.drew=.ok olds.toArray w.drew)(ad:olds.length=n*i.size)(aa:Src P i.size tx y k news w)(ae:cap<n+k)(hbound:(n+k)*i.bytes<=140737488355328):∃(ab:Nat)(arr:Array Value),n+k<=ab/\ab*i.size<=arr.size/\arr.toList.take ((n+k)*i.size)=olds++news/\(Builtin.append_ #[t,tx] ty #[.slice base n cap,y]).run P w=.ok (.slice (some ⟨w.heap.size,0,none⟩) (n+k) ab) (w.drew.alloc (.cells arr el)):=by
 have hb:n+k<=140737488355328:=Ax (Nat.le_mul_of_pos_right _ ag) hbound;have hr:=run_append_grow_src (P:=P) w t tx ty el i z hu hi hz base n cap olds hold y k news aa ae om (growslice_fits ae hbound);have ah:=grownCap_ge w (n+k) cap el;refine⟨grownCap w (n+k) cap el,_,ah,?_,?_,hr⟩
 .have hm:grownCap w (n+k) cap el*i.size=(n+k)*i.size+(grownCap w (n+k) cap el-(n+k))*i.size:=by rw[<-B4];grind
  simp only[Array.size_append,List.size_toArray,Ak,size_zeroCells,af,ad,aa.newsLen];grind
 .rw[Array.toList_append,Cp (by simp only[Ak,ad,aa.newsLen];grind)];rw[Al (by simp only[Ak,ad,aa.newsLen];grind)]
theorem yh3{rows:List (List V)}{s:Nat}{a0:Option Addr}(hu:P.underlying t=some (.slice el))(hok:ObOk w L σ β (.lst rows s) (.slice a0 rows.length cap)):∃olds,(Builtin.firstCells s rows.length (.slice a0 rows.length cap)).run P w.drew=.ok olds.toArray w.drew/\olds.length=rows.length*s/\All2 (RdC w L σ β) rows.flatten olds:=by
 obtain⟨a',ah,e,hcap,hs,ai,hx⟩:=hok;cases e;by_cases h0:0<cap
 .obtain⟨b,arr,T,fz,rfl,hh,_,aj,_,aa⟩:=hx h0;have ak:rows.length*s<=cap*s:=Ao _ hcap;have hl:(arr.toList.take (rows.length*s)).length=rows.length*s:=by grind
  have ab:=Src.ofSlice (P:=P) (size:=s) w hu ⟨b,0,none⟩ rows.length cap (arr.toList.take (rows.length*s)) hl (by grind[xV,World.cell?]) (λu ad=>by
   obtain⟨k,hk⟩:=Aq.1 ad;have ae:k<rows.flatten.length:=by rw[aa.length];grind
   obtain⟨z,hz,rz⟩:=aa.get k _ (A0 ae);rw[hk]at hz;cases hz;exact rz.oneCell);exact⟨_,ab.cellsD,hl,aa⟩
 .have af:cap=0:=om;subst af;have ag:rows=[]:=(by grind);subst ag;cases a0 with |none=>exact⟨[],(by rfl),sm,tV⟩|some a0=>exact⟨[],(Src.ofSlice (P:=P) (size:=s) w hu a0 0 0 [] sm (λj u h=>by simp at h) (λ_ h=>by cases h)).cellsD,sm,tV⟩
theorem yk4{rows:List (List V)}{s p:Nat}(h:∀r∈rows,r.length=s)(h2:∀r∈r2,r.length=s)(hp:p+r2.length<=rows.length):(rows.take p++r2++rows.drop (p+r2.length)).flatten=putCells rows.flatten (p*s) r2.flatten:=by
 have h1:∀q,q<=rows.length->(rows.take q).flatten=rows.flatten.take (q*s):=λq hq=>by
  have e:rows.flatten=(rows.take q).flatten++(rows.drop q).flatten:=by grind[Bf]
  have hl:=zW (rows:=rows.take q) (s:=s) λr hr=>h r (Bs hr);grind
 have h3:∀q,q<=rows.length->(rows.drop q).flatten=rows.flatten.drop (q*s):=λq hq=>by
  have e:rows.flatten=(rows.take q).flatten++(rows.drop q).flatten:=by grind[Bf]
  have hl:=zW (rows:=rows.take q) (s:=s) (by grind);grind
 have aa:=zW h2;unfold putCells;rw[C7,C7,h1 p om,h3 _ hp,aa,B4]
theorem xp5{dst:Option Tmp}{pos:String}{aft:Array Edge}{g:Option (Nat×Bool)}(t tx:TypeId)(x y:Operand)(h:Sim c nt e σ a w L β):ROk (zg9 (elT P t) (lenT P tx) σ (zD e x) (zD e y)) σ (Yield P c ⟨dst,.call ⟨.builtin .append,#[x,y],#[t,tx]⟩,ty,pos,aft,g⟩ a w L σ β):=by
 have hx:=h.eval x;have hy:=h.eval y;unfold zg9;split
 .rename_i s bo r2 aX aw;obtain⟨el,i,z,hu,hi,hz,rfl,rfl,aI,hs,aJ⟩:=zd9 aX;have ak:∀{v w'},(Builtin.append_ #[t,tx] ty #[a.eval x,a.eval y]).run P w=.ok v w'->(execOp a.eval ⟨dst,.call ⟨.builtin .append,#[x,y],#[t,tx]⟩,ty,pos,aft,g⟩).run P w=.ok (.value v) w':=by simp_all[execOp,resolve,invoke,builtin]
  have grow:∀{base:Option Addr}{n cap:Nat}{r1:List (List V)},zn8 σ (zD e y)->a.eval x=.slice base n cap->r1.length=n->RdP w L (.sl .ro r1) (.slice base n cap)->uni i.size r1->uni i.size r2->cap<n+r2.length->(n+r2.length)*i.bytes<=140737488355328->∃xs ah,n+r2.length<=ah/\All2 (RdP w L) (r1++r2).flatten xs/\∃arr:Array Value,ah*i.size<=arr.size/\(∀(k:Nat) v,xs[k]?=some v->arr[k]?=some v)/\(execOp a.eval ⟨dst,.call ⟨.builtin .append,#[x,y],#[t,tx]⟩,ty,pos,aft,g⟩).run P w=.ok (.value (.slice (some ⟨w.heap.size,0,none⟩) (n+r2.length) ah)) (w.drew.alloc (.cells arr el)):=by
   intro base n cap r1 aj hv hn ax ai ae aK hbound;subst hn;obtain⟨news,ab,af⟩:=yk0 (P:=P) h.mem aj aw hy hs ae;obtain⟨olds,hold,au,aE⟩:=yr4 hu hs ai ax;have hb:r1.length+r2.length<=140737488355328:=Ax (Nat.le_mul_of_pos_right _ aJ) hbound;have hr:=run_append_grow_src (P:=P) w t tx ty el i z hu hi hz base r1.length cap olds hold (a.eval y) r2.length news ab aK om (growslice_fits aK hbound);rw[<-hv]at hr;have aA:=grownCap_ge w (r1.length+r2.length) cap el;refine⟨olds++news,grownCap w (r1.length+r2.length) cap el,aA,?_,_,?_,?_,ak hr⟩;.rw[C7];exact au.append af
   .have hm:grownCap w (r1.length+r2.length) cap el*i.size=(r1.length+r2.length)*i.size+(grownCap w (r1.length+r2.length) cap el-(r1.length+r2.length))*i.size:=by rw[<-B4];grind
    simp only[Array.size_append,List.size_toArray,Ak,size_zeroCells,aI,aE,ab.newsLen];grind
   grind
  split;·
   rename_i r1 h1;rw[h1]at hx;rintro⟨aj,hbound,ai,ae⟩;have aL:RdP w L (.sl .full r1) (a.eval x):=hx;obtain⟨base,cap,hv,aF,aY⟩:=aL.len;have hcap:=aY rfl;subst hcap;by_cases h0:r2=[]
   .subst h0;obtain⟨news,ab,af⟩:=yk0 (P:=P) h.mem aj aw hy hs ae;have a1:news=[]:=B7 (by rw[ab.newsLen];simp);subst a1;have hr:=zf2 (P:=P) (ty:=ty) hu hi ab aF (base:=base);rw[<-hv]at hr;have aa:=h.mem.own (s:=i.size) (n:=r1.length) (a:=base) hs;refine⟨_,w,L,_,.inl (ak hr),by simpa using aa,Le.refl _ _,Ext.push _ _ h.mem.len _ _,?_⟩;rw[Az];refine⟨RdP.weak aL,r1.length,i.size,?_,om,λ_=>?_,ai⟩;.simp
    .rw[<-h.mem.len,hv];simp
   .have al:0<r2.length:=(by grind);obtain⟨xs,ah,aA,af,arr,ay,aG,a6⟩:=grow aj hv rfl (by grind[RdP.weak]) ai ae om hbound;have hd:=h.mem.drew;have hlen:(r1++r2).length=r1.length+r2.length:=sm;obtain⟨aa,hle,av⟩:=hd.1.appPush (s:=i.size) (cap:=ah) (rows:=r1++r2) (T:=el) hs (zb7 ai ae) (af.imp (by grind[RdP.mono])) om ay aG;rw[hlen]at aa av;refine⟨_,_,_,_,.inl a6,aa,hd.2.trans ?_,Ext.push _ _ h.mem.len _ _,?_⟩;.grind
    .refine⟨av,r1.length+r2.length,i.size,sm,om,λ_=>?_,zb7 ai ae⟩;rw[<-h.mem.len];simp
  .rename_i id r1 h1;rw[h1]at hx;split
   .rename_i n s' hσ;rintro⟨aj,rfl,rfl,hbound,ae⟩;obtain⟨ax,n',s2,aP,bm,hβ,ai⟩:=hx;rw[hσ]at aP;cases aP;have aB:=hβ rfl;obtain⟨base,cap,hv,aF,_⟩:=ax.len;by_cases h0:r2=[];.subst h0;obtain⟨news,ab,af⟩:=yk0 (P:=P) h.mem aj aw hy hs ae;have a1:news=[]:=B7 (by rw[ab.newsLen];simp);subst a1;have hr:=zf2 (P:=P) (ty:=ty) hu hi ab aF (base:=base);rw[<-hv]at hr;have ar:σ.set id (.app (r1.length+([]:List (List V)).length) i.size)=σ:=(by grind[yK]);rw[ar];refine⟨_,w,L,β,.inl (ak hr),h.mem,Le.refl _ _,Ext.refl _ _,?_⟩;rw[Az];exact⟨ax,r1.length,i.size,hσ,om,hβ,ai⟩
    .have al:0<r2.length:=(by grind);have hlen:(r1++r2).length=r1.length+r2.length:=sm;have a7:id<σ.length:=(by grind);by_cases ao:r1.length+r2.length<=cap;.obtain⟨a',aD,e1,aZ,aQ,hok⟩:=h.mem.objs id _ _ hσ aB;rw[hv]at e1;cases e1;obtain⟨b,o',arr,T,fz,rfl,hh,hf,ay,hL⟩:=hok om;obtain⟨news,ab,af⟩:=yk0 (P:=P) h.mem aj aw hy hs ae;rw[hv]at ax aB;obtain⟨bn,T',bp,ba,bb,a8,aa,hle,ag,av⟩:=h.mem.appIn hσ aB rfl ax ai ae af al ao;have hr:=zf9 (P:=P) (ty:=ty) hu hi ab ao ba bb a8;rw[<-hv]at hr;refine⟨_,_,_,_,(by grind),aa,hle,ag,av,r1.length+r2.length,i.size,?_,om,λ_=>?_,zb7 ai ae⟩;all_goals grind
     .obtain⟨xs,ah,aA,af,arr,ay,aG,a6⟩:=grow aj hv rfl (by grind) ai ae om hbound;have hd:=h.mem.drew;obtain⟨aa,hle,ag,av⟩:=hd.1.appNew (cap:=ah) (rows:=r1++r2) (arr:=arr) (T:=el) hσ aB hs (zb7 ai ae) (af.imp (by grind[RdP.mono])) om om ay aG;rw[hlen]at aa ag av hle;refine⟨_,_,_,_,.inl a6,aa,hd.2.trans hle,ag,av,r1.length+r2.length,i.size,?_,om,λ_=>?_,zb7 ai ae⟩;.grind
      .rw[Ba (by rw[h.mem.len];exact a7)];rfl
   trivial
  .rename_i id s1 n lo m h1;rw[h1]at hx;obtain⟨ad,cap,hv,aR,al,hc⟩:=hx;split
   .rename_i rows s' hσ;have cur:rows.length=n->∃b c0,β[id]?=some (.slice b n c0)/\cap=c0-lo/\lo<=c0/\(lo<c0->∃k,b=some ⟨k,0,none⟩/\ad=some ⟨k,lo*s1,none⟩):=(by grind);have a7:id<σ.length:=(by grind);split
    .rename_i bc;rintro⟨aj,rfl,rfl,hn,ae⟩;obtain⟨b0,c0,hβ,rfl,aE,an⟩:=cur hn;obtain⟨a2,aD,e1,aS,aQ,az,hok⟩:=h.mem.objs id _ _ hσ hβ;cases e1;clear hok cur hc;obtain⟨news,ab,af⟩:=yk0 (P:=P) h.mem aj aw hy hs ae;by_cases h0:r2=[];.subst h0;have a1:news=[]:=B7 (by rw[ab.newsLen];simp);subst a1;have hr:=zf2 (P:=P) (ty:=ty) hu hi ab aR.1 (base:=ad);rw[<-hv]at hr;have ar:σ.set id (.lst (rows.take (lo+m)++[]++rows.drop (lo+m+([]:List (List V)).length)) i.size)=σ:=(by simp_all[yK]);rw[ar];refine⟨_,w,L,β,.inl (ak hr),h.mem,Le.refl _ _,Ext.refl _ _,?_⟩;exact⟨ad,c0-lo,hv,aR,al,(by grind)⟩
     .have bq:0<r2.length:=(by grind);clear al;have bd:lo<c0:=om;obtain⟨k0,rfl,rfl⟩:=an bd;clear an;have aq:(rows.take (lo+m)++r2++rows.drop (lo+m+r2.length)).length=rows.length:=by simp;omega
      have aT:(lo+m)*i.size<=rows.length*i.size:=Ao _ om;obtain⟨arr,T,fz,hh,hf,a8,aa,hle,ag⟩:=h.mem.lstPut (off:=(lo+m)*i.size) (vs:=r2.flatten) (rows2:=rows.take (lo+m)++r2++rows.drop (lo+m+r2.length)) hσ hβ om (af.imp λ_ _=>RdC.of_pure) aT (λr hr=>by
        rcases Av.1 hr with hr|hr
        .rcases Av.1 hr with hr|hr;.grind
         .exact ae r hr
        grind) (yk4 az ae om) om om;have ar:β.set id (.slice (some ⟨k0,0,none⟩) (rows.take (lo+m)++r2++rows.drop (lo+m+r2.length)).length c0)=β:=yK _ _ _ (by grind);rw[ar]at aa ag;have hr:=zf9 (P:=P) (ty:=ty) (o:=lo*i.size) (n:=m) (cap:=c0-lo) hu hi ab om hh hf (by grind);rw[<-hv,<-B4]at hr;refine⟨_,_,_,_,.inl (ak hr),aa,hle,ag,?_⟩;exact⟨_,c0-lo,rfl,om,sm,(by grind)⟩
    .rename_i bc;rintro⟨aj,rfl,rfl,hn,ae,rfl,rfl,hbound⟩;obtain⟨b0,c0,hβ,br,aE,an⟩:=cur hn;have aU:c0=cap:=om;subst aU;have aV:=h.mem.objs id _ _ hσ hβ;obtain⟨a2,aD,e1,aS,aQ,az,hok⟩:=aV;cases e1;clear hok cur hc al;obtain⟨news,ab,af⟩:=yk0 (P:=P) h.mem aj aw hy hs ae;have aq:(rows++r2).length=rows.length+r2.length:=sm;by_cases ao:rows.length+r2.length<=c0
     .have bf:0<c0:=om;obtain⟨k0,rfl,rfl⟩:=an bf;clear an;obtain⟨arr,T,fz,hh,hf,a8,aa,hle,ag⟩:=h.mem.lstPut (off:=rows.length*i.size) (vs:=r2.flatten) (rows2:=rows++r2) hσ hβ om (af.imp λ_ _=>RdC.of_pure) om (zb7 az ae) (by unfold putCells;rw[C7,Al (by rw[zW az];omega),Bq (by rw[zW az];omega),Az]) om om;rw[Dj]at hv;have hr:=zf9 (P:=P) (ty:=ty) (o:=0) (n:=rows.length) (cap:=c0) hu hi ab ao hh hf om;rw[<-hv,Ad]at hr;rw[aq]at aa ag;refine⟨_,_,_,_,.inl (ak hr),aa,hle,ag,?_⟩;exact⟨_,c0,rfl,om,sm,.inr ⟨_,Ba a7,om,(by grind)⟩⟩
     .obtain⟨olds,hold,aW,au⟩:=yh3 (P:=P) hu (h.mem.objs id _ _ hσ hβ);have bg:ad=b0∨c0=0:=by grind
      clear an;have aH:(Builtin.firstCells i.size rows.length (.slice ad rows.length c0)).run P w.drew=.ok olds.toArray w.drew:=by
       rcases bg with rfl|rfl;.omega
       .have bh:rows=[]:=(by grind);subst bh;have bj:olds=[]:=B7 (by grind);subst bj;cases ad with |none=>rfl|some a0=>exact(Src.ofSlice (P:=P) (size:=i.size) w hu a0 0 0 [] sm sm sm).cellsD
      obtain⟨ah,arr,aA,ay,bk,hr⟩:=zS6 (P:=P) (w:=w) (tx:=tx) (ty:=ty) hu hi hz aI aJ aH aW ab om hbound;rw[<-hv]at hr;have hd:=h.mem.drew;have aC:All2 (RdC w.drew L σ β) (rows++r2).flatten (arr.toList.take ((rows++r2).length*i.size)):=by rw[aq,bk,C7];exact(au.imp λ_ _=>RdC.mono hd.2 (Ext.refl _ _)).append (af.imp λ_ _ q=>RdC.of_pure (q.mono hd.2))
      obtain⟨aa,hle,ag⟩:=hd.1.lstRe (rows2:=rows++r2) (cap:=ah) (T:=el) hσ hβ hs (zb7 az ae) aC om om ay;rw[aq]at aa ag;refine⟨_,_,_,_,.inl (ak hr),aa,hd.2.trans hle,ag,?_⟩;exact⟨_,ah,rfl,om,sm,.inr ⟨_,Ba a7,om,λ_=>⟨_,ah,Ba (by rw[h.mem.len];exact a7),rfl,om,sm⟩⟩⟩
   trivial
  trivial
 trivial
theorem yW8{dst:Option Tmp}{pos:String}{aft:Array Edge}{g:Option (Nat×Bool)}(t tx:TypeId)(x y:Operand)(h:Sim c nt e σ a w L β):ROk (ze0 (elT P t) (lenT P tx) σ (zD e x) (zD e y)) σ (Yield P c ⟨dst,.call ⟨.builtin .append,#[x,y],#[t,tx]⟩,ty,pos,aft,g⟩ a w L σ β):=by
 have hx:=h.eval x;have hy:=h.eval y;unfold ze0;split
 .rename_i id s1 n lo m h1;split
  .rename_i s aS r2 a6 az;obtain⟨el,i,z,hu,hi,hz,rfl,rfl,a7,hs,a8⟩:=zd9 a6;have ah:∀{v w'},(Builtin.append_ #[t,tx] ty #[a.eval x,a.eval y]).run P w=.ok v w'->(execOp a.eval ⟨dst,.call ⟨.builtin .append,#[x,y],#[t,tx]⟩,ty,pos,aft,g⟩).run P w=.ok (.value v) w':=by intro v w' hr;simp[execOp,resolve,invoke,builtin,hr]
   rw[h1]at hx;obtain⟨ad,cap,hv,aF,ar,hc⟩:=hx;split
   .rename_i rows s' hσ;have cur:rows.length=n->∃b c0,β[id]?=some (.slice b n c0)/\cap=c0-lo/\lo<=c0/\(lo<c0->∃k,b=some ⟨k,0,none⟩/\ad=some ⟨k,lo*s1,none⟩):=λhn=>by
     rcases hc with hd|⟨rows2,aG,bf,hb⟩;.rw[hσ]at hd;cases hd
     .rw[hσ]at aG;cases aG;exact hb hn.symm
    have av:id<σ.length:=(A3.1 hσ).1;split
    .rename_i aH;rintro⟨aw,rfl,rfl,hn,aj⟩;obtain⟨b0,c0,hβ,rfl,ax,af⟩:=cur hn;obtain⟨a2,aI,e1,aJ,aT,an,hok⟩:=h.mem.objs id _ _ hσ hβ;cases e1;clear hok cur hc;obtain⟨news,ag,ak⟩:=xG8 (P:=P) h.mem aw az hy hs aj;by_cases h0:r2=[];.subst h0;have aA:news=[]:=B7 (by rw[ag.newsLen];simp);subst aA;have hr:=zf2 (P:=P) (ty:=ty) hu hi ag aF.1 (base:=ad);rw[<-hv]at hr;have ay:σ.set id (.lst (rows.take (lo+m)++[]++rows.drop (lo+m+([]:List (List V)).length)) i.size)=σ:=yK _ _ _ (by simp[hσ]);rw[ay];refine⟨_,w,L,β,.inl (ah hr),h.mem,Le.refl _ _,Ext.refl _ _,?_⟩;exact⟨ad,c0-lo,hv,aF,ar,.inr ⟨rows,hσ,D2 hn.symm,λ_=>⟨b0,c0,hβ,rfl,ax,af⟩⟩⟩
     .have bg:0<r2.length:=List.length_pos_iff.2 h0;clear ar;have aU:lo<c0:=by clear af;omega
      obtain⟨k0,rfl,rfl⟩:=af aU;clear af;have aa:(rows.take (lo+m)++r2++rows.drop (lo+m+r2.length)).length=rows.length:=by simp;omega
      have aK:(lo+m)*i.size<=rows.length*i.size:=Ao _ om;obtain⟨arr,T,fz,hh,hf,au,ab,hle,ae⟩:=h.mem.lstPut (off:=(lo+m)*i.size) (vs:=r2.flatten) (rows2:=rows.take (lo+m)++r2++rows.drop (lo+m+r2.length)) hσ hβ om ak aK (λr hr=>by
        rcases Av.1 hr with hr|hr
        .rcases Av.1 hr with hr|hr;.exact an r (Bs hr)
         .exact aj r hr
        .exact an r (C6 hr)) (yk4 an aj om) (by rw[aa];exact A5 _) (by rw[aa];omega);have ay:β.set id (.slice (some ⟨k0,0,none⟩) (rows.take (lo+m)++r2++rows.drop (lo+m+r2.length)).length c0)=β:=yK _ _ _ (by rw[aa,hn];exact hβ);rw[ay]at ab ae;have hr:=zf9 (P:=P) (ty:=ty) (o:=lo*i.size) (n:=m) (cap:=c0-lo) hu hi ag om hh hf (by rw[B4]at au;exact au);rw[<-hv,<-B4]at hr;refine⟨_,_,_,_,.inl (ah hr),ab,hle,ae,?_⟩;exact⟨_,c0-lo,rfl,om,λ_=>⟨_,_,rfl⟩,.inr ⟨_,Ba av,by rw[aa];omega,λ_=>⟨_,c0,hβ,rfl,ax,λ_=>⟨k0,rfl,rfl⟩⟩⟩⟩
    .rename_i aH;rintro⟨aw,rfl,rfl,hn,aj,rfl,rfl,hbound⟩;obtain⟨b0,c0,hβ,aV,ax,af⟩:=cur hn;have aL:c0=cap:=by rw[aV,Nat.sub_zero]
     subst aL;have aP:=h.mem.objs id _ _ hσ hβ;obtain⟨a2,aI,e1,aJ,aT,an,hok⟩:=aP;cases e1;clear hok cur hc ar;obtain⟨news,ag,ak⟩:=xG8 (P:=P) h.mem aw az hy hs aj;have aa:(rows++r2).length=rows.length+r2.length:=sm;by_cases ao:rows.length+r2.length<=c0
     .have aW:0<c0:=by clear af;rw[Ad]at aH;omega
      obtain⟨k0,rfl,rfl⟩:=af aW;clear af;obtain⟨arr,T,fz,hh,hf,au,ab,hle,ae⟩:=h.mem.lstPut (off:=rows.length*i.size) (vs:=r2.flatten) (rows2:=rows++r2) hσ hβ om ak (A5 _) (zb7 an aj) (by unfold putCells;rw[C7,Al (by rw[zW an];exact A5 _),Bq (by rw[zW an];omega),Az]) (by rw[aa];omega) (by rw[aa];exact ao);rw[Dj]at hv;have hr:=zf9 (P:=P) (ty:=ty) (o:=0) (n:=rows.length) (cap:=c0) hu hi ag ao hh hf (by rw[Ad];exact au);rw[<-hv,Ad]at hr;rw[aa]at ab ae;refine⟨_,_,_,_,.inl (ah hr),ab,hle,ae,?_⟩;exact⟨_,c0,rfl,⟨ao,om⟩,λ_=>⟨_,_,rfl⟩,.inr ⟨_,Ba av,by rw[aa];exact A5 _,λ_=>⟨_,c0,Ba (by rw[h.mem.len];exact av),rfl,A4 _,λ_=>⟨k0,rfl,by rw[Dj]⟩⟩⟩⟩
     .obtain⟨olds,hold,a1,aq⟩:=yh3 (P:=P) hu (h.mem.objs id _ _ hσ hβ);have aX:ad=b0∨c0=0:=by
       by_cases h0:0<c0;.obtain⟨k0,rfl,rfl⟩:=af h0;exact .inl (by rw[Dj])
       .exact .inr (Nat.eq_zero_of_not_pos h0)
      clear af;have aB:(Builtin.firstCells i.size rows.length (.slice ad rows.length c0)).run P w.drew=.ok olds.toArray w.drew:=by
       rcases aX with rfl|rfl;.exact hold
       .have aY:rows=[]:=B7 om;subst aY;have aZ:olds=[]:=B7 (by rw[a1];simp);subst aZ;cases ad with |none=>exact(Src.ofNil (P:=P) (size:=i.size) w hu 0).cellsD|some a0=>exact(Src.ofSlice (P:=P) (size:=i.size) w hu a0 0 0 [] sm (λj u h=>by simp at h) (λ_ h=>by cases h)).cellsD
      obtain⟨ai,arr,aC,aD,aE,hr⟩:=zS6 (P:=P) (w:=w) (tx:=tx) (ty:=ty) hu hi hz a7 a8 aB a1 ag om hbound;rw[<-hv]at hr;have hd:=h.mem.drew;have al:All2 (RdC w.drew L σ β) (rows++r2).flatten (arr.toList.take ((rows++r2).length*i.size)):=by rw[aa,aE,C7];exact(aq.imp λ_ _=>RdC.mono hd.2 (Ext.refl _ _)).append (ak.imp λ_ _=>RdC.mono hd.2 (Ext.refl _ _))
      obtain⟨ab,hle,ae⟩:=hd.1.lstRe (rows2:=rows++r2) (cap:=ai) (T:=el) hσ hβ hs (zb7 an aj) al om om aD;rw[aa]at ab ae;refine⟨_,_,_,_,.inl (ah hr),ab,hd.2.trans hle,ae,?_⟩;exact⟨_,ai,rfl,⟨aC,om⟩,λ_=>⟨_,_,rfl⟩,.inr ⟨_,Ba av,by rw[aa];exact A5 _,λ_=>⟨_,ai,Ba (by rw[h.mem.len];exact av),rfl,A4 _,λ_=>⟨_,rfl,by rw[Dj];rfl⟩⟩⟩⟩
   .trivial
  .trivial
 split
 .rename_i s aS r2 a6 az;obtain⟨el,i,z,hu,hi,hz,rfl,rfl,a7,hs,a8⟩:=zd9 a6;have ah:∀{v w'},(Builtin.append_ #[t,tx] ty #[a.eval x,a.eval y]).run P w=.ok v w'->(execOp a.eval ⟨dst,.call ⟨.builtin .append,#[x,y],#[t,tx]⟩,ty,pos,aft,g⟩).run P w=.ok (.value v) w':=by intro v w' hr;simp[execOp,resolve,invoke,builtin,hr]
  split
  .rename_i r1 h1;rw[h1]at hx;rintro⟨aw,hbound,aQ,aj,ba⟩;have aR:RdP w L (.sl .full r1) (a.eval x):=hx;obtain⟨base,cap,hv,bb,bc⟩:=aR.len;have hcap:=bc rfl;subst hcap;obtain⟨news,ag,ak⟩:=yk0 (P:=P) h.mem aw az hy hs aj;by_cases h0:r2=[];.have bd:=ba h0;subst h0 bd;have aA:news=[]:=B7 (by rw[ag.newsLen];simp);subst aA;have hr:=zf2 (P:=P) (ty:=ty) hu hi ag bb (base:=base);rw[<-hv]at hr;have ab:=h.mem.lstNil (s:=i.size) (a:=base) hs;refine⟨_,w,L,_,.inl (ah hr),by simpa using ab,Le.refl _ _,Ext.push _ _ h.mem.len _ _,?_⟩;refine⟨base,0,hv,⟨A5 _,A5 _⟩,λq=>by simp at q,.inr ⟨[],sm,sm,λ_=>⟨base,0,?_,rfl,A5 _,λq=>om⟩⟩⟩;rw[<-h.mem.len];simp
   .have ar:0<r2.length:=List.length_pos_iff.2 h0;obtain⟨olds,hold,aq,ax⟩:=yr4 hu hs aQ (show RdP w L (.sl .ro r1) (.slice base r1.length r1.length)by rw[<-hv];exact RdP.weak aR);obtain⟨ai,arr,aC,aD,aE,hr⟩:=zS6 (P:=P) (w:=w) (tx:=tx) (ty:=ty) hu hi hz a7 a8 hold ax ag om hbound;rw[<-hv]at hr;have hd:=h.mem.drew;have aa:(r1++r2).length=r1.length+r2.length:=sm;have al:All2 (RdC w.drew L σ β) (r1++r2).flatten (arr.toList.take ((r1++r2).length*i.size)):=by rw[aa,aE,C7];exact(aq.imp λ_ _ q=>RdC.of_pure (q.mono hd.2)).append (ak.imp λ_ _ q=>RdC.of_pure (q.mono hd.2))
    obtain⟨ab,hle,ae⟩:=hd.1.lstPush (cap:=ai) (T:=el) hs (zb7 aQ aj) al om aD;rw[aa]at ab ae;refine⟨_,_,_,_,.inl (ah hr),ab,hd.2.trans hle,ae,?_⟩;refine⟨_,ai,rfl,⟨aC,om⟩,λ_=>⟨_,_,rfl⟩,.inr ⟨r1++r2,sm,by rw[aa];exact A5 _,λ_=>⟨_,ai,?_,rfl,A4 _,λ_=>⟨_,rfl,by rw[Dj]⟩⟩⟩⟩;rw[<-h.mem.len];simp
  .trivial
 .trivial
end
end Go.Vx
