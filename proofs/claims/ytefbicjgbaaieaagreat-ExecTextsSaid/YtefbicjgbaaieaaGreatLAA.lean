/-
  Operations over trees: indexes, slices, lengths, appends, literals, conversions.
  No condition: a library text; nothing of the program is named.
-/
import Derived.WalkKit
import Derived.Deep.AppendSrc
import Derived.Laws.StructEq
import Derived.Laws.BytesArg
import Derived.Laws.IdiomStrings
import Derived.Great.BuildSlice
set_option maxHeartbeats 8000000
namespace Go
theorem ahO:type_of% @if_neg:=@if_neg
theorem ahP:type_of% @if_pos:=@if_pos
theorem ahQ:type_of%@decide_eq_false:=@decide_eq_false
theorem ahR:type_of%@decide_eq_true:=@decide_eq_true
theorem ahS:type_of%@decide_eq_true_eq:=@decide_eq_true_eq
theorem ahT:type_of%@Option.some.injEq:=@Option.some.injEq
theorem ahU:type_of%@congrArg:=@congrArg
theorem ahV:type_of%@of_decide_eq_true:=@of_decide_eq_true
theorem ahW:type_of%@of_decide_eq_false:=@of_decide_eq_false
theorem ahX:type_of%@beq_iff_eq:=@beq_iff_eq
theorem ahY:type_of%@List.Nodup.sublist:=@List.Nodup.sublist
theorem ahZ:type_of%@decide_eq_false_iff_not:=@decide_eq_false_iff_not
theorem ai0:type_of% @if_true:=@if_true
theorem ai1:type_of%@Prod.mk.injEq:=@Prod.mk.injEq
theorem ai2:type_of%@BitVec.ofInt_natCast:=@BitVec.ofInt_natCast
theorem ai3:type_of%@if_false:=@if_false
theorem ai4:type_of%@BitVec.toNat_ofNat:=@BitVec.toNat_ofNat
theorem ai5:type_of%@or_false:=@or_false
theorem ai6:type_of%@Option.some.inj:=@Option.some.inj
theorem ai7:type_of%@not_true_eq_false:=@not_true_eq_false
theorem ai8:type_of%@List.set_append_left:=@List.set_append_left
theorem ai9:type_of%@List.flatMap_append:=@List.flatMap_append
theorem aia:type_of%@List.dropWhile_cons:=@List.dropWhile_cons
theorem aib:type_of%@List.Perm.of_eq:=@List.Perm.of_eq
theorem aic:type_of%@getElem!_pos:=@getElem!_pos
theorem aid:type_of%@List.foldl_nil:=@List.foldl_nil
theorem aie:type_of%@List.filter_congr:=@List.filter_congr
theorem aif:type_of%@Int.lt_trichotomy:=@Int.lt_trichotomy
theorem aih:type_of%@Prod.ext:=@Prod.ext
theorem aii:type_of%@List.any_nil:=@List.any_nil
abbrev aij:=List UInt8
abbrev aik:=List Nat
abbrev ail:=List Value
abbrev aim:=List Int
abbrev ain:=Array Value
abbrev aio:=List (List UInt8)
abbrev aip:=Option Nat
end Go
namespace Go
theorem om{p:Prop}(h:p:=by omega):p:=h
theorem sg{p:Prop}(h:p:=by simp[go_sem]):p:=h
theorem kR{p:Prop}(h:p:=by kernel_rfl):p:=h
theorem dc{p:Prop}(h:p:=by decide):p:=h
theorem sm{p:Prop}(h:p:=by simp):p:=h
theorem sU{p q:Prop}(h:q)(g:q->p:=by intro h;simpa using h):p:=g h
theorem tV:True:=⟨⟩
theorem A0:type_of%@List.getElem?_eq_getElem:=@List.getElem?_eq_getElem
theorem A1:type_of%@Bool.eq_false_or_eq_true:=@Bool.eq_false_or_eq_true
theorem A2:type_of%@List.drop_eq_getElem_cons:=@List.drop_eq_getElem_cons
theorem A3:type_of%@Nat.zero_le:=@Nat.zero_le
theorem A4:type_of%@List.drop_eq_nil_of_le:=@List.drop_eq_nil_of_le
theorem A5:type_of%@List.getElem?_eq_some_iff:=@List.getElem?_eq_some_iff
theorem A6:type_of%@Nat.le_refl:=@Nat.le_refl
theorem A7:type_of%@List.getElem_mem:=@List.getElem_mem
theorem A8:type_of%@Bool.and_eq_true:=@Bool.and_eq_true
theorem A9:type_of%@List.getD_eq_getElem?_getD:=@List.getD_eq_getElem?_getD
theorem Aa:type_of%@List.mem_map:=@List.mem_map
theorem Ab:type_of%@Nat.zero_add:=@Nat.zero_add
theorem Ac:type_of%@List.take_of_length_le:=@List.take_of_length_le
theorem Ad:type_of%@List.map_cons:=@List.map_cons
theorem Ae:type_of%@Nat.mul_le_mul_right:=@Nat.mul_le_mul_right
theorem Af:type_of%@List.length_cons:=@List.length_cons
theorem Ag:type_of%@List.mem_cons:=@List.mem_cons
theorem Ah:type_of%@Bool.true_and:=@Bool.true_and
theorem Ai:type_of%@Int.toNat_natCast:=@Int.toNat_natCast
theorem Aj:type_of%@List.all_eq_true:=@List.all_eq_true
theorem Ak:type_of%@List.mem_append:=@List.mem_append
theorem Al:type_of%@List.length_append:=@List.length_append
theorem Am:type_of%@Array.getElem?_toList:=@Array.getElem?_toList
theorem An:type_of%@Option.bind_some:=@Option.bind_some
theorem Ao:type_of%@Nat.le_trans:=@Nat.le_trans
theorem Ap:type_of%@List.foldl_cons:=@List.foldl_cons
theorem Aq:type_of%@List.all_cons:=@List.all_cons
theorem Ar:type_of%@Option.map_eq_some_iff:=@Option.map_eq_some_iff
theorem Au:type_of%@List.drop_zero:=@List.drop_zero
theorem Av:type_of%@List.mem_iff_getElem?:=@List.mem_iff_getElem?
theorem Aw:type_of%@List.getElem?_take:=@List.getElem?_take
theorem Ax:type_of%@List.mem_cons_self:=@List.mem_cons_self
theorem Ay:type_of%@List.append_nil:=@List.append_nil
theorem Az:type_of%@Array.getElem?_eq_getElem:=@Array.getElem?_eq_getElem
theorem B0:type_of%@Nat.add_mul:=@Nat.add_mul
theorem B1:type_of%@List.getElem?_map:=@List.getElem?_map
theorem B2:type_of%@Bool.false_and:=@Bool.false_and
theorem B3:type_of%@List.take_succ_eq_append_getElem:=@List.take_succ_eq_append_getElem
theorem B4:type_of%@List.eq_nil_of_length_eq_zero:=@List.eq_nil_of_length_eq_zero
theorem B5:type_of%@List.takeWhile_append_dropWhile:=@List.takeWhile_append_dropWhile
theorem B6:type_of%@List.map_congr_left:=@List.map_congr_left
theorem B7:type_of%@List.drop_length:=@List.drop_length
theorem B8:type_of%@List.map_map:=@List.map_map
theorem B9:type_of%@List.mem_of_getElem?:=@List.mem_of_getElem?
theorem Ba:type_of%@Nat.lt_trichotomy:=@Nat.lt_trichotomy
theorem Bb:type_of%@List.getElem?_append_right:=@List.getElem?_append_right
theorem Bc:type_of%@List.getElem?_set_self:=@List.getElem?_set_self
theorem Bd:type_of%@List.mem_cons_of_mem:=@List.mem_cons_of_mem
theorem Be:type_of%@List.getElem?_append_left:=@List.getElem?_append_left
theorem Bf:type_of%@Bool.false_or:=@Bool.false_or
theorem Bg:type_of%@List.cons_append:=@List.cons_append
theorem Bh:type_of%@List.not_mem_nil:=@List.not_mem_nil
theorem Bi:type_of%@Option.map_some:=@Option.map_some
theorem Bj:type_of%@List.drop_of_length_le:=@List.drop_of_length_le
theorem Bk:type_of%@List.nodup_cons:=@List.nodup_cons
theorem Bl:type_of%@List.mem_filter:=@List.mem_filter
theorem Bm:type_of%@List.length_singleton:=@List.length_singleton
theorem Bn:type_of%@Int.cast_ofNat_Int:=@Int.cast_ofNat_Int
theorem Bo:type_of%@List.filter_sublist:=@List.filter_sublist
theorem Bp:type_of%@List.map_nil:=@List.map_nil
theorem Bq:type_of%@List.length_map:=@List.length_map
theorem Br:type_of%@Nat.not_succ_le_self:=@Nat.not_succ_le_self
theorem Bs:type_of%@List.ext_getElem?:=@List.ext_getElem?
theorem Bt:type_of%@List.take_append_drop:=@List.take_append_drop
theorem Bu:type_of%@List.flatMap_cons:=@List.flatMap_cons
theorem Bv:type_of%@List.foldl_append:=@List.foldl_append
theorem Bw:type_of%@List.nodup_range:=@List.nodup_range
theorem Bx:type_of%@List.any_cons:=@List.any_cons
theorem By:type_of%@List.pairwise_append:=@List.pairwise_append
theorem Bz:type_of%@List.set_cons_succ:=@List.set_cons_succ
theorem C0:type_of%@List.nil_append:=@List.nil_append
theorem C1:type_of%@List.filter_cons:=@List.filter_cons
theorem C2:type_of%@List.any_eq_true:=@List.any_eq_true
theorem C3:type_of%@List.take_succ_cons:=@List.take_succ_cons
theorem C4:type_of%@Nat.div_lt_iff_lt_mul:=@Nat.div_lt_iff_lt_mul
theorem C5:type_of%@List.nodup_nil:=@List.nodup_nil
theorem C6:type_of%@List.mem_of_mem_take:=@List.mem_of_mem_take
theorem C7:type_of%@List.getElem?_drop:=@List.getElem?_drop
theorem C8:type_of%@List.pairwise_cons:=@List.pairwise_cons
theorem C9:type_of%@List.take_left':=@List.take_left'
theorem Ca:type_of%@List.flatten_append:=@List.flatten_append
theorem Cb:type_of%@List.append_assoc:=@List.append_assoc
theorem Cc:type_of%@Nat.le_of_ble_eq_true:=@Nat.le_of_ble_eq_true
theorem Cd:type_of%@Bool.true_or:=@Bool.true_or
theorem Ce:type_of%@Bool.or_eq_true:=@Bool.or_eq_true
theorem Cf:type_of%@Bool.false_eq_true:=@Bool.false_eq_true
theorem Cg:type_of%@List.set_cons_zero:=@List.set_cons_zero
theorem Ch:type_of%@List.getElem?_cons_succ:=@List.getElem?_cons_succ
theorem Ci:type_of%@Nat.mod_lt:=@Nat.mod_lt
theorem Cj:type_of%@Array.all_eq_true_iff_forall_mem:=@Array.all_eq_true_iff_forall_mem
theorem Ck:type_of%@Nat.lt_or_ge:=@Nat.lt_or_ge
theorem Cl:type_of%@Array.getElem?_eq_some_iff:=@Array.getElem?_eq_some_iff
theorem Cm:type_of%@List.exists_cons_of_ne_nil:=@List.exists_cons_of_ne_nil
theorem Cn:type_of%@List.take_add_one:=@List.take_add_one
theorem Co:type_of%@Array.length_toList:=@Array.length_toList
theorem Cp:type_of%@Bool.eq_iff_iff:=@Bool.eq_iff_iff
theorem Cq:type_of%@List.getElem?_eq_none:=@List.getElem?_eq_none
theorem Cr:type_of%@Nat.mod_eq_of_lt:=@Nat.mod_eq_of_lt
theorem Cs:type_of%@List.all_nil:=@List.all_nil
theorem Ct:type_of%@List.length_take:=@List.length_take
theorem Cu:type_of%@List.mem_singleton:=@List.mem_singleton
theorem Cv:type_of%@List.pairwise_map:=@List.pairwise_map
theorem Cw:type_of%@Nat.div_add_mod:=@Nat.div_add_mod
theorem Cx:type_of%@List.drop_succ_cons:=@List.drop_succ_cons
theorem Cy:type_of%@List.takeWhile_cons:=@List.takeWhile_cons
theorem Cz:type_of%@Nat.zero_mul:=@Nat.zero_mul
theorem D0:type_of%@List.takeWhile_cons_of_pos:=@List.takeWhile_cons_of_pos
theorem D1:type_of%@Int.tdiv_eq_ediv_of_nonneg:=@Int.tdiv_eq_ediv_of_nonneg
theorem D2:type_of%@Int.tmod_eq_emod_of_nonneg:=@Int.tmod_eq_emod_of_nonneg
theorem D3:type_of%@Bool.and_true:=@Bool.and_true
theorem D4:type_of%@List.mem_range:=@List.mem_range
theorem D5:type_of%@Nat.one_mul:=@Nat.one_mul
theorem D6:type_of%@Nat.add_zero:=@Nat.add_zero
theorem D7:type_of%@Nat.le_of_eq:=@Nat.le_of_eq
theorem D8:type_of%@List.length_nil:=@List.length_nil
theorem D9:type_of%@List.getElem?_set_ne:=@List.getElem?_set_ne
theorem Da:type_of%@List.map_append:=@List.map_append
theorem Db:type_of%@List.flatten_cons:=@List.flatten_cons
theorem Dc:type_of%@List.nodup_append:=@List.nodup_append
theorem Dd:type_of%@Bool.or_false:=@Bool.or_false
theorem De:type_of%@List.filter_eq_self:=@List.filter_eq_self
theorem Df:type_of%@List.take_zero:=@List.take_zero
theorem Dg:type_of%@List.perm_middle:=@List.perm_middle
theorem Dh:type_of%@Nat.lt_of_lt_of_le:=@Nat.lt_of_lt_of_le
theorem Di:type_of%@List.contains_cons:=@List.contains_cons
theorem Dj:type_of%@Nat.min_eq_left:=@Nat.min_eq_left
theorem Dk:type_of%@List.length_filter_le:=@List.length_filter_le
theorem Dl:type_of%@Array.getElem?_append_left:=@Array.getElem?_append_left
theorem Dm:type_of%@Bool.not_eq_true':=@Bool.not_eq_true'
theorem Dn:type_of%@List.mem_of_mem_drop:=@List.mem_of_mem_drop
theorem Do:type_of%@List.drop_drop:=@List.drop_drop
theorem Dp:type_of%@Nat.mul_comm:=@Nat.mul_comm
theorem Dq:type_of%@List.take_length:=@List.take_length
theorem Dr:type_of%@List.getElem?_range:=@List.getElem?_range
theorem Ds:type_of%@Int.eq_ofNat_of_zero_le:=@Int.eq_ofNat_of_zero_le
theorem Dt:type_of%@Nat.add_assoc:=@Nat.add_assoc
theorem Du:type_of%@List.map_drop:=@List.map_drop
theorem Dv:type_of%@List.zip_cons_cons:=@List.zip_cons_cons
theorem Dw:type_of%@Int.emod_lt_of_pos:=@Int.emod_lt_of_pos
theorem Dx:type_of%@Nat.add_comm:=@Nat.add_comm
theorem Dy:type_of%@List.map_id':=@List.map_id'
theorem Dz:type_of%@Bool.or_true:=@Bool.or_true
theorem E0:type_of%@Nat.pow_succ:=@Nat.pow_succ
theorem E1:type_of%@List.map_set:=@List.map_set
theorem E2:type_of%@List.length_set:=@List.length_set
theorem E3:type_of%@UInt8.toNat_inj:=@UInt8.toNat_inj
theorem E4:type_of%@Int.emod_nonneg:=@Int.emod_nonneg
end Go
namespace Go.Vx
open Go
inductive Tag where|ro|full|app(id:Nat)deriving DecidableEq
inductive V where|u|bool(b:Bool)|int(k:IntKind)(n:Int)|str(s:aij)|raw(v:Value)|fK|ptr(id off:Nat)|sl(g:Tag)(rows:List (List V))|oQ(cells:List V)(off:Nat)|fn(f:FuncId)(bY:List V)|agg(cells:List V)|cm(vs:List V)|cL(id s n lo m:Nat)|jj(id s n k j:Nat)|j9(id s off n:Nat)|mp(id:Nat)|gW(t:Nat)(vs:List V)
instance:Inhabited V:=⟨.u⟩
variable {J:Type}{I:Type}
def bM{J I:Type}(R:J->I->Prop):List J->List I->Prop|[],[]=>True|a::az,b::bs=>R a b/\bM R az bs|_,_=>False
theorem bM.length{R:J->I->Prop}:∀{l:List J}{m:List I},bM R l m->l.length=m.length |[],[],_=>rfl|_::_,_::_,h=>by simp[bM.length h.2]|[],_::_,h=>h.elim|_::_,[],h=>h.elim
theorem bM.imp{R S:J->I->Prop}(aa:∀a b,R a b->S a b):∀{l:List J}{m:List I},bM R l m->bM S l m |[],[],_=>trivial|_::_,_::_,h=>⟨aa _ _ h.1,bM.imp aa h.2⟩|[],_::_,h=>h.elim|_::_,[],h=>h.elim
theorem bM.get{R:J->I->Prop}:∀{l:List J}{m:List I}(i:Nat)(a:J),bM R l m->l[i]?=some a->∃b,m[i]?=some b/\R a b
 |a::_,b::_,0,_,h,e=>⟨b,rfl,by simp at e;exact e▸h.1⟩|_::_,_::_,i+1,_,h,e=>by obtain⟨b,hb,r⟩:=bM.get i _ h.2 (sU e);grind|[],[],_,_,_,e=>by grind|[],_::_,_,_,h,_=>h.elim|_::_,[],_,_,h,_=>h.elim
theorem bM.of{R:J->I->Prop}:∀{l:List J}{m:List I},l.length=m.length->(∀(i:Nat)a b,l[i]?=some a->m[i]?=some b->R a b)->bM R l m |[],[],_,_=>trivial|a::l,b::m,hl,h=>⟨h 0 a b rfl rfl,bM.of (by grind) λi x y hx hy=>h (i+1) x y (by grind) (by grind)⟩|[],_::_,hl,_=>by grind|_::_,[],hl,_=>by grind
theorem bM.append{R:J->I->Prop}:∀{l:List J}{m:List I}{l':List J}{m':List I},bM R l m->bM R l' m'->bM R (l++l') (m++m') |[],[],_,_,_,h'=>h'|_::_,_::_,_,_,h,h'=>⟨h.1,bM.append h.2 h'⟩|[],_::_,_,_,h,_=>h.elim|_::_,[],_,_,h,_=>h.elim
theorem bM.take{R:J->I->Prop}:∀{l:List J}{m:List I}(n:Nat),bM R l m->bM R (l.take n) (m.take n)|[],[],n,_=>by grind|_::_,_::_,0,_=>trivial|_::_,_::_,n+1,h=>⟨h.1,bM.take n h.2⟩|[],_::_,_,h=>h.elim|_::_,[],_,h=>h.elim
theorem bM.drop{R:J->I->Prop}:∀{l:List J}{m:List I}(n:Nat),bM R l m->bM R (l.drop n) (m.drop n)|[],[],n,_=>by grind|_::_,_::_,0,h=>h|_::_,_::_,n+1,h=>bM.drop n h.2|[],_::_,_,h=>h.elim|_::_,[],_,h=>h.elim
theorem WB{i j n s:Nat}(hi:i<n)(hj:j<s):i*s+j<n*s:=by have h:(i+1)*s<=n*s:=Ae s hi;grind
inductive cy(w:World)(L:Nat->Nat):V->Value->Prop|bool(b:Bool):cy w L (.bool b) (.bool b)|int(k:IntKind)(n:Int):cy w L (.int k n) (.int k n)|str(s:aij):cy w L (.str s) (.string ⟨s.toArray⟩)|raw(v:Value)(h:v.oneCell'):cy w L (.raw v) v|fK:cy w L .fK (.pointer none)|jk(g:Tag)(a:Option Addr)(cap:Nat)(hg:g=.full->cap=0)(ha:∀id,g≠.app id):cy w L (.sl g []) (.slice a 0 cap)|sl(g:Tag)(rows:List (List V))(s b o cap:Nat)(c:Nat->Nat->Value)(ha:∀id,g≠.app id)(hs:0<s)(hlen:∀r∈rows,r.length=s)(fq:o+rows.length*s<=L b)(db:rows.length<=cap)(hg:g=.full->cap=rows.length)(hc:∀i j,i<rows.length->j<s->w.cell? ⟨b,o+i*s+j,none⟩=some (c i j))(hr:∀i j(hi:i<rows.length)(hj:j<rows[i].length),cy w L (rows[i][j]) (c i j)):cy w L (.sl g rows) (.slice (some ⟨b,o,none⟩) rows.length cap)
structure Le(w:World)(L:Nat->Nat)(w':World)(L':Nat->Nat):Prop where
 lim:∀b,L b<=L' b
 cell:∀b o,o<L b->w'.cell? ⟨b,o,none⟩=w.cell? ⟨b,o,none⟩
theorem Le.refl(w:World)(L:Nat->Nat):Le w L w L:=⟨om,sm⟩
theorem Le.trans{w1 w2 w3:World}{L1 L2 L3:Nat->Nat}(h:Le w1 L1 w2 L2)(k:Le w2 L2 w3 L3):Le w1 L1 w3 L3:=⟨λb=>Ao (h.lim b) (k.lim b),λb o ho=>(k.cell b o (Dh ho (h.lim b))).trans (h.cell b o ho)⟩
theorem cy.mono{w w':World}{L L':Nat->Nat}(h:Le w L w' L'){v:V}{x:Value}(r:cy w L v x):cy w' L' v x:=by induction r with |bool b=>exact .bool b|int k n=>exact .int k n|str s=>exact .str s|raw v hv=>exact .raw v hv|fK=>exact .fK|jk g a cap hg ha=>exact .jk g a cap hg ha|sl g rows s b o cap c ha hs hlen fq db hg hc hr ih=>refine .sl g rows s b o cap c ha hs hlen (Ao fq (h.lim b)) db hg (λi j hi hj=>?_) ih;rw[h.cell b _ (by have:=WB hi hj;omega)];grind
theorem cy.dF{w:World}{L:Nat->Nat}{v:V}{x:Value}(r:cy w L v x):x.oneCell'=true:=by cases r<;>first|rfl|assumption
inductive Ob where|box(cells:List V)|app(n s:Nat)|cj(rows:List (List V))(s:Nat)|dead|mp(dD:List V)(gk:aik)(cM:Nat)|it(m:aip)(since:Nat)(seen:aik)(last:Nat)
abbrev St:=List Ob
def gC(w:World)(L:Nat->Nat)(U:St)(I:ail):V->Value->Prop |.u,x=>x.oneCell'=true|.ptr id off,x=>∃b,I[id]?=some (.pointer (some ⟨b,0,none⟩))/\x=.pointer (some ⟨b,off,none⟩)|.sl (.app id) rows,x=>cy w L (.sl .ro rows) x/\∃n s,U[id]?=some (.app n s)/\rows.length<=n/\(rows.length=n->I[id]?=some x)/\(∀r∈rows,r.length=s)|.oQ cells off,x=>∃(b o:Nat)(c:Nat->Value),x=.pointer (some ⟨b,o+off,none⟩)/\o+cells.length<=L b/\∀j(hj:j<cells.length),w.cell? ⟨b,o+j,none⟩=some (c j)/\cy w L cells[j] (c j)|.cL id s n lo m,x=>∃a cap,x=.slice a m cap/\(m<=cap/\n<=lo+cap)/\(0<cap->∃b o,a=some ⟨b,o,none⟩)/\(U[id]?=some .dead\/∃rows,U[id]?=some (.cj rows s)/\n<=rows.length/\(n=rows.length->∃b c0,I[id]?=some (.slice b n c0)/\cap=c0-lo/\lo<=c0/\(lo<c0->∃k,b=some ⟨k,0,none⟩/\a=some ⟨k,lo*s,none⟩)))|.jj id s n k j,x=>∃b o,x=.pointer (some ⟨b,o,none⟩)/\(U[id]?=some .dead\/∃rows,U[id]?=some (.cj rows s)/\n<=rows.length/\(n=rows.length->k<n->∃c0,I[id]?=some (.slice (some ⟨b,0,none⟩) n c0)/\o=k*s+j))|.j9 id _ off n,x=>∃b,I[id]?=some (.pointer (some ⟨b,0,none⟩))/\x=.slice (some ⟨b,off,none⟩) n n|.mp id,x=>∃b,I[id]?=some (.pointer (some ⟨b,0,none⟩))/\x=.map (some b)|.fn _ _,_=>False|.agg _,_=>False|.cm _,_=>False|.gW _ _,_=>False|v,x=>cy w L v x
def cU(w:World)(L:Nat->Nat)(U:St)(I:ail):V->Value->Prop |.fn f bY,x=>∃xs:ail,x=.func (.func f) #[] xs.toArray/\bM (gC w L U I) bY xs|.gW t vs,x=>∃y,x=.iface t y/\bM (gC w L U I) vs [y]|v,x=>gC w L U I v x
def dT(w:World)(L:Nat->Nat)(U:St)(I:ail):V->Value->Prop |.agg cs,x=>∃xs:ail,x=.agg xs.toArray/\bM (cU w L U I) cs xs|v,x=>cU w L U I v x
def dj(w:World)(L:Nat->Nat)(U:St)(I:ail):V->Value->Prop |.u,_=>True|.cm vs,x=>∃xs:ail,x=.tuple xs.toArray/\bM (dT w L U I) vs xs|v,x=>dT w L U I v x
structure Ext(U:St)(I:ail)(U':St)(I':ail):Prop where ptr:∀(id:Nat)a,I[id]?=some (.pointer a)->I'[id]?=some (.pointer a)app:∀(id:Nat)n s,U[id]?=some (.app n s)->∃n',U'[id]?=some (.app n' s)/\n<=n'/\(n'=n->I'[id]?=I[id]?)cj:∀(id:Nat)rows s,U[id]?=some (.cj rows s)->U'[id]?=some .dead\/∃fp,U'[id]?=some (.cj fp s)/\rows.length<=fp.length/\(fp.length=rows.length->I'[id]?=I[id]?)dead:∀(id:Nat),U[id]?=some .dead->U'[id]?=some .dead
theorem Ext.refl(U:St)(I:ail):Ext U I U I:=⟨sm,(by grind),(by grind),λ_ h=>h⟩
theorem Ext.trans{U1 U2 U3:St}{I1 I2 I3:ail}(h:Ext U1 I1 U2 I2)(k:Ext U2 I2 U3 I3):Ext U1 I1 U3 I3:=by
 refine⟨λid a e=>k.ptr id a (h.ptr id a e),λid n s e=>?_,λid rows s e=>?_,λid e=>k.dead id (h.dead id e)⟩;.obtain⟨n2,e2,l2,p2⟩:=h.app id n s e;obtain⟨n3,e3,l3,p3⟩:=k.app id n2 s e2;grind
 .rcases h.cj id rows s e with e2|⟨r2,e2,l2,p2⟩;.exact .inl (k.dead id e2)
  .rcases k.cj id r2 s e2 with e3|⟨r3,e3,l3,p3⟩;all_goals grind
section
variable{w w':World}{L L':Nat->Nat}{U U':St}{I I':ail}
variable {x:Value}
theorem gC.mono(h:Le w L w' L')(k:Ext U I U' I'){v:V}(r:gC w L U I v x):gC w' L' U' I' v x:=by cases v with
 |u=>exact r|ptr id off=>obtain⟨b,hb,hx⟩:=r;exact⟨b,k.ptr _ _ hb,hx⟩|sl g rows=>cases g with |app id=>obtain⟨hr,n,s,cD,hle,dd,hl⟩:=r;obtain⟨n',aa,hn,ab⟩:=k.app id n s cD;refine⟨hr.mono h,n',s,aa,om,λe=>?_,hl⟩;grind|ro=>exact cy.mono h r|full=>exact cy.mono h r
 |oQ cells off=>obtain⟨b,o,c,hx,hl,hc⟩:=r;refine⟨b,o,c,hx,Ao hl (h.lim b),λj hj=>?_⟩;obtain⟨h1,h2⟩:=hc j hj;exact⟨by rw[h.cell b _ om];exact h1,h2.mono h⟩|cL id s n lo m=>
  obtain⟨a,cap,hx,hm,ha,hc⟩:=r;refine⟨a,cap,hx,hm,ha,?_⟩;rcases hc with hd|⟨rows,cD,hn,hb⟩;.exact .inl (k.dead id hd)
  .rcases k.cj id rows s cD with hd|⟨r2,e2,l2,p2⟩;all_goals grind|jj id s n i j=>
  obtain⟨b,o,hx,hc⟩:=r;refine⟨b,o,hx,?_⟩;rcases hc with hd|⟨rows,cD,hn,hb⟩;.exact .inl (k.dead id hd)
  .rcases k.cj id rows s cD with hd|⟨r2,e2,l2,p2⟩;all_goals grind|j9 id s off n=>obtain⟨b,hb,hx⟩:=r;exact⟨b,k.ptr _ _ hb,hx⟩|mp id=>obtain⟨b,hb,hx⟩:=r;exact⟨b,k.ptr _ _ hb,hx⟩|fn f bY=>exact r|gW t v=>exact r|agg cs=>exact r|cm vs=>exact r|bool b=>exact cy.mono h r|int k n=>exact cy.mono h r|str s=>exact cy.mono h r|raw v=>exact cy.mono h r|fK=>exact cy.mono h r
theorem cU.mono(h:Le w L w' L')(k:Ext U I U' I'){v:V}(r:cU w L U I v x):cU w' L' U' I' v x:=by cases v with |fn f bY=>obtain⟨xs,hx,hc⟩:=r;exact⟨xs,hx,hc.imp (by grind[gC.mono])⟩|gW t v=>obtain⟨y,hx,hc⟩:=r;exact⟨y,hx,hc.imp (by grind[gC.mono])⟩|_=>simp only[cU]at r⊢;exact gC.mono h k r
theorem dT.mono(h:Le w L w' L')(k:Ext U I U' I'){v:V}(r:dT w L U I v x):dT w' L' U' I' v x:=by cases v with |agg cs=>obtain⟨xs,hx,hc⟩:=r;exact⟨xs,hx,hc.imp (by grind[cU.mono])⟩|_=>simp only[dT]at r⊢;exact cU.mono h k r
theorem dj.mono(h:Le w L w' L')(k:Ext U I U' I'){v:V}(r:dj w L U I v x):dj w' L' U' I' v x:=by cases v with |u=>trivial|cm vs=>obtain⟨xs,hx,hc⟩:=r;exact⟨xs,hx,hc.imp (by grind[dT.mono])⟩|_=>simp only[dj]at r⊢;exact dT.mono h k r
theorem gC.dF{v:V}(r:gC w L U I v x):x.oneCell'=true:=by cases v with
 |u=>exact r|ptr id off=>obtain⟨b,_,rfl⟩:=r;rfl|sl g rows=>cases g with |app id=>exact r.1.dF|ro=>exact cy.dF r|full=>exact cy.dF r
 |oQ cells off=>obtain⟨b,o,c,rfl,_⟩:=r;rfl|cL id s n lo m=>obtain⟨a,cap,rfl,_⟩:=r;rfl|jj id s n k j=>obtain⟨b,o,rfl,_⟩:=r;rfl|j9 id s off n=>obtain⟨b,_,rfl⟩:=r;rfl|mp id=>obtain⟨b,_,rfl⟩:=r;rfl|fn f bY=>trivial|gW t v=>trivial|agg cs=>trivial|cm vs=>trivial|_=>simp only[gC]at r;exact cy.dF r
theorem cU.dF{v:V}(r:cU w L U I v x):x.oneCell'=true:=by cases v with |fn f bY=>obtain⟨xs,rfl,_⟩:=r;rfl|gW t v=>obtain⟨y,rfl,_⟩:=r;rfl|_=>simp only[cU]at r;exact gC.dF r
theorem cU.de{v:V}(r:cy w L v x):cU w L U I v x:=by cases r with
 |jk g a cap hg ha=>cases g with |app id=>grind|ro=>exact .jk _ a cap hg ha|full=>exact .jk _ a cap hg ha
 |sl g rows s b o cap c ha hs hlen fq db hg hc hr=>cases g with |app id=>grind|ro=>exact .sl _ rows s b o cap c ha hs hlen fq db hg hc hr|full=>exact .sl _ rows s b o cap c ha hs hlen fq db hg hc hr
 |bool b=>exact cy.bool b|int k n=>exact cy.int k n|str s=>exact cy.str s|raw _ hv=>exact cy.raw _ hv|fK=>exact cy.fK
theorem dT.dv{v:V}(r:cU w L U I v x):dT w L U I v x:=by cases v<;>first|exact r|(simp only[dT];exact r)|exact r.elim
theorem dj.dv{v:V}(r:cU w L U I v x):dj w L U I v x:=by cases v<;>first|exact r|exact r.elim|trivial
theorem dj.lD{v:V}(r:dT w L U I v x):dj w L U I v x:=by cases v<;>first|exact r|exact r.elim|trivial
end
theorem eX{J:Sort _}(a:J):∃b,a=b:=⟨a,rfl⟩
def dK:List (Nat×List V):= []
def sH:List (Nat×IntKind):= [(0,.i64)]
abbrev Env:=Nat->V
def fe(e:Env)(d:Nat)(v:V):Env:=λt=>if t=d then v else e t
def kO:Env:=λ_=> .u
structure Ctx where
 w0:World
 L0:Nat->Nat
 X0:aik
 cd:St
 β0:ail
def cP:Ob->Value->aip |.box _,.pointer (some a)=>some a.block|.app n _,.slice (some a) _ cap=>if n<cap then some a.block else none|.cj _ _,.slice (some a) _ cap=>if 0<cap then some a.block else none|.mp _ _ _,.pointer (some a)=>some a.block|.it _ _ _ _,.pointer (some a)=>some a.block|_,_=>none
def yf(arr:ain)(fz:Nat×Nat):Prop:=∀o,o<arr.size->¬(fz.1<=o/\o<fz.2)
def fV(s:Nat)(arr:ain)(fz:Nat×Nat):Prop:=yf arr fz/\(s=1\/¬(fz.1<=arr.size/\arr.size<fz.2))
def pQ(es:Array MapEntry):ail:=es.toList.flatMap λe=>[e.key,e.val]
theorem Px(s:Nat)(arr:ain):fV s arr (0,0):=⟨λq _ hq=>om,om⟩
theorem fV.size{s:Nat}{arr aa:ain}{fz:Nat×Nat}(h:fV s arr fz)(e:aa.size=arr.size):fV s aa fz:=⟨λq hq=>h.1 q om,by rw[e];exact h.2⟩
def gN(w:World)(L:Nat->Nat)(U:St)(I:ail):Ob->Value->Prop |.box cells,x=>∃b arr T fz,x=.pointer (some ⟨b,0,none⟩)/\w.heap[b]?=some (.cells arr T fz)/\yf arr fz/\L b=0/\bM (cU w L U I) cells arr.toList|.app n s,x=>∃a cap,x=.slice a n cap/\n<=cap/\0<s/\(n<cap->∃b o arr T fz,a=some ⟨b,o,none⟩/\w.heap[b]?=some (.cells arr T fz)/\yf arr fz/\o+cap*s<=arr.size/\L b=o+n*s)|.cj rows s,x=>∃a cap,x=.slice a rows.length cap/\rows.length<=cap/\0<s/\(∀r∈rows,r.length=s)/\(0<cap->∃b arr T fz,a=some ⟨b,0,none⟩/\w.heap[b]?=some (.cells arr T fz)/\fV s arr fz/\cap*s<=arr.size/\L b=0/\bM (cU w L U I) rows.flatten (arr.toList.take (rows.length*s)))|.dead,_=>True|.mp dD gk cM,x=>∃b es,x=.pointer (some ⟨b,0,none⟩)/\w.heap[b]?=some (.map es cM)/\L b=0/\bM (dT w L U I) dD (pQ es)/\es.toList.map (·.born)=gk|.it m since seen last,x=>∃b mo,x=.pointer (some ⟨b,0,none⟩)/\w.heap[b]?=some (.mapIter mo since seen.toArray last)/\L b=0/\(match m with|none=>mo=none|some id=>∃r,I[id]?=some (.pointer (some ⟨r,0,none⟩))/\mo=some r)
def WC(w:World)(L:Nat->Nat)(g:Nat)(cells:List V):Prop:=cells.length<=L g/\∃c:Nat->Value,∀j(hj:j<cells.length),w.cell? ⟨g,j,none⟩=some (c j)/\cy w L cells[j] (c j)
structure gZ(w:World)(L:Nat->Nat):Prop where jl:∀p∈dK,WC w L p.1 p.2num:∀p∈sH,1<=L p.1/\∃m,w.cell? ⟨p.1,0,none⟩=some (.int p.2 m)
theorem gZ.mono{w w':World}{L L':Nat->Nat}(h:Le w L w' L')(r:gZ w L):gZ w' L':=by refine⟨λp hp=>(by trivial),λp hp=>?_⟩;obtain⟨h1,m,h2⟩:=r.num p hp;exact⟨Ao h1 (h.lim _),m,by rw[h.cell _ 0 om];exact h2⟩
structure Mem(c:Ctx)(w:World)(L:Nat->Nat)(U:St)(I:ail):Prop where
 len:I.length=U.length
 cW:∀(i:Nat)o x,U[i]?=some o->I[i]?=some x->gN w L U I o x
 apart:∀(i j:Nat)o o' x x' b,i≠j->U[i]?=some o->I[i]?=some x->U[j]?=some o'->I[j]?=some x'->cP o x=some b->cP o' x'≠some b
 fO:∀(i:Nat)o x b,U[i]?=some o->I[i]?=some x->cP o x=some b->c.w0.heap.size<=b\/b∈c.X0
 same:∀b,b<c.w0.heap.size->b∉c.X0->w.heap[b]?=c.w0.heap[b]?/\L b=c.L0 b
 le:Le c.w0 c.L0 w L
 size:c.w0.heap.size<=w.heap.size
 os:w.os=c.w0.os
 tape:w.tape=c.w0.tape
 output:w.output=c.w0.output
 drawn:c.w0.drawn<=w.drawn
 lim:∀b,w.heap.size<=b->L b=0
 ext:Ext c.cd c.β0 U I
 jl:gZ c.w0 c.L0
theorem gN.step{w w':World}{L L':Nat->Nat}{U U':St}{I I':ail}{o:Ob}{x:Value}(h:Le w L w' L')(k:Ext U I U' I')(hb:∀b,cP o x=some b->w'.heap[b]?=w.heap[b]?/\L' b=L b)(r:gN w L U I o x):gN w' L' U' I' o x:=by cases o with |box cells=>obtain⟨b,arr,T,fz,rfl,hh,hf,hl,hc⟩:=r;obtain⟨e1,e2⟩:=hb b rfl;exact⟨b,arr,T,fz,rfl,e1.trans hh,hf,e2.trans hl,hc.imp (by grind[cU.mono])⟩|app n s=>obtain⟨a,cap,rfl,hn,hs,hx⟩:=r;refine⟨a,cap,rfl,hn,hs,λaa=>?_⟩;obtain⟨b,o,arr,T,fz,rfl,hh,hf,ab,hl⟩:=hx aa;obtain⟨e1,e2⟩:=hb b (by simp[cP,aa]);grind|cj rows s=>obtain⟨a,cap,rfl,hn,hs,hu,hx⟩:=r;refine⟨a,cap,rfl,hn,hs,hu,λaa=>?_⟩;obtain⟨b,arr,T,fz,rfl,hh,hf,ab,hl,hc⟩:=hx aa;obtain⟨e1,e2⟩:=hb b (by simp[cP,aa]);exact⟨b,arr,T,fz,rfl,e1.trans hh,hf,ab,e2.trans hl,hc.imp (by grind[cU.mono])⟩|dead=>trivial|mp dD gk cM=>obtain⟨b,es,rfl,hh,hl,hc,ad⟩:=r;obtain⟨e1,e2⟩:=hb b rfl;exact⟨b,es,rfl,e1.trans hh,e2.trans hl,hc.imp (by grind[dT.mono]),ad⟩|it m since seen last=>obtain⟨b,mo,rfl,hh,hl,hc⟩:=r;obtain⟨e1,e2⟩:=hb b rfl;refine⟨b,mo,rfl,e1.trans hh,e2.trans hl,?_⟩;cases m with |none=>exact hc|some id=>obtain⟨q,hq,hm⟩:=hc;exact⟨q,k.ptr _ _ hq,hm⟩
theorem gN.eH{w:World}{L:Nat->Nat}{U:St}{I:ail}{o:Ob}{x:Value}{b:Nat}(r:gN w L U I o x)(h:cP o x=some b):b<w.heap.size:=by cases o with |box cells=>obtain⟨b',arr,T,fz,rfl,hh,_⟩:=r;grind[cP]|app n s=>obtain⟨a,cap,rfl,hn,hs,hx⟩:=r;cases a<;>grind[cP]|cj rows s=>obtain⟨a,cap,rfl,hn,hs,hu,hx⟩:=r;cases a<;>grind[cP]|dead=>trivial|mp dD gk cM=>obtain⟨b',es,rfl,hh,_⟩:=r;grind[cP]|it m since seen last=>obtain⟨b',mo,rfl,hh,_⟩:=r;grind[cP]
section
variable{c:Ctx}{w:World}{L:Nat->Nat}{U:St}{I:ail}
variable {i:Nat}{J:Type}{cells:List V}
theorem Mem.drew(h:Mem c w L U I):Mem c w.drew L U I/\Le w L w.drew L:=by have hle:Le w L w.drew L:=⟨om,sm⟩;refine⟨⟨h.len,λi o x hi hx=>(h.cW i o x hi hx).step hle (Ext.refl _ _) λb hb=>(by trivial),h.apart,h.fO,h.same,h.le.trans hle,h.size,h.os,h.tape,h.output,Nat.le_succ_of_le h.drawn,h.lim,h.ext,h.jl⟩,hle⟩
def xQ(L:Nat->Nat)(b n:Nat):Nat->Nat:=λk=>if k=b then n else L k
theorem yR(w:World)(o:Go.Obj):(w.alloc o).heap[w.heap.size]?=some o:=by show(w.heap.push o)[w.heap.size]?=_;simp
theorem Lk(w:World)(o:Go.Obj){k:Nat}(h:k<w.heap.size):(w.alloc o).heap[k]?=w.heap[k]?:=by show(w.heap.push o)[k]?=_;grind
theorem BQ{w w':World}{b:Nat}(h:w'.heap[b]?=w.heap[b]?)(o:Nat):w'.cell? ⟨b,o,none⟩=w.cell? ⟨b,o,none⟩:=by grind[World.cell?]
theorem Mem.alloc(h:Mem c w L U I)(o:Go.Obj)(m:Nat):Mem c (w.alloc o) (xQ L w.heap.size m) U I/\Le w L (w.alloc o) (xQ L w.heap.size m):=by
 have hL:∀b,b<w.heap.size->xQ L w.heap.size m b=L b:=(by grind[xQ]);have hle:Le w L (w.alloc o) (xQ L w.heap.size m):=by
  refine⟨λb=>?_,λb off ho=>?_⟩
  .by_cases hb:b=w.heap.size;.subst hb;rw[h.lim _ om];omega
   grind[xQ]
  .have hb:b<w.heap.size:=by
    rcases Ck b w.heap.size with hb|hb;.exact hb
    .rw[h.lim b hb]at ho;omega
   grind[BQ,Lk]
 refine⟨⟨h.len,λi ob x hi hx=>(h.cW i ob x hi hx).step hle (Ext.refl _ _) λb hb=>?_,h.apart,h.fO,λb hb hx=>?_,h.le.trans hle,?_,h.os,h.tape,h.output,h.drawn,λb hb=>?_,h.ext,h.jl⟩,hle⟩;.have aa:=(h.cW i ob x hi hx).eH hb;grind[Lk]
 .have aa:b<w.heap.size:=Dh hb h.size;rw[Lk w o aa,hL b aa];exact h.same b hb hx
 .simp;have:=h.size;omega
 .simp at hb;simp[xQ];rw[ahO om];exact h.lim b om
theorem Ext.push(U:St)(I:ail)(hl:I.length=U.length)(o:Ob)(x:Value):Ext U I (U++[o]) (I++[x]):=by refine⟨(by grind),(by grind),(by grind),(by grind)⟩;all_goals grind
theorem xM{l:List J}{a b:J}(h:(l++[a])[i]?=some b):(i<l.length/\l[i]?=some b)\/(i=l.length/\b=a):=by grind
theorem Mem.push(h:Mem c w L U I)(o:Ob)(x:Value)(ho:gN w L (U++[o]) (I++[x]) o x)(aj:∀(i:Nat)o' x' b,U[i]?=some o'->I[i]?=some x'->cP o' x'=some b->cP o x≠some b)(hm:∀b,cP o x=some b->c.w0.heap.size<=b\/b∈c.X0):Mem c w L (U++[o]) (I++[x]):=by
 have ad:=Ext.push U I h.len o x;refine⟨by simp[h.len],λi o' x' hi hx=>?_,λi j o1 o2 x1 x2 b ag hi ae hj ab hb=>?_,λi o' x' b hi hx hb=>?_,h.same,h.le,h.size,h.os,h.tape,h.output,h.drawn,h.lim,h.ext.trans ad,h.jl⟩
 .rcases xM hi with⟨hl,hi⟩|⟨hl,rfl⟩
  .rcases xM hx with⟨_,hx⟩|⟨aa,_⟩;.exact(h.cW i o' x' hi hx).step (Le.refl _ _) ad sm
   .rw[h.len]at aa;omega
  .rcases xM hx with⟨aa,hx⟩|⟨_,rfl⟩;.rw[h.len]at aa;omega
   omega
 .rcases xM hi with⟨hl,ah⟩|⟨hl,rfl⟩
  .rcases xM ae with⟨_,af⟩|⟨aa,_⟩
   .rcases xM hj with⟨ai,hj⟩|⟨ai,rfl⟩
    .rcases xM ab with⟨_,ab⟩|⟨aa,_⟩;.exact h.apart i j o1 o2 x1 x2 b ag ah af hj ab hb
     .rw[h.len]at aa;omega
    .rcases xM ab with⟨aa,_⟩|⟨_,rfl⟩;.rw[h.len]at aa;omega
     grind
   .rw[h.len]at aa;omega
  .rcases xM ae with⟨aa,_⟩|⟨_,rfl⟩;.rw[h.len]at aa;omega
   grind
 .rcases xM hi with⟨hl,hi⟩|⟨hl,rfl⟩
  .rcases xM hx with⟨_,hx⟩|⟨aa,_⟩;.exact h.fO i o' x' b hi hx hb
   .rw[h.len]at aa;omega
  .rcases xM hx with⟨aa,_⟩|⟨_,rfl⟩;.rw[h.len]at aa;omega
   grind
theorem Mem.box(h:Mem c w L U I)(cells:List V)(arr:ain)(T:TypeId)(hc:bM (cU w L U I) cells arr.toList):Mem c (w.alloc (.cells arr T)) L (U++[.box cells]) (I++[.pointer (some ⟨w.heap.size,0,none⟩)])/\Le w L (w.alloc (.cells arr T)) L:=by
 have h1:=h.alloc (.cells arr T) 0;have hL:xQ L w.heap.size 0=L:=by
  funext k;by_cases hk:k=w.heap.size;.subst hk;simp[xQ,h.lim _ (A6 _)]
  grind[xQ]
 rw[hL]at h1;refine⟨h1.1.push _ _ ⟨w.heap.size,arr,T,(0,0),rfl,yR _ _,λo _ h=>om,h.lim _ om,hc.imp λ_ _=>cU.mono h1.2 (Ext.push U I h.len _ _)⟩ ?_ ?_,h1.2⟩;.intro i o' x' b hi hx hb e;have:=(h.cW i o' x' hi hx).eH hb;grind[cP]
 .intro b hb;simp[cP]at hb;subst hb;exact .inl h.size
def yU(w:World)(b:Nat)(o:Go.Obj):World:={w with heap:=w.heap.setIfInBounds b o}
theorem wH(w:World)(b:Nat)(o:Go.Obj)(hb:b<w.heap.size):(yU w b o).heap[b]?=some o:=by grind[yU]
theorem yg(w:World)(b k:Nat)(o:Go.Obj)(hk:k≠b):(yU w b o).heap[k]?=w.heap[k]?:=by grind[yU]
def xU(arr:ain)(k:Nat):ail->ain |[]=>arr|v::vs=>xU (arr.setIfInBounds k v) (k+1) vs
theorem xV:∀(vs:ail)(arr:ain)(k:Nat),(xU arr k vs).size=arr.size|[],_,_=>rfl|v::vs,arr,k=>by simp[xU,xV vs]
theorem vw:∀(vs:ail)(arr:ain)(k:Nat)(i:Nat),k+vs.length<=arr.size->(xU arr k vs)[i]?=if k<=i/\i<k+vs.length then vs[i-k]?else arr[i]?
 |[],arr,k,i,_=>by grind[xU]|v::vs,arr,k,i,h=>by simp only[Af]at h⊢;rw[xU,vw vs _ _ _ (by simp;omega)];grind
theorem WD(w:World)(b off:Nat)(v:Value)(cur:ain)(T:TypeId)(fz:Nat×Nat)(hb:w.heap[b]?=some (.cells cur T fz)):w.setCell ⟨b,off,none⟩ v=yU w b (.cells (cur.setIfInBounds off v) T fz):=by obtain⟨aa,hv⟩:=Cl.1 hb;unfold World.setCell yU;congr 1;grind
theorem WE(w:World)(b:Nat)(o o':Go.Obj):yU (yU w b o) b o'=yU w b o':=by simp[yU]
theorem WG(w:World)(b:Nat)(o:Go.Obj)(hb:w.heap[b]?=some o):yU w b o=w:=by
 obtain⟨aa,hv⟩:=Cl.1 hb;unfold yU;have:w.heap.setIfInBounds b o=w.heap:=by grind
 simp_all
theorem wP(b o n:Nat):Addr.add ⟨b,o,none⟩ n=⟨b,o+n,none⟩:=by unfold Addr.add;simp
theorem wO(P:Program)(b o:Nat)(T:TypeId)(fz:Nat×Nat):∀(vs:ail)(i:Nat)(cur:ain)(w:World),w.heap[b]?=some (.cells cur T fz)->yf cur fz->o+i+vs.length<=cur.size->(∀v∈vs,v.oneCell'=true)->(storeCells ⟨b,o,none⟩ vs i).run P w=.ok () (yU w b (.cells (xU cur (o+i) vs) T fz))
 |[],i,cur,w,hb,_,_,_=>by rw[storeCells,xU,WG _ _ _ hb];rfl|v::vs,i,cur,w,hb,hu,hl,hv=>by
  simp only[Af]at hl;have hc:w.cell? ⟨b,o+i,none⟩=some (cur[o+i]'om):=by grind[World.cell?]
  have hf:w.frozen? ⟨b,o+i,none⟩=false:=by have:=hu (o+i) om;grind[World.frozen?]
  obtain⟨aa,_⟩:=Cl.1 hb;rw[storeCells];simp only[Sem.run_bind,wP];rw[run_store P w ⟨b,o+i,none⟩ v .plain (hv v sm)];simp only[hc,hf,ai3,Cf,Result.andThen_ok];rw[WD w b (o+i) v cur T fz hb];have ih:=wO P b o T fz vs (i+1) (cur.setIfInBounds (o+i) v) (yU w b (.cells (cur.setIfInBounds (o+i) v) T fz)) (wH _ _ _ aa) (λk hk=>hu k (by grind)) (by grind) (by grind);rw[ih,WE];rfl
theorem oR{l:List J}{j:Nat}{a b:J}(h:(l.set i a)[j]?=some b):(j=i/\b=a/\i<l.length)\/(j≠i/\l[j]?=some b):=by grind
theorem Mem.fe(h:Mem c w L U I){w':World}{L':Nat->Nat}(i:Nat)(o:Ob)(x:Value)(hle:Le w L w' L')(ab:Ext U I (U.set i o) (I.set i x))(D:Nat->Prop)(hD:∀(j:Nat)o' x' b,j≠i->U[j]?=some o'->I[j]?=some x'->cP o' x'=some b->¬D b)(ax:∀b,D b->c.w0.heap.size<=b\/b∈c.X0)(af:∀b,¬D b->w'.heap[b]?=w.heap[b]?/\L' b=L b)(ak:w'.heap.size=w.heap.size)(al:w'.os=w.os)(ad:w'.tape=w.tape)(ag:w'.output=w.output)(fq:∀b,w.heap.size<=b->L' b=0)(cK:gN w' L' (U.set i o) (I.set i x) o x)(hex:∀b,cP o x=some b->D b)(an:w.drawn<=w'.drawn:=by exact A6 _):Mem c w' L' (U.set i o) (I.set i x):=by
 refine⟨by simp[h.len],λj o' x' hj hx=>?_,λj k o1 o2 x1 x2 b ao hj aq hk ar hb=>?_,λj o' x' b hj hx hb=>?_,λb hb hx=>?_,h.le.trans hle,by rw[ak];exact h.size,al.trans h.os,ad.trans h.tape,ag.trans h.output,Ao h.drawn an,(by grind),h.ext.trans ab,h.jl⟩
 .rcases oR hj with⟨rfl,rfl,hl⟩|⟨ah,aa⟩;.grind
  .rcases oR hx with⟨e,_,_⟩|⟨_,ae⟩;.omega
   .exact(h.cW j o' x' aa ae).step hle ab (by grind)
 .rcases oR hj with⟨rfl,rfl,hl⟩|⟨ah,aa⟩;.grind
  .rcases oR aq with⟨e,_,_⟩|⟨_,ai⟩;.omega
   .rcases oR hk with⟨rfl,rfl,_⟩|⟨aw,au⟩;.grind
    .rcases oR ar with⟨e,_,_⟩|⟨_,aj⟩;.omega
     .exact h.apart j k o1 o2 x1 x2 b ao aa ai au aj hb
 .rcases oR hj with⟨rfl,rfl,hl⟩|⟨ah,aa⟩;.grind
  .rcases oR hx with⟨e,_,_⟩|⟨_,ae⟩;.omega
   .exact h.fO j o' x' b aa ae hb
 .have av:¬D b:=(by grind);obtain⟨e1,e2⟩:=af b av;obtain⟨e3,e4⟩:=h.same b hb hx;grind
theorem Ext.jH(hi:U[i]?=some (Ob.box cells))(aa:List V):Ext U I (U.set i (.box aa)) I:=by refine⟨sm,(by grind),(by grind),(by grind)⟩;all_goals grind
def putCells(cells:List V)(off:Nat)(vs:List V):List V:=cells.take off++vs++cells.drop (off+vs.length)
theorem yQ(l:List J)(i:Nat)(a:J)(h:l[i]?=some a):l.set i a=l:=by apply Bs;grind
theorem WH(cells vs:List V)(off i:Nat)(h:off+vs.length<=cells.length):(putCells cells off vs)[i]?=if off<=i/\i<off+vs.length then vs[i-off]?else cells[i]?:=by
 unfold putCells;have ht:(cells.take off).length=off:=by grind
 grind
theorem Py(cells vs:List V)(off:Nat)(h:off+vs.length<=cells.length):(putCells cells off vs).length=cells.length:=by grind[putCells]
theorem Pz{R:V->Value->Prop}{vs:List V}{arr:ain}{xs:ail}{off:Nat}(h:bM R cells arr.toList)(hv:bM R vs xs)(hl:off+vs.length<=cells.length):bM R (putCells cells off vs) (xU arr off xs).toList:=by
 have e1:=h.length;have e2:=hv.length;simp at e1;refine bM.of (by grind[Py,xV]) λi a b ha hb=>?_;rw[WH _ _ _ _ hl]at ha;rw[Am,vw _ _ _ _ om,<-e2]at hb;by_cases hc:off<=i/\i<off+vs.length;.rw[ahP hc]at ha hb;obtain⟨y,hy,r⟩:=hv.get _ _ ha;grind
 .rw[ahO hc]at ha hb;obtain⟨y,hy,r⟩:=h.get _ _ ha;grind
theorem Mem.jH(h:Mem c w L U I){vs:List V}{xs:ail}{off b:Nat}(hi:U[i]?=some (.box cells))(dd:I[i]?=some (.pointer (some ⟨b,0,none⟩)))(hv:bM (cU w L U I) vs xs)(hl:off+vs.length<=cells.length):∃arr T fz,w.heap[b]?=some (.cells arr T fz)/\yf arr fz/\arr.size=cells.length/\Mem c (yU w b (.cells (xU arr off xs) T fz)) L (U.set i (.box (putCells cells off vs))) I/\Le w L (yU w b (.cells (xU arr off xs) T fz)) L:=by
 have cK:=h.cW i _ _ hi dd;obtain⟨b',arr,T,fz,e,hh,hf,h0,hc⟩:=cK;cases e;have ab:b<w.heap.size:=(by grind);have hle:Le w L (yU w b (.cells (xU arr off xs) T fz)) L:=by refine⟨om,λk o ho=>BQ (yg w b k _ λq=>?_) o⟩;grind
 refine⟨arr,T,fz,hh,hf,by have:=hc.length;grind,?_,hle⟩;have aa:=yQ I i _ dd;have af:Ext U I (U.set i (.box (putCells cells off vs))) I:=Ext.jH hi _;have key:=h.fe (w':=yU w b (.cells (xU arr off xs) T fz)) (L':=L) i (.box (putCells cells off vs)) (.pointer (some ⟨b,0,none⟩)) hle (by grind) (λk=>k=b) (λj o' x' k hj ad ae hk e=>by subst e;exact h.apart j i o' _ x' _ k hj ad ae hi dd hk rfl) (λk e=>by subst e;exact h.fO i _ _ k hi dd rfl) (λk hk=>⟨yg w b k _ hk,rfl⟩) (by simp[yU]) rfl rfl rfl h.lim ?_ (by grind[cP]);.grind
 .rw[aa];refine⟨b,_,T,fz,rfl,wH _ _ _ ab,λo ho=>hf o (by grind[xV]),h0,?_⟩;exact(Pz hc hv hl).imp (by grind[cU.mono])
end
variable{w:World}{L:Nat->Nat}{g:Tag}{x:Value}
def eM(s:Nat)(rows:List (List V)):Prop:=∀r∈rows,r.length=s
theorem yD{J:Type}{s:Nat}:∀{rows:List (List J)},(∀r∈rows,r.length=s)->rows.flatten.length=rows.length*s
 |[],_=>by simp|r::rows,h=>by simp_all[yD,B0,Dx]
theorem yV{J:Type}{s:Nat}:∀{rows:List (List J)}(i j:Nat),(∀r∈rows,r.length=s)->j<s->rows.flatten[i*s+j]?=(rows[i]?).bind λr=>r[j]?
 |[],i,j,_,_=>by simp|r::rows,0,j,h,hj=>by grind|r::rows,i+1,j,h,hj=>by have hr:=h r sm;rw[Db,Bb (by rw[hr,B0];omega),hr,show(i+1)*s+j-s=i*s+j by rw[B0];omega,yV i j (λx hx=>h x (by simp[hx])) hj];simp
theorem cy.of_flat{rows:List (List V)}{s b o cap:Nat}(hs:0<s)(hu:eM s rows)(fq:o+rows.length*s<=L b)(db:rows.length<=cap)(ha:∀id,g≠.app id)(hg:g=.full->cap=rows.length)(h:∀(k:Nat)v,rows.flatten[k]?=some v->∃x,w.cell? ⟨b,o+k,none⟩=some x/\cy w L v x):cy w L (.sl g rows) (.slice (some ⟨b,o,none⟩) rows.length cap):=by
 refine .sl g rows s b o cap (λi j=>(w.cell? ⟨b,o+i*s+j,none⟩).getD undef) ha hs hu fq db hg (λi j hi hj=>?_) (λi j hi hj=>?_)
 .have aa:j<rows[i].length:=by rw[hu _ sm];exact hj
  obtain⟨x,hx,_⟩:=h (i*s+j) (rows[i][j]) (by rw[yV i j hu hj,A0 hi];simp);grind
 .have aa:j<s:=by rw[<-hu _ (A7 hi)];exact hj
  obtain⟨x,hx,r⟩:=h (i*s+j) (rows[i][j]) (by rw[yV i j hu aa,A0 hi];simp);grind
theorem cy.flat{rows:List (List V)}(r:cy w L (.sl g rows) x)(ab:rows≠[]):∃s b o cap,x=.slice (some ⟨b,o,none⟩) rows.length cap/\0<s/\eM s rows/\o+rows.length*s<=L b/\rows.length<=cap/\(g=.full->cap=rows.length)/\∀(k:Nat)v,rows.flatten[k]?=some v->∃y,w.cell? ⟨b,o+k,none⟩=some y/\cy w L v y:=by cases r with |jk=>grind|sl _ _ s b o cap c ha hs hlen fq db hg hc hr=>
  refine⟨s,b,o,cap,rfl,hs,hlen,fq,db,hg,λk v hk=>?_⟩;have ad:k<rows.length*s:=by grind[yD]
  have hi:k/s<rows.length:=by simp_all[C4]
  have hj:k%s<s:=Ci _ hs;have aa:k=k/s*s+k%s:=by rw[Dp];exact(Cw k s).symm
  rw[aa,yV _ _ hlen hj,A0 hi]at hk;grind
theorem cy.len{rows:List (List V)}(r:cy w L (.sl g rows) x):∃a cap,x=.slice a rows.length cap/\rows.length<=cap/\(g=.full->cap=rows.length):=by cases r with |jk _ a cap hg=>exact⟨_,_,rfl,sm,om⟩|sl _ _ s b o cap c ha hs hlen fq db hg hc hr=>grind
theorem cy.src{P:Program}{rows:List (List V)}{s:Nat}{tx e:TypeId}(r:cy w L (.sl g rows) x)(hk:P.underlying tx=some (.slice e))(_hs:0<s)(hu:eM s rows):∃news,Src P s tx x rows.length news w/\bM (cy w L) rows.flatten news:=by
 by_cases aa:rows=[];.subst aa;obtain⟨a,cap,rfl,_,_⟩:=r.len;cases a with |none=>exact⟨[],Src.ofNil w hk cap,tV⟩|some a=>exact⟨[],(by grind[Src.ofSlice]),tV⟩
 .obtain⟨s',b,o,cap,rfl,ai,ab,fq,db,_,hc⟩:=r.flat aa;have ag:s'=s:=by obtain⟨r0,rest,rfl⟩:=Cm aa;rw[<-ab r0 sm,hu r0 sm]
  subst ag;have ad:=yD ab;let f:=λk=>(w.cell? ⟨b,o+k,none⟩).getD undef;have ae:bM (cy w L) rows.flatten ((List.range (rows.length*s')).map f):=by grind[bM.of]
  refine⟨(List.range (rows.length*s')).map f,Src.ofSlice w hk ⟨b,o,none⟩ rows.length cap _ sm (λj u hj=>?_) (λu hu=>?_),ae⟩
  .rw[B1]at hj;have af:j<rows.length*s':=by grind
   rw[A0 (sU af)]at hj;simp only[List.getElem_range,Bi,ahT]at hj;obtain⟨z,hz,_⟩:=hc j _ (A0 (by rw[ad];exact af));grind[wP]
  .obtain⟨k,hk,rfl⟩:=Aa.1 hu;have ah:k<rows.length*s':=by grind
   obtain⟨z,hz,rz⟩:=hc k _ (A0 (by rw[ad];exact ah));simpa[f,hz]using rz.dF
def zQ(bs:aij):List (List V):=bs.map λb=>[.int .u8 b.toNat]
theorem PA(bs:aij):eM 1 (zQ bs):=λr hr=>by obtain⟨b,_,rfl⟩:=Aa.1 hr;rfl
theorem IC(bs:aij):bM (cy w L) (zQ bs).flatten (byteCells ⟨bs.toArray⟩):=by unfold zQ byteCells;show bM _ _ (bs.map _);induction bs with |nil=>trivial|cons b bs ih=>exact⟨.int _ _,ih⟩
theorem sI{s:Nat}{a b:List (List V)}(ha:eM s a)(hb:eM s b):eM s (a++b):=λr hr=>by
 rcases Ak.1 hr with h|h;.exact ha r h
 .exact hb r h
theorem cy.kP{rows:List (List V)}{s b o cap:Nat}{arr:ain}{T:TypeId}{fz:Nat×Nat}{xs:ail}(hs:0<s)(hu:eM s rows)(fq:o+rows.length*s<=L b)(db:rows.length<=cap)(ha:∀id,g≠.app id)(hg:g=.full->cap=rows.length)(hh:w.heap[b]?=some (.cells arr T fz))(hx:∀(k:Nat)x,xs[k]?=some x->arr[o+k]?=some x)(h:bM (cy w L) rows.flatten xs):cy w L (.sl g rows) (.slice (some ⟨b,o,none⟩) rows.length cap):=by refine .of_flat hs hu fq db ha hg λk v hv=>?_;obtain⟨x,aa,r⟩:=h.get k v hv;grind[World.cell?]
section
variable{c:Ctx}{w:World}{L:Nat->Nat}{U:St}{I:ail}
variable{cap:Nat}{i:Nat}{arr:ain}{T:TypeId}{n:Nat}{cx:List (List V)}{xs:ail}
theorem WI(arr:ain)(k:Nat)(xs:ail)(h:k+xs.length<=arr.size)(i:Nat)(x:Value)(hx:xs[i]?=some x):(xU arr k xs)[k+i]?=some x:=by have hi:i<xs.length:=(by grind);simp_all[vw]
theorem PB(arr:ain)(k:Nat)(xs:ail)(h:k+xs.length<=arr.size)(i:Nat)(hi:i<k):(xU arr k xs)[i]?=arr[i]?:=by simp_all[vw];omega
theorem Mem.Gw(h:Mem c w L U I){s b o:Nat}{rows:List (List V)}(hi:U[i]?=some (.app n s))(dd:I[i]?=some (.slice (some ⟨b,o,none⟩) n cap))(hn:rows.length=n)(hr:cy w L (.sl .ro rows) (.slice (some ⟨b,o,none⟩) n cap))(af:eM s rows)(hu:eM s cx)(hx:bM (cy w L) cx.flatten xs)(ao:0<cx.length)(aa:n+cx.length<=cap):∃arr T fz,w.heap[b]?=some (.cells arr T fz)/\yf arr fz/\o+n*s+xs.length<=arr.size/\Mem c (yU w b (.cells (xU arr (o+n*s) xs) T fz)) (xQ L b (o+(n+cx.length)*s)) (U.set i (.app (n+cx.length) s)) (I.set i (.slice (some ⟨b,o,none⟩) (n+cx.length) cap))/\Le w L (yU w b (.cells (xU arr (o+n*s) xs) T fz)) (xQ L b (o+(n+cx.length)*s))/\Ext U I (U.set i (.app (n+cx.length) s)) (I.set i (.slice (some ⟨b,o,none⟩) (n+cx.length) cap))/\cy (yU w b (.cells (xU arr (o+n*s) xs) T fz)) (xQ L b (o+(n+cx.length)*s)) (.sl .ro (rows++cx)) (.slice (some ⟨b,o,none⟩) (n+cx.length) cap):=by
 obtain⟨a,ag,e,aj,hs,cK⟩:=h.cW i _ _ hi dd;cases e;obtain⟨b',o',arr,T,fz,e,hh,hf,aq,hL⟩:=cK om;cases e;have ah:b<w.heap.size:=(by grind);have ar:xs.length=cx.length*s:=by rw[<-hx.length,yD hu]
 have hmul:(n+cx.length)*s=n*s+cx.length*s:=(by grind);have au:(n+cx.length)*s<=cap*s:=Ae _ aa;have ab:o+n*s+xs.length<=arr.size:=om;have hle:Le w L (yU w b (.cells (xU arr (o+n*s) xs) T fz)) (xQ L b (o+(n+cx.length)*s)):=by refine⟨λk=>?_,λk q hq=>?_⟩;all_goals grind[xQ,World.cell?,wH,PB,yg]
 have av:cx.length≠0:=om;have ad:Ext U I (U.set i (.app (n+cx.length) s)) (I.set i (.slice (some ⟨b,o,none⟩) (n+cx.length) cap)):=by
  refine⟨λid a e=>?_,λid n0 s0 e=>?_,(by grind),(by grind)⟩;.grind
  .by_cases q:i=id;.subst q;rw[hi]at e;cases e;grind
   grind
  all_goals grind
 refine⟨arr,T,fz,hh,hf,ab,?_,hle,ad,?_⟩
 .refine h.fe i _ _ hle ad (λk=>k=b) (λj o' x' k hj ak al hk e=>by subst e;exact h.apart j i o' _ x' _ k hj ak al hi dd hk (by grind[cP])) (λk e=>by subst e;exact h.fO i _ _ k hi dd (by grind[cP])) (by grind[yg,xQ]) (by simp[yU]) rfl rfl rfl (λk hk=>?_) ?_ (λk hk=>?_);.simp only[xQ];rw[ahO om];exact h.lim k hk
  .refine⟨_,cap,rfl,aa,hs,λhl=>⟨b,o,_,T,fz,rfl,wH _ _ _ ah,λq hq=>hf q (by grind[xV]),by grind[xV],by simp[xQ]⟩⟩
  grind[cP]
 .have hlen:(rows++cx).length=n+cx.length:=by grind
  have e:Value.slice (some ⟨b,o,none⟩) (n+cx.length) cap=Value.slice (some ⟨b,o,none⟩) (rows++cx).length cap:=by grind
  rw[e];refine .of_flat hs (sI af hu) (by grind[xQ]) om sm sm λk v hk=>?_;rw[Ca]at hk;have aw:=yD af;simp only[World.cell?,wH _ _ _ ah];by_cases an:k<rows.flatten.length;.rw[Be an]at hk;have ai:rows≠[]:=(by grind);obtain⟨s',b',o',ag,e,_,ax,_,_,_,ae⟩:=hr.flat ai;cases e;obtain⟨y,hy,ry⟩:=ae k v hk;refine⟨y,?_,ry.mono hle⟩;simp_all[World.cell?,PB]
  .rw[Bb om]at hk;obtain⟨y,hy,ry⟩:=hx.get _ _ hk;refine⟨y,?_,ry.mono hle⟩;have:=WI arr (o+n*s) xs ab _ y hy;grind
theorem Mem.BR(h:Mem c w L U I){s:Nat}{rows:List (List V)}{x0:Value}(hi:U[i]?=some (.app n s))(dd:I[i]?=some x0)(hs:0<s)(hu:eM s rows)(hx:bM (cy w L) rows.flatten xs)(ae:n<rows.length)(db:rows.length<=cap)(af:cap*s<=arr.size)(ag:∀(k:Nat)x,xs[k]?=some x->arr[k]?=some x):Mem c (w.alloc (.cells arr T)) (xQ L w.heap.size (rows.length*s)) (U.set i (.app rows.length s)) (I.set i (.slice (some ⟨w.heap.size,0,none⟩) rows.length cap))/\Le w L (w.alloc (.cells arr T)) (xQ L w.heap.size (rows.length*s))/\Ext U I (U.set i (.app rows.length s)) (I.set i (.slice (some ⟨w.heap.size,0,none⟩) rows.length cap))/\cy (w.alloc (.cells arr T)) (xQ L w.heap.size (rows.length*s)) (.sl .ro rows) (.slice (some ⟨w.heap.size,0,none⟩) rows.length cap):=by
 obtain⟨h1,hle⟩:=h.alloc (.cells arr T) (rows.length*s);have ah:∀a,x0≠.pointer a:=by intro a e;subst e;obtain⟨_,_,e,_⟩:=h.cW i _ _ hi dd;cases e
 have aa:Ext U I (U.set i (.app rows.length s)) (I.set i (.slice (some ⟨w.heap.size,0,none⟩) rows.length cap)):=by refine⟨(by grind),(by grind),(by grind),(by grind)⟩;all_goals grind
 refine⟨?_,hle,aa,?_⟩
 .refine h1.fe i _ _ (Le.refl _ _) aa (λk=>k=w.heap.size) (λj o' x' k hj ab ad hk e=>?_) (λk e=>by subst e;exact .inl h.size) sm rfl rfl rfl rfl h1.lim ?_ (λk hk=>?_);.have:=(h.cW j o' x' ab ad).eH hk;omega
  .refine⟨_,cap,rfl,db,hs,λhl=>⟨_,0,_,T,(0,0),rfl,yR _ _,λq _ hq=>om,om,by simp[xQ]⟩⟩
  grind[cP]
 .exact .kP hs hu (by simp[xQ]) db sm sm (yR _ _) (by grind) (hx.imp (by grind[cy.mono]))
theorem Mem.pS(h:Mem c w L U I){s:Nat}{rows:List (List V)}(hs:0<s)(hu:eM s rows)(hx:bM (cy w L) rows.flatten xs)(db:rows.length<=cap)(ad:cap*s<=arr.size)(ae:∀(k:Nat)x,xs[k]?=some x->arr[k]?=some x):Mem c (w.alloc (.cells arr T)) (xQ L w.heap.size (rows.length*s)) (U++[.app rows.length s]) (I++[.slice (some ⟨w.heap.size,0,none⟩) rows.length cap])/\Le w L (w.alloc (.cells arr T)) (xQ L w.heap.size (rows.length*s))/\cy (w.alloc (.cells arr T)) (xQ L w.heap.size (rows.length*s)) (.sl .ro rows) (.slice (some ⟨w.heap.size,0,none⟩) rows.length cap):=by
 obtain⟨h1,hle⟩:=h.alloc (.cells arr T) (rows.length*s);refine⟨?_,hle,?_⟩
 .refine h1.push _ _ ⟨_,cap,rfl,db,hs,λhl=>⟨_,0,_,T,(0,0),rfl,yR _ _,λq _ hq=>om,om,by simp[xQ]⟩⟩ (λj o' x' k aa ab hk e=>?_) (λk hk=>?_);.have:=(h.cW j o' x' aa ab).eH hk;grind[cP]
  .simp[cP]at hk;rw[<-hk.2];exact .inl h.size
 .exact .kP hs hu (by simp[xQ]) db sm sm (yR _ _) (by grind) (hx.imp (by grind[cy.mono]))
theorem Mem.own(h:Mem c w L U I){s:Nat}{a:Option Addr}(hs:0<s):Mem c w L (U++[.app n s]) (I++[.slice a n n]):=by
 refine h.push _ _ ⟨a,n,rfl,om,hs,om⟩ (λj o' x' k _ _ _=>?_) (λk hk=>?_);.cases a<;>simp[cP]
 .cases a<;>simp[cP]at hk
theorem WJ(cells vs:List V)(off i:Nat)(h:off<=cells.length):(putCells cells off vs)[i]?=if off<=i/\i<off+vs.length then vs[i-off]?else cells[i]?:=by unfold putCells;grind
theorem WK(cells vs:List V)(off:Nat)(h:off<=cells.length):(putCells cells off vs).length=max cells.length (off+vs.length):=by grind[putCells]
theorem Ext.sJ{s:Nat}{rows:List (List V)}{x y:Value}(hi:U[i]?=some (.cj rows s))(hl:I.length=U.length)(dd:I[i]?=some x)(hx:∀a,x≠.pointer a)(ab:rows.length<=cx.length)(aa:cx.length=rows.length->y=x):Ext U I (U.set i (.cj cx s)) (I.set i y):=by have ad:i<U.length:=(by grind);refine⟨(by grind),(by grind),(by grind),(by grind)⟩;all_goals grind
theorem Mem.gD(h:Mem c w L U I){s b off:Nat}{rows:List (List V)}{vs:List V}(hi:U[i]?=some (.cj rows s))(dd:I[i]?=some (.slice (some ⟨b,0,none⟩) n cap))(db:0<cap)(hv:bM (cU w L U I) vs xs)(ar:off<=rows.length*s)(ae:eM s cx)(hr:cx.flatten=putCells rows.flatten off vs)(ah:rows.length<=cx.length)(ab:cx.length<=cap):∃arr T fz,w.heap[b]?=some (.cells arr T fz)/\yf arr fz/\off+xs.length<=arr.size/\Mem c (yU w b (.cells (xU arr off xs) T fz)) L (U.set i (.cj cx s)) (I.set i (.slice (some ⟨b,0,none⟩) cx.length cap))/\Le w L (yU w b (.cells (xU arr off xs) T fz)) L/\Ext U I (U.set i (.cj cx s)) (I.set i (.slice (some ⟨b,0,none⟩) cx.length cap)):=by
 obtain⟨a,au,e,ai,hs,hu,cK⟩:=h.cW i _ _ hi dd;cases e;obtain⟨b',arr,T,fz,e,hh,hf,aw,hL,af⟩:=cK db;cases e;have aj:b<w.heap.size:=(by grind);have ax:i<U.length:=(by grind);have ay:=yD hu;have av:=yD ae;have az:=hv.length;have ak:cx.length*s=max (rows.length*s) (off+vs.length):=by grind[WK]
 have a1:cx.length*s<=cap*s:=Ae _ ab;have ad:off+xs.length<=arr.size:=om;have hle:Le w L (yU w b (.cells (xU arr off xs) T fz)) L:=by
  refine⟨om,λk q hq=>?_⟩;by_cases e:k=b;.grind
  .exact BQ (yg w b k _ e) q
 have aa:Ext U I (U.set i (.cj cx s)) (I.set i (.slice (some ⟨b,0,none⟩) cx.length cap)):=Ext.sJ hi h.len dd sm ah sm;refine⟨arr,T,fz,hh,hf.1,ad,?_,hle,aa⟩;refine h.fe i _ _ hle aa (λk=>k=b) (λj o' x' k hj al an hk e=>by subst e;exact h.apart j i o' _ x' _ k hj al an hi dd hk (by simp[cP,db])) (λk e=>by subst e;exact h.fO i _ _ k hi dd (by simp[cP,db])) (λk hk=>⟨yg w b k _ hk,rfl⟩) (by simp[yU]) rfl rfl rfl h.lim ?_ (λk hk=>?_)
 .refine⟨_,cap,rfl,ab,hs,ae,λ_=>⟨b,_,T,fz,rfl,wH _ _ _ aj,hf.size (by rw[xV]),by rw[xV];omega,hL,?_⟩⟩;refine bM.of ?_ λk p y hp hy=>?_
  .have a6:(xU arr off xs).toList.length=arr.size:=by simp[xV]
   grind
  .have ao:k<cx.length*s:=by grind
   rw[Aw,ahP ao,Am,vw _ _ _ _ ad]at hy;rw[hr,WJ _ _ _ _ om]at hp;by_cases ag:off<=k/\k<off+vs.length;.rw[ahP ag]at hp;rw[ahP om]at hy;obtain⟨z,hz,r⟩:=hv.get _ _ hp;rw[hy]at hz;cases hz;exact r.mono hle aa
   .rw[ahO ag]at hp;rw[ahO om]at hy;obtain⟨z,hz,r⟩:=af.get _ _ hp;have aq:k<rows.length*s:=om;rw[Aw,ahP aq,Am,hy]at hz;cases hz;exact r.mono hle aa
 .simp[cP,db]at hk;omega
theorem ID(h:Mem c w L U I):xQ L w.heap.size 0=L:=by
 funext k;by_cases hk:k=w.heap.size;.subst hk;simp[xQ,h.lim _ (A6 _)]
 grind[xQ]
theorem Mem.mu(h:Mem c w L U I){s:Nat}{rows:List (List V)}(hs:0<s)(hu:eM s rows)(hx:bM (cU w L U I) rows.flatten (arr.toList.take (rows.length*s)))(db:rows.length<=cap)(ab:cap*s<=arr.size):Mem c (w.alloc (.cells arr T)) L (U++[.cj rows s]) (I++[.slice (some ⟨w.heap.size,0,none⟩) rows.length cap])/\Le w L (w.alloc (.cells arr T)) L/\Ext U I (U++[.cj rows s]) (I++[.slice (some ⟨w.heap.size,0,none⟩) rows.length cap]):=by
 have h1:=h.alloc (.cells arr T) 0;rw[ID h]at h1;have aa:=Ext.push U I h.len (.cj rows s) (.slice (some ⟨w.heap.size,0,none⟩) rows.length cap);refine⟨h1.1.push _ _ ⟨_,cap,rfl,db,hs,hu,λ_=>⟨_,arr,T,(0,0),rfl,yR _ _,Px _ _,ab,h.lim _ om,hx.imp (by grind[cU.mono])⟩⟩ (λj o' x' k ad ae hk e=>?_) (λk hk=>?_),h1.2,aa⟩;.have:=(h.cW j o' x' ad ae).eH hk;grind[cP]
 .simp[cP]at hk;rw[<-hk.2];exact .inl h.size
theorem Mem.sK(h:Mem c w L U I){s:Nat}{rows:List (List V)}{fz:Nat×Nat}(ab:fV s arr fz)(hs:0<s)(hu:eM s rows)(hx:bM (cU w L U I) rows.flatten (arr.toList.take (rows.length*s)))(db:rows.length<=cap)(ad:cap*s<=arr.size):Mem c (w.alloc (.cells arr T fz)) L (U++[.cj rows s]) (I++[.slice (some ⟨w.heap.size,0,none⟩) rows.length cap])/\Le w L (w.alloc (.cells arr T fz)) L/\Ext U I (U++[.cj rows s]) (I++[.slice (some ⟨w.heap.size,0,none⟩) rows.length cap]):=by
 have h1:=h.alloc (.cells arr T fz) 0;rw[ID h]at h1;have aa:=Ext.push U I h.len (.cj rows s) (.slice (some ⟨w.heap.size,0,none⟩) rows.length cap);refine⟨h1.1.push _ _ ⟨_,cap,rfl,db,hs,hu,λ_=>⟨_,arr,T,fz,rfl,yR _ _,ab,ad,h.lim _ om,hx.imp (by grind[cU.mono])⟩⟩ (λj o' x' k ae af hk e=>?_) (λk hk=>?_),h1.2,aa⟩;.have:=(h.cW j o' x' ae af).eH hk;grind[cP]
 .simp[cP]at hk;rw[<-hk.2];exact .inl h.size
theorem Mem.mw(h:Mem c w L U I){s:Nat}{a:Option Addr}(hs:0<s):Mem c w L (U++[.cj [] s]) (I++[.slice a 0 0]):=by
 refine h.push _ _ ⟨a,0,rfl,sm,hs,sm,om⟩ (λj o' x' k _ _ _=>?_) (λk hk=>?_);.cases a<;>simp[cP]
 .cases a<;>simp[cP]at hk
theorem Mem.yh(h:Mem c w L U I){s:Nat}{rows:List (List V)}{x0:Value}(hi:U[i]?=some (.cj rows s))(dd:I[i]?=some x0)(hs:0<s)(hu:eM s cx)(hx:bM (cU w L U I) cx.flatten (arr.toList.take (cx.length*s)))(af:rows.length<cx.length)(db:cx.length<=cap)(ab:cap*s<=arr.size):Mem c (w.alloc (.cells arr T)) L (U.set i (.cj cx s)) (I.set i (.slice (some ⟨w.heap.size,0,none⟩) cx.length cap))/\Le w L (w.alloc (.cells arr T)) L/\Ext U I (U.set i (.cj cx s)) (I.set i (.slice (some ⟨w.heap.size,0,none⟩) cx.length cap)):=by
 obtain⟨h1,hle⟩:=h.alloc (.cells arr T) 0;rw[ID h]at h1 hle;have aa:Ext U I (U.set i (.cj cx s)) (I.set i (.slice (some ⟨w.heap.size,0,none⟩) cx.length cap)):=Ext.sJ hi h.len dd (λa e=>by subst e;obtain⟨_,_,e,_⟩:=h.cW i _ _ hi dd;cases e) om om;refine⟨?_,hle,aa⟩;refine h1.fe i _ _ (Le.refl _ _) aa (λk=>k=w.heap.size) (λj o' x' k hj ad ae hk e=>?_) (λk e=>by subst e;exact .inl h.size) sm rfl rfl rfl rfl h1.lim ?_ (λk hk=>?_);.have:=(h.cW j o' x' ad ae).eH hk;omega
 .exact⟨_,cap,rfl,db,hs,hu,λ_=>⟨_,arr,T,(0,0),rfl,yR _ _,Px _ _,ab,h.lim _ om,hx.imp (by grind[cU.mono])⟩⟩
 grind[cP]
end
structure dM(c:Ctx)(nt:Nat)(e:Env)(U:St)(a:Act)(w:World)(L:Nat->Nat)(I:ail):Prop where
 mem:Mem c w L U I
 size:a.tmps.size=nt
 defs:a.defers=[]env:∀t,dj w L U I (e t) (a.tmps.getD t undef)
variable {w:World}{L:Nat->Nat}
def jf:Value->V |.bool b=>.bool b|.int k n=>.int k n|.string s=>.str s.data.toList|.pointer none=>.fK|.slice none 0 0=>.sl .full []|.agg _=>.u|.tuple _=>.u|v=>.raw v
def PC(g:Nat):V:=match dK.find? (λp=>p.1==g)with |some p=>.oQ p.2 0|none=>.u
def zI(e:Env):Operand->V |.tmp t=>e t|.const v=>jf v|.func f=>.fn f []|.global g=>PC g
def yi:V->Bool|.u|.agg _|.cm _=>false|_=>true
theorem WL{U:St}{I:ail}(v:Value):dj w L U I (jf v) v:=by
 unfold jf;split;.exact cy.bool _
 .exact cy.int _ _
 .rename_i s;have:cy w L (.str s.data.toList) (.string ⟨s.data.toList.toArray⟩):=.str _;simpa
 .exact cy.fK
 .exact cy.jk _ _ _ om sm
 .trivial
 .trivial
 .rename_i h1 h2 h3 h4 h5 h6 h7;refine cy.raw v ?_;cases v<;>first|rfl|exact(by grind)|exact(by grind)
theorem Gx(v:Value)(h1:v.oneCell'):cy w L (jf v) v/\yi (jf v)=true:=by
 unfold jf;split;.exact⟨cy.bool _,rfl⟩
 .exact⟨cy.int _ _,rfl⟩
 .rename_i s;have:cy w L (.str s.data.toList) (.string ⟨s.data.toList.toArray⟩):=.str _;trivial
 .exact⟨cy.fK,rfl⟩
 .exact⟨cy.jk _ _ _ om sm,rfl⟩
 .trivial
 .trivial
 .exact⟨cy.raw _ h1,rfl⟩
theorem dM.eval{c:Ctx}{nt:Nat}{e:Env}{U:St}{a:Act}{I:ail}(h:dM c nt e U a w L I)(x:Operand):dj w L U I (zI e x) (a.eval x):=by cases x with |tmp t=>exact h.env t|const v=>exact WL v|func f=>exact⟨[],rfl,tV⟩|global g=>trivial
inductive R where|fail|ok(v:V)|eF(p:Prop)(v:V)|st(v:V)(U:St)|dp(p:Prop)(v:V)(U:St)|all(f:Bool->V)|any(l:List (V×St))
section tables
variable (P:Program)
def eT(t:TypeId):aip:=(P.info? t).map (·.size)
def Ll:TypeDesc->Bool|.struct _|.array _ _=>true|_=>false
def cQ(t:TypeId):Option Bool:=(P.underlying t).map Ll
def cI(t:TypeId)(f:Nat):Option (Nat×Nat×Bool):=match P.underlying t with |some (.struct fs)=>(fs[f]?).bind λf=>(eT P f.type).bind λs=>(cQ P f.type).bind λb=>if s=0then none else some (f.offset,s,b)|_=>none
def eQ(t:TypeId):aip:=match P.underlying t with |some (.slice e)=>eT P e|_=>none
def iD(t:TypeId):Option (Nat×Nat×Bool):=match P.underlying t with |some (.array n e)=>(eT P e).bind λs=>(cQ P e).map λb=>(n,s,b)|_=>none
def gK(t:TypeId):Option (List V):=(P.info? t).bind λi=>(i.zero).bind λz=>if z.cells.all (·.oneCell')=true then some (z.cells.toList.map jf)else none
def ec(t:TypeId):Option (Nat×Nat):=match P.underlying t with |some (.slice e)=>(P.info? e).bind λi=>i.zero.bind λz=>if z.cells.size=i.size/\0<i.size/\0<i.bytes then some (i.size,i.bytes)else none|_=>none
inductive Kd where|int(k:IntKind)|str|bytes|other deriving DecidableEq
def jI(t:TypeId):Option Kd:=match P.underlying t with |some (.int k)=>some (.int k)|some .string=>some .str|some (.slice e)=>(match P.underlying e with|some (.int .u8)=>some .bytes|_=>some .other)|some _=>some .other|none=>none
end tables
def oz:V->Bool|.bool _|.int _ _|.str _|.raw _|.fK|.sl _ _=>true|_=>false
def pT:V->V|.sl _ rows=>.sl .ro rows|v=>v
def xT:V->List V|.agg cs=>cs|v=>[v]
theorem cy.lE{w:World}{L:Nat->Nat}{g:Tag}{rows:List (List V)}{x:Value}(r:cy w L (.sl g rows) x):cy w L (.sl .ro rows) x:=by cases r with |jk _ a cap hg ha=>exact .jk _ a cap sm sm|sl _ _ s b o cap c ha hs hlen fq db hg hc hr=>exact .sl _ rows s b o cap c sm hs hlen fq db sm hc hr
theorem cU.pT{w:World}{L:Nat->Nat}{U:St}{I:ail}{v:V}{x:Value}(r:cU w L U I v x)(h:oz v):cy w L (pT v) x:=by cases v with
 |sl g rows=>cases g with |ro=>exact r|full=>exact cy.lE r|app id=>exact r.1
 |u=>trivial|ptr _ _=>trivial|oQ _ _=>trivial|cL _ _ _ _ _=>trivial|jj _ _ _ _ _=>trivial|j9 _ _ _ _=>trivial|mp _=>trivial|fn _ _=>trivial|gW _ _=>trivial|agg _=>trivial|cm _=>trivial|bool b=>exact r|int k n=>exact r|str s=>exact r|raw v=>exact r|fK=>exact r
section inv
variable{w:World}{L:Nat->Nat}{U:St}{I:ail}
variable {x:Value}
theorem pU{b:Bool}(r:dj w L U I (.bool b) x):x=.bool b:=by cases r;rfl
theorem yS{k:IntKind}{n:Int}(r:dj w L U I (.int k n) x):x=.int k n:=by cases r;rfl
theorem lF{s:aij}(r:dj w L U I (.str s) x):x=.string ⟨s.toArray⟩:=by cases r;rfl
theorem Lm(r:dj w L U I .fK x):x=.pointer none:=by cases r;rfl
theorem sL{g:Tag}{rows:List (List V)}(r:dj w L U I (.sl g rows) x):cy w L (.sl .ro rows) x:=by cases g with |ro=>exact r|full=>exact cy.lE r|app id=>exact r.1
theorem WM{v:V}(r:dj w L U I v x)(h:yi v):cU w L U I v x:=by cases v<;>first|exact r|simp[yi]at h
theorem Gy(h:x.oneCell'):x.cells=#[x]:=by cases x<;>first|rfl|simp[Value.oneCell']at h
def nu:V->Bool|.u|.cm _=>false|_=>true
theorem BS{v:V}(r:dj w L U I v x)(h:nu v):bM (cU w L U I) (xT v) x.cells.toList:=by
 by_cases hc:yi v=true
 .have r':=WM r hc;rw[Gy r'.dF];have:xT v=[v]:=by cases v<;>first|rfl|simp[yi]at hc
  rw[this];trivial
 .cases v with |agg cs=>obtain⟨xs,rfl,h⟩:=r;exact h|u=>trivial|cm vs=>trivial|_=>simp[yi]at hc
end inv
inductive Pk where|b|i(k:IntKind)|s deriving DecidableEq
def Gz(P:Program)(sh:TypeId->Option (List Pk)):Nat->List Field->Option (List Pk) |_,[]=>some []|off,f::fs=>if f.name≠"_"/\f.offset=off then(sh f.type).bind λks=>if eT P f.type=some ks.length then(Gz P sh (off+ks.length) fs).map (ks++·)else none else none
def vx(P:Program):Nat->TypeId->Option (List Pk) |0,_=>none|d+1,t=>match P.underlying t,cQ P t with |some .bool,some false=>some [.b]|some (.int k),some false=>some [.i k]|some .string,some false=>some [.s]|some (.struct fs),some true=>if P.stoodInHeld t=false then Gz P (vx P d) 0 fs.toList else none|_,_=>none
def jJ:Pk->V->V->Option Bool |.b,.bool x,.bool y=>some (x==y)|.i k,.int k1 x,.int k2 y=>if k1=k/\k2=k then some (x==y)else none|.s,.str x,.str y=>some (x==y)|_,_,_=>none
def lG:List Pk->List V->List V->Option Bool |[],[],[]=>some true|k::ks,a::az,b::bs=>(jJ k a b).bind λr=>(lG ks az bs).map (r&&·)|_,_,_=>none
def gO:Pk->Value->Value->Option Bool |.b,.bool x,.bool y=>some (x==y)|.i k,.int k1 x,.int k2 y=>if k1=k/\k2=k then some (x==y)else none|.s,.string x,.string y=>some (x==y)|_,_,_=>none
def iO:List Pk->ail->ail->Option Bool |[],[],[]=>some true|k::ks,a::az,b::bs=>(gO k a b).bind λr=>(iO ks az bs).map (r&&·)|_,_,_=>none
def nv(P:Program)(t:TypeId):Option (List Pk):=match P.underlying t with|some (.struct _)=>if P.eqGuardType P.depth t=false then vx P 10 t else none|_=>none
section
variable{P:Program}{c:Ctx}{w:World}{L:Nat->Nat}{U:St}{I:ail}
variable{t:TypeId}{x:Value}{y:Value}{r:Bool}
theorem WN{s:Nat}(h:eT P t=some s):∃i,P.info? t=some i/\i.size=s:=by unfold eT at h;simp_all
theorem oS{s:Nat}(h:eT P t=some s)(w:World):(sizeOf t).run P w=.ok s w:=by obtain⟨i,hi,rfl⟩:=WN h;simp_all[sizeOf,typeInfo]
theorem ur{b:Bool}(h:cQ P t=some b)(w:World):(isAgg t).run P w=.ok b w:=by unfold cQ at h;cases hu:P.underlying t with |none=>grind|some d=>simp[hu]at h;subst h;simp only[isAgg,Sem.run_bind,run_underlying hu,Result.andThen_ok,Ll];cases d<;>rfl
theorem Lo:∀(ks:List Pk)(az bs:ail)(r:Bool),iO ks az bs=some r->az.length=ks.length/\bs.length=ks.length
 |[],[],[],_,_=>om|k::ks,a::az,b::bs,r,h=>by unfold iO at h;cases h1:gO k a b with |none=>rw[h1]at h;cases h|some r1=>rw[h1]at h;simp only[An,Ar]at h;obtain⟨r2,h2,_⟩:=h;have:=Lo ks az bs r2 h2;simp[this.1,this.2]
 |[],[],_::_,_,h=>by cases h|[],_::_,_,_,h=>by cases h|_::_,[],_,_,h=>by cases h|_::_,_::_,[],_,h=>by cases h
theorem PD:∀(ks aa:List Pk)(az bs:ail)(r:Bool),iO (ks++aa) az bs=some r->∃r1 r2,iO ks (az.take ks.length) (bs.take ks.length)=some r1/\iO aa (az.drop ks.length) (bs.drop ks.length)=some r2/\r=(r1&&r2)
 |[],aa,az,bs,r,h=>(by grind[iO])|k::ks,aa,a::az,b::bs,r,h=>by rw[Bg]at h;unfold iO at h;cases h1:gO k a b with |none=>grind|some r0=>rw[h1]at h;simp only[An,Ar]at h;obtain⟨r',h2,rfl⟩:=h;obtain⟨r1,r2,h3,h4,rfl⟩:=PD ks aa az bs r' h2;refine⟨r0&&r1,r2,?_,by grind,by grind⟩;grind[iO]
 |_::_,_,[],_,_,h=>by cases h|_::_,_,_::_,[],_,h=>by cases h
theorem Lp:∀(ks:List Pk)(vs ws:List V)(xs ys:ail)(r:Bool),bM (cU w L U I) vs xs->bM (cU w L U I) ws ys->lG ks vs ws=some r->iO ks xs ys=some r
 |[],[],[],[],[],r,_,_,h=>h|k::ks,v::vs,v2::us,x::xs,y::ys,r,h1,h2,h=>by unfold lG at h;cases hk:jJ k v v2 with |none=>grind|some r0=>
   rw[hk]at h;simp only[An,Ar]at h;obtain⟨r',h3,rfl⟩:=h;have ih:=Lp ks vs us xs ys r' h1.2 h2.2 h3;have hp:gO k x y=some r0:=by
    have hx:=h1.1;have hy:=h2.1;unfold jJ at hk;split at hk;.cases hx;cases hy;exact hk
    .cases hx;cases hy;exact hk
    .cases hx;cases hy;rename_i a b;rw[<-hk];simp only[gO,ahT];show(a.toArray==b.toArray)=(a==b);simp
    grind
   grind[iO] |[],[],[],[],_::_,_,_,h2,_=>h2.elim|[],[],[],_::_,_,_,h1,_,_=>h1.elim|[],[],_::_,_,_,_,_,_,h=>by cases h|[],_::_,_,_,_,_,_,_,h=>by cases h|_::_,[],_,_,_,_,_,_,h=>by cases h|_::_,_::_,[],_,_,_,_,_,h=>by cases h|_::_,_::_,_::_,[],_,_,h1,_,_=>h1.elim|_::_,_::_,_::_,_::_,[],_,_,h2,_=>h2.elim
def oT(P:Program)(t:TypeId)(x:Value):Prop:=if cQ P t=some true then∃xs,x=.agg xs else x.oneCell'=true
theorem PE{ks:List Pk}{b:Bool}(hs:eT P t=some ks.length)(ha:cQ P t=some b)(h1:b=false->ks.length=1)(cs:ain)(off:Nat)(hl:off+ks.length<=cs.size)(aa:∀x∈cs.toList,x.oneCell'):∃x,(part t cs off).run P w=.ok x w/\oT P t x/\x.cells.toList=(cs.toList.drop off).take ks.length:=by cases b with
 |true=>
  refine⟨.agg (cs.extract off (off+ks.length)),?_,?_,?_⟩;.simp_all[part,ur,oS]
  .unfold oT;grind
  grind[Value.cells,Array.toList_extract]|false=>have hk:=h1 rfl;have ab:off<cs.size:=om;simp_all[part,ur,oT,Gy,A2]
theorem WO{d:Nat}{ks:List Pk}(h:vx P d t=some ks):∃b,cQ P t=some b/\(b=false->ks.length=1):=by cases d with |zero=>cases h|succ d=>unfold vx at h;grind
theorem WQ(h:gO .b x y=some r):∃a b,x=.bool a/\y=.bool b/\r=(a==b):=by
 cases x<;>first|(simp[gO]at h;done)|skip
 cases y<;>first|(simp[gO]at h;done)|skip
 simp[gO]at h;grind
theorem WR{k:IntKind}(h:gO (.i k) x y=some r):∃a b,x=.int k a/\y=.int k b/\r=(a==b):=by
 cases x<;>first|(simp[gO]at h;done)|skip
 cases y<;>first|(simp[gO]at h;done)|skip
 simp[gO]at h;simp_all
theorem WS(h:gO .s x y=some r):∃a b,x=.string a/\y=.string b/\r=(a==b):=by
 cases x<;>first|(simp[gO]at h;done)|skip
 cases y<;>first|(simp[gO]at h;done)|skip
 simp only[gO,ahT]at h;grind
theorem Lq:∀(d:Nat)(t:TypeId)(ks:List Pk),vx P d t=some ks->∀(D:Nat),d<=D->∀(x y:Value)(r:Bool),oT P t x->oT P t y->(∀z∈x.cells.toList,z.oneCell'=true)->(∀z∈y.cells.toList,z.oneCell'=true)->iO ks x.cells.toList y.cells.toList=some r->∀w,(Op.equalIn D t x y).run P w=.ok r w
 |0,_,_,h=>by cases h|d+1,t,ks,h=>by
  intro D hD x y r hx hy ab ae he w;obtain⟨D,rfl⟩:∃D',D=D'+1:=(by simp;omega);have aa:∀k,ks=[k]->cQ P t=some false->∃r',gO k x y=some r'/\r=r':=by intro k hk ha;unfold oT at hx hy;rw[ahO (by rw[ha];simp)]at hx hy;rw[Gy hx,Gy hy,hk]at he;simp only[iO]at he;simp_all
  unfold vx at h;split at h;.rename_i hu ha;simp at h;obtain⟨r',hp,rfl⟩:=aa .b h.symm ha;obtain⟨m,n,rfl,rfl,rfl⟩:=WQ hp;simp[Op.equalIn,run_underlying hu]
  .rename_i k hu ha;simp at h;obtain⟨r',hp,rfl⟩:=aa (.i k) h.symm ha;obtain⟨m,n,rfl,rfl,rfl⟩:=WR hp;simp[Op.equalIn,run_underlying hu]
  .rename_i hu ha;simp at h;obtain⟨r',hp,rfl⟩:=aa .s h.symm ha;obtain⟨m,n,rfl,rfl,rfl⟩:=WS hp;simp[Op.equalIn,run_underlying hu]
  .rename_i fs hu ha;split at h
   .rename_i ah;unfold oT at hx hy;rw[ahP ha]at hx hy;obtain⟨xs,rfl⟩:=hx;obtain⟨ys,rfl⟩:=hy;have af:P.fieldsOf t=fs:=by grind[Program.fieldsOf]
    rw[run_equalIn_struct (P:=P) (w:=w) D t xs ys (by rw[af];exact hu) ah,af];simp only[Value.cells]at he ab ae;have key:∀(l:List Field)(off:Nat)(ks:List Pk)(r:Bool),Gz P (vx P d) off l=some ks->iO ks (xs.toList.drop off) (ys.toList.drop off)=some r->(Op.eqFields D xs ys l).run P w=.ok r w:=by intro l;induction l with |nil=>intro off ks r hk hr;simp[Gz]at hk;subst hk;have:=Lo _ _ _ _ hr;have h1:xs.toList.drop off=[]:=(by grind);have h2:ys.toList.drop off=[]:=(by grind);simp_all[iO,Op.eqFields]|cons f l ih=>
      intro off ks r hk hr;unfold Gz at hk;split at hk;.rename_i hf;cases ad:vx P d f.type with |none=>grind|some k1=>
        rw[ad]at hk;simp only[An]at hk;split at hk
        .rename_i ai;simp only[Ar]at hk;obtain⟨k2,aj,rfl⟩:=hk;have hlen:=Lo _ _ _ _ hr;simp only[List.length_drop,Al,Co]at hlen;obtain⟨r1,r2,h1,h2,rfl⟩:=PD k1 k2 _ _ _ hr;obtain⟨b,ak,al⟩:=WO ad;have ao:0<k1.length\/k1.length=0:=om;have an:off+k1.length<=xs.size/\off+k1.length<=ys.size\/k1.length=0/\b:=by grind
         have parts:∃a b',(part f.type xs off).run P w=.ok a w/\(part f.type ys off).run P w=.ok b' w/\oT P f.type a/\oT P f.type b'/\a.cells.toList=(xs.toList.drop off).take k1.length/\b'.cells.toList=(ys.toList.drop off).take k1.length:=by
          rcases an with⟨q1,q2⟩|⟨q,rfl⟩;.obtain⟨a,p1,p2,p3⟩:=PE (w:=w) ai ak al xs off q1 ab;simp_all[PE]
          .refine⟨.agg (xs.extract off (off+k1.length)),.agg (ys.extract off (off+k1.length)),?_,?_,?_,?_,?_,?_⟩;.simp_all[part,ur,oS]
           .simp_all[part,ur,oS]
           .unfold oT;grind
           .unfold oT;grind
           all_goals grind[Value.cells,Array.toList_extract]
         obtain⟨a,b',p1,p2,f1,f2,c1,c2⟩:=parts;have ag:=Lq d f.type k1 ad D om a b' r1 f1 f2 (by rw[c1];exactλz hz=>ab z (Dn (C6 hz))) (by rw[c2];exactλz hz=>ae z (Dn (C6 hz))) (by rw[c1,c2];exact h1) w;have aq:=ih (off+k1.length) k2 r2 aj (by simpa[Do]using h2);simp only[Op.eqFields,hf.1,ne_eq,not_false_eq_true,ai0,Sem.run_bind,hf.2,p1,p2,ag,Result.andThen_ok];cases r1;all_goals simp_all
        grind
      grind
    grind
   grind
  grind
end
def bS(P:Program)(c:Ctx)(o:Oper)(a:Act)(w:World)(L:Nat->Nat)(U:St)(I:ail)(v:V)(U':St):Prop:=∃x w' L' I',((execOp a.eval o).run P w=.ok (.value x) w'\/((execOp a.eval o).run P w=.ok .skip w'/\x=undef))/\Mem c w' L' U' I'/\Le w L w' L'/\Ext U I U' I'/\dj w' L' U' I' v x
def fD(r:R)(U:St)(Y:V->St->Prop):Prop:=match r with |.fail=>True|.ok v=>Y v U|.eF p v=>p->Y v U|.st v U'=>Y v U'|.dp p v U'=>p->Y v U'|.all f=>∃b,Y (f b) U|.any l=>∃p∈l,Y p.1 p.2
section
variable{P:Program}{c:Ctx}{nt:Nat}{e:Env}{U:St}{a:Act}{w:World}{L:Nat->Nat}{I:ail}{o:Oper}
variable{dst:Option Tmp}{ty:TypeId}{dU:Array Edge}{g:Option (Nat×Bool)}{t:TypeId}{el:TypeId}
theorem bS.pure(h:dM c nt e U a w L I){v:V}{x:Value}(hr:(execOp a.eval o).run P w=.ok (.value x) w)(r:dj w L U I v x):bS P c o a w L U I v U:=⟨x,w,L,I,.inl hr,h.mem,Le.refl _ _,Ext.refl _ _,r⟩
def yj(b x y:V):R:=match b with |.bool t=>.ok (if t then x else y)|_=>.fail
theorem WT{pos:String}(x y z:Operand)(h:dM c nt e U a w L I):fD (yj (zI e x) (zI e y) (zI e z)) U (bS P c ⟨dst,.pick x y z,ty,pos,dU,g⟩ a w L U I):=by
 have hx:=h.eval x;unfold yj;split
 .rename_i b hb;rw[hb]at hx;have:=pU hx;refine bS.pure h (x:=if b then a.eval y else a.eval z) (by simp_all[execOp,asBool]) ?_;cases b;.exact h.eval z
  .exact h.eval y
 trivial
theorem WU{pos:String}(x:Operand)(h:dM c nt e U a w L I):fD (.ok (zI e x)) U (bS P c ⟨dst,.move x,ty,pos,dU,g⟩ a w L U I):=bS.pure h (by rfl) (h.eval x)
theorem WV{pos:String}(x:Operand)(h:dM c nt e U a w L I):fD (.ok (zI e x)) U (bS P c ⟨dst,.assign x,ty,pos,dU,g⟩ a w L U I):=bS.pure h (by rfl) (h.eval x)
def yl(x:V):R:=match x with |.ptr id off=>.ok (.ptr id off)|.oQ cs off=>.ok (.oQ cs off)|.jj id s n k j=>.ok (.jj id s n k j)|.fn f bY=>.ok (.fn f bY)|_=>.fail
theorem WW{pos:String}(x:Operand)(h:dM c nt e U a w L I):fD (yl (zI e x)) U (bS P c ⟨dst,.nilCheck x,ty,pos,dU,g⟩ a w L U I):=by
 have hx:=h.eval x;unfold yl;split;.rename_i id off hb;rw[hb]at hx;obtain⟨b,_,hv⟩:=hx;exact bS.pure h (x:=a.eval x) (by simp_all[execOp]) (hb▸h.eval x)
 .rename_i cs off hb;rw[hb]at hx;obtain⟨b,o,_,hv,_⟩:=hx;exact bS.pure h (x:=a.eval x) (by simp_all[execOp]) (hb▸h.eval x)
 .rename_i id s n k j hb;rw[hb]at hx;obtain⟨b,o,hv,_⟩:=hx;exact bS.pure h (x:=a.eval x) (by simp_all[execOp]) (hb▸h.eval x)
 .rename_i f bY hb;rw[hb]at hx;obtain⟨xs,hv,_⟩:=hx;exact bS.pure h (x:=a.eval x) (by simp_all[execOp]) (hb▸h.eval x)
 trivial
def jX(op:BinOp)(k:IntKind)(x y:Int):Int:=match op with |.and=>k.wrap (BitVec.ofInt k.bits x&&&BitVec.ofInt k.bits y).toNat|.or=>k.wrap (BitVec.ofInt k.bits x|||BitVec.ofInt k.bits y).toNat|.xor=>k.wrap (BitVec.ofInt k.bits x^^^BitVec.ofInt k.bits y).toNat|_=>k.wrap (BitVec.ofInt k.bits x&&&~~~BitVec.ofInt k.bits y).toNat
def BT(op:BinOp)(k:IntKind)(x y:Int):R:=match op with |.add=>.ok (.int k (k.wrap (x+y)))|.sub=>.ok (.int k (k.wrap (x-y)))|.mul=>.ok (.int k (k.wrap (x*y)))|.quo=>.eF (y≠0) (.int k (k.wrap (x.tdiv y)))|.rem=>.eF (y≠0) (.int k (x.tmod y))|.and=>.ok (.int k (jX .and k x y))|.or=>.ok (.int k (jX .or k x y))|.xor=>.ok (.int k (jX .xor k x y))|.andNot=>.ok (.int k (jX .andNot k x y))|.eql=>.ok (.bool (x==y))|.neq=>.ok (.bool (x !=y))|.lss=>.ok (.bool (decide (x<y)))|.leq=>.ok (.bool (decide (x<=y)))|.gtr=>.ok (.bool (decide (x>y)))|.geq=>.ok (.bool (decide (x≥y)))|.shl=>.eF (0<=y) (.int k (k.wrap (x*2^(min y.toNat k.bits))))|.shr=>.eF (0<=y) (.int k (x.fdiv (2^(min y.toNat k.bits))))
def BU(op:BinOp)(x y:aij):R:=match op with |.add=>.eF (x.length+y.length<=9223372036854775807) (.str (x++y))|.eql=>.ok (.bool (x==y))|.neq=>.ok (.bool (!(x==y)))|.lss=>.ok (.bool (Op.bytesLess x y))|.leq=>.ok (.bool (Op.bytesLess x y||x==y))|.gtr=>.ok (.bool (!(Op.bytesLess x y||x==y)))|.geq=>.ok (.bool (!(Op.bytesLess x y)))|_=>.fail
def ka(P:Program)(t:TypeId):Nat:=match P.underlying t with |some .bool=>1|some (.pointer _)=>2|some (.slice _)=>3|_=>0
def GA(op:BinOp)(n:Nat):R:=match op with |.eql=>if 0<n then .ok (.bool false)else .all .bool|.neq=>if 0<n then .ok (.bool true)else .all λb=>.bool (!b)|_=>.fail
def BV:V->aip|.sl _ rows=>some rows.length|.cL _ _ _ _ m=>some m|_=>none
def oA(op:BinOp)(ek:Nat)(es:Option (List Pk))(x y:V):R:=match x,y with |.int k a,.int k' b=>if k=k' then BT op k a b else(match op with|.shl=>.eF (0<=b) (.int k (k.wrap (a*2^(min b.toNat k.bits))))|.shr=>.eF (0<=b) (.int k (a.fdiv (2^(min b.toNat k.bits))))|_=>.fail)|.str a,.str b=>BU op a b|.bool a,.bool b=>if ek=1then(match op with|.eql=>.ok (.bool (a==b))|.neq=>.ok (.bool (!(a==b)))|_=>.fail)else .fail|.ptr _ _,.fK=>if ek=2then(match op with|.eql=>.ok (.bool false)|.neq=>.ok (.bool true)|_=>.fail)else .fail|.fK,.fK=>if ek=2then(match op with|.eql=>.ok (.bool true)|.neq=>.ok (.bool false)|_=>.fail)else .fail|.agg az,.agg bs=>(match es.bind λks=>lG ks az bs with |some r=>(match op with|.eql=>.ok (.bool r)|.neq=>.ok (.bool (!r))|_=>.fail)|none=>.fail)|_,_=>.fail
def vy(op:BinOp)(ek:Nat)(x:V):R:=if ek=3then(match BV x with|some n=>GA op n|none=>.fail)else .fail
def pV:Operand->Bool |.const (.slice none 0 0)=>true|_=>false
theorem IE{k k':IntKind}{x y:Int}(op:BinOp)(aa:op=.shl\/op=.shr)(hy:0<=y)(w:World):(Op.shift op k x k' y).run P w=.ok (.int k (if op=.shl then k.wrap (x*2^(min y.toNat k.bits))else x.fdiv (2^(min y.toNat k.bits)))) w:=by have:¬y<0:=om;rcases aa with rfl|rfl<;>simp[Op.shift,this]
theorem WX{pos:String}(op:BinOp)(t t':TypeId)(x y:Operand)(h:dM c nt e U a w L I){k:IntKind}{m n:Int}(hx:a.eval x=.int k m)(hy:a.eval y=.int k n):fD (BT op k m n) U (bS P c ⟨dst,.binOp op t x y t',ty,pos,dU,g⟩ a w L U I):=by
 have run:∀v,(binOp op t (.int k m) (.int k n)).run P w=.ok v w->(execOp a.eval ⟨dst,.binOp op t x y t',ty,pos,dU,g⟩).run P w=.ok (.value v) w:=by simp_all[execOp,eqGuard]
 cases op;case quo=>exactλhn=>bS.pure h (by simp_all[binOp,Op.intDiv]) (cy.int _ _)
 case rem=>exactλhn=>bS.pure h (by simp_all[binOp,Op.intDiv]) (cy.int _ _)
 case shl=>exactλhn=>bS.pure h (run _ (by simp only[binOp];rw[IE .shl (.inl rfl) hn];simp)) (cy.int _ _)
 case shr=>exactλhn=>bS.pure h (run _ (by simp only[binOp];rw[IE .shr (.inr rfl) hn];simp)) (cy.int _ _)
 case add=>exact bS.pure h (by simp_all[binOp,Op.intArith]) (cy.int _ _)
 case sub=>exact bS.pure h (by simp_all[binOp,Op.intArith]) (cy.int _ _)
 case mul=>exact bS.pure h (by simp_all[binOp,Op.intArith]) (cy.int _ _)
 case and=>exact bS.pure h (run _ (by simp only[binOp,Op.intBits,ne_eq,ai7,ai3,Sem.run_pure];rfl)) (cy.int _ _)
 case or=>exact bS.pure h (run _ (by simp only[binOp,Op.intBits,ne_eq,ai7,ai3,Sem.run_pure];rfl)) (cy.int _ _)
 case xor=>exact bS.pure h (run _ (by simp only[binOp,Op.intBits,ne_eq,ai7,ai3,Sem.run_pure];rfl)) (cy.int _ _)
 case andNot=>exact bS.pure h (run _ (by simp only[binOp,Op.intBits,ne_eq,ai7,ai3,Sem.run_pure];rfl)) (cy.int _ _)
 case eql=>exact bS.pure h (by simp_all[binOp,Op.intCmp]) (cy.bool _)
 case neq=>exact bS.pure h (by simp_all[binOp,Op.intCmp]) (cy.bool _)
 case lss=>exact bS.pure h (by simp_all[binOp,Op.intCmp]) (cy.bool _)
 case leq=>exact bS.pure h (by simp_all[binOp,Op.intCmp]) (cy.bool _)
 case gtr=>exact bS.pure h (by simp_all[binOp,Op.intCmp]) (cy.bool _)
 case geq=>exact bS.pure h (by simp_all[binOp,Op.intCmp]) (cy.bool _)
theorem WY{pos:String}(op:BinOp)(t t':TypeId)(x y:Operand)(h:dM c nt e U a w L I){m n:aij}(hx:a.eval x=.string ⟨m.toArray⟩)(hy:a.eval y=.string ⟨n.toArray⟩):fD (BU op m n) U (bS P c ⟨dst,.binOp op t x y t',ty,pos,dU,g⟩ a w L U I):=by
 have run:∀v,(binOp op t (.string ⟨m.toArray⟩) (.string ⟨n.toArray⟩)).run P w=.ok v w->(execOp a.eval ⟨dst,.binOp op t x y t',ty,pos,dU,g⟩).run P w=.ok (.value v) w:=by simp_all[execOp,eqGuard]
 cases op;case add=>
  intro hn;refine bS.pure h (run (.string ⟨(m++n).toArray⟩) ?_) (cy.str _);have hs:¬((m.length:Int)+(n.length:Int)>9223372036854775807):=om;have ab:∀l:aij,(ByteArray.mk l.toArray).size=l.length:=(by grind[ByteArray.size]);have aa:(ByteArray.mk m.toArray)++(ByteArray.mk n.toArray)=ByteArray.mk (m++n).toArray:=by rfl
  simp_all[binOp,Op.stringOp]
 case eql=>exact bS.pure h (by simp_all[binOp,Op.stringOp]) (cy.bool _)
 case neq=>exact bS.pure h (by simp_all[binOp,Op.stringOp]) (cy.bool _)
 case lss=>exact bS.pure h (by simp_all[binOp,Op.stringOp]) (cy.bool _)
 case leq=>exact bS.pure h (by simp_all[binOp,Op.stringOp]) (cy.bool _)
 case gtr=>exact bS.pure h (by simp_all[binOp,Op.stringOp]) (cy.bool _)
 case geq=>exact bS.pure h (by simp_all[binOp,Op.stringOp]) (cy.bool _)
 all_goals trivial
theorem Lr(h:ka P t=1):P.underlying t=some .bool:=by grind[ka]
theorem GB(h:ka P t=2):∃el,P.underlying t=some (.pointer el):=by grind[ka]
theorem WZ(hb:P.underlying t=some .bool)(x y:Bool)(w:World)(d:Nat):(Op.equalIn (d+1) t (.bool x) (.bool y)).run P w=.ok (x==y) w:=by simp[Op.equalIn,run_underlying hb]
theorem W0(hb:P.underlying t=some (.pointer el))(x:Option Addr)(w:World)(d:Nat):(Op.equalIn (d+1) t (.pointer x) (.pointer none)).run P w=.ok x.isNone w:=by cases x<;>simp[Op.equalIn,run_underlying hb]
theorem PF(hb:P.underlying t=some .bool)(x y:Bool)(w:World):(Op.equal t (.bool x) (.bool y)).run P w=.ok (x==y) w:=WZ hb x y w 9999
theorem IF(hb:P.underlying t=some (.pointer el))(x:Option Addr)(w:World):(Op.equal t (.pointer x) (.pointer none)).run P w=.ok x.isNone w:=W0 hb x w 9999
theorem W1{pos:String}(op:BinOp)(t t':TypeId)(x y:Operand)(h:dM c nt e U a w L I):fD (oA op (ka P t) (nv P t) (zI e x) (zI e y)) U (bS P c ⟨dst,.binOp op t x y t',ty,pos,dU,g⟩ a w L U I):=by
 have hx:=h.eval x;have hy:=h.eval y;unfold oA;split
 .rename_i k m k' n h1 h2;rw[h1]at hx;rw[h2]at hy;have e1:=yS hx;have e2:=yS hy;by_cases hk:k=k';.subst hk;rw[ahP rfl];grind[WX]
  .rw[ahO hk];split;.exactλhn=>bS.pure h (by simp only[execOp,e1,e2,eqGuard,binOp];simp[IE .shl (.inl rfl) hn]) (cy.int _ _)
   .exactλhn=>bS.pure h (by simp only[execOp,e1,e2,eqGuard,binOp];simp[IE .shr (.inr rfl) hn]) (cy.int _ _)
   trivial
 .grind[WY,lF]
 .rename_i m n h1 h2;rw[h1]at hx;rw[h2]at hy;have e1:=pU hx;have e2:=pU hy;split
  .rename_i hb;have ae:=Lr hb;split;.exact bS.pure h (by simp_all[execOp,eqGuard,binOp,PF]) (cy.bool _)
   .exact bS.pure h (by simp_all[execOp,eqGuard,binOp,PF]) (cy.bool _)
   trivial
  trivial
 .rename_i id off h1 h2;rw[h1]at hx;rw[h2]at hy;obtain⟨b,_,e1⟩:=hx;have e2:=Lm hy;split
  .rename_i hb;obtain⟨el,ae⟩:=GB hb;split;.exact bS.pure h (x:=.bool false) (by simp_all[execOp,eqGuard,binOp,IF]) (cy.bool _)
   .exact bS.pure h (x:=.bool true) (by simp_all[execOp,eqGuard,binOp,IF]) (cy.bool _)
   trivial
  trivial
 .rename_i h1 h2;rw[h1]at hx;rw[h2]at hy;have e1:=Lm hx;have e2:=Lm hy;split
  .rename_i hb;obtain⟨el,ae⟩:=GB hb;split;.exact bS.pure h (x:=.bool true) (by simp_all[execOp,eqGuard,binOp,IF]) (cy.bool _)
   .exact bS.pure h (x:=.bool false) (by simp_all[execOp,eqGuard,binOp,IF]) (cy.bool _)
   trivial
  trivial
 .rename_i az bs h1 h2;rw[h1]at hx;rw[h2]at hy;obtain⟨xs,e1,r1⟩:=hx;obtain⟨ys,e2,r2⟩:=hy;split;.rename_i r hr;cases aa:nv P t with |none=>grind|some ks=>
    rw[aa]at hr;simp only[An]at hr;have af:=Lp ks az bs xs ys r r1 r2 hr;unfold nv at aa;split at aa
    .rename_i fs hu;split at aa
     .rename_i hg;have ha:cQ P t=some true:=by grind[cQ,Ll]
      have o1:∀z∈xs,z.oneCell':=λz hz=>by obtain⟨i,hi⟩:=Av.1 hz;have hl:=r1.length;obtain⟨y,ab,rr⟩:=r1.get i (az[i]'(by grind)) sm;rw[hi]at ab;cases ab;exact rr.dF
      have o2:∀z∈ys,z.oneCell':=λz hz=>by obtain⟨i,hi⟩:=Av.1 hz;have hl:=r2.length;obtain⟨y,ab,rr⟩:=r2.get i (bs[i]'(by grind)) sm;rw[hi]at ab;cases ab;exact rr.dF
      have ad:∀z:ail,oT P t (.agg z.toArray):=λz=>by unfold oT;grind
      have ag:=Lq 10 t ks aa 10000 om (.agg xs.toArray) (.agg ys.toArray) r (ad _) (ad _) (by simpa[Value.cells]using o1) (by simpa[Value.cells]using o2) (by simpa[Value.cells]using af) w;split;.exact bS.pure h (x:=.bool r) (by simp_all[execOp,run_eqGuard_agg,run_eql_struct]) (cy.bool _)
      .exact bS.pure h (x:=.bool (!r)) (by simp_all[execOp,run_eqGuard_agg,run_neq_struct]) (cy.bool _)
      trivial
     grind
    grind
  trivial
 trivial
theorem Ls(h:ka P t=3):∃el,P.underlying t=some (.slice el):=by grind[ka]
theorem W2{y:Operand}(h:pV y):y=.const (.slice none 0 0):=by unfold pV at h;grind
theorem IG(hb:P.underlying t=some (.slice el))(a:Option Addr)(n cap:Nat)(w:World):(Op.equal t (.slice a n cap) (.slice none 0 0)).run P w=.ok a.isNone w:=by
 have key:∀d,(Op.equalIn (d+1) t (.slice a n cap) (.slice none 0 0)).run P w=.ok a.isNone w:=λd=>by cases a<;>simp[Op.equalIn,run_underlying hb]
 exact key 9999
theorem W3{pos:String}(op:BinOp)(t t':TypeId)(x y:Operand)(hy:pV y)(h:dM c nt e U a w L I):fD (vy op (ka P t) (zI e x)) U (bS P c ⟨dst,.binOp op t x y t',ty,pos,dU,g⟩ a w L U I):=by
 have hx:=h.eval x;have hy:=W2 hy;subst hy;unfold vy;split
 .rename_i hk;obtain⟨el,hu⟩:=Ls hk;split
  .rename_i n hn;have hv:∃ad cap,a.eval x=.slice ad n cap/\(0<n->ad.isNone=false):=by
    unfold BV at hn;split at hn;.rename_i gg rows h1;rw[h1]at hx;cases hn;have hr:=sL hx;clear hx;revert hr;generalize a.eval x=z;intro hr;cases hr<;>simp
    .rename_i id s n' lo m h1;rw[h1]at hx;cases hn;obtain⟨ad,cap,hv,ab,aa,_⟩:=hx;grind
    grind
   obtain⟨ad,cap,hv,hz⟩:=hv;have hc:a.eval (.const (.slice none 0 0))=.slice none 0 0:=rfl;unfold GA;split
   .split;.rename_i h0;exact bS.pure h (x:=.bool false) (by simp_all[execOp,eqGuard,binOp,IG]) (cy.bool _)
    .exact⟨ad.isNone,bS.pure h (x:=.bool ad.isNone) (by simp_all[execOp,eqGuard,binOp,IG]) (cy.bool _)⟩
   .split;.rename_i h0;exact bS.pure h (x:=.bool true) (by simp_all[execOp,eqGuard,binOp,IG]) (cy.bool _)
    .exact⟨ad.isNone,bS.pure h (x:=.bool (!ad.isNone)) (by simp_all[execOp,eqGuard,binOp,IG]) (cy.bool _)⟩
   trivial
  trivial
 trivial
def nw(op:UnOp)(x:V):R:=match op,x with |.not,.bool b=>.ok (.bool (!b))|.neg,.int k n=>.ok (.int k (k.wrap (0-n)))|.xor,.int k n=>.ok (.int k (jX .xor k (if k.signed then-1 else k.max) n))|_,_=>.fail
theorem W4{pos:String}(op:UnOp)(t:TypeId)(x:Operand)(h:dM c nt e U a w L I):fD (nw op (zI e x)) U (bS P c ⟨dst,.unOp op t x,ty,pos,dU,g⟩ a w L U I):=by
 have hx:=h.eval x;unfold nw;split;.rename_i b h1;rw[h1]at hx;exact bS.pure h (x:=.bool (!b)) (by simp[execOp,pU hx,Op.unary]) (cy.bool _)
 .rename_i k n h1;rw[h1]at hx;exact bS.pure h (x:=.int k (k.wrap (0-n))) (by simp only[execOp,yS hx,Op.unary,Op.intArith,Sem.run_bind,Sem.run_pure,Result.andThen_ok]) (cy.int _ _)
 .rename_i k n h1;rw[h1]at hx;exact bS.pure h (x:=.int k (jX .xor k (if k.signed then-1 else k.max) n)) (by simp only[execOp,yS hx,Op.unary,Op.intBits,Sem.run_bind,Sem.run_pure,Result.andThen_ok];rfl) (cy.int _ _)
 trivial
def ym(x:V)(i:Nat):R:=match x with |.cm vs=>(match vs[i]?with|some v=>.ok v|none=>.fail)|_=>.fail
theorem W5{pos:String}(x:Operand)(i:Nat)(h:dM c nt e U a w L I):fD (ym (zI e x) i) U (bS P c ⟨dst,.extract x i,ty,pos,dU,g⟩ a w L U I):=by
 have hx:=h.eval x;unfold ym;split
 .rename_i vs h1;rw[h1]at hx;obtain⟨xs,hv,aa⟩:=hx;split;.rename_i v ab;obtain⟨y,hy,r⟩:=aa.get _ _ ab;exact bS.pure h (x:=y) (by simp_all[execOp,Instr.extract]) (dj.lD r)
  trivial
 trivial
def yn(P:Program)(t:TypeId)(x:V)(f:Nat):R:=match cI P t f,x with |some (off,_,_),.ptr id o=>.ok (.ptr id (o+off))|some (off,_,_),.oQ cs o=>.ok (.oQ cs (o+off))|some (off,_,_),.jj id s n k j=>.ok (.jj id s n k (j+off))|_,_=>.fail
theorem Lt{f off s:Nat}{b:Bool}(h:cI P t f=some (off,s,b)):∃fs fd,P.underlying t=some (.struct fs)/\fs[f]?=some fd/\fd.offset=off/\eT P fd.type=some s/\cQ P fd.type=some b/\s≠0:=by
 unfold cI at h;split at h;.rename_i fs hu;cases hf:fs[f]?with |none=>grind|some fd=>simp only[hf,An]at h;cases hs:eT P fd.type with |none=>grind|some s'=>simp only[hs,An]at h;cases hb:cQ P fd.type<;>grind
 grind
theorem W6{pos:String}(t:TypeId)(x:Operand)(f:Nat)(h:dM c nt e U a w L I):fD (yn P t (zI e x) f) U (bS P c ⟨dst,.fieldAddr t x f,ty,pos,dU,g⟩ a w L U I):=by
 have hx:=h.eval x;have run:∀{off s:Nat}{b:Bool}{bl o:Nat},cI P t f=some (off,s,b)->a.eval x=.pointer (some ⟨bl,o,none⟩)->(execOp a.eval ⟨dst,.fieldAddr t x f,ty,pos,dU,g⟩).run P w=.ok (.value (.pointer (some ⟨bl,o+off,none⟩))) w:=by intro off s b bl o hf hv;obtain⟨fs,fd,hu,aa,rfl,hs,hb,h0⟩:=Lt hf;simp_all[execOp,Instr.fieldAt,run_underlying,Instr.sureAddr,fieldPlace,oS,wP]
 unfold yn;split;.rename_i off s b id o hf h1;rw[h1]at hx;obtain⟨bl,hb,hv⟩:=hx;exact bS.pure h (run hf hv) ⟨bl,hb,rfl⟩
 .rename_i off s b cs o hf h1;rw[h1]at hx;obtain⟨bl,o',c',hv,hl,hc⟩:=hx;exact bS.pure h (run hf hv) ⟨bl,o',c',sm,hl,hc⟩
 .rename_i off s b id s' n k j hf h1;rw[h1]at hx;obtain⟨bl,o',hv,hc⟩:=hx;refine bS.pure h (run hf hv) ⟨bl,o'+off,rfl,?_⟩;grind
 trivial
end
section
variable{P:Program}{c:Ctx}{nt:Nat}{e:Env}{U:St}{a:Act}{w:World}{L:Nat->Nat}{I:ail}{o:Oper}
variable{t:TypeId}{off:Nat}{dst:Option Tmp}{ty:TypeId}{dU:Array Edge}{g:Option (Nat×Bool)}{bl:Nat}{cs:List V}
def rQ(ag:Option Bool)(sz:aip)(cs:List V)(off:Nat):R:=match ag,sz with |some true,some s=>if off+s<=cs.length then .ok (.agg ((cs.drop off).take s))else .fail|some false,_=>(match cs[off]?with|some v=>.ok v|none=>.fail)|_,_=>.fail
def nx(P:Program)(t:TypeId)(U:St)(x:V):R:=match x with |.ptr id off=>(match U[id]?with|some (.box cs)=>rQ (cQ P t) (eT P t) cs off|_=>.fail)|.oQ cs off=>rQ (cQ P t) (eT P t) cs off|.jj id s n k j=>(match U[id]?with|some (.cj rows s')=>if s'=s/\rows.length=n/\k<n then rQ (cQ P t) (eT P t) (rows.getD k []) j else .fail|_=>.fail)|_=>.fail
theorem W7{s:Nat}{xs:ail}(aa:cQ P t=some true)(ab:eT P t=some s)(hl:xs.length=s)(hx:∀(j:Nat)v,xs[j]?=some v->w.cell? ⟨bl,off+j,none⟩=some v):(loadVar t ⟨bl,off,none⟩).run P w=.ok (.agg xs.toArray) w:=by have:=run_loadCells_list (P:=P) w ⟨bl,off,none⟩ xs (λj v hj=>by rw[wP];exact hx j v hj);simp_all[loadVar,ur,oS]
theorem W8{v:Value}(aa:cQ P t=some false)(hx:w.cell? ⟨bl,off,none⟩=some v):(loadVar t ⟨bl,off,none⟩).run P w=.ok v w:=by simp_all[loadVar,ur]
theorem Lu(t:TypeId){o:Nat}{v:V}(hc:∀(j:Nat)v,cs[j]?=some v->∃y,w.cell? ⟨bl,o+j,none⟩=some y/\cU w L U I v y)(hl:rQ (cQ P t) (eT P t) cs off=.ok v):∃y,(loadVar t ⟨bl,o+off,none⟩).run P w=.ok y w/\dj w L U I v y:=by
 unfold rQ at hl;split at hl
 .rename_i s aa ae;split at hl
  .rename_i hle;simp only[R.ok.injEq]at hl;subst hl;let f:=λk=>(w.cell? ⟨bl,o+(off+k),none⟩).getD undef;let xs:=(List.range s).map f;have af:∀(j:Nat)v,xs[j]?=some v->w.cell? ⟨bl,o+off+j,none⟩=some v/\∃p,cs[off+j]?=some p/\cU w L U I p v:=by
    intro j v hj;have ab:j<s:=by grind
    simp only[xs,B1,Dr ab,Bi,ahT]at hj;obtain⟨y,hy,r⟩:=hc (off+j) _ (A0 om);grind
   refine⟨.agg xs.toArray,(by grind[W7]),xs,rfl,bM.of (by simp[xs];omega) λj p v hu hj=>?_⟩;grind
  grind
 .rename_i aa;split at hl;.rename_i v' ad;simp only[R.ok.injEq]at hl;subst hl;obtain⟨y,hy,r⟩:=hc off _ ad;simp_all[W8,dj.dv]
  grind
 grind
theorem Lv{ag:Option Bool}{sz:aip}:(∃v,rQ ag sz cs off=.ok v)\/rQ ag sz cs off=.fail:=by unfold rQ;grind
theorem PG(t:TypeId){x:V}{y:Value}{v:V}(hm:Mem c w L U I)(hx:dj w L U I x y)(hl:nx P t U x=.ok v):∃bl off z,y=.pointer (some ⟨bl,off,none⟩)/\(loadVar t ⟨bl,off,none⟩).run P w=.ok z w/\dj w L U I v z:=by
 unfold nx at hl;split at hl
 .rename_i id off;obtain⟨bl,hb,hv⟩:=hx;split at hl;.rename_i cs cD;obtain⟨b',arr,T,fz,e1,hh,_,_,aa⟩:=hm.cW id _ _ cD hb;cases e1;obtain⟨z,hz,r⟩:=Lu (P:=P) (w:=w) (L:=L) (U:=U) (I:=I) t (bl:=bl) (o:=0) (λj v hj=>by obtain⟨y,hy,r⟩:=aa.get _ _ hj;grind[World.cell?]) hl;grind
  grind
 .rename_i cs off;obtain⟨bl,o',c',hv,fq,hc⟩:=hx;obtain⟨z,hz,r⟩:=Lu (P:=P) (w:=w) (L:=L) (U:=U) (I:=I) t (bl:=bl) (o:=o') (by grind[cU.de]) hl;grind
 .rename_i id s n k j;obtain⟨bl,o',hv,hc⟩:=hx;split at hl
  .rename_i rows s' cD;split at hl
   .rename_i ab;obtain⟨rfl,hn,hk⟩:=ab;rcases hc with hd|⟨cx,ad,ae,hb⟩;.grind
    .rw[cD]at ad;cases ad;obtain⟨c0,dd,ho⟩:=hb hn.symm hk;obtain⟨a,cap,e1,db,hs,hu,cK⟩:=hm.cW id _ _ cD dd;cases e1;obtain⟨b',arr,T,fz,e2,hh,_,_,_,aa⟩:=cK om;cases e2;have hg:rows.getD k []=rows[k]'om:=by grind
     obtain⟨z,hz,r⟩:=Lu (P:=P) (w:=w) (L:=L) (U:=U) (I:=I) t (bl:=bl) (o:=k*s') (cs:=rows.getD k []) (off:=j) (λi v hi=>by
      have af:i<s':=by grind
      have hf:rows.flatten[k*s'+i]?=some v:=by grind[yV]
      obtain⟨y,hy,r⟩:=aa.get _ _ hf;grind[World.cell?]) hl;grind
   grind
  grind
 grind
theorem W9{x:V}:(∃v,nx P t U x=.ok v)\/nx P t U x=.fail:=by
 unfold nx;split
 .split;.exact Lv
  simp
 .exact Lv
 .split
  .split;.exact Lv
   simp
  simp
 simp
theorem IH{s:Nat}{vs:List V}:∀{rows:List (List V)}(k j:Nat),(∀r∈rows,r.length=s)->k<rows.length->j+vs.length<=s->(rows.set k (putCells (rows.getD k []) j vs)).flatten=putCells rows.flatten (k*s+j) vs
 |[],k,j,_,hk,_=>by grind|r::rows,0,j,h,_,hj=>by have hr:=h r sm;have e:(r::rows).getD 0 []=r:=rfl;rw[e,Cg,Db,Db,Cz,Ab];grind[putCells]|r::rows,k+1,j,h,hk,hj=>by
  have hr:=h r sm;have ih:=IH (s:=s) (vs:=vs) (rows:=rows) k j (λx hx=>h x (by simp[hx])) (sU hk) hj;have e:(r::rows).getD (k+1) []=rows.getD k []:=sm;rw[e,Bz,Db,ih,Db];unfold putCells;have e2:(k+1)*s+j=r.length+(k*s+j):=by rw[B0,hr];omega
  have e3:r.length+(k*s+j)+vs.length=r.length+(k*s+j+vs.length):=Dt _ _ _;rw[e2,List.take_length_add_append,e3,List.drop_length_add_append];simp
theorem Xa{pos:String}(t:TypeId)(x:Operand)(h:dM c nt e U a w L I):fD (nx P t U (zI e x)) U (bS P c ⟨dst,.load t x,ty,pos,dU,g⟩ a w L U I):=by
 rcases W9 (P:=P) (U:=U) (t:=t) (x:=zI e x)with⟨v,hv⟩|hv;.obtain⟨bl,off,z,hy,hz,r⟩:=PG (P:=P) t h.mem (h.eval x) hv;rw[hv];exact bS.pure h (x:=z) (by simp_all[execOp,Instr.loadAt,Instr.sureAddr]) r
 .rw[hv];trivial
def vz(P:Program)(t:TypeId)(U:St)(x y:V):R:=match x with |.ptr id off=>(match U[id]?,eT P t with |some (.box cs),some s=>if nu y=true/\(xT y).length=s/\off+s<=cs.length then .st .u (U.set id (.box (putCells cs off (xT y))))else .fail|_,_=>.fail)|.jj id s n k j=>(match U[id]?,eT P t with |some (.cj rows s'),some z=>if nu y=true/\(xT y).length=z/\j+z<=s/\s'=s/\rows.length=n/\k<n then .st .u (U.set id (.cj (rows.set k (putCells (rows.getD k []) j (xT y))) s))else .fail|_,_=>.fail)|_=>.fail
theorem Xb{pos:String}(t:TypeId)(x y:Operand)(h:dM c nt e U a w L I):fD (vz P t U (zI e x) (zI e y)) U (bS P c ⟨dst,.store t x y,ty,pos,dU,g⟩ a w L U I):=by
 have hx:=h.eval x;have hy:=h.eval y;unfold vz;split
 .rename_i id off h1;rw[h1]at hx;obtain⟨bl,hb,hv⟩:=hx;split
  .rename_i cs s cD an;split
   .rename_i ab;obtain⟨ae,hlen,hle⟩:=ab;have aa:=BS hy ae;obtain⟨arr,T,fz,hh,hf,ai,ad,af⟩:=h.mem.jH (off:=off) cD hb aa om;have ao:=aa.length;have aq:=wO P bl off T fz (a.eval y).cells.toList 0 arr w hh hf om (λv hv=>?_);.refine⟨undef,_,L,I,.inr ⟨?_,rfl⟩,ad,af,Ext.jH cD _,tV⟩;simp_all[execOp,Instr.storeAt,Instr.sureAddr,storeVar,oS]
    .obtain⟨k,hk⟩:=Av.1 hv;have ag:k<(xT (zI e y)).length:=by grind
     obtain⟨z,hz,r⟩:=aa.get k _ (A0 ag);rw[hk]at hz;cases hz;exact r.dF
   trivial
  trivial
 .rename_i id s n k j h1;rw[h1]at hx;obtain⟨bl,o',hv,hc⟩:=hx;split
  .rename_i rows s' z cD an;split
   .rename_i ab;obtain⟨ae,hlen,hle,rfl,hn,hk⟩:=ab;rcases hc with hd|⟨cx,aj,av,hb⟩;.grind
    .rw[cD]at aj;cases aj;obtain⟨c0,dd,ho⟩:=hb hn.symm hk;obtain⟨a',cap,e1,db,hs,hu,_⟩:=h.mem.cW id _ _ cD dd;cases e1;have aa:=BS hy ae;have ao:=aa.length;have ag:k<rows.length:=om;have ar:(k+1)*s'<=rows.length*s':=Ae _ ag;rw[B0,D5]at ar;have hg:rows.getD k []=rows[k]'ag:=by grind
     obtain⟨arr,T,fz,hh,hf,ai,ad,af,ah⟩:=h.mem.gD (cx:=rows.set k (putCells (rows.getD k []) j (xT (zI e y)))) (off:=k*s'+j) cD dd om aa om (λr hr=>by grind[Py]) (by grind[IH]) sm (by grind);have ak:I.set id (.slice (some ⟨bl,0,none⟩) (rows.set k (putCells (rows.getD k []) j (xT (zI e y)))).length c0)=I:=(by grind[yQ]);rw[ak]at ad ah;have aq:=wO P bl (k*s'+j) T fz (a.eval y).cells.toList 0 arr w hh hf om (λv hv=>?_);.refine⟨undef,_,L,I,.inr ⟨?_,rfl⟩,ad,af,ah,tV⟩;simp_all[execOp,Instr.storeAt,Instr.sureAddr,storeVar,oS]
     .obtain⟨q,hq⟩:=Av.1 hv;have au:q<(xT (zI e y)).length:=by grind
      obtain⟨z',al,r⟩:=aa.get q _ (A0 au);rw[hq]at al;cases al;exact r.dF
   trivial
  trivial
 trivial
def vC(U:St)(x:V):R:=if nu x=true then .st (.ptr U.length 0) (U++[.box (xT x)])else .fail
theorem Xc{pos:String}(t:TypeId)(x:Operand)(h:dM c nt e U a w L I):fD (vC U (zI e x)) U (bS P c ⟨dst,.box t x,ty,pos,dU,g⟩ a w L U I):=by
 have hx:=h.eval x;unfold vC;split
 .rename_i aa;obtain⟨h1,h2⟩:=h.mem.box _ (a.eval x).cells t (BS hx aa);refine⟨_,_,L,_,.inl ?_,h1,h2,Ext.push U I h.mem.len _ _,⟨w.heap.size,?_,rfl⟩⟩;.rfl
  .rw[<-h.mem.len,Bb (A6 _)];simp
 trivial
def rR(P:Program)(t:TypeId)(U:St):R:=match gK P t with |some cs=>.st (.ptr U.length 0) (U++[.box cs])|none=>.fail
theorem II(h:gK P t=some cs):∃i z,P.info? t=some i/\i.zero=some z/\(∀v∈z.cells.toList,v.oneCell'=true)/\cs=z.cells.toList.map jf:=by unfold gK at h;cases hi:P.info? t with |none=>grind|some i=>cases hz:i.zero with |none=>grind|some z=>
   simp only[hi,hz,An]at h;split at h;.rename_i ha;simp at h;refine⟨i,z,rfl,hz,λv hv=>?_,h.symm⟩;exact Cj.1 ha v (by grind)
   grind
theorem Lw{xs:ail}(h:∀v∈xs,v.oneCell'):bM (cy w L) (xs.map jf) xs:=by induction xs with |nil=>trivial|cons x xs ih=>exact⟨(by grind[Gx]),(by grind)⟩
theorem Xd{pos:String}(t:TypeId)(h:dM c nt e U a w L I):fD (rR P t U) U (bS P c ⟨dst,.alloc t,ty,pos,dU,g⟩ a w L U I):=by
 unfold rR;split
 .rename_i cs hc;obtain⟨i,z,hi,ab,aa,rfl⟩:=II hc;obtain⟨h1,h2⟩:=h.mem.box (z.cells.toList.map jf) z.cells t ((Lw aa).imp λ_ _=>cU.de);refine⟨_,_,L,_,.inl ?_,h1,h2,Ext.push U I h.mem.len _ _,⟨w.heap.size,?_,rfl⟩⟩;.simp_all[execOp,Instr.alloc,zeroValue,typeInfo,newVar,newRow]
  .rw[<-h.mem.len,Bb (A6 _)];simp
 trivial
end
section
variable{P:Program}{c:Ctx}{nt:Nat}{e:Env}{U:St}{a:Act}{w:World}{L:Nat->Nat}{I:ail}{o:Oper}
variable{t:TypeId}{dst:Option Tmp}{ty:TypeId}{dU:Array Edge}{g:Option (Nat×Bool)}
def vD(sl:aip)(ar:Option (Nat×Nat×Bool))(x i:V):R:=match x,i with |.sl _ rows,.int _ k=>(match sl with |some s=>.eF (0<=k/\k<rows.length/\(rows.getD k.toNat []).length=s) (.oQ (rows.getD k.toNat []) 0)|none=>.fail)|.ptr id off,.int _ k=>(match ar with |some (n,s,_)=>.eF (0<=k/\k<n) (.ptr id (off+k.toNat*s))|none=>.fail)|.oQ cs off,.int _ k=>(match ar with |some (n,s,_)=>.eF (0<=k/\k<n) (.oQ cs (off+k.toNat*s))|none=>.fail)|.cL id s n lo m,.int _ k=>if sl=some s then .eF (0<=k/\k<m) (.jj id s n (lo+k.toNat) 0)else .fail|.j9 id s off n,.int _ k=>if sl=some s then .eF (0<=k/\k<n) (.ptr id (off+k.toNat*s))else .fail|_,_=>.fail
theorem Lx{s:Nat}(h:eQ P t=some s):∃el,P.underlying t=some (.slice el)/\eT P el=some s:=by grind[eQ]
theorem IJ{n s:Nat}{b:Bool}(h:iD P t=some (n,s,b)):∃el,P.underlying t=some (.array n el)/\eT P el=some s/\cQ P el=some b:=by
 unfold iD at h;split at h;.rename_i m el hu;cases hs:eT P el with |none=>grind|some s'=>cases hb:cQ P el<;>grind
 grind
theorem Xe{pos:String}(t:TypeId)(x i:Operand)(h:dM c nt e U a w L I):fD (vD (eQ P t) (iD P t) (zI e x) (zI e i)) U (bS P c ⟨dst,.indexAddr t x i,ty,pos,dU,g⟩ a w L U I):=by
 have hx:=h.eval x;have hi:=h.eval i;unfold vD;split
 .rename_i gg rows kd k h1 h2;rw[h1]at hx;rw[h2]at hi;split
  .rename_i s hs;obtain⟨el,hu,aa⟩:=Lx hs;rintro⟨h0,ab,ae⟩;have hk:k.toNat<rows.length:=om;have ai:rows≠[]:=(by grind);obtain⟨s',b,o',cap,hv,ak,af,fq,_,_,hc⟩:=(sL hx).flat ai;have ag:rows.getD k.toNat []∈rows:=by grind
   have aj:s'=s:=by rw[<-af _ ag];omega
   subst aj;have al:rows.getD k.toNat []=rows[k.toNat]:=by grind
   have e1:=yS hi;refine bS.pure h (x:=.pointer (some ⟨b,o'+k.toNat*s',none⟩)) ?_ ?_;.simp[execOp,hv,e1,Instr.indexAt,asIntOf,run_underlying hu,oS aa,h0,ab,wP]
   .refine⟨b,o'+k.toNat*s',λj=>(w.cell? ⟨b,o'+k.toNat*s'+j,none⟩).getD undef,rfl,?_,λj hj=>?_⟩;.rw[ae];have:(k.toNat+1)*s'<=rows.length*s':=Ae _ hk;grind
    .rw[ae]at hj;obtain⟨y,hy,r⟩:=hc (k.toNat*s'+j) ((rows.getD k.toNat [])[j]'om) (by rw[yV _ _ af hj,A0 hk];grind);grind
  trivial
 .rename_i id off kd k h1 h2;rw[h1]at hx;rw[h2]at hi;split;.rename_i n s b hs;obtain⟨el,hu,aa,_⟩:=IJ hs;rintro⟨h0,ab⟩;obtain⟨bl,hb,hv⟩:=hx;refine bS.pure h (x:=.pointer (some ⟨bl,off+k.toNat*s,none⟩)) ?_ ⟨bl,hb,rfl⟩;simp[execOp,hv,yS hi,Instr.indexAt,asIntOf,run_underlying hu,oS aa,h0,ab,wP,Instr.sureAddr]
  trivial
 .rename_i cs off kd k h1 h2;rw[h1]at hx;rw[h2]at hi;split;.rename_i n s b hs;obtain⟨el,hu,aa,_⟩:=IJ hs;rintro⟨h0,ab⟩;obtain⟨bl,o',c',hv,hl,hc⟩:=hx;refine bS.pure h (x:=.pointer (some ⟨bl,o'+(off+k.toNat*s),none⟩)) ?_ ⟨bl,o',c',rfl,hl,hc⟩;simp[execOp,hv,yS hi,Instr.indexAt,asIntOf,run_underlying hu,oS aa,h0,ab,wP,Instr.sureAddr,Dt]
  trivial
 .rename_i id s n lo m kd k h1 h2;rw[h1]at hx;rw[h2]at hi;split
  .rename_i hs;obtain⟨el,hu,aa⟩:=Lx hs;rintro⟨h0,ab⟩;obtain⟨ad,cap,hv,hm,ah,hc⟩:=hx;obtain⟨b,o,rfl⟩:=ah om;refine bS.pure h (x:=.pointer (some ⟨b,o+k.toNat*s,none⟩)) ?_ ⟨b,o+k.toNat*s,rfl,?_⟩;.simp[execOp,hv,yS hi,Instr.indexAt,asIntOf,run_underlying hu,oS aa,h0,ab,wP]
   grind
  trivial
 .rename_i id s off n kd k h1 h2;rw[h1]at hx;rw[h2]at hi;split;.rename_i hs;obtain⟨el,hu,aa⟩:=Lx hs;rintro⟨h0,ab⟩;obtain⟨bl,hb,hv⟩:=hx;refine bS.pure h (x:=.pointer (some ⟨bl,off+k.toNat*s,none⟩)) ?_ ⟨bl,hb,rfl⟩;simp[execOp,hv,yS hi,Instr.indexAt,asIntOf,run_underlying hu,oS aa,h0,ab,wP]
  trivial
 trivial
def vE(x i:V)(str:Bool)(ar:Option (Nat×Nat×Bool)):R:=match x,i with |.str b,.int _ k=>if str then .eF (0<=k/\k<b.length) (.int .u8 (b.getD k.toNat 0).toNat)else .fail|.agg cs,.int _ k=>(match ar with |some (n,s,false)=>.eF (0<=k/\k<n/\(k.toNat*s)<cs.length) (cs.getD (k.toNat*s) .u)|_=>.fail)|_,_=>.fail
def qo(P:Program)(t:TypeId):Bool:=match P.underlying t with|some .string=>true|_=>false
theorem Xf(h:qo P t):P.underlying t=some .string:=by grind[qo]
theorem Xg{pos:String}(t:TypeId)(x i:Operand)(h:dM c nt e U a w L I):fD (vE (zI e x) (zI e i) (qo P t) (iD P t)) U (bS P c ⟨dst,.index t x i,ty,pos,dU,g⟩ a w L U I):=by
 have hx:=h.eval x;have hi:=h.eval i;unfold vE;split
 .rename_i b kd k h1 h2;rw[h1]at hx;rw[h2]at hi;split
  .rename_i hs;have hu:=Xf hs;rintro⟨h0,aa⟩;have hk:k.toNat<b.length:=om;refine bS.pure h (x:=.int .u8 (b.getD k.toNat 0).toNat) ?_ (cy.int _ _);have hg:(ByteArray.mk b.toArray)[k.toNat]?=some (b.getD k.toNat 0):=by
    have:k.toNat<(ByteArray.mk b.toArray).size:=by simpa
    rw[getElem?_pos (ByteArray.mk b.toArray) k.toNat this];rw[A9,A0 hk];rfl
   simp[execOp,lF hx,yS hi,Instr.index,asIntOf,run_underlying hu,h0,hg]
  trivial
 .rename_i cs kd k h1 h2;rw[h1]at hx;rw[h2]at hi;split
  .rename_i n s hs;obtain⟨el,hu,ad,ae⟩:=IJ hs;rintro⟨h0,aa,af⟩;obtain⟨xs,hv,ab⟩:=hx;obtain⟨y,hy,r⟩:=ab.get (k.toNat*s) _ (A0 af);refine bS.pure h (x:=y) ?_ (dj.dv ?_);.simp[execOp,hv,yS hi,Instr.index,asIntOf,run_underlying hu,oS ad,h0,aa,part,ur ae,hy]
   grind
  trivial
 trivial
theorem yo(l:aij):(ByteArray.mk l.toArray).size=l.length:=by rfl
def du(P:Program)(t:TypeId):Nat:=match P.underlying t with |some .string=>1|some (.slice _)=>2|_=>0
theorem IK(h:du P t=1):P.underlying t=some .string:=by grind[du]
theorem uu(h:du P t=2):∃el,P.underlying t=some (.slice el):=by grind[du]
def yp(k:Nat)(x:V):R:=match x with |.sl _ rows=>if k=2then .ok (.int .i64 rows.length)else .fail|.str s=>if k=1then .ok (.int .i64 s.length)else .fail|.cL _ _ _ _ m=>if k=2then .ok (.int .i64 m)else .fail|.j9 _ _ _ n=>if k=2then .ok (.int .i64 n)else .fail|_=>.fail
theorem Xh{pos:String}(t:TypeId)(x:Operand)(h:dM c nt e U a w L I):fD (yp (du P t) (zI e x)) U (bS P c ⟨dst,.call ⟨.builtin .len,#[x],#[t]⟩,ty,pos,dU,g⟩ a w L U I):=by
 have hx:=h.eval x;unfold yp;split
 .rename_i gg rows h1;rw[h1]at hx;obtain⟨a',cap,hv,_,_⟩:=(sL hx).len;split;.rename_i hk;obtain⟨el,hu⟩:=uu hk;exact bS.pure h (x:=.int .i64 rows.length) (by simp_all[execOp,resolve,invoke,builtin,Builtin.len_,run_underlying,goInt]) (cy.int _ _)
  trivial
 .rename_i s h1;rw[h1]at hx;split;.rename_i hk;exact bS.pure h (x:=.int .i64 s.length) (by simp[execOp,resolve,invoke,builtin,Builtin.len_,lF hx,run_underlying (IK hk),goInt,yo]) (cy.int _ _)
  trivial
 .rename_i id s n lo m h1;rw[h1]at hx;obtain⟨ad,cap,hv,_⟩:=hx;split;.rename_i hk;obtain⟨el,hu⟩:=uu hk;exact bS.pure h (x:=.int .i64 m) (by simp_all[execOp,resolve,invoke,builtin,Builtin.len_,run_underlying,goInt]) (cy.int _ _)
  trivial
 .rename_i id s off n h1;rw[h1]at hx;obtain⟨bl,_,hv⟩:=hx;split;.rename_i hk;obtain⟨el,hu⟩:=uu hk;exact bS.pure h (x:=.int .i64 n) (by simp_all[execOp,resolve,invoke,builtin,Builtin.len_,run_underlying,goInt]) (cy.int _ _)
  trivial
 trivial
def qp(isMax:Bool):List V->R |[.int k x,.int _ y]=>.ok (.int k (if isMax then(if y>x then y else x)else(if y<x then y else x)))|[.str x,.str y]=>.ok (.str (if isMax then(if Op.bytesLess x y then y else x)else(if(Op.bytesLess x y||x==y)then x else y)))|[.int k x,.int _ y,.int _ z]=>.ok (.int k (if isMax then(let m:=if y>x then y else x;if z>m then z else m)else(let m:=if y<x then y else x;if z<m then z else m)))|_=>.fail
theorem PH{pos:String}(ts:Array TypeId)(xs:List Operand)(isMax:Bool)(h:dM c nt e U a w L I):fD (qp isMax (xs.map (zI e))) U (bS P c ⟨dst,.call ⟨.builtin (if isMax then .max else .min),xs.toArray,ts⟩,ty,pos,dU,g⟩ a w L U I):=by
 unfold qp;split
 .rename_i k m k' n hl;obtain⟨x,y,rfl⟩:∃x y,xs=[x,y]:=by cases xs with |nil=>grind|cons x xs=>cases xs<;>simp_all
  simp at hl;have e1:=yS (hl.1▸h.eval x);have e2:=yS (hl.2▸h.eval y);cases isMax;.exact bS.pure h (x:=.int k (if n<m then n else m)) (by simp_all[execOp,resolve,invoke,builtin,Builtin.min_,Builtin.min2]) (cy.int _ _)
  .exact bS.pure h (x:=.int k (if n>m then n else m)) (by simp_all[execOp,resolve,invoke,builtin,Builtin.max_,Builtin.max2]) (cy.int _ _)
 .rename_i m n hl;obtain⟨x,y,rfl⟩:∃x y,xs=[x,y]:=by cases xs with |nil=>grind|cons x xs=>cases xs<;>simp_all
  simp at hl;have e1:=lF (hl.1▸h.eval x);have e2:=lF (hl.2▸h.eval y);cases isMax;.refine bS.pure h (x:=.string ⟨(if(Op.bytesLess m n||m==n)then m else n).toArray⟩) ?_ (cy.str _);simp[execOp,resolve,invoke,builtin,Builtin.min_,Builtin.min2,e1,e2,Op.stringOp,asBool];grind
  .refine bS.pure h (x:=.string ⟨(if Op.bytesLess m n then n else m).toArray⟩) ?_ (cy.str _);simp[execOp,resolve,invoke,builtin,Builtin.max_,Builtin.max2,e1,e2,Op.stringOp,asBool];grind
 .rename_i k m k' n aa q hl;obtain⟨x,y,z,rfl⟩:∃x y z,xs=[x,y,z]:=by cases xs with |nil=>grind|cons x xs=>cases xs with |nil=>grind|cons y xs=>cases xs<;>simp_all
  simp at hl;have e1:=yS (hl.1▸h.eval x);have e2:=yS (hl.2.1▸h.eval y);have e3:=yS (hl.2.2▸h.eval z);cases isMax;.exact bS.pure h (x:=.int k (let p:=if n<m then n else m;if q<p then q else p)) (by simp_all[execOp,resolve,invoke,builtin,Builtin.min_,Builtin.min2]) (cy.int _ _)
  .exact bS.pure h (x:=.int k (let p:=if n>m then n else m;if q>p then q else p)) (by simp_all[execOp,resolve,invoke,builtin,Builtin.max_,Builtin.max2]) (cy.int _ _)
 trivial
end
end Go.Vx
