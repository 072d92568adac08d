/-
  Operations over trees: indexes, slices, lengths, appends, literals, conversions.
  No condition: a library text; nothing of the program is named.
-/
import Derived.WalkKit
import Derived.Deep.AppendSrc
import Derived.Laws.StructEq
import Derived.Laws.BytesArg
import Derived.Laws.IdiomStrings
import Derived.Great.BuildSlice
set_option maxHeartbeats 8000000
namespace Go
theorem alp:type_of% @if_neg:=@if_neg
theorem alq:type_of% @if_pos:=@if_pos
theorem alr:type_of%@decide_eq_false:=@decide_eq_false
theorem als:type_of%@decide_eq_true:=@decide_eq_true
theorem alu:type_of%@Option.some.injEq:=@Option.some.injEq
theorem alv:type_of%@congrArg:=@congrArg
theorem alw:type_of%@decide_eq_true_eq:=@decide_eq_true_eq
theorem alx:type_of%@beq_iff_eq:=@beq_iff_eq
theorem aly:type_of%@decide_eq_false_iff_not:=@decide_eq_false_iff_not
theorem alz:type_of%@BitVec.ofInt_natCast:=@BitVec.ofInt_natCast
theorem alA:type_of%@of_decide_eq_true:=@of_decide_eq_true
theorem alB:type_of% @if_true:=@if_true
theorem alC:type_of%@BitVec.toNat_ofNat:=@BitVec.toNat_ofNat
theorem alD:type_of%@Prod.mk.injEq:=@Prod.mk.injEq
theorem alE:type_of%@of_decide_eq_false:=@of_decide_eq_false
theorem alF:type_of%@List.Nodup.sublist:=@List.Nodup.sublist
theorem alG:type_of%@or_false:=@or_false
theorem alH:type_of%@if_false:=@if_false
theorem alI:type_of%@Option.some.inj:=@Option.some.inj
theorem alJ:type_of%@List.cons.inj:=@List.cons.inj
theorem alK:type_of%@not_true_eq_false:=@not_true_eq_false
theorem alL:type_of%@List.contains_iff_mem:=@List.contains_iff_mem
theorem alM:type_of%@List.mem_append_left:=@List.mem_append_left
theorem alN:type_of%@List.flatMap_append:=@List.flatMap_append
theorem alO:type_of%@List.Perm.of_eq:=@List.Perm.of_eq
theorem alP:type_of%@getElem!_pos:=@getElem!_pos
theorem alQ:type_of%@List.drop_drop:=@List.drop_drop
theorem alR:type_of%@List.take_take:=@List.take_take
theorem alS:type_of%@List.getElem_take:=@List.getElem_take
theorem alT:type_of%@Int.lt_trichotomy:=@Int.lt_trichotomy
theorem alU:type_of%@List.any_cons:=@List.any_cons
theorem alV:type_of%@Bool.or_true:=@Bool.or_true
abbrev alW:=List UInt8
abbrev alX:=List Nat
abbrev alY:=List Value
abbrev alZ:=List Int
abbrev am0:=Array Value
abbrev am1:=List (List UInt8)
abbrev am2:=Option Nat
end Go
namespace Go
theorem om{p:Prop}(h:p:=by omega):p:=h
theorem sg{p:Prop}(h:p:=by simp[go_sem]):p:=h
theorem kR{p:Prop}(h:p:=by kernel_rfl):p:=h
theorem dC{p:Prop}(h:p:=by decide):p:=h
theorem sM{p:Prop}(h:p:=by simp):p:=h
theorem sU{p q:Prop}(h:q)(g:q->p:=by intro h;simpa using h):p:=g h
theorem tV:True:=⟨⟩
theorem A0:type_of%@List.getElem?_eq_getElem:=@List.getElem?_eq_getElem
theorem A3:type_of%@List.getElem?_eq_some_iff:=@List.getElem?_eq_some_iff
theorem A4:type_of%@List.drop_eq_getElem_cons:=@List.drop_eq_getElem_cons
theorem A5:type_of%@Nat.zero_le:=@Nat.zero_le
theorem A6:type_of%@Bool.eq_false_or_eq_true:=@Bool.eq_false_or_eq_true
theorem A7:type_of%@Nat.le_refl:=@Nat.le_refl
theorem A8:type_of%@List.drop_eq_nil_of_le:=@List.drop_eq_nil_of_le
theorem A9:type_of%@List.getElem_mem:=@List.getElem_mem
theorem Aa:type_of%@Bool.and_eq_true:=@Bool.and_eq_true
theorem Ab:type_of%@List.mem_map:=@List.mem_map
theorem Ac:type_of%@List.take_succ_eq_append_getElem:=@List.take_succ_eq_append_getElem
theorem Ad:type_of%@List.take_of_length_le:=@List.take_of_length_le
theorem Ae:type_of%@Nat.zero_add:=@Nat.zero_add
theorem Af:type_of%@List.mem_cons:=@List.mem_cons
theorem Ag:type_of%@List.map_cons:=@List.map_cons
theorem Ah:type_of%@List.length_cons:=@List.length_cons
theorem Ai:type_of%@List.mem_append:=@List.mem_append
theorem Aj:type_of%@List.getD_eq_getElem?_getD:=@List.getD_eq_getElem?_getD
theorem Ak:type_of%@Nat.mul_le_mul_right:=@Nat.mul_le_mul_right
theorem Al:type_of%@List.length_append:=@List.length_append
theorem Am:type_of%@List.all_eq_true:=@List.all_eq_true
theorem An:type_of%@List.getElem?_take:=@List.getElem?_take
theorem Ao:type_of%@Array.getElem?_toList:=@Array.getElem?_toList
theorem Ap:type_of%@List.getElem?_append_left:=@List.getElem?_append_left
theorem Aq:type_of%@List.mem_iff_getElem?:=@List.mem_iff_getElem?
theorem Ar:type_of%@List.getElem?_append_right:=@List.getElem?_append_right
theorem As:type_of%@Option.map_eq_some_iff:=@Option.map_eq_some_iff
theorem Au:type_of%@List.length_map:=@List.length_map
theorem Av:type_of%@Option.bind_some:=@Option.bind_some
theorem Aw:type_of%@List.append_nil:=@List.append_nil
theorem Ax:type_of%@Nat.le_trans:=@Nat.le_trans
theorem Ay:type_of%@Int.toNat_natCast:=@Int.toNat_natCast
theorem Az:type_of%@List.all_cons:=@List.all_cons
theorem B0:type_of%@List.take_append_drop:=@List.take_append_drop
theorem B1:type_of%@List.drop_zero:=@List.drop_zero
theorem B2:type_of%@List.mem_cons_self:=@List.mem_cons_self
theorem B3:type_of%@List.eq_nil_of_length_eq_zero:=@List.eq_nil_of_length_eq_zero
theorem B4:type_of%@Array.getElem?_eq_getElem:=@Array.getElem?_eq_getElem
theorem B5:type_of%@Nat.add_mul:=@Nat.add_mul
theorem B6:type_of%@List.mem_of_mem_take:=@List.mem_of_mem_take
theorem B7:type_of%@List.foldl_cons:=@List.foldl_cons
theorem B8:type_of%@List.map_map:=@List.map_map
theorem B9:type_of%@List.getElem?_map:=@List.getElem?_map
theorem Ba:type_of%@Bool.true_and:=@Bool.true_and
theorem Bb:type_of%@List.map_congr_left:=@List.map_congr_left
theorem Bc:type_of%@Nat.lt_trichotomy:=@Nat.lt_trichotomy
theorem Be:type_of%@List.nodup_range:=@List.nodup_range
theorem Bf:type_of%@Option.map_some:=@Option.map_some
theorem Bg:type_of%@List.mem_cons_of_mem:=@List.mem_cons_of_mem
theorem Bh:type_of%@List.length_singleton:=@List.length_singleton
theorem Bi:type_of%@List.ext_getElem?:=@List.ext_getElem?
theorem Bj:type_of%@List.append_assoc:=@List.append_assoc
theorem Bk:type_of%@List.cons_append:=@List.cons_append
theorem Bl:type_of%@List.mem_singleton:=@List.mem_singleton
theorem Bm:type_of%@List.getElem?_set_self:=@List.getElem?_set_self
theorem Bn:type_of%@List.mem_filter:=@List.mem_filter
theorem Bo:type_of%@List.nodup_nil:=@List.nodup_nil
theorem Bp:type_of%@List.mem_of_getElem?:=@List.mem_of_getElem?
theorem Bq:type_of%@List.map_nil:=@List.map_nil
theorem Br:type_of%@List.flatMap_cons:=@List.flatMap_cons
theorem Bs:type_of%@List.not_mem_nil:=@List.not_mem_nil
theorem Bt:type_of%@List.drop_of_length_le:=@List.drop_of_length_le
theorem Bu:type_of%@Array.getElem?_eq_some_iff:=@Array.getElem?_eq_some_iff
theorem Bv:type_of%@Bool.false_or:=@Bool.false_or
theorem Bw:type_of%@List.pairwise_append:=@List.pairwise_append
theorem Bx:type_of%@List.take_succ_cons:=@List.take_succ_cons
theorem By:type_of%@List.flatten_append:=@List.flatten_append
theorem Bz:type_of%@List.mem_of_mem_drop:=@List.mem_of_mem_drop
theorem C0:type_of%@Nat.not_succ_le_self:=@Nat.not_succ_le_self
theorem C1:type_of%@Nat.min_eq_left:=@Nat.min_eq_left
theorem C2:type_of%@List.map_append:=@List.map_append
theorem C3:type_of%@Nat.lt_or_ge:=@Nat.lt_or_ge
theorem C4:type_of%@List.set_cons_succ:=@List.set_cons_succ
theorem C5:type_of%@Int.cast_ofNat_Int:=@Int.cast_ofNat_Int
theorem C6:type_of%@List.nodup_cons:=@List.nodup_cons
theorem C7:type_of%@List.drop_succ_cons:=@List.drop_succ_cons
theorem C8:type_of%@List.filter_sublist:=@List.filter_sublist
theorem C9:type_of%@Nat.div_lt_iff_lt_mul:=@Nat.div_lt_iff_lt_mul
theorem Ca:type_of%@Nat.le_of_ble_eq_true:=@Nat.le_of_ble_eq_true
theorem Cb:type_of%@List.getElem?_drop:=@List.getElem?_drop
theorem Cc:type_of%@List.nil_append:=@List.nil_append
theorem Cd:type_of%@List.take_left':=@List.take_left'
theorem Ce:type_of%@Nat.mod_eq_of_lt:=@Nat.mod_eq_of_lt
theorem Cf:type_of%@List.length_take:=@List.length_take
theorem Cg:type_of%@Nat.le_of_eq:=@Nat.le_of_eq
theorem Ch:type_of%@Bool.or_eq_true:=@Bool.or_eq_true
theorem Ci:type_of%@Bool.false_eq_true:=@Bool.false_eq_true
theorem Cj:type_of%@List.set_cons_zero:=@List.set_cons_zero
theorem Ck:type_of%@List.pairwise_cons:=@List.pairwise_cons
theorem Cl:type_of%@Array.all_eq_true_iff_forall_mem:=@Array.all_eq_true_iff_forall_mem
theorem Cm:type_of%@List.mem_iff_getElem:=@List.mem_iff_getElem
theorem Cn:type_of%@List.drop_length:=@List.drop_length
theorem Co:type_of%@List.exists_cons_of_ne_nil:=@List.exists_cons_of_ne_nil
theorem Cp:type_of%@Int.tmod_eq_emod_of_nonneg:=@Int.tmod_eq_emod_of_nonneg
theorem Cq:type_of%@List.map_set:=@List.map_set
theorem Cr:type_of%@List.takeWhile_append_dropWhile:=@List.takeWhile_append_dropWhile
theorem Cs:type_of%@List.mem_range:=@List.mem_range
theorem Ct:type_of%@List.nodup_append:=@List.nodup_append
theorem Cu:type_of%@List.take_add_one:=@List.take_add_one
theorem Cv:type_of%@Array.length_toList:=@Array.length_toList
theorem Cw:type_of%@Nat.mod_lt:=@Nat.mod_lt
theorem Cx:type_of%@Nat.div_add_mod:=@Nat.div_add_mod
theorem Cy:type_of%@List.length_nil:=@List.length_nil
theorem Cz:type_of%@List.pairwise_iff_getElem:=@List.pairwise_iff_getElem
theorem D0:type_of%@Nat.zero_mul:=@Nat.zero_mul
theorem D1:type_of%@List.getElem_map:=@List.getElem_map
theorem D2:type_of%@List.take_zero:=@List.take_zero
theorem D3:type_of%@List.flatten_cons:=@List.flatten_cons
theorem D4:type_of%@List.foldl_append:=@List.foldl_append
theorem D5:type_of%@List.pairwise_map:=@List.pairwise_map
theorem D6:type_of%@List.filter_eq_self:=@List.filter_eq_self
theorem D7:type_of%@Nat.add_zero:=@Nat.add_zero
theorem D8:type_of%@List.takeWhile_cons_of_pos:=@List.takeWhile_cons_of_pos
theorem D9:type_of%@List.length_drop:=@List.length_drop
theorem Da:type_of%@List.filter_cons:=@List.filter_cons
theorem Db:type_of%@Int.emod_lt_of_pos:=@Int.emod_lt_of_pos
theorem Dc:type_of%@Nat.one_mul:=@Nat.one_mul
theorem Dd:type_of%@List.getElem?_set_ne:=@List.getElem?_set_ne
theorem De:type_of%@List.all_nil:=@List.all_nil
theorem Df:type_of%@Bool.eq_iff_iff:=@Bool.eq_iff_iff
theorem Dg:type_of%@Bool.and_true:=@Bool.and_true
theorem Dh:type_of%@List.getElem?_range:=@List.getElem?_range
theorem Di:type_of%@Bool.false_and:=@Bool.false_and
theorem Dj:type_of%@List.perm_middle:=@List.perm_middle
theorem Dk:type_of%@Nat.lt_of_lt_of_le:=@Nat.lt_of_lt_of_le
theorem Dl:type_of%@List.contains_cons:=@List.contains_cons
theorem Dm:type_of%@Bool.true_or:=@Bool.true_or
theorem Dn:type_of%@List.length_set:=@List.length_set
theorem Do:type_of%@List.getElem?_eq_none:=@List.getElem?_eq_none
theorem Dp:type_of%@List.length_filter_le:=@List.length_filter_le
theorem Dq:type_of%@Int.emod_nonneg:=@Int.emod_nonneg
theorem Dr:type_of%@Array.getElem?_append_left:=@Array.getElem?_append_left
theorem Ds:type_of%@Int.tdiv_eq_ediv_of_nonneg:=@Int.tdiv_eq_ediv_of_nonneg
theorem Dt:type_of%@Int.fdiv_eq_ediv_of_nonneg:=@Int.fdiv_eq_ediv_of_nonneg
theorem Du:type_of%@Bool.not_eq_true':=@Bool.not_eq_true'
theorem Dv:type_of%@List.set_append_left:=@List.set_append_left
theorem Dw:type_of%@List.mem_or_eq_of_mem_set:=@List.mem_or_eq_of_mem_set
theorem Dx:type_of%@Nat.mul_comm:=@Nat.mul_comm
theorem Dy:type_of%@List.getElem_of_mem:=@List.getElem_of_mem
theorem Dz:type_of%@Int.eq_ofNat_of_zero_le:=@Int.eq_ofNat_of_zero_le
theorem E0:type_of%@List.getElem?_cons_succ:=@List.getElem?_cons_succ
theorem E1:type_of%@Nat.add_assoc:=@Nat.add_assoc
theorem E2:type_of%@List.map_drop:=@List.map_drop
theorem E3:type_of%@List.mem_filterMap:=@List.mem_filterMap
theorem E4:type_of%@List.zip_cons_cons:=@List.zip_cons_cons
theorem E5:type_of%@UInt8.toNat_inj:=@UInt8.toNat_inj
theorem E6:type_of%@Nat.add_comm:=@Nat.add_comm
theorem E7:type_of%@List.map_id':=@List.map_id'
theorem E8:type_of%@Nat.pow_succ:=@Nat.pow_succ
theorem E9:type_of%@List.all_append:=@List.all_append
end Go
namespace Go.Vx
open Go
inductive Tag where|ro|full|app(id:Nat)deriving DecidableEq
inductive V where|u|bool(b:Bool)|int(k:IntKind)(n:Int)|str(s:alW)|raw(v:Value)|gv|ptr(id off:Nat)|sl(g:Tag)(rows:List (List V))|pG(cells:List V)(off:Nat)|fn(f:FuncId)(cd:List V)|agg(cells:List V)|cC(vs:List V)|cS(id s n lo m:Nat)|jk(id s n k j:Nat)|kF(id s off n:Nat)|mp(id:Nat)|iw(t:Nat)(vs:List V)
instance:Inhabited V:=⟨.u⟩
variable {U:Type}{J:Type}
def bP{U J:Type}(R:U->J->Prop):List U->List J->Prop|[],[]=>True|a::az,b::bs=>R a b/\bP R az bs|_,_=>False
theorem bP.length{R:U->J->Prop}:∀{l:List U}{m:List J},bP R l m->l.length=m.length |[],[],_=>rfl|_::_,_::_,h=>by simp[bP.length h.2]|[],_::_,h=>h.elim|_::_,[],h=>h.elim
theorem bP.imp{R S:U->J->Prop}(aa:∀a b,R a b->S a b):∀{l:List U}{m:List J},bP R l m->bP S l m |[],[],_=>trivial|_::_,_::_,h=>⟨aa _ _ h.1,bP.imp aa h.2⟩|[],_::_,h=>h.elim|_::_,[],h=>h.elim
theorem bP.get{R:U->J->Prop}:∀{l:List U}{m:List J}(i:Nat)(a:U),bP R l m->l[i]?=some a->∃b,m[i]?=some b/\R a b
 |a::_,b::_,0,_,h,e=>⟨b,rfl,by simp at e;exact e▸h.1⟩|_::_,_::_,i+1,_,h,e=>by obtain⟨b,hb,r⟩:=bP.get i _ h.2 (sU e);grind|[],[],_,_,_,e=>by grind|[],_::_,_,_,h,_=>h.elim|_::_,[],_,_,h,_=>h.elim
theorem bP.of{R:U->J->Prop}:∀{l:List U}{m:List J},l.length=m.length->(∀(i:Nat)a b,l[i]?=some a->m[i]?=some b->R a b)->bP R l m |[],[],_,_=>trivial|a::l,b::m,hl,h=>⟨h 0 a b rfl rfl,bP.of (by grind) λi x y hx hy=>h (i+1) x y (by grind) (by grind)⟩|[],_::_,hl,_=>by grind|_::_,[],hl,_=>by grind
theorem bP.append{R:U->J->Prop}:∀{l:List U}{m:List J}{l':List U}{m':List J},bP R l m->bP R l' m'->bP R (l++l') (m++m') |[],[],_,_,_,h'=>h'|_::_,_::_,_,_,h,h'=>⟨h.1,bP.append h.2 h'⟩|[],_::_,_,_,h,_=>h.elim|_::_,[],_,_,h,_=>h.elim
theorem bP.take{R:U->J->Prop}:∀{l:List U}{m:List J}(n:Nat),bP R l m->bP R (l.take n) (m.take n)|[],[],n,_=>by grind|_::_,_::_,0,_=>trivial|_::_,_::_,n+1,h=>⟨h.1,bP.take n h.2⟩|[],_::_,_,h=>h.elim|_::_,[],_,h=>h.elim
theorem bP.drop{R:U->J->Prop}:∀{l:List U}{m:List J}(n:Nat),bP R l m->bP R (l.drop n) (m.drop n)|[],[],n,_=>by grind|_::_,_::_,0,h=>h|_::_,_::_,n+1,h=>bP.drop n h.2|[],_::_,_,h=>h.elim|_::_,[],_,h=>h.elim
theorem Zz{i j n s:Nat}(hi:i<n)(hj:j<s):i*s+j<n*s:=by have h:(i+1)*s<=n*s:=Ak s hi;grind
inductive cM(w:World)(L:Nat->Nat):V->Value->Prop|bool(b:Bool):cM w L (.bool b) (.bool b)|int(k:IntKind)(n:Int):cM w L (.int k n) (.int k n)|str(s:alW):cM w L (.str s) (.string ⟨s.toArray⟩)|raw(v:Value)(h:v.oneCell'):cM w L (.raw v) v|gv:cM w L .gv (.pointer none)|jI(g:Tag)(a:Option Addr)(cap:Nat)(hg:g=.full->cap=0)(ha:∀id,g≠.app id):cM w L (.sl g []) (.slice a 0 cap)|sl(g:Tag)(rows:List (List V))(s b o cap:Nat)(c:Nat->Nat->Value)(ha:∀id,g≠.app id)(hs:0<s)(hlen:∀r∈rows,r.length=s)(fD:o+rows.length*s<=L b)(dG:rows.length<=cap)(hg:g=.full->cap=rows.length)(hc:∀i j,i<rows.length->j<s->w.cell? ⟨b,o+i*s+j,none⟩=some (c i j))(hr:∀i j(hi:i<rows.length)(hj:j<rows[i].length),cM w L (rows[i][j]) (c i j)):cM w L (.sl g rows) (.slice (some ⟨b,o,none⟩) rows.length cap)
structure Le(w:World)(L:Nat->Nat)(w':World)(L':Nat->Nat):Prop where
 lim:∀b,L b<=L' b
 cell:∀b o,o<L b->w'.cell? ⟨b,o,none⟩=w.cell? ⟨b,o,none⟩
theorem Le.refl(w:World)(L:Nat->Nat):Le w L w L:=⟨om,sM⟩
theorem Le.trans{w1 w2 w3:World}{L1 L2 L3:Nat->Nat}(h:Le w1 L1 w2 L2)(k:Le w2 L2 w3 L3):Le w1 L1 w3 L3:=⟨λb=>Ax (h.lim b) (k.lim b),λb o ho=>(k.cell b o (Dk ho (h.lim b))).trans (h.cell b o ho)⟩
theorem cM.mono{w w':World}{L L':Nat->Nat}(h:Le w L w' L'){v:V}{x:Value}(r:cM w L v x):cM w' L' v x:=by induction r with |bool b=>exact .bool b|int k n=>exact .int k n|str s=>exact .str s|raw v hv=>exact .raw v hv|gv=>exact .gv|jI g a cap hg ha=>exact .jI g a cap hg ha|sl g rows s b o cap c ha hs hlen fD dG hg hc hr ih=>refine .sl g rows s b o cap c ha hs hlen (Ax fD (h.lim b)) dG hg (λi j hi hj=>?_) ih;rw[h.cell b _ (by have:=Zz hi hj;omega)];grind
theorem cM.dS{w:World}{L:Nat->Nat}{v:V}{x:Value}(r:cM w L v x):x.oneCell'=true:=by cases r<;>first|rfl|assumption
inductive Ob where|box(cells:List V)|app(n s:Nat)|cv(rows:List (List V))(s:Nat)|dead|mp(dZ:List V)(gH:alX)(dm:Nat)|it(m:am2)(since:Nat)(seen:alX)(last:Nat)
abbrev St:=List Ob
def il(w:World)(L:Nat->Nat)(I:St)(J:alY):V->Value->Prop |.u,x=>x.oneCell'=true|.ptr id off,x=>∃b,J[id]?=some (.pointer (some ⟨b,0,none⟩))/\x=.pointer (some ⟨b,off,none⟩)|.sl (.app id) rows,x=>cM w L (.sl .ro rows) x/\∃n s,I[id]?=some (.app n s)/\rows.length<=n/\(rows.length=n->J[id]?=some x)/\(∀r∈rows,r.length=s)|.pG cells off,x=>∃(b o:Nat)(c:Nat->Value),x=.pointer (some ⟨b,o+off,none⟩)/\o+cells.length<=L b/\∀j(hj:j<cells.length),w.cell? ⟨b,o+j,none⟩=some (c j)/\cM w L cells[j] (c j)|.cS id s n lo m,x=>∃a cap,x=.slice a m cap/\(m<=cap/\n<=lo+cap)/\(0<cap->∃b o,a=some ⟨b,o,none⟩)/\(I[id]?=some .dead\/∃rows,I[id]?=some (.cv rows s)/\n<=rows.length/\(n=rows.length->∃b c0,J[id]?=some (.slice b n c0)/\cap=c0-lo/\lo<=c0/\(lo<c0->∃k,b=some ⟨k,0,none⟩/\a=some ⟨k,lo*s,none⟩)))|.jk id s n k j,x=>∃b o,x=.pointer (some ⟨b,o,none⟩)/\(I[id]?=some .dead\/∃rows,I[id]?=some (.cv rows s)/\n<=rows.length/\(n=rows.length->k<n->∃c0,J[id]?=some (.slice (some ⟨b,0,none⟩) n c0)/\o=k*s+j))|.kF id _ off n,x=>∃b,J[id]?=some (.pointer (some ⟨b,0,none⟩))/\x=.slice (some ⟨b,off,none⟩) n n|.mp id,x=>∃b,J[id]?=some (.pointer (some ⟨b,0,none⟩))/\x=.map (some b)|.fn _ _,_=>False|.agg _,_=>False|.cC _,_=>False|.iw _ _,_=>False|v,x=>cM w L v x
def dy(w:World)(L:Nat->Nat)(I:St)(J:alY):V->Value->Prop |.fn f cd,x=>∃xs:alY,x=.func (.func f) #[] xs.toArray/\bP (il w L I J) cd xs|.iw t vs,x=>∃y,x=.iface t y/\bP (il w L I J) vs [y]|v,x=>il w L I J v x
def eI(w:World)(L:Nat->Nat)(I:St)(J:alY):V->Value->Prop |.agg cs,x=>∃xs:alY,x=.agg xs.toArray/\bP (dy w L I J) cs xs|v,x=>dy w L I J v x
def dP(w:World)(L:Nat->Nat)(I:St)(J:alY):V->Value->Prop |.u,_=>True|.cC vs,x=>∃xs:alY,x=.tuple xs.toArray/\bP (eI w L I J) vs xs|v,x=>eI w L I J v x
structure Ext(I:St)(J:alY)(I':St)(J':alY):Prop where ptr:∀(id:Nat)a,J[id]?=some (.pointer a)->J'[id]?=some (.pointer a)app:∀(id:Nat)n s,I[id]?=some (.app n s)->∃n',I'[id]?=some (.app n' s)/\n<=n'/\(n'=n->J'[id]?=J[id]?)cv:∀(id:Nat)rows s,I[id]?=some (.cv rows s)->I'[id]?=some .dead\/∃eR,I'[id]?=some (.cv eR s)/\rows.length<=eR.length/\(eR.length=rows.length->J'[id]?=J[id]?)dead:∀(id:Nat),I[id]?=some .dead->I'[id]?=some .dead
theorem Ext.refl(I:St)(J:alY):Ext I J I J:=⟨sM,(by grind),(by grind),λ_ h=>h⟩
theorem Ext.trans{I1 I2 I3:St}{J1 J2 J3:alY}(h:Ext I1 J1 I2 J2)(k:Ext I2 J2 I3 J3):Ext I1 J1 I3 J3:=by
 refine⟨λid a e=>k.ptr id a (h.ptr id a e),λid n s e=>?_,λid rows s e=>?_,λid e=>k.dead id (h.dead id e)⟩;.obtain⟨n2,e2,l2,p2⟩:=h.app id n s e;obtain⟨n3,e3,l3,p3⟩:=k.app id n2 s e2;grind
 .rcases h.cv id rows s e with e2|⟨r2,e2,l2,p2⟩;.exact .inl (k.dead id e2)
  .rcases k.cv id r2 s e2 with e3|⟨r3,e3,l3,p3⟩;all_goals grind
section
variable{w w':World}{L L':Nat->Nat}{I I':St}{J J':alY}
variable {x:Value}
theorem il.mono(h:Le w L w' L')(k:Ext I J I' J'){v:V}(r:il w L I J v x):il w' L' I' J' v x:=by cases v with
 |u=>exact r|ptr id off=>obtain⟨b,hb,hx⟩:=r;exact⟨b,k.ptr _ _ hb,hx⟩|sl g rows=>cases g with |app id=>obtain⟨hr,n,s,cP,hle,dD,hl⟩:=r;obtain⟨n',aa,hn,ab⟩:=k.app id n s cP;refine⟨hr.mono h,n',s,aa,om,λe=>?_,hl⟩;grind|ro=>exact cM.mono h r|full=>exact cM.mono h r
 |pG cells off=>obtain⟨b,o,c,hx,hl,hc⟩:=r;refine⟨b,o,c,hx,Ax hl (h.lim b),λj hj=>?_⟩;obtain⟨h1,h2⟩:=hc j hj;exact⟨by rw[h.cell b _ om];exact h1,h2.mono h⟩|cS id s n lo m=>
  obtain⟨a,cap,hx,hm,ha,hc⟩:=r;refine⟨a,cap,hx,hm,ha,?_⟩;rcases hc with hd|⟨rows,cP,hn,hb⟩;.exact .inl (k.dead id hd)
  .rcases k.cv id rows s cP with hd|⟨r2,e2,l2,p2⟩;all_goals grind|jk id s n i j=>
  obtain⟨b,o,hx,hc⟩:=r;refine⟨b,o,hx,?_⟩;rcases hc with hd|⟨rows,cP,hn,hb⟩;.exact .inl (k.dead id hd)
  .rcases k.cv id rows s cP with hd|⟨r2,e2,l2,p2⟩;all_goals grind|kF id s off n=>obtain⟨b,hb,hx⟩:=r;exact⟨b,k.ptr _ _ hb,hx⟩|mp id=>obtain⟨b,hb,hx⟩:=r;exact⟨b,k.ptr _ _ hb,hx⟩|fn f cd=>exact r|iw t v=>exact r|agg cs=>exact r|cC vs=>exact r|bool b=>exact cM.mono h r|int k n=>exact cM.mono h r|str s=>exact cM.mono h r|raw v=>exact cM.mono h r|gv=>exact cM.mono h r
theorem dy.mono(h:Le w L w' L')(k:Ext I J I' J'){v:V}(r:dy w L I J v x):dy w' L' I' J' v x:=by cases v with |fn f cd=>obtain⟨xs,hx,hc⟩:=r;exact⟨xs,hx,hc.imp (by grind[il.mono])⟩|iw t v=>obtain⟨y,hx,hc⟩:=r;exact⟨y,hx,hc.imp (by grind[il.mono])⟩|_=>simp only[dy]at r⊢;exact il.mono h k r
theorem eI.mono(h:Le w L w' L')(k:Ext I J I' J'){v:V}(r:eI w L I J v x):eI w' L' I' J' v x:=by cases v with |agg cs=>obtain⟨xs,hx,hc⟩:=r;exact⟨xs,hx,hc.imp (by grind[dy.mono])⟩|_=>simp only[eI]at r⊢;exact dy.mono h k r
theorem dP.mono(h:Le w L w' L')(k:Ext I J I' J'){v:V}(r:dP w L I J v x):dP w' L' I' J' v x:=by cases v with |u=>trivial|cC vs=>obtain⟨xs,hx,hc⟩:=r;exact⟨xs,hx,hc.imp (by grind[eI.mono])⟩|_=>simp only[dP]at r⊢;exact eI.mono h k r
theorem il.dS{v:V}(r:il w L I J v x):x.oneCell'=true:=by cases v with
 |u=>exact r|ptr id off=>obtain⟨b,_,rfl⟩:=r;rfl|sl g rows=>cases g with |app id=>exact r.1.dS|ro=>exact cM.dS r|full=>exact cM.dS r
 |pG cells off=>obtain⟨b,o,c,rfl,_⟩:=r;rfl|cS id s n lo m=>obtain⟨a,cap,rfl,_⟩:=r;rfl|jk id s n k j=>obtain⟨b,o,rfl,_⟩:=r;rfl|kF id s off n=>obtain⟨b,_,rfl⟩:=r;rfl|mp id=>obtain⟨b,_,rfl⟩:=r;rfl|fn f cd=>trivial|iw t v=>trivial|agg cs=>trivial|cC vs=>trivial|_=>simp only[il]at r;exact cM.dS r
theorem dy.dS{v:V}(r:dy w L I J v x):x.oneCell'=true:=by cases v with |fn f cd=>obtain⟨xs,rfl,_⟩:=r;rfl|iw t v=>obtain⟨y,rfl,_⟩:=r;rfl|_=>simp only[dy]at r;exact il.dS r
theorem dy.dJ{v:V}(r:cM w L v x):dy w L I J v x:=by cases r with
 |jI g a cap hg ha=>cases g with |app id=>grind|ro=>exact .jI _ a cap hg ha|full=>exact .jI _ a cap hg ha
 |sl g rows s b o cap c ha hs hlen fD dG hg hc hr=>cases g with |app id=>grind|ro=>exact .sl _ rows s b o cap c ha hs hlen fD dG hg hc hr|full=>exact .sl _ rows s b o cap c ha hs hlen fD dG hg hc hr
 |bool b=>exact cM.bool b|int k n=>exact cM.int k n|str s=>exact cM.str s|raw _ hv=>exact cM.raw _ hv|gv=>exact cM.gv
theorem eI.dX{v:V}(r:dy w L I J v x):eI w L I J v x:=by cases v<;>first|exact r|(simp only[eI];exact r)|exact r.elim
theorem dP.dX{v:V}(r:dy w L I J v x):dP w L I J v x:=by cases v<;>first|exact r|exact r.elim|trivial
theorem dP.lR{v:V}(r:eI w L I J v x):dP w L I J v x:=by cases v<;>first|exact r|exact r.elim|trivial
end
theorem eX{U:Sort _}(a:U):∃b,a=b:=⟨a,rfl⟩
def gh:List (Nat×List V):= []
def tM:List (Nat×IntKind):= [(0,.i64)]
abbrev Env:=Nat->V
def ft(e:Env)(d:Nat)(v:V):Env:=λt=>if t=d then v else e t
def iI:Env:=λ_=> .u
structure Ctx where
 w0:World
 L0:Nat->Nat
 X0:alX
 cD:St
 β0:alY
def dt:Ob->Value->am2 |.box _,.pointer (some a)=>some a.block|.app n _,.slice (some a) _ cap=>if n<cap then some a.block else none|.cv _ _,.slice (some a) _ cap=>if 0<cap then some a.block else none|.mp _ _ _,.pointer (some a)=>some a.block|.it _ _ _ _,.pointer (some a)=>some a.block|_,_=>none
def sS(arr:am0)(fz:Nat×Nat):Prop:=∀o,o<arr.size->¬(fz.1<=o/\o<fz.2)
def gi(s:Nat)(arr:am0)(fz:Nat×Nat):Prop:=sS arr fz/\(s=1\/¬(fz.1<=arr.size/\arr.size<fz.2))
def qM(es:Array MapEntry):alY:=es.toList.flatMap λe=>[e.key,e.val]
theorem RU(s:Nat)(arr:am0):gi s arr (0,0):=⟨λq _ hq=>om,om⟩
theorem gi.size{s:Nat}{arr aa:am0}{fz:Nat×Nat}(h:gi s arr fz)(e:aa.size=arr.size):gi s aa fz:=⟨λq hq=>h.1 q om,by rw[e];exact h.2⟩
def iy(w:World)(L:Nat->Nat)(I:St)(J:alY):Ob->Value->Prop |.box cells,x=>∃b arr T fz,x=.pointer (some ⟨b,0,none⟩)/\w.heap[b]?=some (.cells arr T fz)/\sS arr fz/\L b=0/\bP (dy w L I J) cells arr.toList|.app n s,x=>∃a cap,x=.slice a n cap/\n<=cap/\0<s/\(n<cap->∃b o arr T fz,a=some ⟨b,o,none⟩/\w.heap[b]?=some (.cells arr T fz)/\sS arr fz/\o+cap*s<=arr.size/\L b=o+n*s)|.cv rows s,x=>∃a cap,x=.slice a rows.length cap/\rows.length<=cap/\0<s/\(∀r∈rows,r.length=s)/\(0<cap->∃b arr T fz,a=some ⟨b,0,none⟩/\w.heap[b]?=some (.cells arr T fz)/\gi s arr fz/\cap*s<=arr.size/\L b=0/\bP (dy w L I J) rows.flatten (arr.toList.take (rows.length*s)))|.dead,_=>True|.mp dZ gH dm,x=>∃b es,x=.pointer (some ⟨b,0,none⟩)/\w.heap[b]?=some (.map es dm)/\L b=0/\bP (eI w L I J) dZ (qM es)/\es.toList.map (·.born)=gH|.it m since seen last,x=>∃b mo,x=.pointer (some ⟨b,0,none⟩)/\w.heap[b]?=some (.mapIter mo since seen.toArray last)/\L b=0/\(match m with|none=>mo=none|some id=>∃r,J[id]?=some (.pointer (some ⟨r,0,none⟩))/\mo=some r)
def ZA(w:World)(L:Nat->Nat)(g:Nat)(cells:List V):Prop:=cells.length<=L g/\∃c:Nat->Value,∀j(hj:j<cells.length),w.cell? ⟨g,j,none⟩=some (c j)/\cM w L cells[j] (c j)
structure iJ(w:World)(L:Nat->Nat):Prop where jV:∀p∈gh,ZA w L p.1 p.2num:∀p∈tM,1<=L p.1/\∃m,w.cell? ⟨p.1,0,none⟩=some (.int p.2 m)
theorem iJ.mono{w w':World}{L L':Nat->Nat}(h:Le w L w' L')(r:iJ w L):iJ w' L':=by refine⟨λp hp=>(by trivial),λp hp=>?_⟩;obtain⟨h1,m,h2⟩:=r.num p hp;exact⟨Ax h1 (h.lim _),m,by rw[h.cell _ 0 om];exact h2⟩
structure Mem(c:Ctx)(w:World)(L:Nat->Nat)(I:St)(J:alY):Prop where
 len:J.length=I.length
 dE:∀(i:Nat)o x,I[i]?=some o->J[i]?=some x->iy w L I J o x
 apart:∀(i j:Nat)o o' x x' b,i≠j->I[i]?=some o->J[i]?=some x->I[j]?=some o'->J[j]?=some x'->dt o x=some b->dt o' x'≠some b
 gA:∀(i:Nat)o x b,I[i]?=some o->J[i]?=some x->dt o x=some b->c.w0.heap.size<=b\/b∈c.X0
 same:∀b,b<c.w0.heap.size->b∉c.X0->w.heap[b]?=c.w0.heap[b]?/\L b=c.L0 b
 le:Le c.w0 c.L0 w L
 size:c.w0.heap.size<=w.heap.size
 os:w.os=c.w0.os
 tape:w.tape=c.w0.tape
 output:w.output=c.w0.output
 drawn:c.w0.drawn<=w.drawn
 lim:∀b,w.heap.size<=b->L b=0
 ext:Ext c.cD c.β0 I J
 jV:iJ c.w0 c.L0
theorem iy.step{w w':World}{L L':Nat->Nat}{I I':St}{J J':alY}{o:Ob}{x:Value}(h:Le w L w' L')(k:Ext I J I' J')(hb:∀b,dt o x=some b->w'.heap[b]?=w.heap[b]?/\L' b=L b)(r:iy w L I J o x):iy w' L' I' J' o x:=by cases o with |box cells=>obtain⟨b,arr,T,fz,rfl,hh,hf,hl,hc⟩:=r;obtain⟨e1,e2⟩:=hb b rfl;exact⟨b,arr,T,fz,rfl,e1.trans hh,hf,e2.trans hl,hc.imp (by grind[dy.mono])⟩|app n s=>obtain⟨a,cap,rfl,hn,hs,hx⟩:=r;refine⟨a,cap,rfl,hn,hs,λaa=>?_⟩;obtain⟨b,o,arr,T,fz,rfl,hh,hf,ab,hl⟩:=hx aa;obtain⟨e1,e2⟩:=hb b (by simp[dt,aa]);grind|cv rows s=>obtain⟨a,cap,rfl,hn,hs,hu,hx⟩:=r;refine⟨a,cap,rfl,hn,hs,hu,λaa=>?_⟩;obtain⟨b,arr,T,fz,rfl,hh,hf,ab,hl,hc⟩:=hx aa;obtain⟨e1,e2⟩:=hb b (by simp[dt,aa]);exact⟨b,arr,T,fz,rfl,e1.trans hh,hf,ab,e2.trans hl,hc.imp (by grind[dy.mono])⟩|dead=>trivial|mp dZ gH dm=>obtain⟨b,es,rfl,hh,hl,hc,ad⟩:=r;obtain⟨e1,e2⟩:=hb b rfl;exact⟨b,es,rfl,e1.trans hh,e2.trans hl,hc.imp (by grind[eI.mono]),ad⟩|it m since seen last=>obtain⟨b,mo,rfl,hh,hl,hc⟩:=r;obtain⟨e1,e2⟩:=hb b rfl;refine⟨b,mo,rfl,e1.trans hh,e2.trans hl,?_⟩;cases m with |none=>exact hc|some id=>obtain⟨q,hq,hm⟩:=hc;exact⟨q,k.ptr _ _ hq,hm⟩
theorem iy.fh{w:World}{L:Nat->Nat}{I:St}{J:alY}{o:Ob}{x:Value}{b:Nat}(r:iy w L I J o x)(h:dt o x=some b):b<w.heap.size:=by cases o with |box cells=>obtain⟨b',arr,T,fz,rfl,hh,_⟩:=r;grind[dt]|app n s=>obtain⟨a,cap,rfl,hn,hs,hx⟩:=r;cases a<;>grind[dt]|cv rows s=>obtain⟨a,cap,rfl,hn,hs,hu,hx⟩:=r;cases a<;>grind[dt]|dead=>trivial|mp dZ gH dm=>obtain⟨b',es,rfl,hh,_⟩:=r;grind[dt]|it m since seen last=>obtain⟨b',mo,rfl,hh,_⟩:=r;grind[dt]
section
variable{c:Ctx}{w:World}{L:Nat->Nat}{I:St}{J:alY}
variable {i:Nat}{U:Type}{cells:List V}
theorem Mem.drew(h:Mem c w L I J):Mem c w.drew L I J/\Le w L w.drew L:=by have hle:Le w L w.drew L:=⟨om,sM⟩;refine⟨⟨h.len,λi o x hi hx=>(h.dE i o x hi hx).step hle (Ext.refl _ _) λb hb=>(by trivial),h.apart,h.gA,h.same,h.le.trans hle,h.size,h.os,h.tape,h.output,Nat.le_succ_of_le h.drawn,h.lim,h.ext,h.jV⟩,hle⟩
def xQ(L:Nat->Nat)(b n:Nat):Nat->Nat:=λk=>if k=b then n else L k
theorem yM(w:World)(o:Go.Obj):(w.alloc o).heap[w.heap.size]?=some o:=by show(w.heap.push o)[w.heap.size]?=_;simp
theorem H2(w:World)(o:Go.Obj){k:Nat}(h:k<w.heap.size):(w.alloc o).heap[k]?=w.heap[k]?:=by show(w.heap.push o)[k]?=_;grind
theorem Ei{w w':World}{b:Nat}(h:w'.heap[b]?=w.heap[b]?)(o:Nat):w'.cell? ⟨b,o,none⟩=w.cell? ⟨b,o,none⟩:=by grind[World.cell?]
theorem Mem.alloc(h:Mem c w L I J)(o:Go.Obj)(m:Nat):Mem c (w.alloc o) (xQ L w.heap.size m) I J/\Le w L (w.alloc o) (xQ L w.heap.size m):=by
 have hL:∀b,b<w.heap.size->xQ L w.heap.size m b=L b:=(by grind[xQ]);have hle:Le w L (w.alloc o) (xQ L w.heap.size m):=by
  refine⟨λb=>?_,λb off ho=>?_⟩
  .by_cases hb:b=w.heap.size;.subst hb;rw[h.lim _ om];omega
   grind[xQ]
  .have hb:b<w.heap.size:=by
    rcases C3 b w.heap.size with hb|hb;.exact hb
    .rw[h.lim b hb]at ho;omega
   grind[Ei,H2]
 refine⟨⟨h.len,λi ob x hi hx=>(h.dE i ob x hi hx).step hle (Ext.refl _ _) λb hb=>?_,h.apart,h.gA,λb hb hx=>?_,h.le.trans hle,?_,h.os,h.tape,h.output,h.drawn,λb hb=>?_,h.ext,h.jV⟩,hle⟩;.have aa:=(h.dE i ob x hi hx).fh hb;grind[H2]
 .have aa:b<w.heap.size:=Dk hb h.size;rw[H2 w o aa,hL b aa];exact h.same b hb hx
 .simp;have:=h.size;omega
 .simp at hb;simp[xQ];rw[alp om];exact h.lim b om
theorem Ext.push(I:St)(J:alY)(hl:J.length=I.length)(o:Ob)(x:Value):Ext I J (I++[o]) (J++[x]):=by refine⟨(by grind),(by grind),(by grind),(by grind)⟩;all_goals grind
theorem xK{l:List U}{a b:U}(h:(l++[a])[i]?=some b):(i<l.length/\l[i]?=some b)\/(i=l.length/\b=a):=by grind
theorem Mem.push(h:Mem c w L I J)(o:Ob)(x:Value)(ho:iy w L (I++[o]) (J++[x]) o x)(ak:∀(i:Nat)o' x' b,I[i]?=some o'->J[i]?=some x'->dt o' x'=some b->dt o x≠some b)(hm:∀b,dt o x=some b->c.w0.heap.size<=b\/b∈c.X0):Mem c w L (I++[o]) (J++[x]):=by
 have ad:=Ext.push I J h.len o x;refine⟨by simp[h.len],λi o' x' hi hx=>?_,λi j o1 o2 x1 x2 b ah hi ae hj ab hb=>?_,λi o' x' b hi hx hb=>?_,h.same,h.le,h.size,h.os,h.tape,h.output,h.drawn,h.lim,h.ext.trans ad,h.jV⟩
 .rcases xK hi with⟨hl,hi⟩|⟨hl,rfl⟩
  .rcases xK hx with⟨_,hx⟩|⟨aa,_⟩;.exact(h.dE i o' x' hi hx).step (Le.refl _ _) ad sM
   .rw[h.len]at aa;omega
  .rcases xK hx with⟨aa,hx⟩|⟨_,rfl⟩;.rw[h.len]at aa;omega
   omega
 .rcases xK hi with⟨hl,ai⟩|⟨hl,rfl⟩
  .rcases xK ae with⟨_,af⟩|⟨aa,_⟩
   .rcases xK hj with⟨aj,hj⟩|⟨aj,rfl⟩
    .rcases xK ab with⟨_,ab⟩|⟨aa,_⟩;.exact h.apart i j o1 o2 x1 x2 b ah ai af hj ab hb
     .rw[h.len]at aa;omega
    .rcases xK ab with⟨aa,_⟩|⟨_,rfl⟩;.rw[h.len]at aa;omega
     grind
   .rw[h.len]at aa;omega
  .rcases xK ae with⟨aa,_⟩|⟨_,rfl⟩;.rw[h.len]at aa;omega
   grind
 .rcases xK hi with⟨hl,hi⟩|⟨hl,rfl⟩
  .rcases xK hx with⟨_,hx⟩|⟨aa,_⟩;.exact h.gA i o' x' b hi hx hb
   .rw[h.len]at aa;omega
  .rcases xK hx with⟨aa,_⟩|⟨_,rfl⟩;.rw[h.len]at aa;omega
   grind
theorem Mem.box(h:Mem c w L I J)(cells:List V)(arr:am0)(T:TypeId)(hc:bP (dy w L I J) cells arr.toList):Mem c (w.alloc (.cells arr T)) L (I++[.box cells]) (J++[.pointer (some ⟨w.heap.size,0,none⟩)])/\Le w L (w.alloc (.cells arr T)) L:=by
 have h1:=h.alloc (.cells arr T) 0;have hL:xQ L w.heap.size 0=L:=by
  funext k;by_cases hk:k=w.heap.size;.subst hk;simp[xQ,h.lim _ (A7 _)]
  grind[xQ]
 rw[hL]at h1;refine⟨h1.1.push _ _ ⟨w.heap.size,arr,T,(0,0),rfl,yM _ _,λo _ h=>om,h.lim _ om,hc.imp λ_ _=>dy.mono h1.2 (Ext.push I J h.len _ _)⟩ ?_ ?_,h1.2⟩;.intro i o' x' b hi hx hb e;have:=(h.dE i o' x' hi hx).fh hb;grind[dt]
 .intro b hb;simp[dt]at hb;subst hb;exact .inl h.size
def yG(w:World)(b:Nat)(o:Go.Obj):World:={w with heap:=w.heap.setIfInBounds b o}
theorem xL(w:World)(b:Nat)(o:Go.Obj)(hb:b<w.heap.size):(yG w b o).heap[b]?=some o:=by grind[yG]
theorem vG(w:World)(b k:Nat)(o:Go.Obj)(hk:k≠b):(yG w b o).heap[k]?=w.heap[k]?:=by grind[yG]
def yH(arr:am0)(k:Nat):alY->am0 |[]=>arr|v::vs=>yH (arr.setIfInBounds k v) (k+1) vs
theorem yK:∀(vs:alY)(arr:am0)(k:Nat),(yH arr k vs).size=arr.size|[],_,_=>rfl|v::vs,arr,k=>by simp[yH,yK vs]
theorem wV:∀(vs:alY)(arr:am0)(k:Nat)(i:Nat),k+vs.length<=arr.size->(yH arr k vs)[i]?=if k<=i/\i<k+vs.length then vs[i-k]?else arr[i]?
 |[],arr,k,i,_=>by grind[yH]|v::vs,arr,k,i,h=>by simp only[Ah]at h⊢;rw[yH,wV vs _ _ _ (by simp;omega)];grind
theorem ZB(w:World)(b off:Nat)(v:Value)(cur:am0)(T:TypeId)(fz:Nat×Nat)(hb:w.heap[b]?=some (.cells cur T fz)):w.setCell ⟨b,off,none⟩ v=yG w b (.cells (cur.setIfInBounds off v) T fz):=by obtain⟨aa,hv⟩:=Bu.1 hb;unfold World.setCell yG;congr 1;grind
theorem ZC(w:World)(b:Nat)(o o':Go.Obj):yG (yG w b o) b o'=yG w b o':=by simp[yG]
theorem ZD(w:World)(b:Nat)(o:Go.Obj)(hb:w.heap[b]?=some o):yG w b o=w:=by
 obtain⟨aa,hv⟩:=Bu.1 hb;unfold yG;have:w.heap.setIfInBounds b o=w.heap:=by grind
 simp_all
theorem wM(b o n:Nat):Addr.add ⟨b,o,none⟩ n=⟨b,o+n,none⟩:=by unfold Addr.add;simp
theorem xU(P:Program)(b o:Nat)(T:TypeId)(fz:Nat×Nat):∀(vs:alY)(i:Nat)(cur:am0)(w:World),w.heap[b]?=some (.cells cur T fz)->sS cur fz->o+i+vs.length<=cur.size->(∀v∈vs,v.oneCell'=true)->(storeCells ⟨b,o,none⟩ vs i).run P w=.ok () (yG w b (.cells (yH cur (o+i) vs) T fz))
 |[],i,cur,w,hb,_,_,_=>by rw[storeCells,yH,ZD _ _ _ hb];rfl|v::vs,i,cur,w,hb,hu,hl,hv=>by
  simp only[Ah]at hl;have hc:w.cell? ⟨b,o+i,none⟩=some (cur[o+i]'om):=by grind[World.cell?]
  have hf:w.frozen? ⟨b,o+i,none⟩=false:=by have:=hu (o+i) om;grind[World.frozen?]
  obtain⟨aa,_⟩:=Bu.1 hb;rw[storeCells];simp only[Sem.run_bind,wM];rw[run_store P w ⟨b,o+i,none⟩ v .plain (hv v sM)];simp only[hc,hf,alH,Ci,Result.andThen_ok];rw[ZB w b (o+i) v cur T fz hb];have ih:=xU P b o T fz vs (i+1) (cur.setIfInBounds (o+i) v) (yG w b (.cells (cur.setIfInBounds (o+i) v) T fz)) (xL _ _ _ aa) (λk hk=>hu k (by grind)) (by grind) (by grind);rw[ih,ZC];rfl
theorem pH{l:List U}{j:Nat}{a b:U}(h:(l.set i a)[j]?=some b):(j=i/\b=a/\i<l.length)\/(j≠i/\l[j]?=some b):=by grind
theorem Mem.ft(h:Mem c w L I J){w':World}{L':Nat->Nat}(i:Nat)(o:Ob)(x:Value)(hle:Le w L w' L')(ab:Ext I J (I.set i o) (J.set i x))(D:Nat->Prop)(hD:∀(j:Nat)o' x' b,j≠i->I[j]?=some o'->J[j]?=some x'->dt o' x'=some b->¬D b)(ay:∀b,D b->c.w0.heap.size<=b\/b∈c.X0)(af:∀b,¬D b->w'.heap[b]?=w.heap[b]?/\L' b=L b)(al:w'.heap.size=w.heap.size)(an:w'.os=w.os)(ad:w'.tape=w.tape)(ah:w'.output=w.output)(fD:∀b,w.heap.size<=b->L' b=0)(cZ:iy w' L' (I.set i o) (J.set i x) o x)(hex:∀b,dt o x=some b->D b)(ao:w.drawn<=w'.drawn:=by exact A7 _):Mem c w' L' (I.set i o) (J.set i x):=by
 refine⟨by simp[h.len],λj o' x' hj hx=>?_,λj k o1 o2 x1 x2 b aq hj ar hk au hb=>?_,λj o' x' b hj hx hb=>?_,λb hb hx=>?_,h.le.trans hle,by rw[al];exact h.size,an.trans h.os,ad.trans h.tape,ah.trans h.output,Ax h.drawn ao,(by grind),h.ext.trans ab,h.jV⟩
 .rcases pH hj with⟨rfl,rfl,hl⟩|⟨ai,aa⟩;.grind
  .rcases pH hx with⟨e,_,_⟩|⟨_,ae⟩;.omega
   .exact(h.dE j o' x' aa ae).step hle ab (by grind)
 .rcases pH hj with⟨rfl,rfl,hl⟩|⟨ai,aa⟩;.grind
  .rcases pH ar with⟨e,_,_⟩|⟨_,aj⟩;.omega
   .rcases pH hk with⟨rfl,rfl,_⟩|⟨ax,av⟩;.grind
    .rcases pH au with⟨e,_,_⟩|⟨_,ak⟩;.omega
     .exact h.apart j k o1 o2 x1 x2 b aq aa aj av ak hb
 .rcases pH hj with⟨rfl,rfl,hl⟩|⟨ai,aa⟩;.grind
  .rcases pH hx with⟨e,_,_⟩|⟨_,ae⟩;.omega
   .exact h.gA j o' x' b aa ae hb
 .have aw:¬D b:=(by grind);obtain⟨e1,e2⟩:=af b aw;obtain⟨e3,e4⟩:=h.same b hb hx;grind
theorem Ext.j8(hi:I[i]?=some (Ob.box cells))(aa:List V):Ext I J (I.set i (.box aa)) J:=by refine⟨sM,(by grind),(by grind),(by grind)⟩;all_goals grind
def putCells(cells:List V)(off:Nat)(vs:List V):List V:=cells.take off++vs++cells.drop (off+vs.length)
theorem yP(l:List U)(i:Nat)(a:U)(h:l[i]?=some a):l.set i a=l:=by apply Bi;grind
theorem ZE(cells vs:List V)(off i:Nat)(h:off+vs.length<=cells.length):(putCells cells off vs)[i]?=if off<=i/\i<off+vs.length then vs[i-off]?else cells[i]?:=by
 unfold putCells;have ht:(cells.take off).length=off:=by grind
 grind
theorem RV(cells vs:List V)(off:Nat)(h:off+vs.length<=cells.length):(putCells cells off vs).length=cells.length:=by grind[putCells]
theorem RW{R:V->Value->Prop}{vs:List V}{arr:am0}{xs:alY}{off:Nat}(h:bP R cells arr.toList)(hv:bP R vs xs)(hl:off+vs.length<=cells.length):bP R (putCells cells off vs) (yH arr off xs).toList:=by
 have e1:=h.length;have e2:=hv.length;simp at e1;refine bP.of (by grind[RV,yK]) λi a b ha hb=>?_;rw[ZE _ _ _ _ hl]at ha;rw[Ao,wV _ _ _ _ om,<-e2]at hb;by_cases hc:off<=i/\i<off+vs.length;.rw[alq hc]at ha hb;obtain⟨y,hy,r⟩:=hv.get _ _ ha;grind
 .rw[alp hc]at ha hb;obtain⟨y,hy,r⟩:=h.get _ _ ha;grind
theorem Mem.j8(h:Mem c w L I J){vs:List V}{xs:alY}{off b:Nat}(hi:I[i]?=some (.box cells))(dD:J[i]?=some (.pointer (some ⟨b,0,none⟩)))(hv:bP (dy w L I J) vs xs)(hl:off+vs.length<=cells.length):∃arr T fz,w.heap[b]?=some (.cells arr T fz)/\sS arr fz/\arr.size=cells.length/\Mem c (yG w b (.cells (yH arr off xs) T fz)) L (I.set i (.box (putCells cells off vs))) J/\Le w L (yG w b (.cells (yH arr off xs) T fz)) L:=by
 have cZ:=h.dE i _ _ hi dD;obtain⟨b',arr,T,fz,e,hh,hf,h0,hc⟩:=cZ;cases e;have ab:b<w.heap.size:=(by grind);have hle:Le w L (yG w b (.cells (yH arr off xs) T fz)) L:=by refine⟨om,λk o ho=>Ei (vG w b k _ λq=>?_) o⟩;grind
 refine⟨arr,T,fz,hh,hf,by have:=hc.length;grind,?_,hle⟩;have aa:=yP J i _ dD;have af:Ext I J (I.set i (.box (putCells cells off vs))) J:=Ext.j8 hi _;have key:=h.ft (w':=yG w b (.cells (yH arr off xs) T fz)) (L':=L) i (.box (putCells cells off vs)) (.pointer (some ⟨b,0,none⟩)) hle (by grind) (λk=>k=b) (λj o' x' k hj ad ae hk e=>by subst e;exact h.apart j i o' _ x' _ k hj ad ae hi dD hk rfl) (λk e=>by subst e;exact h.gA i _ _ k hi dD rfl) (λk hk=>⟨vG w b k _ hk,rfl⟩) (by simp[yG]) rfl rfl rfl h.lim ?_ (by grind[dt]);.grind
 .rw[aa];refine⟨b,_,T,fz,rfl,xL _ _ _ ab,λo ho=>hf o (by grind[yK]),h0,?_⟩;exact(RW hc hv hl).imp (by grind[dy.mono])
end
variable {L:Nat->Nat}{g:Tag}{x:Value}
def eU(s:Nat)(rows:List (List V)):Prop:=∀r∈rows,r.length=s
theorem yE{U:Type}{s:Nat}:∀{rows:List (List U)},(∀r∈rows,r.length=s)->rows.flatten.length=rows.length*s
 |[],_=>by simp|r::rows,h=>by simp_all[yE,B5,E6]
theorem yS{U:Type}{s:Nat}:∀{rows:List (List U)}(i j:Nat),(∀r∈rows,r.length=s)->j<s->rows.flatten[i*s+j]?=(rows[i]?).bind λr=>r[j]?
 |[],i,j,_,_=>by simp|r::rows,0,j,h,hj=>by grind|r::rows,i+1,j,h,hj=>by have hr:=h r sM;rw[D3,Ar (by rw[hr,B5];omega),hr,show(i+1)*s+j-s=i*s+j by rw[B5];omega,yS i j (λx hx=>h x (by simp[hx])) hj];simp
theorem cM.of_flat{w:World}{rows:List (List V)}{s b o cap:Nat}(hs:0<s)(hu:eU s rows)(fD:o+rows.length*s<=L b)(dG:rows.length<=cap)(ha:∀id,g≠.app id)(hg:g=.full->cap=rows.length)(h:∀(k:Nat)v,rows.flatten[k]?=some v->∃x,w.cell? ⟨b,o+k,none⟩=some x/\cM w L v x):cM w L (.sl g rows) (.slice (some ⟨b,o,none⟩) rows.length cap):=by
 refine .sl g rows s b o cap (λi j=>(w.cell? ⟨b,o+i*s+j,none⟩).getD undef) ha hs hu fD dG hg (λi j hi hj=>?_) (λi j hi hj=>?_)
 .have aa:j<rows[i].length:=by rw[hu _ sM];exact hj
  obtain⟨x,hx,_⟩:=h (i*s+j) (rows[i][j]) (by rw[yS i j hu hj,A0 hi];simp);grind
 .have aa:j<s:=by rw[<-hu _ (A9 hi)];exact hj
  obtain⟨x,hx,r⟩:=h (i*s+j) (rows[i][j]) (by rw[yS i j hu aa,A0 hi];simp);grind
theorem cM.flat{w:World}{rows:List (List V)}(r:cM w L (.sl g rows) x)(ab:rows≠[]):∃s b o cap,x=.slice (some ⟨b,o,none⟩) rows.length cap/\0<s/\eU s rows/\o+rows.length*s<=L b/\rows.length<=cap/\(g=.full->cap=rows.length)/\∀(k:Nat)v,rows.flatten[k]?=some v->∃y,w.cell? ⟨b,o+k,none⟩=some y/\cM w L v y:=by cases r with |jI=>grind|sl _ _ s b o cap c ha hs hlen fD dG hg hc hr=>
  refine⟨s,b,o,cap,rfl,hs,hlen,fD,dG,hg,λk v hk=>?_⟩;have ad:k<rows.length*s:=by grind[yE]
  have hi:k/s<rows.length:=by simp_all[C9]
  have hj:k%s<s:=Cw _ hs;have aa:k=k/s*s+k%s:=by rw[Dx];exact(Cx k s).symm
  rw[aa,yS _ _ hlen hj,A0 hi]at hk;grind
theorem cM.len{w:World}{rows:List (List V)}(r:cM w L (.sl g rows) x):∃a cap,x=.slice a rows.length cap/\rows.length<=cap/\(g=.full->cap=rows.length):=by cases r with |jI _ a cap hg=>exact⟨_,_,rfl,sM,om⟩|sl _ _ s b o cap c ha hs hlen fD dG hg hc hr=>grind
theorem cM.src{P:Program}{w:World}{rows:List (List V)}{s:Nat}{tx e:TypeId}(r:cM w L (.sl g rows) x)(hk:P.underlying tx=some (.slice e))(_hs:0<s)(hu:eU s rows):∃news,Src P s tx x rows.length news w/\bP (cM w L) rows.flatten news:=by
 by_cases aa:rows=[];.subst aa;obtain⟨a,cap,rfl,_,_⟩:=r.len;cases a with |none=>exact⟨[],Src.ofNil w hk cap,tV⟩|some a=>exact⟨[],(by grind[Src.ofSlice]),tV⟩
 .obtain⟨s',b,o,cap,rfl,aj,ab,fD,dG,_,hc⟩:=r.flat aa;have ah:s'=s:=by obtain⟨r0,rest,rfl⟩:=Co aa;rw[<-ab r0 sM,hu r0 sM]
  subst ah;have ad:=yE ab;let f:=λk=>(w.cell? ⟨b,o+k,none⟩).getD undef;have ae:bP (cM w L) rows.flatten ((List.range (rows.length*s')).map f):=by grind[bP.of]
  refine⟨(List.range (rows.length*s')).map f,Src.ofSlice w hk ⟨b,o,none⟩ rows.length cap _ sM (λj u hj=>?_) (λu hu=>?_),ae⟩
  .rw[B9]at hj;have af:j<rows.length*s':=by grind
   rw[A0 (sU af)]at hj;simp only[List.getElem_range,Bf,alu]at hj;obtain⟨z,hz,_⟩:=hc j _ (A0 (by rw[ad];exact af));grind[wM]
  .obtain⟨k,hk,rfl⟩:=Ab.1 hu;have ai:k<rows.length*s':=by grind
   obtain⟨z,hz,rz⟩:=hc k _ (A0 (by rw[ad];exact ai));simpa[f,hz]using rz.dS
def zU(bs:alW):List (List V):=bs.map λb=>[.int .u8 b.toNat]
theorem RY(bs:alW):eU 1 (zU bs):=λr hr=>by obtain⟨b,_,rfl⟩:=Ab.1 hr;rfl
theorem Kw{w:World}(bs:alW):bP (cM w L) (zU bs).flatten (byteCells ⟨bs.toArray⟩):=by unfold zU byteCells;show bP _ _ (bs.map _);induction bs with |nil=>trivial|cons b bs ih=>exact⟨.int _ _,ih⟩
theorem tN{s:Nat}{a b:List (List V)}(ha:eU s a)(hb:eU s b):eU s (a++b):=λr hr=>by
 rcases Ai.1 hr with h|h;.exact ha r h
 .exact hb r h
theorem cM.k9{w:World}{rows:List (List V)}{s b o cap:Nat}{arr:am0}{T:TypeId}{fz:Nat×Nat}{xs:alY}(hs:0<s)(hu:eU s rows)(fD:o+rows.length*s<=L b)(dG:rows.length<=cap)(ha:∀id,g≠.app id)(hg:g=.full->cap=rows.length)(hh:w.heap[b]?=some (.cells arr T fz))(hx:∀(k:Nat)x,xs[k]?=some x->arr[o+k]?=some x)(h:bP (cM w L) rows.flatten xs):cM w L (.sl g rows) (.slice (some ⟨b,o,none⟩) rows.length cap):=by refine .of_flat hs hu fD dG ha hg λk v hv=>?_;obtain⟨x,aa,r⟩:=h.get k v hv;grind[World.cell?]
section
variable{c:Ctx}{w:World}{L:Nat->Nat}{I:St}{J:alY}
variable{cap:Nat}{i:Nat}{arr:am0}{T:TypeId}{n:Nat}{cI:List (List V)}{xs:alY}
theorem ZF(arr:am0)(k:Nat)(xs:alY)(h:k+xs.length<=arr.size)(i:Nat)(x:Value)(hx:xs[i]?=some x):(yH arr k xs)[k+i]?=some x:=by have hi:i<xs.length:=(by grind);simp_all[wV]
theorem RZ(arr:am0)(k:Nat)(xs:alY)(h:k+xs.length<=arr.size)(i:Nat)(hi:i<k):(yH arr k xs)[i]?=arr[i]?:=by simp_all[wV];omega
theorem Mem.H3(h:Mem c w L I J){s b o:Nat}{rows:List (List V)}(hi:I[i]?=some (.app n s))(dD:J[i]?=some (.slice (some ⟨b,o,none⟩) n cap))(hn:rows.length=n)(hr:cM w L (.sl .ro rows) (.slice (some ⟨b,o,none⟩) n cap))(af:eU s rows)(hu:eU s cI)(hx:bP (cM w L) cI.flatten xs)(aq:0<cI.length)(aa:n+cI.length<=cap):∃arr T fz,w.heap[b]?=some (.cells arr T fz)/\sS arr fz/\o+n*s+xs.length<=arr.size/\Mem c (yG w b (.cells (yH arr (o+n*s) xs) T fz)) (xQ L b (o+(n+cI.length)*s)) (I.set i (.app (n+cI.length) s)) (J.set i (.slice (some ⟨b,o,none⟩) (n+cI.length) cap))/\Le w L (yG w b (.cells (yH arr (o+n*s) xs) T fz)) (xQ L b (o+(n+cI.length)*s))/\Ext I J (I.set i (.app (n+cI.length) s)) (J.set i (.slice (some ⟨b,o,none⟩) (n+cI.length) cap))/\cM (yG w b (.cells (yH arr (o+n*s) xs) T fz)) (xQ L b (o+(n+cI.length)*s)) (.sl .ro (rows++cI)) (.slice (some ⟨b,o,none⟩) (n+cI.length) cap):=by
 obtain⟨a,ah,e,ak,hs,cZ⟩:=h.dE i _ _ hi dD;cases e;obtain⟨b',o',arr,T,fz,e,hh,hf,ar,hL⟩:=cZ om;cases e;have ai:b<w.heap.size:=(by grind);have au:xs.length=cI.length*s:=by rw[<-hx.length,yE hu]
 have hmul:(n+cI.length)*s=n*s+cI.length*s:=(by grind);have av:(n+cI.length)*s<=cap*s:=Ak _ aa;have ab:o+n*s+xs.length<=arr.size:=om;have hle:Le w L (yG w b (.cells (yH arr (o+n*s) xs) T fz)) (xQ L b (o+(n+cI.length)*s)):=by refine⟨λk=>?_,λk q hq=>?_⟩;all_goals grind[xQ,World.cell?,xL,RZ,vG]
 have aw:cI.length≠0:=om;have ad:Ext I J (I.set i (.app (n+cI.length) s)) (J.set i (.slice (some ⟨b,o,none⟩) (n+cI.length) cap)):=by
  refine⟨λid a e=>?_,λid n0 s0 e=>?_,(by grind),(by grind)⟩;.grind
  .by_cases q:i=id;.subst q;rw[hi]at e;cases e;grind
   grind
  all_goals grind
 refine⟨arr,T,fz,hh,hf,ab,?_,hle,ad,?_⟩
 .refine h.ft i _ _ hle ad (λk=>k=b) (λj o' x' k hj al an hk e=>by subst e;exact h.apart j i o' _ x' _ k hj al an hi dD hk (by grind[dt])) (λk e=>by subst e;exact h.gA i _ _ k hi dD (by grind[dt])) (by grind[vG,xQ]) (by simp[yG]) rfl rfl rfl (λk hk=>?_) ?_ (λk hk=>?_);.simp only[xQ];rw[alp om];exact h.lim k hk
  .refine⟨_,cap,rfl,aa,hs,λhl=>⟨b,o,_,T,fz,rfl,xL _ _ _ ai,λq hq=>hf q (by grind[yK]),by grind[yK],by simp[xQ]⟩⟩
  grind[dt]
 .have hlen:(rows++cI).length=n+cI.length:=by grind
  have e:Value.slice (some ⟨b,o,none⟩) (n+cI.length) cap=Value.slice (some ⟨b,o,none⟩) (rows++cI).length cap:=by grind
  rw[e];refine .of_flat hs (tN af hu) (by grind[xQ]) om sM sM λk v hk=>?_;rw[By]at hk;have ax:=yE af;simp only[World.cell?,xL _ _ _ ai];by_cases ao:k<rows.flatten.length;.rw[Ap ao]at hk;have aj:rows≠[]:=(by grind);obtain⟨s',b',o',ah,e,_,ay,_,_,_,ae⟩:=hr.flat aj;cases e;obtain⟨y,hy,ry⟩:=ae k v hk;refine⟨y,?_,ry.mono hle⟩;simp_all[World.cell?,RZ]
  .rw[Ar om]at hk;obtain⟨y,hy,ry⟩:=hx.get _ _ hk;refine⟨y,?_,ry.mono hle⟩;have:=ZF arr (o+n*s) xs ab _ y hy;grind
theorem Mem.Ej(h:Mem c w L I J){s:Nat}{rows:List (List V)}{x0:Value}(hi:I[i]?=some (.app n s))(dD:J[i]?=some x0)(hs:0<s)(hu:eU s rows)(hx:bP (cM w L) rows.flatten xs)(ae:n<rows.length)(dG:rows.length<=cap)(af:cap*s<=arr.size)(ah:∀(k:Nat)x,xs[k]?=some x->arr[k]?=some x):Mem c (w.alloc (.cells arr T)) (xQ L w.heap.size (rows.length*s)) (I.set i (.app rows.length s)) (J.set i (.slice (some ⟨w.heap.size,0,none⟩) rows.length cap))/\Le w L (w.alloc (.cells arr T)) (xQ L w.heap.size (rows.length*s))/\Ext I J (I.set i (.app rows.length s)) (J.set i (.slice (some ⟨w.heap.size,0,none⟩) rows.length cap))/\cM (w.alloc (.cells arr T)) (xQ L w.heap.size (rows.length*s)) (.sl .ro rows) (.slice (some ⟨w.heap.size,0,none⟩) rows.length cap):=by
 obtain⟨h1,hle⟩:=h.alloc (.cells arr T) (rows.length*s);have ai:∀a,x0≠.pointer a:=by intro a e;subst e;obtain⟨_,_,e,_⟩:=h.dE i _ _ hi dD;cases e
 have aa:Ext I J (I.set i (.app rows.length s)) (J.set i (.slice (some ⟨w.heap.size,0,none⟩) rows.length cap)):=by refine⟨(by grind),(by grind),(by grind),(by grind)⟩;all_goals grind
 refine⟨?_,hle,aa,?_⟩
 .refine h1.ft i _ _ (Le.refl _ _) aa (λk=>k=w.heap.size) (λj o' x' k hj ab ad hk e=>?_) (λk e=>by subst e;exact .inl h.size) sM rfl rfl rfl rfl h1.lim ?_ (λk hk=>?_);.have:=(h.dE j o' x' ab ad).fh hk;omega
  .refine⟨_,cap,rfl,dG,hs,λhl=>⟨_,0,_,T,(0,0),rfl,yM _ _,λq _ hq=>om,om,by simp[xQ]⟩⟩
  grind[dt]
 .exact .k9 hs hu (by simp[xQ]) dG sM sM (yM _ _) (by grind) (hx.imp (by grind[cM.mono]))
theorem Mem.qN(h:Mem c w L I J){s:Nat}{rows:List (List V)}(hs:0<s)(hu:eU s rows)(hx:bP (cM w L) rows.flatten xs)(dG:rows.length<=cap)(ad:cap*s<=arr.size)(ae:∀(k:Nat)x,xs[k]?=some x->arr[k]?=some x):Mem c (w.alloc (.cells arr T)) (xQ L w.heap.size (rows.length*s)) (I++[.app rows.length s]) (J++[.slice (some ⟨w.heap.size,0,none⟩) rows.length cap])/\Le w L (w.alloc (.cells arr T)) (xQ L w.heap.size (rows.length*s))/\cM (w.alloc (.cells arr T)) (xQ L w.heap.size (rows.length*s)) (.sl .ro rows) (.slice (some ⟨w.heap.size,0,none⟩) rows.length cap):=by
 obtain⟨h1,hle⟩:=h.alloc (.cells arr T) (rows.length*s);refine⟨?_,hle,?_⟩
 .refine h1.push _ _ ⟨_,cap,rfl,dG,hs,λhl=>⟨_,0,_,T,(0,0),rfl,yM _ _,λq _ hq=>om,om,by simp[xQ]⟩⟩ (λj o' x' k aa ab hk e=>?_) (λk hk=>?_);.have:=(h.dE j o' x' aa ab).fh hk;grind[dt]
  .simp[dt]at hk;rw[<-hk.2];exact .inl h.size
 .exact .k9 hs hu (by simp[xQ]) dG sM sM (yM _ _) (by grind) (hx.imp (by grind[cM.mono]))
theorem Mem.own(h:Mem c w L I J){s:Nat}{a:Option Addr}(hs:0<s):Mem c w L (I++[.app n s]) (J++[.slice a n n]):=by
 refine h.push _ _ ⟨a,n,rfl,om,hs,om⟩ (λj o' x' k _ _ _=>?_) (λk hk=>?_);.cases a<;>simp[dt]
 .cases a<;>simp[dt]at hk
theorem ZG(cells vs:List V)(off i:Nat)(h:off<=cells.length):(putCells cells off vs)[i]?=if off<=i/\i<off+vs.length then vs[i-off]?else cells[i]?:=by unfold putCells;grind
theorem ZH(cells vs:List V)(off:Nat)(h:off<=cells.length):(putCells cells off vs).length=max cells.length (off+vs.length):=by grind[putCells]
theorem Ext.tO{s:Nat}{rows:List (List V)}{x y:Value}(hi:I[i]?=some (.cv rows s))(hl:J.length=I.length)(dD:J[i]?=some x)(hx:∀a,x≠.pointer a)(ab:rows.length<=cI.length)(aa:cI.length=rows.length->y=x):Ext I J (I.set i (.cv cI s)) (J.set i y):=by have ad:i<I.length:=(by grind);refine⟨(by grind),(by grind),(by grind),(by grind)⟩;all_goals grind
theorem Mem.gI(h:Mem c w L I J){s b off:Nat}{rows:List (List V)}{vs:List V}(hi:I[i]?=some (.cv rows s))(dD:J[i]?=some (.slice (some ⟨b,0,none⟩) n cap))(dG:0<cap)(hv:bP (dy w L I J) vs xs)(au:off<=rows.length*s)(ae:eU s cI)(hr:cI.flatten=putCells rows.flatten off vs)(ai:rows.length<=cI.length)(ab:cI.length<=cap):∃arr T fz,w.heap[b]?=some (.cells arr T fz)/\sS arr fz/\off+xs.length<=arr.size/\Mem c (yG w b (.cells (yH arr off xs) T fz)) L (I.set i (.cv cI s)) (J.set i (.slice (some ⟨b,0,none⟩) cI.length cap))/\Le w L (yG w b (.cells (yH arr off xs) T fz)) L/\Ext I J (I.set i (.cv cI s)) (J.set i (.slice (some ⟨b,0,none⟩) cI.length cap)):=by
 obtain⟨a,av,e,aj,hs,hu,cZ⟩:=h.dE i _ _ hi dD;cases e;obtain⟨b',arr,T,fz,e,hh,hf,ax,hL,af⟩:=cZ dG;cases e;have ak:b<w.heap.size:=(by grind);have ay:i<I.length:=(by grind);have az:=yE hu;have aw:=yE ae;have a1:=hv.length;have al:cI.length*s=max (rows.length*s) (off+vs.length):=by grind[ZH]
 have a6:cI.length*s<=cap*s:=Ak _ ab;have ad:off+xs.length<=arr.size:=om;have hle:Le w L (yG w b (.cells (yH arr off xs) T fz)) L:=by
  refine⟨om,λk q hq=>?_⟩;by_cases e:k=b;.grind
  .exact Ei (vG w b k _ e) q
 have aa:Ext I J (I.set i (.cv cI s)) (J.set i (.slice (some ⟨b,0,none⟩) cI.length cap)):=Ext.tO hi h.len dD sM ai sM;refine⟨arr,T,fz,hh,hf.1,ad,?_,hle,aa⟩;refine h.ft i _ _ hle aa (λk=>k=b) (λj o' x' k hj an ao hk e=>by subst e;exact h.apart j i o' _ x' _ k hj an ao hi dD hk (by simp[dt,dG])) (λk e=>by subst e;exact h.gA i _ _ k hi dD (by simp[dt,dG])) (λk hk=>⟨vG w b k _ hk,rfl⟩) (by simp[yG]) rfl rfl rfl h.lim ?_ (λk hk=>?_)
 .refine⟨_,cap,rfl,ab,hs,ae,λ_=>⟨b,_,T,fz,rfl,xL _ _ _ ak,hf.size (by rw[yK]),by rw[yK];omega,hL,?_⟩⟩;refine bP.of ?_ λk p y hp hy=>?_
  .have a7:(yH arr off xs).toList.length=arr.size:=by simp[yK]
   grind
  .have aq:k<cI.length*s:=by grind
   rw[An,alq aq,Ao,wV _ _ _ _ ad]at hy;rw[hr,ZG _ _ _ _ om]at hp;by_cases ah:off<=k/\k<off+vs.length;.rw[alq ah]at hp;rw[alq om]at hy;obtain⟨z,hz,r⟩:=hv.get _ _ hp;rw[hy]at hz;cases hz;exact r.mono hle aa
   .rw[alp ah]at hp;rw[alp om]at hy;obtain⟨z,hz,r⟩:=af.get _ _ hp;have ar:k<rows.length*s:=om;rw[An,alq ar,Ao,hy]at hz;cases hz;exact r.mono hle aa
 .simp[dt,dG]at hk;omega
theorem Kx(h:Mem c w L I J):xQ L w.heap.size 0=L:=by
 funext k;by_cases hk:k=w.heap.size;.subst hk;simp[xQ,h.lim _ (A7 _)]
 grind[xQ]
theorem Mem.mL(h:Mem c w L I J){s:Nat}{rows:List (List V)}(hs:0<s)(hu:eU s rows)(hx:bP (dy w L I J) rows.flatten (arr.toList.take (rows.length*s)))(dG:rows.length<=cap)(ab:cap*s<=arr.size):Mem c (w.alloc (.cells arr T)) L (I++[.cv rows s]) (J++[.slice (some ⟨w.heap.size,0,none⟩) rows.length cap])/\Le w L (w.alloc (.cells arr T)) L/\Ext I J (I++[.cv rows s]) (J++[.slice (some ⟨w.heap.size,0,none⟩) rows.length cap]):=by
 have h1:=h.alloc (.cells arr T) 0;rw[Kx h]at h1;have aa:=Ext.push I J h.len (.cv rows s) (.slice (some ⟨w.heap.size,0,none⟩) rows.length cap);refine⟨h1.1.push _ _ ⟨_,cap,rfl,dG,hs,hu,λ_=>⟨_,arr,T,(0,0),rfl,yM _ _,RU _ _,ab,h.lim _ om,hx.imp (by grind[dy.mono])⟩⟩ (λj o' x' k ad ae hk e=>?_) (λk hk=>?_),h1.2,aa⟩;.have:=(h.dE j o' x' ad ae).fh hk;grind[dt]
 .simp[dt]at hk;rw[<-hk.2];exact .inl h.size
theorem Mem.tP(h:Mem c w L I J){s:Nat}{rows:List (List V)}{fz:Nat×Nat}(ab:gi s arr fz)(hs:0<s)(hu:eU s rows)(hx:bP (dy w L I J) rows.flatten (arr.toList.take (rows.length*s)))(dG:rows.length<=cap)(ad:cap*s<=arr.size):Mem c (w.alloc (.cells arr T fz)) L (I++[.cv rows s]) (J++[.slice (some ⟨w.heap.size,0,none⟩) rows.length cap])/\Le w L (w.alloc (.cells arr T fz)) L/\Ext I J (I++[.cv rows s]) (J++[.slice (some ⟨w.heap.size,0,none⟩) rows.length cap]):=by
 have h1:=h.alloc (.cells arr T fz) 0;rw[Kx h]at h1;have aa:=Ext.push I J h.len (.cv rows s) (.slice (some ⟨w.heap.size,0,none⟩) rows.length cap);refine⟨h1.1.push _ _ ⟨_,cap,rfl,dG,hs,hu,λ_=>⟨_,arr,T,fz,rfl,yM _ _,ab,ad,h.lim _ om,hx.imp (by grind[dy.mono])⟩⟩ (λj o' x' k ae af hk e=>?_) (λk hk=>?_),h1.2,aa⟩;.have:=(h.dE j o' x' ae af).fh hk;grind[dt]
 .simp[dt]at hk;rw[<-hk.2];exact .inl h.size
theorem Mem.mM(h:Mem c w L I J){s:Nat}{a:Option Addr}(hs:0<s):Mem c w L (I++[.cv [] s]) (J++[.slice a 0 0]):=by
 refine h.push _ _ ⟨a,0,rfl,sM,hs,sM,om⟩ (λj o' x' k _ _ _=>?_) (λk hk=>?_);.cases a<;>simp[dt]
 .cases a<;>simp[dt]at hk
theorem Mem.qP(h:Mem c w L I J){s:Nat}{rows:List (List V)}{x0:Value}(hi:I[i]?=some (.cv rows s))(dD:J[i]?=some x0)(hs:0<s)(hu:eU s cI)(hx:bP (dy w L I J) cI.flatten (arr.toList.take (cI.length*s)))(af:rows.length<cI.length)(dG:cI.length<=cap)(ab:cap*s<=arr.size):Mem c (w.alloc (.cells arr T)) L (I.set i (.cv cI s)) (J.set i (.slice (some ⟨w.heap.size,0,none⟩) cI.length cap))/\Le w L (w.alloc (.cells arr T)) L/\Ext I J (I.set i (.cv cI s)) (J.set i (.slice (some ⟨w.heap.size,0,none⟩) cI.length cap)):=by
 obtain⟨h1,hle⟩:=h.alloc (.cells arr T) 0;rw[Kx h]at h1 hle;have aa:Ext I J (I.set i (.cv cI s)) (J.set i (.slice (some ⟨w.heap.size,0,none⟩) cI.length cap)):=Ext.tO hi h.len dD (λa e=>by subst e;obtain⟨_,_,e,_⟩:=h.dE i _ _ hi dD;cases e) om om;refine⟨?_,hle,aa⟩;refine h1.ft i _ _ (Le.refl _ _) aa (λk=>k=w.heap.size) (λj o' x' k hj ad ae hk e=>?_) (λk e=>by subst e;exact .inl h.size) sM rfl rfl rfl rfl h1.lim ?_ (λk hk=>?_);.have:=(h.dE j o' x' ad ae).fh hk;omega
 .exact⟨_,cap,rfl,dG,hs,hu,λ_=>⟨_,arr,T,(0,0),rfl,yM _ _,RU _ _,ab,h.lim _ om,hx.imp (by grind[dy.mono])⟩⟩
 grind[dt]
end
structure ez(c:Ctx)(nt:Nat)(e:Env)(I:St)(a:Act)(w:World)(L:Nat->Nat)(J:alY):Prop where
 mem:Mem c w L I J
 size:a.tmps.size=nt
 defs:a.defers=[]env:∀t,dP w L I J (e t) (a.tmps.getD t undef)
variable {L:Nat->Nat}
def jE:Value->V |.bool b=>.bool b|.int k n=>.int k n|.string s=>.str s.data.toList|.pointer none=>.gv|.slice none 0 0=>.sl .full []|.agg _=>.u|.tuple _=>.u|v=>.raw v
def R1(g:Nat):V:=match gh.find? (λp=>p.1==g)with |some p=>.pG p.2 0|none=>.u
def zI(e:Env):Operand->V |.tmp t=>e t|.const v=>jE v|.func f=>.fn f []|.global g=>R1 g
def AQ:V->Bool|.u|.agg _|.cC _=>false|_=>true
theorem ZI{w:World}{I:St}{J:alY}(v:Value):dP w L I J (jE v) v:=by
 unfold jE;split;.exact cM.bool _
 .exact cM.int _ _
 .rename_i s;have:cM w L (.str s.data.toList) (.string ⟨s.data.toList.toArray⟩):=.str _;simpa
 .exact cM.gv
 .exact cM.jI _ _ _ om sM
 .trivial
 .trivial
 .rename_i h1 h2 h3 h4 h5 h6 h7;refine cM.raw v ?_;cases v<;>first|rfl|exact(by grind)|exact(by grind)
theorem H4{w:World}(v:Value)(h1:v.oneCell'):cM w L (jE v) v/\AQ (jE v)=true:=by
 unfold jE;split;.exact⟨cM.bool _,rfl⟩
 .exact⟨cM.int _ _,rfl⟩
 .rename_i s;have:cM w L (.str s.data.toList) (.string ⟨s.data.toList.toArray⟩):=.str _;trivial
 .exact⟨cM.gv,rfl⟩
 .exact⟨cM.jI _ _ _ om sM,rfl⟩
 .trivial
 .trivial
 .exact⟨cM.raw _ h1,rfl⟩
theorem ez.eval{c:Ctx}{nt:Nat}{e:Env}{I:St}{a:Act}{w:World}{J:alY}(h:ez c nt e I a w L J)(x:Operand):dP w L I J (zI e x) (a.eval x):=by cases x with |tmp t=>exact h.env t|const v=>exact ZI v|func f=>exact⟨[],rfl,tV⟩|global g=>trivial
inductive R where|fail|ok(v:V)|eP(p:Prop)(v:V)|st(v:V)(I:St)|dR(p:Prop)(v:V)(I:St)|all(f:Bool->V)|any(l:List (V×St))
section tables
variable (P:Program)
def eJ(t:TypeId):am2:=(P.info? t).map (·.size)
def Ny:TypeDesc->Bool|.struct _|.array _ _=>true|_=>false
def cQ(t:TypeId):Option Bool:=(P.underlying t).map Ny
def cu(t:TypeId)(f:Nat):Option (Nat×Nat×Bool):=match P.underlying t with |some (.struct fs)=>(fs[f]?).bind λf=>(eJ P f.type).bind λs=>(cQ P f.type).bind λb=>if s=0then none else some (f.offset,s,b)|_=>none
def fm(t:TypeId):am2:=match P.underlying t with |some (.slice e)=>eJ P e|_=>none
def ja(t:TypeId):Option (Nat×Nat×Bool):=match P.underlying t with |some (.array n e)=>(eJ P e).bind λs=>(cQ P e).map λb=>(n,s,b)|_=>none
def xF(t:TypeId):Option (List V):=(P.info? t).bind λi=>(i.zero).bind λz=>if z.cells.all (·.oneCell')=true then some (z.cells.toList.map jE)else none
def eV(t:TypeId):Option (Nat×Nat):=match P.underlying t with |some (.slice e)=>(P.info? e).bind λi=>i.zero.bind λz=>if z.cells.size=i.size/\0<i.size/\0<i.bytes then some (i.size,i.bytes)else none|_=>none
inductive Kd where|int(k:IntKind)|str|bytes|other deriving DecidableEq
def j9(t:TypeId):Option Kd:=match P.underlying t with |some (.int k)=>some (.int k)|some .string=>some .str|some (.slice e)=>(match P.underlying e with|some (.int .u8)=>some .bytes|_=>some .other)|some _=>some .other|none=>none
end tables
def o7:V->Bool|.bool _|.int _ _|.str _|.raw _|.gv|.sl _ _=>true|_=>false
def lS:V->V|.sl _ rows=>.sl .ro rows|v=>v
def xT:V->List V|.agg cs=>cs|v=>[v]
theorem cM.lT{w:World}{L:Nat->Nat}{g:Tag}{rows:List (List V)}{x:Value}(r:cM w L (.sl g rows) x):cM w L (.sl .ro rows) x:=by cases r with |jI _ a cap hg ha=>exact .jI _ a cap sM sM|sl _ _ s b o cap c ha hs hlen fD dG hg hc hr=>exact .sl _ rows s b o cap c sM hs hlen fD dG sM hc hr
theorem dy.lS{w:World}{L:Nat->Nat}{I:St}{J:alY}{v:V}{x:Value}(r:dy w L I J v x)(h:o7 v):cM w L (lS v) x:=by cases v with
 |sl g rows=>cases g with |ro=>exact r|full=>exact cM.lT r|app id=>exact r.1
 |u=>trivial|ptr _ _=>trivial|pG _ _=>trivial|cS _ _ _ _ _=>trivial|jk _ _ _ _ _=>trivial|kF _ _ _ _=>trivial|mp _=>trivial|fn _ _=>trivial|iw _ _=>trivial|agg _=>trivial|cC _=>trivial|bool b=>exact r|int k n=>exact r|str s=>exact r|raw v=>exact r|gv=>exact r
section inv
variable{w:World}{L:Nat->Nat}{I:St}{J:alY}
variable {x:Value}
theorem qQ{b:Bool}(r:dP w L I J (.bool b) x):x=.bool b:=by cases r;rfl
theorem yQ{k:IntKind}{n:Int}(r:dP w L I J (.int k n) x):x=.int k n:=by cases r;rfl
theorem lU{s:alW}(r:dP w L I J (.str s) x):x=.string ⟨s.toArray⟩:=by cases r;rfl
theorem Nz(r:dP w L I J .gv x):x=.pointer none:=by cases r;rfl
theorem tQ{g:Tag}{rows:List (List V)}(r:dP w L I J (.sl g rows) x):cM w L (.sl .ro rows) x:=by cases g with |ro=>exact r|full=>exact cM.lT r|app id=>exact r.1
theorem ZJ{v:V}(r:dP w L I J v x)(h:AQ v):dy w L I J v x:=by cases v<;>first|exact r|simp[AQ]at h
theorem H5(h:x.oneCell'):x.cells=#[x]:=by cases x<;>first|rfl|simp[Value.oneCell']at h
def nU:V->Bool|.u|.cC _=>false|_=>true
theorem Ek{v:V}(r:dP w L I J v x)(h:nU v):bP (dy w L I J) (xT v) x.cells.toList:=by
 by_cases hc:AQ v=true
 .have r':=ZJ r hc;rw[H5 r'.dS];have:xT v=[v]:=by cases v<;>first|rfl|simp[AQ]at hc
  rw[this];trivial
 .cases v with |agg cs=>obtain⟨xs,rfl,h⟩:=r;exact h|u=>trivial|cC vs=>trivial|_=>simp[AQ]at hc
end inv
inductive Pk where|b|i(k:IntKind)|s deriving DecidableEq
def H6(P:Program)(sh:TypeId->Option (List Pk)):Nat->List Field->Option (List Pk) |_,[]=>some []|off,f::fs=>if f.name≠"_"/\f.offset=off then(sh f.type).bind λks=>if eJ P f.type=some ks.length then(H6 P sh (off+ks.length) fs).map (ks++·)else none else none
def xt(P:Program):Nat->TypeId->Option (List Pk) |0,_=>none|d+1,t=>match P.underlying t,cQ P t with |some .bool,some false=>some [.b]|some (.int k),some false=>some [.i k]|some .string,some false=>some [.s]|some (.struct fs),some true=>if P.stoodInHeld t=false then H6 P (xt P d) 0 fs.toList else none|_,_=>none
def ka:Pk->V->V->Option Bool |.b,.bool x,.bool y=>some (x==y)|.i k,.int k1 x,.int k2 y=>if k1=k/\k2=k then some (x==y)else none|.s,.str x,.str y=>some (x==y)|_,_,_=>none
def lV:List Pk->List V->List V->Option Bool |[],[],[]=>some true|k::ks,a::az,b::bs=>(ka k a b).bind λr=>(lV ks az bs).map (r&&·)|_,_,_=>none
def iz:Pk->Value->Value->Option Bool |.b,.bool x,.bool y=>some (x==y)|.i k,.int k1 x,.int k2 y=>if k1=k/\k2=k then some (x==y)else none|.s,.string x,.string y=>some (x==y)|_,_,_=>none
def jm:List Pk->alY->alY->Option Bool |[],[],[]=>some true|k::ks,a::az,b::bs=>(iz k a b).bind λr=>(jm ks az bs).map (r&&·)|_,_,_=>none
def kZ(P:Program)(t:TypeId):Option (List Pk):=match P.underlying t with|some (.struct _)=>if P.eqGuardType P.depth t=false then xt P 10 t else none|_=>none
section
variable{P:Program}{c:Ctx}{w:World}{L:Nat->Nat}{I:St}{J:alY}
variable{t:TypeId}{x:Value}{y:Value}{r:Bool}
theorem ZK{s:Nat}(h:eJ P t=some s):∃i,P.info? t=some i/\i.size=s:=by unfold eJ at h;simp_all
theorem pI{s:Nat}(h:eJ P t=some s)(w:World):(sizeOf t).run P w=.ok s w:=by obtain⟨i,hi,rfl⟩:=ZK h;simp_all[sizeOf,typeInfo]
theorem vH{b:Bool}(h:cQ P t=some b)(w:World):(isAgg t).run P w=.ok b w:=by unfold cQ at h;cases hu:P.underlying t with |none=>grind|some d=>simp[hu]at h;subst h;simp only[isAgg,Sem.run_bind,run_underlying hu,Result.andThen_ok,Ny];cases d<;>rfl
theorem NA:∀(ks:List Pk)(az bs:alY)(r:Bool),jm ks az bs=some r->az.length=ks.length/\bs.length=ks.length
 |[],[],[],_,_=>om|k::ks,a::az,b::bs,r,h=>by unfold jm at h;cases h1:iz k a b with |none=>rw[h1]at h;cases h|some r1=>rw[h1]at h;simp only[Av,As]at h;obtain⟨r2,h2,_⟩:=h;have:=NA ks az bs r2 h2;simp[this.1,this.2]
 |[],[],_::_,_,h=>by cases h|[],_::_,_,_,h=>by cases h|_::_,[],_,_,h=>by cases h|_::_,_::_,[],_,h=>by cases h
theorem R2:∀(ks aa:List Pk)(az bs:alY)(r:Bool),jm (ks++aa) az bs=some r->∃r1 r2,jm ks (az.take ks.length) (bs.take ks.length)=some r1/\jm aa (az.drop ks.length) (bs.drop ks.length)=some r2/\r=(r1&&r2)
 |[],aa,az,bs,r,h=>(by grind[jm])|k::ks,aa,a::az,b::bs,r,h=>by rw[Bk]at h;unfold jm at h;cases h1:iz k a b with |none=>grind|some r0=>rw[h1]at h;simp only[Av,As]at h;obtain⟨r',h2,rfl⟩:=h;obtain⟨r1,r2,h3,h4,rfl⟩:=R2 ks aa az bs r' h2;refine⟨r0&&r1,r2,?_,by grind,by grind⟩;grind[jm]
 |_::_,_,[],_,_,h=>by cases h|_::_,_,_::_,[],_,h=>by cases h
theorem NB:∀(ks:List Pk)(vs ws:List V)(xs ys:alY)(r:Bool),bP (dy w L I J) vs xs->bP (dy w L I J) ws ys->lV ks vs ws=some r->jm ks xs ys=some r
 |[],[],[],[],[],r,_,_,h=>h|k::ks,v::vs,v2::us,x::xs,y::ys,r,h1,h2,h=>by unfold lV at h;cases hk:ka k v v2 with |none=>grind|some r0=>
   rw[hk]at h;simp only[Av,As]at h;obtain⟨r',h3,rfl⟩:=h;have ih:=NB ks vs us xs ys r' h1.2 h2.2 h3;have hp:iz k x y=some r0:=by
    have hx:=h1.1;have hy:=h2.1;unfold ka at hk;split at hk;.cases hx;cases hy;exact hk
    .cases hx;cases hy;exact hk
    .cases hx;cases hy;rename_i a b;rw[<-hk];simp only[iz,alu];show(a.toArray==b.toArray)=(a==b);simp
    grind
   grind[jm] |[],[],[],[],_::_,_,_,h2,_=>h2.elim|[],[],[],_::_,_,_,h1,_,_=>h1.elim|[],[],_::_,_,_,_,_,_,h=>by cases h|[],_::_,_,_,_,_,_,_,h=>by cases h|_::_,[],_,_,_,_,_,_,h=>by cases h|_::_,_::_,[],_,_,_,_,_,h=>by cases h|_::_,_::_,_::_,[],_,_,h1,_,_=>h1.elim|_::_,_::_,_::_,_::_,[],_,_,h2,_=>h2.elim
def pJ(P:Program)(t:TypeId)(x:Value):Prop:=if cQ P t=some true then∃xs,x=.agg xs else x.oneCell'=true
theorem R3{ks:List Pk}{b:Bool}(hs:eJ P t=some ks.length)(ha:cQ P t=some b)(h1:b=false->ks.length=1)(cs:am0)(off:Nat)(hl:off+ks.length<=cs.size)(aa:∀x∈cs.toList,x.oneCell'):∃x,(part t cs off).run P w=.ok x w/\pJ P t x/\x.cells.toList=(cs.toList.drop off).take ks.length:=by cases b with
 |true=>
  refine⟨.agg (cs.extract off (off+ks.length)),?_,?_,?_⟩;.simp_all[part,vH,pI]
  .unfold pJ;grind
  grind[Value.cells,Array.toList_extract]|false=>have hk:=h1 rfl;have ab:off<cs.size:=om;simp_all[part,vH,pJ,H5,A4]
theorem ZL{d:Nat}{ks:List Pk}(h:xt P d t=some ks):∃b,cQ P t=some b/\(b=false->ks.length=1):=by cases d with |zero=>cases h|succ d=>unfold xt at h;grind
theorem ZM(h:iz .b x y=some r):∃a b,x=.bool a/\y=.bool b/\r=(a==b):=by
 cases x<;>first|(simp[iz]at h;done)|skip
 cases y<;>first|(simp[iz]at h;done)|skip
 simp[iz]at h;grind
theorem ZN{k:IntKind}(h:iz (.i k) x y=some r):∃a b,x=.int k a/\y=.int k b/\r=(a==b):=by
 cases x<;>first|(simp[iz]at h;done)|skip
 cases y<;>first|(simp[iz]at h;done)|skip
 simp[iz]at h;simp_all
theorem ZO(h:iz .s x y=some r):∃a b,x=.string a/\y=.string b/\r=(a==b):=by
 cases x<;>first|(simp[iz]at h;done)|skip
 cases y<;>first|(simp[iz]at h;done)|skip
 simp only[iz,alu]at h;grind
theorem NC:∀(d:Nat)(t:TypeId)(ks:List Pk),xt P d t=some ks->∀(D:Nat),d<=D->∀(x y:Value)(r:Bool),pJ P t x->pJ P t y->(∀z∈x.cells.toList,z.oneCell'=true)->(∀z∈y.cells.toList,z.oneCell'=true)->jm ks x.cells.toList y.cells.toList=some r->∀w,(Op.equalIn D t x y).run P w=.ok r w
 |0,_,_,h=>by cases h|d+1,t,ks,h=>by
  intro D hD x y r hx hy ab ae he w;obtain⟨D,rfl⟩:∃D',D=D'+1:=(by simp;omega);have aa:∀k,ks=[k]->cQ P t=some false->∃r',iz k x y=some r'/\r=r':=by intro k hk ha;unfold pJ at hx hy;rw[alp (by rw[ha];simp)]at hx hy;rw[H5 hx,H5 hy,hk]at he;simp only[jm]at he;simp_all
  unfold xt at h;split at h;.rename_i hu ha;simp at h;obtain⟨r',hp,rfl⟩:=aa .b h.symm ha;obtain⟨m,n,rfl,rfl,rfl⟩:=ZM hp;simp[Op.equalIn,run_underlying hu]
  .rename_i k hu ha;simp at h;obtain⟨r',hp,rfl⟩:=aa (.i k) h.symm ha;obtain⟨m,n,rfl,rfl,rfl⟩:=ZN hp;simp[Op.equalIn,run_underlying hu]
  .rename_i hu ha;simp at h;obtain⟨r',hp,rfl⟩:=aa .s h.symm ha;obtain⟨m,n,rfl,rfl,rfl⟩:=ZO hp;simp[Op.equalIn,run_underlying hu]
  .rename_i fs hu ha;split at h
   .rename_i ai;unfold pJ at hx hy;rw[alq ha]at hx hy;obtain⟨xs,rfl⟩:=hx;obtain⟨ys,rfl⟩:=hy;have af:P.fieldsOf t=fs:=by grind[Program.fieldsOf]
    rw[run_equalIn_struct (P:=P) (w:=w) D t xs ys (by rw[af];exact hu) ai,af];simp only[Value.cells]at he ab ae;have key:∀(l:List Field)(off:Nat)(ks:List Pk)(r:Bool),H6 P (xt P d) off l=some ks->jm ks (xs.toList.drop off) (ys.toList.drop off)=some r->(Op.eqFields D xs ys l).run P w=.ok r w:=by intro l;induction l with |nil=>intro off ks r hk hr;simp[H6]at hk;subst hk;have:=NA _ _ _ _ hr;have h1:xs.toList.drop off=[]:=(by grind);have h2:ys.toList.drop off=[]:=(by grind);simp_all[jm,Op.eqFields]|cons f l ih=>
      intro off ks r hk hr;unfold H6 at hk;split at hk;.rename_i hf;cases ad:xt P d f.type with |none=>grind|some k1=>
        rw[ad]at hk;simp only[Av]at hk;split at hk
        .rename_i aj;simp only[As]at hk;obtain⟨k2,ak,rfl⟩:=hk;have hlen:=NA _ _ _ _ hr;simp only[D9,Al,Cv]at hlen;obtain⟨r1,r2,h1,h2,rfl⟩:=R2 k1 k2 _ _ _ hr;obtain⟨b,al,an⟩:=ZL ad;have aq:0<k1.length\/k1.length=0:=om;have ao:off+k1.length<=xs.size/\off+k1.length<=ys.size\/k1.length=0/\b:=by grind
         have parts:∃a b',(part f.type xs off).run P w=.ok a w/\(part f.type ys off).run P w=.ok b' w/\pJ P f.type a/\pJ P f.type b'/\a.cells.toList=(xs.toList.drop off).take k1.length/\b'.cells.toList=(ys.toList.drop off).take k1.length:=by
          rcases ao with⟨q1,q2⟩|⟨q,rfl⟩;.obtain⟨a,p1,p2,p3⟩:=R3 (w:=w) aj al an xs off q1 ab;simp_all[R3]
          .refine⟨.agg (xs.extract off (off+k1.length)),.agg (ys.extract off (off+k1.length)),?_,?_,?_,?_,?_,?_⟩;.simp_all[part,vH,pI]
           .simp_all[part,vH,pI]
           .unfold pJ;grind
           .unfold pJ;grind
           all_goals grind[Value.cells,Array.toList_extract]
         obtain⟨a,b',p1,p2,f1,f2,c1,c2⟩:=parts;have ah:=NC d f.type k1 ad D om a b' r1 f1 f2 (by rw[c1];exactλz hz=>ab z (Bz (B6 hz))) (by rw[c2];exactλz hz=>ae z (Bz (B6 hz))) (by rw[c1,c2];exact h1) w;have ar:=ih (off+k1.length) k2 r2 ak (by simpa[alQ]using h2);simp only[Op.eqFields,hf.1,ne_eq,not_false_eq_true,alB,Sem.run_bind,hf.2,p1,p2,ah,Result.andThen_ok];cases r1;all_goals simp_all
        grind
      grind
    grind
   grind
  grind
end
def bT(P:Program)(c:Ctx)(o:Oper)(a:Act)(w:World)(L:Nat->Nat)(I:St)(J:alY)(v:V)(I':St):Prop:=∃x w' L' J',((execOp a.eval o).run P w=.ok (.value x) w'\/((execOp a.eval o).run P w=.ok .skip w'/\x=undef))/\Mem c w' L' I' J'/\Le w L w' L'/\Ext I J I' J'/\dP w' L' I' J' v x
def fG(r:R)(I:St)(Y:V->St->Prop):Prop:=match r with |.fail=>True|.ok v=>Y v I|.eP p v=>p->Y v I|.st v I'=>Y v I'|.dR p v I'=>p->Y v I'|.all f=>∃b,Y (f b) I|.any l=>∃p∈l,Y p.1 p.2
section
variable{P:Program}{c:Ctx}{nt:Nat}{e:Env}{I:St}{a:Act}{w:World}{L:Nat->Nat}{J:alY}{o:Oper}
variable{dst:Option Tmp}{ty:TypeId}{eK:Array Edge}{g:Option (Nat×Bool)}{t:TypeId}{el:TypeId}
theorem bT.pure(h:ez c nt e I a w L J){v:V}{x:Value}(hr:(execOp a.eval o).run P w=.ok (.value x) w)(r:dP w L I J v x):bT P c o a w L I J v I:=⟨x,w,L,J,.inl hr,h.mem,Le.refl _ _,Ext.refl _ _,r⟩
def AR(b x y:V):R:=match b with |.bool t=>.ok (if t then x else y)|_=>.fail
theorem ZP{pos:String}(x y z:Operand)(h:ez c nt e I a w L J):fG (AR (zI e x) (zI e y) (zI e z)) I (bT P c ⟨dst,.pick x y z,ty,pos,eK,g⟩ a w L I J):=by
 have hx:=h.eval x;unfold AR;split
 .rename_i b hb;rw[hb]at hx;have:=qQ hx;refine bT.pure h (x:=if b then a.eval y else a.eval z) (by simp_all[execOp,asBool]) ?_;cases b;.exact h.eval z
  .exact h.eval y
 trivial
theorem ZQ{pos:String}(x:Operand)(h:ez c nt e I a w L J):fG (.ok (zI e x)) I (bT P c ⟨dst,.move x,ty,pos,eK,g⟩ a w L I J):=bT.pure h (by rfl) (h.eval x)
theorem ZR{pos:String}(x:Operand)(h:ez c nt e I a w L J):fG (.ok (zI e x)) I (bT P c ⟨dst,.assign x,ty,pos,eK,g⟩ a w L I J):=bT.pure h (by rfl) (h.eval x)
def AS(x:V):R:=match x with |.ptr id off=>.ok (.ptr id off)|.pG cs off=>.ok (.pG cs off)|.jk id s n k j=>.ok (.jk id s n k j)|.fn f cd=>.ok (.fn f cd)|_=>.fail
theorem ZS{pos:String}(x:Operand)(h:ez c nt e I a w L J):fG (AS (zI e x)) I (bT P c ⟨dst,.nilCheck x,ty,pos,eK,g⟩ a w L I J):=by
 have hx:=h.eval x;unfold AS;split;.rename_i id off hb;rw[hb]at hx;obtain⟨b,_,hv⟩:=hx;exact bT.pure h (x:=a.eval x) (by simp_all[execOp]) (hb▸h.eval x)
 .rename_i cs off hb;rw[hb]at hx;obtain⟨b,o,_,hv,_⟩:=hx;exact bT.pure h (x:=a.eval x) (by simp_all[execOp]) (hb▸h.eval x)
 .rename_i id s n k j hb;rw[hb]at hx;obtain⟨b,o,hv,_⟩:=hx;exact bT.pure h (x:=a.eval x) (by simp_all[execOp]) (hb▸h.eval x)
 .rename_i f cd hb;rw[hb]at hx;obtain⟨xs,hv,_⟩:=hx;exact bT.pure h (x:=a.eval x) (by simp_all[execOp]) (hb▸h.eval x)
 trivial
def jF(op:BinOp)(k:IntKind)(x y:Int):Int:=match op with |.and=>k.wrap (BitVec.ofInt k.bits x&&&BitVec.ofInt k.bits y).toNat|.or=>k.wrap (BitVec.ofInt k.bits x|||BitVec.ofInt k.bits y).toNat|.xor=>k.wrap (BitVec.ofInt k.bits x^^^BitVec.ofInt k.bits y).toNat|_=>k.wrap (BitVec.ofInt k.bits x&&&~~~BitVec.ofInt k.bits y).toNat
def El(op:BinOp)(k:IntKind)(x y:Int):R:=match op with |.add=>.ok (.int k (k.wrap (x+y)))|.sub=>.ok (.int k (k.wrap (x-y)))|.mul=>.ok (.int k (k.wrap (x*y)))|.quo=>.eP (y≠0) (.int k (k.wrap (x.tdiv y)))|.rem=>.eP (y≠0) (.int k (x.tmod y))|.and=>.ok (.int k (jF .and k x y))|.or=>.ok (.int k (jF .or k x y))|.xor=>.ok (.int k (jF .xor k x y))|.andNot=>.ok (.int k (jF .andNot k x y))|.eql=>.ok (.bool (x==y))|.neq=>.ok (.bool (x !=y))|.lss=>.ok (.bool (decide (x<y)))|.leq=>.ok (.bool (decide (x<=y)))|.gtr=>.ok (.bool (decide (x>y)))|.geq=>.ok (.bool (decide (x≥y)))|.shl=>.eP (0<=y) (.int k (k.wrap (x*2^(min y.toNat k.bits))))|.shr=>.eP (0<=y) (.int k (x.fdiv (2^(min y.toNat k.bits))))
def Em(op:BinOp)(x y:alW):R:=match op with |.add=>.eP (x.length+y.length<=9223372036854775807) (.str (x++y))|.eql=>.ok (.bool (x==y))|.neq=>.ok (.bool (!(x==y)))|.lss=>.ok (.bool (Op.bytesLess x y))|.leq=>.ok (.bool (Op.bytesLess x y||x==y))|.gtr=>.ok (.bool (!(Op.bytesLess x y||x==y)))|.geq=>.ok (.bool (!(Op.bytesLess x y)))|_=>.fail
def jl(P:Program)(t:TypeId):Nat:=match P.underlying t with |some .bool=>1|some (.pointer _)=>2|some (.slice _)=>3|_=>0
def H7(op:BinOp)(n:Nat):R:=match op with |.eql=>if 0<n then .ok (.bool false)else .all .bool|.neq=>if 0<n then .ok (.bool true)else .all λb=>.bool (!b)|_=>.fail
def En:V->am2|.sl _ rows=>some rows.length|.cS _ _ _ _ m=>some m|_=>none
def nG(op:BinOp)(ek:Nat)(es:Option (List Pk))(x y:V):R:=match x,y with |.int k a,.int k' b=>if k=k' then El op k a b else(match op with|.shl=>.eP (0<=b) (.int k (k.wrap (a*2^(min b.toNat k.bits))))|.shr=>.eP (0<=b) (.int k (a.fdiv (2^(min b.toNat k.bits))))|_=>.fail)|.str a,.str b=>Em op a b|.bool a,.bool b=>if ek=1then(match op with|.eql=>.ok (.bool (a==b))|.neq=>.ok (.bool (!(a==b)))|_=>.fail)else .fail|.ptr _ _,.gv=>if ek=2then(match op with|.eql=>.ok (.bool false)|.neq=>.ok (.bool true)|_=>.fail)else .fail|.gv,.gv=>if ek=2then(match op with|.eql=>.ok (.bool true)|.neq=>.ok (.bool false)|_=>.fail)else .fail|.agg az,.agg bs=>(match es.bind λks=>lV ks az bs with |some r=>(match op with|.eql=>.ok (.bool r)|.neq=>.ok (.bool (!r))|_=>.fail)|none=>.fail)|_,_=>.fail
def xu(op:BinOp)(ek:Nat)(x:V):R:=if ek=3then(match En x with|some n=>H7 op n|none=>.fail)else .fail
def qR:Operand->Bool |.const (.slice none 0 0)=>true|_=>false
theorem Ky{k k':IntKind}{x y:Int}(op:BinOp)(aa:op=.shl\/op=.shr)(hy:0<=y)(w:World):(Op.shift op k x k' y).run P w=.ok (.int k (if op=.shl then k.wrap (x*2^(min y.toNat k.bits))else x.fdiv (2^(min y.toNat k.bits)))) w:=by have:¬y<0:=om;rcases aa with rfl|rfl<;>simp[Op.shift,this]
theorem ZT{pos:String}(op:BinOp)(t t':TypeId)(x y:Operand)(h:ez c nt e I a w L J){k:IntKind}{m n:Int}(hx:a.eval x=.int k m)(hy:a.eval y=.int k n):fG (El op k m n) I (bT P c ⟨dst,.binOp op t x y t',ty,pos,eK,g⟩ a w L I J):=by
 have run:∀v,(binOp op t (.int k m) (.int k n)).run P w=.ok v w->(execOp a.eval ⟨dst,.binOp op t x y t',ty,pos,eK,g⟩).run P w=.ok (.value v) w:=by simp_all[execOp,eqGuard]
 cases op;case quo=>exactλhn=>bT.pure h (by simp_all[binOp,Op.intDiv]) (cM.int _ _)
 case rem=>exactλhn=>bT.pure h (by simp_all[binOp,Op.intDiv]) (cM.int _ _)
 case shl=>exactλhn=>bT.pure h (run _ (by simp only[binOp];rw[Ky .shl (.inl rfl) hn];simp)) (cM.int _ _)
 case shr=>exactλhn=>bT.pure h (run _ (by simp only[binOp];rw[Ky .shr (.inr rfl) hn];simp)) (cM.int _ _)
 case add=>exact bT.pure h (by simp_all[binOp,Op.intArith]) (cM.int _ _)
 case sub=>exact bT.pure h (by simp_all[binOp,Op.intArith]) (cM.int _ _)
 case mul=>exact bT.pure h (by simp_all[binOp,Op.intArith]) (cM.int _ _)
 case and=>exact bT.pure h (run _ (by simp only[binOp,Op.intBits,ne_eq,alK,alH,Sem.run_pure];rfl)) (cM.int _ _)
 case or=>exact bT.pure h (run _ (by simp only[binOp,Op.intBits,ne_eq,alK,alH,Sem.run_pure];rfl)) (cM.int _ _)
 case xor=>exact bT.pure h (run _ (by simp only[binOp,Op.intBits,ne_eq,alK,alH,Sem.run_pure];rfl)) (cM.int _ _)
 case andNot=>exact bT.pure h (run _ (by simp only[binOp,Op.intBits,ne_eq,alK,alH,Sem.run_pure];rfl)) (cM.int _ _)
 case eql=>exact bT.pure h (by simp_all[binOp,Op.intCmp]) (cM.bool _)
 case neq=>exact bT.pure h (by simp_all[binOp,Op.intCmp]) (cM.bool _)
 case lss=>exact bT.pure h (by simp_all[binOp,Op.intCmp]) (cM.bool _)
 case leq=>exact bT.pure h (by simp_all[binOp,Op.intCmp]) (cM.bool _)
 case gtr=>exact bT.pure h (by simp_all[binOp,Op.intCmp]) (cM.bool _)
 case geq=>exact bT.pure h (by simp_all[binOp,Op.intCmp]) (cM.bool _)
theorem ZU{pos:String}(op:BinOp)(t t':TypeId)(x y:Operand)(h:ez c nt e I a w L J){m n:alW}(hx:a.eval x=.string ⟨m.toArray⟩)(hy:a.eval y=.string ⟨n.toArray⟩):fG (Em op m n) I (bT P c ⟨dst,.binOp op t x y t',ty,pos,eK,g⟩ a w L I J):=by
 have run:∀v,(binOp op t (.string ⟨m.toArray⟩) (.string ⟨n.toArray⟩)).run P w=.ok v w->(execOp a.eval ⟨dst,.binOp op t x y t',ty,pos,eK,g⟩).run P w=.ok (.value v) w:=by simp_all[execOp,eqGuard]
 cases op;case add=>
  intro hn;refine bT.pure h (run (.string ⟨(m++n).toArray⟩) ?_) (cM.str _);have hs:¬((m.length:Int)+(n.length:Int)>9223372036854775807):=om;have ab:∀l:alW,(ByteArray.mk l.toArray).size=l.length:=(by grind[ByteArray.size]);have aa:(ByteArray.mk m.toArray)++(ByteArray.mk n.toArray)=ByteArray.mk (m++n).toArray:=by rfl
  simp_all[binOp,Op.stringOp]
 case eql=>exact bT.pure h (by simp_all[binOp,Op.stringOp]) (cM.bool _)
 case neq=>exact bT.pure h (by simp_all[binOp,Op.stringOp]) (cM.bool _)
 case lss=>exact bT.pure h (by simp_all[binOp,Op.stringOp]) (cM.bool _)
 case leq=>exact bT.pure h (by simp_all[binOp,Op.stringOp]) (cM.bool _)
 case gtr=>exact bT.pure h (by simp_all[binOp,Op.stringOp]) (cM.bool _)
 case geq=>exact bT.pure h (by simp_all[binOp,Op.stringOp]) (cM.bool _)
 all_goals trivial
theorem ND(h:jl P t=1):P.underlying t=some .bool:=by grind[jl]
theorem H8(h:jl P t=2):∃el,P.underlying t=some (.pointer el):=by grind[jl]
theorem ZV(hb:P.underlying t=some .bool)(x y:Bool)(w:World)(d:Nat):(Op.equalIn (d+1) t (.bool x) (.bool y)).run P w=.ok (x==y) w:=by simp[Op.equalIn,run_underlying hb]
theorem ZW(hb:P.underlying t=some (.pointer el))(x:Option Addr)(w:World)(d:Nat):(Op.equalIn (d+1) t (.pointer x) (.pointer none)).run P w=.ok x.isNone w:=by cases x<;>simp[Op.equalIn,run_underlying hb]
theorem R4(hb:P.underlying t=some .bool)(x y:Bool)(w:World):(Op.equal t (.bool x) (.bool y)).run P w=.ok (x==y) w:=ZV hb x y w 9999
theorem Kz(hb:P.underlying t=some (.pointer el))(x:Option Addr)(w:World):(Op.equal t (.pointer x) (.pointer none)).run P w=.ok x.isNone w:=ZW hb x w 9999
theorem ZX{pos:String}(op:BinOp)(t t':TypeId)(x y:Operand)(h:ez c nt e I a w L J):fG (nG op (jl P t) (kZ P t) (zI e x) (zI e y)) I (bT P c ⟨dst,.binOp op t x y t',ty,pos,eK,g⟩ a w L I J):=by
 have hx:=h.eval x;have hy:=h.eval y;unfold nG;split
 .rename_i k m k' n h1 h2;rw[h1]at hx;rw[h2]at hy;have e1:=yQ hx;have e2:=yQ hy;by_cases hk:k=k';.subst hk;rw[alq rfl];grind[ZT]
  .rw[alp hk];split;.exactλhn=>bT.pure h (by simp only[execOp,e1,e2,eqGuard,binOp];simp[Ky .shl (.inl rfl) hn]) (cM.int _ _)
   .exactλhn=>bT.pure h (by simp only[execOp,e1,e2,eqGuard,binOp];simp[Ky .shr (.inr rfl) hn]) (cM.int _ _)
   trivial
 .grind[ZU,lU]
 .rename_i m n h1 h2;rw[h1]at hx;rw[h2]at hy;have e1:=qQ hx;have e2:=qQ hy;split
  .rename_i hb;have ae:=ND hb;split;.exact bT.pure h (by simp_all[execOp,eqGuard,binOp,R4]) (cM.bool _)
   .exact bT.pure h (by simp_all[execOp,eqGuard,binOp,R4]) (cM.bool _)
   trivial
  trivial
 .rename_i id off h1 h2;rw[h1]at hx;rw[h2]at hy;obtain⟨b,_,e1⟩:=hx;have e2:=Nz hy;split
  .rename_i hb;obtain⟨el,ae⟩:=H8 hb;split;.exact bT.pure h (x:=.bool false) (by simp_all[execOp,eqGuard,binOp,Kz]) (cM.bool _)
   .exact bT.pure h (x:=.bool true) (by simp_all[execOp,eqGuard,binOp,Kz]) (cM.bool _)
   trivial
  trivial
 .rename_i h1 h2;rw[h1]at hx;rw[h2]at hy;have e1:=Nz hx;have e2:=Nz hy;split
  .rename_i hb;obtain⟨el,ae⟩:=H8 hb;split;.exact bT.pure h (x:=.bool true) (by simp_all[execOp,eqGuard,binOp,Kz]) (cM.bool _)
   .exact bT.pure h (x:=.bool false) (by simp_all[execOp,eqGuard,binOp,Kz]) (cM.bool _)
   trivial
  trivial
 .rename_i az bs h1 h2;rw[h1]at hx;rw[h2]at hy;obtain⟨xs,e1,r1⟩:=hx;obtain⟨ys,e2,r2⟩:=hy;split;.rename_i r hr;cases aa:kZ P t with |none=>grind|some ks=>
    rw[aa]at hr;simp only[Av]at hr;have af:=NB ks az bs xs ys r r1 r2 hr;unfold kZ at aa;split at aa
    .rename_i fs hu;split at aa
     .rename_i hg;have ha:cQ P t=some true:=by grind[cQ,Ny]
      have o1:∀z∈xs,z.oneCell':=λz hz=>by obtain⟨i,hi⟩:=Aq.1 hz;have hl:=r1.length;obtain⟨y,ab,rr⟩:=r1.get i (az[i]'(by grind)) sM;rw[hi]at ab;cases ab;exact rr.dS
      have o2:∀z∈ys,z.oneCell':=λz hz=>by obtain⟨i,hi⟩:=Aq.1 hz;have hl:=r2.length;obtain⟨y,ab,rr⟩:=r2.get i (bs[i]'(by grind)) sM;rw[hi]at ab;cases ab;exact rr.dS
      have ad:∀z:alY,pJ P t (.agg z.toArray):=λz=>by unfold pJ;grind
      have ah:=NC 10 t ks aa 10000 om (.agg xs.toArray) (.agg ys.toArray) r (ad _) (ad _) (by simpa[Value.cells]using o1) (by simpa[Value.cells]using o2) (by simpa[Value.cells]using af) w;split;.exact bT.pure h (x:=.bool r) (by simp_all[execOp,run_eqGuard_agg,run_eql_struct]) (cM.bool _)
      .exact bT.pure h (x:=.bool (!r)) (by simp_all[execOp,run_eqGuard_agg,run_neq_struct]) (cM.bool _)
      trivial
     grind
    grind
  trivial
 trivial
theorem NF(h:jl P t=3):∃el,P.underlying t=some (.slice el):=by grind[jl]
theorem ZY{y:Operand}(h:qR y):y=.const (.slice none 0 0):=by unfold qR at h;grind
theorem KA(hb:P.underlying t=some (.slice el))(a:Option Addr)(n cap:Nat)(w:World):(Op.equal t (.slice a n cap) (.slice none 0 0)).run P w=.ok a.isNone w:=by
 have key:∀d,(Op.equalIn (d+1) t (.slice a n cap) (.slice none 0 0)).run P w=.ok a.isNone w:=λd=>by cases a<;>simp[Op.equalIn,run_underlying hb]
 exact key 9999
theorem ZZ{pos:String}(op:BinOp)(t t':TypeId)(x y:Operand)(hy:qR y)(h:ez c nt e I a w L J):fG (xu op (jl P t) (zI e x)) I (bT P c ⟨dst,.binOp op t x y t',ty,pos,eK,g⟩ a w L I J):=by
 have hx:=h.eval x;have hy:=ZY hy;subst hy;unfold xu;split
 .rename_i hk;obtain⟨el,hu⟩:=NF hk;split
  .rename_i n hn;have hv:∃ad cap,a.eval x=.slice ad n cap/\(0<n->ad.isNone=false):=by
    unfold En at hn;split at hn;.rename_i gg rows h1;rw[h1]at hx;cases hn;have hr:=tQ hx;clear hx;revert hr;generalize a.eval x=z;intro hr;cases hr<;>simp
    .rename_i id s n' lo m h1;rw[h1]at hx;cases hn;obtain⟨ad,cap,hv,ab,aa,_⟩:=hx;grind
    grind
   obtain⟨ad,cap,hv,hz⟩:=hv;have hc:a.eval (.const (.slice none 0 0))=.slice none 0 0:=rfl;unfold H7;split
   .split;.rename_i h0;exact bT.pure h (x:=.bool false) (by simp_all[execOp,eqGuard,binOp,KA]) (cM.bool _)
    .exact⟨ad.isNone,bT.pure h (x:=.bool ad.isNone) (by simp_all[execOp,eqGuard,binOp,KA]) (cM.bool _)⟩
   .split;.rename_i h0;exact bT.pure h (x:=.bool true) (by simp_all[execOp,eqGuard,binOp,KA]) (cM.bool _)
    .exact⟨ad.isNone,bT.pure h (x:=.bool (!ad.isNone)) (by simp_all[execOp,eqGuard,binOp,KA]) (cM.bool _)⟩
   trivial
  trivial
 trivial
def nV(op:UnOp)(x:V):R:=match op,x with |.not,.bool b=>.ok (.bool (!b))|.neg,.int k n=>.ok (.int k (k.wrap (0-n)))|.xor,.int k n=>.ok (.int k (jF .xor k (if k.signed then-1 else k.max) n))|_,_=>.fail
theorem Z0{pos:String}(op:UnOp)(t:TypeId)(x:Operand)(h:ez c nt e I a w L J):fG (nV op (zI e x)) I (bT P c ⟨dst,.unOp op t x,ty,pos,eK,g⟩ a w L I J):=by
 have hx:=h.eval x;unfold nV;split;.rename_i b h1;rw[h1]at hx;exact bT.pure h (x:=.bool (!b)) (by simp[execOp,qQ hx,Op.unary]) (cM.bool _)
 .rename_i k n h1;rw[h1]at hx;exact bT.pure h (x:=.int k (k.wrap (0-n))) (by simp only[execOp,yQ hx,Op.unary,Op.intArith,Sem.run_bind,Sem.run_pure,Result.andThen_ok]) (cM.int _ _)
 .rename_i k n h1;rw[h1]at hx;exact bT.pure h (x:=.int k (jF .xor k (if k.signed then-1 else k.max) n)) (by simp only[execOp,yQ hx,Op.unary,Op.intBits,Sem.run_bind,Sem.run_pure,Result.andThen_ok];rfl) (cM.int _ _)
 trivial
def AT(x:V)(i:Nat):R:=match x with |.cC vs=>(match vs[i]?with|some v=>.ok v|none=>.fail)|_=>.fail
theorem Z1{pos:String}(x:Operand)(i:Nat)(h:ez c nt e I a w L J):fG (AT (zI e x) i) I (bT P c ⟨dst,.extract x i,ty,pos,eK,g⟩ a w L I J):=by
 have hx:=h.eval x;unfold AT;split
 .rename_i vs h1;rw[h1]at hx;obtain⟨xs,hv,aa⟩:=hx;split;.rename_i v ab;obtain⟨y,hy,r⟩:=aa.get _ _ ab;exact bT.pure h (x:=y) (by simp_all[execOp,Instr.extract]) (dP.lR r)
  trivial
 trivial
def AU(P:Program)(t:TypeId)(x:V)(f:Nat):R:=match cu P t f,x with |some (off,_,_),.ptr id o=>.ok (.ptr id (o+off))|some (off,_,_),.pG cs o=>.ok (.pG cs (o+off))|some (off,_,_),.jk id s n k j=>.ok (.jk id s n k (j+off))|_,_=>.fail
theorem NG{f off s:Nat}{b:Bool}(h:cu P t f=some (off,s,b)):∃fs fd,P.underlying t=some (.struct fs)/\fs[f]?=some fd/\fd.offset=off/\eJ P fd.type=some s/\cQ P fd.type=some b/\s≠0:=by
 unfold cu at h;split at h;.rename_i fs hu;cases hf:fs[f]?with |none=>grind|some fd=>simp only[hf,Av]at h;cases hs:eJ P fd.type with |none=>grind|some s'=>simp only[hs,Av]at h;cases hb:cQ P fd.type<;>grind
 grind
theorem Z2{pos:String}(t:TypeId)(x:Operand)(f:Nat)(h:ez c nt e I a w L J):fG (AU P t (zI e x) f) I (bT P c ⟨dst,.fieldAddr t x f,ty,pos,eK,g⟩ a w L I J):=by
 have hx:=h.eval x;have run:∀{off s:Nat}{b:Bool}{bl o:Nat},cu P t f=some (off,s,b)->a.eval x=.pointer (some ⟨bl,o,none⟩)->(execOp a.eval ⟨dst,.fieldAddr t x f,ty,pos,eK,g⟩).run P w=.ok (.value (.pointer (some ⟨bl,o+off,none⟩))) w:=by intro off s b bl o hf hv;obtain⟨fs,fd,hu,aa,rfl,hs,hb,h0⟩:=NG hf;simp_all[execOp,Instr.fieldAt,run_underlying,Instr.sureAddr,fieldPlace,pI,wM]
 unfold AU;split;.rename_i off s b id o hf h1;rw[h1]at hx;obtain⟨bl,hb,hv⟩:=hx;exact bT.pure h (run hf hv) ⟨bl,hb,rfl⟩
 .rename_i off s b cs o hf h1;rw[h1]at hx;obtain⟨bl,o',c',hv,hl,hc⟩:=hx;exact bT.pure h (run hf hv) ⟨bl,o',c',sM,hl,hc⟩
 .rename_i off s b id s' n k j hf h1;rw[h1]at hx;obtain⟨bl,o',hv,hc⟩:=hx;refine bT.pure h (run hf hv) ⟨bl,o'+off,rfl,?_⟩;grind
 trivial
end
section
variable{P:Program}{c:Ctx}{nt:Nat}{e:Env}{I:St}{a:Act}{w:World}{L:Nat->Nat}{J:alY}{o:Oper}
variable{t:TypeId}{off:Nat}{dst:Option Tmp}{ty:TypeId}{eK:Array Edge}{g:Option (Nat×Bool)}{bl:Nat}{cs:List V}
def sV(ag:Option Bool)(sz:am2)(cs:List V)(off:Nat):R:=match ag,sz with |some true,some s=>if off+s<=cs.length then .ok (.agg ((cs.drop off).take s))else .fail|some false,_=>(match cs[off]?with|some v=>.ok v|none=>.fail)|_,_=>.fail
def nW(P:Program)(t:TypeId)(I:St)(x:V):R:=match x with |.ptr id off=>(match I[id]?with|some (.box cs)=>sV (cQ P t) (eJ P t) cs off|_=>.fail)|.pG cs off=>sV (cQ P t) (eJ P t) cs off|.jk id s n k j=>(match I[id]?with|some (.cv rows s')=>if s'=s/\rows.length=n/\k<n then sV (cQ P t) (eJ P t) (rows.getD k []) j else .fail|_=>.fail)|_=>.fail
theorem Z3{s:Nat}{xs:alY}(aa:cQ P t=some true)(ab:eJ P t=some s)(hl:xs.length=s)(hx:∀(j:Nat)v,xs[j]?=some v->w.cell? ⟨bl,off+j,none⟩=some v):(loadVar t ⟨bl,off,none⟩).run P w=.ok (.agg xs.toArray) w:=by have:=run_loadCells_list (P:=P) w ⟨bl,off,none⟩ xs (λj v hj=>by rw[wM];exact hx j v hj);simp_all[loadVar,vH,pI]
theorem Z4{v:Value}(aa:cQ P t=some false)(hx:w.cell? ⟨bl,off,none⟩=some v):(loadVar t ⟨bl,off,none⟩).run P w=.ok v w:=by simp_all[loadVar,vH]
theorem NH(t:TypeId){o:Nat}{v:V}(hc:∀(j:Nat)v,cs[j]?=some v->∃y,w.cell? ⟨bl,o+j,none⟩=some y/\dy w L I J v y)(hl:sV (cQ P t) (eJ P t) cs off=.ok v):∃y,(loadVar t ⟨bl,o+off,none⟩).run P w=.ok y w/\dP w L I J v y:=by
 unfold sV at hl;split at hl
 .rename_i s aa ae;split at hl
  .rename_i hle;simp only[R.ok.injEq]at hl;subst hl;let f:=λk=>(w.cell? ⟨bl,o+(off+k),none⟩).getD undef;let xs:=(List.range s).map f;have af:∀(j:Nat)v,xs[j]?=some v->w.cell? ⟨bl,o+off+j,none⟩=some v/\∃p,cs[off+j]?=some p/\dy w L I J p v:=by
    intro j v hj;have ab:j<s:=by grind
    simp only[xs,B9,Dh ab,Bf,alu]at hj;obtain⟨y,hy,r⟩:=hc (off+j) _ (A0 om);grind
   refine⟨.agg xs.toArray,(by grind[Z3]),xs,rfl,bP.of (by simp[xs];omega) λj p v hu hj=>?_⟩;grind
  grind
 .rename_i aa;split at hl;.rename_i v' ad;simp only[R.ok.injEq]at hl;subst hl;obtain⟨y,hy,r⟩:=hc off _ ad;simp_all[Z4,dP.dX]
  grind
 grind
theorem NI{ag:Option Bool}{sz:am2}:(∃v,sV ag sz cs off=.ok v)\/sV ag sz cs off=.fail:=by unfold sV;grind
theorem R5(t:TypeId){x:V}{y:Value}{v:V}(hm:Mem c w L I J)(hx:dP w L I J x y)(hl:nW P t I x=.ok v):∃bl off z,y=.pointer (some ⟨bl,off,none⟩)/\(loadVar t ⟨bl,off,none⟩).run P w=.ok z w/\dP w L I J v z:=by
 unfold nW at hl;split at hl
 .rename_i id off;obtain⟨bl,hb,hv⟩:=hx;split at hl;.rename_i cs cP;obtain⟨b',arr,T,fz,e1,hh,_,_,aa⟩:=hm.dE id _ _ cP hb;cases e1;obtain⟨z,hz,r⟩:=NH (P:=P) (w:=w) (L:=L) (I:=I) (J:=J) t (bl:=bl) (o:=0) (λj v hj=>by obtain⟨y,hy,r⟩:=aa.get _ _ hj;grind[World.cell?]) hl;grind
  grind
 .rename_i cs off;obtain⟨bl,o',c',hv,fD,hc⟩:=hx;obtain⟨z,hz,r⟩:=NH (P:=P) (w:=w) (L:=L) (I:=I) (J:=J) t (bl:=bl) (o:=o') (by grind[dy.dJ]) hl;grind
 .rename_i id s n k j;obtain⟨bl,o',hv,hc⟩:=hx;split at hl
  .rename_i rows s' cP;split at hl
   .rename_i ab;obtain⟨rfl,hn,hk⟩:=ab;rcases hc with hd|⟨cI,ad,ae,hb⟩;.grind
    .rw[cP]at ad;cases ad;obtain⟨c0,dD,ho⟩:=hb hn.symm hk;obtain⟨a,cap,e1,dG,hs,hu,cZ⟩:=hm.dE id _ _ cP dD;cases e1;obtain⟨b',arr,T,fz,e2,hh,_,_,_,aa⟩:=cZ om;cases e2;have hg:rows.getD k []=rows[k]'om:=by grind
     obtain⟨z,hz,r⟩:=NH (P:=P) (w:=w) (L:=L) (I:=I) (J:=J) t (bl:=bl) (o:=k*s') (cs:=rows.getD k []) (off:=j) (λi v hi=>by
      have af:i<s':=by grind
      have hf:rows.flatten[k*s'+i]?=some v:=by grind[yS]
      obtain⟨y,hy,r⟩:=aa.get _ _ hf;grind[World.cell?]) hl;grind
   grind
  grind
 grind
theorem Z5{x:V}:(∃v,nW P t I x=.ok v)\/nW P t I x=.fail:=by
 unfold nW;split
 .split;.exact NI
  simp
 .exact NI
 .split
  .split;.exact NI
   simp
  simp
 simp
theorem KB{s:Nat}{vs:List V}:∀{rows:List (List V)}(k j:Nat),(∀r∈rows,r.length=s)->k<rows.length->j+vs.length<=s->(rows.set k (putCells (rows.getD k []) j vs)).flatten=putCells rows.flatten (k*s+j) vs
 |[],k,j,_,hk,_=>by grind|r::rows,0,j,h,_,hj=>by have hr:=h r sM;have e:(r::rows).getD 0 []=r:=rfl;rw[e,Cj,D3,D3,D0,Ae];grind[putCells]|r::rows,k+1,j,h,hk,hj=>by
  have hr:=h r sM;have ih:=KB (s:=s) (vs:=vs) (rows:=rows) k j (λx hx=>h x (by simp[hx])) (sU hk) hj;have e:(r::rows).getD (k+1) []=rows.getD k []:=sM;rw[e,C4,D3,ih,D3];unfold putCells;have e2:(k+1)*s+j=r.length+(k*s+j):=by rw[B5,hr];omega
  have e3:r.length+(k*s+j)+vs.length=r.length+(k*s+j+vs.length):=E1 _ _ _;rw[e2,List.take_length_add_append,e3,List.drop_length_add_append];simp
theorem Z6{pos:String}(t:TypeId)(x:Operand)(h:ez c nt e I a w L J):fG (nW P t I (zI e x)) I (bT P c ⟨dst,.load t x,ty,pos,eK,g⟩ a w L I J):=by
 rcases Z5 (P:=P) (I:=I) (t:=t) (x:=zI e x)with⟨v,hv⟩|hv;.obtain⟨bl,off,z,hy,hz,r⟩:=R5 (P:=P) t h.mem (h.eval x) hv;rw[hv];exact bT.pure h (x:=z) (by simp_all[execOp,Instr.loadAt,Instr.sureAddr]) r
 .rw[hv];trivial
def vI(P:Program)(t:TypeId)(I:St)(x y:V):R:=match x with |.ptr id off=>(match I[id]?,eJ P t with |some (.box cs),some s=>if nU y=true/\(xT y).length=s/\off+s<=cs.length then .st .u (I.set id (.box (putCells cs off (xT y))))else .fail|_,_=>.fail)|.jk id s n k j=>(match I[id]?,eJ P t with |some (.cv rows s'),some z=>if nU y=true/\(xT y).length=z/\j+z<=s/\s'=s/\rows.length=n/\k<n then .st .u (I.set id (.cv (rows.set k (putCells (rows.getD k []) j (xT y))) s))else .fail|_,_=>.fail)|_=>.fail
theorem Z7{pos:String}(t:TypeId)(x y:Operand)(h:ez c nt e I a w L J):fG (vI P t I (zI e x) (zI e y)) I (bT P c ⟨dst,.store t x y,ty,pos,eK,g⟩ a w L I J):=by
 have hx:=h.eval x;have hy:=h.eval y;unfold vI;split
 .rename_i id off h1;rw[h1]at hx;obtain⟨bl,hb,hv⟩:=hx;split
  .rename_i cs s cP ao;split
   .rename_i ab;obtain⟨ae,hlen,hle⟩:=ab;have aa:=Ek hy ae;obtain⟨arr,T,fz,hh,hf,aj,ad,af⟩:=h.mem.j8 (off:=off) cP hb aa om;have aq:=aa.length;have ar:=xU P bl off T fz (a.eval y).cells.toList 0 arr w hh hf om (λv hv=>?_);.refine⟨undef,_,L,J,.inr ⟨?_,rfl⟩,ad,af,Ext.j8 cP _,tV⟩;simp_all[execOp,Instr.storeAt,Instr.sureAddr,storeVar,pI]
    .obtain⟨k,hk⟩:=Aq.1 hv;have ah:k<(xT (zI e y)).length:=by grind
     obtain⟨z,hz,r⟩:=aa.get k _ (A0 ah);rw[hk]at hz;cases hz;exact r.dS
   trivial
  trivial
 .rename_i id s n k j h1;rw[h1]at hx;obtain⟨bl,o',hv,hc⟩:=hx;split
  .rename_i rows s' z cP ao;split
   .rename_i ab;obtain⟨ae,hlen,hle,rfl,hn,hk⟩:=ab;rcases hc with hd|⟨cI,ak,aw,hb⟩;.grind
    .rw[cP]at ak;cases ak;obtain⟨c0,dD,ho⟩:=hb hn.symm hk;obtain⟨a',cap,e1,dG,hs,hu,_⟩:=h.mem.dE id _ _ cP dD;cases e1;have aa:=Ek hy ae;have aq:=aa.length;have ah:k<rows.length:=om;have au:(k+1)*s'<=rows.length*s':=Ak _ ah;rw[B5,Dc]at au;have hg:rows.getD k []=rows[k]'ah:=by grind
     obtain⟨arr,T,fz,hh,hf,aj,ad,af,ai⟩:=h.mem.gI (cI:=rows.set k (putCells (rows.getD k []) j (xT (zI e y)))) (off:=k*s'+j) cP dD om aa om (λr hr=>by grind[RV]) (by grind[KB]) sM (by grind);have al:J.set id (.slice (some ⟨bl,0,none⟩) (rows.set k (putCells (rows.getD k []) j (xT (zI e y)))).length c0)=J:=(by grind[yP]);rw[al]at ad ai;have ar:=xU P bl (k*s'+j) T fz (a.eval y).cells.toList 0 arr w hh hf om (λv hv=>?_);.refine⟨undef,_,L,J,.inr ⟨?_,rfl⟩,ad,af,ai,tV⟩;simp_all[execOp,Instr.storeAt,Instr.sureAddr,storeVar,pI]
     .obtain⟨q,hq⟩:=Aq.1 hv;have av:q<(xT (zI e y)).length:=by grind
      obtain⟨z',an,r⟩:=aa.get q _ (A0 av);rw[hq]at an;cases an;exact r.dS
   trivial
  trivial
 trivial
def xv(I:St)(x:V):R:=if nU x=true then .st (.ptr I.length 0) (I++[.box (xT x)])else .fail
theorem Z8{pos:String}(t:TypeId)(x:Operand)(h:ez c nt e I a w L J):fG (xv I (zI e x)) I (bT P c ⟨dst,.box t x,ty,pos,eK,g⟩ a w L I J):=by
 have hx:=h.eval x;unfold xv;split
 .rename_i aa;obtain⟨h1,h2⟩:=h.mem.box _ (a.eval x).cells t (Ek hx aa);refine⟨_,_,L,_,.inl ?_,h1,h2,Ext.push I J h.mem.len _ _,⟨w.heap.size,?_,rfl⟩⟩;.rfl
  .rw[<-h.mem.len,Ar (A7 _)];simp
 trivial
def sW(P:Program)(t:TypeId)(I:St):R:=match xF P t with |some cs=>.st (.ptr I.length 0) (I++[.box cs])|none=>.fail
theorem KC(h:xF P t=some cs):∃i z,P.info? t=some i/\i.zero=some z/\(∀v∈z.cells.toList,v.oneCell'=true)/\cs=z.cells.toList.map jE:=by unfold xF at h;cases hi:P.info? t with |none=>grind|some i=>cases hz:i.zero with |none=>grind|some z=>
   simp only[hi,hz,Av]at h;split at h;.rename_i ha;simp at h;refine⟨i,z,rfl,hz,λv hv=>?_,h.symm⟩;exact Cl.1 ha v (by grind)
   grind
theorem NJ{xs:alY}(h:∀v∈xs,v.oneCell'):bP (cM w L) (xs.map jE) xs:=by induction xs with |nil=>trivial|cons x xs ih=>exact⟨(by grind[H4]),(by grind)⟩
theorem Z9{pos:String}(t:TypeId)(h:ez c nt e I a w L J):fG (sW P t I) I (bT P c ⟨dst,.alloc t,ty,pos,eK,g⟩ a w L I J):=by
 unfold sW;split
 .rename_i cs hc;obtain⟨i,z,hi,ab,aa,rfl⟩:=KC hc;obtain⟨h1,h2⟩:=h.mem.box (z.cells.toList.map jE) z.cells t ((NJ aa).imp λ_ _=>dy.dJ);refine⟨_,_,L,_,.inl ?_,h1,h2,Ext.push I J h.mem.len _ _,⟨w.heap.size,?_,rfl⟩⟩;.simp_all[execOp,Instr.alloc,zeroValue,typeInfo,newVar,newRow]
  .rw[<-h.mem.len,Ar (A7 _)];simp
 trivial
end
section
variable{P:Program}{c:Ctx}{nt:Nat}{e:Env}{I:St}{a:Act}{w:World}{L:Nat->Nat}{J:alY}{o:Oper}
variable{t:TypeId}{dst:Option Tmp}{ty:TypeId}{eK:Array Edge}{g:Option (Nat×Bool)}
def xw(sl:am2)(ar:Option (Nat×Nat×Bool))(x i:V):R:=match x,i with |.sl _ rows,.int _ k=>(match sl with |some s=>.eP (0<=k/\k<rows.length/\(rows.getD k.toNat []).length=s) (.pG (rows.getD k.toNat []) 0)|none=>.fail)|.ptr id off,.int _ k=>(match ar with |some (n,s,_)=>.eP (0<=k/\k<n) (.ptr id (off+k.toNat*s))|none=>.fail)|.pG cs off,.int _ k=>(match ar with |some (n,s,_)=>.eP (0<=k/\k<n) (.pG cs (off+k.toNat*s))|none=>.fail)|.cS id s n lo m,.int _ k=>if sl=some s then .eP (0<=k/\k<m) (.jk id s n (lo+k.toNat) 0)else .fail|.kF id s off n,.int _ k=>if sl=some s then .eP (0<=k/\k<n) (.ptr id (off+k.toNat*s))else .fail|_,_=>.fail
theorem NK{s:Nat}(h:fm P t=some s):∃el,P.underlying t=some (.slice el)/\eJ P el=some s:=by grind[fm]
theorem KD{n s:Nat}{b:Bool}(h:ja P t=some (n,s,b)):∃el,P.underlying t=some (.array n el)/\eJ P el=some s/\cQ P el=some b:=by
 unfold ja at h;split at h;.rename_i m el hu;cases hs:eJ P el with |none=>grind|some s'=>cases hb:cQ P el<;>grind
 grind
theorem xk2{pos:String}(t:TypeId)(x i:Operand)(h:ez c nt e I a w L J):fG (xw (fm P t) (ja P t) (zI e x) (zI e i)) I (bT P c ⟨dst,.indexAddr t x i,ty,pos,eK,g⟩ a w L I J):=by
 have hx:=h.eval x;have hi:=h.eval i;unfold xw;split
 .rename_i gg rows kd k h1 h2;rw[h1]at hx;rw[h2]at hi;split
  .rename_i s hs;obtain⟨el,hu,aa⟩:=NK hs;rintro⟨h0,ab,ae⟩;have hk:k.toNat<rows.length:=om;have aj:rows≠[]:=(by grind);obtain⟨s',b,o',cap,hv,al,af,fD,_,_,hc⟩:=(tQ hx).flat aj;have ah:rows.getD k.toNat []∈rows:=by grind
   have ak:s'=s:=by rw[<-af _ ah];omega
   subst ak;have an:rows.getD k.toNat []=rows[k.toNat]:=by grind
   have e1:=yQ hi;refine bT.pure h (x:=.pointer (some ⟨b,o'+k.toNat*s',none⟩)) ?_ ?_;.simp[execOp,hv,e1,Instr.indexAt,asIntOf,run_underlying hu,pI aa,h0,ab,wM]
   .refine⟨b,o'+k.toNat*s',λj=>(w.cell? ⟨b,o'+k.toNat*s'+j,none⟩).getD undef,rfl,?_,λj hj=>?_⟩;.rw[ae];have:(k.toNat+1)*s'<=rows.length*s':=Ak _ hk;grind
    .rw[ae]at hj;obtain⟨y,hy,r⟩:=hc (k.toNat*s'+j) ((rows.getD k.toNat [])[j]'om) (by rw[yS _ _ af hj,A0 hk];grind);grind
  trivial
 .rename_i id off kd k h1 h2;rw[h1]at hx;rw[h2]at hi;split;.rename_i n s b hs;obtain⟨el,hu,aa,_⟩:=KD hs;rintro⟨h0,ab⟩;obtain⟨bl,hb,hv⟩:=hx;refine bT.pure h (x:=.pointer (some ⟨bl,off+k.toNat*s,none⟩)) ?_ ⟨bl,hb,rfl⟩;simp[execOp,hv,yQ hi,Instr.indexAt,asIntOf,run_underlying hu,pI aa,h0,ab,wM,Instr.sureAddr]
  trivial
 .rename_i cs off kd k h1 h2;rw[h1]at hx;rw[h2]at hi;split;.rename_i n s b hs;obtain⟨el,hu,aa,_⟩:=KD hs;rintro⟨h0,ab⟩;obtain⟨bl,o',c',hv,hl,hc⟩:=hx;refine bT.pure h (x:=.pointer (some ⟨bl,o'+(off+k.toNat*s),none⟩)) ?_ ⟨bl,o',c',rfl,hl,hc⟩;simp[execOp,hv,yQ hi,Instr.indexAt,asIntOf,run_underlying hu,pI aa,h0,ab,wM,Instr.sureAddr,E1]
  trivial
 .rename_i id s n lo m kd k h1 h2;rw[h1]at hx;rw[h2]at hi;split
  .rename_i hs;obtain⟨el,hu,aa⟩:=NK hs;rintro⟨h0,ab⟩;obtain⟨ad,cap,hv,hm,ai,hc⟩:=hx;obtain⟨b,o,rfl⟩:=ai om;refine bT.pure h (x:=.pointer (some ⟨b,o+k.toNat*s,none⟩)) ?_ ⟨b,o+k.toNat*s,rfl,?_⟩;.simp[execOp,hv,yQ hi,Instr.indexAt,asIntOf,run_underlying hu,pI aa,h0,ab,wM]
   grind
  trivial
 .rename_i id s off n kd k h1 h2;rw[h1]at hx;rw[h2]at hi;split;.rename_i hs;obtain⟨el,hu,aa⟩:=NK hs;rintro⟨h0,ab⟩;obtain⟨bl,hb,hv⟩:=hx;refine bT.pure h (x:=.pointer (some ⟨bl,off+k.toNat*s,none⟩)) ?_ ⟨bl,hb,rfl⟩;simp[execOp,hv,yQ hi,Instr.indexAt,asIntOf,run_underlying hu,pI aa,h0,ab,wM]
  trivial
 trivial
def xx(x i:V)(str:Bool)(ar:Option (Nat×Nat×Bool)):R:=match x,i with |.str b,.int _ k=>if str then .eP (0<=k/\k<b.length) (.int .u8 (b.getD k.toNat 0).toNat)else .fail|.agg cs,.int _ k=>(match ar with |some (n,s,false)=>.eP (0<=k/\k<n/\(k.toNat*s)<cs.length) (cs.getD (k.toNat*s) .u)|_=>.fail)|_,_=>.fail
def rA(P:Program)(t:TypeId):Bool:=match P.underlying t with|some .string=>true|_=>false
theorem xJ7(h:rA P t):P.underlying t=some .string:=by grind[rA]
theorem wz6{pos:String}(t:TypeId)(x i:Operand)(h:ez c nt e I a w L J):fG (xx (zI e x) (zI e i) (rA P t) (ja P t)) I (bT P c ⟨dst,.index t x i,ty,pos,eK,g⟩ a w L I J):=by
 have hx:=h.eval x;have hi:=h.eval i;unfold xx;split
 .rename_i b kd k h1 h2;rw[h1]at hx;rw[h2]at hi;split
  .rename_i hs;have hu:=xJ7 hs;rintro⟨h0,aa⟩;have hk:k.toNat<b.length:=om;refine bT.pure h (x:=.int .u8 (b.getD k.toNat 0).toNat) ?_ (cM.int _ _);have hg:(ByteArray.mk b.toArray)[k.toNat]?=some (b.getD k.toNat 0):=by
    have:k.toNat<(ByteArray.mk b.toArray).size:=by simpa
    rw[getElem?_pos (ByteArray.mk b.toArray) k.toNat this];rw[Aj,A0 hk];rfl
   simp[execOp,lU hx,yQ hi,Instr.index,asIntOf,run_underlying hu,h0,hg]
  trivial
 .rename_i cs kd k h1 h2;rw[h1]at hx;rw[h2]at hi;split
  .rename_i n s hs;obtain⟨el,hu,ad,ae⟩:=KD hs;rintro⟨h0,aa,af⟩;obtain⟨xs,hv,ab⟩:=hx;obtain⟨y,hy,r⟩:=ab.get (k.toNat*s) _ (A0 af);refine bT.pure h (x:=y) ?_ (dP.dX ?_);.simp[execOp,hv,yQ hi,Instr.index,asIntOf,run_underlying hu,pI ad,h0,aa,part,vH ae,hy]
   grind
  trivial
 trivial
theorem AV(l:alW):(ByteArray.mk l.toArray).size=l.length:=by rfl
def dU(P:Program)(t:TypeId):Nat:=match P.underlying t with |some .string=>1|some (.slice _)=>2|_=>0
theorem KE(h:dU P t=1):P.underlying t=some .string:=by grind[dU]
theorem vJ(h:dU P t=2):∃el,P.underlying t=some (.slice el):=by grind[dU]
def AW(k:Nat)(x:V):R:=match x with |.sl _ rows=>if k=2then .ok (.int .i64 rows.length)else .fail|.str s=>if k=1then .ok (.int .i64 s.length)else .fail|.cS _ _ _ _ m=>if k=2then .ok (.int .i64 m)else .fail|.kF _ _ _ n=>if k=2then .ok (.int .i64 n)else .fail|_=>.fail
theorem wz8{pos:String}(t:TypeId)(x:Operand)(h:ez c nt e I a w L J):fG (AW (dU P t) (zI e x)) I (bT P c ⟨dst,.call ⟨.builtin .len,#[x],#[t]⟩,ty,pos,eK,g⟩ a w L I J):=by
 have hx:=h.eval x;unfold AW;split
 .rename_i gg rows h1;rw[h1]at hx;obtain⟨a',cap,hv,_,_⟩:=(tQ hx).len;split;.rename_i hk;obtain⟨el,hu⟩:=vJ hk;exact bT.pure h (x:=.int .i64 rows.length) (by simp_all[execOp,resolve,invoke,builtin,Builtin.len_,run_underlying,goInt]) (cM.int _ _)
  trivial
 .rename_i s h1;rw[h1]at hx;split;.rename_i hk;exact bT.pure h (x:=.int .i64 s.length) (by simp[execOp,resolve,invoke,builtin,Builtin.len_,lU hx,run_underlying (KE hk),goInt,AV]) (cM.int _ _)
  trivial
 .rename_i id s n lo m h1;rw[h1]at hx;obtain⟨ad,cap,hv,_⟩:=hx;split;.rename_i hk;obtain⟨el,hu⟩:=vJ hk;exact bT.pure h (x:=.int .i64 m) (by simp_all[execOp,resolve,invoke,builtin,Builtin.len_,run_underlying,goInt]) (cM.int _ _)
  trivial
 .rename_i id s off n h1;rw[h1]at hx;obtain⟨bl,_,hv⟩:=hx;split;.rename_i hk;obtain⟨el,hu⟩:=vJ hk;exact bT.pure h (x:=.int .i64 n) (by simp_all[execOp,resolve,invoke,builtin,Builtin.len_,run_underlying,goInt]) (cM.int _ _)
  trivial
 trivial
def rC(isMax:Bool):List V->R |[.int k x,.int _ y]=>.ok (.int k (if isMax then(if y>x then y else x)else(if y<x then y else x)))|[.str x,.str y]=>.ok (.str (if isMax then(if Op.bytesLess x y then y else x)else(if(Op.bytesLess x y||x==y)then x else y)))|[.int k x,.int _ y,.int _ z]=>.ok (.int k (if isMax then(let m:=if y>x then y else x;if z>m then z else m)else(let m:=if y<x then y else x;if z<m then z else m)))|_=>.fail
theorem R6{pos:String}(ts:Array TypeId)(xs:List Operand)(isMax:Bool)(h:ez c nt e I a w L J):fG (rC isMax (xs.map (zI e))) I (bT P c ⟨dst,.call ⟨.builtin (if isMax then .max else .min),xs.toArray,ts⟩,ty,pos,eK,g⟩ a w L I J):=by
 unfold rC;split
 .rename_i k m k' n hl;obtain⟨x,y,rfl⟩:∃x y,xs=[x,y]:=by cases xs with |nil=>grind|cons x xs=>cases xs<;>simp_all
  simp at hl;have e1:=yQ (hl.1▸h.eval x);have e2:=yQ (hl.2▸h.eval y);cases isMax;.exact bT.pure h (x:=.int k (if n<m then n else m)) (by simp_all[execOp,resolve,invoke,builtin,Builtin.min_,Builtin.min2]) (cM.int _ _)
  .exact bT.pure h (x:=.int k (if n>m then n else m)) (by simp_all[execOp,resolve,invoke,builtin,Builtin.max_,Builtin.max2]) (cM.int _ _)
 .rename_i m n hl;obtain⟨x,y,rfl⟩:∃x y,xs=[x,y]:=by cases xs with |nil=>grind|cons x xs=>cases xs<;>simp_all
  simp at hl;have e1:=lU (hl.1▸h.eval x);have e2:=lU (hl.2▸h.eval y);cases isMax;.refine bT.pure h (x:=.string ⟨(if(Op.bytesLess m n||m==n)then m else n).toArray⟩) ?_ (cM.str _);simp[execOp,resolve,invoke,builtin,Builtin.min_,Builtin.min2,e1,e2,Op.stringOp,asBool];grind
  .refine bT.pure h (x:=.string ⟨(if Op.bytesLess m n then n else m).toArray⟩) ?_ (cM.str _);simp[execOp,resolve,invoke,builtin,Builtin.max_,Builtin.max2,e1,e2,Op.stringOp,asBool];grind
 .rename_i k m k' n aa q hl;obtain⟨x,y,z,rfl⟩:∃x y z,xs=[x,y,z]:=by cases xs with |nil=>grind|cons x xs=>cases xs with |nil=>grind|cons y xs=>cases xs<;>simp_all
  simp at hl;have e1:=yQ (hl.1▸h.eval x);have e2:=yQ (hl.2.1▸h.eval y);have e3:=yQ (hl.2.2▸h.eval z);cases isMax;.exact bT.pure h (x:=.int k (let p:=if n<m then n else m;if q<p then q else p)) (by simp_all[execOp,resolve,invoke,builtin,Builtin.min_,Builtin.min2]) (cM.int _ _)
  .exact bT.pure h (x:=.int k (let p:=if n>m then n else m;if q>p then q else p)) (by simp_all[execOp,resolve,invoke,builtin,Builtin.max_,Builtin.max2]) (cM.int _ _)
 trivial
end
end Go.Vx
