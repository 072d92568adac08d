/-
  Structs held against each other: bools, numbers and texts, cell by cell.
  No condition: a library text; nothing of the program is named.
-/
import Derived.WalkKit
import Derived.Deep.AppendSrc
import Derived.Laws.StructEq
import Derived.Laws.BytesArg
import Derived.Laws.IdiomStrings
set_option maxHeartbeats 8000000
namespace Go
theorem om{p:Prop}(h:p:=by omega):p:=h
theorem sg{p:Prop}(h:p:=by simp[go_sem]):p:=h
theorem kR{p:Prop}(h:p:=by kernel_rfl):p:=h
theorem dc{p:Prop}(h:p:=by decide):p:=h
theorem sm{p:Prop}(h:p:=by simp):p:=h
theorem tV:True:=⟨⟩
theorem A0:type_of%@List.getElem?_eq_getElem:=@List.getElem?_eq_getElem
theorem A1:type_of%@List.getElem?_eq_some_iff:=@List.getElem?_eq_some_iff
theorem A2:type_of%@Nat.zero_le:=@Nat.zero_le
theorem A3:type_of%@Nat.le_refl:=@Nat.le_refl
theorem A4:type_of%@Bool.eq_false_or_eq_true:=@Bool.eq_false_or_eq_true
theorem A5:type_of%@List.drop_eq_getElem_cons:=@List.drop_eq_getElem_cons
theorem A6:type_of%@Bool.and_eq_true:=@Bool.and_eq_true
theorem A7:type_of%@List.getD_eq_getElem?_getD:=@List.getD_eq_getElem?_getD
theorem A8:type_of%@List.getElem_mem:=@List.getElem_mem
theorem A9:type_of%@List.drop_eq_nil_of_le:=@List.drop_eq_nil_of_le
theorem Aa:type_of%@List.getElem?_append_left:=@List.getElem?_append_left
theorem Ab:type_of%@Nat.zero_add:=@Nat.zero_add
theorem Ac:type_of%@List.mem_map:=@List.mem_map
theorem Ad:type_of%@List.getElem?_set_ne:=@List.getElem?_set_ne
theorem Ae:type_of%@List.getElem?_take:=@List.getElem?_take
theorem Af:type_of%@List.all_eq_true:=@List.all_eq_true
theorem Ag:type_of%@List.mem_cons:=@List.mem_cons
theorem Ah:type_of%@List.length_cons:=@List.length_cons
theorem Ai:type_of%@List.getElem?_append_right:=@List.getElem?_append_right
theorem Aj:type_of%@List.getElem?_set_self:=@List.getElem?_set_self
theorem Ak:type_of%@Array.getElem?_toList:=@Array.getElem?_toList
theorem Al:type_of%@List.map_cons:=@List.map_cons
theorem Am:type_of%@Nat.add_mul:=@Nat.add_mul
theorem An:type_of%@Nat.mul_le_mul_right:=@Nat.mul_le_mul_right
theorem Ao:type_of%@Array.getElem?_eq_some_iff:=@Array.getElem?_eq_some_iff
theorem Ap:type_of%@List.all_cons:=@List.all_cons
theorem Aq:type_of%@List.mem_append:=@List.mem_append
theorem Ar:type_of%@Bool.true_and:=@Bool.true_and
theorem Au:type_of%@Array.getElem?_eq_getElem:=@Array.getElem?_eq_getElem
theorem Av:type_of%@List.take_of_length_le:=@List.take_of_length_le
theorem Aw:type_of%@Option.bind_some:=@Option.bind_some
theorem Ax:type_of%@List.mem_iff_getElem?:=@List.mem_iff_getElem?
theorem Ay:type_of%@List.length_map:=@List.length_map
theorem Az:type_of%@Int.toNat_natCast:=@Int.toNat_natCast
theorem B0:type_of%@List.getElem?_map:=@List.getElem?_map
theorem B1:type_of%@List.mem_filter:=@List.mem_filter
theorem B2:type_of%@List.length_append:=@List.length_append
theorem B3:type_of%@Nat.le_trans:=@Nat.le_trans
theorem B4:type_of%@List.mem_cons_of_mem:=@List.mem_cons_of_mem
theorem B5:type_of%@List.getElem?_drop:=@List.getElem?_drop
theorem B6:type_of%@List.eq_nil_of_length_eq_zero:=@List.eq_nil_of_length_eq_zero
theorem B7:type_of%@List.mem_of_getElem?:=@List.mem_of_getElem?
theorem B8:type_of%@List.drop_zero:=@List.drop_zero
theorem B9:type_of%@Option.map_some:=@Option.map_some
theorem Ba:type_of%@Option.map_eq_some_iff:=@Option.map_eq_some_iff
theorem Bb:type_of%@List.mem_cons_self:=@List.mem_cons_self
theorem Bc:type_of%@List.append_nil:=@List.append_nil
theorem Bd:type_of%@List.getElem?_eq_none:=@List.getElem?_eq_none
theorem Be:type_of%@List.not_mem_nil:=@List.not_mem_nil
theorem Bf:type_of%@List.foldl_cons:=@List.foldl_cons
theorem Bg:type_of%@Nat.not_lt_zero:=@Nat.not_lt_zero
theorem Bh:type_of%@List.length_singleton:=@List.length_singleton
theorem Bi:type_of%@Nat.lt_trichotomy:=@Nat.lt_trichotomy
theorem Bj:type_of%@Bool.false_eq_true:=@Bool.false_eq_true
theorem Bk:type_of%@List.mem_of_mem_take:=@List.mem_of_mem_take
theorem Bl:type_of%@Nat.one_mul:=@Nat.one_mul
theorem Bm:type_of%@List.flatMap_cons:=@List.flatMap_cons
theorem Bn:type_of%@List.map_congr_left:=@List.map_congr_left
theorem Bo:type_of%@List.cons_append:=@List.cons_append
theorem Bp:type_of%@List.append_assoc:=@List.append_assoc
theorem Bq:type_of%@List.take_append_drop:=@List.take_append_drop
theorem Br:type_of%@List.map_map:=@List.map_map
theorem Bs:type_of%@List.map_nil:=@List.map_nil
theorem Bt:type_of%@List.length_filter_le:=@List.length_filter_le
theorem Bu:type_of%@List.drop_of_length_le:=@List.drop_of_length_le
theorem Bv:type_of%@Bool.or_eq_true:=@Bool.or_eq_true
theorem Bw:type_of%@Nat.not_succ_le_self:=@Nat.not_succ_le_self
theorem Bx:type_of%@List.ext_getElem?:=@List.ext_getElem?
theorem By:type_of%@Nat.add_assoc:=@Nat.add_assoc
theorem Bz:type_of%@Nat.mul_comm:=@Nat.mul_comm
theorem C0:type_of%@List.flatten_append:=@List.flatten_append
theorem C1:type_of%@List.take_succ_cons:=@List.take_succ_cons
theorem C2:type_of%@Array.length_toList:=@Array.length_toList
theorem C3:type_of%@List.all_nil:=@List.all_nil
theorem C4:type_of%@List.filter_sublist:=@List.filter_sublist
theorem C5:type_of%@List.nodup_range:=@List.nodup_range
theorem C6:type_of%@List.drop_length:=@List.drop_length
theorem C7:type_of%@Bool.false_and:=@Bool.false_and
theorem C8:type_of%@Bool.false_or:=@Bool.false_or
theorem C9:type_of%@List.pairwise_append:=@List.pairwise_append
theorem Ca:type_of%@List.set_cons_succ:=@List.set_cons_succ
theorem Cb:type_of%@Int.cast_ofNat_Int:=@Int.cast_ofNat_Int
theorem Cc:type_of%@List.nodup_cons:=@List.nodup_cons
theorem Cd:type_of%@List.length_take:=@List.length_take
theorem Ce:type_of%@List.flatten_cons:=@List.flatten_cons
theorem Cf:type_of%@Nat.zero_mul:=@Nat.zero_mul
theorem Cg:type_of%@Nat.add_zero:=@Nat.add_zero
theorem Ch:type_of%@List.mem_or_eq_of_mem_set:=@List.mem_or_eq_of_mem_set
theorem Ci:type_of%@List.mem_singleton:=@List.mem_singleton
theorem Cj:type_of%@List.mem_range:=@List.mem_range
theorem Ck:type_of%@Bool.and_true:=@Bool.and_true
theorem Cl:type_of%@Nat.lt_or_ge:=@Nat.lt_or_ge
theorem Cm:type_of%@Nat.le_of_eq:=@Nat.le_of_eq
theorem Cn:type_of%@Nat.mod_eq_of_lt:=@Nat.mod_eq_of_lt
theorem Co:type_of%@List.getElem?_range:=@List.getElem?_range
theorem Cp:type_of%@Nat.div_lt_iff_lt_mul:=@Nat.div_lt_iff_lt_mul
theorem Cq:type_of%@List.foldl_append:=@List.foldl_append
theorem Cr:type_of%@List.takeWhile_append_dropWhile:=@List.takeWhile_append_dropWhile
theorem Cs:type_of%@List.getElem?_cons_succ:=@List.getElem?_cons_succ
theorem Ct:type_of%@Int.fdiv_eq_ediv_of_nonneg:=@Int.fdiv_eq_ediv_of_nonneg
theorem Cu:type_of%@List.nil_append:=@List.nil_append
theorem Cv:type_of%@List.pairwise_cons:=@List.pairwise_cons
theorem Cw:type_of%@List.take_left':=@List.take_left'
theorem Cx:type_of%@List.take_append_of_le_length:=@List.take_append_of_le_length
theorem Cy:type_of%@Nat.mod_lt:=@Nat.mod_lt
theorem Cz:type_of%@Bool.not_eq_true':=@Bool.not_eq_true'
theorem D0:type_of%@List.nodup_nil:=@List.nodup_nil
theorem D1:type_of%@Nat.le_of_ble_eq_true:=@Nat.le_of_ble_eq_true
theorem D2:type_of%@List.getElem?_take_of_lt:=@List.getElem?_take_of_lt
theorem D3:type_of%@Nat.lt_of_lt_of_le:=@Nat.lt_of_lt_of_le
theorem D4:type_of%@List.mem_of_mem_drop:=@List.mem_of_mem_drop
theorem D5:type_of%@Array.all_eq_true_iff_forall_mem:=@Array.all_eq_true_iff_forall_mem
theorem D6:type_of%@List.any_eq_true:=@List.any_eq_true
theorem D7:type_of%@List.exists_cons_of_ne_nil:=@List.exists_cons_of_ne_nil
theorem D8:type_of%@List.any_cons:=@List.any_cons
theorem D9:type_of%@List.take_add_one:=@List.take_add_one
theorem Da:type_of%@List.pairwise_map:=@List.pairwise_map
theorem Db:type_of%@Array.eq_empty_of_size_eq_zero:=@Array.eq_empty_of_size_eq_zero
theorem Dc:type_of%@List.length_nil:=@List.length_nil
theorem Dd:type_of%@List.set_cons_zero:=@List.set_cons_zero
theorem De:type_of%@Bool.true_or:=@Bool.true_or
theorem Df:type_of%@List.take_length:=@List.take_length
theorem Dg:type_of%@Array.getElem?_setIfInBounds:=@Array.getElem?_setIfInBounds
theorem Dh:type_of%@List.set_append_left:=@List.set_append_left
theorem Di:type_of%@List.mem_append_left:=@List.mem_append_left
theorem Dj:type_of%@List.nodup_append:=@List.nodup_append
theorem Dk:type_of%@Nat.div_add_mod:=@Nat.div_add_mod
theorem Dl:type_of%@Nat.min_eq_left:=@Nat.min_eq_left
theorem Dm:type_of%@List.map_append:=@List.map_append
theorem Dn:type_of%@List.drop_succ_cons:=@List.drop_succ_cons
theorem Do:type_of%@Array.getElem?_append_left:=@Array.getElem?_append_left
theorem Dp:type_of%@List.takeWhile_cons_of_pos:=@List.takeWhile_cons_of_pos
theorem Dq:type_of%@List.filter_cons:=@List.filter_cons
theorem Dr:type_of%@List.take_succ_eq_append_getElem:=@List.take_succ_eq_append_getElem
theorem Ds:type_of%@List.take_zero:=@List.take_zero
theorem Dt:type_of%@List.contains_cons:=@List.contains_cons
theorem Du:type_of%@Bool.eq_iff_iff:=@Bool.eq_iff_iff
theorem Dv:type_of%@List.length_range:=@List.length_range
theorem Dw:type_of%@List.filter_eq_self:=@List.filter_eq_self
theorem Dx:type_of%@List.perm_middle:=@List.perm_middle
theorem Dy:type_of%@List.map_id':=@List.map_id'
theorem Dz:type_of%@Array.getElem?_modify:=@Array.getElem?_modify
theorem E0:type_of%@Int.tdiv_eq_ediv_of_nonneg:=@Int.tdiv_eq_ediv_of_nonneg
theorem E1:type_of%@Int.tmod_eq_emod_of_nonneg:=@Int.tmod_eq_emod_of_nonneg
theorem E2:type_of%@Bool.or_false:=@Bool.or_false
theorem E3:type_of%@Int.lt_trichotomy:=@Int.lt_trichotomy
theorem E4:type_of%@List.extract_eq_take_drop:=@List.extract_eq_take_drop
theorem E5:type_of%@List.getElem?_mapIdx:=@List.getElem?_mapIdx
theorem E6:type_of%@Classical.byContradiction:=@Classical.byContradiction
theorem E7:type_of%@List.drop_drop:=@List.drop_drop
theorem E8:type_of%@Nat.add_comm:=@Nat.add_comm
theorem E9:type_of%@List.length_drop:=@List.length_drop
theorem Ea:type_of%@Option.getD_some:=@Option.getD_some
theorem Eb:type_of%@Nat.pow_succ:=@Nat.pow_succ
theorem Ec:type_of%@List.length_pos_iff:=@List.length_pos_iff
theorem Ed:type_of%@List.flatMap_append:=@List.flatMap_append
theorem Ee:type_of%@List.getElem?_replicate:=@List.getElem?_replicate
theorem Ef:type_of%@Int.eq_ofNat_of_zero_le:=@Int.eq_ofNat_of_zero_le
theorem Eg:type_of%@Nat.mul_assoc:=@Nat.mul_assoc
theorem Eh:type_of%@List.length_set:=@List.length_set
theorem Ei:type_of%@List.zip_cons_cons:=@List.zip_cons_cons
theorem Ej:type_of%@List.all_append:=@List.all_append
theorem Ek:type_of%@List.filter_append:=@List.filter_append
theorem El:type_of%@Int.emod_lt_of_pos:=@Int.emod_lt_of_pos
theorem Em:type_of%@List.filter_congr:=@List.filter_congr
theorem En:type_of%@List.take_take:=@List.take_take
theorem Eo:type_of%@Bool.or_true:=@Bool.or_true
theorem Ep:type_of%@List.foldl_nil:=@List.foldl_nil
theorem Eq:type_of%@List.getElem_map:=@List.getElem_map
theorem Er:type_of%@Nat.min_le_right:=@Nat.min_le_right
theorem Es:type_of%@Nat.lt_succ_self:=@Nat.lt_succ_self
theorem Et:type_of%@UInt8.toNat_inj:=@UInt8.toNat_inj
theorem Eu:type_of%@Int.emod_nonneg:=@Int.emod_nonneg
end Go
namespace Go.Vx
open Go
inductive Tag where|ro|full|app(id:Nat)deriving DecidableEq
inductive V where|u|bool(b:Bool)|int(k:IntKind)(n:Int)|str(s:List UInt8)|raw(v:Value)|nilp|ptr(id off:Nat)|sl(g:Tag)(rows:List (List V))|elp(cells:List V)(off:Nat)|fn(f:FuncId)(caps:List V)|agg(cells:List V)|tup(vs:List V)|lsv(id s n lo m:Nat)|lsp(id s n k j:Nat)|bsv(id s off n:Nat)|mp(id:Nat)|ifc(t:Nat)(vs:List V)
instance:Inhabited V:=⟨.u⟩
variable {α:Type}{β:Type}
def All2{α β:Type}(R:α->β->Prop):List α->List β->Prop|[],[]=>True|a::az,b::bs=>R a b/\All2 R az bs|_,_=>False
theorem All2.length{R:α->β->Prop}:∀{l:List α}{m:List β},All2 R l m->l.length=m.length |[],[],_=>rfl|_::_,_::_,h=>by simp[All2.length h.2]|[],_::_,h=>h.elim|_::_,[],h=>h.elim
theorem All2.imp{R S:α->β->Prop}(aa:∀a b,R a b->S a b):∀{l:List α}{m:List β},All2 R l m->All2 S l m |[],[],_=>trivial|_::_,_::_,h=>⟨aa _ _ h.1,All2.imp aa h.2⟩|[],_::_,h=>h.elim|_::_,[],h=>h.elim
theorem All2.get{R:α->β->Prop}:∀{l:List α}{m:List β}(i:Nat)(a:α),All2 R l m->l[i]?=some a->∃b,m[i]?=some b/\R a b
 |a::_,b::_,0,_,h,e=>⟨b,rfl,by simp at e;exact e▸h.1⟩|_::_,_::_,i+1,_,h,e=>by obtain⟨b,hb,r⟩:=All2.get i _ h.2 (by simpa using e);exact⟨b,by simpa using hb,r⟩|[],[],_,_,_,e=>by simp at e|[],_::_,_,_,h,_=>h.elim|_::_,[],_,_,h,_=>h.elim
theorem All2.of{R:α->β->Prop}:∀{l:List α}{m:List β},l.length=m.length->(∀(i:Nat)a b,l[i]?=some a->m[i]?=some b->R a b)->All2 R l m |[],[],_,_=>trivial|a::l,b::m,hl,h=>⟨h 0 a b rfl rfl,All2.of (by simpa using hl) λi x y hx hy=>h (i+1) x y (by simpa using hx) (by simpa using hy)⟩|[],_::_,hl,_=>by simp at hl|_::_,[],hl,_=>by simp at hl
theorem All2.append{R:α->β->Prop}:∀{l:List α}{m:List β}{l':List α}{m':List β},All2 R l m->All2 R l' m'->All2 R (l++l') (m++m') |[],[],_,_,_,h'=>h'|_::_,_::_,_,_,h,h'=>⟨h.1,All2.append h.2 h'⟩|[],_::_,_,_,h,_=>h.elim|_::_,[],_,_,h,_=>h.elim
theorem All2.take{R:α->β->Prop}:∀{l:List α}{m:List β}(n:Nat),All2 R l m->All2 R (l.take n) (m.take n)|[],[],n,_=>by simp[All2]|_::_,_::_,0,_=>trivial|_::_,_::_,n+1,h=>⟨h.1,All2.take n h.2⟩|[],_::_,_,h=>h.elim|_::_,[],_,h=>h.elim
theorem All2.drop{R:α->β->Prop}:∀{l:List α}{m:List β}(n:Nat),All2 R l m->All2 R (l.drop n) (m.drop n)|[],[],n,_=>by simp[All2]|_::_,_::_,0,h=>h|_::_,_::_,n+1,h=>All2.drop n h.2|[],_::_,_,h=>h.elim|_::_,[],_,h=>h.elim
theorem xV7{i j n s:Nat}(hi:i<n)(hj:j<s):i*s+j<n*s:=by
 have h:(i+1)*s<=n*s:=An s hi;have:(i+1)*s=i*s+s:=by rw[Am,Bl]
 omega
inductive RdP(w:World)(L:Nat->Nat):V->Value->Prop|bool(b:Bool):RdP w L (.bool b) (.bool b)|int(k:IntKind)(n:Int):RdP w L (.int k n) (.int k n)|str(s:List UInt8):RdP w L (.str s) (.string ⟨s.toArray⟩)|raw(v:Value)(h:v.oneCell'=true):RdP w L (.raw v) v|nilp:RdP w L .nilp (.pointer none)|sl0(g:Tag)(a:Option Addr)(cap:Nat)(hg:g=.full->cap=0)(ha:∀id,g≠.app id):RdP w L (.sl g []) (.slice a 0 cap)|sl(g:Tag)(rows:List (List V))(s b o cap:Nat)(c:Nat->Nat->Value)(ha:∀id,g≠.app id)(hs:0<s)(hlen:∀r∈rows,r.length=s)(hlim:o+rows.length*s<=L b)(hcap:rows.length<=cap)(hg:g=.full->cap=rows.length)(hc:∀i j,i<rows.length->j<s->w.cell? ⟨b,o+i*s+j,none⟩=some (c i j))(hr:∀i j(hi:i<rows.length)(hj:j<rows[i].length),RdP w L (rows[i][j]) (c i j)):RdP w L (.sl g rows) (.slice (some ⟨b,o,none⟩) rows.length cap)
structure Le(w:World)(L:Nat->Nat)(w':World)(L':Nat->Nat):Prop where
 lim:∀b,L b<=L' b
 cell:∀b o,o<L b->w'.cell? ⟨b,o,none⟩=w.cell? ⟨b,o,none⟩
theorem Le.refl(w:World)(L:Nat->Nat):Le w L w L:=⟨λ_=>A3 _,λ_ _ _=>rfl⟩
theorem Le.trans{w1 w2 w3:World}{L1 L2 L3:Nat->Nat}(h:Le w1 L1 w2 L2)(k:Le w2 L2 w3 L3):Le w1 L1 w3 L3:=⟨λb=>B3 (h.lim b) (k.lim b),λb o ho=>(k.cell b o (D3 ho (h.lim b))).trans (h.cell b o ho)⟩
theorem RdP.mono{w w':World}{L L':Nat->Nat}(h:Le w L w' L'){v:V}{x:Value}(r:RdP w L v x):RdP w' L' v x:=by induction r with |bool b=>exact .bool b|int k n=>exact .int k n|str s=>exact .str s|raw v hv=>exact .raw v hv|nilp=>exact .nilp|sl0 g a cap hg ha=>exact .sl0 g a cap hg ha|sl g rows s b o cap c ha hs hlen hlim hcap hg hc hr ih=>refine .sl g rows s b o cap c ha hs hlen (B3 hlim (h.lim b)) hcap hg (λi j hi hj=>?_) ih;rw[h.cell b _ (by have:=xV7 hi hj;omega)];exact hc i j hi hj
theorem RdP.oneCell{w:World}{L:Nat->Nat}{v:V}{x:Value}(r:RdP w L v x):x.oneCell'=true:=by cases r<;>first|rfl|assumption
inductive Ob where|box(cells:List V)|app(n s:Nat)|lst(rows:List (List V))(s:Nat)|dead|mp(kvs:List V)(borns:List Nat)(clk:Nat)|it(m:Option Nat)(since:Nat)(seen:List Nat)(last:Nat)
abbrev St:=List Ob
def RdK(w:World)(L:Nat->Nat)(σ:St)(β:List Value):V->Value->Prop |.u,x=>x.oneCell'=true|.ptr id off,x=>∃b,β[id]?=some (.pointer (some ⟨b,0,none⟩))/\x=.pointer (some ⟨b,off,none⟩)|.sl (.app id) rows,x=>RdP w L (.sl .ro rows) x/\∃n s,σ[id]?=some (.app n s)/\rows.length<=n/\(rows.length=n->β[id]?=some x)/\(∀r∈rows,r.length=s)|.elp cells off,x=>∃(b o:Nat)(c:Nat->Value),x=.pointer (some ⟨b,o+off,none⟩)/\o+cells.length<=L b/\∀j(hj:j<cells.length),w.cell? ⟨b,o+j,none⟩=some (c j)/\RdP w L cells[j] (c j)|.lsv id s n lo m,x=>∃a cap,x=.slice a m cap/\(m<=cap/\n<=lo+cap)/\(0<cap->∃b o,a=some ⟨b,o,none⟩)/\(σ[id]?=some .dead∨∃rows,σ[id]?=some (.lst rows s)/\n<=rows.length/\(n=rows.length->∃b c0,β[id]?=some (.slice b n c0)/\cap=c0-lo/\lo<=c0/\(lo<c0->∃k,b=some ⟨k,0,none⟩/\a=some ⟨k,lo*s,none⟩)))|.lsp id s n k j,x=>∃b o,x=.pointer (some ⟨b,o,none⟩)/\(σ[id]?=some .dead∨∃rows,σ[id]?=some (.lst rows s)/\n<=rows.length/\(n=rows.length->k<n->∃c0,β[id]?=some (.slice (some ⟨b,0,none⟩) n c0)/\o=k*s+j))|.bsv id _ off n,x=>∃b,β[id]?=some (.pointer (some ⟨b,0,none⟩))/\x=.slice (some ⟨b,off,none⟩) n n|.mp id,x=>∃b,β[id]?=some (.pointer (some ⟨b,0,none⟩))/\x=.map (some b)|.fn _ _,_=>False|.agg _,_=>False|.tup _,_=>False|.ifc _ _,_=>False|v,x=>RdP w L v x
def RdC(w:World)(L:Nat->Nat)(σ:St)(β:List Value):V->Value->Prop |.fn f caps,x=>∃xs:List Value,x=.func (.func f) #[] xs.toArray/\All2 (RdK w L σ β) caps xs|.ifc t vs,x=>∃y,x=.iface t y/\All2 (RdK w L σ β) vs [y]|v,x=>RdK w L σ β v x
def RdA(w:World)(L:Nat->Nat)(σ:St)(β:List Value):V->Value->Prop |.agg cs,x=>∃xs:List Value,x=.agg xs.toArray/\All2 (RdC w L σ β) cs xs|v,x=>RdC w L σ β v x
def RdS(w:World)(L:Nat->Nat)(σ:St)(β:List Value):V->Value->Prop |.u,_=>True|.tup vs,x=>∃xs:List Value,x=.tuple xs.toArray/\All2 (RdA w L σ β) vs xs|v,x=>RdA w L σ β v x
structure Ext(σ:St)(β:List Value)(σ':St)(β':List Value):Prop where ptr:∀(id:Nat)a,β[id]?=some (.pointer a)->β'[id]?=some (.pointer a)app:∀(id:Nat)n s,σ[id]?=some (.app n s)->∃n',σ'[id]?=some (.app n' s)/\n<=n'/\(n'=n->β'[id]?=β[id]?)lst:∀(id:Nat)rows s,σ[id]?=some (.lst rows s)->σ'[id]?=some .dead∨∃rows',σ'[id]?=some (.lst rows' s)/\rows.length<=rows'.length/\(rows'.length=rows.length->β'[id]?=β[id]?)dead:∀(id:Nat),σ[id]?=some .dead->σ'[id]?=some .dead
theorem Ext.refl(σ:St)(β:List Value):Ext σ β σ β:=⟨λ_ _ h=>h,λ_ n _ h=>⟨n,h,A3 _,λ_=>rfl⟩,λ_ rows _ h=>.inr ⟨rows,h,A3 _,λ_=>rfl⟩,λ_ h=>h⟩
theorem Ext.trans{σ1 σ2 σ3:St}{β1 β2 β3:List Value}(h:Ext σ1 β1 σ2 β2)(k:Ext σ2 β2 σ3 β3):Ext σ1 β1 σ3 β3:=by
 refine⟨λid a e=>k.ptr id a (h.ptr id a e),λid n s e=>?_,λid rows s e=>?_,λid e=>k.dead id (h.dead id e)⟩;.obtain⟨n2,e2,l2,p2⟩:=h.app id n s e;obtain⟨n3,e3,l3,p3⟩:=k.app id n2 s e2;exact⟨n3,e3,B3 l2 l3,λq=>by have:n2=n:=om;rw[p3 om,p2 this]⟩
 .rcases h.lst id rows s e with e2|⟨r2,e2,l2,p2⟩;.exact .inl (k.dead id e2)
  .rcases k.lst id r2 s e2 with e3|⟨r3,e3,l3,p3⟩;.exact .inl e3
   .exact .inr ⟨r3,e3,B3 l2 l3,λq=>by rw[p3 om,p2 om]⟩
section
variable{w w':World}{L L':Nat->Nat}{σ σ':St}{β β':List Value}
variable {x:Value}
theorem RdK.mono(h:Le w L w' L')(k:Ext σ β σ' β'){v:V}(r:RdK w L σ β v x):RdK w' L' σ' β' v x:=by cases v with
 |u=>exact r|ptr id off=>obtain⟨b,hb,hx⟩:=r;exact⟨b,k.ptr _ _ hb,hx⟩|sl g rows=>cases g with |app id=>obtain⟨hr,n,s,hσ,hle,hβ,hl⟩:=r;obtain⟨n',ab,hn,aa⟩:=k.app id n s hσ;refine⟨hr.mono h,n',s,ab,B3 hle hn,λe=>?_,hl⟩;have:n'=n:=om;rw[aa this];exact hβ om|ro=>exact RdP.mono h r|full=>exact RdP.mono h r
 |elp cells off=>obtain⟨b,o,c,hx,hl,hc⟩:=r;refine⟨b,o,c,hx,B3 hl (h.lim b),λj hj=>?_⟩;obtain⟨h1,h2⟩:=hc j hj;exact⟨by rw[h.cell b _ om];exact h1,h2.mono h⟩|lsv id s n lo m=>
  obtain⟨a,cap,hx,hm,ha,hc⟩:=r;refine⟨a,cap,hx,hm,ha,?_⟩;rcases hc with hd|⟨rows,hσ,hn,hb⟩;.exact .inl (k.dead id hd)
  .rcases k.lst id rows s hσ with hd|⟨r2,e2,l2,p2⟩;.exact .inl hd
   .refine .inr ⟨r2,e2,B3 hn l2,λq=>?_⟩;rw[p2 om];exact hb om|lsp id s n i j=>
  obtain⟨b,o,hx,hc⟩:=r;refine⟨b,o,hx,?_⟩;rcases hc with hd|⟨rows,hσ,hn,hb⟩;.exact .inl (k.dead id hd)
  .rcases k.lst id rows s hσ with hd|⟨r2,e2,l2,p2⟩;.exact .inl hd
   .refine .inr ⟨r2,e2,B3 hn l2,λq=>?_⟩;rw[p2 om];exact hb om|bsv id s off n=>obtain⟨b,hb,hx⟩:=r;exact⟨b,k.ptr _ _ hb,hx⟩|mp id=>obtain⟨b,hb,hx⟩:=r;exact⟨b,k.ptr _ _ hb,hx⟩|fn f caps=>exact r|ifc t v=>exact r|agg cs=>exact r|tup vs=>exact r|bool b=>exact RdP.mono h r|int k n=>exact RdP.mono h r|str s=>exact RdP.mono h r|raw v=>exact RdP.mono h r|nilp=>exact RdP.mono h r
theorem RdC.mono(h:Le w L w' L')(k:Ext σ β σ' β'){v:V}(r:RdC w L σ β v x):RdC w' L' σ' β' v x:=by cases v with |fn f caps=>obtain⟨xs,hx,hc⟩:=r;exact⟨xs,hx,hc.imp λ_ _=>RdK.mono h k⟩|ifc t v=>obtain⟨y,hx,hc⟩:=r;exact⟨y,hx,hc.imp λ_ _=>RdK.mono h k⟩|_=>simp only[RdC]at r⊢;exact RdK.mono h k r
theorem RdA.mono(h:Le w L w' L')(k:Ext σ β σ' β'){v:V}(r:RdA w L σ β v x):RdA w' L' σ' β' v x:=by cases v with |agg cs=>obtain⟨xs,hx,hc⟩:=r;exact⟨xs,hx,hc.imp λ_ _=>RdC.mono h k⟩|_=>simp only[RdA]at r⊢;exact RdC.mono h k r
theorem RdS.mono(h:Le w L w' L')(k:Ext σ β σ' β'){v:V}(r:RdS w L σ β v x):RdS w' L' σ' β' v x:=by cases v with |u=>trivial|tup vs=>obtain⟨xs,hx,hc⟩:=r;exact⟨xs,hx,hc.imp λ_ _=>RdA.mono h k⟩|_=>simp only[RdS]at r⊢;exact RdA.mono h k r
theorem RdK.oneCell{v:V}(r:RdK w L σ β v x):x.oneCell'=true:=by cases v with
 |u=>exact r|ptr id off=>obtain⟨b,_,rfl⟩:=r;rfl|sl g rows=>cases g with |app id=>exact r.1.oneCell|ro=>exact RdP.oneCell r|full=>exact RdP.oneCell r
 |elp cells off=>obtain⟨b,o,c,rfl,_⟩:=r;rfl|lsv id s n lo m=>obtain⟨a,cap,rfl,_⟩:=r;rfl|lsp id s n k j=>obtain⟨b,o,rfl,_⟩:=r;rfl|bsv id s off n=>obtain⟨b,_,rfl⟩:=r;rfl|mp id=>obtain⟨b,_,rfl⟩:=r;rfl|fn f caps=>exact r.elim|ifc t v=>exact r.elim|agg cs=>exact r.elim|tup vs=>exact r.elim|_=>simp only[RdK]at r;exact RdP.oneCell r
theorem RdC.oneCell{v:V}(r:RdC w L σ β v x):x.oneCell'=true:=by cases v with |fn f caps=>obtain⟨xs,rfl,_⟩:=r;rfl|ifc t v=>obtain⟨y,rfl,_⟩:=r;rfl|_=>simp only[RdC]at r;exact RdK.oneCell r
theorem RdC.of_pure{v:V}(r:RdP w L v x):RdC w L σ β v x:=by cases r with
 |sl0 g a cap hg ha=>cases g with |app id=>exact absurd rfl (ha id)|ro=>exact .sl0 _ a cap hg ha|full=>exact .sl0 _ a cap hg ha
 |sl g rows s b o cap c ha hs hlen hlim hcap hg hc hr=>cases g with |app id=>exact absurd rfl (ha id)|ro=>exact .sl _ rows s b o cap c ha hs hlen hlim hcap hg hc hr|full=>exact .sl _ rows s b o cap c ha hs hlen hlim hcap hg hc hr
 |bool b=>exact RdP.bool b|int k n=>exact RdP.int k n|str s=>exact RdP.str s|raw _ hv=>exact RdP.raw _ hv|nilp=>exact RdP.nilp
theorem RdA.of_cell{v:V}(r:RdC w L σ β v x):RdA w L σ β v x:=by cases v<;>first|exact r|(simp only[RdA];exact r)|exact r.elim
theorem RdS.of_cell{v:V}(r:RdC w L σ β v x):RdS w L σ β v x:=by cases v<;>first|exact r|exact r.elim|trivial
theorem RdS.of_a{v:V}(r:RdA w L σ β v x):RdS w L σ β v x:=by cases v<;>first|exact r|exact r.elim|trivial
end
variable{w:World}{L:Nat->Nat}{w':World}{L':Nat->Nat}{σ:St}{β:List Value}
theorem eX{α:Sort _}(a:α):∃b,a=b:=⟨a,rfl⟩
def tabs:List (Nat×List V):= []
def vints:List (Nat×IntKind):=[(0,.i64)]
abbrev Env:=Nat->V
def upd(e:Env)(d:Nat)(v:V):Env:=λt=>if t=d then v else e t
def env0:Env:=fun _=> .u
structure Ctx where
 w0:World
 L0:Nat->Nat
 X0:List Nat
 σ0:St
 β0:List Value
def excl:Ob->Value->Option Nat |.box _,.pointer (some a)=>some a.block|.app n _,.slice (some a) _ cap=>if n<cap then some a.block else none|.lst _ _,.slice (some a) _ cap=>if 0<cap then some a.block else none|.mp _ _ _,.pointer (some a)=>some a.block|.it _ _ _ _,.pointer (some a)=>some a.block|_,_=>none
def zs3(arr:Array Value)(fz:Nat×Nat):Prop:=∀o,o<arr.size->¬(fz.1<=o/\o<fz.2)
def unfrozenL(s:Nat)(arr:Array Value)(fz:Nat×Nat):Prop:=zs3 arr fz/\(s=1∨¬(fz.1<=arr.size/\arr.size<fz.2))
def zw2(es:Array MapEntry):List Value:=es.toList.flatMap λe=>[e.key,e.val]
theorem zZ9(s:Nat)(arr:Array Value):unfrozenL s arr (0,0):=⟨λq _ hq=>by simp at hq,.inr λh=>by simp at h⟩
theorem unfrozenL.size{s:Nat}{arr aa:Array Value}{fz:Nat×Nat}(h:unfrozenL s arr fz)(e:aa.size=arr.size):unfrozenL s aa fz:=⟨λq hq=>h.1 q om,by rw[e];exact h.2⟩
def ObOk(w:World)(L:Nat->Nat)(σ:St)(β:List Value):Ob->Value->Prop |.box cells,x=>∃b arr T fz,x=.pointer (some ⟨b,0,none⟩)/\w.heap[b]?=some (.cells arr T fz)/\zs3 arr fz/\L b=0/\All2 (RdC w L σ β) cells arr.toList|.app n s,x=>∃a cap,x=.slice a n cap/\n<=cap/\0<s/\(n<cap->∃b o arr T fz,a=some ⟨b,o,none⟩/\w.heap[b]?=some (.cells arr T fz)/\zs3 arr fz/\o+cap*s<=arr.size/\L b=o+n*s)|.lst rows s,x=>∃a cap,x=.slice a rows.length cap/\rows.length<=cap/\0<s/\(∀r∈rows,r.length=s)/\(0<cap->∃b arr T fz,a=some ⟨b,0,none⟩/\w.heap[b]?=some (.cells arr T fz)/\unfrozenL s arr fz/\cap*s<=arr.size/\L b=0/\All2 (RdC w L σ β) rows.flatten (arr.toList.take (rows.length*s)))|.dead,_=>True|.mp kvs borns clk,x=>∃b es,x=.pointer (some ⟨b,0,none⟩)/\w.heap[b]?=some (.map es clk)/\L b=0/\All2 (RdA w L σ β) kvs (zw2 es)/\es.toList.map (·.born)=borns|.it m since seen last,x=>∃b mo,x=.pointer (some ⟨b,0,none⟩)/\w.heap[b]?=some (.mapIter mo since seen.toArray last)/\L b=0/\(match m with|none=>mo=none|some id=>∃r,β[id]?=some (.pointer (some ⟨r,0,none⟩))/\mo=some r)
def TabAt(w:World)(L:Nat->Nat)(g:Nat)(cells:List V):Prop:=cells.length<=L g/\∃c:Nat->Value,∀j(hj:j<cells.length),w.cell? ⟨g,j,none⟩=some (c j)/\RdP w L cells[j] (c j)
theorem TabAt.mono(h:Le w L w' L'){g:Nat}{cells:List V}(r:TabAt w L g cells):TabAt w' L' g cells:=by obtain⟨h1,c,h2⟩:=r;refine⟨B3 h1 (h.lim g),c,λj hj=>?_⟩;obtain⟨h3,h4⟩:=h2 j hj;exact⟨by rw[h.cell g j om];exact h3,h4.mono h⟩
theorem TabAt.rd{g:Nat}{cells:List V}(r:TabAt w L g cells):RdK w L σ β (.elp cells 0) (.pointer (some ⟨g,0,none⟩)):=by obtain⟨h1,c,h2⟩:=r;exact⟨g,0,c,rfl,om,λj hj=>by rw[Ab];exact h2 j hj⟩
structure GlobOk(w:World)(L:Nat->Nat):Prop where tab:∀p∈tabs,TabAt w L p.1 p.2num:∀p∈vints,1<=L p.1/\∃m,w.cell? ⟨p.1,0,none⟩=some (.int p.2 m)
theorem GlobOk.mono(h:Le w L w' L')(r:GlobOk w L):GlobOk w' L':=by refine⟨λp hp=>(r.tab p hp).mono h,λp hp=>?_⟩;obtain⟨h1,m,h2⟩:=r.num p hp;exact⟨B3 h1 (h.lim _),m,by rw[h.cell _ 0 om];exact h2⟩
structure Mem(c:Ctx)(w:World)(L:Nat->Nat)(σ:St)(β:List Value):Prop where
 len:β.length=σ.length
 objs:∀(i:Nat)o x,σ[i]?=some o->β[i]?=some x->ObOk w L σ β o x
 apart:∀(i j:Nat)o o' x x' b,i≠j->σ[i]?=some o->β[i]?=some x->σ[j]?=some o'->β[j]?=some x'->excl o x=some b->excl o' x'≠some b
 mine:∀(i:Nat)o x b,σ[i]?=some o->β[i]?=some x->excl o x=some b->c.w0.heap.size<=b∨b∈c.X0
 same:∀b,b<c.w0.heap.size->b∉c.X0->w.heap[b]?=c.w0.heap[b]?/\L b=c.L0 b
 le:Le c.w0 c.L0 w L
 size:c.w0.heap.size<=w.heap.size
 os:w.os=c.w0.os
 tape:w.tape=c.w0.tape
 output:w.output=c.w0.output
 drawn:c.w0.drawn<=w.drawn
 lim:∀b,w.heap.size<=b->L b=0
 ext:Ext c.σ0 c.β0 σ β
 tab:GlobOk c.w0 c.L0
theorem ObOk.step{σ':St}{β':List Value}{o:Ob}{x:Value}(h:Le w L w' L')(k:Ext σ β σ' β')(hb:∀b,excl o x=some b->w'.heap[b]?=w.heap[b]?/\L' b=L b)(r:ObOk w L σ β o x):ObOk w' L' σ' β' o x:=by cases o with |box cells=>obtain⟨b,arr,T,fz,rfl,hh,hf,hl,hc⟩:=r;obtain⟨e1,e2⟩:=hb b rfl;exact⟨b,arr,T,fz,rfl,e1.trans hh,hf,e2.trans hl,hc.imp λ_ _=>RdC.mono h k⟩|app n s=>obtain⟨a,cap,rfl,hn,hs,hx⟩:=r;refine⟨a,cap,rfl,hn,hs,λaa=>?_⟩;obtain⟨b,o,arr,T,fz,rfl,hh,hf,ab,hl⟩:=hx aa;obtain⟨e1,e2⟩:=hb b (by simp[excl,aa]);exact⟨b,o,arr,T,fz,rfl,e1.trans hh,hf,ab,e2.trans hl⟩|lst rows s=>obtain⟨a,cap,rfl,hn,hs,hu,hx⟩:=r;refine⟨a,cap,rfl,hn,hs,hu,λaa=>?_⟩;obtain⟨b,arr,T,fz,rfl,hh,hf,ab,hl,hc⟩:=hx aa;obtain⟨e1,e2⟩:=hb b (by simp[excl,aa]);exact⟨b,arr,T,fz,rfl,e1.trans hh,hf,ab,e2.trans hl,hc.imp λ_ _=>RdC.mono h k⟩|dead=>trivial|mp kvs borns clk=>obtain⟨b,es,rfl,hh,hl,hc,ad⟩:=r;obtain⟨e1,e2⟩:=hb b rfl;exact⟨b,es,rfl,e1.trans hh,e2.trans hl,hc.imp λ_ _=>RdA.mono h k,ad⟩|it m since seen last=>obtain⟨b,mo,rfl,hh,hl,hc⟩:=r;obtain⟨e1,e2⟩:=hb b rfl;refine⟨b,mo,rfl,e1.trans hh,e2.trans hl,?_⟩;cases m with |none=>exact hc|some id=>obtain⟨q,hq,hm⟩:=hc;exact⟨q,k.ptr _ _ hq,hm⟩
theorem ObOk.excl_lt{o:Ob}{x:Value}{b:Nat}(r:ObOk w L σ β o x)(h:excl o x=some b):b<w.heap.size:=by cases o with
 |box cells=>obtain⟨b',arr,T,fz,rfl,hh,_⟩:=r;simp[excl]at h;subst h;exact(Ao.1 hh).1|app n s=>obtain⟨a,cap,rfl,hn,hs,hx⟩:=r;cases a with |none=>simp[excl]at h|some a=>
   by_cases aa:n<cap;.obtain⟨b',o,arr,T,fz,e,hh,_⟩:=hx aa;cases e;simp[excl,aa]at h;subst h;exact(Ao.1 hh).1
   .simp[excl,aa]at h |lst rows s=>obtain⟨a,cap,rfl,hn,hs,hu,hx⟩:=r;cases a with |none=>simp[excl]at h|some a=>
   by_cases aa:0<cap;.obtain⟨b',arr,T,fz,e,hh,_⟩:=hx aa;cases e;simp[excl,aa]at h;subst h;exact(Ao.1 hh).1
   .simp[excl,aa]at h |dead=>simp[excl]at h|mp kvs borns clk=>obtain⟨b',es,rfl,hh,_⟩:=r;simp[excl]at h;subst h;exact(Ao.1 hh).1|it m since seen last=>obtain⟨b',mo,rfl,hh,_⟩:=r;simp[excl]at h;subst h;exact(Ao.1 hh).1
section
variable{c:Ctx}{w:World}{L:Nat->Nat}{σ:St}{β:List Value}
variable {i:Nat}{α:Type}{cells:List V}
theorem Mem.drew(h:Mem c w L σ β):Mem c w.drew L σ β/\Le w L w.drew L:=by have hle:Le w L w.drew L:=⟨λ_=>A3 _,λ_ _ _=>rfl⟩;refine⟨⟨h.len,λi o x hi hx=>(h.objs i o x hi hx).step hle (Ext.refl _ _) λb hb=>⟨rfl,rfl⟩,h.apart,h.mine,h.same,h.le.trans hle,h.size,h.os,h.tape,h.output,Nat.le_succ_of_le h.drawn,h.lim,h.ext,h.tab⟩,hle⟩
def xD(L:Nat->Nat)(b n:Nat):Nat->Nat:=λk=>if k=b then n else L k
theorem yG(w:World)(o:Go.Obj):(w.alloc o).heap[w.heap.size]?=some o:=by show(w.heap.push o)[w.heap.size]?=_;simp
theorem zz9(w:World)(o:Go.Obj){k:Nat}(h:k<w.heap.size):(w.alloc o).heap[k]?=w.heap[k]?:=by show(w.heap.push o)[k]?=_;rw[Array.getElem?_push,if_neg om]
theorem zb7{w w':World}{b:Nat}(h:w'.heap[b]?=w.heap[b]?)(o:Nat):w'.cell? ⟨b,o,none⟩=w.cell? ⟨b,o,none⟩:=by simp[World.cell?,h]
theorem Mem.alloc(h:Mem c w L σ β)(o:Go.Obj)(m:Nat):Mem c (w.alloc o) (xD L w.heap.size m) σ β/\Le w L (w.alloc o) (xD L w.heap.size m):=by
 have hL:∀b,b<w.heap.size->xD L w.heap.size m b=L b:=λb hb=>by simp[xD];omega
 have hle:Le w L (w.alloc o) (xD L w.heap.size m):=by
  refine⟨λb=>?_,λb off ho=>?_⟩
  .by_cases hb:b=w.heap.size;.subst hb;rw[h.lim _ (A3 _)];exact A2 _
   .simp[xD,hb]
  .have hb:b<w.heap.size:=by
    rcases Cl b w.heap.size with hb|hb;.exact hb
    .rw[h.lim b hb]at ho;omega
   exact zb7 (zz9 w o hb) off
 refine⟨⟨h.len,λi ob x hi hx=>(h.objs i ob x hi hx).step hle (Ext.refl _ _) λb hb=>?_,h.apart,h.mine,λb hb hx=>?_,h.le.trans hle,?_,h.os,h.tape,h.output,h.drawn,λb hb=>?_,h.ext,h.tab⟩,hle⟩;.have aa:=(h.objs i ob x hi hx).excl_lt hb;exact⟨zz9 w o aa,hL b aa⟩
 .have aa:b<w.heap.size:=D3 hb h.size;rw[zz9 w o aa,hL b aa];exact h.same b hb hx
 .simp;have:=h.size;omega
 .simp at hb;simp[xD];rw[if_neg om];exact h.lim b om
theorem Ext.push(σ:St)(β:List Value)(hl:β.length=σ.length)(o:Ob)(x:Value):Ext σ β (σ++[o]) (β++[x]):=by
 refine⟨λid a e=>?_,λid n s e=>⟨n,?_,A3 _,λ_=>?_⟩,λid rows s e=>.inr ⟨rows,?_,A3 _,λ_=>?_⟩,λid e=>?_⟩;.rw[Aa (A1.1 e).1];exact e
 .rw[Aa (A1.1 e).1];exact e
 .rw[Aa (by rw[hl];exact(A1.1 e).1)]
 .rw[Aa (A1.1 e).1];exact e
 .rw[Aa (by rw[hl];exact(A1.1 e).1)]
 .rw[Aa (A1.1 e).1];exact e
theorem getElem?_push{l:List α}{a b:α}(h:(l++[a])[i]?=some b):(i<l.length/\l[i]?=some b)∨(i=l.length/\b=a):=by
 rcases Cl i l.length with hi|hi;.rw[Aa hi]at h;exact .inl ⟨hi,h⟩
 .rw[Ai hi]at h;have:i-l.length=0:=by
   by_cases e:i-l.length=0;.exact e
   .obtain⟨k,hk⟩:=Nat.exists_eq_succ_of_ne_zero e;rw[hk]at h;simp at h
  rw[this]at h;simp at h;exact .inr ⟨om,h.symm⟩
theorem Mem.push(h:Mem c w L σ β)(o:Ob)(x:Value)(ho:ObOk w L (σ++[o]) (β++[x]) o x)(ag:∀(i:Nat)o' x' b,σ[i]?=some o'->β[i]?=some x'->excl o' x'=some b->excl o x≠some b)(hm:∀b,excl o x=some b->c.w0.heap.size<=b∨b∈c.X0):Mem c w L (σ++[o]) (β++[x]):=by
 have ad:=Ext.push σ β h.len o x;refine⟨by simp[h.len],λi o' x' hi hx=>?_,λi j o1 o2 x1 x2 b aj hi ah hj ab hb=>?_,λi o' x' b hi hx hb=>?_,h.same,h.le,h.size,h.os,h.tape,h.output,h.drawn,h.lim,h.ext.trans ad,h.tab⟩
 .rcases getElem?_push hi with⟨hl,hi⟩|⟨hl,rfl⟩
  .rcases getElem?_push hx with⟨_,hx⟩|⟨aa,_⟩;.exact(h.objs i o' x' hi hx).step (Le.refl _ _) ad λb hb=>⟨rfl,rfl⟩
   .rw[h.len]at aa;omega
  .rcases getElem?_push hx with⟨aa,hx⟩|⟨_,rfl⟩;.rw[h.len]at aa;omega
   .exact ho
 .rcases getElem?_push hi with⟨hl,ai⟩|⟨hl,rfl⟩
  .rcases getElem?_push ah with⟨_,ae⟩|⟨aa,_⟩
   .rcases getElem?_push hj with⟨af,hj⟩|⟨af,rfl⟩
    .rcases getElem?_push ab with⟨_,ab⟩|⟨aa,_⟩;.exact h.apart i j o1 o2 x1 x2 b aj ai ae hj ab hb
     .rw[h.len]at aa;omega
    .rcases getElem?_push ab with⟨aa,_⟩|⟨_,rfl⟩;.rw[h.len]at aa;omega
     .exact ag i o1 x1 b ai ae hb
   .rw[h.len]at aa;omega
  .rcases getElem?_push ah with⟨aa,_⟩|⟨_,rfl⟩;.rw[h.len]at aa;omega
   .rcases getElem?_push hj with⟨af,hj⟩|⟨af,_⟩
    .rcases getElem?_push ab with⟨_,ab⟩|⟨aa,_⟩;.exactλe=>ag j o2 x2 b hj ab e hb
     .rw[h.len]at aa;omega
    .omega
 .rcases getElem?_push hi with⟨hl,hi⟩|⟨hl,rfl⟩
  .rcases getElem?_push hx with⟨_,hx⟩|⟨aa,_⟩;.exact h.mine i o' x' b hi hx hb
   .rw[h.len]at aa;omega
  .rcases getElem?_push hx with⟨aa,_⟩|⟨_,rfl⟩;.rw[h.len]at aa;omega
   .exact hm b hb
theorem Mem.box(h:Mem c w L σ β)(cells:List V)(arr:Array Value)(T:TypeId)(hc:All2 (RdC w L σ β) cells arr.toList):Mem c (w.alloc (.cells arr T)) L (σ++[.box cells]) (β++[.pointer (some ⟨w.heap.size,0,none⟩)])/\Le w L (w.alloc (.cells arr T)) L:=by
 have h1:=h.alloc (.cells arr T) 0;have hL:xD L w.heap.size 0=L:=by
  funext k;by_cases hk:k=w.heap.size;.subst hk;simp[xD,h.lim _ (A3 _)]
  .simp[xD,hk]
 rw[hL]at h1;refine⟨h1.1.push _ _ ⟨w.heap.size,arr,T,(0,0),rfl,yG _ _,λo _ h=>by simp at h,h.lim _ (A3 _),hc.imp λ_ _=>RdC.mono h1.2 (Ext.push σ β h.len _ _)⟩ ?_ ?_,h1.2⟩;.intro i o' x' b hi hx hb e;have:=(h.objs i o' x' hi hx).excl_lt hb;simp[excl]at e;omega
 .intro b hb;simp[excl]at hb;subst hb;exact .inl h.size
def yJ(w:World)(b:Nat)(o:Go.Obj):World:={w with heap:=w.heap.setIfInBounds b o}
theorem xV(w:World)(b:Nat)(o:Go.Obj)(hb:b<w.heap.size):(yJ w b o).heap[b]?=some o:=by simp[yJ,hb]
theorem zd9(w:World)(b k:Nat)(o:Go.Obj)(hk:k≠b):(yJ w b o).heap[k]?=w.heap[k]?:=by simp[yJ,Dg];intro e;exact absurd e.symm hk
def xI(arr:Array Value)(k:Nat):List Value->Array Value |[]=>arr|v::vs=>xI (arr.setIfInBounds k v) (k+1) vs
theorem xJ:∀(vs:List Value)(arr:Array Value)(k:Nat),(xI arr k vs).size=arr.size|[],_,_=>rfl|v::vs,arr,k=>by simp[xI,xJ vs]
theorem zg4:∀(vs:List Value)(arr:Array Value)(k:Nat)(i:Nat),k+vs.length<=arr.size->(xI arr k vs)[i]?=if k<=i/\i<k+vs.length then vs[i-k]?else arr[i]?
 |[],arr,k,i,_=>by simp[xI];omega|v::vs,arr,k,i,h=>by
  simp only[Ah]at h⊢;rw[xI,zg4 vs _ _ _ (by simp;omega)];by_cases h1:k+1<=i/\i<k+1+vs.length;.rw[if_pos h1,if_pos om];rw[show i-k=(i-(k+1))+1by omega];simp
  .rw[if_neg h1];by_cases h2:i=k;.subst h2;rw[if_pos om];simp[Dg];omega
   .rw[if_neg om];simp[Dg];intro e;exact absurd e.symm h2
theorem yV9(w:World)(b off:Nat)(v:Value)(cur:Array Value)(T:TypeId)(fz:Nat×Nat)(hb:w.heap[b]?=some (.cells cur T fz)):w.setCell ⟨b,off,none⟩ v=yJ w b (.cells (cur.setIfInBounds off v) T fz):=by
 obtain⟨aa,hv⟩:=Ao.1 hb;unfold World.setCell yJ;congr 1;apply Array.ext_getElem?;intro i;simp only[Dz,Dg];by_cases hi:b=i;.subst hi;simp[aa,hv]
 .simp[hi]
theorem yo6(w:World)(b:Nat)(o o':Go.Obj):yJ (yJ w b o) b o'=yJ w b o':=by simp[yJ]
theorem yN6(w:World)(b:Nat)(o:Go.Obj)(hb:w.heap[b]?=some o):yJ w b o=w:=by
 obtain⟨aa,hv⟩:=Ao.1 hb;unfold yJ;have:w.heap.setIfInBounds b o=w.heap:=by
  apply Array.ext_getElem?;intro i;simp only[Dg];by_cases hi:b=i;.subst hi;simp[aa,hv]
  .simp[hi]
 rw[this]
theorem wE(b o n:Nat):Addr.add ⟨b,o,none⟩ n=⟨b,o+n,none⟩:=by
 unfold Addr.add;by_cases h:n=0;.subst h;rfl
 .simp[h]
theorem wD(P:Program)(b o:Nat)(T:TypeId)(fz:Nat×Nat):∀(vs:List Value)(i:Nat)(cur:Array Value)(w:World),w.heap[b]?=some (.cells cur T fz)->zs3 cur fz->o+i+vs.length<=cur.size->(∀v∈vs,v.oneCell'=true)->(storeCells ⟨b,o,none⟩ vs i).run P w=.ok () (yJ w b (.cells (xI cur (o+i) vs) T fz))
 |[],i,cur,w,hb,_,_,_=>by rw[storeCells,xI,yN6 _ _ _ hb];rfl|v::vs,i,cur,w,hb,hu,hl,hv=>by
  simp only[Ah]at hl;have hc:w.cell? ⟨b,o+i,none⟩=some (cur[o+i]'om):=by simp[World.cell?,hb]
  have hf:w.frozen? ⟨b,o+i,none⟩=false:=by
   have:=hu (o+i) om;simp only[World.frozen?,hb];by_cases h1:fz.1<=o+i;.have:¬(o+i<fz.2):=λh2=>this ⟨h1,h2⟩;simp[this]
   .simp[h1]
  obtain⟨aa,_⟩:=Ao.1 hb;rw[storeCells];simp only[Sem.run_bind,wE];rw[run_store P w ⟨b,o+i,none⟩ v .plain (hv v sm)];simp only[hc,hf,if_false,Bj,Result.andThen_ok];rw[yV9 w b (o+i) v cur T fz hb];have ih:=wD P b o T fz vs (i+1) (cur.setIfInBounds (o+i) v) (yJ w b (.cells (cur.setIfInBounds (o+i) v) T fz)) (xV _ _ _ aa) (λk hk=>hu k (by simpa using hk)) (by simp;omega) (λx hx=>hv x (by simp[hx]));rw[ih,yo6];rfl
theorem wX{l:List α}{j:Nat}{a b:α}(h:(l.set i a)[j]?=some b):(j=i/\b=a/\i<l.length)∨(j≠i/\l[j]?=some b):=by
 rw[List.getElem?_set]at h;by_cases e:i=j
 .rw[if_pos e]at h;by_cases hl:i<l.length;.rw[if_pos hl]at h;simp at h;exact .inl ⟨e.symm,h.symm,hl⟩
  .rw[if_neg hl]at h;simp at h
 .rw[if_neg e]at h;exact .inr ⟨λq=>e q.symm,h⟩
theorem Mem.upd(h:Mem c w L σ β){w':World}{L':Nat->Nat}(i:Nat)(o:Ob)(x:Value)(hle:Le w L w' L')(ag:Ext σ β (σ.set i o) (β.set i x))(D:Nat->Prop)(hD:∀(j:Nat)o' x' b,j≠i->σ[j]?=some o'->β[j]?=some x'->excl o' x'=some b->¬D b)(an:∀b,D b->c.w0.heap.size<=b∨b∈c.X0)(ah:∀b,¬D b->w'.heap[b]?=w.heap[b]?/\L' b=L b)(ao:w'.heap.size=w.heap.size)(aw:w'.os=w.os)(aj:w'.tape=w.tape)(aq:w'.output=w.output)(hlim:∀b,w.heap.size<=b->L' b=0)(hok:ObOk w' L' (σ.set i o) (β.set i x) o x)(hex:∀b,excl o x=some b->D b)(ax:w.drawn<=w'.drawn:=by exact A3 _):Mem c w' L' (σ.set i o) (β.set i x):=by
 refine⟨by simp[h.len],λj o' x' hj hx=>?_,λj k o1 o2 x1 x2 b ar hj au hk ak hb=>?_,λj o' x' b hj hx hb=>?_,λb hb hx=>?_,h.le.trans hle,by rw[ao];exact h.size,aw.trans h.os,aj.trans h.tape,aq.trans h.output,B3 h.drawn ax,λb hb=>hlim b (by rw[<-ao];exact hb),h.ext.trans ag,h.tab⟩
 .rcases wX hj with⟨rfl,rfl,hl⟩|⟨aa,ab⟩
  .rcases wX hx with⟨_,rfl,_⟩|⟨aa,_⟩;.exact hok
   .exact absurd rfl aa
  .rcases wX hx with⟨e,_,_⟩|⟨_,af⟩;.exact absurd e aa
   .exact(h.objs j o' x' ab af).step hle ag λb hb=>ah b (hD j o' x' b aa ab af hb)
 .rcases wX hj with⟨rfl,rfl,hl⟩|⟨aa,ab⟩
  .rcases wX au with⟨_,rfl,_⟩|⟨aa,_⟩
   .rcases wX hk with⟨e,_,_⟩|⟨ad,al⟩;.exact absurd e.symm ar
    .rcases wX ak with⟨e,_,_⟩|⟨_,ae⟩;.exact absurd e ad
     .exactλe=>hD k o2 x2 b ad al ae e (hex b hb)
   .exact absurd rfl aa
  .rcases wX au with⟨e,_,_⟩|⟨_,ai⟩;.exact absurd e aa
   .rcases wX hk with⟨rfl,rfl,_⟩|⟨ad,al⟩
    .rcases wX ak with⟨_,rfl,_⟩|⟨av,_⟩;.exactλe=>hD j o1 x1 b aa ab ai hb (hex b e)
     .exact absurd rfl av
    .rcases wX ak with⟨e,_,_⟩|⟨_,ae⟩;.exact absurd e ad
     .exact h.apart j k o1 o2 x1 x2 b ar ab ai al ae hb
 .rcases wX hj with⟨rfl,rfl,hl⟩|⟨aa,ab⟩
  .rcases wX hx with⟨_,rfl,_⟩|⟨aa,_⟩;.exact an b (hex b hb)
   .exact absurd rfl aa
  .rcases wX hx with⟨e,_,_⟩|⟨_,af⟩;.exact absurd e aa
   .exact h.mine j o' x' b ab af hb
 .have ay:¬D b:=λhd=>by
   rcases an b hd with h1|h1;.omega
   .exact hx h1
  obtain⟨e1,e2⟩:=ah b ay;obtain⟨e3,e4⟩:=h.same b hb hx;exact⟨e1.trans e3,e2.trans e4⟩
theorem Ext.setBox(hi:σ[i]?=some (Ob.box cells))(aa:List V):Ext σ β (σ.set i (.box aa)) β:=by refine⟨λ_ _ e=>e,λid n s e=>⟨n,?_,A3 _,λ_=>rfl⟩,λid rows s e=>.inr ⟨rows,?_,A3 _,λ_=>rfl⟩,λid e=>?_⟩;all_goals
  have:i≠id:=λq=>by subst q;rw[hi]at e;simp at e
  rw[Ad this];exact e
def putCells(cells:List V)(off:Nat)(vs:List V):List V:=cells.take off++vs++cells.drop (off+vs.length)
theorem yE(l:List α)(i:Nat)(a:α)(h:l[i]?=some a):l.set i a=l:=by
 apply Bx;intro j;rw[List.getElem?_set];by_cases e:i=j;.subst e;rw[if_pos rfl,h,if_pos (A1.1 h).1]
 .rw[if_neg e]
theorem yA2(cells vs:List V)(off i:Nat)(h:off+vs.length<=cells.length):(putCells cells off vs)[i]?=if off<=i/\i<off+vs.length then vs[i-off]?else cells[i]?:=by
 unfold putCells;have ht:(cells.take off).length=off:=by simp;omega
 by_cases h1:i<off;.rw[if_neg om,Bp,Aa om,Ae,if_pos h1]
 .by_cases h2:i<off+vs.length;.rw[if_pos om,Aa (by simp;omega),Ai om,ht]
  .rw[if_neg om,Ai (by simp;omega)];simp only[B2,ht,B5];congr 1;omega
theorem zG3(cells vs:List V)(off:Nat)(h:off+vs.length<=cells.length):(putCells cells off vs).length=cells.length:=by simp[putCells];omega
theorem zX2{R:V->Value->Prop}{vs:List V}{arr:Array Value}{xs:List Value}{off:Nat}(h:All2 R cells arr.toList)(hv:All2 R vs xs)(hl:off+vs.length<=cells.length):All2 R (putCells cells off vs) (xI arr off xs).toList:=by
 have e1:=h.length;have e2:=hv.length;simp at e1;refine All2.of (by rw[zG3 _ _ _ hl];simp[xJ,e1]) λi a b ha hb=>?_;rw[yA2 _ _ _ _ hl]at ha;rw[Ak,zg4 _ _ _ _ om,<-e2]at hb;by_cases hc:off<=i/\i<off+vs.length;.rw[if_pos hc]at ha hb;obtain⟨y,hy,r⟩:=hv.get _ _ ha;rw[hb]at hy;cases hy;exact r
 .rw[if_neg hc]at ha hb;obtain⟨y,hy,r⟩:=h.get _ _ ha;rw[Ak,hb]at hy;cases hy;exact r
theorem Mem.setBox(h:Mem c w L σ β){vs:List V}{xs:List Value}{off b:Nat}(hi:σ[i]?=some (.box cells))(hβ:β[i]?=some (.pointer (some ⟨b,0,none⟩)))(hv:All2 (RdC w L σ β) vs xs)(hl:off+vs.length<=cells.length):∃arr T fz,w.heap[b]?=some (.cells arr T fz)/\zs3 arr fz/\arr.size=cells.length/\Mem c (yJ w b (.cells (xI arr off xs) T fz)) L (σ.set i (.box (putCells cells off vs))) β/\Le w L (yJ w b (.cells (xI arr off xs) T fz)) L:=by
 have hok:=h.objs i _ _ hi hβ;obtain⟨b',arr,T,fz,e,hh,hf,h0,hc⟩:=hok;cases e;have ad:b<w.heap.size:=(Ao.1 hh).1;have hle:Le w L (yJ w b (.cells (xI arr off xs) T fz)) L:=by refine⟨λ_=>A3 _,λk o ho=>zb7 (zd9 w b k _ λq=>?_) o⟩;subst q;rw[h0]at ho;omega
 refine⟨arr,T,fz,hh,hf,by have:=hc.length;simpa using this.symm,?_,hle⟩;have aa:=yE β i _ hβ;have ab:Ext σ β (σ.set i (.box (putCells cells off vs))) β:=Ext.setBox hi _;have key:=h.upd (w':=yJ w b (.cells (xI arr off xs) T fz)) (L':=L) i (.box (putCells cells off vs)) (.pointer (some ⟨b,0,none⟩)) hle (by rw[aa];exact ab) (λk=>k=b) (λj o' x' k hj ae af hk e=>by subst e;exact h.apart j i o' _ x' _ k hj ae af hi hβ hk rfl) (λk e=>by subst e;exact h.mine i _ _ k hi hβ rfl) (λk hk=>⟨zd9 w b k _ hk,rfl⟩) (by simp[yJ]) rfl rfl rfl h.lim ?_ (λk hk=>by simpa[excl]using hk.symm);.rw[aa]at key;exact key
 .rw[aa];refine⟨b,_,T,fz,rfl,xV _ _ _ ad,λo ho=>hf o (by rw[xJ]at ho;exact ho),h0,?_⟩;exact(zX2 hc hv hl).imp λ_ _=>RdC.mono hle ab
end
variable{w:World}{L:Nat->Nat}{g:Tag}{x:Value}
def uni(s:Nat)(rows:List (List V)):Prop:=∀r∈rows,r.length=s
theorem zW{α:Type}{s:Nat}:∀{rows:List (List α)},(∀r∈rows,r.length=s)->rows.flatten.length=rows.length*s
 |[],_=>by simp|r::rows,h=>by have:=zW (rows:=rows) λx hx=>h x (by simp[hx]);rw[Ce,B2,this,h r sm,Ah,Am,Bl,E8]
theorem yK{α:Type}{s:Nat}:∀{rows:List (List α)}(i j:Nat),(∀r∈rows,r.length=s)->j<s->rows.flatten[i*s+j]?=(rows[i]?).bind λr=>r[j]?
 |[],i,j,_,_=>by simp|r::rows,0,j,h,hj=>by rw[Ce,Cf,Ab,Aa (by rw[h r sm];exact hj)];rfl|r::rows,i+1,j,h,hj=>by have hr:=h r sm;rw[Ce,Ai (by rw[hr,Am];omega),hr,show(i+1)*s+j-s=i*s+j by rw[Am];omega,yK i j (λx hx=>h x (by simp[hx])) hj];simp
theorem RdP.of_flat{rows:List (List V)}{s b o cap:Nat}(hs:0<s)(hu:uni s rows)(hlim:o+rows.length*s<=L b)(hcap:rows.length<=cap)(ha:∀id,g≠.app id)(hg:g=.full->cap=rows.length)(h:∀(k:Nat)v,rows.flatten[k]?=some v->∃x,w.cell? ⟨b,o+k,none⟩=some x/\RdP w L v x):RdP w L (.sl g rows) (.slice (some ⟨b,o,none⟩) rows.length cap):=by
 refine .sl g rows s b o cap (λi j=>(w.cell? ⟨b,o+i*s+j,none⟩).getD undef) ha hs hu hlim hcap hg (λi j hi hj=>?_) (λi j hi hj=>?_)
 .have aa:j<rows[i].length:=by rw[hu _ (A8 hi)];exact hj
  obtain⟨x,hx,_⟩:=h (i*s+j) (rows[i][j]) (by rw[yK i j hu hj,A0 hi];simp[aa]);rw[<-By]at hx;simp[hx]
 .have aa:j<s:=by rw[<-hu _ (A8 hi)];exact hj
  obtain⟨x,hx,r⟩:=h (i*s+j) (rows[i][j]) (by rw[yK i j hu aa,A0 hi];simp[hj]);rw[<-By]at hx;simpa[hx]using r
theorem RdP.flat{rows:List (List V)}(r:RdP w L (.sl g rows) x)(ad:rows≠[]):∃s b o cap,x=.slice (some ⟨b,o,none⟩) rows.length cap/\0<s/\uni s rows/\o+rows.length*s<=L b/\rows.length<=cap/\(g=.full->cap=rows.length)/\∀(k:Nat)v,rows.flatten[k]?=some v->∃y,w.cell? ⟨b,o+k,none⟩=some y/\RdP w L v y:=by cases r with |sl0=>exact absurd rfl ad|sl _ _ s b o cap c ha hs hlen hlim hcap hg hc hr=>
  refine⟨s,b,o,cap,rfl,hs,hlen,hlim,hcap,hg,λk v hk=>?_⟩;have ae:k<rows.length*s:=by rw[<-zW hlen];exact(A1.1 hk).1
  have hi:k/s<rows.length:=by rw[Cp hs];exact ae
  have hj:k%s<s:=Cy _ hs;have aa:k=k/s*s+k%s:=by rw[Bz];exact(Dk k s).symm
  rw[aa,yK _ _ hlen hj,A0 hi]at hk;have ab:k%s<rows[k/s].length:=by rw[hlen _ (A8 hi)];exact hj
  simp only[Aw,A0 ab,Option.some.injEq]at hk;subst hk;refine⟨c (k/s) (k%s),?_,hr _ _ hi ab⟩;have:=hc (k/s) (k%s) hi hj;rw[By,<-aa]at this;exact this
theorem RdP.len{rows:List (List V)}(r:RdP w L (.sl g rows) x):∃a cap,x=.slice a rows.length cap/\rows.length<=cap/\(g=.full->cap=rows.length):=by cases r with |sl0 _ a cap hg=>exact⟨_,_,rfl,A2 _,λe=>hg e⟩|sl _ _ s b o cap c ha hs hlen hlim hcap hg hc hr=>exact⟨_,_,rfl,hcap,hg⟩
theorem RdP.src{P:Program}{rows:List (List V)}{s:Nat}{tx e:TypeId}(r:RdP w L (.sl g rows) x)(hk:P.underlying tx=some (.slice e))(_hs:0<s)(hu:uni s rows):∃news,Src P s tx x rows.length news w/\All2 (RdP w L) rows.flatten news:=by
 by_cases aa:rows=[];.subst aa;obtain⟨a,cap,rfl,_,_⟩:=r.len;cases a with |none=>exact⟨[],Src.ofNil w hk cap,tV⟩|some a=>exact⟨[],Src.ofSlice w hk a 0 cap [] sm (λj u h=>by simp at h) (λ_ h=>by cases h),tV⟩
 .obtain⟨s',b,o,cap,rfl,aj,ad,hlim,hcap,_,hc⟩:=r.flat aa;have ah:s'=s:=by obtain⟨r0,rest,rfl⟩:=D7 aa;rw[<-ad r0 sm,hu r0 sm]
  subst ah;have ab:=zW ad;let f:=λk=>(w.cell? ⟨b,o+k,none⟩).getD undef;have ae:All2 (RdP w L) rows.flatten ((List.range (rows.length*s')).map f):=by refine All2.of (by simp[ab]) λk v y hv hy=>?_;obtain⟨z,hz,rz⟩:=hc k v hv;rw[B0]at hy;cases hr:(List.range (rows.length*s'))[k]?with |none=>rw[hr]at hy;simp at hy|some q=>rw[hr]at hy;obtain⟨ak,af⟩:=A1.1 hr;simp at af;subst af;simp only[B9,Option.some.injEq]at hy;subst hy;simpa[f,hz]using rz
  refine⟨(List.range (rows.length*s')).map f,Src.ofSlice w hk ⟨b,o,none⟩ rows.length cap _ sm (λj u hj=>?_) (λu hu=>?_),ae⟩
  .rw[B0]at hj;have ag:j<rows.length*s':=by
    rcases Cl j (rows.length*s')with h|h;.exact h
    .rw[Bd (by simpa using h)]at hj;simp at hj
   rw[A0 (by simpa using ag)]at hj;simp only[List.getElem_range,B9,Option.some.injEq]at hj;obtain⟨z,hz,_⟩:=hc j _ (A0 (by rw[ab];exact ag));rw[wE,<-hj];simp[f,hz]
  .obtain⟨k,hk,rfl⟩:=Ac.1 hu;have ai:k<rows.length*s':=by simpa using hk
   obtain⟨z,hz,rz⟩:=hc k _ (A0 (by rw[ab];exact ai));simpa[f,hz]using rz.oneCell
def zM(bs:List UInt8):List (List V):=bs.map λb=>[.int .u8 b.toNat]
theorem zQ0(bs:List UInt8):uni 1 (zM bs):=λr hr=>by obtain⟨b,_,rfl⟩:=Ac.1 hr;rfl
theorem zq4(bs:List UInt8):All2 (RdP w L) (zM bs).flatten (byteCells ⟨bs.toArray⟩):=by unfold zM byteCells;show All2 _ _ (bs.map _);induction bs with |nil=>trivial|cons b bs ih=>exact⟨.int _ _,ih⟩
theorem zc5{s:Nat}{a b:List (List V)}(ha:uni s a)(hb:uni s b):uni s (a++b):=λr hr=>by
 rcases Aq.1 hr with h|h;.exact ha r h
 .exact hb r h
theorem RdP.of_row{rows:List (List V)}{s b o cap:Nat}{arr:Array Value}{T:TypeId}{fz:Nat×Nat}{xs:List Value}(hs:0<s)(hu:uni s rows)(hlim:o+rows.length*s<=L b)(hcap:rows.length<=cap)(ha:∀id,g≠.app id)(hg:g=.full->cap=rows.length)(hh:w.heap[b]?=some (.cells arr T fz))(hx:∀(k:Nat)x,xs[k]?=some x->arr[o+k]?=some x)(h:All2 (RdP w L) rows.flatten xs):RdP w L (.sl g rows) (.slice (some ⟨b,o,none⟩) rows.length cap):=by refine .of_flat hs hu hlim hcap ha hg λk v hv=>?_;obtain⟨x,aa,r⟩:=h.get k v hv;exact⟨x,by simp[World.cell?,hh];exact hx k x aa,r⟩
section
variable{c:Ctx}{w:World}{L:Nat->Nat}{σ:St}{β:List Value}
variable{cap:Nat}{i:Nat}{arr:Array Value}{T:TypeId}{n:Nat}{rows2:List (List V)}{xs:List Value}
theorem yO0(arr:Array Value)(k:Nat)(xs:List Value)(h:k+xs.length<=arr.size)(i:Nat)(x:Value)(hx:xs[i]?=some x):(xI arr k xs)[k+i]?=some x:=by have hi:i<xs.length:=(A1.1 hx).1;rw[zg4 _ _ _ _ h,if_pos om,show k+i-k=i by omega];exact hx
theorem zZ4(arr:Array Value)(k:Nat)(xs:List Value)(h:k+xs.length<=arr.size)(i:Nat)(hi:i<k):(xI arr k xs)[i]?=arr[i]?:=by rw[zg4 _ _ _ _ h,if_neg om]
theorem Mem.appIn(h:Mem c w L σ β){s b o:Nat}{rows:List (List V)}(hi:σ[i]?=some (.app n s))(hβ:β[i]?=some (.slice (some ⟨b,o,none⟩) n cap))(hn:rows.length=n)(hr:RdP w L (.sl .ro rows) (.slice (some ⟨b,o,none⟩) n cap))(ag:uni s rows)(hu:uni s rows2)(hx:All2 (RdP w L) rows2.flatten xs)(ar:0<rows2.length)(ab:n+rows2.length<=cap):∃arr T fz,w.heap[b]?=some (.cells arr T fz)/\zs3 arr fz/\o+n*s+xs.length<=arr.size/\Mem c (yJ w b (.cells (xI arr (o+n*s) xs) T fz)) (xD L b (o+(n+rows2.length)*s)) (σ.set i (.app (n+rows2.length) s)) (β.set i (.slice (some ⟨b,o,none⟩) (n+rows2.length) cap))/\Le w L (yJ w b (.cells (xI arr (o+n*s) xs) T fz)) (xD L b (o+(n+rows2.length)*s))/\Ext σ β (σ.set i (.app (n+rows2.length) s)) (β.set i (.slice (some ⟨b,o,none⟩) (n+rows2.length) cap))/\RdP (yJ w b (.cells (xI arr (o+n*s) xs) T fz)) (xD L b (o+(n+rows2.length)*s)) (.sl .ro (rows++rows2)) (.slice (some ⟨b,o,none⟩) (n+rows2.length) cap):=by
 obtain⟨a,ah,e,al,hs,hok⟩:=h.objs i _ _ hi hβ;cases e;obtain⟨b',o',arr,T,fz,e,hh,hf,an,hL⟩:=hok om;cases e;have ae:b<w.heap.size:=(Ao.1 hh).1;have au:xs.length=rows2.length*s:=by rw[<-hx.length,zW hu]
 have hmul:(n+rows2.length)*s=n*s+rows2.length*s:=Am _ _ _;have av:(n+rows2.length)*s<=cap*s:=An _ ab;have aa:o+n*s+xs.length<=arr.size:=om;have hle:Le w L (yJ w b (.cells (xI arr (o+n*s) xs) T fz)) (xD L b (o+(n+rows2.length)*s)):=by
  refine⟨λk=>?_,λk q hq=>?_⟩
  .by_cases e:k=b;.subst e;simp[xD];omega
   .simp[xD,e]
  .by_cases e:k=b;.subst e;simp only[World.cell?,xV _ _ _ ae,hh];rw[zZ4 _ _ _ aa _ om]
   .exact zb7 (zd9 w b k _ e) q
 have aw:rows2.length≠0:=om;have ad:Ext σ β (σ.set i (.app (n+rows2.length) s)) (β.set i (.slice (some ⟨b,o,none⟩) (n+rows2.length) cap)):=by
  refine⟨λid a e=>?_,λid n0 s0 e=>?_,λid r0 s0 e=>?_,λid e=>?_⟩
  .have:i≠id:=λq=>by subst q;rw[hβ]at e;simp at e
   rw[Ad this];exact e
  .by_cases q:i=id;.subst q;rw[hi]at e;cases e;exact⟨n+rows2.length,by rw[Aj (A1.1 hi).1],om,λe=>om⟩
   .exact⟨n0,by rw[Ad q];exact e,A3 _,λ_=>by rw[Ad q]⟩
  .have q:i≠id:=λq=>by subst q;rw[hi]at e;cases e
   exact .inr ⟨r0,by rw[Ad q];exact e,A3 _,λ_=>by rw[Ad q]⟩
  .have q:i≠id:=λq=>by subst q;rw[hi]at e;cases e
   rw[Ad q];exact e
 refine⟨arr,T,fz,hh,hf,aa,?_,hle,ad,?_⟩
 .refine h.upd i _ _ hle ad (λk=>k=b) (λj o' x' k hj ao aq hk e=>by subst e;exact h.apart j i o' _ x' _ k hj ao aq hi hβ hk (by simp[excl];omega)) (λk e=>by subst e;exact h.mine i _ _ k hi hβ (by simp[excl];omega)) (λk hk=>⟨zd9 w b k _ hk,by simp[xD,hk]⟩) (by simp[yJ]) rfl rfl rfl (λk hk=>?_) ?_ (λk hk=>?_);.simp only[xD];rw[if_neg om];exact h.lim k hk
  .refine⟨_,cap,rfl,ab,hs,λhl=>⟨b,o,_,T,fz,rfl,xV _ _ _ ae,λq hq=>hf q (by rw[xJ]at hq;exact hq),by rw[xJ];exact an,by simp[xD]⟩⟩
  .simp[excl]at hk;exact hk.2.symm
 .have hlen:(rows++rows2).length=n+rows2.length:=by simp[hn]
  have e:Value.slice (some ⟨b,o,none⟩) (n+rows2.length) cap=Value.slice (some ⟨b,o,none⟩) (rows++rows2).length cap:=by rw[hlen]
  rw[e];refine .of_flat hs (zc5 ag hu) (by rw[hlen];simp[xD]) om (λ_=>sm) (λe=>by simp at e) λk v hk=>?_;rw[C0]at hk;have ai:=zW ag;simp only[World.cell?,xV _ _ _ ae];by_cases aj:k<rows.flatten.length
  .rw[Aa aj]at hk;have ak:rows≠[]:=λe=>by subst e;simp at aj
   obtain⟨s',b',o',ah,e,_,ax,_,_,_,af⟩:=hr.flat ak;cases e;obtain⟨y,hy,ry⟩:=af k v hk;refine⟨y,?_,ry.mono hle⟩;rw[hn]at ai;simp only[World.cell?,hh]at hy;simp only[Option.isSome_none,Bj,if_false]at hy⊢;rw[zZ4 _ _ _ aa _ om];exact hy
  .rw[Ai om]at hk;obtain⟨y,hy,ry⟩:=hx.get _ _ hk;refine⟨y,?_,ry.mono hle⟩;have:=yO0 arr (o+n*s) xs aa _ y hy;rw[hn]at ai;simp only[Option.isSome_none,Bj,if_false];rw[show o+n*s+(k-rows.flatten.length)=o+k by omega]at this;exact this
theorem Mem.appNew(h:Mem c w L σ β){s:Nat}{rows:List (List V)}{x0:Value}(hi:σ[i]?=some (.app n s))(hβ:β[i]?=some x0)(hs:0<s)(hu:uni s rows)(hx:All2 (RdP w L) rows.flatten xs)(ag:n<rows.length)(hcap:rows.length<=cap)(ah:cap*s<=arr.size)(ab:∀(k:Nat)x,xs[k]?=some x->arr[k]?=some x):Mem c (w.alloc (.cells arr T)) (xD L w.heap.size (rows.length*s)) (σ.set i (.app rows.length s)) (β.set i (.slice (some ⟨w.heap.size,0,none⟩) rows.length cap))/\Le w L (w.alloc (.cells arr T)) (xD L w.heap.size (rows.length*s))/\Ext σ β (σ.set i (.app rows.length s)) (β.set i (.slice (some ⟨w.heap.size,0,none⟩) rows.length cap))/\RdP (w.alloc (.cells arr T)) (xD L w.heap.size (rows.length*s)) (.sl .ro rows) (.slice (some ⟨w.heap.size,0,none⟩) rows.length cap):=by
 obtain⟨h1,hle⟩:=h.alloc (.cells arr T) (rows.length*s);have ad:∀a,x0≠.pointer a:=by intro a e;subst e;obtain⟨_,_,e,_⟩:=h.objs i _ _ hi hβ;cases e
 have aa:Ext σ β (σ.set i (.app rows.length s)) (β.set i (.slice (some ⟨w.heap.size,0,none⟩) rows.length cap)):=by
  refine⟨λid a e=>?_,λid n0 s0 e=>?_,λid r0 s0 e=>?_,λid e=>?_⟩
  .have:i≠id:=λq=>by subst q;rw[hβ]at e;cases e;exact ad _ rfl
   rw[Ad this];exact e
  .by_cases q:i=id;.subst q;rw[hi]at e;cases e;exact⟨rows.length,by rw[Aj (A1.1 hi).1],om,λe=>om⟩
   .exact⟨n0,by rw[Ad q];exact e,A3 _,λ_=>by rw[Ad q]⟩
  .have q:i≠id:=λq=>by subst q;rw[hi]at e;cases e
   exact .inr ⟨r0,by rw[Ad q];exact e,A3 _,λ_=>by rw[Ad q]⟩
  .have q:i≠id:=λq=>by subst q;rw[hi]at e;cases e
   rw[Ad q];exact e
 refine⟨?_,hle,aa,?_⟩
 .refine h1.upd i _ _ (Le.refl _ _) aa (λk=>k=w.heap.size) (λj o' x' k hj ae af hk e=>?_) (λk e=>by subst e;exact .inl h.size) (λk _=>⟨rfl,rfl⟩) rfl rfl rfl rfl h1.lim ?_ (λk hk=>?_);.have:=(h.objs j o' x' ae af).excl_lt hk;omega
  .refine⟨_,cap,rfl,hcap,hs,λhl=>⟨_,0,_,T,(0,0),rfl,yG _ _,λq _ hq=>by simp at hq,om,by simp[xD]⟩⟩
  .simp[excl]at hk;exact hk.2.symm
 .exact .of_row hs hu (by simp[xD]) hcap (λ_=>sm) (λe=>by simp at e) (yG _ _) (λk x hk=>by rw[Ab];exact ab k x hk) (hx.imp λ_ _=>RdP.mono hle)
theorem Mem.appPush(h:Mem c w L σ β){s:Nat}{rows:List (List V)}(hs:0<s)(hu:uni s rows)(hx:All2 (RdP w L) rows.flatten xs)(hcap:rows.length<=cap)(ae:cap*s<=arr.size)(aa:∀(k:Nat)x,xs[k]?=some x->arr[k]?=some x):Mem c (w.alloc (.cells arr T)) (xD L w.heap.size (rows.length*s)) (σ++[.app rows.length s]) (β++[.slice (some ⟨w.heap.size,0,none⟩) rows.length cap])/\Le w L (w.alloc (.cells arr T)) (xD L w.heap.size (rows.length*s))/\RdP (w.alloc (.cells arr T)) (xD L w.heap.size (rows.length*s)) (.sl .ro rows) (.slice (some ⟨w.heap.size,0,none⟩) rows.length cap):=by
 obtain⟨h1,hle⟩:=h.alloc (.cells arr T) (rows.length*s);refine⟨?_,hle,?_⟩
 .refine h1.push _ _ ⟨_,cap,rfl,hcap,hs,λhl=>⟨_,0,_,T,(0,0),rfl,yG _ _,λq _ hq=>by simp at hq,om,by simp[xD]⟩⟩ (λj o' x' k ab ad hk e=>?_) (λk hk=>?_);.have:=(h.objs j o' x' ab ad).excl_lt hk;simp[excl]at e;omega
  .simp[excl]at hk;rw[<-hk.2];exact .inl h.size
 .exact .of_row hs hu (by simp[xD]) hcap (λ_=>sm) (λe=>by simp at e) (yG _ _) (λk x hk=>by rw[Ab];exact aa k x hk) (hx.imp λ_ _=>RdP.mono hle)
theorem Mem.own(h:Mem c w L σ β){s:Nat}{a:Option Addr}(hs:0<s):Mem c w L (σ++[.app n s]) (β++[.slice a n n]):=by
 refine h.push _ _ ⟨a,n,rfl,A3 _,hs,λhl=>om⟩ (λj o' x' k _ _ _=>?_) (λk hk=>?_);.cases a<;>simp[excl]
 .cases a<;>simp[excl]at hk
theorem yo4(cells vs:List V)(off i:Nat)(h:off<=cells.length):(putCells cells off vs)[i]?=if off<=i/\i<off+vs.length then vs[i-off]?else cells[i]?:=by
 unfold putCells;have ht:(cells.take off).length=off:=by simp;omega
 by_cases h1:i<off;.rw[if_neg om,Bp,Aa om,Ae,if_pos h1]
 .by_cases h2:i<off+vs.length;.rw[if_pos om,Aa (by simp;omega),Ai om,ht]
  .rw[if_neg om,Ai (by simp;omega)];simp only[B2,ht,B5];congr 1;omega
theorem zW1(cells vs:List V)(off:Nat)(h:off<=cells.length):(putCells cells off vs).length=max cells.length (off+vs.length):=by simp[putCells];omega
theorem Ext.setLst{s:Nat}{rows:List (List V)}{x y:Value}(hi:σ[i]?=some (.lst rows s))(hl:β.length=σ.length)(hβ:β[i]?=some x)(hx:∀a,x≠.pointer a)(ab:rows.length<=rows2.length)(aa:rows2.length=rows.length->y=x):Ext σ β (σ.set i (.lst rows2 s)) (β.set i y):=by
 have ad:i<σ.length:=(A1.1 hi).1;refine⟨λid a e=>?_,λid n0 s0 e=>?_,λid r0 s0 e=>?_,λid e=>?_⟩
 .have:i≠id:=λq=>by subst q;rw[hβ]at e;cases e;exact hx _ rfl
  rw[Ad this];exact e
 .have q:i≠id:=λq=>by subst q;rw[hi]at e;cases e
  exact⟨n0,by rw[Ad q];exact e,A3 _,λ_=>by rw[Ad q]⟩
 .by_cases q:i=id;.subst q;rw[hi]at e;cases e;exact .inr ⟨rows2,by rw[Aj ad],ab,λe=>by rw[Aj om,aa e,hβ]⟩
  .exact .inr ⟨r0,by rw[Ad q];exact e,A3 _,λ_=>by rw[Ad q]⟩
 .have q:i≠id:=λq=>by subst q;rw[hi]at e;cases e
  rw[Ad q];exact e
theorem Mem.lstPut(h:Mem c w L σ β){s b off:Nat}{rows:List (List V)}{vs:List V}(hi:σ[i]?=some (.lst rows s))(hβ:β[i]?=some (.slice (some ⟨b,0,none⟩) n cap))(hcap:0<cap)(hv:All2 (RdC w L σ β) vs xs)(ax:off<=rows.length*s)(af:uni s rows2)(hr:rows2.flatten=putCells rows.flatten off vs)(aj:rows.length<=rows2.length)(ad:rows2.length<=cap):∃arr T fz,w.heap[b]?=some (.cells arr T fz)/\zs3 arr fz/\off+xs.length<=arr.size/\Mem c (yJ w b (.cells (xI arr off xs) T fz)) L (σ.set i (.lst rows2 s)) (β.set i (.slice (some ⟨b,0,none⟩) rows2.length cap))/\Le w L (yJ w b (.cells (xI arr off xs) T fz)) L/\Ext σ β (σ.set i (.lst rows2 s)) (β.set i (.slice (some ⟨b,0,none⟩) rows2.length cap)):=by
 obtain⟨a,ay,e,ak,hs,hu,hok⟩:=h.objs i _ _ hi hβ;cases e;obtain⟨b',arr,T,fz,e,hh,hf,al,hL,ag⟩:=hok hcap;cases e;have an:b<w.heap.size:=(Ao.1 hh).1;have az:i<σ.length:=(A1.1 hi).1;have ah:=zW hu;have ab:=zW af;have a1:=hv.length;have ao:rows2.length*s=max (rows.length*s) (off+vs.length):=by rw[<-ab,hr,zW1 _ _ _ om,ah]
 have a6:rows2.length*s<=cap*s:=An _ ad;have ae:off+xs.length<=arr.size:=om;have hle:Le w L (yJ w b (.cells (xI arr off xs) T fz)) L:=by
  refine⟨λk=>A3 _,λk q hq=>?_⟩;by_cases e:k=b;.subst e;rw[hL]at hq;omega
  .exact zb7 (zd9 w b k _ e) q
 have aa:Ext σ β (σ.set i (.lst rows2 s)) (β.set i (.slice (some ⟨b,0,none⟩) rows2.length cap)):=Ext.setLst hi h.len hβ (λa e=>by cases e) aj λe=>by rw[e]
 refine⟨arr,T,fz,hh,hf.1,ae,?_,hle,aa⟩;refine h.upd i _ _ hle aa (λk=>k=b) (λj o' x' k hj aq ar hk e=>by subst e;exact h.apart j i o' _ x' _ k hj aq ar hi hβ hk (by simp[excl,hcap])) (λk e=>by subst e;exact h.mine i _ _ k hi hβ (by simp[excl,hcap])) (λk hk=>⟨zd9 w b k _ hk,rfl⟩) (by simp[yJ]) rfl rfl rfl h.lim ?_ (λk hk=>?_)
 .refine⟨_,cap,rfl,ad,hs,af,λ_=>⟨b,_,T,fz,rfl,xV _ _ _ an,hf.size (by rw[xJ]),by rw[xJ];exact al,hL,?_⟩⟩;refine All2.of ?_ λk p y hp hy=>?_
  .have au:(xI arr off xs).toList.length=arr.size:=by simp[xJ]
   rw[ab,Cd,au];omega
  .have av:k<rows2.length*s:=by rw[<-ab];exact(A1.1 hp).1
   rw[Ae,if_pos av,Ak,zg4 _ _ _ _ ae]at hy;rw[hr,yo4 _ _ _ _ om]at hp;by_cases ai:off<=k/\k<off+vs.length;.rw[if_pos ai]at hp;rw[if_pos om]at hy;obtain⟨z,hz,r⟩:=hv.get _ _ hp;rw[hy]at hz;cases hz;exact r.mono hle aa
   .rw[if_neg ai]at hp;rw[if_neg om]at hy;obtain⟨z,hz,r⟩:=ag.get _ _ hp;have aw:k<rows.length*s:=by rw[<-ah];exact(A1.1 hp).1
    rw[Ae,if_pos aw,Ak,hy]at hz;cases hz;exact r.mono hle aa
 .simp[excl,hcap]at hk;exact hk.symm
theorem zE9(h:Mem c w L σ β):xD L w.heap.size 0=L:=by
 funext k;by_cases hk:k=w.heap.size;.subst hk;simp[xD,h.lim _ (A3 _)]
 .simp[xD,hk]
theorem Mem.lstPush(h:Mem c w L σ β){s:Nat}{rows:List (List V)}(hs:0<s)(hu:uni s rows)(hx:All2 (RdC w L σ β) rows.flatten (arr.toList.take (rows.length*s)))(hcap:rows.length<=cap)(ab:cap*s<=arr.size):Mem c (w.alloc (.cells arr T)) L (σ++[.lst rows s]) (β++[.slice (some ⟨w.heap.size,0,none⟩) rows.length cap])/\Le w L (w.alloc (.cells arr T)) L/\Ext σ β (σ++[.lst rows s]) (β++[.slice (some ⟨w.heap.size,0,none⟩) rows.length cap]):=by
 have h1:=h.alloc (.cells arr T) 0;rw[zE9 h]at h1;have aa:=Ext.push σ β h.len (.lst rows s) (.slice (some ⟨w.heap.size,0,none⟩) rows.length cap);refine⟨h1.1.push _ _ ⟨_,cap,rfl,hcap,hs,hu,λ_=>⟨_,arr,T,(0,0),rfl,yG _ _,zZ9 _ _,ab,h.lim _ (A3 _),hx.imp λ_ _=>RdC.mono h1.2 aa⟩⟩ (λj o' x' k ad ae hk e=>?_) (λk hk=>?_),h1.2,aa⟩;.have:=(h.objs j o' x' ad ae).excl_lt hk;simp[excl]at e;omega
 .simp[excl]at hk;rw[<-hk.2];exact .inl h.size
theorem Mem.lstPushF(h:Mem c w L σ β){s:Nat}{rows:List (List V)}{fz:Nat×Nat}(ab:unfrozenL s arr fz)(hs:0<s)(hu:uni s rows)(hx:All2 (RdC w L σ β) rows.flatten (arr.toList.take (rows.length*s)))(hcap:rows.length<=cap)(ad:cap*s<=arr.size):Mem c (w.alloc (.cells arr T fz)) L (σ++[.lst rows s]) (β++[.slice (some ⟨w.heap.size,0,none⟩) rows.length cap])/\Le w L (w.alloc (.cells arr T fz)) L/\Ext σ β (σ++[.lst rows s]) (β++[.slice (some ⟨w.heap.size,0,none⟩) rows.length cap]):=by
 have h1:=h.alloc (.cells arr T fz) 0;rw[zE9 h]at h1;have aa:=Ext.push σ β h.len (.lst rows s) (.slice (some ⟨w.heap.size,0,none⟩) rows.length cap);refine⟨h1.1.push _ _ ⟨_,cap,rfl,hcap,hs,hu,λ_=>⟨_,arr,T,fz,rfl,yG _ _,ab,ad,h.lim _ (A3 _),hx.imp λ_ _=>RdC.mono h1.2 aa⟩⟩ (λj o' x' k ae af hk e=>?_) (λk hk=>?_),h1.2,aa⟩;.have:=(h.objs j o' x' ae af).excl_lt hk;simp[excl]at e;omega
 .simp[excl]at hk;rw[<-hk.2];exact .inl h.size
theorem Mem.lstNil(h:Mem c w L σ β){s:Nat}{a:Option Addr}(hs:0<s):Mem c w L (σ++[.lst [] s]) (β++[.slice a 0 0]):=by
 refine h.push _ _ ⟨a,0,rfl,A3 _,hs,λr hr=>(by cases hr),λhl=>om⟩ (λj o' x' k _ _ _=>?_) (λk hk=>?_);.cases a<;>simp[excl]
 .cases a<;>simp[excl]at hk
theorem Mem.lstRe(h:Mem c w L σ β){s:Nat}{rows:List (List V)}{x0:Value}(hi:σ[i]?=some (.lst rows s))(hβ:β[i]?=some x0)(hs:0<s)(hu:uni s rows2)(hx:All2 (RdC w L σ β) rows2.flatten (arr.toList.take (rows2.length*s)))(af:rows.length<rows2.length)(hcap:rows2.length<=cap)(ab:cap*s<=arr.size):Mem c (w.alloc (.cells arr T)) L (σ.set i (.lst rows2 s)) (β.set i (.slice (some ⟨w.heap.size,0,none⟩) rows2.length cap))/\Le w L (w.alloc (.cells arr T)) L/\Ext σ β (σ.set i (.lst rows2 s)) (β.set i (.slice (some ⟨w.heap.size,0,none⟩) rows2.length cap)):=by
 obtain⟨h1,hle⟩:=h.alloc (.cells arr T) 0;rw[zE9 h]at h1 hle;have aa:Ext σ β (σ.set i (.lst rows2 s)) (β.set i (.slice (some ⟨w.heap.size,0,none⟩) rows2.length cap)):=Ext.setLst hi h.len hβ (λa e=>by subst e;obtain⟨_,_,e,_⟩:=h.objs i _ _ hi hβ;cases e) om (λe=>om);refine⟨?_,hle,aa⟩;refine h1.upd i _ _ (Le.refl _ _) aa (λk=>k=w.heap.size) (λj o' x' k hj ad ae hk e=>?_) (λk e=>by subst e;exact .inl h.size) (λk _=>⟨rfl,rfl⟩) rfl rfl rfl rfl h1.lim ?_ (λk hk=>?_);.have:=(h.objs j o' x' ad ae).excl_lt hk;omega
 .exact⟨_,cap,rfl,hcap,hs,hu,λ_=>⟨_,arr,T,(0,0),rfl,yG _ _,zZ9 _ _,ab,h.lim _ (A3 _),hx.imp λ_ _=>RdC.mono hle aa⟩⟩
 .simp[excl]at hk;exact hk.2.symm
end
structure Sim(c:Ctx)(nt:Nat)(e:Env)(σ:St)(a:Act)(w:World)(L:Nat->Nat)(β:List Value):Prop where
 mem:Mem c w L σ β
 size:a.tmps.size=nt
 defs:a.defers=[]env:∀t,RdS w L σ β (e t) (a.tmps.getD t undef)
variable {w:World}{L:Nat->Nat}
def zc9:Value->V |.bool b=>.bool b|.int k n=>.int k n|.string s=>.str s.data.toList|.pointer none=>.nilp|.slice none 0 0=>.sl .full []|.agg _=>.u|.tuple _=>.u|v=>.raw v
def xa7(g:Nat):V:=match tabs.find? (λp=>p.1==g)with |some p=>.elp p.2 0|none=>.u
def zF(e:Env):Operand->V |.tmp t=>e t|.const v=>zc9 v|.func f=>.fn f []|.global g=>xa7 g
def zI1:V->Bool|.u|.agg _|.tup _=>false|_=>true
theorem xy0{σ:St}{β:List Value}(v:Value):RdS w L σ β (zc9 v) v:=by
 unfold zc9;split;.exact RdP.bool _
 .exact RdP.int _ _
 .rename_i s;have:RdP w L (.str s.data.toList) (.string ⟨s.data.toList.toArray⟩):=.str _;exact this
 .exact RdP.nilp
 .exact RdP.sl0 _ _ _ (λ_=>rfl) (λ_=>sm)
 .trivial
 .trivial
 .rename_i h1 h2 h3 h4 h5 h6 h7;refine RdP.raw v ?_;cases v<;>first|rfl|exact(h6 _ rfl).elim|exact(h7 _ rfl).elim
theorem zw6(v:Value)(h1:v.oneCell'=true):RdP w L (zc9 v) v/\zI1 (zc9 v)=true:=by
 unfold zc9;split;.exact⟨RdP.bool _,rfl⟩
 .exact⟨RdP.int _ _,rfl⟩
 .rename_i s;have:RdP w L (.str s.data.toList) (.string ⟨s.data.toList.toArray⟩):=.str _;exact⟨this,rfl⟩
 .exact⟨RdP.nilp,rfl⟩
 .exact⟨RdP.sl0 _ _ _ (λ_=>rfl) (λ_=>sm),rfl⟩
 .simp[Value.oneCell']at h1
 .simp[Value.oneCell']at h1
 .exact⟨RdP.raw _ h1,rfl⟩
theorem Sim.eval{c:Ctx}{nt:Nat}{e:Env}{σ:St}{a:Act}{β:List Value}(h:Sim c nt e σ a w L β)(x:Operand):RdS w L σ β (zF e x) (a.eval x):=by cases x with |tmp t=>exact h.env t|const v=>exact xy0 v|func f=>exact⟨[],rfl,tV⟩|global g=>
  show RdS w L σ β (xa7 g) _;unfold xa7;split
  .rename_i p hp;have hm:=List.mem_of_find?_eq_some hp;have hg:p.1=g:=by simpa using List.find?_some hp
   have hr:=((h.mem.tab.tab p hm).mono h.mem.le).rd (σ:=σ) (β:=β);rw[hg]at hr;exact hr
  .trivial
inductive R where|fail|ok(v:V)|need(p:Prop)(v:V)|st(v:V)(σ:St)|needst(p:Prop)(v:V)(σ:St)|all(f:Bool->V)|any(l:List (V×St))
section tables
variable (P:Program)
def szT(t:TypeId):Option Nat:=(P.info? t).map (·.size)
def yS5:TypeDesc->Bool|.struct _|.array _ _=>true|_=>false
def aggT(t:TypeId):Option Bool:=(P.underlying t).map yS5
def fldT(t:TypeId)(f:Nat):Option (Nat×Nat×Bool):=match P.underlying t with |some (.struct fs)=>(fs[f]?).bind λf=>(szT P f.type).bind λs=>(aggT P f.type).bind λb=>if s=0then none else some (f.offset,s,b)|_=>none
def slcT(t:TypeId):Option Nat:=match P.underlying t with |some (.slice e)=>szT P e|_=>none
def arrT(t:TypeId):Option (Nat×Nat×Bool):=match P.underlying t with |some (.array n e)=>(szT P e).bind λs=>(aggT P e).map λb=>(n,s,b)|_=>none
def zb1(t:TypeId):Option (List V):=(P.info? t).bind λi=>(i.zero).bind λz=>if z.cells.all (·.oneCell')=true then some (z.cells.toList.map zc9)else none
def elT(t:TypeId):Option (Nat×Nat):=match P.underlying t with |some (.slice e)=>(P.info? e).bind λi=>i.zero.bind λz=>if z.cells.size=i.size/\0<i.size/\0<i.bytes then some (i.size,i.bytes)else none|_=>none
inductive Kd where|int(k:IntKind)|str|bytes|other deriving DecidableEq
def kdT(t:TypeId):Option Kd:=match P.underlying t with |some (.int k)=>some (.int k)|some .string=>some .str|some (.slice e)=>(match P.underlying e with|some (.int .u8)=>some .bytes|_=>some .other)|some _=>some .other|none=>none
end tables
def zh9:V->Bool|.bool _|.int _ _|.str _|.raw _|.nilp|.sl _ _=>true|_=>false
def dem:V->V|.sl _ rows=>.sl .ro rows|v=>v
def xH:V->List V|.agg cs=>cs|v=>[v]
theorem RdP.weak{w:World}{L:Nat->Nat}{g:Tag}{rows:List (List V)}{x:Value}(r:RdP w L (.sl g rows) x):RdP w L (.sl .ro rows) x:=by cases r with |sl0 _ a cap hg ha=>exact .sl0 _ a cap (λe=>by cases e) (λ_=>sm)|sl _ _ s b o cap c ha hs hlen hlim hcap hg hc hr=>exact .sl _ rows s b o cap c (λ_=>sm) hs hlen hlim hcap (λe=>by cases e) hc hr
theorem RdC.dem{w:World}{L:Nat->Nat}{σ:St}{β:List Value}{v:V}{x:Value}(r:RdC w L σ β v x)(h:zh9 v=true):RdP w L (dem v) x:=by cases v with
 |sl g rows=>cases g with |ro=>exact r|full=>exact RdP.weak r|app id=>exact r.1
 |u=>simp[zh9]at h|ptr _ _=>simp[zh9]at h|elp _ _=>simp[zh9]at h|lsv _ _ _ _ _=>simp[zh9]at h|lsp _ _ _ _ _=>simp[zh9]at h|bsv _ _ _ _=>simp[zh9]at h|mp _=>simp[zh9]at h|fn _ _=>simp[zh9]at h|ifc _ _=>simp[zh9]at h|agg _=>simp[zh9]at h|tup _=>simp[zh9]at h|bool b=>exact r|int k n=>exact r|str s=>exact r|raw v=>exact r|nilp=>exact r
section inv
variable{w:World}{L:Nat->Nat}{σ:St}{β:List Value}
variable {x:Value}
theorem zd8{b:Bool}(r:RdS w L σ β (.bool b) x):x=.bool b:=by cases r;rfl
theorem yH{k:IntKind}{n:Int}(r:RdS w L σ β (.int k n) x):x=.int k n:=by cases r;rfl
theorem wW{s:List UInt8}(r:RdS w L σ β (.str s) x):x=.string ⟨s.toArray⟩:=by cases r;rfl
theorem yi5(r:RdS w L σ β .nilp x):x=.pointer none:=by cases r;rfl
theorem zw7{g:Tag}{rows:List (List V)}(r:RdS w L σ β (.sl g rows) x):RdP w L (.sl .ro rows) x:=by cases g with |ro=>exact r|full=>exact RdP.weak r|app id=>exact r.1
theorem xA5{v:V}(r:RdS w L σ β v x)(h:zI1 v=true):RdC w L σ β v x:=by cases v<;>first|exact r|simp[zI1]at h
theorem zA6(h:x.oneCell'=true):x.cells=#[x]:=by cases x<;>first|rfl|simp[Value.oneCell']at h
def wO:V->Bool|.u|.tup _=>false|_=>true
theorem zp9{v:V}(r:RdS w L σ β v x)(h:wO v=true):All2 (RdC w L σ β) (xH v) x.cells.toList:=by
 by_cases hc:zI1 v=true
 .have r':=xA5 r hc;rw[zA6 r'.oneCell];have:xH v=[v]:=by cases v<;>first|rfl|simp[zI1]at hc
  rw[this];exact⟨r',tV⟩
 .cases v with |agg cs=>obtain⟨xs,rfl,h⟩:=r;exact h|u=>simp[wO]at h|tup vs=>simp[wO]at h|_=>simp[zI1]at hc
end inv
inductive Pk where|b|i(k:IntKind)|s deriving DecidableEq
def zA8(P:Program)(sh:TypeId->Option (List Pk)):Nat->List Field->Option (List Pk) |_,[]=>some []|off,f::fs=>if f.name≠"_"/\f.offset=off then(sh f.type).bind λks=>if szT P f.type=some ks.length then(zA8 P sh (off+ks.length) fs).map (ks++·)else none else none
def zu0(P:Program):Nat->TypeId->Option (List Pk) |0,_=>none|d+1,t=>match P.underlying t,aggT P t with |some .bool,some false=>some [.b]|some (.int k),some false=>some [.i k]|some .string,some false=>some [.s]|some (.struct fs),some true=>if P.stoodInHeld t=false then zA8 P (zu0 P d) 0 fs.toList else none|_,_=>none
def eqPk:Pk->V->V->Option Bool |.b,.bool x,.bool y=>some (x==y)|.i k,.int k1 x,.int k2 y=>if k1=k/\k2=k then some (x==y)else none|.s,.str x,.str y=>some (x==y)|_,_,_=>none
def eqVs:List Pk->List V->List V->Option Bool |[],[],[]=>some true|k::ks,a::az,b::bs=>(eqPk k a b).bind λr=>(eqVs ks az bs).map (r&&·)|_,_,_=>none
def eqPx:Pk->Value->Value->Option Bool |.b,.bool x,.bool y=>some (x==y)|.i k,.int k1 x,.int k2 y=>if k1=k/\k2=k then some (x==y)else none|.s,.string x,.string y=>some (x==y)|_,_,_=>none
def eqXs:List Pk->List Value->List Value->Option Bool |[],[],[]=>some true|k::ks,a::az,b::bs=>(eqPx k a b).bind λr=>(eqXs ks az bs).map (r&&·)|_,_,_=>none
def eqS(P:Program)(t:TypeId):Option (List Pk):=match P.underlying t with|some (.struct _)=>if P.eqGuardType P.depth t=false then zu0 P 10 t else none|_=>none
section
variable{P:Program}{c:Ctx}{w:World}{L:Nat->Nat}{σ:St}{β:List Value}
variable{t:TypeId}{x:Value}{y:Value}{r:Bool}
theorem xD3{s:Nat}(h:szT P t=some s):∃i,P.info? t=some i/\i.size=s:=by unfold szT at h;cases hi:P.info? t with |none=>simp[hi]at h|some i=>simp[hi]at h;exact⟨i,rfl,h⟩
theorem za0{s:Nat}(h:szT P t=some s)(w:World):(sizeOf t).run P w=.ok s w:=by obtain⟨i,hi,rfl⟩:=xD3 h;simp[sizeOf,typeInfo,hi]
theorem zl5{b:Bool}(h:aggT P t=some b)(w:World):(isAgg t).run P w=.ok b w:=by unfold aggT at h;cases hu:P.underlying t with |none=>simp[hu]at h|some d=>simp[hu]at h;subst h;simp only[isAgg,Sem.run_bind,run_underlying hu,Result.andThen_ok,yS5];cases d<;>rfl
theorem ye6:∀(ks:List Pk)(az bs:List Value)(r:Bool),eqXs ks az bs=some r->az.length=ks.length/\bs.length=ks.length
 |[],[],[],_,_=>⟨rfl,rfl⟩|k::ks,a::az,b::bs,r,h=>by unfold eqXs at h;cases h1:eqPx k a b with |none=>rw[h1]at h;cases h|some r1=>rw[h1]at h;simp only[Aw,Ba]at h;obtain⟨r2,h2,_⟩:=h;have:=ye6 ks az bs r2 h2;simp[this.1,this.2]
 |[],[],_::_,_,h=>by cases h|[],_::_,_,_,h=>by cases h|_::_,[],_,_,h=>by cases h|_::_,_::_,[],_,h=>by cases h
theorem zY0:∀(ks aa:List Pk)(az bs:List Value)(r:Bool),eqXs (ks++aa) az bs=some r->∃r1 r2,eqXs ks (az.take ks.length) (bs.take ks.length)=some r1/\eqXs aa (az.drop ks.length) (bs.drop ks.length)=some r2/\r=(r1&&r2)
 |[],aa,az,bs,r,h=>⟨true,r,by simp[eqXs],by simpa using h,sm⟩|k::ks,aa,a::az,b::bs,r,h=>by rw[Bo]at h;unfold eqXs at h;cases h1:eqPx k a b with |none=>rw[h1]at h;cases h|some r0=>rw[h1]at h;simp only[Aw,Ba]at h;obtain⟨r',h2,rfl⟩:=h;obtain⟨r1,r2,h3,h4,rfl⟩:=zY0 ks aa az bs r' h2;refine⟨r0&&r1,r2,?_,by simpa using h4,by rw[Bool.and_assoc]⟩;simp only[Ah,C1,eqXs,h1,Aw,h3,B9]
 |_::_,_,[],_,_,h=>by cases h|_::_,_,_::_,[],_,h=>by cases h
theorem zU9:∀(ks:List Pk)(vs ws:List V)(xs ys:List Value)(r:Bool),All2 (RdC w L σ β) vs xs->All2 (RdC w L σ β) ws ys->eqVs ks vs ws=some r->eqXs ks xs ys=some r
 |[],[],[],[],[],r,_,_,h=>h|k::ks,v::vs,v2::us,x::xs,y::ys,r,h1,h2,h=>by unfold eqVs at h;cases hk:eqPk k v v2 with |none=>rw[hk]at h;cases h|some r0=>
   rw[hk]at h;simp only[Aw,Ba]at h;obtain⟨r',h3,rfl⟩:=h;have ih:=zU9 ks vs us xs ys r' h1.2 h2.2 h3;have hp:eqPx k x y=some r0:=by
    have hx:=h1.1;have hy:=h2.1;unfold eqPk at hk;split at hk;.cases hx;cases hy;exact hk
    .cases hx;cases hy;exact hk
    .cases hx;cases hy;rename_i a b;rw[<-hk];simp only[eqPx,Option.some.injEq];show(a.toArray==b.toArray)=(a==b);simp
    .cases hk
   simp only[eqXs,hp,Aw,ih,B9] |[],[],[],[],_::_,_,_,h2,_=>h2.elim|[],[],[],_::_,_,_,h1,_,_=>h1.elim|[],[],_::_,_,_,_,_,_,h=>by cases h|[],_::_,_,_,_,_,_,_,h=>by cases h|_::_,[],_,_,_,_,_,_,h=>by cases h|_::_,_::_,[],_,_,_,_,_,h=>by cases h|_::_,_::_,_::_,[],_,_,h1,_,_=>h1.elim|_::_,_::_,_::_,_::_,[],_,_,h2,_=>h2.elim
def zv9(P:Program)(t:TypeId)(x:Value):Prop:=if aggT P t=some true then∃xs,x=.agg xs else x.oneCell'=true
theorem yt9{ks:List Pk}{b:Bool}(hs:szT P t=some ks.length)(ha:aggT P t=some b)(h1:b=false->ks.length=1)(cs:Array Value)(off:Nat)(hl:off+ks.length<=cs.size)(aa:∀x∈cs.toList,x.oneCell'=true):∃x,(part t cs off).run P w=.ok x w/\zv9 P t x/\x.cells.toList=(cs.toList.drop off).take ks.length:=by cases b with
 |true=>
  refine⟨.agg (cs.extract off (off+ks.length)),?_,?_,?_⟩;.simp only[part,Sem.run_bind,zl5 ha,Result.andThen_ok,if_true,za0 hs,Sem.run_pure]
  .unfold zv9;rw[if_pos ha];exact⟨_,rfl⟩
  .simp[Value.cells,Array.toList_extract,E4]|false=>
  have hk:=h1 rfl;have ab:off<cs.size:=om;refine⟨cs[off],?_,?_,?_⟩;.simp only[part,Sem.run_bind,zl5 ha,Result.andThen_ok,Bj,if_false,Au ab,Sem.run_pure]
  .unfold zv9;rw[if_neg (by rw[ha];simp)];exact aa _ sm
  .rw[zA6 (aa _ sm),hk];rw[A5 (by simpa using ab)];simp
theorem yH0{d:Nat}{ks:List Pk}(h:zu0 P d t=some ks):∃b,aggT P t=some b/\(b=false->ks.length=1):=by cases d with |zero=>cases h|succ d=>
  unfold zu0 at h;split at h;.rename_i ha;simp at h;subst h;exact⟨false,ha,λ_=>rfl⟩
  .rename_i ha;simp at h;subst h;exact⟨false,ha,λ_=>rfl⟩
  .rename_i ha;simp at h;subst h;exact⟨false,ha,λ_=>rfl⟩
  .rename_i ha;exact⟨true,ha,λq=>by cases q⟩
  .cases h
theorem xU3(h:eqPx .b x y=some r):∃a b,x=.bool a/\y=.bool b/\r=(a==b):=by
 cases x<;>first|(simp[eqPx]at h;done)|skip
 cases y<;>first|(simp[eqPx]at h;done)|skip
 simp[eqPx]at h;exact⟨_,_,rfl,rfl,h.symm⟩
theorem xU4{k:IntKind}(h:eqPx (.i k) x y=some r):∃a b,x=.int k a/\y=.int k b/\r=(a==b):=by
 cases x<;>first|(simp[eqPx]at h;done)|skip
 cases y<;>first|(simp[eqPx]at h;done)|skip
 simp[eqPx]at h;obtain⟨⟨rfl,rfl⟩,h⟩:=h;exact⟨_,_,rfl,rfl,h.symm⟩
theorem xU5(h:eqPx .s x y=some r):∃a b,x=.string a/\y=.string b/\r=(a==b):=by
 cases x<;>first|(simp[eqPx]at h;done)|skip
 cases y<;>first|(simp[eqPx]at h;done)|skip
 simp only[eqPx,Option.some.injEq]at h;exact⟨_,_,rfl,rfl,h.symm⟩
theorem zI9:∀(d:Nat)(t:TypeId)(ks:List Pk),zu0 P d t=some ks->∀(D:Nat),d<=D->∀(x y:Value)(r:Bool),zv9 P t x->zv9 P t y->(∀z∈x.cells.toList,z.oneCell'=true)->(∀z∈y.cells.toList,z.oneCell'=true)->eqXs ks x.cells.toList y.cells.toList=some r->∀w,(Op.equalIn D t x y).run P w=.ok r w
 |0,_,_,h=>by cases h|d+1,t,ks,h=>by
  intro D hD x y r hx hy af ag he w;obtain⟨D,rfl⟩:∃D',D=D'+1:=⟨D-1,om⟩;have ab:∀k,ks=[k]->aggT P t=some false->∃r',eqPx k x y=some r'/\r=r':=by intro k hk ha;unfold zv9 at hx hy;rw[if_neg (by rw[ha];simp)]at hx hy;rw[zA6 hx,zA6 hy,hk]at he;simp only[eqXs]at he;cases hp:eqPx k x y with |none=>rw[hp]at he;cases he|some r'=>rw[hp]at he;simp at he;exact⟨r',rfl,he.symm⟩
  unfold zu0 at h;split at h;.rename_i hu ha;simp at h;obtain⟨r',hp,rfl⟩:=ab .b h.symm ha;obtain⟨m,n,rfl,rfl,rfl⟩:=xU3 hp;simp[Op.equalIn,run_underlying hu]
  .rename_i k hu ha;simp at h;obtain⟨r',hp,rfl⟩:=ab (.i k) h.symm ha;obtain⟨m,n,rfl,rfl,rfl⟩:=xU4 hp;simp[Op.equalIn,run_underlying hu]
  .rename_i hu ha;simp at h;obtain⟨r',hp,rfl⟩:=ab .s h.symm ha;obtain⟨m,n,rfl,rfl,rfl⟩:=xU5 hp;simp[Op.equalIn,run_underlying hu]
  .rename_i fs hu ha;split at h
   .rename_i ak;unfold zv9 at hx hy;rw[if_pos ha]at hx hy;obtain⟨xs,rfl⟩:=hx;obtain⟨ys,rfl⟩:=hy;have ai:P.fieldsOf t=fs:=by simp[Program.fieldsOf,hu]
    rw[run_equalIn_struct (P:=P) (w:=w) D t xs ys (by rw[ai];exact hu) ak,ai];simp only[Value.cells]at he af ag;have key:∀(l:List Field)(off:Nat)(ks:List Pk)(r:Bool),zA8 P (zu0 P d) off l=some ks->eqXs ks (xs.toList.drop off) (ys.toList.drop off)=some r->(Op.eqFields D xs ys l).run P w=.ok r w:=by intro l;induction l with |nil=>intro off ks r hk hr;simp[zA8]at hk;subst hk;have:=ye6 _ _ _ _ hr;have h1:xs.toList.drop off=[]:=List.length_eq_zero_iff.1 this.1;have h2:ys.toList.drop off=[]:=List.length_eq_zero_iff.1 this.2;rw[h1,h2]at hr;simp[eqXs]at hr;subst hr;simp[Op.eqFields]|cons f l ih=>
      intro off ks r hk hr;unfold zA8 at hk;split at hk;.rename_i hf;cases ad:zu0 P d f.type with |none=>rw[ad]at hk;cases hk|some k1=>
        rw[ad]at hk;simp only[Aw]at hk;split at hk
        .rename_i ae;simp only[Ba]at hk;obtain⟨k2,al,rfl⟩:=hk;have hlen:=ye6 _ _ _ _ hr;simp only[E9,B2,C2]at hlen;obtain⟨r1,r2,h1,h2,rfl⟩:=zY0 k1 k2 _ _ _ hr;obtain⟨b,aa,ah⟩:=yH0 ad;have an:0<k1.length∨k1.length=0:=om;have ao:off+k1.length<=xs.size/\off+k1.length<=ys.size∨k1.length=0/\b=true:=by
          rcases an with q|q;.left;omega
          .right;refine⟨q,?_⟩;cases b with |true=>rfl|false=>have:=ah rfl;omega
         have parts:∃a b',(part f.type xs off).run P w=.ok a w/\(part f.type ys off).run P w=.ok b' w/\zv9 P f.type a/\zv9 P f.type b'/\a.cells.toList=(xs.toList.drop off).take k1.length/\b'.cells.toList=(ys.toList.drop off).take k1.length:=by
          rcases ao with⟨q1,q2⟩|⟨q,rfl⟩;.obtain⟨a,p1,p2,p3⟩:=yt9 (w:=w) ae aa ah xs off q1 af;obtain⟨b',s1,s2,s3⟩:=yt9 (w:=w) ae aa ah ys off q2 ag;exact⟨a,b',p1,s1,p2,s2,p3,s3⟩
          .refine⟨.agg (xs.extract off (off+k1.length)),.agg (ys.extract off (off+k1.length)),?_,?_,?_,?_,?_,?_⟩;.simp only[part,Sem.run_bind,zl5 aa,Result.andThen_ok,if_true,za0 ae,Sem.run_pure]
           .simp only[part,Sem.run_bind,zl5 aa,Result.andThen_ok,if_true,za0 ae,Sem.run_pure]
           .unfold zv9;rw[if_pos aa];exact⟨_,rfl⟩
           .unfold zv9;rw[if_pos aa];exact⟨_,rfl⟩
           .simp[Value.cells,Array.toList_extract,E4]
           .simp[Value.cells,Array.toList_extract,E4]
         obtain⟨a,b',p1,p2,f1,f2,c1,c2⟩:=parts;have aj:=zI9 d f.type k1 ad D om a b' r1 f1 f2 (by rw[c1];exactλz hz=>af z (D4 (Bk hz))) (by rw[c2];exactλz hz=>ag z (D4 (Bk hz))) (by rw[c1,c2];exact h1) w;have aq:=ih (off+k1.length) k2 r2 al (by simpa[E7]using h2);simp only[Op.eqFields,hf.1,ne_eq,not_false_eq_true,if_true,Sem.run_bind,hf.2,p1,p2,aj,Result.andThen_ok];cases r1;.simp
         .simpa using aq
        .cases hk
      .cases hk
    exact key fs.toList 0 ks r h (by simpa using he)
   .cases h
  .cases h
end
end Go.Vx
