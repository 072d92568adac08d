/-
  Operations over trees: indexes, slices, lengths, appends, literals, conversions.
  No condition: a library text; nothing of the program is named.
-/
import Derived.WalkKit
import Derived.Deep.AppendSrc
import Derived.Laws.StructEq
import Derived.Laws.BytesArg
import Derived.Laws.IdiomStrings
import Derived.Great.BuildSlice
set_option maxHeartbeats 8000000
namespace Go
theorem aiu:type_of% @if_neg:=@if_neg
theorem aiv:type_of% @if_pos:=@if_pos
theorem aiw:type_of% @decide_eq_false:=@decide_eq_false
theorem aix:type_of% @decide_eq_true:=@decide_eq_true
theorem aiy:type_of% @Option.some.injEq:=@Option.some.injEq
theorem aiz:type_of% @congrArg:=@congrArg
theorem aiA:type_of% @decide_eq_true_eq:=@decide_eq_true_eq
theorem aiB:type_of% @beq_iff_eq:=@beq_iff_eq
theorem aiC:type_of% @decide_eq_false_iff_not:=@decide_eq_false_iff_not
theorem aiD:type_of% @of_decide_eq_true:=@of_decide_eq_true
theorem aiE:type_of% @if_true:=@if_true
theorem aiF:type_of% @Prod.mk.injEq:=@Prod.mk.injEq
theorem aiG:type_of% @of_decide_eq_false:=@of_decide_eq_false
theorem aiH:type_of% @List.Nodup.sublist:=@List.Nodup.sublist
theorem aiI:type_of% @BitVec.ofInt_natCast:=@BitVec.ofInt_natCast
theorem aiJ:type_of% @or_false:=@or_false
theorem aiK:type_of% @BitVec.toNat_ofNat:=@BitVec.toNat_ofNat
theorem aiL:type_of% @if_false:=@if_false
theorem aiM:type_of% @Option.some.inj:=@Option.some.inj
theorem aiN:type_of% @not_true_eq_false:=@not_true_eq_false
theorem aiO:type_of% @List.contains_iff_mem:=@List.contains_iff_mem
theorem aiP:type_of% @List.mem_append_left:=@List.mem_append_left
theorem aiQ:type_of% @List.flatMap_append:=@List.flatMap_append
theorem aiR:type_of% @List.Perm.of_eq:=@List.Perm.of_eq
theorem aiS:type_of% @getElem!_pos:=@getElem!_pos
theorem aiT:type_of% @List.drop_drop:=@List.drop_drop
theorem aiU:type_of% @List.take_take:=@List.take_take
theorem aiV:type_of% @List.getElem_take:=@List.getElem_take
theorem aiW:type_of% @Int.lt_trichotomy:=@Int.lt_trichotomy
theorem aiX:type_of% @List.map_drop:=@List.map_drop
theorem aiY:type_of% @Bool.or_true:=@Bool.or_true
abbrev aiZ:=List UInt8
abbrev aj0:=List Nat
abbrev aj1:=List Value
abbrev aj2:=List Int
abbrev aj3:=Array Value
abbrev aj4:=List (List UInt8)
abbrev aj5:=Option Nat
end Go
namespace Go
theorem om{p:Prop}(h:p:=by omega):p:=h
theorem sg{p:Prop}(h:p:=by simp[go_sem]):p:=h
theorem kR{p:Prop}(h:p:=by kernel_rfl):p:=h
theorem dC{p:Prop}(h:p:=by decide):p:=h
theorem sm{p:Prop}(h:p:=by simp):p:=h
theorem sU{p q:Prop}(h:q)(g:q->p:=by intro h;simpa using h):p:=g h
theorem tV:True:=⟨⟩
theorem A0:type_of% @List.getElem?_eq_getElem:=@List.getElem?_eq_getElem
theorem A3:type_of% @Nat.zero_le:=@Nat.zero_le
theorem A4:type_of% @List.getElem?_eq_some_iff:=@List.getElem?_eq_some_iff
theorem A5:type_of% @List.drop_eq_getElem_cons:=@List.drop_eq_getElem_cons
theorem A6:type_of% @Bool.eq_false_or_eq_true:=@Bool.eq_false_or_eq_true
theorem A7:type_of% @Nat.le_refl:=@Nat.le_refl
theorem A8:type_of% @List.getElem_mem:=@List.getElem_mem
theorem A9:type_of% @List.drop_eq_nil_of_le:=@List.drop_eq_nil_of_le
theorem Aa:type_of% @List.take_of_length_le:=@List.take_of_length_le
theorem Ab:type_of% @Bool.and_eq_true:=@Bool.and_eq_true
theorem Ac:type_of% @List.mem_map:=@List.mem_map
theorem Ad:type_of% @Nat.zero_add:=@Nat.zero_add
theorem Ae:type_of% @List.mem_cons:=@List.mem_cons
theorem Af:type_of% @List.mem_append:=@List.mem_append
theorem Ag:type_of% @List.length_map:=@List.length_map
theorem Ah:type_of% @List.length_cons:=@List.length_cons
theorem Ai:type_of% @List.take_succ_eq_append_getElem:=@List.take_succ_eq_append_getElem
theorem Aj:type_of% @List.map_cons:=@List.map_cons
theorem Ak:type_of% @Nat.mul_le_mul_right:=@Nat.mul_le_mul_right
theorem Al:type_of% @List.getD_eq_getElem?_getD:=@List.getD_eq_getElem?_getD
theorem Am:type_of% @List.all_eq_true:=@List.all_eq_true
theorem An:type_of% @List.length_append:=@List.length_append
theorem Ao:type_of% @List.getElem?_append_left:=@List.getElem?_append_left
theorem Ap:type_of% @List.getElem?_take:=@List.getElem?_take
theorem Aq:type_of% @Array.getElem?_toList:=@Array.getElem?_toList
theorem Ar:type_of% @List.mem_iff_getElem?:=@List.mem_iff_getElem?
theorem As:type_of% @List.eq_nil_of_length_eq_zero:=@List.eq_nil_of_length_eq_zero
theorem Au:type_of% @List.getElem?_append_right:=@List.getElem?_append_right
theorem Av:type_of% @Option.map_eq_some_iff:=@Option.map_eq_some_iff
theorem Aw:type_of% @Nat.le_trans:=@Nat.le_trans
theorem Ax:type_of% @Option.bind_some:=@Option.bind_some
theorem Ay:type_of% @List.append_nil:=@List.append_nil
theorem Az:type_of% @List.length_take:=@List.length_take
theorem B0:type_of% @Int.toNat_natCast:=@Int.toNat_natCast
theorem B1:type_of% @List.mem_cons_self:=@List.mem_cons_self
theorem B2:type_of% @List.mem_singleton:=@List.mem_singleton
theorem B3:type_of% @Array.getElem?_eq_getElem:=@Array.getElem?_eq_getElem
theorem B4:type_of% @Nat.add_mul:=@Nat.add_mul
theorem B5:type_of% @List.mem_of_mem_take:=@List.mem_of_mem_take
theorem B6:type_of% @List.getElem?_map:=@List.getElem?_map
theorem B7:type_of% @Bool.true_and:=@Bool.true_and
theorem B8:type_of% @List.take_append_drop:=@List.take_append_drop
theorem B9:type_of% @List.map_congr_left:=@List.map_congr_left
theorem Ba:type_of% @List.mem_cons_of_mem:=@List.mem_cons_of_mem
theorem Bb:type_of% @Option.map_some:=@Option.map_some
theorem Bc:type_of% @Nat.lt_trichotomy:=@Nat.lt_trichotomy
theorem Be:type_of% @List.nodup_range:=@List.nodup_range
theorem Bf:type_of% @List.not_mem_nil:=@List.not_mem_nil
theorem Bg:type_of% @List.map_map:=@List.map_map
theorem Bh:type_of% @List.drop_zero:=@List.drop_zero
theorem Bi:type_of% @List.ext_getElem?:=@List.ext_getElem?
theorem Bj:type_of% @List.getElem?_set_self:=@List.getElem?_set_self
theorem Bk:type_of% @List.mem_of_getElem?:=@List.mem_of_getElem?
theorem Bl:type_of% @List.all_cons:=@List.all_cons
theorem Bm:type_of% @List.length_singleton:=@List.length_singleton
theorem Bn:type_of% @List.foldl_cons:=@List.foldl_cons
theorem Bo:type_of% @List.mem_filter:=@List.mem_filter
theorem Bp:type_of% @List.drop_of_length_le:=@List.drop_of_length_le
theorem Bq:type_of% @List.map_nil:=@List.map_nil
theorem Br:type_of% @Array.getElem?_eq_some_iff:=@Array.getElem?_eq_some_iff
theorem Bs:type_of% @List.pairwise_append:=@List.pairwise_append
theorem Bt:type_of% @List.cons_append:=@List.cons_append
theorem Bu:type_of% @List.flatten_append:=@List.flatten_append
theorem Bv:type_of% @Nat.lt_or_ge:=@Nat.lt_or_ge
theorem Bw:type_of% @List.flatMap_cons:=@List.flatMap_cons
theorem Bx:type_of% @List.mem_of_mem_drop:=@List.mem_of_mem_drop
theorem By:type_of% @List.set_cons_succ:=@List.set_cons_succ
theorem Bz:type_of% @Int.cast_ofNat_Int:=@Int.cast_ofNat_Int
theorem C0:type_of% @List.nodup_nil:=@List.nodup_nil
theorem C1:type_of% @List.nodup_cons:=@List.nodup_cons
theorem C2:type_of% @List.filter_sublist:=@List.filter_sublist
theorem C3:type_of% @Nat.div_lt_iff_lt_mul:=@Nat.div_lt_iff_lt_mul
theorem C4:type_of% @Nat.le_of_ble_eq_true:=@Nat.le_of_ble_eq_true
theorem C5:type_of% @Bool.false_or:=@Bool.false_or
theorem C6:type_of% @List.getElem?_drop:=@List.getElem?_drop
theorem C7:type_of% @List.nil_append:=@List.nil_append
theorem C8:type_of% @Nat.min_eq_left:=@Nat.min_eq_left
theorem C9:type_of% @List.map_append:=@List.map_append
theorem Ca:type_of% @List.take_left':=@List.take_left'
theorem Cb:type_of% @List.take_succ_cons:=@List.take_succ_cons
theorem Cc:type_of% @List.foldl_append:=@List.foldl_append
theorem Cd:type_of% @Nat.le_of_eq:=@Nat.le_of_eq
theorem Ce:type_of% @Bool.or_eq_true:=@Bool.or_eq_true
theorem Cf:type_of% @List.set_cons_zero:=@List.set_cons_zero
theorem Cg:type_of% @List.pairwise_cons:=@List.pairwise_cons
theorem Ch:type_of% @Array.all_eq_true_iff_forall_mem:=@Array.all_eq_true_iff_forall_mem
theorem Ci:type_of% @List.mem_iff_getElem:=@List.mem_iff_getElem
theorem Cj:type_of% @List.drop_length:=@List.drop_length
theorem Ck:type_of% @Nat.not_succ_le_self:=@Nat.not_succ_le_self
theorem Cl:type_of% @List.exists_cons_of_ne_nil:=@List.exists_cons_of_ne_nil
theorem Cm:type_of% @List.takeWhile_append_dropWhile:=@List.takeWhile_append_dropWhile
theorem Cn:type_of% @List.mem_range:=@List.mem_range
theorem Co:type_of% @List.nodup_append:=@List.nodup_append
theorem Cp:type_of% @List.take_add_one:=@List.take_add_one
theorem Cq:type_of% @Array.length_toList:=@Array.length_toList
theorem Cr:type_of% @Nat.mod_lt:=@Nat.mod_lt
theorem Cs:type_of% @List.length_nil:=@List.length_nil
theorem Ct:type_of% @List.pairwise_iff_getElem:=@List.pairwise_iff_getElem
theorem Cu:type_of% @Bool.false_eq_true:=@Bool.false_eq_true
theorem Cv:type_of% @Nat.zero_mul:=@Nat.zero_mul
theorem Cw:type_of% @Nat.mod_eq_of_lt:=@Nat.mod_eq_of_lt
theorem Cx:type_of% @List.map_set:=@List.map_set
theorem Cy:type_of% @List.getElem_map:=@List.getElem_map
theorem Cz:type_of% @List.flatten_cons:=@List.flatten_cons
theorem D0:type_of% @List.append_assoc:=@List.append_assoc
theorem D1:type_of% @Nat.div_add_mod:=@Nat.div_add_mod
theorem D2:type_of% @List.filter_eq_self:=@List.filter_eq_self
theorem D3:type_of% @Nat.add_zero:=@Nat.add_zero
theorem D4:type_of% @List.all_nil:=@List.all_nil
theorem D5:type_of% @List.takeWhile_cons_of_pos:=@List.takeWhile_cons_of_pos
theorem D6:type_of% @List.length_drop:=@List.length_drop
theorem D7:type_of% @Nat.one_mul:=@Nat.one_mul
theorem D8:type_of% @List.getElem?_set_ne:=@List.getElem?_set_ne
theorem D9:type_of% @Bool.eq_iff_iff:=@Bool.eq_iff_iff
theorem Da:type_of% @List.pairwise_map:=@List.pairwise_map
theorem Db:type_of% @Bool.and_true:=@Bool.and_true
theorem Dc:type_of% @List.getElem?_range:=@List.getElem?_range
theorem Dd:type_of% @List.drop_succ_cons:=@List.drop_succ_cons
theorem De:type_of% @List.filter_cons:=@List.filter_cons
theorem Df:type_of% @List.perm_middle:=@List.perm_middle
theorem Dg:type_of% @Nat.lt_of_lt_of_le:=@Nat.lt_of_lt_of_le
theorem Dh:type_of% @List.contains_cons:=@List.contains_cons
theorem Di:type_of% @Bool.true_or:=@Bool.true_or
theorem Dj:type_of% @Int.emod_lt_of_pos:=@Int.emod_lt_of_pos
theorem Dk:type_of% @List.getElem?_eq_none:=@List.getElem?_eq_none
theorem Dl:type_of% @List.length_filter_le:=@List.length_filter_le
theorem Dm:type_of% @Array.getElem?_append_left:=@Array.getElem?_append_left
theorem Dn:type_of% @Int.tdiv_eq_ediv_of_nonneg:=@Int.tdiv_eq_ediv_of_nonneg
theorem Do:type_of% @Int.tmod_eq_emod_of_nonneg:=@Int.tmod_eq_emod_of_nonneg
theorem Dp:type_of% @Int.fdiv_eq_ediv_of_nonneg:=@Int.fdiv_eq_ediv_of_nonneg
theorem Dq:type_of% @Bool.not_eq_true':=@Bool.not_eq_true'
theorem Dr:type_of% @List.set_append_left:=@List.set_append_left
theorem Ds:type_of% @Bool.false_and:=@Bool.false_and
theorem Dt:type_of% @Nat.mul_comm:=@Nat.mul_comm
theorem Du:type_of% @List.getElem_of_mem:=@List.getElem_of_mem
theorem Dv:type_of% @List.getElem?_replicate:=@List.getElem?_replicate
theorem Dw:type_of% @Int.eq_ofNat_of_zero_le:=@Int.eq_ofNat_of_zero_le
theorem Dx:type_of% @List.getElem?_cons_succ:=@List.getElem?_cons_succ
theorem Dy:type_of% @Nat.add_assoc:=@Nat.add_assoc
theorem Dz:type_of% @List.zip_cons_cons:=@List.zip_cons_cons
theorem E0:type_of% @Int.emod_nonneg:=@Int.emod_nonneg
theorem E1:type_of% @Nat.add_comm:=@Nat.add_comm
theorem E2:type_of% @List.take_zero:=@List.take_zero
theorem E3:type_of% @List.map_id':=@List.map_id'
theorem E4:type_of% @Nat.pow_succ:=@Nat.pow_succ
theorem E5:type_of% @Int.le_refl:=@Int.le_refl
theorem E6:type_of% @UInt8.toNat_inj:=@UInt8.toNat_inj
theorem E7:type_of% @List.all_append:=@List.all_append
end Go
namespace Go.Vx
open Go
inductive Tag where
 |ro
 |full
 |app (id:Nat)
 deriving DecidableEq
inductive V where
 |u
 |bool (b:Bool)
 |int (k:IntKind) (n:Int)
 |str (s:aiZ)
 |raw (v:Value)
 |fT
 |ptr (id off:Nat)
 |sl (g:Tag) (rows:List (List V))
 |oJ (cells:List V) (off:Nat)
 |fn (f:FuncId) (bY:List V)
 |agg (cells:List V)
 |cy (vs:List V)
 |cM (id s n lo m:Nat)
 |iQ (id s n k j:Nat)
 |j6 (id s off n:Nat)
 |mp (id:Nat)
 |gV (t:Nat) (vs:List V)
instance:Inhabited V:=⟨.u⟩
variable {U:Type}{J:Type}
def bP {U J:Type} (R:U->J->Prop):List U->List J->Prop
 | [],[]=>True
 |a::az,b::bs=>R a b/\bP R az bs
 |_,_=>False
theorem bP.length {R:U->J->Prop}: ∀{l:List U} {m:List J},bP R l m->l.length=m.length
 | [],[],_=>rfl
 |_::_,_::_,h=>by simp[bP.length h.2]
 | [],_::_,h=>h.elim
 |_::_,[],h=>h.elim
theorem bP.imp {R S:U->J->Prop} (aa: ∀a b,R a b->S a b): ∀{l:List U} {m:List J},bP R l m->bP S l m
 | [],[],_=>trivial
 |_::_,_::_,h=>⟨aa _ _ h.1,bP.imp aa h.2⟩
 | [],_::_,h=>h.elim
 |_::_,[],h=>h.elim
theorem bP.get {R:U->J->Prop}: ∀{l:List U} {m:List J} (i:Nat) (a:U),bP R l m->l[i]? =some a-> ∃b,m[i]? =some b/\R a b
 |a::_,b::_,0,_,h,e=>⟨b,rfl,by simp at e;exact e▸h.1⟩
 |_::_,_::_,i+1,_,h,e=>by
  obtain⟨b,hb,r⟩:=bP.get i _ h.2 (sU e)
  grind
 | [],[],_,_,_,e=>by grind
 | [],_::_,_,_,h,_=>h.elim
 |_::_,[],_,_,h,_=>h.elim
theorem bP.of {R:U->J->Prop}: ∀{l:List U} {m:List J},l.length=m.length->(∀(i:Nat) a b,l[i]? =some a->m[i]? =some b->R a b)->bP R l m
 | [],[],_,_=>trivial
 |a::l,b::m,hl,h=>⟨h 0 a b rfl rfl,bP.of (by grind) λi x y hx hy=>h (i+1) x y (by grind) (by grind)⟩
 | [],_::_,hl,_=>by grind
 |_::_,[],hl,_=>by grind
theorem bP.append {R:U->J->Prop}: ∀{l:List U} {m:List J} {l':List U} {m':List J},bP R l m->bP R l' m'->bP R (l++l') (m++m')
 | [],[],_,_,_,h'=>h'
 |_::_,_::_,_,_,h,h'=>⟨h.1,bP.append h.2 h'⟩
 | [],_::_,_,_,h,_=>h.elim
 |_::_,[],_,_,h,_=>h.elim
theorem bP.take {R:U->J->Prop}: ∀{l:List U} {m:List J} (n:Nat),bP R l m->bP R (l.take n) (m.take n)
 | [],[],n,_=>by grind
 |_::_,_::_,0,_=>trivial
 |_::_,_::_,n+1,h=>⟨h.1,bP.take n h.2⟩
 | [],_::_,_,h=>h.elim
 |_::_,[],_,h=>h.elim
theorem bP.drop {R:U->J->Prop}: ∀{l:List U} {m:List J} (n:Nat),bP R l m->bP R (l.drop n) (m.drop n)
 | [],[],n,_=>by grind
 |_::_,_::_,0,h=>h
 |_::_,_::_,n+1,h=>bP.drop n h.2
 | [],_::_,_,h=>h.elim
 |_::_,[],_,h=>h.elim
theorem Xu {i j n s:Nat} (hi:i<n) (hj:j<s):i*s+j<n*s:=by
 have h:(i+1)*s<=n*s:=Ak s hi
 grind
inductive cF (w:World) (L:Nat->Nat):V->Value->Prop
 |bool (b:Bool):cF w L (.bool b) (.bool b)
 |int (k:IntKind) (n:Int):cF w L (.int k n) (.int k n)
 |str (s:aiZ):cF w L (.str s) (.string ⟨s.toArray⟩)
 |raw (v:Value) (h:v.oneCell'):cF w L (.raw v) v
 |fT:cF w L .fT (.pointer none)
 |jq (g:Tag) (a:Option Addr) (cap:Nat) (hg:g= .full->cap=0) (ha: ∀id,g≠ .app id):cF w L (.sl g []) (.slice a 0 cap)
 |sl (g:Tag) (rows:List (List V)) (s b o cap:Nat) (c:Nat->Nat->Value) (ha: ∀id,g≠ .app id)
   (hs:0<s) (hlen: ∀r∈rows,r.length=s) (ff:o+rows.length*s<=L b) (dq:rows.length<=cap) (hg:g= .full->cap=rows.length)
   (hc: ∀i j,i<rows.length->j<s->w.cell? ⟨b,o+i*s+j,none⟩=some (c i j))
   (hr: ∀i j (hi:i<rows.length) (hj:j<rows[i].length),cF w L (rows[i][j]) (c i j)):
   cF w L (.sl g rows) (.slice (some ⟨b,o,none⟩) rows.length cap)
structure Le (w:World) (L:Nat->Nat) (w':World) (L':Nat->Nat):Prop where
 lim: ∀b,L b<=L' b
 cell: ∀b o,o<L b->w'.cell? ⟨b,o,none⟩=w.cell? ⟨b,o,none⟩
theorem Le.refl (w:World) (L:Nat->Nat):Le w L w L:=⟨om,sm⟩
theorem Le.trans {w1 w2 w3:World} {L1 L2 L3:Nat->Nat} (h:Le w1 L1 w2 L2) (k:Le w2 L2 w3 L3):Le w1 L1 w3 L3:=
 ⟨λb=>Aw (h.lim b) (k.lim b),λb o ho=>(k.cell b o (Dg ho (h.lim b))).trans (h.cell b o ho)⟩
theorem cF.mono {w w':World} {L L':Nat->Nat} (h:Le w L w' L') {v:V} {x:Value} (r:cF w L v x):cF w' L' v x:=by
 induction r with
 |bool b=>exact .bool b
 |int k n=>exact .int k n
 |str s=>exact .str s
 |raw v hv=>exact .raw v hv
 |fT=>exact .fT
 |jq g a cap hg ha=>exact .jq g a cap hg ha
 |sl g rows s b o cap c ha hs hlen ff dq hg hc hr ih=>
  refine .sl g rows s b o cap c ha hs hlen (Aw ff (h.lim b)) dq hg (λi j hi hj=> ?_) ih
  rw[h.cell b _ (by have:=Xu hi hj;omega)]
  grind
theorem cF.dG {w:World} {L:Nat->Nat} {v:V} {x:Value} (r:cF w L v x):x.oneCell'=true:=by
 cases r<;>first|rfl|assumption
inductive Ob where
 |box (cells:List V)
 |app (n s:Nat)
 |cj (rows:List (List V)) (s:Nat)
 |dead
 |mp (dM:List V) (gh:aj0) (cZ:Nat)
 |it (m:aj5) (since:Nat) (seen:aj0) (last:Nat)
abbrev St:=List Ob
def gP (w:World) (L:Nat->Nat) (I:St) (J:aj1):V->Value->Prop
 | .u,x=>x.oneCell'=true
 | .ptr id off,x=> ∃b,J[id]? =some (.pointer (some ⟨b,0,none⟩))/\x= .pointer (some ⟨b,off,none⟩)
 | .sl (.app id) rows,x=>cF w L (.sl .ro rows) x/\ ∃n s,I[id]? =some (.app n s)/\rows.length<=n/\(rows.length=n->J[id]? =some x)/\(∀r∈rows,r.length=s)
 | .oJ cells off,x=> ∃(b o:Nat) (c:Nat->Value),x= .pointer (some ⟨b,o+off,none⟩)/\o+cells.length<=L b/\ ∀j (hj:j<cells.length),w.cell? ⟨b,o+j,none⟩=some (c j)/\cF w L cells[j] (c j)
 | .cM id s n lo m,x=> ∃a cap,x= .slice a m cap/\(m<=cap/\n<=lo+cap)/\(0<cap-> ∃b o,a=some ⟨b,o,none⟩)/\
   (I[id]? =some .dead\/ ∃rows,I[id]? =some (.cj rows s)/\n<=rows.length/\(n=rows.length-> ∃b c0,J[id]? =some (.slice b n c0)/\cap=c0 - lo/\lo<=c0/\(lo<c0-> ∃k,b=some ⟨k,0,none⟩/\a=some ⟨k,lo*s,none⟩)))
 | .iQ id s n k j,x=> ∃b o,x= .pointer (some ⟨b,o,none⟩)/\
   (I[id]? =some .dead\/ ∃rows,I[id]? =some (.cj rows s)/\n<=rows.length/\(n=rows.length->k<n-> ∃c0,J[id]? =some (.slice (some ⟨b,0,none⟩) n c0)/\o=k*s+j))
 | .j6 id _ off n,x=> ∃b,J[id]? =some (.pointer (some ⟨b,0,none⟩))/\x= .slice (some ⟨b,off,none⟩) n n
 | .mp id,x=> ∃b,J[id]? =some (.pointer (some ⟨b,0,none⟩))/\x= .map (some b)
 | .fn _ _,_=>False
 | .agg _,_=>False
 | .cy _,_=>False
 | .gV _ _,_=>False
 |v,x=>cF w L v x
def df (w:World) (L:Nat->Nat) (I:St) (J:aj1):V->Value->Prop
 | .fn f bY,x=> ∃xs:aj1,x= .func (.func f) #[] xs.toArray/\bP (gP w L I J) bY xs
 | .gV t vs,x=> ∃y,x= .iface t y/\bP (gP w L I J) vs [y]
 |v,x=>gP w L I J v x
def dW (w:World) (L:Nat->Nat) (I:St) (J:aj1):V->Value->Prop
 | .agg cs,x=> ∃xs:aj1,x= .agg xs.toArray/\bP (df w L I J) cs xs
 |v,x=>df w L I J v x
def dD (w:World) (L:Nat->Nat) (I:St) (J:aj1):V->Value->Prop
 | .u,_=>True
 | .cy vs,x=> ∃xs:aj1,x= .tuple xs.toArray/\bP (dW w L I J) vs xs
 |v,x=>dW w L I J v x
structure Ext (I:St) (J:aj1) (I':St) (J':aj1):Prop where
 ptr: ∀(id:Nat) a,J[id]? =some (.pointer a)->J'[id]? =some (.pointer a)
 app: ∀(id:Nat) n s,I[id]? =some (.app n s)-> ∃n',I'[id]? =some (.app n' s)/\n<=n'/\(n'=n->J'[id]? =J[id]?)
 cj: ∀(id:Nat) rows s,I[id]? =some (.cj rows s)->I'[id]? =some .dead\/ ∃ep,I'[id]? =some (.cj ep s)/\rows.length<=ep.length/\(ep.length=rows.length->J'[id]? =J[id]?)
 dead: ∀(id:Nat),I[id]? =some .dead->I'[id]? =some .dead
theorem Ext.refl (I:St) (J:aj1):Ext I J I J:=⟨sm,(by grind),(by grind),λ_ h=>h⟩
theorem Ext.trans {I1 I2 I3:St} {J1 J2 J3:aj1} (h:Ext I1 J1 I2 J2) (k:Ext I2 J2 I3 J3):Ext I1 J1 I3 J3:=by
 refine⟨λid a e=>k.ptr id a (h.ptr id a e),λid n s e=> ?_,λid rows s e=> ?_,λid e=>k.dead id (h.dead id e)⟩
 .obtain⟨n2,e2,l2,p2⟩:=h.app id n s e
  obtain⟨n3,e3,l3,p3⟩:=k.app id n2 s e2
  grind
 .rcases h.cj id rows s e with e2|⟨r2,e2,l2,p2⟩
  .exact .inl (k.dead id e2)
  .rcases k.cj id r2 s e2 with e3|⟨r3,e3,l3,p3⟩
   all_goals grind
section
variable {w w':World} {L L':Nat->Nat} {I I':St} {J J':aj1}
variable {x:Value}
theorem gP.mono (h:Le w L w' L') (k:Ext I J I' J') {v:V} (r:gP w L I J v x):gP w' L' I' J' v x:=by
 cases v with
 |u=>exact r
 |ptr id off=>obtain⟨b,hb,hx⟩:=r;exact⟨b,k.ptr _ _ hb,hx⟩
 |sl g rows=>
  cases g with
  |app id=>
   obtain⟨hr,n,s,cJ,hle,dh,hl⟩:=r
   obtain⟨n',aa,hn,ab⟩:=k.app id n s cJ
   refine⟨hr.mono h,n',s,aa,om,λe=> ?_,hl⟩
   grind
  |ro=>exact cF.mono h r
  |full=>exact cF.mono h r
 |oJ cells off=>
  obtain⟨b,o,c,hx,hl,hc⟩:=r
  refine⟨b,o,c,hx,Aw hl (h.lim b),λj hj=> ?_⟩
  obtain⟨h1,h2⟩:=hc j hj
  exact⟨by rw[h.cell b _ om];exact h1,h2.mono h⟩
 |cM id s n lo m=>
  obtain⟨a,cap,hx,hm,ha,hc⟩:=r
  refine⟨a,cap,hx,hm,ha, ?_⟩
  rcases hc with hd|⟨rows,cJ,hn,hb⟩
  .exact .inl (k.dead id hd)
  .rcases k.cj id rows s cJ with hd|⟨r2,e2,l2,p2⟩
   all_goals grind
 |iQ id s n i j=>
  obtain⟨b,o,hx,hc⟩:=r
  refine⟨b,o,hx, ?_⟩
  rcases hc with hd|⟨rows,cJ,hn,hb⟩
  .exact .inl (k.dead id hd)
  .rcases k.cj id rows s cJ with hd|⟨r2,e2,l2,p2⟩
   all_goals grind
 |j6 id s off n=>obtain⟨b,hb,hx⟩:=r;exact⟨b,k.ptr _ _ hb,hx⟩
 |mp id=>obtain⟨b,hb,hx⟩:=r;exact⟨b,k.ptr _ _ hb,hx⟩
 |fn f bY=>exact r
 |gV t v=>exact r
 |agg cs=>exact r
 |cy vs=>exact r
 |bool b=>exact cF.mono h r
 |int k n=>exact cF.mono h r
 |str s=>exact cF.mono h r
 |raw v=>exact cF.mono h r
 |fT=>exact cF.mono h r
theorem df.mono (h:Le w L w' L') (k:Ext I J I' J') {v:V} (r:df w L I J v x):df w' L' I' J' v x:=by
 cases v with
 |fn f bY=>obtain⟨xs,hx,hc⟩:=r;exact⟨xs,hx,hc.imp (by grind[gP.mono])⟩
 |gV t v=>obtain⟨y,hx,hc⟩:=r;exact⟨y,hx,hc.imp (by grind[gP.mono])⟩
 |_=>simp only[df]at r⊢;exact gP.mono h k r
theorem dW.mono (h:Le w L w' L') (k:Ext I J I' J') {v:V} (r:dW w L I J v x):dW w' L' I' J' v x:=by
 cases v with
 |agg cs=>obtain⟨xs,hx,hc⟩:=r;exact⟨xs,hx,hc.imp (by grind[df.mono])⟩
 |_=>simp only[dW]at r⊢;exact df.mono h k r
theorem dD.mono (h:Le w L w' L') (k:Ext I J I' J') {v:V} (r:dD w L I J v x):dD w' L' I' J' v x:=by
 cases v with
 |u=>trivial
 |cy vs=>obtain⟨xs,hx,hc⟩:=r;exact⟨xs,hx,hc.imp (by grind[dW.mono])⟩
 |_=>simp only[dD]at r⊢;exact dW.mono h k r
theorem gP.dG {v:V} (r:gP w L I J v x):x.oneCell'=true:=by
 cases v with
 |u=>exact r
 |ptr id off=>obtain⟨b,_,rfl⟩:=r;rfl
 |sl g rows=>cases g with
  |app id=>exact r.1.dG
  |ro=>exact cF.dG r
  |full=>exact cF.dG r
 |oJ cells off=>obtain⟨b,o,c,rfl,_⟩:=r;rfl
 |cM id s n lo m=>obtain⟨a,cap,rfl,_⟩:=r;rfl
 |iQ id s n k j=>obtain⟨b,o,rfl,_⟩:=r;rfl
 |j6 id s off n=>obtain⟨b,_,rfl⟩:=r;rfl
 |mp id=>obtain⟨b,_,rfl⟩:=r;rfl
 |fn f bY=>trivial
 |gV t v=>trivial
 |agg cs=>trivial
 |cy vs=>trivial
 |_=>simp only[gP]at r;exact cF.dG r
theorem df.dG {v:V} (r:df w L I J v x):x.oneCell'=true:=by
 cases v with
 |fn f bY=>obtain⟨xs,rfl,_⟩:=r;rfl
 |gV t v=>obtain⟨y,rfl,_⟩:=r;rfl
 |_=>simp only[df]at r;exact gP.dG r
theorem df.dw {v:V} (r:cF w L v x):df w L I J v x:=by
 cases r with
 |jq g a cap hg ha=>cases g with
  |app id=>grind
  |ro=>exact .jq _ a cap hg ha
  |full=>exact .jq _ a cap hg ha
 |sl g rows s b o cap c ha hs hlen ff dq hg hc hr=>cases g with
  |app id=>grind
  |ro=>exact .sl _ rows s b o cap c ha hs hlen ff dq hg hc hr
  |full=>exact .sl _ rows s b o cap c ha hs hlen ff dq hg hc hr
 |bool b=>exact cF.bool b
 |int k n=>exact cF.int k n
 |str s=>exact cF.str s
 |raw _ hv=>exact cF.raw _ hv
 |fT=>exact cF.fT
theorem dW.dK {v:V} (r:df w L I J v x):dW w L I J v x:=by
 cases v<;>first|exact r|(simp only[dW];exact r)|exact r.elim
theorem dD.dK {v:V} (r:df w L I J v x):dD w L I J v x:=by
 cases v<;>first|exact r|exact r.elim|trivial
theorem dD.lf {v:V} (r:dW w L I J v x):dD w L I J v x:=by
 cases v<;>first|exact r|exact r.elim|trivial
end
theorem eX {U:Sort _} (a:U): ∃b,a=b:=⟨a,rfl⟩
def fG:List (Nat×List V):= []
def su:List (Nat×IntKind):= [(0,.i64)]
abbrev Env:=Nat->V
def fo (e:Env) (d:Nat) (v:V):Env:=λt=>if t=d then v else e t
def ma:Env:=λ_=> .u
structure Ctx where
 w0:World
 L0:Nat->Nat
 X0:aj0
 cv:St
 β0:aj1
def dd:Ob->Value->aj5
 | .box _,.pointer (some a)=>some a.block
 | .app n _,.slice (some a) _ cap=>if n<cap then some a.block else none
 | .cj _ _,.slice (some a) _ cap=>if 0<cap then some a.block else none
 | .mp _ _ _,.pointer (some a)=>some a.block
 | .it _ _ _ _,.pointer (some a)=>some a.block
 |_,_=>none
def rH (arr:aj3) (fz:Nat×Nat):Prop:= ∀o,o<arr.size-> ¬(fz.1<=o/\o<fz.2)
def fH (s:Nat) (arr:aj3) (fz:Nat×Nat):Prop:=rH arr fz/\(s=1\/ ¬(fz.1<=arr.size/\arr.size<fz.2))
def pK (es:Array MapEntry):aj1:=es.toList.flatMap λe=> [e.key,e.val]
theorem P8 (s:Nat) (arr:aj3):fH s arr (0,0):=⟨λq _ hq=>om,om⟩
theorem fH.size {s:Nat} {arr aa:aj3} {fz:Nat×Nat} (h:fH s arr fz) (e:aa.size=arr.size):fH s aa fz:=⟨λq hq=>h.1 q om,by rw[e];exact h.2⟩
def gW (w:World) (L:Nat->Nat) (I:St) (J:aj1):Ob->Value->Prop
 | .box cells,x=> ∃b arr T fz,x= .pointer (some ⟨b,0,none⟩)/\w.heap[b]? =some (.cells arr T fz)/\rH arr fz/\L b=0/\bP (df w L I J) cells arr.toList
 | .app n s,x=> ∃a cap,x= .slice a n cap/\n<=cap/\0<s/\(n<cap-> ∃b o arr T fz,a=some ⟨b,o,none⟩/\w.heap[b]? =some (.cells arr T fz)/\rH arr fz/\o+cap*s<=arr.size/\L b=o+n*s)
 | .cj rows s,x=> ∃a cap,x= .slice a rows.length cap/\rows.length<=cap/\0<s/\(∀r∈rows,r.length=s)/\
   (0<cap-> ∃b arr T fz,a=some ⟨b,0,none⟩/\w.heap[b]? =some (.cells arr T fz)/\fH s arr fz/\cap*s<=arr.size/\L b=0/\bP (df w L I J) rows.flatten (arr.toList.take (rows.length*s)))
 | .dead,_=>True
 | .mp dM gh cZ,x=> ∃b es,x= .pointer (some ⟨b,0,none⟩)/\w.heap[b]? =some (.map es cZ)/\L b=0/\bP (dW w L I J) dM (pK es)/\es.toList.map (·.born)=gh
 | .it m since seen last,x=> ∃b mo,x= .pointer (some ⟨b,0,none⟩)/\w.heap[b]? =some (.mapIter mo since seen.toArray last)/\L b=0/\
   (match m with|none=>mo=none|some id=> ∃r,J[id]? =some (.pointer (some ⟨r,0,none⟩))/\mo=some r)
def Xv (w:World) (L:Nat->Nat) (g:Nat) (cells:List V):Prop:=cells.length<=L g/\ ∃c:Nat->Value,∀j (hj:j<cells.length),w.cell? ⟨g,j,none⟩=some (c j)/\cF w L cells[j] (c j)
structure im (w:World) (L:Nat->Nat):Prop where
 jD: ∀p∈fG,Xv w L p.1 p.2
 num: ∀p∈su,1<=L p.1/\ ∃m,w.cell? ⟨p.1,0,none⟩=some (.int p.2 m)
theorem im.mono {w w':World} {L L':Nat->Nat} (h:Le w L w' L') (r:im w L):im w' L':=by
 refine⟨λp hp=>(by trivial),λp hp=> ?_⟩
 obtain⟨h1,m,h2⟩:=r.num p hp
 exact⟨Aw h1 (h.lim _),m,by rw[h.cell _ 0 om];exact h2⟩
structure Mem (c:Ctx) (w:World) (L:Nat->Nat) (I:St) (J:aj1):Prop where
 len:J.length=I.length
 di: ∀(i:Nat) o x,I[i]? =some o->J[i]? =some x->gW w L I J o x
 apart: ∀(i j:Nat) o o' x x' b,i≠j->I[i]? =some o->J[i]? =some x->I[j]? =some o'->J[j]? =some x'->dd o x=some b->dd o' x'≠some b
 fW: ∀(i:Nat) o x b,I[i]? =some o->J[i]? =some x->dd o x=some b->c.w0.heap.size<=b\/b∈c.X0
 same: ∀b,b<c.w0.heap.size->b∉c.X0->w.heap[b]? =c.w0.heap[b]? /\L b=c.L0 b
 le:Le c.w0 c.L0 w L
 size:c.w0.heap.size<=w.heap.size
 os:w.os=c.w0.os
 tape:w.tape=c.w0.tape
 output:w.output=c.w0.output
 drawn:c.w0.drawn<=w.drawn
 lim: ∀b,w.heap.size<=b->L b=0
 ext:Ext c.cv c.β0 I J
 jD:im c.w0 c.L0
theorem gW.step {w w':World} {L L':Nat->Nat} {I I':St} {J J':aj1} {o:Ob} {x:Value} (h:Le w L w' L') (k:Ext I J I' J')
  (hb: ∀b,dd o x=some b->w'.heap[b]? =w.heap[b]? /\L' b=L b) (r:gW w L I J o x):gW w' L' I' J' o x:=by
 cases o with
 |box cells=>
  obtain⟨b,arr,T,fz,rfl,hh,hf,hl,hc⟩:=r
  obtain⟨e1,e2⟩:=hb b rfl
  exact⟨b,arr,T,fz,rfl,e1.trans hh,hf,e2.trans hl,hc.imp (by grind[df.mono])⟩
 |app n s=>
  obtain⟨a,cap,rfl,hn,hs,hx⟩:=r
  refine⟨a,cap,rfl,hn,hs,λaa=> ?_⟩
  obtain⟨b,o,arr,T,fz,rfl,hh,hf,ab,hl⟩:=hx aa
  obtain⟨e1,e2⟩:=hb b (by simp[dd,aa])
  grind
 |cj rows s=>
  obtain⟨a,cap,rfl,hn,hs,hu,hx⟩:=r
  refine⟨a,cap,rfl,hn,hs,hu,λaa=> ?_⟩
  obtain⟨b,arr,T,fz,rfl,hh,hf,ab,hl,hc⟩:=hx aa
  obtain⟨e1,e2⟩:=hb b (by simp[dd,aa])
  exact⟨b,arr,T,fz,rfl,e1.trans hh,hf,ab,e2.trans hl,hc.imp (by grind[df.mono])⟩
 |dead=>trivial
 |mp dM gh cZ=>
  obtain⟨b,es,rfl,hh,hl,hc,ad⟩:=r
  obtain⟨e1,e2⟩:=hb b rfl
  exact⟨b,es,rfl,e1.trans hh,e2.trans hl,hc.imp (by grind[dW.mono]),ad⟩
 |it m since seen last=>
  obtain⟨b,mo,rfl,hh,hl,hc⟩:=r
  obtain⟨e1,e2⟩:=hb b rfl
  refine⟨b,mo,rfl,e1.trans hh,e2.trans hl, ?_⟩
  cases m with
  |none=>exact hc
  |some id=>obtain⟨q,hq,hm⟩:=hc;exact⟨q,k.ptr _ _ hq,hm⟩
theorem gW.eN {w:World} {L:Nat->Nat} {I:St} {J:aj1} {o:Ob} {x:Value} {b:Nat} (r:gW w L I J o x) (h:dd o x=some b):b<w.heap.size:=by
 cases o with
 |box cells=>
  obtain⟨b',arr,T,fz,rfl,hh,_⟩:=r
  grind[dd]
 |app n s=>
  obtain⟨a,cap,rfl,hn,hs,hx⟩:=r
  cases a<;>grind[dd]
 |cj rows s=>
  obtain⟨a,cap,rfl,hn,hs,hu,hx⟩:=r
  cases a<;>grind[dd]
 |dead=>trivial
 |mp dM gh cZ=>
  obtain⟨b',es,rfl,hh,_⟩:=r
  grind[dd]
 |it m since seen last=>
  obtain⟨b',mo,rfl,hh,_⟩:=r
  grind[dd]
section
variable {c:Ctx} {w:World} {L:Nat->Nat} {I:St} {J:aj1}
variable {i:Nat}{U:Type}{cells:List V}
theorem Mem.drew (h:Mem c w L I J):Mem c w.drew L I J/\Le w L w.drew L:=by
 have hle:Le w L w.drew L:=⟨om,sm⟩
 refine⟨⟨h.len,λi o x hi hx=>(h.di i o x hi hx).step hle (Ext.refl _ _) λb hb=>(by trivial),h.apart,h.fW,h.same,h.le.trans hle,h.size,h.os,h.tape,h.output,Nat.le_succ_of_le h.drawn,h.lim,h.ext,h.jD⟩,hle⟩
def xM (L:Nat->Nat) (b n:Nat):Nat->Nat:=λk=>if k=b then n else L k
theorem yL (w:World) (o:Go.Obj):(w.alloc o).heap[w.heap.size]? =some o:=by
 show(w.heap.push o)[w.heap.size]? =_
 simp
theorem GI (w:World) (o:Go.Obj) {k:Nat} (h:k<w.heap.size):(w.alloc o).heap[k]? =w.heap[k]? :=by
 show(w.heap.push o)[k]? =_
 grind
theorem BL {w w':World} {b:Nat} (h:w'.heap[b]? =w.heap[b]?) (o:Nat):w'.cell? ⟨b,o,none⟩=w.cell? ⟨b,o,none⟩:=by
 grind[World.cell?]
theorem Mem.alloc (h:Mem c w L I J) (o:Go.Obj) (m:Nat):Mem c (w.alloc o) (xM L w.heap.size m) I J/\Le w L (w.alloc o) (xM L w.heap.size m):=by
 have hL: ∀b,b<w.heap.size->xM L w.heap.size m b=L b:=(by grind[xM])
 have hle:Le w L (w.alloc o) (xM L w.heap.size m):=by
  refine⟨λb=> ?_,λb off ho=> ?_⟩
  .by_cases hb:b=w.heap.size
   .subst hb;rw[h.lim _ om];omega
   grind[xM]
  .have hb:b<w.heap.size:=by
    rcases Bv b w.heap.size with hb|hb
    .exact hb
    .rw[h.lim b hb]at ho;omega
   grind[BL,GI]
 refine⟨⟨h.len,λi ob x hi hx=>(h.di i ob x hi hx).step hle (Ext.refl _ _) λb hb=> ?_,h.apart,h.fW,λb hb hx=> ?_,h.le.trans hle, ?_,h.os,h.tape,h.output,h.drawn,λb hb=> ?_,h.ext,h.jD⟩,hle⟩
 .have aa:=(h.di i ob x hi hx).eN hb
  grind[GI]
 .have aa:b<w.heap.size:=Dg hb h.size
  rw[GI w o aa,hL b aa]
  exact h.same b hb hx
 .simp;have:=h.size;omega
 .simp at hb
  simp[xM]
  rw[aiu om]
  exact h.lim b om
theorem Ext.push (I:St) (J:aj1) (hl:J.length=I.length) (o:Ob) (x:Value):Ext I J (I++ [o]) (J++ [x]):=by
 refine⟨(by grind),(by grind),(by grind),(by grind)⟩
 all_goals grind
theorem xG {l:List U} {a b:U} (h:(l++ [a])[i]? =some b):(i<l.length/\l[i]? =some b)\/(i=l.length/\b=a):=by
 grind
theorem Mem.push (h:Mem c w L I J) (o:Ob) (x:Value) (ho:gW w L (I++ [o]) (J++ [x]) o x)
  (ak: ∀(i:Nat) o' x' b,I[i]? =some o'->J[i]? =some x'->dd o' x'=some b->dd o x≠some b)
  (hm: ∀b,dd o x=some b->c.w0.heap.size<=b\/b∈c.X0):Mem c w L (I++ [o]) (J++ [x]):=by
 have ad:=Ext.push I J h.len o x
 refine⟨by simp[h.len],λi o' x' hi hx=> ?_,λi j o1 o2 x1 x2 b ah hi ae hj ab hb=> ?_,λi o' x' b hi hx hb=> ?_,h.same,h.le,h.size,h.os,h.tape,h.output,h.drawn,h.lim,h.ext.trans ad,h.jD⟩
 .rcases xG hi with ⟨hl,hi⟩|⟨hl,rfl⟩
  .rcases xG hx with ⟨_,hx⟩|⟨aa,_⟩
   .exact(h.di i o' x' hi hx).step (Le.refl _ _) ad sm
   .rw[h.len]at aa;omega
  .rcases xG hx with ⟨aa,hx⟩|⟨_,rfl⟩
   .rw[h.len]at aa;omega
   omega
 .rcases xG hi with ⟨hl,ai⟩|⟨hl,rfl⟩
  .rcases xG ae with ⟨_,af⟩|⟨aa,_⟩
   .rcases xG hj with ⟨aj,hj⟩|⟨aj,rfl⟩
    .rcases xG ab with ⟨_,ab⟩|⟨aa,_⟩
     .exact h.apart i j o1 o2 x1 x2 b ah ai af hj ab hb
     .rw[h.len]at aa;omega
    .rcases xG ab with ⟨aa,_⟩|⟨_,rfl⟩
     .rw[h.len]at aa;omega
     grind
   .rw[h.len]at aa;omega
  .rcases xG ae with ⟨aa,_⟩|⟨_,rfl⟩
   .rw[h.len]at aa;omega
   grind
 .rcases xG hi with ⟨hl,hi⟩|⟨hl,rfl⟩
  .rcases xG hx with ⟨_,hx⟩|⟨aa,_⟩
   .exact h.fW i o' x' b hi hx hb
   .rw[h.len]at aa;omega
  .rcases xG hx with ⟨aa,_⟩|⟨_,rfl⟩
   .rw[h.len]at aa;omega
   grind
theorem Mem.box (h:Mem c w L I J) (cells:List V) (arr:aj3) (T:TypeId) (hc:bP (df w L I J) cells arr.toList):
  Mem c (w.alloc (.cells arr T)) L (I++ [.box cells]) (J++ [.pointer (some ⟨w.heap.size,0,none⟩)])/\Le w L (w.alloc (.cells arr T)) L:=by
 have h1:=h.alloc (.cells arr T) 0
 have hL:xM L w.heap.size 0=L:=by
  funext k
  by_cases hk:k=w.heap.size
  .subst hk;simp[xM,h.lim _ (A7 _)]
  grind[xM]
 rw[hL]at h1
 refine⟨h1.1.push _ _ ⟨w.heap.size,arr,T,(0,0),rfl,yL _ _,λo _ h=>om,h.lim _ om,hc.imp λ_ _=>df.mono h1.2 (Ext.push I J h.len _ _)⟩ ?_ ?_,h1.2⟩
 .intro i o' x' b hi hx hb e
  have:=(h.di i o' x' hi hx).eN hb
  grind[dd]
 .intro b hb
  simp[dd]at hb
  subst hb
  exact .inl h.size
def yC (w:World) (b:Nat) (o:Go.Obj):World:={w with heap:=w.heap.setIfInBounds b o}
theorem xH (w:World) (b:Nat) (o:Go.Obj) (hb:b<w.heap.size):(yC w b o).heap[b]? =some o:=by
 grind[yC]
theorem uu (w:World) (b k:Nat) (o:Go.Obj) (hk:k≠b):(yC w b o).heap[k]? =w.heap[k]? :=by
 grind[yC]
def yD (arr:aj3) (k:Nat):aj1->aj3
 | []=>arr
 |v::vs=>yD (arr.setIfInBounds k v) (k+1) vs
theorem yJ: ∀(vs:aj1) (arr:aj3) (k:Nat),(yD arr k vs).size=arr.size
 | [],_,_=>rfl
 |v::vs,arr,k=>by simp[yD,yJ vs]
theorem wO: ∀(vs:aj1) (arr:aj3) (k:Nat) (i:Nat),k+vs.length<=arr.size->(yD arr k vs)[i]? =if k<=i/\i<k+vs.length then vs[i - k]? else arr[i]?
 | [],arr,k,i,_=>by grind[yD]
 |v::vs,arr,k,i,h=>by
  simp only[Ah]at h⊢
  rw[yD,wO vs _ _ _ (by simp;omega)]
  grind
theorem Xw (w:World) (b off:Nat) (v:Value) (cur:aj3) (T:TypeId) (fz:Nat×Nat) (hb:w.heap[b]? =some (.cells cur T fz)):
  w.setCell ⟨b,off,none⟩ v=yC w b (.cells (cur.setIfInBounds off v) T fz):=by
 obtain⟨aa,hv⟩:=Br.1 hb
 unfold World.setCell yC
 congr 1
 grind
theorem Xx (w:World) (b:Nat) (o o':Go.Obj):yC (yC w b o) b o'=yC w b o':=by
 simp[yC]
theorem Xy (w:World) (b:Nat) (o:Go.Obj) (hb:w.heap[b]? =some o):yC w b o=w:=by
 obtain⟨aa,hv⟩:=Br.1 hb
 unfold yC
 have:w.heap.setIfInBounds b o=w.heap:=by
  grind
 simp_all
theorem wE (b o n:Nat):Addr.add ⟨b,o,none⟩ n=⟨b,o+n,none⟩:=by
 unfold Addr.add
 simp
theorem xP (P:Program) (b o:Nat) (T:TypeId) (fz:Nat×Nat): ∀(vs:aj1) (i:Nat) (cur:aj3) (w:World),w.heap[b]? =some (.cells cur T fz)->rH cur fz->o+i+vs.length<=cur.size->(∀v∈vs,v.oneCell'=true)->
  (storeCells ⟨b,o,none⟩ vs i).run P w= .ok () (yC w b (.cells (yD cur (o+i) vs) T fz))
 | [],i,cur,w,hb,_,_,_=>by
  rw[storeCells,yD,Xy _ _ _ hb];rfl
 |v::vs,i,cur,w,hb,hu,hl,hv=>by
  simp only[Ah]at hl
  have hc:w.cell? ⟨b,o+i,none⟩=some (cur[o+i]'om):=by grind[World.cell?]
  have hf:w.frozen? ⟨b,o+i,none⟩=false:=by
   have:=hu (o+i) om
   grind[World.frozen?]
  obtain⟨aa,_⟩:=Br.1 hb
  rw[storeCells]
  simp only[Sem.run_bind,wE]
  rw[run_store P w ⟨b,o+i,none⟩ v .plain (hv v sm)]
  simp only[hc,hf,aiL,Cu,Result.andThen_ok]
  rw[Xw w b (o+i) v cur T fz hb]
  have ih:=xP P b o T fz vs (i+1) (cur.setIfInBounds (o+i) v) (yC w b (.cells (cur.setIfInBounds (o+i) v) T fz)) (xH _ _ _ aa)
   (λk hk=>hu k (by grind)) (by grind) (by grind)
  rw[ih,Xx]
  rfl
theorem oK {l:List U} {j:Nat} {a b:U} (h:(l.set i a)[j]? =some b):(j=i/\b=a/\i<l.length)\/(j≠i/\l[j]? =some b):=by
 grind
theorem Mem.fo (h:Mem c w L I J) {w':World} {L':Nat->Nat} (i:Nat) (o:Ob) (x:Value)
  (hle:Le w L w' L') (ab:Ext I J (I.set i o) (J.set i x))
  (D:Nat->Prop) (hD: ∀(j:Nat) o' x' b,j≠i->I[j]? =some o'->J[j]? =some x'->dd o' x'=some b-> ¬D b)
  (ay: ∀b,D b->c.w0.heap.size<=b\/b∈c.X0)
  (af: ∀b,¬D b->w'.heap[b]? =w.heap[b]? /\L' b=L b)
  (al:w'.heap.size=w.heap.size) (an:w'.os=w.os) (ad:w'.tape=w.tape) (ah:w'.output=w.output)
  (ff: ∀b,w.heap.size<=b->L' b=0)
  (cQ:gW w' L' (I.set i o) (J.set i x) o x) (hex: ∀b,dd o x=some b->D b) (ao:w.drawn<=w'.drawn:=by exact A7 _):Mem c w' L' (I.set i o) (J.set i x):=by
 refine⟨by simp[h.len],λj o' x' hj hx=> ?_,λj k o1 o2 x1 x2 b aq hj ar hk au hb=> ?_,λj o' x' b hj hx hb=> ?_,λb hb hx=> ?_,h.le.trans hle,by rw[al];exact h.size,an.trans h.os,ad.trans h.tape,ah.trans h.output,Aw h.drawn ao,(by grind),h.ext.trans ab,h.jD⟩
 .rcases oK hj with ⟨rfl,rfl,hl⟩|⟨ai,aa⟩
  .grind
  .rcases oK hx with ⟨e,_,_⟩|⟨_,ae⟩
   .omega
   .exact(h.di j o' x' aa ae).step hle ab (by grind)
 .rcases oK hj with ⟨rfl,rfl,hl⟩|⟨ai,aa⟩
  .grind
  .rcases oK ar with ⟨e,_,_⟩|⟨_,aj⟩
   .omega
   .rcases oK hk with ⟨rfl,rfl,_⟩|⟨ax,av⟩
    .grind
    .rcases oK au with ⟨e,_,_⟩|⟨_,ak⟩
     .omega
     .exact h.apart j k o1 o2 x1 x2 b aq aa aj av ak hb
 .rcases oK hj with ⟨rfl,rfl,hl⟩|⟨ai,aa⟩
  .grind
  .rcases oK hx with ⟨e,_,_⟩|⟨_,ae⟩
   .omega
   .exact h.fW j o' x' b aa ae hb
 .have aw: ¬D b:=(by grind)
  obtain⟨e1,e2⟩:=af b aw
  obtain⟨e3,e4⟩:=h.same b hb hx
  grind
theorem Ext.jI (hi:I[i]? =some (Ob.box cells)) (aa:List V):Ext I J (I.set i (.box aa)) J:=by
 refine⟨sm,(by grind),(by grind),(by grind)⟩
 all_goals grind
def putCells (cells:List V) (off:Nat) (vs:List V):List V:=cells.take off++vs++cells.drop (off+vs.length)
theorem yN (l:List U) (i:Nat) (a:U) (h:l[i]? =some a):l.set i a=l:=by
 apply Bi
 grind
theorem Xz (cells vs:List V) (off i:Nat) (h:off+vs.length<=cells.length):(putCells cells off vs)[i]? =if off<=i/\i<off+vs.length then vs[i - off]? else cells[i]? :=by
 unfold putCells
 have ht:(cells.take off).length=off:=by grind
 grind
theorem P9 (cells vs:List V) (off:Nat) (h:off+vs.length<=cells.length):(putCells cells off vs).length=cells.length:=by
 grind[putCells]
theorem Qa {R:V->Value->Prop} {vs:List V} {arr:aj3} {xs:aj1} {off:Nat} (h:bP R cells arr.toList) (hv:bP R vs xs) (hl:off+vs.length<=cells.length):
  bP R (putCells cells off vs) (yD arr off xs).toList:=by
 have e1:=h.length
 have e2:=hv.length
 simp at e1
 refine bP.of (by grind[P9,yJ]) λi a b ha hb=> ?_
 rw[Xz _ _ _ _ hl]at ha
 rw[Aq,wO _ _ _ _ om,<-e2]at hb
 by_cases hc:off<=i/\i<off+vs.length
 .rw[aiv hc]at ha hb
  obtain⟨y,hy,r⟩:=hv.get _ _ ha
  grind
 .rw[aiu hc]at ha hb
  obtain⟨y,hy,r⟩:=h.get _ _ ha
  grind
theorem Mem.jI (h:Mem c w L I J) {vs:List V} {xs:aj1} {off b:Nat} (hi:I[i]? =some (.box cells)) (dh:J[i]? =some (.pointer (some ⟨b,0,none⟩)))
  (hv:bP (df w L I J) vs xs) (hl:off+vs.length<=cells.length):
  ∃arr T fz,w.heap[b]? =some (.cells arr T fz)/\rH arr fz/\arr.size=cells.length/\
   Mem c (yC w b (.cells (yD arr off xs) T fz)) L (I.set i (.box (putCells cells off vs))) J/\Le w L (yC w b (.cells (yD arr off xs) T fz)) L:=by
 have cQ:=h.di i _ _ hi dh
 obtain⟨b',arr,T,fz,e,hh,hf,h0,hc⟩:=cQ
 cases e
 have ab:b<w.heap.size:=(by grind)
 have hle:Le w L (yC w b (.cells (yD arr off xs) T fz)) L:=by
  refine⟨om,λk o ho=>BL (uu w b k _ λq=> ?_) o⟩
  grind
 refine⟨arr,T,fz,hh,hf,by have:=hc.length;grind, ?_,hle⟩
 have aa:=yN J i _ dh
 have af:Ext I J (I.set i (.box (putCells cells off vs))) J:=Ext.jI hi _
 have key:=h.fo (w':=yC w b (.cells (yD arr off xs) T fz)) (L':=L) i (.box (putCells cells off vs)) (.pointer (some ⟨b,0,none⟩)) hle (by grind) (λk=>k=b)
  (λj o' x' k hj ad ae hk e=>by subst e;exact h.apart j i o' _ x' _ k hj ad ae hi dh hk rfl)
  (λk e=>by subst e;exact h.fW i _ _ k hi dh rfl)
  (λk hk=>⟨uu w b k _ hk,rfl⟩) (by simp[yC]) rfl rfl rfl h.lim ?_ (by grind[dd])
 .grind
 .rw[aa]
  refine⟨b,_,T,fz,rfl,xH _ _ _ ab,λo ho=>hf o (by grind[yJ]),h0, ?_⟩
  exact(Qa hc hv hl).imp (by grind[df.mono])
end
variable {w:World}{L:Nat->Nat}{g:Tag}{x:Value}
def eI (s:Nat) (rows:List (List V)):Prop:= ∀r∈rows,r.length=s
theorem yB {U:Type} {s:Nat}: ∀{rows:List (List U)},(∀r∈rows,r.length=s)->rows.flatten.length=rows.length*s
 | [],_=>by simp
 |r::rows,h=>by
  simp_all[yB,B4,E1]
theorem yQ {U:Type} {s:Nat}: ∀{rows:List (List U)} (i j:Nat),(∀r∈rows,r.length=s)->j<s->rows.flatten[i*s+j]? =(rows[i]?).bind λr=>r[j]?
 | [],i,j,_,_=>by simp
 |r::rows,0,j,h,hj=>by
  grind
 |r::rows,i+1,j,h,hj=>by
  have hr:=h r sm
  rw[Cz,Au (by rw[hr,B4];omega),hr,show(i+1)*s+j - s=i*s+j by rw[B4];omega,
   yQ i j (λx hx=>h x (by simp[hx])) hj]
  simp
theorem cF.of_flat {rows:List (List V)} {s b o cap:Nat} (hs:0<s) (hu:eI s rows) (ff:o+rows.length*s<=L b) (dq:rows.length<=cap)
  (ha: ∀id,g≠ .app id) (hg:g= .full->cap=rows.length)
  (h: ∀(k:Nat) v,rows.flatten[k]? =some v-> ∃x,w.cell? ⟨b,o+k,none⟩=some x/\cF w L v x):cF w L (.sl g rows) (.slice (some ⟨b,o,none⟩) rows.length cap):=by
 refine .sl g rows s b o cap (λi j=>(w.cell? ⟨b,o+i*s+j,none⟩).getD undef) ha hs hu ff dq hg (λi j hi hj=> ?_) (λi j hi hj=> ?_)
 .have aa:j<rows[i].length:=by rw[hu _ sm];exact hj
  obtain⟨x,hx,_⟩:=h (i*s+j) (rows[i][j]) (by rw[yQ i j hu hj,A0 hi];simp)
  grind
 .have aa:j<s:=by rw[<-hu _ (A8 hi)];exact hj
  obtain⟨x,hx,r⟩:=h (i*s+j) (rows[i][j]) (by rw[yQ i j hu aa,A0 hi];simp)
  grind
theorem cF.flat {rows:List (List V)} (r:cF w L (.sl g rows) x) (ab:rows≠ []):
  ∃s b o cap,x= .slice (some ⟨b,o,none⟩) rows.length cap/\0<s/\eI s rows/\o+rows.length*s<=L b/\rows.length<=cap/\(g= .full->cap=rows.length)/\
   ∀(k:Nat) v,rows.flatten[k]? =some v-> ∃y,w.cell? ⟨b,o+k,none⟩=some y/\cF w L v y:=by
 cases r with
 |jq=>grind
 |sl _ _ s b o cap c ha hs hlen ff dq hg hc hr=>
  refine⟨s,b,o,cap,rfl,hs,hlen,ff,dq,hg,λk v hk=> ?_⟩
  have ad:k<rows.length*s:=by grind[yB]
  have hi:k/s<rows.length:=by simp_all[C3]
  have hj:k%s<s:=Cr _ hs
  have aa:k=k/s*s+k%s:=by rw[Dt];exact(D1 k s).symm
  rw[aa,yQ _ _ hlen hj,A0 hi]at hk
  grind
theorem cF.len {rows:List (List V)} (r:cF w L (.sl g rows) x): ∃a cap,x= .slice a rows.length cap/\rows.length<=cap/\(g= .full->cap=rows.length):=by
 cases r with
 |jq _ a cap hg=>exact⟨_,_,rfl,sm,om⟩
 |sl _ _ s b o cap c ha hs hlen ff dq hg hc hr=>grind
theorem cF.src {P:Program} {rows:List (List V)} {s:Nat} {tx e:TypeId} (r:cF w L (.sl g rows) x) (hk:P.underlying tx=some (.slice e)) (_hs:0<s) (hu:eI s rows):
  ∃news,Src P s tx x rows.length news w/\bP (cF w L) rows.flatten news:=by
 by_cases aa:rows= []
 .subst aa
  obtain⟨a,cap,rfl,_,_⟩:=r.len
  cases a with
  |none=>exact⟨[],Src.ofNil w hk cap,tV⟩
  |some a=>exact⟨[],(by grind[Src.ofSlice]),tV⟩
 .obtain⟨s',b,o,cap,rfl,aj,ab,ff,dq,_,hc⟩:=r.flat aa
  have ah:s'=s:=by
   obtain⟨r0,rest,rfl⟩:=Cl aa
   rw[<-ab r0 sm,hu r0 sm]
  subst ah
  have ad:=yB ab
  let f:=λk=>(w.cell? ⟨b,o+k,none⟩).getD undef
  have ae:bP (cF w L) rows.flatten ((List.range (rows.length*s')).map f):=by
   grind[bP.of]
  refine⟨(List.range (rows.length*s')).map f,Src.ofSlice w hk ⟨b,o,none⟩ rows.length cap _ sm (λj u hj=> ?_) (λu hu=> ?_),ae⟩
  .rw[B6]at hj
   have af:j<rows.length*s':=by
    grind
   rw[A0 (sU af)]at hj
   simp only[List.getElem_range,Bb,aiy]at hj
   obtain⟨z,hz,_⟩:=hc j _ (A0 (by rw[ad];exact af))
   grind[wE]
  .obtain⟨k,hk,rfl⟩:=Ac.1 hu
   have ai:k<rows.length*s':=by grind
   obtain⟨z,hz,rz⟩:=hc k _ (A0 (by rw[ad];exact ai))
   simpa[f,hz]using rz.dG
def zO (bs:aiZ):List (List V):=bs.map λb=> [.int .u8 b.toNat]
theorem Qb (bs:aiZ):eI 1 (zO bs):=λr hr=>by
 obtain⟨b,_,rfl⟩:=Ac.1 hr;rfl
theorem IY (bs:aiZ):bP (cF w L) (zO bs).flatten (byteCells ⟨bs.toArray⟩):=by
 unfold zO byteCells
 show bP _ _ (bs.map _)
 induction bs with
 |nil=>trivial
 |cons b bs ih=>exact⟨.int _ _,ih⟩
theorem sv {s:Nat} {a b:List (List V)} (ha:eI s a) (hb:eI s b):eI s (a++b):=λr hr=>by
 rcases Af.1 hr with h|h
 .exact ha r h
 .exact hb r h
theorem cF.kF {rows:List (List V)} {s b o cap:Nat} {arr:aj3} {T:TypeId} {fz:Nat×Nat} {xs:aj1} (hs:0<s) (hu:eI s rows) (ff:o+rows.length*s<=L b) (dq:rows.length<=cap)
  (ha: ∀id,g≠ .app id) (hg:g= .full->cap=rows.length)
  (hh:w.heap[b]? =some (.cells arr T fz)) (hx: ∀(k:Nat) x,xs[k]? =some x->arr[o+k]? =some x) (h:bP (cF w L) rows.flatten xs):cF w L (.sl g rows) (.slice (some ⟨b,o,none⟩) rows.length cap):=by
 refine .of_flat hs hu ff dq ha hg λk v hv=> ?_
 obtain⟨x,aa,r⟩:=h.get k v hv
 grind[World.cell?]
section
variable {c:Ctx} {w:World} {L:Nat->Nat} {I:St} {J:aj1}
variable {cap:Nat}{i:Nat}{arr:aj3}{T:TypeId}{n:Nat}{cC:List (List V)}{xs:aj1}
theorem XA (arr:aj3) (k:Nat) (xs:aj1) (h:k+xs.length<=arr.size) (i:Nat) (x:Value) (hx:xs[i]? =some x):(yD arr k xs)[k+i]? =some x:=by
 have hi:i<xs.length:=(by grind)
 simp_all[wO]
theorem Qc (arr:aj3) (k:Nat) (xs:aj1) (h:k+xs.length<=arr.size) (i:Nat) (hi:i<k):(yD arr k xs)[i]? =arr[i]? :=by
 simp_all[wO];omega
theorem Mem.GJ (h:Mem c w L I J) {s b o:Nat} {rows:List (List V)} (hi:I[i]? =some (.app n s)) (dh:J[i]? =some (.slice (some ⟨b,o,none⟩) n cap))
  (hn:rows.length=n) (hr:cF w L (.sl .ro rows) (.slice (some ⟨b,o,none⟩) n cap)) (af:eI s rows) (hu:eI s cC) (hx:bP (cF w L) cC.flatten xs) (aq:0<cC.length) (aa:n+cC.length<=cap):
  ∃arr T fz,w.heap[b]? =some (.cells arr T fz)/\rH arr fz/\o+n*s+xs.length<=arr.size/\
   Mem c (yC w b (.cells (yD arr (o+n*s) xs) T fz)) (xM L b (o+(n+cC.length)*s)) (I.set i (.app (n+cC.length) s)) (J.set i (.slice (some ⟨b,o,none⟩) (n+cC.length) cap))/\
   Le w L (yC w b (.cells (yD arr (o+n*s) xs) T fz)) (xM L b (o+(n+cC.length)*s))/\
   Ext I J (I.set i (.app (n+cC.length) s)) (J.set i (.slice (some ⟨b,o,none⟩) (n+cC.length) cap))/\
   cF (yC w b (.cells (yD arr (o+n*s) xs) T fz)) (xM L b (o+(n+cC.length)*s)) (.sl .ro (rows++cC)) (.slice (some ⟨b,o,none⟩) (n+cC.length) cap):=by
 obtain⟨a,ah,e,ak,hs,cQ⟩:=h.di i _ _ hi dh
 cases e
 obtain⟨b',o',arr,T,fz,e,hh,hf,ar,hL⟩:=cQ om
 cases e
 have ai:b<w.heap.size:=(by grind)
 have au:xs.length=cC.length*s:=by rw[<-hx.length,yB hu]
 have hmul:(n+cC.length)*s=n*s+cC.length*s:=(by grind)
 have av:(n+cC.length)*s<=cap*s:=Ak _ aa
 have ab:o+n*s+xs.length<=arr.size:=om
 have hle:Le w L (yC w b (.cells (yD arr (o+n*s) xs) T fz)) (xM L b (o+(n+cC.length)*s)):=by
  refine⟨λk=> ?_,λk q hq=> ?_⟩
  all_goals grind[xM,World.cell?,xH,Qc,uu]
 have aw:cC.length≠0:=om
 have ad:Ext I J (I.set i (.app (n+cC.length) s)) (J.set i (.slice (some ⟨b,o,none⟩) (n+cC.length) cap)):=by
  refine⟨λid a e=> ?_,λid n0 s0 e=> ?_,(by grind),(by grind)⟩
  .grind
  .by_cases q:i=id
   .subst q
    rw[hi]at e;cases e
    grind
   grind
  all_goals grind
 refine⟨arr,T,fz,hh,hf,ab, ?_,hle,ad, ?_⟩
 .refine h.fo i _ _ hle ad (λk=>k=b) (λj o' x' k hj al an hk e=>by subst e;exact h.apart j i o' _ x' _ k hj al an hi dh hk (by grind[dd]))
   (λk e=>by subst e;exact h.fW i _ _ k hi dh (by grind[dd])) (by grind[uu,xM]) (by simp[yC]) rfl rfl rfl (λk hk=> ?_) ?_ (λk hk=> ?_)
  .simp only[xM];rw[aiu om];exact h.lim k hk
  .refine⟨_,cap,rfl,aa,hs,λhl=>⟨b,o,_,T,fz,rfl,xH _ _ _ ai,λq hq=>hf q (by grind[yJ]),by grind[yJ],by simp[xM]⟩⟩
  grind[dd]
 .have hlen:(rows++cC).length=n+cC.length:=by grind
  have e:Value.slice (some ⟨b,o,none⟩) (n+cC.length) cap=Value.slice (some ⟨b,o,none⟩) (rows++cC).length cap:=by grind
  rw[e]
  refine .of_flat hs (sv af hu) (by grind[xM]) om sm sm λk v hk=> ?_
  rw[Bu]at hk
  have ax:=yB af
  simp only[World.cell?,xH _ _ _ ai]
  by_cases ao:k<rows.flatten.length
  .rw[Ao ao]at hk
   have aj:rows≠ []:=(by grind)
   obtain⟨s',b',o',ah,e,_,ay,_,_,_,ae⟩:=hr.flat aj
   cases e
   obtain⟨y,hy,ry⟩:=ae k v hk
   refine⟨y, ?_,ry.mono hle⟩
   simp_all[World.cell?,Qc]
  .rw[Au om]at hk
   obtain⟨y,hy,ry⟩:=hx.get _ _ hk
   refine⟨y, ?_,ry.mono hle⟩
   have:=XA arr (o+n*s) xs ab _ y hy
   grind
theorem Mem.BM (h:Mem c w L I J) {s:Nat} {rows:List (List V)} {x0:Value} (hi:I[i]? =some (.app n s)) (dh:J[i]? =some x0) (hs:0<s)
  (hu:eI s rows) (hx:bP (cF w L) rows.flatten xs) (ae:n<rows.length) (dq:rows.length<=cap) (af:cap*s<=arr.size) (ah: ∀(k:Nat) x,xs[k]? =some x->arr[k]? =some x):
   Mem c (w.alloc (.cells arr T)) (xM L w.heap.size (rows.length*s)) (I.set i (.app rows.length s)) (J.set i (.slice (some ⟨w.heap.size,0,none⟩) rows.length cap))/\
   Le w L (w.alloc (.cells arr T)) (xM L w.heap.size (rows.length*s))/\
   Ext I J (I.set i (.app rows.length s)) (J.set i (.slice (some ⟨w.heap.size,0,none⟩) rows.length cap))/\
   cF (w.alloc (.cells arr T)) (xM L w.heap.size (rows.length*s)) (.sl .ro rows) (.slice (some ⟨w.heap.size,0,none⟩) rows.length cap):=by
 obtain⟨h1,hle⟩:=h.alloc (.cells arr T) (rows.length*s)
 have ai: ∀a,x0≠ .pointer a:=by
  intro a e;subst e
  obtain⟨_,_,e,_⟩:=h.di i _ _ hi dh
  cases e
 have aa:Ext I J (I.set i (.app rows.length s)) (J.set i (.slice (some ⟨w.heap.size,0,none⟩) rows.length cap)):=by
  refine⟨(by grind),(by grind),(by grind),(by grind)⟩
  all_goals grind
 refine⟨?_,hle,aa, ?_⟩
 .refine h1.fo i _ _ (Le.refl _ _) aa (λk=>k=w.heap.size) (λj o' x' k hj ab ad hk e=> ?_) (λk e=>by subst e;exact .inl h.size) sm rfl rfl rfl rfl h1.lim ?_ (λk hk=> ?_)
  .have:=(h.di j o' x' ab ad).eN hk;omega
  .refine⟨_,cap,rfl,dq,hs,λhl=>⟨_,0,_,T,(0,0),rfl,yL _ _,λq _ hq=>om,om,by simp[xM]⟩⟩
  grind[dd]
 .exact .kF hs hu (by simp[xM]) dq sm sm (yL _ _) (by grind) (hx.imp (by grind[cF.mono]))
theorem Mem.pL (h:Mem c w L I J) {s:Nat} {rows:List (List V)} (hs:0<s)
  (hu:eI s rows) (hx:bP (cF w L) rows.flatten xs) (dq:rows.length<=cap) (ad:cap*s<=arr.size) (ae: ∀(k:Nat) x,xs[k]? =some x->arr[k]? =some x):
   Mem c (w.alloc (.cells arr T)) (xM L w.heap.size (rows.length*s)) (I++ [.app rows.length s]) (J++ [.slice (some ⟨w.heap.size,0,none⟩) rows.length cap])/\
   Le w L (w.alloc (.cells arr T)) (xM L w.heap.size (rows.length*s))/\
   cF (w.alloc (.cells arr T)) (xM L w.heap.size (rows.length*s)) (.sl .ro rows) (.slice (some ⟨w.heap.size,0,none⟩) rows.length cap):=by
 obtain⟨h1,hle⟩:=h.alloc (.cells arr T) (rows.length*s)
 refine⟨?_,hle, ?_⟩
 .refine h1.push _ _ ⟨_,cap,rfl,dq,hs,λhl=>⟨_,0,_,T,(0,0),rfl,yL _ _,λq _ hq=>om,om,by simp[xM]⟩⟩ (λj o' x' k aa ab hk e=> ?_) (λk hk=> ?_)
  .have:=(h.di j o' x' aa ab).eN hk
   grind[dd]
  .simp[dd]at hk
   rw[<-hk.2];exact .inl h.size
 .exact .kF hs hu (by simp[xM]) dq sm sm (yL _ _) (by grind) (hx.imp (by grind[cF.mono]))
theorem Mem.own (h:Mem c w L I J) {s:Nat} {a:Option Addr} (hs:0<s):Mem c w L (I++ [.app n s]) (J++ [.slice a n n]):=by
 refine h.push _ _ ⟨a,n,rfl,om,hs,om⟩ (λj o' x' k _ _ _=> ?_) (λk hk=> ?_)
 .cases a<;>simp[dd]
 .cases a<;>simp[dd]at hk
theorem XB (cells vs:List V) (off i:Nat) (h:off<=cells.length):(putCells cells off vs)[i]? =if off<=i/\i<off+vs.length then vs[i - off]? else cells[i]? :=by
 unfold putCells
 grind
theorem XC (cells vs:List V) (off:Nat) (h:off<=cells.length):(putCells cells off vs).length=max cells.length (off+vs.length):=by
 grind[putCells]
theorem Ext.sx {s:Nat} {rows:List (List V)} {x y:Value} (hi:I[i]? =some (.cj rows s)) (hl:J.length=I.length) (dh:J[i]? =some x) (hx: ∀a,x≠ .pointer a) (ab:rows.length<=cC.length) (aa:cC.length=rows.length->y=x):
  Ext I J (I.set i (.cj cC s)) (J.set i y):=by
 have ad:i<I.length:=(by grind)
 refine⟨(by grind),(by grind),(by grind),(by grind)⟩
 all_goals grind
theorem Mem.gi (h:Mem c w L I J) {s b off:Nat} {rows:List (List V)} {vs:List V} (hi:I[i]? =some (.cj rows s)) (dh:J[i]? =some (.slice (some ⟨b,0,none⟩) n cap)) (dq:0<cap)
  (hv:bP (df w L I J) vs xs) (au:off<=rows.length*s) (ae:eI s cC) (hr:cC.flatten=putCells rows.flatten off vs) (ai:rows.length<=cC.length) (ab:cC.length<=cap):
  ∃arr T fz,w.heap[b]? =some (.cells arr T fz)/\rH arr fz/\off+xs.length<=arr.size/\
   Mem c (yC w b (.cells (yD arr off xs) T fz)) L (I.set i (.cj cC s)) (J.set i (.slice (some ⟨b,0,none⟩) cC.length cap))/\
   Le w L (yC w b (.cells (yD arr off xs) T fz)) L/\
   Ext I J (I.set i (.cj cC s)) (J.set i (.slice (some ⟨b,0,none⟩) cC.length cap)):=by
 obtain⟨a,av,e,aj,hs,hu,cQ⟩:=h.di i _ _ hi dh
 cases e
 obtain⟨b',arr,T,fz,e,hh,hf,ax,hL,af⟩:=cQ dq
 cases e
 have ak:b<w.heap.size:=(by grind)
 have ay:i<I.length:=(by grind)
 have az:=yB hu
 have aw:=yB ae
 have a1:=hv.length
 have al:cC.length*s=max (rows.length*s) (off+vs.length):=by grind[XC]
 have a6:cC.length*s<=cap*s:=Ak _ ab
 have ad:off+xs.length<=arr.size:=om
 have hle:Le w L (yC w b (.cells (yD arr off xs) T fz)) L:=by
  refine⟨om,λk q hq=> ?_⟩
  by_cases e:k=b
  .grind
  .exact BL (uu w b k _ e) q
 have aa:Ext I J (I.set i (.cj cC s)) (J.set i (.slice (some ⟨b,0,none⟩) cC.length cap)):=
  Ext.sx hi h.len dh sm ai sm
 refine⟨arr,T,fz,hh,hf.1,ad, ?_,hle,aa⟩
 refine h.fo i _ _ hle aa (λk=>k=b) (λj o' x' k hj an ao hk e=>by subst e;exact h.apart j i o' _ x' _ k hj an ao hi dh hk (by simp[dd,dq]))
   (λk e=>by subst e;exact h.fW i _ _ k hi dh (by simp[dd,dq])) (λk hk=>⟨uu w b k _ hk,rfl⟩) (by simp[yC]) rfl rfl rfl h.lim ?_ (λk hk=> ?_)
 .refine⟨_,cap,rfl,ab,hs,ae,λ_=>⟨b,_,T,fz,rfl,xH _ _ _ ak,hf.size (by rw[yJ]),by rw[yJ];omega,hL, ?_⟩⟩
  refine bP.of ?_ λk p y hp hy=> ?_
  .have a7:(yD arr off xs).toList.length=arr.size:=by simp[yJ]
   grind
  .have aq:k<cC.length*s:=by grind
   rw[Ap,aiv aq,Aq,wO _ _ _ _ ad]at hy
   rw[hr,XB _ _ _ _ om]at hp
   by_cases ah:off<=k/\k<off+vs.length
   .rw[aiv ah]at hp
    rw[aiv om]at hy
    obtain⟨z,hz,r⟩:=hv.get _ _ hp
    rw[hy]at hz;cases hz
    exact r.mono hle aa
   .rw[aiu ah]at hp
    rw[aiu om]at hy
    obtain⟨z,hz,r⟩:=af.get _ _ hp
    have ar:k<rows.length*s:=om
    rw[Ap,aiv ar,Aq,hy]at hz;cases hz
    exact r.mono hle aa
 .simp[dd,dq]at hk;omega
theorem IZ (h:Mem c w L I J):xM L w.heap.size 0=L:=by
 funext k
 by_cases hk:k=w.heap.size
 .subst hk;simp[xM,h.lim _ (A7 _)]
 grind[xM]
theorem Mem.mb (h:Mem c w L I J) {s:Nat} {rows:List (List V)} (hs:0<s)
  (hu:eI s rows) (hx:bP (df w L I J) rows.flatten (arr.toList.take (rows.length*s))) (dq:rows.length<=cap) (ab:cap*s<=arr.size):
   Mem c (w.alloc (.cells arr T)) L (I++ [.cj rows s]) (J++ [.slice (some ⟨w.heap.size,0,none⟩) rows.length cap])/\
   Le w L (w.alloc (.cells arr T)) L/\Ext I J (I++ [.cj rows s]) (J++ [.slice (some ⟨w.heap.size,0,none⟩) rows.length cap]):=by
 have h1:=h.alloc (.cells arr T) 0
 rw[IZ h]at h1
 have aa:=Ext.push I J h.len (.cj rows s) (.slice (some ⟨w.heap.size,0,none⟩) rows.length cap)
 refine⟨h1.1.push _ _ ⟨_,cap,rfl,dq,hs,hu,λ_=>⟨_,arr,T,(0,0),rfl,yL _ _,P8 _ _,ab,h.lim _ om,hx.imp (by grind[df.mono])⟩⟩ (λj o' x' k ad ae hk e=> ?_) (λk hk=> ?_),h1.2,aa⟩
 .have:=(h.di j o' x' ad ae).eN hk
  grind[dd]
 .simp[dd]at hk
  rw[<-hk.2];exact .inl h.size
theorem Mem.sy (h:Mem c w L I J) {s:Nat} {rows:List (List V)} {fz:Nat×Nat} (ab:fH s arr fz) (hs:0<s)
  (hu:eI s rows) (hx:bP (df w L I J) rows.flatten (arr.toList.take (rows.length*s))) (dq:rows.length<=cap) (ad:cap*s<=arr.size):
   Mem c (w.alloc (.cells arr T fz)) L (I++ [.cj rows s]) (J++ [.slice (some ⟨w.heap.size,0,none⟩) rows.length cap])/\
   Le w L (w.alloc (.cells arr T fz)) L/\Ext I J (I++ [.cj rows s]) (J++ [.slice (some ⟨w.heap.size,0,none⟩) rows.length cap]):=by
 have h1:=h.alloc (.cells arr T fz) 0
 rw[IZ h]at h1
 have aa:=Ext.push I J h.len (.cj rows s) (.slice (some ⟨w.heap.size,0,none⟩) rows.length cap)
 refine⟨h1.1.push _ _ ⟨_,cap,rfl,dq,hs,hu,λ_=>⟨_,arr,T,fz,rfl,yL _ _,ab,ad,h.lim _ om,hx.imp (by grind[df.mono])⟩⟩ (λj o' x' k ae af hk e=> ?_) (λk hk=> ?_),h1.2,aa⟩
 .have:=(h.di j o' x' ae af).eN hk
  grind[dd]
 .simp[dd]at hk
  rw[<-hk.2];exact .inl h.size
theorem Mem.mc (h:Mem c w L I J) {s:Nat} {a:Option Addr} (hs:0<s):Mem c w L (I++ [.cj [] s]) (J++ [.slice a 0 0]):=by
 refine h.push _ _ ⟨a,0,rfl,sm,hs,sm,om⟩ (λj o' x' k _ _ _=> ?_) (λk hk=> ?_)
 .cases a<;>simp[dd]
 .cases a<;>simp[dd]at hk
theorem Mem.pM (h:Mem c w L I J) {s:Nat} {rows:List (List V)} {x0:Value} (hi:I[i]? =some (.cj rows s)) (dh:J[i]? =some x0) (hs:0<s)
  (hu:eI s cC) (hx:bP (df w L I J) cC.flatten (arr.toList.take (cC.length*s))) (af:rows.length<cC.length) (dq:cC.length<=cap) (ab:cap*s<=arr.size):
   Mem c (w.alloc (.cells arr T)) L (I.set i (.cj cC s)) (J.set i (.slice (some ⟨w.heap.size,0,none⟩) cC.length cap))/\
   Le w L (w.alloc (.cells arr T)) L/\
   Ext I J (I.set i (.cj cC s)) (J.set i (.slice (some ⟨w.heap.size,0,none⟩) cC.length cap)):=by
 obtain⟨h1,hle⟩:=h.alloc (.cells arr T) 0
 rw[IZ h]at h1 hle
 have aa:Ext I J (I.set i (.cj cC s)) (J.set i (.slice (some ⟨w.heap.size,0,none⟩) cC.length cap)):=
  Ext.sx hi h.len dh (λa e=>by
   subst e
   obtain⟨_,_,e,_⟩:=h.di i _ _ hi dh
   cases e) om om
 refine⟨?_,hle,aa⟩
 refine h1.fo i _ _ (Le.refl _ _) aa (λk=>k=w.heap.size) (λj o' x' k hj ad ae hk e=> ?_) (λk e=>by subst e;exact .inl h.size) sm rfl rfl rfl rfl h1.lim ?_ (λk hk=> ?_)
 .have:=(h.di j o' x' ad ae).eN hk;omega
 .exact⟨_,cap,rfl,dq,hs,hu,λ_=>⟨_,arr,T,(0,0),rfl,yL _ _,P8 _ _,ab,h.lim _ om,hx.imp (by grind[df.mono])⟩⟩
 grind[dd]
end
structure dQ (c:Ctx) (nt:Nat) (e:Env) (I:St) (a:Act) (w:World) (L:Nat->Nat) (J:aj1):Prop where
 mem:Mem c w L I J
 size:a.tmps.size=nt
 defs:a.defers= []
 env: ∀t,dD w L I J (e t) (a.tmps.getD t undef)
variable {w:World}{L:Nat->Nat}
def jl:Value->V
 | .bool b=> .bool b
 | .int k n=> .int k n
 | .string s=> .str s.data.toList
 | .pointer none=> .fT
 | .slice none 0 0=> .sl .full []
 | .agg _=> .u
 | .tuple _=> .u
 |v=> .raw v
def Qd (g:Nat):V:=match fG.find? (λp=>p.1==g)with
 |some p=> .oJ p.2 0
 |none=> .u
def zG (e:Env):Operand->V
 | .tmp t=>e t
 | .const v=>jl v
 | .func f=> .fn f []
 | .global g=>Qd g
def x8:V->Bool
 | .u| .agg _| .cy _=>false
 |_=>true
theorem XD {I:St} {J:aj1} (v:Value):dD w L I J (jl v) v:=by
 unfold jl
 split
 .exact cF.bool _
 .exact cF.int _ _
 .rename_i s
  have:cF w L (.str s.data.toList) (.string ⟨s.data.toList.toArray⟩):= .str _
  simpa
 .exact cF.fT
 .exact cF.jq _ _ _ om sm
 .trivial
 .trivial
 .rename_i h1 h2 h3 h4 h5 h6 h7
  refine cF.raw v ?_
  cases v<;>first|rfl|exact(by grind)|exact(by grind)
theorem GK (v:Value) (h1:v.oneCell'):cF w L (jl v) v/\x8 (jl v)=true:=by
 unfold jl
 split
 .exact⟨cF.bool _,rfl⟩
 .exact⟨cF.int _ _,rfl⟩
 .rename_i s
  have:cF w L (.str s.data.toList) (.string ⟨s.data.toList.toArray⟩):= .str _
  trivial
 .exact⟨cF.fT,rfl⟩
 .exact⟨cF.jq _ _ _ om sm,rfl⟩
 .trivial
 .trivial
 .exact⟨cF.raw _ h1,rfl⟩
theorem dQ.eval {c:Ctx} {nt:Nat} {e:Env} {I:St} {a:Act} {J:aj1} (h:dQ c nt e I a w L J) (x:Operand):dD w L I J (zG e x) (a.eval x):=by
 cases x with
 |tmp t=>exact h.env t
 |const v=>exact XD v
 |func f=>exact⟨[],rfl,tV⟩
 |global g=>
  trivial
inductive R where
 |fail
 |ok (v:V)
 |ee (p:Prop) (v:V)
 |st (v:V) (I:St)
 |dF (p:Prop) (v:V) (I:St)
 |all (f:Bool->V)
 |any (l:List (V×St))
section tables
variable (P:Program)
def eE (t:TypeId):aj5:=(P.info? t).map (·.size)
def LW:TypeDesc->Bool
 | .struct _| .array _ _=>true
 |_=>false
def cS (t:TypeId):Option Bool:=(P.underlying t).map LW
def cw (t:TypeId) (f:Nat):Option (Nat×Nat×Bool):=
 match P.underlying t with
 |some (.struct fs)=>(fs[f]?).bind λf=>(eE P f.type).bind λs=>(cS P f.type).bind λb=>if s=0 then none else some (f.offset,s,b)
 |_=>none
def eT (t:TypeId):aj5:=
 match P.underlying t with
 |some (.slice e)=>eE P e
 |_=>none
def iT (t:TypeId):Option (Nat×Nat×Bool):=
 match P.underlying t with
 |some (.array n e)=>(eE P e).bind λs=>(cS P e).map λb=>(n,s,b)
 |_=>none
def wB (t:TypeId):Option (List V):=(P.info? t).bind λi=>(i.zero).bind λz=>if z.cells.all (·.oneCell')=true then some (z.cells.toList.map jl)else none
def eF (t:TypeId):Option (Nat×Nat):=
 match P.underlying t with
 |some (.slice e)=>(P.info? e).bind λi=>i.zero.bind λz=>if z.cells.size=i.size/\0<i.size/\0<i.bytes then some (i.size,i.bytes)else none
 |_=>none
inductive Kd where
 |int (k:IntKind)|str|bytes|other
 deriving DecidableEq
def jJ (t:TypeId):Option Kd:=
 match P.underlying t with
 |some (.int k)=>some (.int k)
 |some .string=>some .str
 |some (.slice e)=>(match P.underlying e with|some (.int .u8)=>some .bytes|_=>some .other)
 |some _=>some .other
 |none=>none
end tables
def pN:V->Bool
 | .bool _| .int _ _| .str _| .raw _| .fT| .sl _ _=>true
 |_=>false
def k5:V->V
 | .sl _ rows=> .sl .ro rows
 |v=>v
def xO:V->List V
 | .agg cs=>cs
 |v=> [v]
theorem cF.lg {w:World} {L:Nat->Nat} {g:Tag} {rows:List (List V)} {x:Value} (r:cF w L (.sl g rows) x):cF w L (.sl .ro rows) x:=by
 cases r with
 |jq _ a cap hg ha=>exact .jq _ a cap sm sm
 |sl _ _ s b o cap c ha hs hlen ff dq hg hc hr=>exact .sl _ rows s b o cap c sm hs hlen ff dq sm hc hr
theorem df.k5 {w:World} {L:Nat->Nat} {I:St} {J:aj1} {v:V} {x:Value} (r:df w L I J v x) (h:pN v):cF w L (k5 v) x:=by
 cases v with
 |sl g rows=>cases g with
  |ro=>exact r
  |full=>exact cF.lg r
  |app id=>exact r.1
 |u=>trivial
 |ptr _ _=>trivial
 |oJ _ _=>trivial
 |cM _ _ _ _ _=>trivial
 |iQ _ _ _ _ _=>trivial
 |j6 _ _ _ _=>trivial
 |mp _=>trivial
 |fn _ _=>trivial
 |gV _ _=>trivial
 |agg _=>trivial
 |cy _=>trivial
 |bool b=>exact r
 |int k n=>exact r
 |str s=>exact r
 |raw v=>exact r
 |fT=>exact r
section inv
variable {w:World} {L:Nat->Nat} {I:St} {J:aj1}
variable {x:Value}
theorem pO {b:Bool} (r:dD w L I J (.bool b) x):x= .bool b:=by
 cases r;rfl
theorem yO {k:IntKind} {n:Int} (r:dD w L I J (.int k n) x):x= .int k n:=by
 cases r;rfl
theorem lh {s:aiZ} (r:dD w L I J (.str s) x):x= .string ⟨s.toArray⟩:=by
 cases r;rfl
theorem LX (r:dD w L I J .fT x):x= .pointer none:=by
 cases r;rfl
theorem sC {g:Tag} {rows:List (List V)} (r:dD w L I J (.sl g rows) x):cF w L (.sl .ro rows) x:=by
 cases g with
 |ro=>exact r
 |full=>exact cF.lg r
 |app id=>exact r.1
theorem XE {v:V} (r:dD w L I J v x) (h:x8 v):df w L I J v x:=by
 cases v<;>first|exact r|simp[x8]at h
theorem GL (h:x.oneCell'):x.cells= #[x]:=by
 cases x<;>first|rfl|simp[Value.oneCell']at h
def nb:V->Bool
 | .u| .cy _=>false
 |_=>true
theorem BN {v:V} (r:dD w L I J v x) (h:nb v):bP (df w L I J) (xO v) x.cells.toList:=by
 by_cases hc:x8 v=true
 .have r':=XE r hc
  rw[GL r'.dG]
  have:xO v= [v]:=by cases v<;>first|rfl|simp[x8]at hc
  rw[this]
  trivial
 .cases v with
  |agg cs=>obtain⟨xs,rfl,h⟩:=r;exact h
  |u=>trivial
  |cy vs=>trivial
  |_=>simp[x8]at hc
end inv
inductive Pk where
 |b
 |i (k:IntKind)
 |s
 deriving DecidableEq
def GM (P:Program) (sh:TypeId->Option (List Pk)):Nat->List Field->Option (List Pk)
 |_,[]=>some []
 |off,f::fs=>if f.name≠ "_" /\f.offset=off then(sh f.type).bind λks=>if eE P f.type=some ks.length then(GM P sh (off+ks.length) fs).map (ks++ ·)else none else none
def vz (P:Program):Nat->TypeId->Option (List Pk)
 |0,_=>none
 |d+1,t=>
  match P.underlying t,cS P t with
  |some .bool,some false=>some [.b]
  |some (.int k),some false=>some [.i k]
  |some .string,some false=>some [.s]
  |some (.struct fs),some true=>if P.stoodInHeld t=false then GM P (vz P d) 0 fs.toList else none
  |_,_=>none
def jK:Pk->V->V->Option Bool
 | .b,.bool x,.bool y=>some (x==y)
 | .i k,.int k1 x,.int k2 y=>if k1=k/\k2=k then some (x==y)else none
 | .s,.str x,.str y=>some (x==y)
 |_,_,_=>none
def lj:List Pk->List V->List V->Option Bool
 | [],[],[]=>some true
 |k::ks,a::az,b::bs=>(jK k a b).bind λr=>(lj ks az bs).map (r&& ·)
 |_,_,_=>none
def gX:Pk->Value->Value->Option Bool
 | .b,.bool x,.bool y=>some (x==y)
 | .i k,.int k1 x,.int k2 y=>if k1=k/\k2=k then some (x==y)else none
 | .s,.string x,.string y=>some (x==y)
 |_,_,_=>none
def iU:List Pk->aj1->aj1->Option Bool
 | [],[],[]=>some true
 |k::ks,a::az,b::bs=>(gX k a b).bind λr=>(iU ks az bs).map (r&& ·)
 |_,_,_=>none
def kz (P:Program) (t:TypeId):Option (List Pk):=match P.underlying t with|some (.struct _)=>if P.eqGuardType P.depth t=false then vz P 10 t else none|_=>none
section
variable {P:Program} {c:Ctx} {w:World} {L:Nat->Nat} {I:St} {J:aj1}
variable {t:TypeId}{x:Value}{y:Value}{r:Bool}
theorem XF {s:Nat} (h:eE P t=some s): ∃i,P.info? t=some i/\i.size=s:=by
 unfold eE at h
 simp_all
theorem oL {s:Nat} (h:eE P t=some s) (w:World):(sizeOf t).run P w= .ok s w:=by
 obtain⟨i,hi,rfl⟩:=XF h
 simp_all[sizeOf,typeInfo]
theorem uv {b:Bool} (h:cS P t=some b) (w:World):(isAgg t).run P w= .ok b w:=by
 unfold cS at h
 cases hu:P.underlying t with
 |none=>grind
 |some d=>
  simp[hu]at h
  subst h
  simp only[isAgg,Sem.run_bind,run_underlying hu,Result.andThen_ok,LW]
  cases d<;>rfl
theorem LY: ∀(ks:List Pk) (az bs:aj1) (r:Bool),iU ks az bs=some r->az.length=ks.length/\bs.length=ks.length
 | [],[],[],_,_=>om
 |k::ks,a::az,b::bs,r,h=>by
  unfold iU at h
  cases h1:gX k a b with
  |none=>rw[h1]at h;cases h
  |some r1=>
   rw[h1]at h
   simp only[Ax,Av]at h
   obtain⟨r2,h2,_⟩:=h
   have:=LY ks az bs r2 h2
   simp[this.1,this.2]
 | [],[],_::_,_,h=>by cases h
 | [],_::_,_,_,h=>by cases h
 |_::_,[],_,_,h=>by cases h
 |_::_,_::_,[],_,h=>by cases h
theorem Qe: ∀(ks aa:List Pk) (az bs:aj1) (r:Bool),iU (ks++aa) az bs=some r->
  ∃r1 r2,iU ks (az.take ks.length) (bs.take ks.length)=some r1/\iU aa (az.drop ks.length) (bs.drop ks.length)=some r2/\r=(r1&&r2)
 | [],aa,az,bs,r,h=>(by grind[iU])
 |k::ks,aa,a::az,b::bs,r,h=>by
  rw[Bt]at h
  unfold iU at h
  cases h1:gX k a b with
  |none=>grind
  |some r0=>
   rw[h1]at h
   simp only[Ax,Av]at h
   obtain⟨r',h2,rfl⟩:=h
   obtain⟨r1,r2,h3,h4,rfl⟩:=Qe ks aa az bs r' h2
   refine⟨r0&&r1,r2, ?_,by grind,by grind⟩
   grind[iU]
 |_::_,_,[],_,_,h=>by cases h
 |_::_,_,_::_,[],_,h=>by cases h
theorem LZ: ∀(ks:List Pk) (vs ws:List V) (xs ys:aj1) (r:Bool),bP (df w L I J) vs xs->bP (df w L I J) ws ys->lj ks vs ws=some r->iU ks xs ys=some r
 | [],[],[],[],[],r,_,_,h=>h
 |k::ks,v::vs,v2::us,x::xs,y::ys,r,h1,h2,h=>by
  unfold lj at h
  cases hk:jK k v v2 with
  |none=>grind
  |some r0=>
   rw[hk]at h
   simp only[Ax,Av]at h
   obtain⟨r',h3,rfl⟩:=h
   have ih:=LZ ks vs us xs ys r' h1.2 h2.2 h3
   have hp:gX k x y=some r0:=by
    have hx:=h1.1;have hy:=h2.1
    unfold jK at hk
    split at hk
    .cases hx;cases hy;exact hk
    .cases hx;cases hy;exact hk
    .cases hx;cases hy
     rename_i a b
     rw[<-hk]
     simp only[gX,aiy]
     show(a.toArray==b.toArray)=(a==b)
     simp
    grind
   grind[iU]
 | [],[],[],[],_::_,_,_,h2,_=>h2.elim
 | [],[],[],_::_,_,_,h1,_,_=>h1.elim
 | [],[],_::_,_,_,_,_,_,h=>by cases h
 | [],_::_,_,_,_,_,_,_,h=>by cases h
 |_::_,[],_,_,_,_,_,_,h=>by cases h
 |_::_,_::_,[],_,_,_,_,_,h=>by cases h
 |_::_,_::_,_::_,[],_,_,h1,_,_=>h1.elim
 |_::_,_::_,_::_,_::_,[],_,_,h2,_=>h2.elim
def oM (P:Program) (t:TypeId) (x:Value):Prop:=if cS P t=some true then∃xs,x= .agg xs else x.oneCell'=true
theorem Qf {ks:List Pk} {b:Bool} (hs:eE P t=some ks.length) (ha:cS P t=some b) (h1:b=false->ks.length=1) (cs:aj3) (off:Nat) (hl:off+ks.length<=cs.size) (aa: ∀x∈cs.toList,x.oneCell'):
  ∃x,(part t cs off).run P w= .ok x w/\oM P t x/\x.cells.toList=(cs.toList.drop off).take ks.length:=by
 cases b with
 |true=>
  refine⟨.agg (cs.extract off (off+ks.length)), ?_, ?_, ?_⟩
  .simp_all[part,uv,oL]
  .unfold oM;grind
  grind[Value.cells,Array.toList_extract]
 |false=>
  have hk:=h1 rfl
  have ab:off<cs.size:=om
  simp_all[part,uv,oM,GL,A5]
theorem XG {d:Nat} {ks:List Pk} (h:vz P d t=some ks): ∃b,cS P t=some b/\(b=false->ks.length=1):=by
 cases d with
 |zero=>cases h
 |succ d=>
  unfold vz at h
  grind
theorem XH (h:gX .b x y=some r): ∃a b,x= .bool a/\y= .bool b/\r=(a==b):=by
 cases x<;>first|(simp[gX]at h;done)|skip
 cases y<;>first|(simp[gX]at h;done)|skip
 simp[gX]at h
 grind
theorem XI {k:IntKind} (h:gX (.i k) x y=some r): ∃a b,x= .int k a/\y= .int k b/\r=(a==b):=by
 cases x<;>first|(simp[gX]at h;done)|skip
 cases y<;>first|(simp[gX]at h;done)|skip
 simp[gX]at h
 simp_all
theorem XJ (h:gX .s x y=some r): ∃a b,x= .string a/\y= .string b/\r=(a==b):=by
 cases x<;>first|(simp[gX]at h;done)|skip
 cases y<;>first|(simp[gX]at h;done)|skip
 simp only[gX,aiy]at h
 grind
theorem L4: ∀(d:Nat) (t:TypeId) (ks:List Pk),vz P d t=some ks-> ∀(D:Nat),d<=D-> ∀(x y:Value) (r:Bool),oM P t x->oM P t y->(∀z∈x.cells.toList,z.oneCell'=true)->(∀z∈y.cells.toList,z.oneCell'=true)->
  iU ks x.cells.toList y.cells.toList=some r-> ∀w,(Op.equalIn D t x y).run P w= .ok r w
 |0,_,_,h=>by cases h
 |d+1,t,ks,h=>by
  intro D hD x y r hx hy ab ae he w
  obtain⟨D,rfl⟩: ∃D',D=D'+1:=(by simp;omega)
  have aa: ∀k,ks= [k]->cS P t=some false-> ∃r',gX k x y=some r'/\r=r':=by
   intro k hk ha
   unfold oM at hx hy
   rw[aiu (by rw[ha];simp)]at hx hy
   rw[GL hx,GL hy,hk]at he
   simp only[iU]at he
   simp_all
  unfold vz at h
  split at h
  .rename_i hu ha
   simp at h
   obtain⟨r',hp,rfl⟩:=aa .b h.symm ha
   obtain⟨m,n,rfl,rfl,rfl⟩:=XH hp
   simp[Op.equalIn,run_underlying hu]
  .rename_i k hu ha
   simp at h
   obtain⟨r',hp,rfl⟩:=aa (.i k) h.symm ha
   obtain⟨m,n,rfl,rfl,rfl⟩:=XI hp
   simp[Op.equalIn,run_underlying hu]
  .rename_i hu ha
   simp at h
   obtain⟨r',hp,rfl⟩:=aa .s h.symm ha
   obtain⟨m,n,rfl,rfl,rfl⟩:=XJ hp
   simp[Op.equalIn,run_underlying hu]
  .rename_i fs hu ha
   split at h
   .rename_i ai
    unfold oM at hx hy
    rw[aiv ha]at hx hy
    obtain⟨xs,rfl⟩:=hx
    obtain⟨ys,rfl⟩:=hy
    have af:P.fieldsOf t=fs:=by grind[Program.fieldsOf]
    rw[run_equalIn_struct (P:=P) (w:=w) D t xs ys (by rw[af];exact hu) ai,af]
    simp only[Value.cells]at he ab ae
    have key: ∀(l:List Field) (off:Nat) (ks:List Pk) (r:Bool),GM P (vz P d) off l=some ks->iU ks (xs.toList.drop off) (ys.toList.drop off)=some r->(Op.eqFields D xs ys l).run P w= .ok r w:=by
     intro l
     induction l with
     |nil=>
      intro off ks r hk hr
      simp[GM]at hk
      subst hk
      have:=LY _ _ _ _ hr
      have h1:xs.toList.drop off= []:=(by grind)
      have h2:ys.toList.drop off= []:=(by grind)
      simp_all[iU,Op.eqFields]
     |cons f l ih=>
      intro off ks r hk hr
      unfold GM at hk
      split at hk
      .rename_i hf
       cases ad:vz P d f.type with
       |none=>grind
       |some k1=>
        rw[ad]at hk
        simp only[Ax]at hk
        split at hk
        .rename_i aj
         simp only[Av]at hk
         obtain⟨k2,ak,rfl⟩:=hk
         have hlen:=LY _ _ _ _ hr
         simp only[D6,An,Cq]at hlen
         obtain⟨r1,r2,h1,h2,rfl⟩:=Qe k1 k2 _ _ _ hr
         obtain⟨b,al,an⟩:=XG ad
         have aq:0<k1.length\/k1.length=0:=om
         have ao:off+k1.length<=xs.size/\off+k1.length<=ys.size\/k1.length=0/\b:=by
          grind
         have parts: ∃a b',(part f.type xs off).run P w= .ok a w/\(part f.type ys off).run P w= .ok b' w/\oM P f.type a/\oM P f.type b'/\a.cells.toList=(xs.toList.drop off).take k1.length/\b'.cells.toList=(ys.toList.drop off).take k1.length:=by
          rcases ao with ⟨q1,q2⟩|⟨q,rfl⟩
          .obtain⟨a,p1,p2,p3⟩:=Qf (w:=w) aj al an xs off q1 ab
           simp_all[Qf]
          .refine⟨.agg (xs.extract off (off+k1.length)),.agg (ys.extract off (off+k1.length)), ?_, ?_, ?_, ?_, ?_, ?_⟩
           .simp_all[part,uv,oL]
           .simp_all[part,uv,oL]
           .unfold oM;grind
           .unfold oM;grind
           all_goals grind[Value.cells,Array.toList_extract]
         obtain⟨a,b',p1,p2,f1,f2,c1,c2⟩:=parts
         have ah:=L4 d f.type k1 ad D om a b' r1 f1 f2 (by rw[c1];exact λz hz=>ab z (Bx (B5 hz))) (by rw[c2];exact λz hz=>ae z (Bx (B5 hz))) (by rw[c1,c2];exact h1) w
         have ar:=ih (off+k1.length) k2 r2 ak (by simpa[aiT]using h2)
         simp only[Op.eqFields,hf.1,ne_eq,not_false_eq_true,aiE,Sem.run_bind,hf.2,p1,p2,ah,Result.andThen_ok]
         cases r1
         all_goals simp_all
        grind
      grind
    grind
   grind
  grind
end
def bU (P:Program) (c:Ctx) (o:Oper) (a:Act) (w:World) (L:Nat->Nat) (I:St) (J:aj1) (v:V) (I':St):Prop:=
 ∃x w' L' J',((execOp a.eval o).run P w= .ok (.value x) w'\/((execOp a.eval o).run P w= .ok .skip w'/\x=undef))/\Mem c w' L' I' J'/\Le w L w' L'/\Ext I J I' J'/\dD w' L' I' J' v x
def fa (r:R) (I:St) (Y:V->St->Prop):Prop:=
 match r with
 | .fail=>True
 | .ok v=>Y v I
 | .ee p v=>p->Y v I
 | .st v I'=>Y v I'
 | .dF p v I'=>p->Y v I'
 | .all f=> ∃b,Y (f b) I
 | .any l=> ∃p∈l,Y p.1 p.2
section
variable {P:Program} {c:Ctx} {nt:Nat} {e:Env} {I:St} {a:Act} {w:World} {L:Nat->Nat} {J:aj1} {o:Oper}
variable {dst:Option Tmp}{ty:TypeId}{dX:Array Edge}{g:Option (Nat×Bool)}{t:TypeId}{el:TypeId}
theorem bU.pure (h:dQ c nt e I a w L J) {v:V} {x:Value} (hr:(execOp a.eval o).run P w= .ok (.value x) w) (r:dD w L I J v x):bU P c o a w L I J v I:=
 ⟨x,w,L,J,.inl hr,h.mem,Le.refl _ _,Ext.refl _ _,r⟩
def x9 (b x y:V):R:=
 match b with
 | .bool t=> .ok (if t then x else y)
 |_=> .fail
theorem XK {pos:String} (x y z:Operand) (h:dQ c nt e I a w L J):
  fa (x9 (zG e x) (zG e y) (zG e z)) I (bU P c ⟨dst,.pick x y z,ty,pos,dX,g⟩ a w L I J):=by
 have hx:=h.eval x
 unfold x9
 split
 .rename_i b hb
  rw[hb]at hx
  have:=pO hx
  refine bU.pure h (x:=if b then a.eval y else a.eval z) (by simp_all[execOp,asBool]) ?_
  cases b
  .exact h.eval z
  .exact h.eval y
 trivial
theorem XL {pos:String} (x:Operand) (h:dQ c nt e I a w L J):
  fa (.ok (zG e x)) I (bU P c ⟨dst,.move x,ty,pos,dX,g⟩ a w L I J):=
 bU.pure h (by rfl) (h.eval x)
theorem XM {pos:String} (x:Operand) (h:dQ c nt e I a w L J):
  fa (.ok (zG e x)) I (bU P c ⟨dst,.assign x,ty,pos,dX,g⟩ a w L I J):=
 bU.pure h (by rfl) (h.eval x)
def ya (x:V):R:=
 match x with
 | .ptr id off=> .ok (.ptr id off)
 | .oJ cs off=> .ok (.oJ cs off)
 | .iQ id s n k j=> .ok (.iQ id s n k j)
 | .fn f bY=> .ok (.fn f bY)
 |_=> .fail
theorem XN {pos:String} (x:Operand) (h:dQ c nt e I a w L J):
  fa (ya (zG e x)) I (bU P c ⟨dst,.nilCheck x,ty,pos,dX,g⟩ a w L I J):=by
 have hx:=h.eval x
 unfold ya
 split
 .rename_i id off hb
  rw[hb]at hx
  obtain⟨b,_,hv⟩:=hx
  exact bU.pure h (x:=a.eval x) (by simp_all[execOp]) (hb▸h.eval x)
 .rename_i cs off hb
  rw[hb]at hx
  obtain⟨b,o,_,hv,_⟩:=hx
  exact bU.pure h (x:=a.eval x) (by simp_all[execOp]) (hb▸h.eval x)
 .rename_i id s n k j hb
  rw[hb]at hx
  obtain⟨b,o,hv,_⟩:=hx
  exact bU.pure h (x:=a.eval x) (by simp_all[execOp]) (hb▸h.eval x)
 .rename_i f bY hb
  rw[hb]at hx
  obtain⟨xs,hv,_⟩:=hx
  exact bU.pure h (x:=a.eval x) (by simp_all[execOp]) (hb▸h.eval x)
 trivial
def jr (op:BinOp) (k:IntKind) (x y:Int):Int:=
 match op with
 | .and=>k.wrap (BitVec.ofInt k.bits x&&&BitVec.ofInt k.bits y).toNat
 | .or=>k.wrap (BitVec.ofInt k.bits x|||BitVec.ofInt k.bits y).toNat
 | .xor=>k.wrap (BitVec.ofInt k.bits x^^^BitVec.ofInt k.bits y).toNat
 |_=>k.wrap (BitVec.ofInt k.bits x&&& ~~~BitVec.ofInt k.bits y).toNat
def BO (op:BinOp) (k:IntKind) (x y:Int):R:=
 match op with
 | .add=> .ok (.int k (k.wrap (x+y)))
 | .sub=> .ok (.int k (k.wrap (x - y)))
 | .mul=> .ok (.int k (k.wrap (x*y)))
 | .quo=> .ee (y≠0) (.int k (k.wrap (x.tdiv y)))
 | .rem=> .ee (y≠0) (.int k (x.tmod y))
 | .and=> .ok (.int k (jr .and k x y))
 | .or=> .ok (.int k (jr .or k x y))
 | .xor=> .ok (.int k (jr .xor k x y))
 | .andNot=> .ok (.int k (jr .andNot k x y))
 | .eql=> .ok (.bool (x==y))
 | .neq=> .ok (.bool (x !=y))
 | .lss=> .ok (.bool (decide (x<y)))
 | .leq=> .ok (.bool (decide (x<=y)))
 | .gtr=> .ok (.bool (decide (x>y)))
 | .geq=> .ok (.bool (decide (x≥y)))
 | .shl=> .ee (0<=y) (.int k (k.wrap (x*2^(min y.toNat k.bits))))
 | .shr=> .ee (0<=y) (.int k (x.fdiv (2^(min y.toNat k.bits))))
def BP (op:BinOp) (x y:aiZ):R:=
 match op with
 | .add=> .ee (x.length+y.length<=9223372036854775807) (.str (x++y))
 | .eql=> .ok (.bool (x==y))
 | .neq=> .ok (.bool (!(x==y)))
 | .lss=> .ok (.bool (Op.bytesLess x y))
 | .leq=> .ok (.bool (Op.bytesLess x y||x==y))
 | .gtr=> .ok (.bool (!(Op.bytesLess x y||x==y)))
 | .geq=> .ok (.bool (!(Op.bytesLess x y)))
 |_=> .fail
def iR (P:Program) (t:TypeId):Nat:=
 match P.underlying t with
 |some .bool=>1
 |some (.pointer _)=>2
 |some (.slice _)=>3
 |_=>0
def GN (op:BinOp) (n:Nat):R:=
 match op with
 | .eql=>if 0<n then .ok (.bool false)else .all .bool
 | .neq=>if 0<n then .ok (.bool true)else .all λb=> .bool (!b)
 |_=> .fail
def BQ:V->aj5
 | .sl _ rows=>some rows.length
 | .cM _ _ _ _ m=>some m
 |_=>none
def mS (op:BinOp) (ek:Nat) (es:Option (List Pk)) (x y:V):R:=
 match x,y with
 | .int k a,.int k' b=>if k=k' then BO op k a b else(match op with| .shl=> .ee (0<=b) (.int k (k.wrap (a*2^(min b.toNat k.bits))))| .shr=> .ee (0<=b) (.int k (a.fdiv (2^(min b.toNat k.bits))))|_=> .fail)
 | .str a,.str b=>BP op a b
 | .bool a,.bool b=>if ek=1 then(match op with| .eql=> .ok (.bool (a==b))| .neq=> .ok (.bool (!(a==b)))|_=> .fail)else .fail
 | .ptr _ _,.fT=>if ek=2 then(match op with| .eql=> .ok (.bool false)| .neq=> .ok (.bool true)|_=> .fail)else .fail
 | .fT,.fT=>if ek=2 then(match op with| .eql=> .ok (.bool true)| .neq=> .ok (.bool false)|_=> .fail)else .fail
 | .agg az,.agg bs=>(match es.bind λks=>lj ks az bs with
  |some r=>(match op with| .eql=> .ok (.bool r)| .neq=> .ok (.bool (!r))|_=> .fail)
  |none=> .fail)
 |_,_=> .fail
def vC (op:BinOp) (ek:Nat) (x:V):R:=if ek=3 then(match BQ x with|some n=>GN op n|none=> .fail)else .fail
def pP:Operand->Bool
 | .const (.slice none 0 0)=>true
 |_=>false
theorem I0 {k k':IntKind} {x y:Int} (op:BinOp) (aa:op= .shl\/op= .shr) (hy:0<=y) (w:World):
  (Op.shift op k x k' y).run P w= .ok (.int k (if op= .shl then k.wrap (x*2^(min y.toNat k.bits))else x.fdiv (2^(min y.toNat k.bits)))) w:=by
 have: ¬y<0:=om
 rcases aa with rfl|rfl<;>simp[Op.shift,this]
theorem XO {pos:String} (op:BinOp) (t t':TypeId) (x y:Operand) (h:dQ c nt e I a w L J) {k:IntKind} {m n:Int} (hx:a.eval x= .int k m) (hy:a.eval y= .int k n):
  fa (BO op k m n) I (bU P c ⟨dst,.binOp op t x y t',ty,pos,dX,g⟩ a w L I J):=by
 have run: ∀v,(binOp op t (.int k m) (.int k n)).run P w= .ok v w->(execOp a.eval ⟨dst,.binOp op t x y t',ty,pos,dX,g⟩).run P w= .ok (.value v) w:=by
  simp_all[execOp,eqGuard]
 cases op
 case quo=>exact λhn=>bU.pure h (by simp_all[binOp,Op.intDiv]) (cF.int _ _)
 case rem=>exact λhn=>bU.pure h (by simp_all[binOp,Op.intDiv]) (cF.int _ _)
 case shl=>exact λhn=>bU.pure h (run _ (by simp only[binOp];rw[I0 .shl (.inl rfl) hn];simp)) (cF.int _ _)
 case shr=>exact λhn=>bU.pure h (run _ (by simp only[binOp];rw[I0 .shr (.inr rfl) hn];simp)) (cF.int _ _)
 case add=>exact bU.pure h (by simp_all[binOp,Op.intArith]) (cF.int _ _)
 case sub=>exact bU.pure h (by simp_all[binOp,Op.intArith]) (cF.int _ _)
 case mul=>exact bU.pure h (by simp_all[binOp,Op.intArith]) (cF.int _ _)
 case and=>exact bU.pure h (run _ (by simp only[binOp,Op.intBits,ne_eq,aiN,aiL,Sem.run_pure];rfl)) (cF.int _ _)
 case or=>exact bU.pure h (run _ (by simp only[binOp,Op.intBits,ne_eq,aiN,aiL,Sem.run_pure];rfl)) (cF.int _ _)
 case xor=>exact bU.pure h (run _ (by simp only[binOp,Op.intBits,ne_eq,aiN,aiL,Sem.run_pure];rfl)) (cF.int _ _)
 case andNot=>exact bU.pure h (run _ (by simp only[binOp,Op.intBits,ne_eq,aiN,aiL,Sem.run_pure];rfl)) (cF.int _ _)
 case eql=>exact bU.pure h (by simp_all[binOp,Op.intCmp]) (cF.bool _)
 case neq=>exact bU.pure h (by simp_all[binOp,Op.intCmp]) (cF.bool _)
 case lss=>exact bU.pure h (by simp_all[binOp,Op.intCmp]) (cF.bool _)
 case leq=>exact bU.pure h (by simp_all[binOp,Op.intCmp]) (cF.bool _)
 case gtr=>exact bU.pure h (by simp_all[binOp,Op.intCmp]) (cF.bool _)
 case geq=>exact bU.pure h (by simp_all[binOp,Op.intCmp]) (cF.bool _)
theorem XP {pos:String} (op:BinOp) (t t':TypeId) (x y:Operand) (h:dQ c nt e I a w L J) {m n:aiZ} (hx:a.eval x= .string ⟨m.toArray⟩) (hy:a.eval y= .string ⟨n.toArray⟩):
  fa (BP op m n) I (bU P c ⟨dst,.binOp op t x y t',ty,pos,dX,g⟩ a w L I J):=by
 have run: ∀v,(binOp op t (.string ⟨m.toArray⟩) (.string ⟨n.toArray⟩)).run P w= .ok v w->(execOp a.eval ⟨dst,.binOp op t x y t',ty,pos,dX,g⟩).run P w= .ok (.value v) w:=by
  simp_all[execOp,eqGuard]
 cases op
 case add=>
  intro hn
  refine bU.pure h (run (.string ⟨(m++n).toArray⟩) ?_) (cF.str _)
  have hs: ¬((m.length:Int)+(n.length:Int)>9223372036854775807):=om
  have ab: ∀l:aiZ,(ByteArray.mk l.toArray).size=l.length:=(by grind[ByteArray.size])
  have aa:(ByteArray.mk m.toArray)++(ByteArray.mk n.toArray)=ByteArray.mk (m++n).toArray:=by
   rfl
  simp_all[binOp,Op.stringOp]
 case eql=>exact bU.pure h (by simp_all[binOp,Op.stringOp]) (cF.bool _)
 case neq=>exact bU.pure h (by simp_all[binOp,Op.stringOp]) (cF.bool _)
 case lss=>exact bU.pure h (by simp_all[binOp,Op.stringOp]) (cF.bool _)
 case leq=>exact bU.pure h (by simp_all[binOp,Op.stringOp]) (cF.bool _)
 case gtr=>exact bU.pure h (by simp_all[binOp,Op.stringOp]) (cF.bool _)
 case geq=>exact bU.pure h (by simp_all[binOp,Op.stringOp]) (cF.bool _)
 all_goals trivial
theorem L5 (h:iR P t=1):P.underlying t=some .bool:=by
 grind[iR]
theorem GO (h:iR P t=2): ∃el,P.underlying t=some (.pointer el):=by
 grind[iR]
theorem XQ (hb:P.underlying t=some .bool) (x y:Bool) (w:World) (d:Nat):(Op.equalIn (d+1) t (.bool x) (.bool y)).run P w= .ok (x==y) w:=by
 simp[Op.equalIn,run_underlying hb]
theorem XR (hb:P.underlying t=some (.pointer el)) (x:Option Addr) (w:World) (d:Nat):(Op.equalIn (d+1) t (.pointer x) (.pointer none)).run P w= .ok x.isNone w:=by
 cases x<;>simp[Op.equalIn,run_underlying hb]
theorem Qg (hb:P.underlying t=some .bool) (x y:Bool) (w:World):(Op.equal t (.bool x) (.bool y)).run P w= .ok (x==y) w:=
 XQ hb x y w 9999
theorem I4 (hb:P.underlying t=some (.pointer el)) (x:Option Addr) (w:World):(Op.equal t (.pointer x) (.pointer none)).run P w= .ok x.isNone w:=
 XR hb x w 9999
theorem XS {pos:String} (op:BinOp) (t t':TypeId) (x y:Operand) (h:dQ c nt e I a w L J):
  fa (mS op (iR P t) (kz P t) (zG e x) (zG e y)) I (bU P c ⟨dst,.binOp op t x y t',ty,pos,dX,g⟩ a w L I J):=by
 have hx:=h.eval x
 have hy:=h.eval y
 unfold mS
 split
 .rename_i k m k' n h1 h2
  rw[h1]at hx;rw[h2]at hy
  have e1:=yO hx;have e2:=yO hy
  by_cases hk:k=k'
  .subst hk
   rw[aiv rfl]
   grind[XO]
  .rw[aiu hk]
   split
   .exact λhn=>bU.pure h (by simp only[execOp,e1,e2,eqGuard,binOp];simp[I0 .shl (.inl rfl) hn]) (cF.int _ _)
   .exact λhn=>bU.pure h (by simp only[execOp,e1,e2,eqGuard,binOp];simp[I0 .shr (.inr rfl) hn]) (cF.int _ _)
   trivial
 .grind[XP,lh]
 .rename_i m n h1 h2
  rw[h1]at hx;rw[h2]at hy
  have e1:=pO hx;have e2:=pO hy
  split
  .rename_i hb
   have ae:=L5 hb
   split
   .exact bU.pure h (by simp_all[execOp,eqGuard,binOp,Qg]) (cF.bool _)
   .exact bU.pure h (by simp_all[execOp,eqGuard,binOp,Qg]) (cF.bool _)
   trivial
  trivial
 .rename_i id off h1 h2
  rw[h1]at hx;rw[h2]at hy
  obtain⟨b,_,e1⟩:=hx
  have e2:=LX hy
  split
  .rename_i hb
   obtain⟨el,ae⟩:=GO hb
   split
   .exact bU.pure h (x:= .bool false) (by simp_all[execOp,eqGuard,binOp,I4]) (cF.bool _)
   .exact bU.pure h (x:= .bool true) (by simp_all[execOp,eqGuard,binOp,I4]) (cF.bool _)
   trivial
  trivial
 .rename_i h1 h2
  rw[h1]at hx;rw[h2]at hy
  have e1:=LX hx
  have e2:=LX hy
  split
  .rename_i hb
   obtain⟨el,ae⟩:=GO hb
   split
   .exact bU.pure h (x:= .bool true) (by simp_all[execOp,eqGuard,binOp,I4]) (cF.bool _)
   .exact bU.pure h (x:= .bool false) (by simp_all[execOp,eqGuard,binOp,I4]) (cF.bool _)
   trivial
  trivial
 .rename_i az bs h1 h2
  rw[h1]at hx;rw[h2]at hy
  obtain⟨xs,e1,r1⟩:=hx
  obtain⟨ys,e2,r2⟩:=hy
  split
  .rename_i r hr
   cases aa:kz P t with
   |none=>grind
   |some ks=>
    rw[aa]at hr
    simp only[Ax]at hr
    have af:=LZ ks az bs xs ys r r1 r2 hr
    unfold kz at aa
    split at aa
    .rename_i fs hu
     split at aa
     .rename_i hg
      have ha:cS P t=some true:=by grind[cS,LW]
      have o1: ∀z∈xs,z.oneCell':=λz hz=>by
       obtain⟨i,hi⟩:=Ar.1 hz
       have hl:=r1.length
       obtain⟨y,ab,rr⟩:=r1.get i (az[i]'(by grind)) sm
       rw[hi]at ab;cases ab
       exact rr.dG
      have o2: ∀z∈ys,z.oneCell':=λz hz=>by
       obtain⟨i,hi⟩:=Ar.1 hz
       have hl:=r2.length
       obtain⟨y,ab,rr⟩:=r2.get i (bs[i]'(by grind)) sm
       rw[hi]at ab;cases ab
       exact rr.dG
      have ad: ∀z:aj1,oM P t (.agg z.toArray):=λz=>by unfold oM;grind
      have ah:=L4 10 t ks aa 10000 om (.agg xs.toArray) (.agg ys.toArray) r (ad _) (ad _) (by simpa[Value.cells]using o1) (by simpa[Value.cells]using o2) (by simpa[Value.cells]using af) w
      split
      .exact bU.pure h (x:= .bool r) (by simp_all[execOp,run_eqGuard_agg,run_eql_struct]) (cF.bool _)
      .exact bU.pure h (x:= .bool (!r)) (by simp_all[execOp,run_eqGuard_agg,run_neq_struct]) (cF.bool _)
      trivial
     grind
    grind
  trivial
 trivial
theorem L6 (h:iR P t=3): ∃el,P.underlying t=some (.slice el):=by
 grind[iR]
theorem XT {y:Operand} (h:pP y):y= .const (.slice none 0 0):=by
 unfold pP at h
 grind
theorem I5 (hb:P.underlying t=some (.slice el)) (a:Option Addr) (n cap:Nat) (w:World):(Op.equal t (.slice a n cap) (.slice none 0 0)).run P w= .ok a.isNone w:=by
 have key: ∀d,(Op.equalIn (d+1) t (.slice a n cap) (.slice none 0 0)).run P w= .ok a.isNone w:=λd=>by
  cases a<;>simp[Op.equalIn,run_underlying hb]
 exact key 9999
theorem XU {pos:String} (op:BinOp) (t t':TypeId) (x y:Operand) (hy:pP y) (h:dQ c nt e I a w L J):
  fa (vC op (iR P t) (zG e x)) I (bU P c ⟨dst,.binOp op t x y t',ty,pos,dX,g⟩ a w L I J):=by
 have hx:=h.eval x
 have hy:=XT hy
 subst hy
 unfold vC
 split
 .rename_i hk
  obtain⟨el,hu⟩:=L6 hk
  split
  .rename_i n hn
   have hv: ∃ad cap,a.eval x= .slice ad n cap/\(0<n->ad.isNone=false):=by
    unfold BQ at hn
    split at hn
    .rename_i gg rows h1
     rw[h1]at hx
     cases hn
     have hr:=sC hx
     clear hx
     revert hr
     generalize a.eval x=z
     intro hr
     cases hr<;>simp
    .rename_i id s n' lo m h1
     rw[h1]at hx
     cases hn
     obtain⟨ad,cap,hv,ab,aa,_⟩:=hx
     grind
    grind
   obtain⟨ad,cap,hv,hz⟩:=hv
   have hc:a.eval (.const (.slice none 0 0))= .slice none 0 0:=rfl
   unfold GN
   split
   .split
    .rename_i h0
     exact bU.pure h (x:= .bool false) (by simp_all[execOp,eqGuard,binOp,I5]) (cF.bool _)
    .exact⟨ad.isNone,bU.pure h (x:= .bool ad.isNone) (by simp_all[execOp,eqGuard,binOp,I5]) (cF.bool _)⟩
   .split
    .rename_i h0
     exact bU.pure h (x:= .bool true) (by simp_all[execOp,eqGuard,binOp,I5]) (cF.bool _)
    .exact⟨ad.isNone,bU.pure h (x:= .bool (!ad.isNone)) (by simp_all[execOp,eqGuard,binOp,I5]) (cF.bool _)⟩
   trivial
  trivial
 trivial
def nf (op:UnOp) (x:V):R:=
 match op,x with
 | .not,.bool b=> .ok (.bool (!b))
 | .neg,.int k n=> .ok (.int k (k.wrap (0 - n)))
 | .xor,.int k n=> .ok (.int k (jr .xor k (if k.signed then -1 else k.max) n))
 |_,_=> .fail
theorem XV {pos:String} (op:UnOp) (t:TypeId) (x:Operand) (h:dQ c nt e I a w L J):
  fa (nf op (zG e x)) I (bU P c ⟨dst,.unOp op t x,ty,pos,dX,g⟩ a w L I J):=by
 have hx:=h.eval x
 unfold nf
 split
 .rename_i b h1
  rw[h1]at hx
  exact bU.pure h (x:= .bool (!b)) (by simp[execOp,pO hx,Op.unary]) (cF.bool _)
 .rename_i k n h1
  rw[h1]at hx
  exact bU.pure h (x:= .int k (k.wrap (0 - n))) (by simp only[execOp,yO hx,Op.unary,Op.intArith,Sem.run_bind,Sem.run_pure,Result.andThen_ok]) (cF.int _ _)
 .rename_i k n h1
  rw[h1]at hx
  exact bU.pure h (x:= .int k (jr .xor k (if k.signed then -1 else k.max) n)) (by simp only[execOp,yO hx,Op.unary,Op.intBits,Sem.run_bind,Sem.run_pure,Result.andThen_ok];rfl) (cF.int _ _)
 trivial
def yc (x:V) (i:Nat):R:=
 match x with
 | .cy vs=>(match vs[i]? with|some v=> .ok v|none=> .fail)
 |_=> .fail
theorem XW {pos:String} (x:Operand) (i:Nat) (h:dQ c nt e I a w L J):
  fa (yc (zG e x) i) I (bU P c ⟨dst,.extract x i,ty,pos,dX,g⟩ a w L I J):=by
 have hx:=h.eval x
 unfold yc
 split
 .rename_i vs h1
  rw[h1]at hx
  obtain⟨xs,hv,aa⟩:=hx
  split
  .rename_i v ab
   obtain⟨y,hy,r⟩:=aa.get _ _ ab
   exact bU.pure h (x:=y) (by simp_all[execOp,Instr.extract]) (dD.lf r)
  trivial
 trivial
def ye (P:Program) (t:TypeId) (x:V) (f:Nat):R:=
 match cw P t f,x with
 |some (off,_,_),.ptr id o=> .ok (.ptr id (o+off))
 |some (off,_,_),.oJ cs o=> .ok (.oJ cs (o+off))
 |some (off,_,_),.iQ id s n k j=> .ok (.iQ id s n k (j+off))
 |_,_=> .fail
theorem L7 {f off s:Nat} {b:Bool} (h:cw P t f=some (off,s,b)): ∃fs fd,P.underlying t=some (.struct fs)/\fs[f]? =some fd/\fd.offset=off/\eE P fd.type=some s/\cS P fd.type=some b/\s≠0:=by
 unfold cw at h
 split at h
 .rename_i fs hu
  cases hf:fs[f]? with
  |none=>grind
  |some fd=>
   simp only[hf,Ax]at h
   cases hs:eE P fd.type with
   |none=>grind
   |some s'=>
    simp only[hs,Ax]at h
    cases hb:cS P fd.type<;>grind
 grind
theorem XX {pos:String} (t:TypeId) (x:Operand) (f:Nat) (h:dQ c nt e I a w L J):
  fa (ye P t (zG e x) f) I (bU P c ⟨dst,.fieldAddr t x f,ty,pos,dX,g⟩ a w L I J):=by
 have hx:=h.eval x
 have run: ∀{off s:Nat} {b:Bool} {bl o:Nat},cw P t f=some (off,s,b)->a.eval x= .pointer (some ⟨bl,o,none⟩)->(execOp a.eval ⟨dst,.fieldAddr t x f,ty,pos,dX,g⟩).run P w= .ok (.value (.pointer (some ⟨bl,o+off,none⟩))) w:=by
  intro off s b bl o hf hv
  obtain⟨fs,fd,hu,aa,rfl,hs,hb,h0⟩:=L7 hf
  simp_all[execOp,Instr.fieldAt,run_underlying,Instr.sureAddr,fieldPlace,oL,wE]
 unfold ye
 split
 .rename_i off s b id o hf h1
  rw[h1]at hx
  obtain⟨bl,hb,hv⟩:=hx
  exact bU.pure h (run hf hv) ⟨bl,hb,rfl⟩
 .rename_i off s b cs o hf h1
  rw[h1]at hx
  obtain⟨bl,o',c',hv,hl,hc⟩:=hx
  exact bU.pure h (run hf hv) ⟨bl,o',c',sm,hl,hc⟩
 .rename_i off s b id s' n k j hf h1
  rw[h1]at hx
  obtain⟨bl,o',hv,hc⟩:=hx
  refine bU.pure h (run hf hv) ⟨bl,o'+off,rfl, ?_⟩
  grind
 trivial
end
section
variable {P:Program} {c:Ctx} {nt:Nat} {e:Env} {I:St} {a:Act} {w:World} {L:Nat->Nat} {J:aj1} {o:Oper}
variable {t:TypeId}{off:Nat}{dst:Option Tmp}{ty:TypeId}{dX:Array Edge}{g:Option (Nat×Bool)}{bl:Nat}{cs:List V}
def rI (ag:Option Bool) (sz:aj5) (cs:List V) (off:Nat):R:=
 match ag,sz with
 |some true,some s=>if off+s<=cs.length then .ok (.agg ((cs.drop off).take s))else .fail
 |some false,_=>(match cs[off]? with|some v=> .ok v|none=> .fail)
 |_,_=> .fail
def ng (P:Program) (t:TypeId) (I:St) (x:V):R:=
 match x with
 | .ptr id off=>(match I[id]? with|some (.box cs)=>rI (cS P t) (eE P t) cs off|_=> .fail)
 | .oJ cs off=>rI (cS P t) (eE P t) cs off
 | .iQ id s n k j=>(match I[id]? with|some (.cj rows s')=>if s'=s/\rows.length=n/\k<n then rI (cS P t) (eE P t) (rows.getD k []) j else .fail|_=> .fail)
 |_=> .fail
theorem XY {s:Nat} {xs:aj1} (aa:cS P t=some true) (ab:eE P t=some s) (hl:xs.length=s) (hx: ∀(j:Nat) v,xs[j]? =some v->w.cell? ⟨bl,off+j,none⟩=some v):
  (loadVar t ⟨bl,off,none⟩).run P w= .ok (.agg xs.toArray) w:=by
 have:=run_loadCells_list (P:=P) w ⟨bl,off,none⟩ xs (λj v hj=>by rw[wE];exact hx j v hj)
 simp_all[loadVar,uv,oL]
theorem XZ {v:Value} (aa:cS P t=some false) (hx:w.cell? ⟨bl,off,none⟩=some v):
  (loadVar t ⟨bl,off,none⟩).run P w= .ok v w:=by
 simp_all[loadVar,uv]
theorem L8 (t:TypeId) {o:Nat} {v:V}
  (hc: ∀(j:Nat) v,cs[j]? =some v-> ∃y,w.cell? ⟨bl,o+j,none⟩=some y/\df w L I J v y) (hl:rI (cS P t) (eE P t) cs off= .ok v):
  ∃y,(loadVar t ⟨bl,o+off,none⟩).run P w= .ok y w/\dD w L I J v y:=by
 unfold rI at hl
 split at hl
 .rename_i s aa ae
  split at hl
  .rename_i hle
   simp only[R.ok.injEq]at hl
   subst hl
   let f:=λk=>(w.cell? ⟨bl,o+(off+k),none⟩).getD undef
   let xs:=(List.range s).map f
   have af: ∀(j:Nat) v,xs[j]? =some v->w.cell? ⟨bl,o+off+j,none⟩=some v/\ ∃p,cs[off+j]? =some p/\df w L I J p v:=by
    intro j v hj
    have ab:j<s:=by
     grind
    simp only[xs,B6,Dc ab,Bb,aiy]at hj
    obtain⟨y,hy,r⟩:=hc (off+j) _ (A0 om)
    grind
   refine⟨.agg xs.toArray,(by grind[XY]),xs,rfl,bP.of (by simp[xs];omega) λj p v hu hj=> ?_⟩
   grind
  grind
 .rename_i aa
  split at hl
  .rename_i v' ad
   simp only[R.ok.injEq]at hl
   subst hl
   obtain⟨y,hy,r⟩:=hc off _ ad
   simp_all[XZ,dD.dK]
  grind
 grind
theorem L9 {ag:Option Bool} {sz:aj5}:(∃v,rI ag sz cs off= .ok v)\/rI ag sz cs off= .fail:=by
 unfold rI
 grind
theorem Qh (t:TypeId) {x:V} {y:Value} {v:V} (hm:Mem c w L I J) (hx:dD w L I J x y) (hl:ng P t I x= .ok v):
  ∃bl off z,y= .pointer (some ⟨bl,off,none⟩)/\(loadVar t ⟨bl,off,none⟩).run P w= .ok z w/\dD w L I J v z:=by
 unfold ng at hl
 split at hl
 .rename_i id off
  obtain⟨bl,hb,hv⟩:=hx
  split at hl
  .rename_i cs cJ
   obtain⟨b',arr,T,fz,e1,hh,_,_,aa⟩:=hm.di id _ _ cJ hb
   cases e1
   obtain⟨z,hz,r⟩:=L8 (P:=P) (w:=w) (L:=L) (I:=I) (J:=J) t (bl:=bl) (o:=0) (λj v hj=>by
    obtain⟨y,hy,r⟩:=aa.get _ _ hj
    grind[World.cell?]) hl
   grind
  grind
 .rename_i cs off
  obtain⟨bl,o',c',hv,ff,hc⟩:=hx
  obtain⟨z,hz,r⟩:=L8 (P:=P) (w:=w) (L:=L) (I:=I) (J:=J) t (bl:=bl) (o:=o') (by grind[df.dw]) hl
  grind
 .rename_i id s n k j
  obtain⟨bl,o',hv,hc⟩:=hx
  split at hl
  .rename_i rows s' cJ
   split at hl
   .rename_i ab
    obtain⟨rfl,hn,hk⟩:=ab
    rcases hc with hd|⟨cC,ad,ae,hb⟩
    .grind
    .rw[cJ]at ad
     cases ad
     obtain⟨c0,dh,ho⟩:=hb hn.symm hk
     obtain⟨a,cap,e1,dq,hs,hu,cQ⟩:=hm.di id _ _ cJ dh
     cases e1
     obtain⟨b',arr,T,fz,e2,hh,_,_,_,aa⟩:=cQ om
     cases e2
     have hg:rows.getD k []=rows[k]'om:=by grind
     obtain⟨z,hz,r⟩:=L8 (P:=P) (w:=w) (L:=L) (I:=I) (J:=J) t (bl:=bl) (o:=k*s') (cs:=rows.getD k []) (off:=j) (λi v hi=>by
      have af:i<s':=by
       grind
      have hf:rows.flatten[k*s'+i]? =some v:=by
       grind[yQ]
      obtain⟨y,hy,r⟩:=aa.get _ _ hf
      grind[World.cell?]) hl
     grind
   grind
  grind
 grind
theorem X1 {x:V}:(∃v,ng P t I x= .ok v)\/ng P t I x= .fail:=by
 unfold ng
 split
 .split
  .exact L9
  simp
 .exact L9
 .split
  .split
   .exact L9
   simp
  simp
 simp
theorem I6 {s:Nat} {vs:List V}: ∀{rows:List (List V)} (k j:Nat),(∀r∈rows,r.length=s)->k<rows.length->j+vs.length<=s->(rows.set k (putCells (rows.getD k []) j vs)).flatten=putCells rows.flatten (k*s+j) vs
 | [],k,j,_,hk,_=>by grind
 |r::rows,0,j,h,_,hj=>by
  have hr:=h r sm
  have e:(r::rows).getD 0 []=r:=rfl
  rw[e,Cf,Cz,Cz,Cv,Ad]
  grind[putCells]
 |r::rows,k+1,j,h,hk,hj=>by
  have hr:=h r sm
  have ih:=I6 (s:=s) (vs:=vs) (rows:=rows) k j (λx hx=>h x (by simp[hx])) (sU hk) hj
  have e:(r::rows).getD (k+1) []=rows.getD k []:=sm
  rw[e,By,Cz,ih,Cz]
  unfold putCells
  have e2:(k+1)*s+j=r.length+(k*s+j):=by rw[B4,hr];omega
  have e3:r.length+(k*s+j)+vs.length=r.length+(k*s+j+vs.length):=Dy _ _ _
  rw[e2,List.take_length_add_append,e3,List.drop_length_add_append]
  simp
theorem X2 {pos:String} (t:TypeId) (x:Operand) (h:dQ c nt e I a w L J):
  fa (ng P t I (zG e x)) I (bU P c ⟨dst,.load t x,ty,pos,dX,g⟩ a w L I J):=by
 rcases X1 (P:=P) (I:=I) (t:=t) (x:=zG e x)with ⟨v,hv⟩|hv
 .obtain⟨bl,off,z,hy,hz,r⟩:=Qh (P:=P) t h.mem (h.eval x) hv
  rw[hv]
  exact bU.pure h (x:=z) (by simp_all[execOp,Instr.loadAt,Instr.sureAddr]) r
 .rw[hv];trivial
def vD (P:Program) (t:TypeId) (I:St) (x y:V):R:=
 match x with
 | .ptr id off=>(match I[id]?,eE P t with
  |some (.box cs),some s=>if nb y=true/\(xO y).length=s/\off+s<=cs.length then .st .u (I.set id (.box (putCells cs off (xO y))))else .fail
  |_,_=> .fail)
 | .iQ id s n k j=>(match I[id]?,eE P t with
  |some (.cj rows s'),some z=>if nb y=true/\(xO y).length=z/\j+z<=s/\s'=s/\rows.length=n/\k<n then .st .u (I.set id (.cj (rows.set k (putCells (rows.getD k []) j (xO y))) s))else .fail
  |_,_=> .fail)
 |_=> .fail
theorem X3 {pos:String} (t:TypeId) (x y:Operand) (h:dQ c nt e I a w L J):
  fa (vD P t I (zG e x) (zG e y)) I (bU P c ⟨dst,.store t x y,ty,pos,dX,g⟩ a w L I J):=by
 have hx:=h.eval x
 have hy:=h.eval y
 unfold vD
 split
 .rename_i id off h1
  rw[h1]at hx
  obtain⟨bl,hb,hv⟩:=hx
  split
  .rename_i cs s cJ ao
   split
   .rename_i ab
    obtain⟨ae,hlen,hle⟩:=ab
    have aa:=BN hy ae
    obtain⟨arr,T,fz,hh,hf,aj,ad,af⟩:=h.mem.jI (off:=off) cJ hb aa om
    have aq:=aa.length
    have ar:=xP P bl off T fz (a.eval y).cells.toList 0 arr w hh hf om (λv hv=> ?_)
    .refine⟨undef,_,L,J,.inr ⟨?_,rfl⟩,ad,af,Ext.jI cJ _,tV⟩
     simp_all[execOp,Instr.storeAt,Instr.sureAddr,storeVar,oL]
    .obtain⟨k,hk⟩:=Ar.1 hv
     have ah:k<(xO (zG e y)).length:=by
      grind
     obtain⟨z,hz,r⟩:=aa.get k _ (A0 ah)
     rw[hk]at hz;cases hz
     exact r.dG
   trivial
  trivial
 .rename_i id s n k j h1
  rw[h1]at hx
  obtain⟨bl,o',hv,hc⟩:=hx
  split
  .rename_i rows s' z cJ ao
   split
   .rename_i ab
    obtain⟨ae,hlen,hle,rfl,hn,hk⟩:=ab
    rcases hc with hd|⟨cC,ak,aw,hb⟩
    .grind
    .rw[cJ]at ak
     cases ak
     obtain⟨c0,dh,ho⟩:=hb hn.symm hk
     obtain⟨a',cap,e1,dq,hs,hu,_⟩:=h.mem.di id _ _ cJ dh
     cases e1
     have aa:=BN hy ae
     have aq:=aa.length
     have ah:k<rows.length:=om
     have au:(k+1)*s'<=rows.length*s':=Ak _ ah
     rw[B4,D7]at au
     have hg:rows.getD k []=rows[k]'ah:=by grind
     obtain⟨arr,T,fz,hh,hf,aj,ad,af,ai⟩:=h.mem.gi (cC:=rows.set k (putCells (rows.getD k []) j (xO (zG e y)))) (off:=k*s'+j) cJ dh om aa om (λr hr=>by
      grind[P9]) (by grind[I6]) sm (by grind)
     have al:J.set id (.slice (some ⟨bl,0,none⟩) (rows.set k (putCells (rows.getD k []) j (xO (zG e y)))).length c0)=J:=(by grind[yN])
     rw[al]at ad ai
     have ar:=xP P bl (k*s'+j) T fz (a.eval y).cells.toList 0 arr w hh hf om (λv hv=> ?_)
     .refine⟨undef,_,L,J,.inr ⟨?_,rfl⟩,ad,af,ai,tV⟩
      simp_all[execOp,Instr.storeAt,Instr.sureAddr,storeVar,oL]
     .obtain⟨q,hq⟩:=Ar.1 hv
      have av:q<(xO (zG e y)).length:=by
       grind
      obtain⟨z',an,r⟩:=aa.get q _ (A0 av)
      rw[hq]at an;cases an
      exact r.dG
   trivial
  trivial
 trivial
def vE (I:St) (x:V):R:=if nb x=true then .st (.ptr I.length 0) (I++ [.box (xO x)])else .fail
theorem X4 {pos:String} (t:TypeId) (x:Operand) (h:dQ c nt e I a w L J):
  fa (vE I (zG e x)) I (bU P c ⟨dst,.box t x,ty,pos,dX,g⟩ a w L I J):=by
 have hx:=h.eval x
 unfold vE
 split
 .rename_i aa
  obtain⟨h1,h2⟩:=h.mem.box _ (a.eval x).cells t (BN hx aa)
  refine⟨_,_,L,_,.inl ?_,h1,h2,Ext.push I J h.mem.len _ _,⟨w.heap.size, ?_,rfl⟩⟩
  .rfl
  .rw[<-h.mem.len,Au (A7 _)];simp
 trivial
def rJ (P:Program) (t:TypeId) (I:St):R:=
 match wB P t with
 |some cs=> .st (.ptr I.length 0) (I++ [.box cs])
 |none=> .fail
theorem I7 (h:wB P t=some cs): ∃i z,P.info? t=some i/\i.zero=some z/\(∀v∈z.cells.toList,v.oneCell'=true)/\cs=z.cells.toList.map jl:=by
 unfold wB at h
 cases hi:P.info? t with
 |none=>grind
 |some i=>
  cases hz:i.zero with
  |none=>grind
  |some z=>
   simp only[hi,hz,Ax]at h
   split at h
   .rename_i ha
    simp at h
    refine⟨i,z,rfl,hz,λv hv=> ?_,h.symm⟩
    exact Ch.1 ha v (by grind)
   grind
theorem Ma {xs:aj1} (h: ∀v∈xs,v.oneCell'):bP (cF w L) (xs.map jl) xs:=by
 induction xs with
 |nil=>trivial
 |cons x xs ih=>exact⟨(by grind[GK]),(by grind)⟩
theorem X5 {pos:String} (t:TypeId) (h:dQ c nt e I a w L J):
  fa (rJ P t I) I (bU P c ⟨dst,.alloc t,ty,pos,dX,g⟩ a w L I J):=by
 unfold rJ
 split
 .rename_i cs hc
  obtain⟨i,z,hi,ab,aa,rfl⟩:=I7 hc
  obtain⟨h1,h2⟩:=h.mem.box (z.cells.toList.map jl) z.cells t ((Ma aa).imp λ_ _=>df.dw)
  refine⟨_,_,L,_,.inl ?_,h1,h2,Ext.push I J h.mem.len _ _,⟨w.heap.size, ?_,rfl⟩⟩
  .simp_all[execOp,Instr.alloc,zeroValue,typeInfo,newVar,newRow]
  .rw[<-h.mem.len,Au (A7 _)];simp
 trivial
end
section
variable {P:Program} {c:Ctx} {nt:Nat} {e:Env} {I:St} {a:Act} {w:World} {L:Nat->Nat} {J:aj1} {o:Oper}
variable {t:TypeId}{dst:Option Tmp}{ty:TypeId}{dX:Array Edge}{g:Option (Nat×Bool)}
def vF (sl:aj5) (ar:Option (Nat×Nat×Bool)) (x i:V):R:=
 match x,i with
 | .sl _ rows,.int _ k=>(match sl with
  |some s=> .ee (0<=k/\k<rows.length/\(rows.getD k.toNat []).length=s) (.oJ (rows.getD k.toNat []) 0)
  |none=> .fail)
 | .ptr id off,.int _ k=>(match ar with
  |some (n,s,_)=> .ee (0<=k/\k<n) (.ptr id (off+k.toNat*s))
  |none=> .fail)
 | .oJ cs off,.int _ k=>(match ar with
  |some (n,s,_)=> .ee (0<=k/\k<n) (.oJ cs (off+k.toNat*s))
  |none=> .fail)
 | .cM id s n lo m,.int _ k=>if sl=some s then .ee (0<=k/\k<m) (.iQ id s n (lo+k.toNat) 0)else .fail
 | .j6 id s off n,.int _ k=>if sl=some s then .ee (0<=k/\k<n) (.ptr id (off+k.toNat*s))else .fail
 |_,_=> .fail
theorem Mb {s:Nat} (h:eT P t=some s): ∃el,P.underlying t=some (.slice el)/\eE P el=some s:=by
 grind[eT]
theorem I8 {n s:Nat} {b:Bool} (h:iT P t=some (n,s,b)): ∃el,P.underlying t=some (.array n el)/\eE P el=some s/\cS P el=some b:=by
 unfold iT at h
 split at h
 .rename_i m el hu
  cases hs:eE P el with
  |none=>grind
  |some s'=>
   cases hb:cS P el<;>grind
 grind
theorem X6 {pos:String} (t:TypeId) (x i:Operand) (h:dQ c nt e I a w L J):
  fa (vF (eT P t) (iT P t) (zG e x) (zG e i)) I (bU P c ⟨dst,.indexAddr t x i,ty,pos,dX,g⟩ a w L I J):=by
 have hx:=h.eval x
 have hi:=h.eval i
 unfold vF
 split
 .rename_i gg rows kd k h1 h2
  rw[h1]at hx;rw[h2]at hi
  split
  .rename_i s hs
   obtain⟨el,hu,aa⟩:=Mb hs
   rintro⟨h0,ab,ae⟩
   have hk:k.toNat<rows.length:=om
   have aj:rows≠ []:=(by grind)
   obtain⟨s',b,o',cap,hv,al,af,ff,_,_,hc⟩:=(sC hx).flat aj
   have ah:rows.getD k.toNat []∈rows:=by
    grind
   have ak:s'=s:=by rw[<-af _ ah];omega
   subst ak
   have an:rows.getD k.toNat []=rows[k.toNat]:=by grind
   have e1:=yO hi
   refine bU.pure h (x:= .pointer (some ⟨b,o'+k.toNat*s',none⟩)) ?_ ?_
   .simp[execOp,hv,e1,Instr.indexAt,asIntOf,run_underlying hu,oL aa,h0,ab,wE]
   .refine⟨b,o'+k.toNat*s',λj=>(w.cell? ⟨b,o'+k.toNat*s'+j,none⟩).getD undef,rfl, ?_,λj hj=> ?_⟩
    .rw[ae]
     have:(k.toNat+1)*s'<=rows.length*s':=Ak _ hk
     grind
    .rw[ae]at hj
     obtain⟨y,hy,r⟩:=hc (k.toNat*s'+j) ((rows.getD k.toNat [])[j]'om) (by
      rw[yQ _ _ af hj,A0 hk]
      grind)
     grind
  trivial
 .rename_i id off kd k h1 h2
  rw[h1]at hx;rw[h2]at hi
  split
  .rename_i n s b hs
   obtain⟨el,hu,aa,_⟩:=I8 hs
   rintro⟨h0,ab⟩
   obtain⟨bl,hb,hv⟩:=hx
   refine bU.pure h (x:= .pointer (some ⟨bl,off+k.toNat*s,none⟩)) ?_ ⟨bl,hb,rfl⟩
   simp[execOp,hv,yO hi,Instr.indexAt,asIntOf,run_underlying hu,oL aa,h0,ab,wE,Instr.sureAddr]
  trivial
 .rename_i cs off kd k h1 h2
  rw[h1]at hx;rw[h2]at hi
  split
  .rename_i n s b hs
   obtain⟨el,hu,aa,_⟩:=I8 hs
   rintro⟨h0,ab⟩
   obtain⟨bl,o',c',hv,hl,hc⟩:=hx
   refine bU.pure h (x:= .pointer (some ⟨bl,o'+(off+k.toNat*s),none⟩)) ?_ ⟨bl,o',c',rfl,hl,hc⟩
   simp[execOp,hv,yO hi,Instr.indexAt,asIntOf,run_underlying hu,oL aa,h0,ab,wE,Instr.sureAddr,Dy]
  trivial
 .rename_i id s n lo m kd k h1 h2
  rw[h1]at hx;rw[h2]at hi
  split
  .rename_i hs
   obtain⟨el,hu,aa⟩:=Mb hs
   rintro⟨h0,ab⟩
   obtain⟨ad,cap,hv,hm,ai,hc⟩:=hx
   obtain⟨b,o,rfl⟩:=ai om
   refine bU.pure h (x:= .pointer (some ⟨b,o+k.toNat*s,none⟩)) ?_ ⟨b,o+k.toNat*s,rfl, ?_⟩
   .simp[execOp,hv,yO hi,Instr.indexAt,asIntOf,run_underlying hu,oL aa,h0,ab,wE]
   grind
  trivial
 .rename_i id s off n kd k h1 h2
  rw[h1]at hx;rw[h2]at hi
  split
  .rename_i hs
   obtain⟨el,hu,aa⟩:=Mb hs
   rintro⟨h0,ab⟩
   obtain⟨bl,hb,hv⟩:=hx
   refine bU.pure h (x:= .pointer (some ⟨bl,off+k.toNat*s,none⟩)) ?_ ⟨bl,hb,rfl⟩
   simp[execOp,hv,yO hi,Instr.indexAt,asIntOf,run_underlying hu,oL aa,h0,ab,wE]
  trivial
 trivial
def vG (x i:V) (str:Bool) (ar:Option (Nat×Nat×Bool)):R:=
 match x,i with
 | .str b,.int _ k=>if str then .ee (0<=k/\k<b.length) (.int .u8 (b.getD k.toNat 0).toNat)else .fail
 | .agg cs,.int _ k=>(match ar with
  |some (n,s,false)=> .ee (0<=k/\k<n/\(k.toNat*s)<cs.length) (cs.getD (k.toNat*s) .u)
  |_=> .fail)
 |_,_=> .fail
def qf (P:Program) (t:TypeId):Bool:=match P.underlying t with|some .string=>true|_=>false
theorem X7 (h:qf P t):P.underlying t=some .string:=by
 grind[qf]
theorem X8 {pos:String} (t:TypeId) (x i:Operand) (h:dQ c nt e I a w L J):
  fa (vG (zG e x) (zG e i) (qf P t) (iT P t)) I (bU P c ⟨dst,.index t x i,ty,pos,dX,g⟩ a w L I J):=by
 have hx:=h.eval x
 have hi:=h.eval i
 unfold vG
 split
 .rename_i b kd k h1 h2
  rw[h1]at hx;rw[h2]at hi
  split
  .rename_i hs
   have hu:=X7 hs
   rintro⟨h0,aa⟩
   have hk:k.toNat<b.length:=om
   refine bU.pure h (x:= .int .u8 (b.getD k.toNat 0).toNat) ?_ (cF.int _ _)
   have hg:(ByteArray.mk b.toArray)[k.toNat]? =some (b.getD k.toNat 0):=by
    have:k.toNat<(ByteArray.mk b.toArray).size:=by simpa
    rw[getElem?_pos (ByteArray.mk b.toArray) k.toNat this]
    rw[Al,A0 hk]
    rfl
   simp[execOp,lh hx,yO hi,Instr.index,asIntOf,run_underlying hu,h0,hg]
  trivial
 .rename_i cs kd k h1 h2
  rw[h1]at hx;rw[h2]at hi
  split
  .rename_i n s hs
   obtain⟨el,hu,ad,ae⟩:=I8 hs
   rintro⟨h0,aa,af⟩
   obtain⟨xs,hv,ab⟩:=hx
   obtain⟨y,hy,r⟩:=ab.get (k.toNat*s) _ (A0 af)
   refine bU.pure h (x:=y) ?_ (dD.dK ?_)
   .simp[execOp,hv,yO hi,Instr.index,asIntOf,run_underlying hu,oL ad,h0,aa,part,uv ae,hy]
   grind
  trivial
 trivial
theorem yf (l:aiZ):(ByteArray.mk l.toArray).size=l.length:=by rfl
def dL (P:Program) (t:TypeId):Nat:=
 match P.underlying t with
 |some .string=>1
 |some (.slice _)=>2
 |_=>0
theorem I9 (h:dL P t=1):P.underlying t=some .string:=by
 grind[dL]
theorem uw (h:dL P t=2): ∃el,P.underlying t=some (.slice el):=by
 grind[dL]
def yg (k:Nat) (x:V):R:=
 match x with
 | .sl _ rows=>if k=2 then .ok (.int .i64 rows.length)else .fail
 | .str s=>if k=1 then .ok (.int .i64 s.length)else .fail
 | .cM _ _ _ _ m=>if k=2 then .ok (.int .i64 m)else .fail
 | .j6 _ _ _ n=>if k=2 then .ok (.int .i64 n)else .fail
 |_=> .fail
theorem X9 {pos:String} (t:TypeId) (x:Operand) (h:dQ c nt e I a w L J):
  fa (yg (dL P t) (zG e x)) I (bU P c ⟨dst,.call ⟨.builtin .len, #[x], #[t]⟩,ty,pos,dX,g⟩ a w L I J):=by
 have hx:=h.eval x
 unfold yg
 split
 .rename_i gg rows h1
  rw[h1]at hx
  obtain⟨a',cap,hv,_,_⟩:=(sC hx).len
  split
  .rename_i hk
   obtain⟨el,hu⟩:=uw hk
   exact bU.pure h (x:= .int .i64 rows.length) (by simp_all[execOp,resolve,invoke,builtin,Builtin.len_,run_underlying,goInt]) (cF.int _ _)
  trivial
 .rename_i s h1
  rw[h1]at hx
  split
  .rename_i hk
   exact bU.pure h (x:= .int .i64 s.length) (by simp[execOp,resolve,invoke,builtin,Builtin.len_,lh hx,run_underlying (I9 hk),goInt,yf]) (cF.int _ _)
  trivial
 .rename_i id s n lo m h1
  rw[h1]at hx
  obtain⟨ad,cap,hv,_⟩:=hx
  split
  .rename_i hk
   obtain⟨el,hu⟩:=uw hk
   exact bU.pure h (x:= .int .i64 m) (by simp_all[execOp,resolve,invoke,builtin,Builtin.len_,run_underlying,goInt]) (cF.int _ _)
  trivial
 .rename_i id s off n h1
  rw[h1]at hx
  obtain⟨bl,_,hv⟩:=hx
  split
  .rename_i hk
   obtain⟨el,hu⟩:=uw hk
   exact bU.pure h (x:= .int .i64 n) (by simp_all[execOp,resolve,invoke,builtin,Builtin.len_,run_underlying,goInt]) (cF.int _ _)
  trivial
 trivial
def qh (isMax:Bool):List V->R
 | [.int k x,.int _ y]=> .ok (.int k (if isMax then(if y>x then y else x)else(if y<x then y else x)))
 | [.str x,.str y]=> .ok (.str (if isMax then(if Op.bytesLess x y then y else x)else(if(Op.bytesLess x y||x==y)then x else y)))
 | [.int k x,.int _ y,.int _ z]=> .ok (.int k (if isMax then(let m:=if y>x then y else x;if z>m then z else m)else(let m:=if y<x then y else x;if z<m then z else m)))
 |_=> .fail
theorem Qi {pos:String} (ts:Array TypeId) (xs:List Operand) (isMax:Bool) (h:dQ c nt e I a w L J):
  fa (qh isMax (xs.map (zG e))) I (bU P c ⟨dst,.call ⟨.builtin (if isMax then .max else .min),xs.toArray,ts⟩,ty,pos,dX,g⟩ a w L I J):=by
 unfold qh
 split
 .rename_i k m k' n hl
  obtain⟨x,y,rfl⟩: ∃x y,xs= [x,y]:=by
   cases xs with
   |nil=>grind
   |cons x xs=>cases xs<;>simp_all
  simp at hl
  have e1:=yO (hl.1▸h.eval x);have e2:=yO (hl.2▸h.eval y)
  cases isMax
  .exact bU.pure h (x:= .int k (if n<m then n else m)) (by simp_all[execOp,resolve,invoke,builtin,Builtin.min_,Builtin.min2]) (cF.int _ _)
  .exact bU.pure h (x:= .int k (if n>m then n else m)) (by simp_all[execOp,resolve,invoke,builtin,Builtin.max_,Builtin.max2]) (cF.int _ _)
 .rename_i m n hl
  obtain⟨x,y,rfl⟩: ∃x y,xs= [x,y]:=by
   cases xs with
   |nil=>grind
   |cons x xs=>cases xs<;>simp_all
  simp at hl
  have e1:=lh (hl.1▸h.eval x);have e2:=lh (hl.2▸h.eval y)
  cases isMax
  .refine bU.pure h (x:= .string ⟨(if(Op.bytesLess m n||m==n)then m else n).toArray⟩) ?_ (cF.str _)
   simp[execOp,resolve,invoke,builtin,Builtin.min_,Builtin.min2,e1,e2,Op.stringOp,asBool]
   grind
  .refine bU.pure h (x:= .string ⟨(if Op.bytesLess m n then n else m).toArray⟩) ?_ (cF.str _)
   simp[execOp,resolve,invoke,builtin,Builtin.max_,Builtin.max2,e1,e2,Op.stringOp,asBool]
   grind
 .rename_i k m k' n aa q hl
  obtain⟨x,y,z,rfl⟩: ∃x y z,xs= [x,y,z]:=by
   cases xs with
   |nil=>grind
   |cons x xs=>cases xs with
    |nil=>grind
    |cons y xs=>cases xs<;>simp_all
  simp at hl
  have e1:=yO (hl.1▸h.eval x);have e2:=yO (hl.2.1▸h.eval y);have e3:=yO (hl.2.2▸h.eval z)
  cases isMax
  .exact bU.pure h (x:= .int k (let p:=if n<m then n else m;if q<p then q else p)) (by simp_all[execOp,resolve,invoke,builtin,Builtin.min_,Builtin.min2]) (cF.int _ _)
  .exact bU.pure h (x:= .int k (let p:=if n>m then n else m;if q>p then q else p)) (by simp_all[execOp,resolve,invoke,builtin,Builtin.max_,Builtin.max2]) (cF.int _ _)
 trivial
end
end Go.Vx
