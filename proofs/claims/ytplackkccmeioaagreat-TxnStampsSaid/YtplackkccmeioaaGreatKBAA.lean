/-
  Operations over trees: indexes, slices, lengths, appends, literals, conversions.
  No condition: a library text; nothing of the program is named.
-/
import Derived.WalkKit
import Derived.Deep.AppendSrc
import Derived.Laws.StructEq
import Derived.Laws.BytesArg
import Derived.Laws.IdiomStrings
import Derived.Great.BuildSlice
set_option maxHeartbeats 8000000
namespace Go
theorem ahf:type_of% @if_neg:=@if_neg
theorem ahg:type_of% @if_pos:=@if_pos
theorem ahh:type_of% @decide_eq_false:=@decide_eq_false
theorem ahi:type_of% @decide_eq_true:=@decide_eq_true
theorem ahj:type_of% @congrArg:=@congrArg
theorem ahk:type_of% @Option.some.injEq:=@Option.some.injEq
theorem ahl:type_of% @decide_eq_true_eq:=@decide_eq_true_eq
theorem ahm:type_of% @beq_iff_eq:=@beq_iff_eq
theorem ahn:type_of% @decide_eq_false_iff_not:=@decide_eq_false_iff_not
theorem aho:type_of% @if_true:=@if_true
theorem ahp:type_of% @of_decide_eq_true:=@of_decide_eq_true
theorem ahq:type_of% @Prod.mk.injEq:=@Prod.mk.injEq
theorem ahr:type_of% @List.Nodup.sublist:=@List.Nodup.sublist
theorem ahs:type_of% @BitVec.ofInt_natCast:=@BitVec.ofInt_natCast
theorem aht:type_of% @or_false:=@or_false
theorem ahu:type_of% @Option.some.inj:=@Option.some.inj
theorem ahv:type_of% @of_decide_eq_false:=@of_decide_eq_false
theorem ahw:type_of% @BitVec.toNat_ofNat:=@BitVec.toNat_ofNat
theorem ahx:type_of% @if_false:=@if_false
theorem ahy:type_of% @not_true_eq_false:=@not_true_eq_false
theorem ahz:type_of% @List.contains_iff_mem:=@List.contains_iff_mem
theorem ahA:type_of% @List.length_filter_le:=@List.length_filter_le
theorem ahB:type_of% @List.Pairwise.sublist:=@List.Pairwise.sublist
theorem ahC:type_of% @List.mem_append_left:=@List.mem_append_left
theorem ahD:type_of% @List.flatMap_append:=@List.flatMap_append
theorem ahE:type_of% @List.Perm.of_eq:=@List.Perm.of_eq
theorem ahF:type_of% @getElem!_pos:=@getElem!_pos
theorem ahG:type_of% @List.filter_filter:=@List.filter_filter
theorem ahH:type_of% @List.drop_drop:=@List.drop_drop
theorem ahI:type_of% @List.take_take:=@List.take_take
theorem ahJ:type_of% @List.take_zero:=@List.take_zero
theorem ahK:type_of% @List.getElem_take:=@List.getElem_take
theorem ahL:type_of% @Int.lt_trichotomy:=@Int.lt_trichotomy
theorem ahM:type_of% @List.map_drop:=@List.map_drop
theorem ahN:type_of% @Bool.or_true:=@Bool.or_true
theorem ahO:type_of% @Nat.pow_succ:=@Nat.pow_succ
abbrev ahP:=List UInt8
abbrev ahQ:=List Nat
abbrev ahR:=List Value
abbrev ahS:=List Int
abbrev ahT:=Array Value
abbrev ahU:=List (List UInt8)
abbrev ahV:=Option Nat
end Go
namespace Go
theorem om{p:Prop}(h:p:=by omega):p:=h
theorem sg{p:Prop}(h:p:=by simp[go_sem]):p:=h
theorem kR{p:Prop}(h:p:=by kernel_rfl):p:=h
theorem dC{p:Prop}(h:p:=by decide):p:=h
theorem sm{p:Prop}(h:p:=by simp):p:=h
theorem sU{p q:Prop}(h:q)(g:q->p:=by intro h;simpa using h):p:=g h
theorem tV:True:=⟨⟩
theorem A0:type_of% @List.getElem?_eq_getElem:=@List.getElem?_eq_getElem
theorem A3:type_of% @List.getElem?_eq_some_iff:=@List.getElem?_eq_some_iff
theorem A4:type_of% @Nat.zero_le:=@Nat.zero_le
theorem A5:type_of% @List.drop_eq_getElem_cons:=@List.drop_eq_getElem_cons
theorem A6:type_of% @Bool.eq_false_or_eq_true:=@Bool.eq_false_or_eq_true
theorem A7:type_of% @Nat.le_refl:=@Nat.le_refl
theorem A8:type_of% @List.getElem_mem:=@List.getElem_mem
theorem A9:type_of% @List.drop_eq_nil_of_le:=@List.drop_eq_nil_of_le
theorem Aa:type_of% @List.take_of_length_le:=@List.take_of_length_le
theorem Ab:type_of% @Bool.and_eq_true:=@Bool.and_eq_true
theorem Ac:type_of% @List.mem_map:=@List.mem_map
theorem Ad:type_of% @Nat.zero_add:=@Nat.zero_add
theorem Ae:type_of% @List.getD_eq_getElem?_getD:=@List.getD_eq_getElem?_getD
theorem Af:type_of% @List.mem_cons:=@List.mem_cons
theorem Ag:type_of% @List.length_map:=@List.length_map
theorem Ah:type_of% @List.take_succ_eq_append_getElem:=@List.take_succ_eq_append_getElem
theorem Ai:type_of% @List.map_cons:=@List.map_cons
theorem Aj:type_of% @Nat.mul_le_mul_right:=@Nat.mul_le_mul_right
theorem Ak:type_of% @List.length_cons:=@List.length_cons
theorem Al:type_of% @List.mem_append:=@List.mem_append
theorem Am:type_of% @List.all_eq_true:=@List.all_eq_true
theorem An:type_of% @List.getElem?_take:=@List.getElem?_take
theorem Ao:type_of% @Array.getElem?_toList:=@Array.getElem?_toList
theorem Ap:type_of% @List.length_append:=@List.length_append
theorem Aq:type_of% @List.eq_nil_of_length_eq_zero:=@List.eq_nil_of_length_eq_zero
theorem Ar:type_of% @List.getElem?_append_right:=@List.getElem?_append_right
theorem As:type_of% @List.mem_iff_getElem?:=@List.mem_iff_getElem?
theorem Au:type_of% @List.getElem?_append_left:=@List.getElem?_append_left
theorem Av:type_of% @List.mem_cons_self:=@List.mem_cons_self
theorem Aw:type_of% @Option.map_eq_some_iff:=@Option.map_eq_some_iff
theorem Ax:type_of% @List.append_nil:=@List.append_nil
theorem Ay:type_of% @Option.bind_some:=@Option.bind_some
theorem Az:type_of% @Int.toNat_natCast:=@Int.toNat_natCast
theorem B0:type_of% @List.length_take:=@List.length_take
theorem B1:type_of% @Nat.le_trans:=@Nat.le_trans
theorem B2:type_of% @Array.getElem?_eq_getElem:=@Array.getElem?_eq_getElem
theorem B3:type_of% @List.getElem?_map:=@List.getElem?_map
theorem B4:type_of% @Nat.add_mul:=@Nat.add_mul
theorem B5:type_of% @List.mem_cons_of_mem:=@List.mem_cons_of_mem
theorem B6:type_of% @List.take_append_drop:=@List.take_append_drop
theorem B7:type_of% @Bool.true_and:=@Bool.true_and
theorem B8:type_of% @List.map_congr_left:=@List.map_congr_left
theorem B9:type_of% @List.map_map:=@List.map_map
theorem Ba:type_of% @Nat.lt_trichotomy:=@Nat.lt_trichotomy
theorem Bb:type_of% @List.mem_singleton:=@List.mem_singleton
theorem Bc:type_of% @List.nodup_range:=@List.nodup_range
theorem Be:type_of% @List.not_mem_nil:=@List.not_mem_nil
theorem Bf:type_of% @Option.map_some:=@Option.map_some
theorem Bg:type_of% @List.ext_getElem?:=@List.ext_getElem?
theorem Bh:type_of% @List.map_nil:=@List.map_nil
theorem Bi:type_of% @List.getElem?_set_self:=@List.getElem?_set_self
theorem Bj:type_of% @List.drop_zero:=@List.drop_zero
theorem Bk:type_of% @List.mem_of_getElem?:=@List.mem_of_getElem?
theorem Bl:type_of% @List.pairwise_append:=@List.pairwise_append
theorem Bm:type_of% @List.cons_append:=@List.cons_append
theorem Bn:type_of% @List.drop_of_length_le:=@List.drop_of_length_le
theorem Bo:type_of% @Array.getElem?_eq_some_iff:=@Array.getElem?_eq_some_iff
theorem Bp:type_of% @List.mem_of_mem_take:=@List.mem_of_mem_take
theorem Bq:type_of% @List.mem_filter:=@List.mem_filter
theorem Br:type_of% @List.length_singleton:=@List.length_singleton
theorem Bs:type_of% @List.flatten_append:=@List.flatten_append
theorem Bt:type_of% @List.foldl_cons:=@List.foldl_cons
theorem Bu:type_of% @List.nil_append:=@List.nil_append
theorem Bv:type_of% @List.all_cons:=@List.all_cons
theorem Bw:type_of% @List.filter_sublist:=@List.filter_sublist
theorem Bx:type_of% @Nat.lt_or_ge:=@Nat.lt_or_ge
theorem By:type_of% @List.flatMap_cons:=@List.flatMap_cons
theorem Bz:type_of% @List.set_cons_succ:=@List.set_cons_succ
theorem C0:type_of% @Int.cast_ofNat_Int:=@Int.cast_ofNat_Int
theorem C1:type_of% @List.nodup_nil:=@List.nodup_nil
theorem C2:type_of% @List.nodup_cons:=@List.nodup_cons
theorem C3:type_of% @List.map_append:=@List.map_append
theorem C4:type_of% @Nat.div_lt_iff_lt_mul:=@Nat.div_lt_iff_lt_mul
theorem C5:type_of% @Nat.le_of_ble_eq_true:=@Nat.le_of_ble_eq_true
theorem C6:type_of% @Bool.false_or:=@Bool.false_or
theorem C7:type_of% @List.mem_of_mem_drop:=@List.mem_of_mem_drop
theorem C8:type_of% @List.getElem?_drop:=@List.getElem?_drop
theorem C9:type_of% @Bool.or_eq_true:=@Bool.or_eq_true
theorem Ca:type_of% @Nat.min_eq_left:=@Nat.min_eq_left
theorem Cb:type_of% @List.pairwise_cons:=@List.pairwise_cons
theorem Cc:type_of% @List.take_left':=@List.take_left'
theorem Cd:type_of% @List.any_eq_true:=@List.any_eq_true
theorem Ce:type_of% @List.append_assoc:=@List.append_assoc
theorem Cf:type_of% @List.pairwise_map:=@List.pairwise_map
theorem Cg:type_of% @Nat.le_of_eq:=@Nat.le_of_eq
theorem Ch:type_of% @List.set_cons_zero:=@List.set_cons_zero
theorem Ci:type_of% @Array.all_eq_true_iff_forall_mem:=@Array.all_eq_true_iff_forall_mem
theorem Cj:type_of% @List.mem_iff_getElem:=@List.mem_iff_getElem
theorem Ck:type_of% @List.drop_length:=@List.drop_length
theorem Cl:type_of% @Nat.not_succ_le_self:=@Nat.not_succ_le_self
theorem Cm:type_of% @List.exists_cons_of_ne_nil:=@List.exists_cons_of_ne_nil
theorem Cn:type_of% @List.takeWhile_append_dropWhile:=@List.takeWhile_append_dropWhile
theorem Co:type_of% @List.mem_range:=@List.mem_range
theorem Cp:type_of% @List.nodup_append:=@List.nodup_append
theorem Cq:type_of% @Array.length_toList:=@Array.length_toList
theorem Cr:type_of% @List.take_succ_cons:=@List.take_succ_cons
theorem Cs:type_of% @Nat.mod_lt:=@Nat.mod_lt
theorem Ct:type_of% @List.length_nil:=@List.length_nil
theorem Cu:type_of% @List.pairwise_iff_getElem:=@List.pairwise_iff_getElem
theorem Cw:type_of% @Bool.false_eq_true:=@Bool.false_eq_true
theorem Cx:type_of% @Nat.zero_mul:=@Nat.zero_mul
theorem Cy:type_of% @Nat.mod_eq_of_lt:=@Nat.mod_eq_of_lt
theorem Cz:type_of% @List.map_set:=@List.map_set
theorem D0:type_of% @List.getElem_map:=@List.getElem_map
theorem D1:type_of% @List.flatten_cons:=@List.flatten_cons
theorem D2:type_of% @List.foldl_append:=@List.foldl_append
theorem D3:type_of% @Nat.div_add_mod:=@Nat.div_add_mod
theorem D4:type_of% @List.filter_eq_self:=@List.filter_eq_self
theorem D5:type_of% @Nat.add_zero:=@Nat.add_zero
theorem D6:type_of% @List.takeWhile_cons_of_pos:=@List.takeWhile_cons_of_pos
theorem D7:type_of% @List.length_drop:=@List.length_drop
theorem D8:type_of% @List.filter_cons:=@List.filter_cons
theorem D9:type_of% @Nat.one_mul:=@Nat.one_mul
theorem Da:type_of% @List.getElem?_set_ne:=@List.getElem?_set_ne
theorem Db:type_of% @Bool.eq_iff_iff:=@Bool.eq_iff_iff
theorem Dc:type_of% @Bool.not_eq_true':=@Bool.not_eq_true'
theorem Dd:type_of% @List.take_add_one:=@List.take_add_one
theorem De:type_of% @List.getElem?_range:=@List.getElem?_range
theorem Df:type_of% @List.perm_middle:=@List.perm_middle
theorem Dg:type_of% @Nat.lt_of_lt_of_le:=@Nat.lt_of_lt_of_le
theorem Dh:type_of% @List.contains_cons:=@List.contains_cons
theorem Di:type_of% @Bool.true_or:=@Bool.true_or
theorem Dj:type_of% @List.all_nil:=@List.all_nil
theorem Dk:type_of% @List.getElem?_eq_none:=@List.getElem?_eq_none
theorem Dl:type_of% @Array.getElem?_append_left:=@Array.getElem?_append_left
theorem Dm:type_of% @Int.fdiv_eq_ediv_of_nonneg:=@Int.fdiv_eq_ediv_of_nonneg
theorem Dn:type_of% @Bool.and_true:=@Bool.and_true
theorem Do:type_of% @List.set_append_left:=@List.set_append_left
theorem Dp:type_of% @Bool.false_and:=@Bool.false_and
theorem Dq:type_of% @Nat.mul_comm:=@Nat.mul_comm
theorem Dr:type_of% @List.drop_succ_cons:=@List.drop_succ_cons
theorem Ds:type_of% @List.getElem_of_mem:=@List.getElem_of_mem
theorem Dt:type_of% @Int.eq_ofNat_of_zero_le:=@Int.eq_ofNat_of_zero_le
theorem Du:type_of% @List.getElem?_cons_succ:=@List.getElem?_cons_succ
theorem Dv:type_of% @Nat.add_assoc:=@Nat.add_assoc
theorem Dw:type_of% @List.zip_cons_cons:=@List.zip_cons_cons
theorem Dx:type_of% @Int.emod_lt_of_pos:=@Int.emod_lt_of_pos
theorem Dy:type_of% @List.filter_eq_nil_iff:=@List.filter_eq_nil_iff
theorem Dz:type_of% @Nat.add_comm:=@Nat.add_comm
theorem E0:type_of% @List.map_id':=@List.map_id'
theorem E1:type_of% @Int.le_refl:=@Int.le_refl
theorem E2:type_of% @UInt8.toNat_inj:=@UInt8.toNat_inj
theorem E3:type_of% @List.all_append:=@List.all_append
theorem E4:type_of% @Int.emod_nonneg:=@Int.emod_nonneg
end Go
namespace Go.Vx
open Go
inductive Tag where
 |ro
 |full
 |app (id:Nat)
 deriving DecidableEq
inductive V where
 |u
 |bool (b:Bool)
 |int (k:IntKind) (n:Int)
 |str (s:ahP)
 |raw (v:Value)
 |fJ
 |ptr (id off:Nat)
 |sl (g:Tag) (rows:List (List V))
 |n5 (cells:List V) (off:Nat)
 |fn (f:FuncId) (bY:List V)
 |agg (cells:List V)
 |cy (vs:List V)
 |cJ (id s n lo m:Nat)
 |iH (id s n k j:Nat)
 |jO (id s off n:Nat)
 |mp (id:Nat)
 |gJ (t:Nat) (vs:List V)
instance:Inhabited V:=⟨.u⟩
variable {U:Type}{J:Type}
def bP {U J:Type} (R:U->J->Prop):List U->List J->Prop
 | [],[]=>True
 |a::az,b::bs=>R a b/\bP R az bs
 |_,_=>False
theorem bP.length {R:U->J->Prop}: ∀{l:List U} {m:List J},bP R l m->l.length=m.length
 | [],[],_=>rfl
 |_::_,_::_,h=>by simp[bP.length h.2]
 | [],_::_,h=>h.elim
 |_::_,[],h=>h.elim
theorem bP.imp {R S:U->J->Prop} (aa: ∀a b,R a b->S a b): ∀{l:List U} {m:List J},bP R l m->bP S l m
 | [],[],_=>trivial
 |_::_,_::_,h=>⟨aa _ _ h.1,bP.imp aa h.2⟩
 | [],_::_,h=>h.elim
 |_::_,[],h=>h.elim
theorem bP.get {R:U->J->Prop}: ∀{l:List U} {m:List J} (i:Nat) (a:U),bP R l m->l[i]? =some a-> ∃b,m[i]? =some b/\R a b
 |a::_,b::_,0,_,h,e=>⟨b,rfl,by simp at e;exact e▸h.1⟩
 |_::_,_::_,i+1,_,h,e=>by
  obtain⟨b,hb,r⟩:=bP.get i _ h.2 (sU e)
  grind
 | [],[],_,_,_,e=>by grind
 | [],_::_,_,_,h,_=>h.elim
 |_::_,[],_,_,h,_=>h.elim
theorem bP.of {R:U->J->Prop}: ∀{l:List U} {m:List J},l.length=m.length->(∀(i:Nat) a b,l[i]? =some a->m[i]? =some b->R a b)->bP R l m
 | [],[],_,_=>trivial
 |a::l,b::m,hl,h=>⟨h 0 a b rfl rfl,bP.of (by grind) λi x y hx hy=>h (i+1) x y (by grind) (by grind)⟩
 | [],_::_,hl,_=>by grind
 |_::_,[],hl,_=>by grind
theorem bP.append {R:U->J->Prop}: ∀{l:List U} {m:List J} {l':List U} {m':List J},bP R l m->bP R l' m'->bP R (l++l') (m++m')
 | [],[],_,_,_,h'=>h'
 |_::_,_::_,_,_,h,h'=>⟨h.1,bP.append h.2 h'⟩
 | [],_::_,_,_,h,_=>h.elim
 |_::_,[],_,_,h,_=>h.elim
theorem bP.take {R:U->J->Prop}: ∀{l:List U} {m:List J} (n:Nat),bP R l m->bP R (l.take n) (m.take n)
 | [],[],n,_=>by grind
 |_::_,_::_,0,_=>trivial
 |_::_,_::_,n+1,h=>⟨h.1,bP.take n h.2⟩
 | [],_::_,_,h=>h.elim
 |_::_,[],_,h=>h.elim
theorem bP.drop {R:U->J->Prop}: ∀{l:List U} {m:List J} (n:Nat),bP R l m->bP R (l.drop n) (m.drop n)
 | [],[],n,_=>by grind
 |_::_,_::_,0,h=>h
 |_::_,_::_,n+1,h=>bP.drop n h.2
 | [],_::_,_,h=>h.elim
 |_::_,[],_,h=>h.elim
theorem Wp {i j n s:Nat} (hi:i<n) (hj:j<s):i*s+j<n*s:=by
 have h:(i+1)*s<=n*s:=Aj s hi
 grind
inductive cF (w:World) (L:Nat->Nat):V->Value->Prop
 |bool (b:Bool):cF w L (.bool b) (.bool b)
 |int (k:IntKind) (n:Int):cF w L (.int k n) (.int k n)
 |str (s:ahP):cF w L (.str s) (.string ⟨s.toArray⟩)
 |raw (v:Value) (h:v.oneCell'):cF w L (.raw v) v
 |fJ:cF w L .fJ (.pointer none)
 |jb (g:Tag) (a:Option Addr) (cap:Nat) (hg:g= .full->cap=0) (ha: ∀id,g≠ .app id):cF w L (.sl g []) (.slice a 0 cap)
 |sl (g:Tag) (rows:List (List V)) (s b o cap:Nat) (c:Nat->Nat->Value) (ha: ∀id,g≠ .app id)
   (hs:0<s) (hlen: ∀r∈rows,r.length=s) (fq:o+rows.length*s<=L b) (dg:rows.length<=cap) (hg:g= .full->cap=rows.length)
   (hc: ∀i j,i<rows.length->j<s->w.cell? ⟨b,o+i*s+j,none⟩=some (c i j))
   (hr: ∀i j (hi:i<rows.length) (hj:j<rows[i].length),cF w L (rows[i][j]) (c i j)):
   cF w L (.sl g rows) (.slice (some ⟨b,o,none⟩) rows.length cap)
structure Le (w:World) (L:Nat->Nat) (w':World) (L':Nat->Nat):Prop where
 lim: ∀b,L b<=L' b
 cell: ∀b o,o<L b->w'.cell? ⟨b,o,none⟩=w.cell? ⟨b,o,none⟩
theorem Le.refl (w:World) (L:Nat->Nat):Le w L w L:=⟨om,sm⟩
theorem Le.trans {w1 w2 w3:World} {L1 L2 L3:Nat->Nat} (h:Le w1 L1 w2 L2) (k:Le w2 L2 w3 L3):Le w1 L1 w3 L3:=
 ⟨λb=>B1 (h.lim b) (k.lim b),λb o ho=>(k.cell b o (Dg ho (h.lim b))).trans (h.cell b o ho)⟩
theorem cF.mono {w w':World} {L L':Nat->Nat} (h:Le w L w' L') {v:V} {x:Value} (r:cF w L v x):cF w' L' v x:=by
 induction r with
 |bool b=>exact .bool b
 |int k n=>exact .int k n
 |str s=>exact .str s
 |raw v hv=>exact .raw v hv
 |fJ=>exact .fJ
 |jb g a cap hg ha=>exact .jb g a cap hg ha
 |sl g rows s b o cap c ha hs hlen fq dg hg hc hr ih=>
  refine .sl g rows s b o cap c ha hs hlen (B1 fq (h.lim b)) dg hg (λi j hi hj=> ?_) ih
  rw[h.cell b _ (by have:=Wp hi hj;omega)]
  grind
theorem cF.dD {w:World} {L:Nat->Nat} {v:V} {x:Value} (r:cF w L v x):x.oneCell'=true:=by
 cases r<;>first|rfl|assumption
inductive Ob where
 |box (cells:List V)
 |app (n s:Nat)
 |cj (rows:List (List V)) (s:Nat)
 |dead
 |mp (dJ:List V) (fW:ahQ) (cS:Nat)
 |it (m:ahV) (since:Nat) (seen:ahQ) (last:Nat)
abbrev St:=List Ob
def gD (w:World) (L:Nat->Nat) (I:St) (J:ahR):V->Value->Prop
 | .u,x=>x.oneCell'=true
 | .ptr id off,x=> ∃b,J[id]? =some (.pointer (some ⟨b,0,none⟩))/\x= .pointer (some ⟨b,off,none⟩)
 | .sl (.app id) rows,x=>cF w L (.sl .ro rows) x/\ ∃n s,I[id]? =some (.app n s)/\rows.length<=n/\(rows.length=n->J[id]? =some x)/\(∀r∈rows,r.length=s)
 | .n5 cells off,x=> ∃(b o:Nat) (c:Nat->Value),x= .pointer (some ⟨b,o+off,none⟩)/\o+cells.length<=L b/\ ∀j (hj:j<cells.length),w.cell? ⟨b,o+j,none⟩=some (c j)/\cF w L cells[j] (c j)
 | .cJ id s n lo m,x=> ∃a cap,x= .slice a m cap/\(m<=cap/\n<=lo+cap)/\(0<cap-> ∃b o,a=some ⟨b,o,none⟩)/\
   (I[id]? =some .dead\/ ∃rows,I[id]? =some (.cj rows s)/\n<=rows.length/\(n=rows.length-> ∃b c0,J[id]? =some (.slice b n c0)/\cap=c0 - lo/\lo<=c0/\(lo<c0-> ∃k,b=some ⟨k,0,none⟩/\a=some ⟨k,lo*s,none⟩)))
 | .iH id s n k j,x=> ∃b o,x= .pointer (some ⟨b,o,none⟩)/\
   (I[id]? =some .dead\/ ∃rows,I[id]? =some (.cj rows s)/\n<=rows.length/\(n=rows.length->k<n-> ∃c0,J[id]? =some (.slice (some ⟨b,0,none⟩) n c0)/\o=k*s+j))
 | .jO id _ off n,x=> ∃b,J[id]? =some (.pointer (some ⟨b,0,none⟩))/\x= .slice (some ⟨b,off,none⟩) n n
 | .mp id,x=> ∃b,J[id]? =some (.pointer (some ⟨b,0,none⟩))/\x= .map (some b)
 | .fn _ _,_=>False
 | .agg _,_=>False
 | .cy _,_=>False
 | .gJ _ _,_=>False
 |v,x=>cF w L v x
def cW (w:World) (L:Nat->Nat) (I:St) (J:ahR):V->Value->Prop
 | .fn f bY,x=> ∃xs:ahR,x= .func (.func f) #[] xs.toArray/\bP (gD w L I J) bY xs
 | .gJ t vs,x=> ∃y,x= .iface t y/\bP (gD w L I J) vs [y]
 |v,x=>gD w L I J v x
def dW (w:World) (L:Nat->Nat) (I:St) (J:ahR):V->Value->Prop
 | .agg cs,x=> ∃xs:ahR,x= .agg xs.toArray/\bP (cW w L I J) cs xs
 |v,x=>cW w L I J v x
def dt (w:World) (L:Nat->Nat) (I:St) (J:ahR):V->Value->Prop
 | .u,_=>True
 | .cy vs,x=> ∃xs:ahR,x= .tuple xs.toArray/\bP (dW w L I J) vs xs
 |v,x=>dW w L I J v x
structure Ext (I:St) (J:ahR) (I':St) (J':ahR):Prop where
 ptr: ∀(id:Nat) a,J[id]? =some (.pointer a)->J'[id]? =some (.pointer a)
 app: ∀(id:Nat) n s,I[id]? =some (.app n s)-> ∃n',I'[id]? =some (.app n' s)/\n<=n'/\(n'=n->J'[id]? =J[id]?)
 cj: ∀(id:Nat) rows s,I[id]? =some (.cj rows s)->I'[id]? =some .dead\/ ∃ee,I'[id]? =some (.cj ee s)/\rows.length<=ee.length/\(ee.length=rows.length->J'[id]? =J[id]?)
 dead: ∀(id:Nat),I[id]? =some .dead->I'[id]? =some .dead
theorem Ext.refl (I:St) (J:ahR):Ext I J I J:=⟨sm,(by grind),(by grind),λ_ h=>h⟩
theorem Ext.trans {I1 I2 I3:St} {J1 J2 J3:ahR} (h:Ext I1 J1 I2 J2) (k:Ext I2 J2 I3 J3):Ext I1 J1 I3 J3:=by
 refine⟨λid a e=>k.ptr id a (h.ptr id a e),λid n s e=> ?_,λid rows s e=> ?_,λid e=>k.dead id (h.dead id e)⟩
 .obtain⟨n2,e2,l2,p2⟩:=h.app id n s e
  obtain⟨n3,e3,l3,p3⟩:=k.app id n2 s e2
  grind
 .rcases h.cj id rows s e with e2|⟨r2,e2,l2,p2⟩
  .exact .inl (k.dead id e2)
  .rcases k.cj id r2 s e2 with e3|⟨r3,e3,l3,p3⟩
   all_goals grind
section
variable {w w':World} {L L':Nat->Nat} {I I':St} {J J':ahR}
variable {x:Value}
theorem gD.mono (h:Le w L w' L') (k:Ext I J I' J') {v:V} (r:gD w L I J v x):gD w' L' I' J' v x:=by
 cases v with
 |u=>exact r
 |ptr id off=>obtain⟨b,hb,hx⟩:=r;exact⟨b,k.ptr _ _ hb,hx⟩
 |sl g rows=>
  cases g with
  |app id=>
   obtain⟨hr,n,s,cG,hle,db,hl⟩:=r
   obtain⟨n',aa,hn,ab⟩:=k.app id n s cG
   refine⟨hr.mono h,n',s,aa,om,λe=> ?_,hl⟩
   grind
  |ro=>exact cF.mono h r
  |full=>exact cF.mono h r
 |n5 cells off=>
  obtain⟨b,o,c,hx,hl,hc⟩:=r
  refine⟨b,o,c,hx,B1 hl (h.lim b),λj hj=> ?_⟩
  obtain⟨h1,h2⟩:=hc j hj
  exact⟨by rw[h.cell b _ om];exact h1,h2.mono h⟩
 |cJ id s n lo m=>
  obtain⟨a,cap,hx,hm,ha,hc⟩:=r
  refine⟨a,cap,hx,hm,ha, ?_⟩
  rcases hc with hd|⟨rows,cG,hn,hb⟩
  .exact .inl (k.dead id hd)
  .rcases k.cj id rows s cG with hd|⟨r2,e2,l2,p2⟩
   all_goals grind
 |iH id s n i j=>
  obtain⟨b,o,hx,hc⟩:=r
  refine⟨b,o,hx, ?_⟩
  rcases hc with hd|⟨rows,cG,hn,hb⟩
  .exact .inl (k.dead id hd)
  .rcases k.cj id rows s cG with hd|⟨r2,e2,l2,p2⟩
   all_goals grind
 |jO id s off n=>obtain⟨b,hb,hx⟩:=r;exact⟨b,k.ptr _ _ hb,hx⟩
 |mp id=>obtain⟨b,hb,hx⟩:=r;exact⟨b,k.ptr _ _ hb,hx⟩
 |fn f bY=>exact r
 |gJ t v=>exact r
 |agg cs=>exact r
 |cy vs=>exact r
 |bool b=>exact cF.mono h r
 |int k n=>exact cF.mono h r
 |str s=>exact cF.mono h r
 |raw v=>exact cF.mono h r
 |fJ=>exact cF.mono h r
theorem cW.mono (h:Le w L w' L') (k:Ext I J I' J') {v:V} (r:cW w L I J v x):cW w' L' I' J' v x:=by
 cases v with
 |fn f bY=>obtain⟨xs,hx,hc⟩:=r;exact⟨xs,hx,hc.imp (by grind[gD.mono])⟩
 |gJ t v=>obtain⟨y,hx,hc⟩:=r;exact⟨y,hx,hc.imp (by grind[gD.mono])⟩
 |_=>simp only[cW]at r⊢;exact gD.mono h k r
theorem dW.mono (h:Le w L w' L') (k:Ext I J I' J') {v:V} (r:dW w L I J v x):dW w' L' I' J' v x:=by
 cases v with
 |agg cs=>obtain⟨xs,hx,hc⟩:=r;exact⟨xs,hx,hc.imp (by grind[cW.mono])⟩
 |_=>simp only[dW]at r⊢;exact cW.mono h k r
theorem dt.mono (h:Le w L w' L') (k:Ext I J I' J') {v:V} (r:dt w L I J v x):dt w' L' I' J' v x:=by
 cases v with
 |u=>trivial
 |cy vs=>obtain⟨xs,hx,hc⟩:=r;exact⟨xs,hx,hc.imp (by grind[dW.mono])⟩
 |_=>simp only[dt]at r⊢;exact dW.mono h k r
theorem gD.dD {v:V} (r:gD w L I J v x):x.oneCell'=true:=by
 cases v with
 |u=>exact r
 |ptr id off=>obtain⟨b,_,rfl⟩:=r;rfl
 |sl g rows=>cases g with
  |app id=>exact r.1.dD
  |ro=>exact cF.dD r
  |full=>exact cF.dD r
 |n5 cells off=>obtain⟨b,o,c,rfl,_⟩:=r;rfl
 |cJ id s n lo m=>obtain⟨a,cap,rfl,_⟩:=r;rfl
 |iH id s n k j=>obtain⟨b,o,rfl,_⟩:=r;rfl
 |jO id s off n=>obtain⟨b,_,rfl⟩:=r;rfl
 |mp id=>obtain⟨b,_,rfl⟩:=r;rfl
 |fn f bY=>trivial
 |gJ t v=>trivial
 |agg cs=>trivial
 |cy vs=>trivial
 |_=>simp only[gD]at r;exact cF.dD r
theorem cW.dD {v:V} (r:cW w L I J v x):x.oneCell'=true:=by
 cases v with
 |fn f bY=>obtain⟨xs,rfl,_⟩:=r;rfl
 |gJ t v=>obtain⟨y,rfl,_⟩:=r;rfl
 |_=>simp only[cW]at r;exact gD.dD r
theorem cW.dm {v:V} (r:cF w L v x):cW w L I J v x:=by
 cases r with
 |jb g a cap hg ha=>cases g with
  |app id=>grind
  |ro=>exact .jb _ a cap hg ha
  |full=>exact .jb _ a cap hg ha
 |sl g rows s b o cap c ha hs hlen fq dg hg hc hr=>cases g with
  |app id=>grind
  |ro=>exact .sl _ rows s b o cap c ha hs hlen fq dg hg hc hr
  |full=>exact .sl _ rows s b o cap c ha hs hlen fq dg hg hc hr
 |bool b=>exact cF.bool b
 |int k n=>exact cF.int k n
 |str s=>exact cF.str s
 |raw _ hv=>exact cF.raw _ hv
 |fJ=>exact cF.fJ
theorem dW.dH {v:V} (r:cW w L I J v x):dW w L I J v x:=by
 cases v<;>first|exact r|(simp only[dW];exact r)|exact r.elim
theorem dt.dH {v:V} (r:cW w L I J v x):dt w L I J v x:=by
 cases v<;>first|exact r|exact r.elim|trivial
theorem dt.kS {v:V} (r:dW w L I J v x):dt w L I J v x:=by
 cases v<;>first|exact r|exact r.elim|trivial
end
theorem eX {U:Sort _} (a:U): ∃b,a=b:=⟨a,rfl⟩
def fr:List (Nat×List V):= []
def rM:List (Nat×IntKind):= [(0,.i64)]
abbrev Env:=Nat->V
def fm (e:Env) (d:Nat) (v:V):Env:=λt=>if t=d then v else e t
def n9:Env:=λ_=> .u
structure Ctx where
 w0:World
 L0:Nat->Nat
 X0:ahQ
 cv:St
 β0:ahR
def cU:Ob->Value->ahV
 | .box _,.pointer (some a)=>some a.block
 | .app n _,.slice (some a) _ cap=>if n<cap then some a.block else none
 | .cj _ _,.slice (some a) _ cap=>if 0<cap then some a.block else none
 | .mp _ _ _,.pointer (some a)=>some a.block
 | .it _ _ _ _,.pointer (some a)=>some a.block
 |_,_=>none
def qU (arr:ahT) (fz:Nat×Nat):Prop:= ∀o,o<arr.size-> ¬(fz.1<=o/\o<fz.2)
def ft (s:Nat) (arr:ahT) (fz:Nat×Nat):Prop:=qU arr fz/\(s=1\/ ¬(fz.1<=arr.size/\arr.size<fz.2))
def o9 (es:Array MapEntry):ahR:=es.toList.flatMap λe=> [e.key,e.val]
theorem O9 (s:Nat) (arr:ahT):ft s arr (0,0):=⟨λq _ hq=>om,om⟩
theorem ft.size {s:Nat} {arr aa:ahT} {fz:Nat×Nat} (h:ft s arr fz) (e:aa.size=arr.size):ft s aa fz:=⟨λq hq=>h.1 q om,by rw[e];exact h.2⟩
def gK (w:World) (L:Nat->Nat) (I:St) (J:ahR):Ob->Value->Prop
 | .box cells,x=> ∃b arr T fz,x= .pointer (some ⟨b,0,none⟩)/\w.heap[b]? =some (.cells arr T fz)/\qU arr fz/\L b=0/\bP (cW w L I J) cells arr.toList
 | .app n s,x=> ∃a cap,x= .slice a n cap/\n<=cap/\0<s/\(n<cap-> ∃b o arr T fz,a=some ⟨b,o,none⟩/\w.heap[b]? =some (.cells arr T fz)/\qU arr fz/\o+cap*s<=arr.size/\L b=o+n*s)
 | .cj rows s,x=> ∃a cap,x= .slice a rows.length cap/\rows.length<=cap/\0<s/\(∀r∈rows,r.length=s)/\
   (0<cap-> ∃b arr T fz,a=some ⟨b,0,none⟩/\w.heap[b]? =some (.cells arr T fz)/\ft s arr fz/\cap*s<=arr.size/\L b=0/\bP (cW w L I J) rows.flatten (arr.toList.take (rows.length*s)))
 | .dead,_=>True
 | .mp dJ fW cS,x=> ∃b es,x= .pointer (some ⟨b,0,none⟩)/\w.heap[b]? =some (.map es cS)/\L b=0/\bP (dW w L I J) dJ (o9 es)/\es.toList.map (·.born)=fW
 | .it m since seen last,x=> ∃b mo,x= .pointer (some ⟨b,0,none⟩)/\w.heap[b]? =some (.mapIter mo since seen.toArray last)/\L b=0/\
   (match m with|none=>mo=none|some id=> ∃r,J[id]? =some (.pointer (some ⟨r,0,none⟩))/\mo=some r)
def Wq (w:World) (L:Nat->Nat) (g:Nat) (cells:List V):Prop:=cells.length<=L g/\ ∃c:Nat->Value,∀j (hj:j<cells.length),w.cell? ⟨g,j,none⟩=some (c j)/\cF w L cells[j] (c j)
structure gX (w:World) (L:Nat->Nat):Prop where
 jn: ∀p∈fr,Wq w L p.1 p.2
 num: ∀p∈rM,1<=L p.1/\ ∃m,w.cell? ⟨p.1,0,none⟩=some (.int p.2 m)
theorem gX.mono {w w':World} {L L':Nat->Nat} (h:Le w L w' L') (r:gX w L):gX w' L':=by
 refine⟨λp hp=>(by trivial),λp hp=> ?_⟩
 obtain⟨h1,m,h2⟩:=r.num p hp
 exact⟨B1 h1 (h.lim _),m,by rw[h.cell _ 0 om];exact h2⟩
structure Mem (c:Ctx) (w:World) (L:Nat->Nat) (I:St) (J:ahR):Prop where
 len:J.length=I.length
 dd: ∀(i:Nat) o x,I[i]? =some o->J[i]? =some x->gK w L I J o x
 apart: ∀(i j:Nat) o o' x x' b,i≠j->I[i]? =some o->J[i]? =some x->I[j]? =some o'->J[j]? =some x'->cU o x=some b->cU o' x'≠some b
 fN: ∀(i:Nat) o x b,I[i]? =some o->J[i]? =some x->cU o x=some b->c.w0.heap.size<=b\/b∈c.X0
 same: ∀b,b<c.w0.heap.size->b∉c.X0->w.heap[b]? =c.w0.heap[b]? /\L b=c.L0 b
 le:Le c.w0 c.L0 w L
 size:c.w0.heap.size<=w.heap.size
 os:w.os=c.w0.os
 tape:w.tape=c.w0.tape
 output:w.output=c.w0.output
 drawn:c.w0.drawn<=w.drawn
 lim: ∀b,w.heap.size<=b->L b=0
 ext:Ext c.cv c.β0 I J
 jn:gX c.w0 c.L0
theorem gK.step {w w':World} {L L':Nat->Nat} {I I':St} {J J':ahR} {o:Ob} {x:Value} (h:Le w L w' L') (k:Ext I J I' J')
  (hb: ∀b,cU o x=some b->w'.heap[b]? =w.heap[b]? /\L' b=L b) (r:gK w L I J o x):gK w' L' I' J' o x:=by
 cases o with
 |box cells=>
  obtain⟨b,arr,T,fz,rfl,hh,hf,hl,hc⟩:=r
  obtain⟨e1,e2⟩:=hb b rfl
  exact⟨b,arr,T,fz,rfl,e1.trans hh,hf,e2.trans hl,hc.imp (by grind[cW.mono])⟩
 |app n s=>
  obtain⟨a,cap,rfl,hn,hs,hx⟩:=r
  refine⟨a,cap,rfl,hn,hs,λaa=> ?_⟩
  obtain⟨b,o,arr,T,fz,rfl,hh,hf,ab,hl⟩:=hx aa
  obtain⟨e1,e2⟩:=hb b (by simp[cU,aa])
  grind
 |cj rows s=>
  obtain⟨a,cap,rfl,hn,hs,hu,hx⟩:=r
  refine⟨a,cap,rfl,hn,hs,hu,λaa=> ?_⟩
  obtain⟨b,arr,T,fz,rfl,hh,hf,ab,hl,hc⟩:=hx aa
  obtain⟨e1,e2⟩:=hb b (by simp[cU,aa])
  exact⟨b,arr,T,fz,rfl,e1.trans hh,hf,ab,e2.trans hl,hc.imp (by grind[cW.mono])⟩
 |dead=>trivial
 |mp dJ fW cS=>
  obtain⟨b,es,rfl,hh,hl,hc,ad⟩:=r
  obtain⟨e1,e2⟩:=hb b rfl
  exact⟨b,es,rfl,e1.trans hh,e2.trans hl,hc.imp (by grind[dW.mono]),ad⟩
 |it m since seen last=>
  obtain⟨b,mo,rfl,hh,hl,hc⟩:=r
  obtain⟨e1,e2⟩:=hb b rfl
  refine⟨b,mo,rfl,e1.trans hh,e2.trans hl, ?_⟩
  cases m with
  |none=>exact hc
  |some id=>obtain⟨q,hq,hm⟩:=hc;exact⟨q,k.ptr _ _ hq,hm⟩
theorem gK.eK {w:World} {L:Nat->Nat} {I:St} {J:ahR} {o:Ob} {x:Value} {b:Nat} (r:gK w L I J o x) (h:cU o x=some b):b<w.heap.size:=by
 cases o with
 |box cells=>
  obtain⟨b',arr,T,fz,rfl,hh,_⟩:=r
  grind[cU]
 |app n s=>
  obtain⟨a,cap,rfl,hn,hs,hx⟩:=r
  cases a<;>grind[cU]
 |cj rows s=>
  obtain⟨a,cap,rfl,hn,hs,hu,hx⟩:=r
  cases a<;>grind[cU]
 |dead=>trivial
 |mp dJ fW cS=>
  obtain⟨b',es,rfl,hh,_⟩:=r
  grind[cU]
 |it m since seen last=>
  obtain⟨b',mo,rfl,hh,_⟩:=r
  grind[cU]
section
variable {c:Ctx} {w:World} {L:Nat->Nat} {I:St} {J:ahR}
variable {i:Nat}{U:Type}{cells:List V}
theorem Mem.drew (h:Mem c w L I J):Mem c w.drew L I J/\Le w L w.drew L:=by
 have hle:Le w L w.drew L:=⟨om,sm⟩
 refine⟨⟨h.len,λi o x hi hx=>(h.dd i o x hi hx).step hle (Ext.refl _ _) λb hb=>(by trivial),h.apart,h.fN,h.same,h.le.trans hle,h.size,h.os,h.tape,h.output,Nat.le_succ_of_le h.drawn,h.lim,h.ext,h.jn⟩,hle⟩
def xK (L:Nat->Nat) (b n:Nat):Nat->Nat:=λk=>if k=b then n else L k
theorem yJ (w:World) (o:Go.Obj):(w.alloc o).heap[w.heap.size]? =some o:=by
 show(w.heap.push o)[w.heap.size]? =_
 simp
theorem F0 (w:World) (o:Go.Obj) {k:Nat} (h:k<w.heap.size):(w.alloc o).heap[k]? =w.heap[k]? :=by
 show(w.heap.push o)[k]? =_
 grind
theorem AF {w w':World} {b:Nat} (h:w'.heap[b]? =w.heap[b]?) (o:Nat):w'.cell? ⟨b,o,none⟩=w.cell? ⟨b,o,none⟩:=by
 grind[World.cell?]
theorem Mem.alloc (h:Mem c w L I J) (o:Go.Obj) (m:Nat):Mem c (w.alloc o) (xK L w.heap.size m) I J/\Le w L (w.alloc o) (xK L w.heap.size m):=by
 have hL: ∀b,b<w.heap.size->xK L w.heap.size m b=L b:=(by grind[xK])
 have hle:Le w L (w.alloc o) (xK L w.heap.size m):=by
  refine⟨λb=> ?_,λb off ho=> ?_⟩
  .by_cases hb:b=w.heap.size
   .subst hb;rw[h.lim _ om];omega
   grind[xK]
  .have hb:b<w.heap.size:=by
    rcases Bx b w.heap.size with hb|hb
    .exact hb
    .rw[h.lim b hb]at ho;omega
   grind[AF,F0]
 refine⟨⟨h.len,λi ob x hi hx=>(h.dd i ob x hi hx).step hle (Ext.refl _ _) λb hb=> ?_,h.apart,h.fN,λb hb hx=> ?_,h.le.trans hle, ?_,h.os,h.tape,h.output,h.drawn,λb hb=> ?_,h.ext,h.jn⟩,hle⟩
 .have aa:=(h.dd i ob x hi hx).eK hb
  grind[F0]
 .have aa:b<w.heap.size:=Dg hb h.size
  rw[F0 w o aa,hL b aa]
  exact h.same b hb hx
 .simp;have:=h.size;omega
 .simp at hb
  simp[xK]
  rw[ahf om]
  exact h.lim b om
theorem Ext.push (I:St) (J:ahR) (hl:J.length=I.length) (o:Ob) (x:Value):Ext I J (I++ [o]) (J++ [x]):=by
 refine⟨(by grind),(by grind),(by grind),(by grind)⟩
 all_goals grind
theorem xG {l:List U} {a b:U} (h:(l++ [a])[i]? =some b):(i<l.length/\l[i]? =some b)\/(i=l.length/\b=a):=by
 grind
theorem Mem.push (h:Mem c w L I J) (o:Ob) (x:Value) (ho:gK w L (I++ [o]) (J++ [x]) o x)
  (ak: ∀(i:Nat) o' x' b,I[i]? =some o'->J[i]? =some x'->cU o' x'=some b->cU o x≠some b)
  (hm: ∀b,cU o x=some b->c.w0.heap.size<=b\/b∈c.X0):Mem c w L (I++ [o]) (J++ [x]):=by
 have ad:=Ext.push I J h.len o x
 refine⟨by simp[h.len],λi o' x' hi hx=> ?_,λi j o1 o2 x1 x2 b ah hi ae hj ab hb=> ?_,λi o' x' b hi hx hb=> ?_,h.same,h.le,h.size,h.os,h.tape,h.output,h.drawn,h.lim,h.ext.trans ad,h.jn⟩
 .rcases xG hi with ⟨hl,hi⟩|⟨hl,rfl⟩
  .rcases xG hx with ⟨_,hx⟩|⟨aa,_⟩
   .exact(h.dd i o' x' hi hx).step (Le.refl _ _) ad sm
   .rw[h.len]at aa;omega
  .rcases xG hx with ⟨aa,hx⟩|⟨_,rfl⟩
   .rw[h.len]at aa;omega
   omega
 .rcases xG hi with ⟨hl,ai⟩|⟨hl,rfl⟩
  .rcases xG ae with ⟨_,af⟩|⟨aa,_⟩
   .rcases xG hj with ⟨aj,hj⟩|⟨aj,rfl⟩
    .rcases xG ab with ⟨_,ab⟩|⟨aa,_⟩
     .exact h.apart i j o1 o2 x1 x2 b ah ai af hj ab hb
     .rw[h.len]at aa;omega
    .rcases xG ab with ⟨aa,_⟩|⟨_,rfl⟩
     .rw[h.len]at aa;omega
     grind
   .rw[h.len]at aa;omega
  .rcases xG ae with ⟨aa,_⟩|⟨_,rfl⟩
   .rw[h.len]at aa;omega
   grind
 .rcases xG hi with ⟨hl,hi⟩|⟨hl,rfl⟩
  .rcases xG hx with ⟨_,hx⟩|⟨aa,_⟩
   .exact h.fN i o' x' b hi hx hb
   .rw[h.len]at aa;omega
  .rcases xG hx with ⟨aa,_⟩|⟨_,rfl⟩
   .rw[h.len]at aa;omega
   grind
theorem Mem.box (h:Mem c w L I J) (cells:List V) (arr:ahT) (T:TypeId) (hc:bP (cW w L I J) cells arr.toList):
  Mem c (w.alloc (.cells arr T)) L (I++ [.box cells]) (J++ [.pointer (some ⟨w.heap.size,0,none⟩)])/\Le w L (w.alloc (.cells arr T)) L:=by
 have h1:=h.alloc (.cells arr T) 0
 have hL:xK L w.heap.size 0=L:=by
  funext k
  by_cases hk:k=w.heap.size
  .subst hk;simp[xK,h.lim _ (A7 _)]
  grind[xK]
 rw[hL]at h1
 refine⟨h1.1.push _ _ ⟨w.heap.size,arr,T,(0,0),rfl,yJ _ _,λo _ h=>om,h.lim _ om,hc.imp λ_ _=>cW.mono h1.2 (Ext.push I J h.len _ _)⟩ ?_ ?_,h1.2⟩
 .intro i o' x' b hi hx hb e
  have:=(h.dd i o' x' hi hx).eK hb
  grind[cU]
 .intro b hb
  simp[cU]at hb
  subst hb
  exact .inl h.size
def yB (w:World) (b:Nat) (o:Go.Obj):World:={w with heap:=w.heap.setIfInBounds b o}
theorem xH (w:World) (b:Nat) (o:Go.Obj) (hb:b<w.heap.size):(yB w b o).heap[b]? =some o:=by
 grind[yB]
theorem tR (w:World) (b k:Nat) (o:Go.Obj) (hk:k≠b):(yB w b o).heap[k]? =w.heap[k]? :=by
 grind[yB]
def yC (arr:ahT) (k:Nat):ahR->ahT
 | []=>arr
 |v::vs=>yC (arr.setIfInBounds k v) (k+1) vs
theorem yH: ∀(vs:ahR) (arr:ahT) (k:Nat),(yC arr k vs).size=arr.size
 | [],_,_=>rfl
 |v::vs,arr,k=>by simp[yC,yH vs]
theorem wM: ∀(vs:ahR) (arr:ahT) (k:Nat) (i:Nat),k+vs.length<=arr.size->(yC arr k vs)[i]? =if k<=i/\i<k+vs.length then vs[i - k]? else arr[i]?
 | [],arr,k,i,_=>by grind[yC]
 |v::vs,arr,k,i,h=>by
  simp only[Ak]at h⊢
  rw[yC,wM vs _ _ _ (by simp;omega)]
  grind
theorem Ws (w:World) (b off:Nat) (v:Value) (cur:ahT) (T:TypeId) (fz:Nat×Nat) (hb:w.heap[b]? =some (.cells cur T fz)):
  w.setCell ⟨b,off,none⟩ v=yB w b (.cells (cur.setIfInBounds off v) T fz):=by
 obtain⟨aa,hv⟩:=Bo.1 hb
 unfold World.setCell yB
 congr 1
 grind
theorem Wt (w:World) (b:Nat) (o o':Go.Obj):yB (yB w b o) b o'=yB w b o':=by
 simp[yB]
theorem Wu (w:World) (b:Nat) (o:Go.Obj) (hb:w.heap[b]? =some o):yB w b o=w:=by
 obtain⟨aa,hv⟩:=Bo.1 hb
 unfold yB
 have:w.heap.setIfInBounds b o=w.heap:=by
  grind
 simp_all
theorem wC (b o n:Nat):Addr.add ⟨b,o,none⟩ n=⟨b,o+n,none⟩:=by
 unfold Addr.add
 simp
theorem xN (P:Program) (b o:Nat) (T:TypeId) (fz:Nat×Nat): ∀(vs:ahR) (i:Nat) (cur:ahT) (w:World),w.heap[b]? =some (.cells cur T fz)->qU cur fz->o+i+vs.length<=cur.size->(∀v∈vs,v.oneCell'=true)->
  (storeCells ⟨b,o,none⟩ vs i).run P w= .ok () (yB w b (.cells (yC cur (o+i) vs) T fz))
 | [],i,cur,w,hb,_,_,_=>by
  rw[storeCells,yC,Wu _ _ _ hb];rfl
 |v::vs,i,cur,w,hb,hu,hl,hv=>by
  simp only[Ak]at hl
  have hc:w.cell? ⟨b,o+i,none⟩=some (cur[o+i]'om):=by grind[World.cell?]
  have hf:w.frozen? ⟨b,o+i,none⟩=false:=by
   have:=hu (o+i) om
   grind[World.frozen?]
  obtain⟨aa,_⟩:=Bo.1 hb
  rw[storeCells]
  simp only[Sem.run_bind,wC]
  rw[run_store P w ⟨b,o+i,none⟩ v .plain (hv v sm)]
  simp only[hc,hf,ahx,Cw,Result.andThen_ok]
  rw[Ws w b (o+i) v cur T fz hb]
  have ih:=xN P b o T fz vs (i+1) (cur.setIfInBounds (o+i) v) (yB w b (.cells (cur.setIfInBounds (o+i) v) T fz)) (xH _ _ _ aa)
   (λk hk=>hu k (by grind)) (by grind) (by grind)
  rw[ih,Wt]
  rfl
theorem oc {l:List U} {j:Nat} {a b:U} (h:(l.set i a)[j]? =some b):(j=i/\b=a/\i<l.length)\/(j≠i/\l[j]? =some b):=by
 grind
theorem Mem.fm (h:Mem c w L I J) {w':World} {L':Nat->Nat} (i:Nat) (o:Ob) (x:Value)
  (hle:Le w L w' L') (ab:Ext I J (I.set i o) (J.set i x))
  (D:Nat->Prop) (hD: ∀(j:Nat) o' x' b,j≠i->I[j]? =some o'->J[j]? =some x'->cU o' x'=some b-> ¬D b)
  (ay: ∀b,D b->c.w0.heap.size<=b\/b∈c.X0)
  (af: ∀b,¬D b->w'.heap[b]? =w.heap[b]? /\L' b=L b)
  (al:w'.heap.size=w.heap.size) (an:w'.os=w.os) (ad:w'.tape=w.tape) (ah:w'.output=w.output)
  (fq: ∀b,w.heap.size<=b->L' b=0)
  (cN:gK w' L' (I.set i o) (J.set i x) o x) (hex: ∀b,cU o x=some b->D b) (ao:w.drawn<=w'.drawn:=by exact A7 _):Mem c w' L' (I.set i o) (J.set i x):=by
 refine⟨by simp[h.len],λj o' x' hj hx=> ?_,λj k o1 o2 x1 x2 b aq hj ar hk au hb=> ?_,λj o' x' b hj hx hb=> ?_,λb hb hx=> ?_,h.le.trans hle,by rw[al];exact h.size,an.trans h.os,ad.trans h.tape,ah.trans h.output,B1 h.drawn ao,(by grind),h.ext.trans ab,h.jn⟩
 .rcases oc hj with ⟨rfl,rfl,hl⟩|⟨ai,aa⟩
  .grind
  .rcases oc hx with ⟨e,_,_⟩|⟨_,ae⟩
   .omega
   .exact(h.dd j o' x' aa ae).step hle ab (by grind)
 .rcases oc hj with ⟨rfl,rfl,hl⟩|⟨ai,aa⟩
  .grind
  .rcases oc ar with ⟨e,_,_⟩|⟨_,aj⟩
   .omega
   .rcases oc hk with ⟨rfl,rfl,_⟩|⟨ax,av⟩
    .grind
    .rcases oc au with ⟨e,_,_⟩|⟨_,ak⟩
     .omega
     .exact h.apart j k o1 o2 x1 x2 b aq aa aj av ak hb
 .rcases oc hj with ⟨rfl,rfl,hl⟩|⟨ai,aa⟩
  .grind
  .rcases oc hx with ⟨e,_,_⟩|⟨_,ae⟩
   .omega
   .exact h.fN j o' x' b aa ae hb
 .have aw: ¬D b:=(by grind)
  obtain⟨e1,e2⟩:=af b aw
  obtain⟨e3,e4⟩:=h.same b hb hx
  grind
theorem Ext.jt (hi:I[i]? =some (Ob.box cells)) (aa:List V):Ext I J (I.set i (.box aa)) J:=by
 refine⟨sm,(by grind),(by grind),(by grind)⟩
 all_goals grind
def putCells (cells:List V) (off:Nat) (vs:List V):List V:=cells.take off++vs++cells.drop (off+vs.length)
theorem yM (l:List U) (i:Nat) (a:U) (h:l[i]? =some a):l.set i a=l:=by
 apply Bg
 grind
theorem Wv (cells vs:List V) (off i:Nat) (h:off+vs.length<=cells.length):(putCells cells off vs)[i]? =if off<=i/\i<off+vs.length then vs[i - off]? else cells[i]? :=by
 unfold putCells
 have ht:(cells.take off).length=off:=by grind
 grind
theorem Pa (cells vs:List V) (off:Nat) (h:off+vs.length<=cells.length):(putCells cells off vs).length=cells.length:=by
 grind[putCells]
theorem Pb {R:V->Value->Prop} {vs:List V} {arr:ahT} {xs:ahR} {off:Nat} (h:bP R cells arr.toList) (hv:bP R vs xs) (hl:off+vs.length<=cells.length):
  bP R (putCells cells off vs) (yC arr off xs).toList:=by
 have e1:=h.length
 have e2:=hv.length
 simp at e1
 refine bP.of (by grind[Pa,yH]) λi a b ha hb=> ?_
 rw[Wv _ _ _ _ hl]at ha
 rw[Ao,wM _ _ _ _ om,<-e2]at hb
 by_cases hc:off<=i/\i<off+vs.length
 .rw[ahg hc]at ha hb
  obtain⟨y,hy,r⟩:=hv.get _ _ ha
  grind
 .rw[ahf hc]at ha hb
  obtain⟨y,hy,r⟩:=h.get _ _ ha
  grind
theorem Mem.jt (h:Mem c w L I J) {vs:List V} {xs:ahR} {off b:Nat} (hi:I[i]? =some (.box cells)) (db:J[i]? =some (.pointer (some ⟨b,0,none⟩)))
  (hv:bP (cW w L I J) vs xs) (hl:off+vs.length<=cells.length):
  ∃arr T fz,w.heap[b]? =some (.cells arr T fz)/\qU arr fz/\arr.size=cells.length/\
   Mem c (yB w b (.cells (yC arr off xs) T fz)) L (I.set i (.box (putCells cells off vs))) J/\Le w L (yB w b (.cells (yC arr off xs) T fz)) L:=by
 have cN:=h.dd i _ _ hi db
 obtain⟨b',arr,T,fz,e,hh,hf,h0,hc⟩:=cN
 cases e
 have ab:b<w.heap.size:=(by grind)
 have hle:Le w L (yB w b (.cells (yC arr off xs) T fz)) L:=by
  refine⟨om,λk o ho=>AF (tR w b k _ λq=> ?_) o⟩
  grind
 refine⟨arr,T,fz,hh,hf,by have:=hc.length;grind, ?_,hle⟩
 have aa:=yM J i _ db
 have af:Ext I J (I.set i (.box (putCells cells off vs))) J:=Ext.jt hi _
 have key:=h.fm (w':=yB w b (.cells (yC arr off xs) T fz)) (L':=L) i (.box (putCells cells off vs)) (.pointer (some ⟨b,0,none⟩)) hle (by grind) (λk=>k=b)
  (λj o' x' k hj ad ae hk e=>by subst e;exact h.apart j i o' _ x' _ k hj ad ae hi db hk rfl)
  (λk e=>by subst e;exact h.fN i _ _ k hi db rfl)
  (λk hk=>⟨tR w b k _ hk,rfl⟩) (by simp[yB]) rfl rfl rfl h.lim ?_ (by grind[cU])
 .grind
 .rw[aa]
  refine⟨b,_,T,fz,rfl,xH _ _ _ ab,λo ho=>hf o (by grind[yH]),h0, ?_⟩
  exact(Pb hc hv hl).imp (by grind[cW.mono])
end
variable {w:World}{L:Nat->Nat}{g:Tag}{x:Value}
def eI (s:Nat) (rows:List (List V)):Prop:= ∀r∈rows,r.length=s
theorem yA {U:Type} {s:Nat}: ∀{rows:List (List U)},(∀r∈rows,r.length=s)->rows.flatten.length=rows.length*s
 | [],_=>by simp
 |r::rows,h=>by
  simp_all[yA,B4,Dz]
theorem yQ {U:Type} {s:Nat}: ∀{rows:List (List U)} (i j:Nat),(∀r∈rows,r.length=s)->j<s->rows.flatten[i*s+j]? =(rows[i]?).bind λr=>r[j]?
 | [],i,j,_,_=>by simp
 |r::rows,0,j,h,hj=>by
  grind
 |r::rows,i+1,j,h,hj=>by
  have hr:=h r sm
  rw[D1,Ar (by rw[hr,B4];omega),hr,show(i+1)*s+j - s=i*s+j by rw[B4];omega,
   yQ i j (λx hx=>h x (by simp[hx])) hj]
  simp
theorem cF.of_flat {rows:List (List V)} {s b o cap:Nat} (hs:0<s) (hu:eI s rows) (fq:o+rows.length*s<=L b) (dg:rows.length<=cap)
  (ha: ∀id,g≠ .app id) (hg:g= .full->cap=rows.length)
  (h: ∀(k:Nat) v,rows.flatten[k]? =some v-> ∃x,w.cell? ⟨b,o+k,none⟩=some x/\cF w L v x):cF w L (.sl g rows) (.slice (some ⟨b,o,none⟩) rows.length cap):=by
 refine .sl g rows s b o cap (λi j=>(w.cell? ⟨b,o+i*s+j,none⟩).getD undef) ha hs hu fq dg hg (λi j hi hj=> ?_) (λi j hi hj=> ?_)
 .have aa:j<rows[i].length:=by rw[hu _ sm];exact hj
  obtain⟨x,hx,_⟩:=h (i*s+j) (rows[i][j]) (by rw[yQ i j hu hj,A0 hi];simp)
  grind
 .have aa:j<s:=by rw[<-hu _ (A8 hi)];exact hj
  obtain⟨x,hx,r⟩:=h (i*s+j) (rows[i][j]) (by rw[yQ i j hu aa,A0 hi];simp)
  grind
theorem cF.flat {rows:List (List V)} (r:cF w L (.sl g rows) x) (ab:rows≠ []):
  ∃s b o cap,x= .slice (some ⟨b,o,none⟩) rows.length cap/\0<s/\eI s rows/\o+rows.length*s<=L b/\rows.length<=cap/\(g= .full->cap=rows.length)/\
   ∀(k:Nat) v,rows.flatten[k]? =some v-> ∃y,w.cell? ⟨b,o+k,none⟩=some y/\cF w L v y:=by
 cases r with
 |jb=>grind
 |sl _ _ s b o cap c ha hs hlen fq dg hg hc hr=>
  refine⟨s,b,o,cap,rfl,hs,hlen,fq,dg,hg,λk v hk=> ?_⟩
  have ad:k<rows.length*s:=by grind[yA]
  have hi:k/s<rows.length:=by simp_all[C4]
  have hj:k%s<s:=Cs _ hs
  have aa:k=k/s*s+k%s:=by rw[Dq];exact(D3 k s).symm
  rw[aa,yQ _ _ hlen hj,A0 hi]at hk
  grind
theorem cF.len {rows:List (List V)} (r:cF w L (.sl g rows) x): ∃a cap,x= .slice a rows.length cap/\rows.length<=cap/\(g= .full->cap=rows.length):=by
 cases r with
 |jb _ a cap hg=>exact⟨_,_,rfl,sm,om⟩
 |sl _ _ s b o cap c ha hs hlen fq dg hg hc hr=>grind
theorem cF.src {P:Program} {rows:List (List V)} {s:Nat} {tx e:TypeId} (r:cF w L (.sl g rows) x) (hk:P.underlying tx=some (.slice e)) (_hs:0<s) (hu:eI s rows):
  ∃news,Src P s tx x rows.length news w/\bP (cF w L) rows.flatten news:=by
 by_cases aa:rows= []
 .subst aa
  obtain⟨a,cap,rfl,_,_⟩:=r.len
  cases a with
  |none=>exact⟨[],Src.ofNil w hk cap,tV⟩
  |some a=>exact⟨[],(by grind[Src.ofSlice]),tV⟩
 .obtain⟨s',b,o,cap,rfl,aj,ab,fq,dg,_,hc⟩:=r.flat aa
  have ah:s'=s:=by
   obtain⟨r0,rest,rfl⟩:=Cm aa
   rw[<-ab r0 sm,hu r0 sm]
  subst ah
  have ad:=yA ab
  let f:=λk=>(w.cell? ⟨b,o+k,none⟩).getD undef
  have ae:bP (cF w L) rows.flatten ((List.range (rows.length*s')).map f):=by
   grind[bP.of]
  refine⟨(List.range (rows.length*s')).map f,Src.ofSlice w hk ⟨b,o,none⟩ rows.length cap _ sm (λj u hj=> ?_) (λu hu=> ?_),ae⟩
  .rw[B3]at hj
   have af:j<rows.length*s':=by
    grind
   rw[A0 (sU af)]at hj
   simp only[List.getElem_range,Bf,ahk]at hj
   obtain⟨z,hz,_⟩:=hc j _ (A0 (by rw[ad];exact af))
   grind[wC]
  .obtain⟨k,hk,rfl⟩:=Ac.1 hu
   have ai:k<rows.length*s':=by grind
   obtain⟨z,hz,rz⟩:=hc k _ (A0 (by rw[ad];exact ai))
   simpa[f,hz]using rz.dD
def zR (bs:ahP):List (List V):=bs.map λb=> [.int .u8 b.toNat]
theorem Pc (bs:ahP):eI 1 (zR bs):=λr hr=>by
 obtain⟨b,_,rfl⟩:=Ac.1 hr;rfl
theorem Ie (bs:ahP):bP (cF w L) (zR bs).flatten (byteCells ⟨bs.toArray⟩):=by
 unfold zR byteCells
 show bP _ _ (bs.map _)
 induction bs with
 |nil=>trivial
 |cons b bs ih=>exact⟨.int _ _,ih⟩
theorem rN {s:Nat} {a b:List (List V)} (ha:eI s a) (hb:eI s b):eI s (a++b):=λr hr=>by
 rcases Al.1 hr with h|h
 .exact ha r h
 .exact hb r h
theorem cF.kn {rows:List (List V)} {s b o cap:Nat} {arr:ahT} {T:TypeId} {fz:Nat×Nat} {xs:ahR} (hs:0<s) (hu:eI s rows) (fq:o+rows.length*s<=L b) (dg:rows.length<=cap)
  (ha: ∀id,g≠ .app id) (hg:g= .full->cap=rows.length)
  (hh:w.heap[b]? =some (.cells arr T fz)) (hx: ∀(k:Nat) x,xs[k]? =some x->arr[o+k]? =some x) (h:bP (cF w L) rows.flatten xs):cF w L (.sl g rows) (.slice (some ⟨b,o,none⟩) rows.length cap):=by
 refine .of_flat hs hu fq dg ha hg λk v hv=> ?_
 obtain⟨x,aa,r⟩:=h.get k v hv
 grind[World.cell?]
section
variable {c:Ctx} {w:World} {L:Nat->Nat} {I:St} {J:ahR}
variable {cap:Nat}{i:Nat}{arr:ahT}{T:TypeId}{n:Nat}{cA:List (List V)}{xs:ahR}
theorem Ww (arr:ahT) (k:Nat) (xs:ahR) (h:k+xs.length<=arr.size) (i:Nat) (x:Value) (hx:xs[i]? =some x):(yC arr k xs)[k+i]? =some x:=by
 have hi:i<xs.length:=(by grind)
 simp_all[wM]
theorem Pd (arr:ahT) (k:Nat) (xs:ahR) (h:k+xs.length<=arr.size) (i:Nat) (hi:i<k):(yC arr k xs)[i]? =arr[i]? :=by
 simp_all[wM];omega
theorem Mem.F1 (h:Mem c w L I J) {s b o:Nat} {rows:List (List V)} (hi:I[i]? =some (.app n s)) (db:J[i]? =some (.slice (some ⟨b,o,none⟩) n cap))
  (hn:rows.length=n) (hr:cF w L (.sl .ro rows) (.slice (some ⟨b,o,none⟩) n cap)) (af:eI s rows) (hu:eI s cA) (hx:bP (cF w L) cA.flatten xs) (aq:0<cA.length) (aa:n+cA.length<=cap):
  ∃arr T fz,w.heap[b]? =some (.cells arr T fz)/\qU arr fz/\o+n*s+xs.length<=arr.size/\
   Mem c (yB w b (.cells (yC arr (o+n*s) xs) T fz)) (xK L b (o+(n+cA.length)*s)) (I.set i (.app (n+cA.length) s)) (J.set i (.slice (some ⟨b,o,none⟩) (n+cA.length) cap))/\
   Le w L (yB w b (.cells (yC arr (o+n*s) xs) T fz)) (xK L b (o+(n+cA.length)*s))/\
   Ext I J (I.set i (.app (n+cA.length) s)) (J.set i (.slice (some ⟨b,o,none⟩) (n+cA.length) cap))/\
   cF (yB w b (.cells (yC arr (o+n*s) xs) T fz)) (xK L b (o+(n+cA.length)*s)) (.sl .ro (rows++cA)) (.slice (some ⟨b,o,none⟩) (n+cA.length) cap):=by
 obtain⟨a,ah,e,ak,hs,cN⟩:=h.dd i _ _ hi db
 cases e
 obtain⟨b',o',arr,T,fz,e,hh,hf,ar,hL⟩:=cN om
 cases e
 have ai:b<w.heap.size:=(by grind)
 have au:xs.length=cA.length*s:=by rw[<-hx.length,yA hu]
 have hmul:(n+cA.length)*s=n*s+cA.length*s:=(by grind)
 have av:(n+cA.length)*s<=cap*s:=Aj _ aa
 have ab:o+n*s+xs.length<=arr.size:=om
 have hle:Le w L (yB w b (.cells (yC arr (o+n*s) xs) T fz)) (xK L b (o+(n+cA.length)*s)):=by
  refine⟨λk=> ?_,λk q hq=> ?_⟩
  all_goals grind[xK,World.cell?,xH,Pd,tR]
 have aw:cA.length≠0:=om
 have ad:Ext I J (I.set i (.app (n+cA.length) s)) (J.set i (.slice (some ⟨b,o,none⟩) (n+cA.length) cap)):=by
  refine⟨λid a e=> ?_,λid n0 s0 e=> ?_,(by grind),(by grind)⟩
  .grind
  .by_cases q:i=id
   .subst q
    rw[hi]at e;cases e
    grind
   grind
  all_goals grind
 refine⟨arr,T,fz,hh,hf,ab, ?_,hle,ad, ?_⟩
 .refine h.fm i _ _ hle ad (λk=>k=b) (λj o' x' k hj al an hk e=>by subst e;exact h.apart j i o' _ x' _ k hj al an hi db hk (by grind[cU]))
   (λk e=>by subst e;exact h.fN i _ _ k hi db (by grind[cU])) (by grind[tR,xK]) (by simp[yB]) rfl rfl rfl (λk hk=> ?_) ?_ (λk hk=> ?_)
  .simp only[xK];rw[ahf om];exact h.lim k hk
  .refine⟨_,cap,rfl,aa,hs,λhl=>⟨b,o,_,T,fz,rfl,xH _ _ _ ai,λq hq=>hf q (by grind[yH]),by grind[yH],by simp[xK]⟩⟩
  grind[cU]
 .have hlen:(rows++cA).length=n+cA.length:=by grind
  have e:Value.slice (some ⟨b,o,none⟩) (n+cA.length) cap=Value.slice (some ⟨b,o,none⟩) (rows++cA).length cap:=by grind
  rw[e]
  refine .of_flat hs (rN af hu) (by grind[xK]) om sm sm λk v hk=> ?_
  rw[Bs]at hk
  have ax:=yA af
  simp only[World.cell?,xH _ _ _ ai]
  by_cases ao:k<rows.flatten.length
  .rw[Au ao]at hk
   have aj:rows≠ []:=(by grind)
   obtain⟨s',b',o',ah,e,_,ay,_,_,_,ae⟩:=hr.flat aj
   cases e
   obtain⟨y,hy,ry⟩:=ae k v hk
   refine⟨y, ?_,ry.mono hle⟩
   simp_all[World.cell?,Pd]
  .rw[Ar om]at hk
   obtain⟨y,hy,ry⟩:=hx.get _ _ hk
   refine⟨y, ?_,ry.mono hle⟩
   have:=Ww arr (o+n*s) xs ab _ y hy
   grind
theorem Mem.AG (h:Mem c w L I J) {s:Nat} {rows:List (List V)} {x0:Value} (hi:I[i]? =some (.app n s)) (db:J[i]? =some x0) (hs:0<s)
  (hu:eI s rows) (hx:bP (cF w L) rows.flatten xs) (ae:n<rows.length) (dg:rows.length<=cap) (af:cap*s<=arr.size) (ah: ∀(k:Nat) x,xs[k]? =some x->arr[k]? =some x):
   Mem c (w.alloc (.cells arr T)) (xK L w.heap.size (rows.length*s)) (I.set i (.app rows.length s)) (J.set i (.slice (some ⟨w.heap.size,0,none⟩) rows.length cap))/\
   Le w L (w.alloc (.cells arr T)) (xK L w.heap.size (rows.length*s))/\
   Ext I J (I.set i (.app rows.length s)) (J.set i (.slice (some ⟨w.heap.size,0,none⟩) rows.length cap))/\
   cF (w.alloc (.cells arr T)) (xK L w.heap.size (rows.length*s)) (.sl .ro rows) (.slice (some ⟨w.heap.size,0,none⟩) rows.length cap):=by
 obtain⟨h1,hle⟩:=h.alloc (.cells arr T) (rows.length*s)
 have ai: ∀a,x0≠ .pointer a:=by
  intro a e;subst e
  obtain⟨_,_,e,_⟩:=h.dd i _ _ hi db
  cases e
 have aa:Ext I J (I.set i (.app rows.length s)) (J.set i (.slice (some ⟨w.heap.size,0,none⟩) rows.length cap)):=by
  refine⟨(by grind),(by grind),(by grind),(by grind)⟩
  all_goals grind
 refine⟨?_,hle,aa, ?_⟩
 .refine h1.fm i _ _ (Le.refl _ _) aa (λk=>k=w.heap.size) (λj o' x' k hj ab ad hk e=> ?_) (λk e=>by subst e;exact .inl h.size) sm rfl rfl rfl rfl h1.lim ?_ (λk hk=> ?_)
  .have:=(h.dd j o' x' ab ad).eK hk;omega
  .refine⟨_,cap,rfl,dg,hs,λhl=>⟨_,0,_,T,(0,0),rfl,yJ _ _,λq _ hq=>om,om,by simp[xK]⟩⟩
  grind[cU]
 .exact .kn hs hu (by simp[xK]) dg sm sm (yJ _ _) (by grind) (hx.imp (by grind[cF.mono]))
theorem Mem.pa (h:Mem c w L I J) {s:Nat} {rows:List (List V)} (hs:0<s)
  (hu:eI s rows) (hx:bP (cF w L) rows.flatten xs) (dg:rows.length<=cap) (ad:cap*s<=arr.size) (ae: ∀(k:Nat) x,xs[k]? =some x->arr[k]? =some x):
   Mem c (w.alloc (.cells arr T)) (xK L w.heap.size (rows.length*s)) (I++ [.app rows.length s]) (J++ [.slice (some ⟨w.heap.size,0,none⟩) rows.length cap])/\
   Le w L (w.alloc (.cells arr T)) (xK L w.heap.size (rows.length*s))/\
   cF (w.alloc (.cells arr T)) (xK L w.heap.size (rows.length*s)) (.sl .ro rows) (.slice (some ⟨w.heap.size,0,none⟩) rows.length cap):=by
 obtain⟨h1,hle⟩:=h.alloc (.cells arr T) (rows.length*s)
 refine⟨?_,hle, ?_⟩
 .refine h1.push _ _ ⟨_,cap,rfl,dg,hs,λhl=>⟨_,0,_,T,(0,0),rfl,yJ _ _,λq _ hq=>om,om,by simp[xK]⟩⟩ (λj o' x' k aa ab hk e=> ?_) (λk hk=> ?_)
  .have:=(h.dd j o' x' aa ab).eK hk
   grind[cU]
  .simp[cU]at hk
   rw[<-hk.2];exact .inl h.size
 .exact .kn hs hu (by simp[xK]) dg sm sm (yJ _ _) (by grind) (hx.imp (by grind[cF.mono]))
theorem Mem.own (h:Mem c w L I J) {s:Nat} {a:Option Addr} (hs:0<s):Mem c w L (I++ [.app n s]) (J++ [.slice a n n]):=by
 refine h.push _ _ ⟨a,n,rfl,om,hs,om⟩ (λj o' x' k _ _ _=> ?_) (λk hk=> ?_)
 .cases a<;>simp[cU]
 .cases a<;>simp[cU]at hk
theorem Wx (cells vs:List V) (off i:Nat) (h:off<=cells.length):(putCells cells off vs)[i]? =if off<=i/\i<off+vs.length then vs[i - off]? else cells[i]? :=by
 unfold putCells
 grind
theorem Wy (cells vs:List V) (off:Nat) (h:off<=cells.length):(putCells cells off vs).length=max cells.length (off+vs.length):=by
 grind[putCells]
theorem Ext.rO {s:Nat} {rows:List (List V)} {x y:Value} (hi:I[i]? =some (.cj rows s)) (hl:J.length=I.length) (db:J[i]? =some x) (hx: ∀a,x≠ .pointer a) (ab:rows.length<=cA.length) (aa:cA.length=rows.length->y=x):
  Ext I J (I.set i (.cj cA s)) (J.set i y):=by
 have ad:i<I.length:=(by grind)
 refine⟨(by grind),(by grind),(by grind),(by grind)⟩
 all_goals grind
theorem Mem.fX (h:Mem c w L I J) {s b off:Nat} {rows:List (List V)} {vs:List V} (hi:I[i]? =some (.cj rows s)) (db:J[i]? =some (.slice (some ⟨b,0,none⟩) n cap)) (dg:0<cap)
  (hv:bP (cW w L I J) vs xs) (au:off<=rows.length*s) (ae:eI s cA) (hr:cA.flatten=putCells rows.flatten off vs) (ai:rows.length<=cA.length) (ab:cA.length<=cap):
  ∃arr T fz,w.heap[b]? =some (.cells arr T fz)/\qU arr fz/\off+xs.length<=arr.size/\
   Mem c (yB w b (.cells (yC arr off xs) T fz)) L (I.set i (.cj cA s)) (J.set i (.slice (some ⟨b,0,none⟩) cA.length cap))/\
   Le w L (yB w b (.cells (yC arr off xs) T fz)) L/\
   Ext I J (I.set i (.cj cA s)) (J.set i (.slice (some ⟨b,0,none⟩) cA.length cap)):=by
 obtain⟨a,av,e,aj,hs,hu,cN⟩:=h.dd i _ _ hi db
 cases e
 obtain⟨b',arr,T,fz,e,hh,hf,ax,hL,af⟩:=cN dg
 cases e
 have ak:b<w.heap.size:=(by grind)
 have ay:i<I.length:=(by grind)
 have az:=yA hu
 have aw:=yA ae
 have a1:=hv.length
 have al:cA.length*s=max (rows.length*s) (off+vs.length):=by grind[Wy]
 have a6:cA.length*s<=cap*s:=Aj _ ab
 have ad:off+xs.length<=arr.size:=om
 have hle:Le w L (yB w b (.cells (yC arr off xs) T fz)) L:=by
  refine⟨om,λk q hq=> ?_⟩
  by_cases e:k=b
  .grind
  .exact AF (tR w b k _ e) q
 have aa:Ext I J (I.set i (.cj cA s)) (J.set i (.slice (some ⟨b,0,none⟩) cA.length cap)):=
  Ext.rO hi h.len db sm ai sm
 refine⟨arr,T,fz,hh,hf.1,ad, ?_,hle,aa⟩
 refine h.fm i _ _ hle aa (λk=>k=b) (λj o' x' k hj an ao hk e=>by subst e;exact h.apart j i o' _ x' _ k hj an ao hi db hk (by simp[cU,dg]))
   (λk e=>by subst e;exact h.fN i _ _ k hi db (by simp[cU,dg])) (λk hk=>⟨tR w b k _ hk,rfl⟩) (by simp[yB]) rfl rfl rfl h.lim ?_ (λk hk=> ?_)
 .refine⟨_,cap,rfl,ab,hs,ae,λ_=>⟨b,_,T,fz,rfl,xH _ _ _ ak,hf.size (by rw[yH]),by rw[yH];omega,hL, ?_⟩⟩
  refine bP.of ?_ λk p y hp hy=> ?_
  .have a7:(yC arr off xs).toList.length=arr.size:=by simp[yH]
   grind
  .have aq:k<cA.length*s:=by grind
   rw[An,ahg aq,Ao,wM _ _ _ _ ad]at hy
   rw[hr,Wx _ _ _ _ om]at hp
   by_cases ah:off<=k/\k<off+vs.length
   .rw[ahg ah]at hp
    rw[ahg om]at hy
    obtain⟨z,hz,r⟩:=hv.get _ _ hp
    rw[hy]at hz;cases hz
    exact r.mono hle aa
   .rw[ahf ah]at hp
    rw[ahf om]at hy
    obtain⟨z,hz,r⟩:=af.get _ _ hp
    have ar:k<rows.length*s:=om
    rw[An,ahg ar,Ao,hy]at hz;cases hz
    exact r.mono hle aa
 .simp[cU,dg]at hk;omega
theorem Ig (h:Mem c w L I J):xK L w.heap.size 0=L:=by
 funext k
 by_cases hk:k=w.heap.size
 .subst hk;simp[xK,h.lim _ (A7 _)]
 grind[xK]
theorem Mem.lI (h:Mem c w L I J) {s:Nat} {rows:List (List V)} (hs:0<s)
  (hu:eI s rows) (hx:bP (cW w L I J) rows.flatten (arr.toList.take (rows.length*s))) (dg:rows.length<=cap) (ab:cap*s<=arr.size):
   Mem c (w.alloc (.cells arr T)) L (I++ [.cj rows s]) (J++ [.slice (some ⟨w.heap.size,0,none⟩) rows.length cap])/\
   Le w L (w.alloc (.cells arr T)) L/\Ext I J (I++ [.cj rows s]) (J++ [.slice (some ⟨w.heap.size,0,none⟩) rows.length cap]):=by
 have h1:=h.alloc (.cells arr T) 0
 rw[Ig h]at h1
 have aa:=Ext.push I J h.len (.cj rows s) (.slice (some ⟨w.heap.size,0,none⟩) rows.length cap)
 refine⟨h1.1.push _ _ ⟨_,cap,rfl,dg,hs,hu,λ_=>⟨_,arr,T,(0,0),rfl,yJ _ _,O9 _ _,ab,h.lim _ om,hx.imp (by grind[cW.mono])⟩⟩ (λj o' x' k ad ae hk e=> ?_) (λk hk=> ?_),h1.2,aa⟩
 .have:=(h.dd j o' x' ad ae).eK hk
  grind[cU]
 .simp[cU]at hk
  rw[<-hk.2];exact .inl h.size
theorem Mem.rP (h:Mem c w L I J) {s:Nat} {rows:List (List V)} {fz:Nat×Nat} (ab:ft s arr fz) (hs:0<s)
  (hu:eI s rows) (hx:bP (cW w L I J) rows.flatten (arr.toList.take (rows.length*s))) (dg:rows.length<=cap) (ad:cap*s<=arr.size):
   Mem c (w.alloc (.cells arr T fz)) L (I++ [.cj rows s]) (J++ [.slice (some ⟨w.heap.size,0,none⟩) rows.length cap])/\
   Le w L (w.alloc (.cells arr T fz)) L/\Ext I J (I++ [.cj rows s]) (J++ [.slice (some ⟨w.heap.size,0,none⟩) rows.length cap]):=by
 have h1:=h.alloc (.cells arr T fz) 0
 rw[Ig h]at h1
 have aa:=Ext.push I J h.len (.cj rows s) (.slice (some ⟨w.heap.size,0,none⟩) rows.length cap)
 refine⟨h1.1.push _ _ ⟨_,cap,rfl,dg,hs,hu,λ_=>⟨_,arr,T,fz,rfl,yJ _ _,ab,ad,h.lim _ om,hx.imp (by grind[cW.mono])⟩⟩ (λj o' x' k ae af hk e=> ?_) (λk hk=> ?_),h1.2,aa⟩
 .have:=(h.dd j o' x' ae af).eK hk
  grind[cU]
 .simp[cU]at hk
  rw[<-hk.2];exact .inl h.size
theorem Mem.lJ (h:Mem c w L I J) {s:Nat} {a:Option Addr} (hs:0<s):Mem c w L (I++ [.cj [] s]) (J++ [.slice a 0 0]):=by
 refine h.push _ _ ⟨a,0,rfl,sm,hs,sm,om⟩ (λj o' x' k _ _ _=> ?_) (λk hk=> ?_)
 .cases a<;>simp[cU]
 .cases a<;>simp[cU]at hk
theorem Mem.pb (h:Mem c w L I J) {s:Nat} {rows:List (List V)} {x0:Value} (hi:I[i]? =some (.cj rows s)) (db:J[i]? =some x0) (hs:0<s)
  (hu:eI s cA) (hx:bP (cW w L I J) cA.flatten (arr.toList.take (cA.length*s))) (af:rows.length<cA.length) (dg:cA.length<=cap) (ab:cap*s<=arr.size):
   Mem c (w.alloc (.cells arr T)) L (I.set i (.cj cA s)) (J.set i (.slice (some ⟨w.heap.size,0,none⟩) cA.length cap))/\
   Le w L (w.alloc (.cells arr T)) L/\
   Ext I J (I.set i (.cj cA s)) (J.set i (.slice (some ⟨w.heap.size,0,none⟩) cA.length cap)):=by
 obtain⟨h1,hle⟩:=h.alloc (.cells arr T) 0
 rw[Ig h]at h1 hle
 have aa:Ext I J (I.set i (.cj cA s)) (J.set i (.slice (some ⟨w.heap.size,0,none⟩) cA.length cap)):=
  Ext.rO hi h.len db (λa e=>by
   subst e
   obtain⟨_,_,e,_⟩:=h.dd i _ _ hi db
   cases e) om om
 refine⟨?_,hle,aa⟩
 refine h1.fm i _ _ (Le.refl _ _) aa (λk=>k=w.heap.size) (λj o' x' k hj ad ae hk e=> ?_) (λk e=>by subst e;exact .inl h.size) sm rfl rfl rfl rfl h1.lim ?_ (λk hk=> ?_)
 .have:=(h.dd j o' x' ad ae).eK hk;omega
 .exact⟨_,cap,rfl,dg,hs,hu,λ_=>⟨_,arr,T,(0,0),rfl,yJ _ _,O9 _ _,ab,h.lim _ om,hx.imp (by grind[cW.mono])⟩⟩
 grind[cU]
end
structure dP (c:Ctx) (nt:Nat) (e:Env) (I:St) (a:Act) (w:World) (L:Nat->Nat) (J:ahR):Prop where
 mem:Mem c w L I J
 size:a.tmps.size=nt
 defs:a.defers= []
 env: ∀t,dt w L I J (e t) (a.tmps.getD t undef)
variable {w:World}{L:Nat->Nat}
def iY:Value->V
 | .bool b=> .bool b
 | .int k n=> .int k n
 | .string s=> .str s.data.toList
 | .pointer none=> .fJ
 | .slice none 0 0=> .sl .full []
 | .agg _=> .u
 | .tuple _=> .u
 |v=> .raw v
def Pe (g:Nat):V:=match fr.find? (λp=>p.1==g)with
 |some p=> .n5 p.2 0
 |none=> .u
def zG (e:Env):Operand->V
 | .tmp t=>e t
 | .const v=>iY v
 | .func f=> .fn f []
 | .global g=>Pe g
def wy:V->Bool
 | .u| .agg _| .cy _=>false
 |_=>true
theorem Wz {I:St} {J:ahR} (v:Value):dt w L I J (iY v) v:=by
 unfold iY
 split
 .exact cF.bool _
 .exact cF.int _ _
 .rename_i s
  have:cF w L (.str s.data.toList) (.string ⟨s.data.toList.toArray⟩):= .str _
  simpa
 .exact cF.fJ
 .exact cF.jb _ _ _ om sm
 .trivial
 .trivial
 .rename_i h1 h2 h3 h4 h5 h6 h7
  refine cF.raw v ?_
  cases v<;>first|rfl|exact(by grind)|exact(by grind)
theorem F2 (v:Value) (h1:v.oneCell'):cF w L (iY v) v/\wy (iY v)=true:=by
 unfold iY
 split
 .exact⟨cF.bool _,rfl⟩
 .exact⟨cF.int _ _,rfl⟩
 .rename_i s
  have:cF w L (.str s.data.toList) (.string ⟨s.data.toList.toArray⟩):= .str _
  trivial
 .exact⟨cF.fJ,rfl⟩
 .exact⟨cF.jb _ _ _ om sm,rfl⟩
 .trivial
 .trivial
 .exact⟨cF.raw _ h1,rfl⟩
theorem dP.eval {c:Ctx} {nt:Nat} {e:Env} {I:St} {a:Act} {J:ahR} (h:dP c nt e I a w L J) (x:Operand):dt w L I J (zG e x) (a.eval x):=by
 cases x with
 |tmp t=>exact h.env t
 |const v=>exact Wz v
 |func f=>exact⟨[],rfl,tV⟩
 |global g=>
  trivial
inductive R where
 |fail
 |ok (v:V)
 |ec (p:Prop) (v:V)
 |st (v:V) (I:St)
 |dz (p:Prop) (v:V) (I:St)
 |all (f:Bool->V)
 |any (l:List (V×St))
section tables
variable (P:Program)
def ez (t:TypeId):ahV:=(P.info? t).map (·.size)
def K6:TypeDesc->Bool
 | .struct _| .array _ _=>true
 |_=>false
def cO (t:TypeId):Option Bool:=(P.underlying t).map K6
def cx (t:TypeId) (f:Nat):Option (Nat×Nat×Bool):=
 match P.underlying t with
 |some (.struct fs)=>(fs[f]?).bind λf=>(ez P f.type).bind λs=>(cO P f.type).bind λb=>if s=0 then none else some (f.offset,s,b)
 |_=>none
def eT (t:TypeId):ahV:=
 match P.underlying t with
 |some (.slice e)=>ez P e
 |_=>none
def iI (t:TypeId):Option (Nat×Nat×Bool):=
 match P.underlying t with
 |some (.array n e)=>(ez P e).bind λs=>(cO P e).map λb=>(n,s,b)
 |_=>none
def xY (t:TypeId):Option (List V):=(P.info? t).bind λi=>(i.zero).bind λz=>if z.cells.all (·.oneCell')=true then some (z.cells.toList.map iY)else none
def eE (t:TypeId):Option (Nat×Nat):=
 match P.underlying t with
 |some (.slice e)=>(P.info? e).bind λi=>i.zero.bind λz=>if z.cells.size=i.size/\0<i.size/\0<i.bytes then some (i.size,i.bytes)else none
 |_=>none
inductive Kd where
 |int (k:IntKind)|str|bytes|other
 deriving DecidableEq
def ju (t:TypeId):Option Kd:=
 match P.underlying t with
 |some (.int k)=>some (.int k)
 |some .string=>some .str
 |some (.slice e)=>(match P.underlying e with|some (.int .u8)=>some .bytes|_=>some .other)
 |some _=>some .other
 |none=>none
end tables
def pc:V->Bool
 | .bool _| .int _ _| .str _| .raw _| .fJ| .sl _ _=>true
 |_=>false
def ly:V->V
 | .sl _ rows=> .sl .ro rows
 |v=>v
def xM:V->List V
 | .agg cs=>cs
 |v=> [v]
theorem cF.kT {w:World} {L:Nat->Nat} {g:Tag} {rows:List (List V)} {x:Value} (r:cF w L (.sl g rows) x):cF w L (.sl .ro rows) x:=by
 cases r with
 |jb _ a cap hg ha=>exact .jb _ a cap sm sm
 |sl _ _ s b o cap c ha hs hlen fq dg hg hc hr=>exact .sl _ rows s b o cap c sm hs hlen fq dg sm hc hr
theorem cW.ly {w:World} {L:Nat->Nat} {I:St} {J:ahR} {v:V} {x:Value} (r:cW w L I J v x) (h:pc v):cF w L (ly v) x:=by
 cases v with
 |sl g rows=>cases g with
  |ro=>exact r
  |full=>exact cF.kT r
  |app id=>exact r.1
 |u=>trivial
 |ptr _ _=>trivial
 |n5 _ _=>trivial
 |cJ _ _ _ _ _=>trivial
 |iH _ _ _ _ _=>trivial
 |jO _ _ _ _=>trivial
 |mp _=>trivial
 |fn _ _=>trivial
 |gJ _ _=>trivial
 |agg _=>trivial
 |cy _=>trivial
 |bool b=>exact r
 |int k n=>exact r
 |str s=>exact r
 |raw v=>exact r
 |fJ=>exact r
section inv
variable {w:World} {L:Nat->Nat} {I:St} {J:ahR}
variable {x:Value}
theorem pd {b:Bool} (r:dt w L I J (.bool b) x):x= .bool b:=by
 cases r;rfl
theorem yO {k:IntKind} {n:Int} (r:dt w L I J (.int k n) x):x= .int k n:=by
 cases r;rfl
theorem kU {s:ahP} (r:dt w L I J (.str s) x):x= .string ⟨s.toArray⟩:=by
 cases r;rfl
theorem K7 (r:dt w L I J .fJ x):x= .pointer none:=by
 cases r;rfl
theorem rQ {g:Tag} {rows:List (List V)} (r:dt w L I J (.sl g rows) x):cF w L (.sl .ro rows) x:=by
 cases g with
 |ro=>exact r
 |full=>exact cF.kT r
 |app id=>exact r.1
theorem WA {v:V} (r:dt w L I J v x) (h:wy v):cW w L I J v x:=by
 cases v<;>first|exact r|simp[wy]at h
theorem F3 (h:x.oneCell'):x.cells= #[x]:=by
 cases x<;>first|rfl|simp[Value.oneCell']at h
def mJ:V->Bool
 | .u| .cy _=>false
 |_=>true
theorem AH {v:V} (r:dt w L I J v x) (h:mJ v):bP (cW w L I J) (xM v) x.cells.toList:=by
 by_cases hc:wy v=true
 .have r':=WA r hc
  rw[F3 r'.dD]
  have:xM v= [v]:=by cases v<;>first|rfl|simp[wy]at hc
  rw[this]
  trivial
 .cases v with
  |agg cs=>obtain⟨xs,rfl,h⟩:=r;exact h
  |u=>trivial
  |cy vs=>trivial
  |_=>simp[wy]at hc
end inv
inductive Pk where
 |b
 |i (k:IntKind)
 |s
 deriving DecidableEq
def F4 (P:Program) (sh:TypeId->Option (List Pk)):Nat->List Field->Option (List Pk)
 |_,[]=>some []
 |off,f::fs=>if f.name≠ "_" /\f.offset=off then(sh f.type).bind λks=>if ez P f.type=some ks.length then(F4 P sh (off+ks.length) fs).map (ks++ ·)else none else none
def uW (P:Program):Nat->TypeId->Option (List Pk)
 |0,_=>none
 |d+1,t=>
  match P.underlying t,cO P t with
  |some .bool,some false=>some [.b]
  |some (.int k),some false=>some [.i k]
  |some .string,some false=>some [.s]
  |some (.struct fs),some true=>if P.stoodInHeld t=false then F4 P (uW P d) 0 fs.toList else none
  |_,_=>none
def jv:Pk->V->V->Option Bool
 | .b,.bool x,.bool y=>some (x==y)
 | .i k,.int k1 x,.int k2 y=>if k1=k/\k2=k then some (x==y)else none
 | .s,.str x,.str y=>some (x==y)
 |_,_,_=>none
def kV:List Pk->List V->List V->Option Bool
 | [],[],[]=>some true
 |k::ks,a::az,b::bs=>(jv k a b).bind λr=>(kV ks az bs).map (r&& ·)
 |_,_,_=>none
def gL:Pk->Value->Value->Option Bool
 | .b,.bool x,.bool y=>some (x==y)
 | .i k,.int k1 x,.int k2 y=>if k1=k/\k2=k then some (x==y)else none
 | .s,.string x,.string y=>some (x==y)
 |_,_,_=>none
def iJ:List Pk->ahR->ahR->Option Bool
 | [],[],[]=>some true
 |k::ks,a::az,b::bs=>(gL k a b).bind λr=>(iJ ks az bs).map (r&& ·)
 |_,_,_=>none
def ko (P:Program) (t:TypeId):Option (List Pk):=match P.underlying t with|some (.struct _)=>if P.eqGuardType P.depth t=false then uW P 10 t else none|_=>none
section
variable {P:Program} {c:Ctx} {w:World} {L:Nat->Nat} {I:St} {J:ahR}
variable {t:TypeId}{x:Value}{y:Value}{r:Bool}
theorem WB {s:Nat} (h:ez P t=some s): ∃i,P.info? t=some i/\i.size=s:=by
 unfold ez at h
 simp_all
theorem wY {s:Nat} (h:ez P t=some s) (w:World):(sizeOf t).run P w= .ok s w:=by
 obtain⟨i,hi,rfl⟩:=WB h
 simp_all[sizeOf,typeInfo]
theorem tS {b:Bool} (h:cO P t=some b) (w:World):(isAgg t).run P w= .ok b w:=by
 unfold cO at h
 cases hu:P.underlying t with
 |none=>grind
 |some d=>
  simp[hu]at h
  subst h
  simp only[isAgg,Sem.run_bind,run_underlying hu,Result.andThen_ok,K6]
  cases d<;>rfl
theorem K8: ∀(ks:List Pk) (az bs:ahR) (r:Bool),iJ ks az bs=some r->az.length=ks.length/\bs.length=ks.length
 | [],[],[],_,_=>om
 |k::ks,a::az,b::bs,r,h=>by
  unfold iJ at h
  cases h1:gL k a b with
  |none=>rw[h1]at h;cases h
  |some r1=>
   rw[h1]at h
   simp only[Ay,Aw]at h
   obtain⟨r2,h2,_⟩:=h
   have:=K8 ks az bs r2 h2
   simp[this.1,this.2]
 | [],[],_::_,_,h=>by cases h
 | [],_::_,_,_,h=>by cases h
 |_::_,[],_,_,h=>by cases h
 |_::_,_::_,[],_,h=>by cases h
theorem Pf: ∀(ks aa:List Pk) (az bs:ahR) (r:Bool),iJ (ks++aa) az bs=some r->
  ∃r1 r2,iJ ks (az.take ks.length) (bs.take ks.length)=some r1/\iJ aa (az.drop ks.length) (bs.drop ks.length)=some r2/\r=(r1&&r2)
 | [],aa,az,bs,r,h=>(by grind[iJ])
 |k::ks,aa,a::az,b::bs,r,h=>by
  rw[Bm]at h
  unfold iJ at h
  cases h1:gL k a b with
  |none=>grind
  |some r0=>
   rw[h1]at h
   simp only[Ay,Aw]at h
   obtain⟨r',h2,rfl⟩:=h
   obtain⟨r1,r2,h3,h4,rfl⟩:=Pf ks aa az bs r' h2
   refine⟨r0&&r1,r2, ?_,by grind,by grind⟩
   grind[iJ]
 |_::_,_,[],_,_,h=>by cases h
 |_::_,_,_::_,[],_,h=>by cases h
theorem K9: ∀(ks:List Pk) (vs ws:List V) (xs ys:ahR) (r:Bool),bP (cW w L I J) vs xs->bP (cW w L I J) ws ys->kV ks vs ws=some r->iJ ks xs ys=some r
 | [],[],[],[],[],r,_,_,h=>h
 |k::ks,v::vs,v2::us,x::xs,y::ys,r,h1,h2,h=>by
  unfold kV at h
  cases hk:jv k v v2 with
  |none=>grind
  |some r0=>
   rw[hk]at h
   simp only[Ay,Aw]at h
   obtain⟨r',h3,rfl⟩:=h
   have ih:=K9 ks vs us xs ys r' h1.2 h2.2 h3
   have hp:gL k x y=some r0:=by
    have hx:=h1.1;have hy:=h2.1
    unfold jv at hk
    split at hk
    .cases hx;cases hy;exact hk
    .cases hx;cases hy;exact hk
    .cases hx;cases hy
     rename_i a b
     rw[<-hk]
     simp only[gL,ahk]
     show(a.toArray==b.toArray)=(a==b)
     simp
    grind
   grind[iJ]
 | [],[],[],[],_::_,_,_,h2,_=>h2.elim
 | [],[],[],_::_,_,_,h1,_,_=>h1.elim
 | [],[],_::_,_,_,_,_,_,h=>by cases h
 | [],_::_,_,_,_,_,_,_,h=>by cases h
 |_::_,[],_,_,_,_,_,_,h=>by cases h
 |_::_,_::_,[],_,_,_,_,_,h=>by cases h
 |_::_,_::_,_::_,[],_,_,h1,_,_=>h1.elim
 |_::_,_::_,_::_,_::_,[],_,_,h2,_=>h2.elim
def og (P:Program) (t:TypeId) (x:Value):Prop:=if cO P t=some true then∃xs,x= .agg xs else x.oneCell'=true
theorem Pg {ks:List Pk} {b:Bool} (hs:ez P t=some ks.length) (ha:cO P t=some b) (h1:b=false->ks.length=1) (cs:ahT) (off:Nat) (hl:off+ks.length<=cs.size) (aa: ∀x∈cs.toList,x.oneCell'):
  ∃x,(part t cs off).run P w= .ok x w/\og P t x/\x.cells.toList=(cs.toList.drop off).take ks.length:=by
 cases b with
 |true=>
  refine⟨.agg (cs.extract off (off+ks.length)), ?_, ?_, ?_⟩
  .simp_all[part,tS,wY]
  .unfold og;grind
  grind[Value.cells,Array.toList_extract]
 |false=>
  have hk:=h1 rfl
  have ab:off<cs.size:=om
  simp_all[part,tS,og,F3,A5]
theorem WC {d:Nat} {ks:List Pk} (h:uW P d t=some ks): ∃b,cO P t=some b/\(b=false->ks.length=1):=by
 cases d with
 |zero=>cases h
 |succ d=>
  unfold uW at h
  grind
theorem WD (h:gL .b x y=some r): ∃a b,x= .bool a/\y= .bool b/\r=(a==b):=by
 cases x<;>first|(simp[gL]at h;done)|skip
 cases y<;>first|(simp[gL]at h;done)|skip
 simp[gL]at h
 grind
theorem WE {k:IntKind} (h:gL (.i k) x y=some r): ∃a b,x= .int k a/\y= .int k b/\r=(a==b):=by
 cases x<;>first|(simp[gL]at h;done)|skip
 cases y<;>first|(simp[gL]at h;done)|skip
 simp[gL]at h
 simp_all
theorem WG (h:gL .s x y=some r): ∃a b,x= .string a/\y= .string b/\r=(a==b):=by
 cases x<;>first|(simp[gL]at h;done)|skip
 cases y<;>first|(simp[gL]at h;done)|skip
 simp only[gL,ahk]at h
 grind
theorem Lb: ∀(d:Nat) (t:TypeId) (ks:List Pk),uW P d t=some ks-> ∀(D:Nat),d<=D-> ∀(x y:Value) (r:Bool),og P t x->og P t y->(∀z∈x.cells.toList,z.oneCell'=true)->(∀z∈y.cells.toList,z.oneCell'=true)->
  iJ ks x.cells.toList y.cells.toList=some r-> ∀w,(Op.equalIn D t x y).run P w= .ok r w
 |0,_,_,h=>by cases h
 |d+1,t,ks,h=>by
  intro D hD x y r hx hy ab ae he w
  obtain⟨D,rfl⟩: ∃D',D=D'+1:=(by simp;omega)
  have aa: ∀k,ks= [k]->cO P t=some false-> ∃r',gL k x y=some r'/\r=r':=by
   intro k hk ha
   unfold og at hx hy
   rw[ahf (by rw[ha];simp)]at hx hy
   rw[F3 hx,F3 hy,hk]at he
   simp only[iJ]at he
   simp_all
  unfold uW at h
  split at h
  .rename_i hu ha
   simp at h
   obtain⟨r',hp,rfl⟩:=aa .b h.symm ha
   obtain⟨m,n,rfl,rfl,rfl⟩:=WD hp
   simp[Op.equalIn,run_underlying hu]
  .rename_i k hu ha
   simp at h
   obtain⟨r',hp,rfl⟩:=aa (.i k) h.symm ha
   obtain⟨m,n,rfl,rfl,rfl⟩:=WE hp
   simp[Op.equalIn,run_underlying hu]
  .rename_i hu ha
   simp at h
   obtain⟨r',hp,rfl⟩:=aa .s h.symm ha
   obtain⟨m,n,rfl,rfl,rfl⟩:=WG hp
   simp[Op.equalIn,run_underlying hu]
  .rename_i fs hu ha
   split at h
   .rename_i ai
    unfold og at hx hy
    rw[ahg ha]at hx hy
    obtain⟨xs,rfl⟩:=hx
    obtain⟨ys,rfl⟩:=hy
    have af:P.fieldsOf t=fs:=by grind[Program.fieldsOf]
    rw[run_equalIn_struct (P:=P) (w:=w) D t xs ys (by rw[af];exact hu) ai,af]
    simp only[Value.cells]at he ab ae
    have key: ∀(l:List Field) (off:Nat) (ks:List Pk) (r:Bool),F4 P (uW P d) off l=some ks->iJ ks (xs.toList.drop off) (ys.toList.drop off)=some r->(Op.eqFields D xs ys l).run P w= .ok r w:=by
     intro l
     induction l with
     |nil=>
      intro off ks r hk hr
      simp[F4]at hk
      subst hk
      have:=K8 _ _ _ _ hr
      have h1:xs.toList.drop off= []:=(by grind)
      have h2:ys.toList.drop off= []:=(by grind)
      simp_all[iJ,Op.eqFields]
     |cons f l ih=>
      intro off ks r hk hr
      unfold F4 at hk
      split at hk
      .rename_i hf
       cases ad:uW P d f.type with
       |none=>grind
       |some k1=>
        rw[ad]at hk
        simp only[Ay]at hk
        split at hk
        .rename_i aj
         simp only[Aw]at hk
         obtain⟨k2,ak,rfl⟩:=hk
         have hlen:=K8 _ _ _ _ hr
         simp only[D7,Ap,Cq]at hlen
         obtain⟨r1,r2,h1,h2,rfl⟩:=Pf k1 k2 _ _ _ hr
         obtain⟨b,al,an⟩:=WC ad
         have aq:0<k1.length\/k1.length=0:=om
         have ao:off+k1.length<=xs.size/\off+k1.length<=ys.size\/k1.length=0/\b:=by
          grind
         have parts: ∃a b',(part f.type xs off).run P w= .ok a w/\(part f.type ys off).run P w= .ok b' w/\og P f.type a/\og P f.type b'/\a.cells.toList=(xs.toList.drop off).take k1.length/\b'.cells.toList=(ys.toList.drop off).take k1.length:=by
          rcases ao with ⟨q1,q2⟩|⟨q,rfl⟩
          .obtain⟨a,p1,p2,p3⟩:=Pg (w:=w) aj al an xs off q1 ab
           simp_all[Pg]
          .refine⟨.agg (xs.extract off (off+k1.length)),.agg (ys.extract off (off+k1.length)), ?_, ?_, ?_, ?_, ?_, ?_⟩
           .simp_all[part,tS,wY]
           .simp_all[part,tS,wY]
           .unfold og;grind
           .unfold og;grind
           all_goals grind[Value.cells,Array.toList_extract]
         obtain⟨a,b',p1,p2,f1,f2,c1,c2⟩:=parts
         have ah:=Lb d f.type k1 ad D om a b' r1 f1 f2 (by rw[c1];exact λz hz=>ab z (C7 (Bp hz))) (by rw[c2];exact λz hz=>ae z (C7 (Bp hz))) (by rw[c1,c2];exact h1) w
         have ar:=ih (off+k1.length) k2 r2 ak (by simpa[ahH]using h2)
         simp only[Op.eqFields,hf.1,ne_eq,not_false_eq_true,aho,Sem.run_bind,hf.2,p1,p2,ah,Result.andThen_ok]
         cases r1
         all_goals simp_all
        grind
      grind
    grind
   grind
  grind
end
def bU (P:Program) (c:Ctx) (o:Oper) (a:Act) (w:World) (L:Nat->Nat) (I:St) (J:ahR) (v:V) (I':St):Prop:=
 ∃x w' L' J',((execOp a.eval o).run P w= .ok (.value x) w'\/((execOp a.eval o).run P w= .ok .skip w'/\x=undef))/\Mem c w' L' I' J'/\Le w L w' L'/\Ext I J I' J'/\dt w' L' I' J' v x
def eZ (r:R) (I:St) (Y:V->St->Prop):Prop:=
 match r with
 | .fail=>True
 | .ok v=>Y v I
 | .ec p v=>p->Y v I
 | .st v I'=>Y v I'
 | .dz p v I'=>p->Y v I'
 | .all f=> ∃b,Y (f b) I
 | .any l=> ∃p∈l,Y p.1 p.2
section
variable {P:Program} {c:Ctx} {nt:Nat} {e:Env} {I:St} {a:Act} {w:World} {L:Nat->Nat} {J:ahR} {o:Oper}
variable {dst:Option Tmp}{ty:TypeId}{dX:Array Edge}{g:Option (Nat×Bool)}{t:TypeId}{el:TypeId}
theorem bU.pure (h:dP c nt e I a w L J) {v:V} {x:Value} (hr:(execOp a.eval o).run P w= .ok (.value x) w) (r:dt w L I J v x):bU P c o a w L I J v I:=
 ⟨x,w,L,J,.inl hr,h.mem,Le.refl _ _,Ext.refl _ _,r⟩
def w7 (b x y:V):R:=
 match b with
 | .bool t=> .ok (if t then x else y)
 |_=> .fail
theorem WH {pos:String} (x y z:Operand) (h:dP c nt e I a w L J):
  eZ (w7 (zG e x) (zG e y) (zG e z)) I (bU P c ⟨dst,.pick x y z,ty,pos,dX,g⟩ a w L I J):=by
 have hx:=h.eval x
 unfold w7
 split
 .rename_i b hb
  rw[hb]at hx
  have:=pd hx
  refine bU.pure h (x:=if b then a.eval y else a.eval z) (by simp_all[execOp,asBool]) ?_
  cases b
  .exact h.eval z
  .exact h.eval y
 trivial
theorem WI {pos:String} (x:Operand) (h:dP c nt e I a w L J):
  eZ (.ok (zG e x)) I (bU P c ⟨dst,.move x,ty,pos,dX,g⟩ a w L I J):=
 bU.pure h (by rfl) (h.eval x)
theorem WJ {pos:String} (x:Operand) (h:dP c nt e I a w L J):
  eZ (.ok (zG e x)) I (bU P c ⟨dst,.assign x,ty,pos,dX,g⟩ a w L I J):=
 bU.pure h (by rfl) (h.eval x)
def xa (x:V):R:=
 match x with
 | .ptr id off=> .ok (.ptr id off)
 | .n5 cs off=> .ok (.n5 cs off)
 | .iH id s n k j=> .ok (.iH id s n k j)
 | .fn f bY=> .ok (.fn f bY)
 |_=> .fail
theorem WK {pos:String} (x:Operand) (h:dP c nt e I a w L J):
  eZ (xa (zG e x)) I (bU P c ⟨dst,.nilCheck x,ty,pos,dX,g⟩ a w L I J):=by
 have hx:=h.eval x
 unfold xa
 split
 .rename_i id off hb
  rw[hb]at hx
  obtain⟨b,_,hv⟩:=hx
  exact bU.pure h (x:=a.eval x) (by simp_all[execOp]) (hb▸h.eval x)
 .rename_i cs off hb
  rw[hb]at hx
  obtain⟨b,o,_,hv,_⟩:=hx
  exact bU.pure h (x:=a.eval x) (by simp_all[execOp]) (hb▸h.eval x)
 .rename_i id s n k j hb
  rw[hb]at hx
  obtain⟨b,o,hv,_⟩:=hx
  exact bU.pure h (x:=a.eval x) (by simp_all[execOp]) (hb▸h.eval x)
 .rename_i f bY hb
  rw[hb]at hx
  obtain⟨xs,hv,_⟩:=hx
  exact bU.pure h (x:=a.eval x) (by simp_all[execOp]) (hb▸h.eval x)
 trivial
def jc (op:BinOp) (k:IntKind) (x y:Int):Int:=
 match op with
 | .and=>k.wrap (BitVec.ofInt k.bits x&&&BitVec.ofInt k.bits y).toNat
 | .or=>k.wrap (BitVec.ofInt k.bits x|||BitVec.ofInt k.bits y).toNat
 | .xor=>k.wrap (BitVec.ofInt k.bits x^^^BitVec.ofInt k.bits y).toNat
 |_=>k.wrap (BitVec.ofInt k.bits x&&& ~~~BitVec.ofInt k.bits y).toNat
def AI (op:BinOp) (k:IntKind) (x y:Int):R:=
 match op with
 | .add=> .ok (.int k (k.wrap (x+y)))
 | .sub=> .ok (.int k (k.wrap (x - y)))
 | .mul=> .ok (.int k (k.wrap (x*y)))
 | .quo=> .ec (y≠0) (.int k (k.wrap (x.tdiv y)))
 | .rem=> .ec (y≠0) (.int k (x.tmod y))
 | .and=> .ok (.int k (jc .and k x y))
 | .or=> .ok (.int k (jc .or k x y))
 | .xor=> .ok (.int k (jc .xor k x y))
 | .andNot=> .ok (.int k (jc .andNot k x y))
 | .eql=> .ok (.bool (x==y))
 | .neq=> .ok (.bool (x !=y))
 | .lss=> .ok (.bool (decide (x<y)))
 | .leq=> .ok (.bool (decide (x<=y)))
 | .gtr=> .ok (.bool (decide (x>y)))
 | .geq=> .ok (.bool (decide (x≥y)))
 | .shl=> .ec (0<=y) (.int k (k.wrap (x*2^(min y.toNat k.bits))))
 | .shr=> .ec (0<=y) (.int k (x.fdiv (2^(min y.toNat k.bits))))
def AJ (op:BinOp) (x y:ahP):R:=
 match op with
 | .add=> .ec (x.length+y.length<=9223372036854775807) (.str (x++y))
 | .eql=> .ok (.bool (x==y))
 | .neq=> .ok (.bool (!(x==y)))
 | .lss=> .ok (.bool (Op.bytesLess x y))
 | .leq=> .ok (.bool (Op.bytesLess x y||x==y))
 | .gtr=> .ok (.bool (!(Op.bytesLess x y||x==y)))
 | .geq=> .ok (.bool (!(Op.bytesLess x y)))
 |_=> .fail
def iK (P:Program) (t:TypeId):Nat:=
 match P.underlying t with
 |some .bool=>1
 |some (.pointer _)=>2
 |some (.slice _)=>3
 |_=>0
def F5 (op:BinOp) (n:Nat):R:=
 match op with
 | .eql=>if 0<n then .ok (.bool false)else .all .bool
 | .neq=>if 0<n then .ok (.bool true)else .all λb=> .bool (!b)
 |_=> .fail
def AK:V->ahV
 | .sl _ rows=>some rows.length
 | .cJ _ _ _ _ m=>some m
 |_=>none
def mz (op:BinOp) (ek:Nat) (es:Option (List Pk)) (x y:V):R:=
 match x,y with
 | .int k a,.int k' b=>if k=k' then AI op k a b else(match op with| .shl=> .ec (0<=b) (.int k (k.wrap (a*2^(min b.toNat k.bits))))| .shr=> .ec (0<=b) (.int k (a.fdiv (2^(min b.toNat k.bits))))|_=> .fail)
 | .str a,.str b=>AJ op a b
 | .bool a,.bool b=>if ek=1 then(match op with| .eql=> .ok (.bool (a==b))| .neq=> .ok (.bool (!(a==b)))|_=> .fail)else .fail
 | .ptr _ _,.fJ=>if ek=2 then(match op with| .eql=> .ok (.bool false)| .neq=> .ok (.bool true)|_=> .fail)else .fail
 | .fJ,.fJ=>if ek=2 then(match op with| .eql=> .ok (.bool true)| .neq=> .ok (.bool false)|_=> .fail)else .fail
 | .agg az,.agg bs=>(match es.bind λks=>kV ks az bs with
  |some r=>(match op with| .eql=> .ok (.bool r)| .neq=> .ok (.bool (!r))|_=> .fail)
  |none=> .fail)
 |_,_=> .fail
def uX (op:BinOp) (ek:Nat) (x:V):R:=if ek=3 then(match AK x with|some n=>F5 op n|none=> .fail)else .fail
def pe:Operand->Bool
 | .const (.slice none 0 0)=>true
 |_=>false
theorem Ih {k k':IntKind} {x y:Int} (op:BinOp) (aa:op= .shl\/op= .shr) (hy:0<=y) (w:World):
  (Op.shift op k x k' y).run P w= .ok (.int k (if op= .shl then k.wrap (x*2^(min y.toNat k.bits))else x.fdiv (2^(min y.toNat k.bits)))) w:=by
 have: ¬y<0:=om
 rcases aa with rfl|rfl<;>simp[Op.shift,this]
theorem WL {pos:String} (op:BinOp) (t t':TypeId) (x y:Operand) (h:dP c nt e I a w L J) {k:IntKind} {m n:Int} (hx:a.eval x= .int k m) (hy:a.eval y= .int k n):
  eZ (AI op k m n) I (bU P c ⟨dst,.binOp op t x y t',ty,pos,dX,g⟩ a w L I J):=by
 have run: ∀v,(binOp op t (.int k m) (.int k n)).run P w= .ok v w->(execOp a.eval ⟨dst,.binOp op t x y t',ty,pos,dX,g⟩).run P w= .ok (.value v) w:=by
  simp_all[execOp,eqGuard]
 cases op
 case quo=>exact λhn=>bU.pure h (by simp_all[binOp,Op.intDiv]) (cF.int _ _)
 case rem=>exact λhn=>bU.pure h (by simp_all[binOp,Op.intDiv]) (cF.int _ _)
 case shl=>exact λhn=>bU.pure h (run _ (by simp only[binOp];rw[Ih .shl (.inl rfl) hn];simp)) (cF.int _ _)
 case shr=>exact λhn=>bU.pure h (run _ (by simp only[binOp];rw[Ih .shr (.inr rfl) hn];simp)) (cF.int _ _)
 case add=>exact bU.pure h (by simp_all[binOp,Op.intArith]) (cF.int _ _)
 case sub=>exact bU.pure h (by simp_all[binOp,Op.intArith]) (cF.int _ _)
 case mul=>exact bU.pure h (by simp_all[binOp,Op.intArith]) (cF.int _ _)
 case and=>exact bU.pure h (run _ (by simp only[binOp,Op.intBits,ne_eq,ahy,ahx,Sem.run_pure];rfl)) (cF.int _ _)
 case or=>exact bU.pure h (run _ (by simp only[binOp,Op.intBits,ne_eq,ahy,ahx,Sem.run_pure];rfl)) (cF.int _ _)
 case xor=>exact bU.pure h (run _ (by simp only[binOp,Op.intBits,ne_eq,ahy,ahx,Sem.run_pure];rfl)) (cF.int _ _)
 case andNot=>exact bU.pure h (run _ (by simp only[binOp,Op.intBits,ne_eq,ahy,ahx,Sem.run_pure];rfl)) (cF.int _ _)
 case eql=>exact bU.pure h (by simp_all[binOp,Op.intCmp]) (cF.bool _)
 case neq=>exact bU.pure h (by simp_all[binOp,Op.intCmp]) (cF.bool _)
 case lss=>exact bU.pure h (by simp_all[binOp,Op.intCmp]) (cF.bool _)
 case leq=>exact bU.pure h (by simp_all[binOp,Op.intCmp]) (cF.bool _)
 case gtr=>exact bU.pure h (by simp_all[binOp,Op.intCmp]) (cF.bool _)
 case geq=>exact bU.pure h (by simp_all[binOp,Op.intCmp]) (cF.bool _)
theorem WM {pos:String} (op:BinOp) (t t':TypeId) (x y:Operand) (h:dP c nt e I a w L J) {m n:ahP} (hx:a.eval x= .string ⟨m.toArray⟩) (hy:a.eval y= .string ⟨n.toArray⟩):
  eZ (AJ op m n) I (bU P c ⟨dst,.binOp op t x y t',ty,pos,dX,g⟩ a w L I J):=by
 have run: ∀v,(binOp op t (.string ⟨m.toArray⟩) (.string ⟨n.toArray⟩)).run P w= .ok v w->(execOp a.eval ⟨dst,.binOp op t x y t',ty,pos,dX,g⟩).run P w= .ok (.value v) w:=by
  simp_all[execOp,eqGuard]
 cases op
 case add=>
  intro hn
  refine bU.pure h (run (.string ⟨(m++n).toArray⟩) ?_) (cF.str _)
  have hs: ¬((m.length:Int)+(n.length:Int)>9223372036854775807):=om
  have ab: ∀l:ahP,(ByteArray.mk l.toArray).size=l.length:=(by grind[ByteArray.size])
  have aa:(ByteArray.mk m.toArray)++(ByteArray.mk n.toArray)=ByteArray.mk (m++n).toArray:=by
   rfl
  simp_all[binOp,Op.stringOp]
 case eql=>exact bU.pure h (by simp_all[binOp,Op.stringOp]) (cF.bool _)
 case neq=>exact bU.pure h (by simp_all[binOp,Op.stringOp]) (cF.bool _)
 case lss=>exact bU.pure h (by simp_all[binOp,Op.stringOp]) (cF.bool _)
 case leq=>exact bU.pure h (by simp_all[binOp,Op.stringOp]) (cF.bool _)
 case gtr=>exact bU.pure h (by simp_all[binOp,Op.stringOp]) (cF.bool _)
 case geq=>exact bU.pure h (by simp_all[binOp,Op.stringOp]) (cF.bool _)
 all_goals trivial
theorem Lc (h:iK P t=1):P.underlying t=some .bool:=by
 grind[iK]
theorem F6 (h:iK P t=2): ∃el,P.underlying t=some (.pointer el):=by
 grind[iK]
theorem WN (hb:P.underlying t=some .bool) (x y:Bool) (w:World) (d:Nat):(Op.equalIn (d+1) t (.bool x) (.bool y)).run P w= .ok (x==y) w:=by
 simp[Op.equalIn,run_underlying hb]
theorem WO (hb:P.underlying t=some (.pointer el)) (x:Option Addr) (w:World) (d:Nat):(Op.equalIn (d+1) t (.pointer x) (.pointer none)).run P w= .ok x.isNone w:=by
 cases x<;>simp[Op.equalIn,run_underlying hb]
theorem Ph (hb:P.underlying t=some .bool) (x y:Bool) (w:World):(Op.equal t (.bool x) (.bool y)).run P w= .ok (x==y) w:=
 WN hb x y w 9999
theorem Ii (hb:P.underlying t=some (.pointer el)) (x:Option Addr) (w:World):(Op.equal t (.pointer x) (.pointer none)).run P w= .ok x.isNone w:=
 WO hb x w 9999
theorem WQ {pos:String} (op:BinOp) (t t':TypeId) (x y:Operand) (h:dP c nt e I a w L J):
  eZ (mz op (iK P t) (ko P t) (zG e x) (zG e y)) I (bU P c ⟨dst,.binOp op t x y t',ty,pos,dX,g⟩ a w L I J):=by
 have hx:=h.eval x
 have hy:=h.eval y
 unfold mz
 split
 .rename_i k m k' n h1 h2
  rw[h1]at hx;rw[h2]at hy
  have e1:=yO hx;have e2:=yO hy
  by_cases hk:k=k'
  .subst hk
   rw[ahg rfl]
   grind[WL]
  .rw[ahf hk]
   split
   .exact λhn=>bU.pure h (by simp only[execOp,e1,e2,eqGuard,binOp];simp[Ih .shl (.inl rfl) hn]) (cF.int _ _)
   .exact λhn=>bU.pure h (by simp only[execOp,e1,e2,eqGuard,binOp];simp[Ih .shr (.inr rfl) hn]) (cF.int _ _)
   trivial
 .grind[WM,kU]
 .rename_i m n h1 h2
  rw[h1]at hx;rw[h2]at hy
  have e1:=pd hx;have e2:=pd hy
  split
  .rename_i hb
   have ae:=Lc hb
   split
   .exact bU.pure h (by simp_all[execOp,eqGuard,binOp,Ph]) (cF.bool _)
   .exact bU.pure h (by simp_all[execOp,eqGuard,binOp,Ph]) (cF.bool _)
   trivial
  trivial
 .rename_i id off h1 h2
  rw[h1]at hx;rw[h2]at hy
  obtain⟨b,_,e1⟩:=hx
  have e2:=K7 hy
  split
  .rename_i hb
   obtain⟨el,ae⟩:=F6 hb
   split
   .exact bU.pure h (x:= .bool false) (by simp_all[execOp,eqGuard,binOp,Ii]) (cF.bool _)
   .exact bU.pure h (x:= .bool true) (by simp_all[execOp,eqGuard,binOp,Ii]) (cF.bool _)
   trivial
  trivial
 .rename_i h1 h2
  rw[h1]at hx;rw[h2]at hy
  have e1:=K7 hx
  have e2:=K7 hy
  split
  .rename_i hb
   obtain⟨el,ae⟩:=F6 hb
   split
   .exact bU.pure h (x:= .bool true) (by simp_all[execOp,eqGuard,binOp,Ii]) (cF.bool _)
   .exact bU.pure h (x:= .bool false) (by simp_all[execOp,eqGuard,binOp,Ii]) (cF.bool _)
   trivial
  trivial
 .rename_i az bs h1 h2
  rw[h1]at hx;rw[h2]at hy
  obtain⟨xs,e1,r1⟩:=hx
  obtain⟨ys,e2,r2⟩:=hy
  split
  .rename_i r hr
   cases aa:ko P t with
   |none=>grind
   |some ks=>
    rw[aa]at hr
    simp only[Ay]at hr
    have af:=K9 ks az bs xs ys r r1 r2 hr
    unfold ko at aa
    split at aa
    .rename_i fs hu
     split at aa
     .rename_i hg
      have ha:cO P t=some true:=by grind[cO,K6]
      have o1: ∀z∈xs,z.oneCell':=λz hz=>by
       obtain⟨i,hi⟩:=As.1 hz
       have hl:=r1.length
       obtain⟨y,ab,rr⟩:=r1.get i (az[i]'(by grind)) sm
       rw[hi]at ab;cases ab
       exact rr.dD
      have o2: ∀z∈ys,z.oneCell':=λz hz=>by
       obtain⟨i,hi⟩:=As.1 hz
       have hl:=r2.length
       obtain⟨y,ab,rr⟩:=r2.get i (bs[i]'(by grind)) sm
       rw[hi]at ab;cases ab
       exact rr.dD
      have ad: ∀z:ahR,og P t (.agg z.toArray):=λz=>by unfold og;grind
      have ah:=Lb 10 t ks aa 10000 om (.agg xs.toArray) (.agg ys.toArray) r (ad _) (ad _) (by simpa[Value.cells]using o1) (by simpa[Value.cells]using o2) (by simpa[Value.cells]using af) w
      split
      .exact bU.pure h (x:= .bool r) (by simp_all[execOp,run_eqGuard_agg,run_eql_struct]) (cF.bool _)
      .exact bU.pure h (x:= .bool (!r)) (by simp_all[execOp,run_eqGuard_agg,run_neq_struct]) (cF.bool _)
      trivial
     grind
    grind
  trivial
 trivial
theorem Ld (h:iK P t=3): ∃el,P.underlying t=some (.slice el):=by
 grind[iK]
theorem WR {y:Operand} (h:pe y):y= .const (.slice none 0 0):=by
 unfold pe at h
 grind
theorem Ij (hb:P.underlying t=some (.slice el)) (a:Option Addr) (n cap:Nat) (w:World):(Op.equal t (.slice a n cap) (.slice none 0 0)).run P w= .ok a.isNone w:=by
 have key: ∀d,(Op.equalIn (d+1) t (.slice a n cap) (.slice none 0 0)).run P w= .ok a.isNone w:=λd=>by
  cases a<;>simp[Op.equalIn,run_underlying hb]
 exact key 9999
theorem WS {pos:String} (op:BinOp) (t t':TypeId) (x y:Operand) (hy:pe y) (h:dP c nt e I a w L J):
  eZ (uX op (iK P t) (zG e x)) I (bU P c ⟨dst,.binOp op t x y t',ty,pos,dX,g⟩ a w L I J):=by
 have hx:=h.eval x
 have hy:=WR hy
 subst hy
 unfold uX
 split
 .rename_i hk
  obtain⟨el,hu⟩:=Ld hk
  split
  .rename_i n hn
   have hv: ∃ad cap,a.eval x= .slice ad n cap/\(0<n->ad.isNone=false):=by
    unfold AK at hn
    split at hn
    .rename_i gg rows h1
     rw[h1]at hx
     cases hn
     have hr:=rQ hx
     clear hx
     revert hr
     generalize a.eval x=z
     intro hr
     cases hr<;>simp
    .rename_i id s n' lo m h1
     rw[h1]at hx
     cases hn
     obtain⟨ad,cap,hv,ab,aa,_⟩:=hx
     grind
    grind
   obtain⟨ad,cap,hv,hz⟩:=hv
   have hc:a.eval (.const (.slice none 0 0))= .slice none 0 0:=rfl
   unfold F5
   split
   .split
    .rename_i h0
     exact bU.pure h (x:= .bool false) (by simp_all[execOp,eqGuard,binOp,Ij]) (cF.bool _)
    .exact⟨ad.isNone,bU.pure h (x:= .bool ad.isNone) (by simp_all[execOp,eqGuard,binOp,Ij]) (cF.bool _)⟩
   .split
    .rename_i h0
     exact bU.pure h (x:= .bool true) (by simp_all[execOp,eqGuard,binOp,Ij]) (cF.bool _)
    .exact⟨ad.isNone,bU.pure h (x:= .bool (!ad.isNone)) (by simp_all[execOp,eqGuard,binOp,Ij]) (cF.bool _)⟩
   trivial
  trivial
 trivial
def mK (op:UnOp) (x:V):R:=
 match op,x with
 | .not,.bool b=> .ok (.bool (!b))
 | .neg,.int k n=> .ok (.int k (k.wrap (0 - n)))
 | .xor,.int k n=> .ok (.int k (jc .xor k (if k.signed then -1 else k.max) n))
 |_,_=> .fail
theorem WT {pos:String} (op:UnOp) (t:TypeId) (x:Operand) (h:dP c nt e I a w L J):
  eZ (mK op (zG e x)) I (bU P c ⟨dst,.unOp op t x,ty,pos,dX,g⟩ a w L I J):=by
 have hx:=h.eval x
 unfold mK
 split
 .rename_i b h1
  rw[h1]at hx
  exact bU.pure h (x:= .bool (!b)) (by simp[execOp,pd hx,Op.unary]) (cF.bool _)
 .rename_i k n h1
  rw[h1]at hx
  exact bU.pure h (x:= .int k (k.wrap (0 - n))) (by simp only[execOp,yO hx,Op.unary,Op.intArith,Sem.run_bind,Sem.run_pure,Result.andThen_ok]) (cF.int _ _)
 .rename_i k n h1
  rw[h1]at hx
  exact bU.pure h (x:= .int k (jc .xor k (if k.signed then -1 else k.max) n)) (by simp only[execOp,yO hx,Op.unary,Op.intBits,Sem.run_bind,Sem.run_pure,Result.andThen_ok];rfl) (cF.int _ _)
 trivial
def xb (x:V) (i:Nat):R:=
 match x with
 | .cy vs=>(match vs[i]? with|some v=> .ok v|none=> .fail)
 |_=> .fail
theorem WU {pos:String} (x:Operand) (i:Nat) (h:dP c nt e I a w L J):
  eZ (xb (zG e x) i) I (bU P c ⟨dst,.extract x i,ty,pos,dX,g⟩ a w L I J):=by
 have hx:=h.eval x
 unfold xb
 split
 .rename_i vs h1
  rw[h1]at hx
  obtain⟨xs,hv,aa⟩:=hx
  split
  .rename_i v ab
   obtain⟨y,hy,r⟩:=aa.get _ _ ab
   exact bU.pure h (x:=y) (by simp_all[execOp,Instr.extract]) (dt.kS r)
  trivial
 trivial
def xc (P:Program) (t:TypeId) (x:V) (f:Nat):R:=
 match cx P t f,x with
 |some (off,_,_),.ptr id o=> .ok (.ptr id (o+off))
 |some (off,_,_),.n5 cs o=> .ok (.n5 cs (o+off))
 |some (off,_,_),.iH id s n k j=> .ok (.iH id s n k (j+off))
 |_,_=> .fail
theorem Lf {f off s:Nat} {b:Bool} (h:cx P t f=some (off,s,b)): ∃fs fd,P.underlying t=some (.struct fs)/\fs[f]? =some fd/\fd.offset=off/\ez P fd.type=some s/\cO P fd.type=some b/\s≠0:=by
 unfold cx at h
 split at h
 .rename_i fs hu
  cases hf:fs[f]? with
  |none=>grind
  |some fd=>
   simp only[hf,Ay]at h
   cases hs:ez P fd.type with
   |none=>grind
   |some s'=>
    simp only[hs,Ay]at h
    cases hb:cO P fd.type<;>grind
 grind
theorem WV {pos:String} (t:TypeId) (x:Operand) (f:Nat) (h:dP c nt e I a w L J):
  eZ (xc P t (zG e x) f) I (bU P c ⟨dst,.fieldAddr t x f,ty,pos,dX,g⟩ a w L I J):=by
 have hx:=h.eval x
 have run: ∀{off s:Nat} {b:Bool} {bl o:Nat},cx P t f=some (off,s,b)->a.eval x= .pointer (some ⟨bl,o,none⟩)->(execOp a.eval ⟨dst,.fieldAddr t x f,ty,pos,dX,g⟩).run P w= .ok (.value (.pointer (some ⟨bl,o+off,none⟩))) w:=by
  intro off s b bl o hf hv
  obtain⟨fs,fd,hu,aa,rfl,hs,hb,h0⟩:=Lf hf
  simp_all[execOp,Instr.fieldAt,run_underlying,Instr.sureAddr,fieldPlace,wY,wC]
 unfold xc
 split
 .rename_i off s b id o hf h1
  rw[h1]at hx
  obtain⟨bl,hb,hv⟩:=hx
  exact bU.pure h (run hf hv) ⟨bl,hb,rfl⟩
 .rename_i off s b cs o hf h1
  rw[h1]at hx
  obtain⟨bl,o',c',hv,hl,hc⟩:=hx
  exact bU.pure h (run hf hv) ⟨bl,o',c',sm,hl,hc⟩
 .rename_i off s b id s' n k j hf h1
  rw[h1]at hx
  obtain⟨bl,o',hv,hc⟩:=hx
  refine bU.pure h (run hf hv) ⟨bl,o'+off,rfl, ?_⟩
  grind
 trivial
end
section
variable {P:Program} {c:Ctx} {nt:Nat} {e:Env} {I:St} {a:Act} {w:World} {L:Nat->Nat} {J:ahR} {o:Oper}
variable {t:TypeId}{off:Nat}{dst:Option Tmp}{ty:TypeId}{dX:Array Edge}{g:Option (Nat×Bool)}{bl:Nat}{cs:List V}
def qV (ag:Option Bool) (sz:ahV) (cs:List V) (off:Nat):R:=
 match ag,sz with
 |some true,some s=>if off+s<=cs.length then .ok (.agg ((cs.drop off).take s))else .fail
 |some false,_=>(match cs[off]? with|some v=> .ok v|none=> .fail)
 |_,_=> .fail
def mL (P:Program) (t:TypeId) (I:St) (x:V):R:=
 match x with
 | .ptr id off=>(match I[id]? with|some (.box cs)=>qV (cO P t) (ez P t) cs off|_=> .fail)
 | .n5 cs off=>qV (cO P t) (ez P t) cs off
 | .iH id s n k j=>(match I[id]? with|some (.cj rows s')=>if s'=s/\rows.length=n/\k<n then qV (cO P t) (ez P t) (rows.getD k []) j else .fail|_=> .fail)
 |_=> .fail
theorem WW {s:Nat} {xs:ahR} (aa:cO P t=some true) (ab:ez P t=some s) (hl:xs.length=s) (hx: ∀(j:Nat) v,xs[j]? =some v->w.cell? ⟨bl,off+j,none⟩=some v):
  (loadVar t ⟨bl,off,none⟩).run P w= .ok (.agg xs.toArray) w:=by
 have:=run_loadCells_list (P:=P) w ⟨bl,off,none⟩ xs (λj v hj=>by rw[wC];exact hx j v hj)
 simp_all[loadVar,tS,wY]
theorem WX {v:Value} (aa:cO P t=some false) (hx:w.cell? ⟨bl,off,none⟩=some v):
  (loadVar t ⟨bl,off,none⟩).run P w= .ok v w:=by
 simp_all[loadVar,tS]
theorem Lg (t:TypeId) {o:Nat} {v:V}
  (hc: ∀(j:Nat) v,cs[j]? =some v-> ∃y,w.cell? ⟨bl,o+j,none⟩=some y/\cW w L I J v y) (hl:qV (cO P t) (ez P t) cs off= .ok v):
  ∃y,(loadVar t ⟨bl,o+off,none⟩).run P w= .ok y w/\dt w L I J v y:=by
 unfold qV at hl
 split at hl
 .rename_i s aa ae
  split at hl
  .rename_i hle
   simp only[R.ok.injEq]at hl
   subst hl
   let f:=λk=>(w.cell? ⟨bl,o+(off+k),none⟩).getD undef
   let xs:=(List.range s).map f
   have af: ∀(j:Nat) v,xs[j]? =some v->w.cell? ⟨bl,o+off+j,none⟩=some v/\ ∃p,cs[off+j]? =some p/\cW w L I J p v:=by
    intro j v hj
    have ab:j<s:=by
     grind
    simp only[xs,B3,De ab,Bf,ahk]at hj
    obtain⟨y,hy,r⟩:=hc (off+j) _ (A0 om)
    grind
   refine⟨.agg xs.toArray,(by grind[WW]),xs,rfl,bP.of (by simp[xs];omega) λj p v hu hj=> ?_⟩
   grind
  grind
 .rename_i aa
  split at hl
  .rename_i v' ad
   simp only[R.ok.injEq]at hl
   subst hl
   obtain⟨y,hy,r⟩:=hc off _ ad
   simp_all[WX,dt.dH]
  grind
 grind
theorem Lh {ag:Option Bool} {sz:ahV}:(∃v,qV ag sz cs off= .ok v)\/qV ag sz cs off= .fail:=by
 unfold qV
 grind
theorem Pj (t:TypeId) {x:V} {y:Value} {v:V} (hm:Mem c w L I J) (hx:dt w L I J x y) (hl:mL P t I x= .ok v):
  ∃bl off z,y= .pointer (some ⟨bl,off,none⟩)/\(loadVar t ⟨bl,off,none⟩).run P w= .ok z w/\dt w L I J v z:=by
 unfold mL at hl
 split at hl
 .rename_i id off
  obtain⟨bl,hb,hv⟩:=hx
  split at hl
  .rename_i cs cG
   obtain⟨b',arr,T,fz,e1,hh,_,_,aa⟩:=hm.dd id _ _ cG hb
   cases e1
   obtain⟨z,hz,r⟩:=Lg (P:=P) (w:=w) (L:=L) (I:=I) (J:=J) t (bl:=bl) (o:=0) (λj v hj=>by
    obtain⟨y,hy,r⟩:=aa.get _ _ hj
    grind[World.cell?]) hl
   grind
  grind
 .rename_i cs off
  obtain⟨bl,o',c',hv,fq,hc⟩:=hx
  obtain⟨z,hz,r⟩:=Lg (P:=P) (w:=w) (L:=L) (I:=I) (J:=J) t (bl:=bl) (o:=o') (by grind[cW.dm]) hl
  grind
 .rename_i id s n k j
  obtain⟨bl,o',hv,hc⟩:=hx
  split at hl
  .rename_i rows s' cG
   split at hl
   .rename_i ab
    obtain⟨rfl,hn,hk⟩:=ab
    rcases hc with hd|⟨cA,ad,ae,hb⟩
    .grind
    .rw[cG]at ad
     cases ad
     obtain⟨c0,db,ho⟩:=hb hn.symm hk
     obtain⟨a,cap,e1,dg,hs,hu,cN⟩:=hm.dd id _ _ cG db
     cases e1
     obtain⟨b',arr,T,fz,e2,hh,_,_,_,aa⟩:=cN om
     cases e2
     have hg:rows.getD k []=rows[k]'om:=by grind
     obtain⟨z,hz,r⟩:=Lg (P:=P) (w:=w) (L:=L) (I:=I) (J:=J) t (bl:=bl) (o:=k*s') (cs:=rows.getD k []) (off:=j) (λi v hi=>by
      have af:i<s':=by
       grind
      have hf:rows.flatten[k*s'+i]? =some v:=by
       grind[yQ]
      obtain⟨y,hy,r⟩:=aa.get _ _ hf
      grind[World.cell?]) hl
     grind
   grind
  grind
 grind
theorem WY {x:V}:(∃v,mL P t I x= .ok v)\/mL P t I x= .fail:=by
 unfold mL
 split
 .split
  .exact Lh
  simp
 .exact Lh
 .split
  .split
   .exact Lh
   simp
  simp
 simp
theorem Ik {s:Nat} {vs:List V}: ∀{rows:List (List V)} (k j:Nat),(∀r∈rows,r.length=s)->k<rows.length->j+vs.length<=s->(rows.set k (putCells (rows.getD k []) j vs)).flatten=putCells rows.flatten (k*s+j) vs
 | [],k,j,_,hk,_=>by grind
 |r::rows,0,j,h,_,hj=>by
  have hr:=h r sm
  have e:(r::rows).getD 0 []=r:=rfl
  rw[e,Ch,D1,D1,Cx,Ad]
  grind[putCells]
 |r::rows,k+1,j,h,hk,hj=>by
  have hr:=h r sm
  have ih:=Ik (s:=s) (vs:=vs) (rows:=rows) k j (λx hx=>h x (by simp[hx])) (sU hk) hj
  have e:(r::rows).getD (k+1) []=rows.getD k []:=sm
  rw[e,Bz,D1,ih,D1]
  unfold putCells
  have e2:(k+1)*s+j=r.length+(k*s+j):=by rw[B4,hr];omega
  have e3:r.length+(k*s+j)+vs.length=r.length+(k*s+j+vs.length):=Dv _ _ _
  rw[e2,List.take_length_add_append,e3,List.drop_length_add_append]
  simp
theorem WZ {pos:String} (t:TypeId) (x:Operand) (h:dP c nt e I a w L J):
  eZ (mL P t I (zG e x)) I (bU P c ⟨dst,.load t x,ty,pos,dX,g⟩ a w L I J):=by
 rcases WY (P:=P) (I:=I) (t:=t) (x:=zG e x)with ⟨v,hv⟩|hv
 .obtain⟨bl,off,z,hy,hz,r⟩:=Pj (P:=P) t h.mem (h.eval x) hv
  rw[hv]
  exact bU.pure h (x:=z) (by simp_all[execOp,Instr.loadAt,Instr.sureAddr]) r
 .rw[hv];trivial
def uY (P:Program) (t:TypeId) (I:St) (x y:V):R:=
 match x with
 | .ptr id off=>(match I[id]?,ez P t with
  |some (.box cs),some s=>if mJ y=true/\(xM y).length=s/\off+s<=cs.length then .st .u (I.set id (.box (putCells cs off (xM y))))else .fail
  |_,_=> .fail)
 | .iH id s n k j=>(match I[id]?,ez P t with
  |some (.cj rows s'),some z=>if mJ y=true/\(xM y).length=z/\j+z<=s/\s'=s/\rows.length=n/\k<n then .st .u (I.set id (.cj (rows.set k (putCells (rows.getD k []) j (xM y))) s))else .fail
  |_,_=> .fail)
 |_=> .fail
theorem W0 {pos:String} (t:TypeId) (x y:Operand) (h:dP c nt e I a w L J):
  eZ (uY P t I (zG e x) (zG e y)) I (bU P c ⟨dst,.store t x y,ty,pos,dX,g⟩ a w L I J):=by
 have hx:=h.eval x
 have hy:=h.eval y
 unfold uY
 split
 .rename_i id off h1
  rw[h1]at hx
  obtain⟨bl,hb,hv⟩:=hx
  split
  .rename_i cs s cG ao
   split
   .rename_i ab
    obtain⟨ae,hlen,hle⟩:=ab
    have aa:=AH hy ae
    obtain⟨arr,T,fz,hh,hf,aj,ad,af⟩:=h.mem.jt (off:=off) cG hb aa om
    have aq:=aa.length
    have ar:=xN P bl off T fz (a.eval y).cells.toList 0 arr w hh hf om (λv hv=> ?_)
    .refine⟨undef,_,L,J,.inr ⟨?_,rfl⟩,ad,af,Ext.jt cG _,tV⟩
     simp_all[execOp,Instr.storeAt,Instr.sureAddr,storeVar,wY]
    .obtain⟨k,hk⟩:=As.1 hv
     have ah:k<(xM (zG e y)).length:=by
      grind
     obtain⟨z,hz,r⟩:=aa.get k _ (A0 ah)
     rw[hk]at hz;cases hz
     exact r.dD
   trivial
  trivial
 .rename_i id s n k j h1
  rw[h1]at hx
  obtain⟨bl,o',hv,hc⟩:=hx
  split
  .rename_i rows s' z cG ao
   split
   .rename_i ab
    obtain⟨ae,hlen,hle,rfl,hn,hk⟩:=ab
    rcases hc with hd|⟨cA,ak,aw,hb⟩
    .grind
    .rw[cG]at ak
     cases ak
     obtain⟨c0,db,ho⟩:=hb hn.symm hk
     obtain⟨a',cap,e1,dg,hs,hu,_⟩:=h.mem.dd id _ _ cG db
     cases e1
     have aa:=AH hy ae
     have aq:=aa.length
     have ah:k<rows.length:=om
     have au:(k+1)*s'<=rows.length*s':=Aj _ ah
     rw[B4,D9]at au
     have hg:rows.getD k []=rows[k]'ah:=by grind
     obtain⟨arr,T,fz,hh,hf,aj,ad,af,ai⟩:=h.mem.fX (cA:=rows.set k (putCells (rows.getD k []) j (xM (zG e y)))) (off:=k*s'+j) cG db om aa om (λr hr=>by
      grind[Pa]) (by grind[Ik]) sm (by grind)
     have al:J.set id (.slice (some ⟨bl,0,none⟩) (rows.set k (putCells (rows.getD k []) j (xM (zG e y)))).length c0)=J:=(by grind[yM])
     rw[al]at ad ai
     have ar:=xN P bl (k*s'+j) T fz (a.eval y).cells.toList 0 arr w hh hf om (λv hv=> ?_)
     .refine⟨undef,_,L,J,.inr ⟨?_,rfl⟩,ad,af,ai,tV⟩
      simp_all[execOp,Instr.storeAt,Instr.sureAddr,storeVar,wY]
     .obtain⟨q,hq⟩:=As.1 hv
      have av:q<(xM (zG e y)).length:=by
       grind
      obtain⟨z',an,r⟩:=aa.get q _ (A0 av)
      rw[hq]at an;cases an
      exact r.dD
   trivial
  trivial
 trivial
def uZ (I:St) (x:V):R:=if mJ x=true then .st (.ptr I.length 0) (I++ [.box (xM x)])else .fail
theorem W3 {pos:String} (t:TypeId) (x:Operand) (h:dP c nt e I a w L J):
  eZ (uZ I (zG e x)) I (bU P c ⟨dst,.box t x,ty,pos,dX,g⟩ a w L I J):=by
 have hx:=h.eval x
 unfold uZ
 split
 .rename_i aa
  obtain⟨h1,h2⟩:=h.mem.box _ (a.eval x).cells t (AH hx aa)
  refine⟨_,_,L,_,.inl ?_,h1,h2,Ext.push I J h.mem.len _ _,⟨w.heap.size, ?_,rfl⟩⟩
  .rfl
  .rw[<-h.mem.len,Ar (A7 _)];simp
 trivial
def qW (P:Program) (t:TypeId) (I:St):R:=
 match xY P t with
 |some cs=> .st (.ptr I.length 0) (I++ [.box cs])
 |none=> .fail
theorem Im (h:xY P t=some cs): ∃i z,P.info? t=some i/\i.zero=some z/\(∀v∈z.cells.toList,v.oneCell'=true)/\cs=z.cells.toList.map iY:=by
 unfold xY at h
 cases hi:P.info? t with
 |none=>grind
 |some i=>
  cases hz:i.zero with
  |none=>grind
  |some z=>
   simp only[hi,hz,Ay]at h
   split at h
   .rename_i ha
    simp at h
    refine⟨i,z,rfl,hz,λv hv=> ?_,h.symm⟩
    exact Ci.1 ha v (by grind)
   grind
theorem Li {xs:ahR} (h: ∀v∈xs,v.oneCell'):bP (cF w L) (xs.map iY) xs:=by
 induction xs with
 |nil=>trivial
 |cons x xs ih=>exact⟨(by grind[F2]),(by grind)⟩
theorem W4 {pos:String} (t:TypeId) (h:dP c nt e I a w L J):
  eZ (qW P t I) I (bU P c ⟨dst,.alloc t,ty,pos,dX,g⟩ a w L I J):=by
 unfold qW
 split
 .rename_i cs hc
  obtain⟨i,z,hi,ab,aa,rfl⟩:=Im hc
  obtain⟨h1,h2⟩:=h.mem.box (z.cells.toList.map iY) z.cells t ((Li aa).imp λ_ _=>cW.dm)
  refine⟨_,_,L,_,.inl ?_,h1,h2,Ext.push I J h.mem.len _ _,⟨w.heap.size, ?_,rfl⟩⟩
  .simp_all[execOp,Instr.alloc,zeroValue,typeInfo,newVar,newRow]
  .rw[<-h.mem.len,Ar (A7 _)];simp
 trivial
end
section
variable {P:Program} {c:Ctx} {nt:Nat} {e:Env} {I:St} {a:Act} {w:World} {L:Nat->Nat} {J:ahR} {o:Oper}
variable {t:TypeId}{dst:Option Tmp}{ty:TypeId}{dX:Array Edge}{g:Option (Nat×Bool)}
def u7 (sl:ahV) (ar:Option (Nat×Nat×Bool)) (x i:V):R:=
 match x,i with
 | .sl _ rows,.int _ k=>(match sl with
  |some s=> .ec (0<=k/\k<rows.length/\(rows.getD k.toNat []).length=s) (.n5 (rows.getD k.toNat []) 0)
  |none=> .fail)
 | .ptr id off,.int _ k=>(match ar with
  |some (n,s,_)=> .ec (0<=k/\k<n) (.ptr id (off+k.toNat*s))
  |none=> .fail)
 | .n5 cs off,.int _ k=>(match ar with
  |some (n,s,_)=> .ec (0<=k/\k<n) (.n5 cs (off+k.toNat*s))
  |none=> .fail)
 | .cJ id s n lo m,.int _ k=>if sl=some s then .ec (0<=k/\k<m) (.iH id s n (lo+k.toNat) 0)else .fail
 | .jO id s off n,.int _ k=>if sl=some s then .ec (0<=k/\k<n) (.ptr id (off+k.toNat*s))else .fail
 |_,_=> .fail
theorem Lj {s:Nat} (h:eT P t=some s): ∃el,P.underlying t=some (.slice el)/\ez P el=some s:=by
 grind[eT]
theorem Io {n s:Nat} {b:Bool} (h:iI P t=some (n,s,b)): ∃el,P.underlying t=some (.array n el)/\ez P el=some s/\cO P el=some b:=by
 unfold iI at h
 split at h
 .rename_i m el hu
  cases hs:ez P el with
  |none=>grind
  |some s'=>
   cases hb:cO P el<;>grind
 grind
theorem W5 {pos:String} (t:TypeId) (x i:Operand) (h:dP c nt e I a w L J):
  eZ (u7 (eT P t) (iI P t) (zG e x) (zG e i)) I (bU P c ⟨dst,.indexAddr t x i,ty,pos,dX,g⟩ a w L I J):=by
 have hx:=h.eval x
 have hi:=h.eval i
 unfold u7
 split
 .rename_i gg rows kd k h1 h2
  rw[h1]at hx;rw[h2]at hi
  split
  .rename_i s hs
   obtain⟨el,hu,aa⟩:=Lj hs
   rintro⟨h0,ab,ae⟩
   have hk:k.toNat<rows.length:=om
   have aj:rows≠ []:=(by grind)
   obtain⟨s',b,o',cap,hv,al,af,fq,_,_,hc⟩:=(rQ hx).flat aj
   have ah:rows.getD k.toNat []∈rows:=by
    grind
   have ak:s'=s:=by rw[<-af _ ah];omega
   subst ak
   have an:rows.getD k.toNat []=rows[k.toNat]:=by grind
   have e1:=yO hi
   refine bU.pure h (x:= .pointer (some ⟨b,o'+k.toNat*s',none⟩)) ?_ ?_
   .simp[execOp,hv,e1,Instr.indexAt,asIntOf,run_underlying hu,wY aa,h0,ab,wC]
   .refine⟨b,o'+k.toNat*s',λj=>(w.cell? ⟨b,o'+k.toNat*s'+j,none⟩).getD undef,rfl, ?_,λj hj=> ?_⟩
    .rw[ae]
     have:(k.toNat+1)*s'<=rows.length*s':=Aj _ hk
     grind
    .rw[ae]at hj
     obtain⟨y,hy,r⟩:=hc (k.toNat*s'+j) ((rows.getD k.toNat [])[j]'om) (by
      rw[yQ _ _ af hj,A0 hk]
      grind)
     grind
  trivial
 .rename_i id off kd k h1 h2
  rw[h1]at hx;rw[h2]at hi
  split
  .rename_i n s b hs
   obtain⟨el,hu,aa,_⟩:=Io hs
   rintro⟨h0,ab⟩
   obtain⟨bl,hb,hv⟩:=hx
   refine bU.pure h (x:= .pointer (some ⟨bl,off+k.toNat*s,none⟩)) ?_ ⟨bl,hb,rfl⟩
   simp[execOp,hv,yO hi,Instr.indexAt,asIntOf,run_underlying hu,wY aa,h0,ab,wC,Instr.sureAddr]
  trivial
 .rename_i cs off kd k h1 h2
  rw[h1]at hx;rw[h2]at hi
  split
  .rename_i n s b hs
   obtain⟨el,hu,aa,_⟩:=Io hs
   rintro⟨h0,ab⟩
   obtain⟨bl,o',c',hv,hl,hc⟩:=hx
   refine bU.pure h (x:= .pointer (some ⟨bl,o'+(off+k.toNat*s),none⟩)) ?_ ⟨bl,o',c',rfl,hl,hc⟩
   simp[execOp,hv,yO hi,Instr.indexAt,asIntOf,run_underlying hu,wY aa,h0,ab,wC,Instr.sureAddr,Dv]
  trivial
 .rename_i id s n lo m kd k h1 h2
  rw[h1]at hx;rw[h2]at hi
  split
  .rename_i hs
   obtain⟨el,hu,aa⟩:=Lj hs
   rintro⟨h0,ab⟩
   obtain⟨ad,cap,hv,hm,ai,hc⟩:=hx
   obtain⟨b,o,rfl⟩:=ai om
   refine bU.pure h (x:= .pointer (some ⟨b,o+k.toNat*s,none⟩)) ?_ ⟨b,o+k.toNat*s,rfl, ?_⟩
   .simp[execOp,hv,yO hi,Instr.indexAt,asIntOf,run_underlying hu,wY aa,h0,ab,wC]
   grind
  trivial
 .rename_i id s off n kd k h1 h2
  rw[h1]at hx;rw[h2]at hi
  split
  .rename_i hs
   obtain⟨el,hu,aa⟩:=Lj hs
   rintro⟨h0,ab⟩
   obtain⟨bl,hb,hv⟩:=hx
   refine bU.pure h (x:= .pointer (some ⟨bl,off+k.toNat*s,none⟩)) ?_ ⟨bl,hb,rfl⟩
   simp[execOp,hv,yO hi,Instr.indexAt,asIntOf,run_underlying hu,wY aa,h0,ab,wC]
  trivial
 trivial
def u9 (x i:V) (str:Bool) (ar:Option (Nat×Nat×Bool)):R:=
 match x,i with
 | .str b,.int _ k=>if str then .ec (0<=k/\k<b.length) (.int .u8 (b.getD k.toNat 0).toNat)else .fail
 | .agg cs,.int _ k=>(match ar with
  |some (n,s,false)=> .ec (0<=k/\k<n/\(k.toNat*s)<cs.length) (cs.getD (k.toNat*s) .u)
  |_=> .fail)
 |_,_=> .fail
def pH (P:Program) (t:TypeId):Bool:=match P.underlying t with|some .string=>true|_=>false
theorem W6 (h:pH P t):P.underlying t=some .string:=by
 grind[pH]
theorem W7 {pos:String} (t:TypeId) (x i:Operand) (h:dP c nt e I a w L J):
  eZ (u9 (zG e x) (zG e i) (pH P t) (iI P t)) I (bU P c ⟨dst,.index t x i,ty,pos,dX,g⟩ a w L I J):=by
 have hx:=h.eval x
 have hi:=h.eval i
 unfold u9
 split
 .rename_i b kd k h1 h2
  rw[h1]at hx;rw[h2]at hi
  split
  .rename_i hs
   have hu:=W6 hs
   rintro⟨h0,aa⟩
   have hk:k.toNat<b.length:=om
   refine bU.pure h (x:= .int .u8 (b.getD k.toNat 0).toNat) ?_ (cF.int _ _)
   have hg:(ByteArray.mk b.toArray)[k.toNat]? =some (b.getD k.toNat 0):=by
    have:k.toNat<(ByteArray.mk b.toArray).size:=by simpa
    rw[getElem?_pos (ByteArray.mk b.toArray) k.toNat this]
    rw[Ae,A0 hk]
    rfl
   simp[execOp,kU hx,yO hi,Instr.index,asIntOf,run_underlying hu,h0,hg]
  trivial
 .rename_i cs kd k h1 h2
  rw[h1]at hx;rw[h2]at hi
  split
  .rename_i n s hs
   obtain⟨el,hu,ad,ae⟩:=Io hs
   rintro⟨h0,aa,af⟩
   obtain⟨xs,hv,ab⟩:=hx
   obtain⟨y,hy,r⟩:=ab.get (k.toNat*s) _ (A0 af)
   refine bU.pure h (x:=y) ?_ (dt.dH ?_)
   .simp[execOp,hv,yO hi,Instr.index,asIntOf,run_underlying hu,wY ad,h0,aa,part,tS ae,hy]
   grind
  trivial
 trivial
theorem xd (l:ahP):(ByteArray.mk l.toArray).size=l.length:=by rfl
def dI (P:Program) (t:TypeId):Nat:=
 match P.underlying t with
 |some .string=>1
 |some (.slice _)=>2
 |_=>0
theorem Ip (h:dI P t=1):P.underlying t=some .string:=by
 grind[dI]
theorem tT (h:dI P t=2): ∃el,P.underlying t=some (.slice el):=by
 grind[dI]
def xe (k:Nat) (x:V):R:=
 match x with
 | .sl _ rows=>if k=2 then .ok (.int .i64 rows.length)else .fail
 | .str s=>if k=1 then .ok (.int .i64 s.length)else .fail
 | .cJ _ _ _ _ m=>if k=2 then .ok (.int .i64 m)else .fail
 | .jO _ _ _ n=>if k=2 then .ok (.int .i64 n)else .fail
 |_=> .fail
theorem W8 {pos:String} (t:TypeId) (x:Operand) (h:dP c nt e I a w L J):
  eZ (xe (dI P t) (zG e x)) I (bU P c ⟨dst,.call ⟨.builtin .len, #[x], #[t]⟩,ty,pos,dX,g⟩ a w L I J):=by
 have hx:=h.eval x
 unfold xe
 split
 .rename_i gg rows h1
  rw[h1]at hx
  obtain⟨a',cap,hv,_,_⟩:=(rQ hx).len
  split
  .rename_i hk
   obtain⟨el,hu⟩:=tT hk
   exact bU.pure h (x:= .int .i64 rows.length) (by simp_all[execOp,resolve,invoke,builtin,Builtin.len_,run_underlying,goInt]) (cF.int _ _)
  trivial
 .rename_i s h1
  rw[h1]at hx
  split
  .rename_i hk
   exact bU.pure h (x:= .int .i64 s.length) (by simp[execOp,resolve,invoke,builtin,Builtin.len_,kU hx,run_underlying (Ip hk),goInt,xd]) (cF.int _ _)
  trivial
 .rename_i id s n lo m h1
  rw[h1]at hx
  obtain⟨ad,cap,hv,_⟩:=hx
  split
  .rename_i hk
   obtain⟨el,hu⟩:=tT hk
   exact bU.pure h (x:= .int .i64 m) (by simp_all[execOp,resolve,invoke,builtin,Builtin.len_,run_underlying,goInt]) (cF.int _ _)
  trivial
 .rename_i id s off n h1
  rw[h1]at hx
  obtain⟨bl,_,hv⟩:=hx
  split
  .rename_i hk
   obtain⟨el,hu⟩:=tT hk
   exact bU.pure h (x:= .int .i64 n) (by simp_all[execOp,resolve,invoke,builtin,Builtin.len_,run_underlying,goInt]) (cF.int _ _)
  trivial
 trivial
def pI (isMax:Bool):List V->R
 | [.int k x,.int _ y]=> .ok (.int k (if isMax then(if y>x then y else x)else(if y<x then y else x)))
 | [.str x,.str y]=> .ok (.str (if isMax then(if Op.bytesLess x y then y else x)else(if(Op.bytesLess x y||x==y)then x else y)))
 | [.int k x,.int _ y,.int _ z]=> .ok (.int k (if isMax then(let m:=if y>x then y else x;if z>m then z else m)else(let m:=if y<x then y else x;if z<m then z else m)))
 |_=> .fail
theorem Pm {pos:String} (ts:Array TypeId) (xs:List Operand) (isMax:Bool) (h:dP c nt e I a w L J):
  eZ (pI isMax (xs.map (zG e))) I (bU P c ⟨dst,.call ⟨.builtin (if isMax then .max else .min),xs.toArray,ts⟩,ty,pos,dX,g⟩ a w L I J):=by
 unfold pI
 split
 .rename_i k m k' n hl
  obtain⟨x,y,rfl⟩: ∃x y,xs= [x,y]:=by
   cases xs with
   |nil=>grind
   |cons x xs=>cases xs<;>simp_all
  simp at hl
  have e1:=yO (hl.1▸h.eval x);have e2:=yO (hl.2▸h.eval y)
  cases isMax
  .exact bU.pure h (x:= .int k (if n<m then n else m)) (by simp_all[execOp,resolve,invoke,builtin,Builtin.min_,Builtin.min2]) (cF.int _ _)
  .exact bU.pure h (x:= .int k (if n>m then n else m)) (by simp_all[execOp,resolve,invoke,builtin,Builtin.max_,Builtin.max2]) (cF.int _ _)
 .rename_i m n hl
  obtain⟨x,y,rfl⟩: ∃x y,xs= [x,y]:=by
   cases xs with
   |nil=>grind
   |cons x xs=>cases xs<;>simp_all
  simp at hl
  have e1:=kU (hl.1▸h.eval x);have e2:=kU (hl.2▸h.eval y)
  cases isMax
  .refine bU.pure h (x:= .string ⟨(if(Op.bytesLess m n||m==n)then m else n).toArray⟩) ?_ (cF.str _)
   simp[execOp,resolve,invoke,builtin,Builtin.min_,Builtin.min2,e1,e2,Op.stringOp,asBool]
   grind
  .refine bU.pure h (x:= .string ⟨(if Op.bytesLess m n then n else m).toArray⟩) ?_ (cF.str _)
   simp[execOp,resolve,invoke,builtin,Builtin.max_,Builtin.max2,e1,e2,Op.stringOp,asBool]
   grind
 .rename_i k m k' n aa q hl
  obtain⟨x,y,z,rfl⟩: ∃x y z,xs= [x,y,z]:=by
   cases xs with
   |nil=>grind
   |cons x xs=>cases xs with
    |nil=>grind
    |cons y xs=>cases xs<;>simp_all
  simp at hl
  have e1:=yO (hl.1▸h.eval x);have e2:=yO (hl.2.1▸h.eval y);have e3:=yO (hl.2.2▸h.eval z)
  cases isMax
  .exact bU.pure h (x:= .int k (let p:=if n<m then n else m;if q<p then q else p)) (by simp_all[execOp,resolve,invoke,builtin,Builtin.min_,Builtin.min2]) (cF.int _ _)
  .exact bU.pure h (x:= .int k (let p:=if n>m then n else m;if q>p then q else p)) (by simp_all[execOp,resolve,invoke,builtin,Builtin.max_,Builtin.max2]) (cF.int _ _)
 trivial
end
end Go.Vx
