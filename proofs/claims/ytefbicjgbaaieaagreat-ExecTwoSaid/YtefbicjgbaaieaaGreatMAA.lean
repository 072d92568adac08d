/-
  Operations over trees: indexes, slices, lengths, appends, literals, conversions.
  No condition: a library text; nothing of the program is named.
-/
import Derived.WalkKit
import Derived.Deep.AppendSrc
import Derived.Laws.StructEq
import Derived.Laws.BytesArg
import Derived.Laws.IdiomStrings
import Derived.Great.BuildSlice
set_option maxHeartbeats 8000000
namespace Go
theorem afa:type_of% @if_neg:=@if_neg
theorem afb:type_of% @if_pos:=@if_pos
theorem afc:type_of% @decide_eq_false:=@decide_eq_false
theorem afd:type_of% @decide_eq_true:=@decide_eq_true
theorem afe:type_of% @decide_eq_true_eq:=@decide_eq_true_eq
theorem aff:type_of% @congrArg:=@congrArg
theorem afg:type_of% @Option.some.injEq:=@Option.some.injEq
theorem afh:type_of% @beq_iff_eq:=@beq_iff_eq
theorem afi:type_of% @decide_eq_false_iff_not:=@decide_eq_false_iff_not
theorem afj:type_of% @if_true:=@if_true
theorem afk:type_of% @of_decide_eq_true:=@of_decide_eq_true
theorem afl:type_of% @Prod.mk.injEq:=@Prod.mk.injEq
theorem afm:type_of% @List.Nodup.sublist:=@List.Nodup.sublist
theorem afn:type_of% @or_false:=@or_false
theorem afo:type_of% @BitVec.ofInt_natCast:=@BitVec.ofInt_natCast
theorem afp:type_of% @Option.some.inj:=@Option.some.inj
theorem afq:type_of% @of_decide_eq_false:=@of_decide_eq_false
theorem afr:type_of% @BitVec.toNat_ofNat:=@BitVec.toNat_ofNat
theorem afs:type_of% @if_false:=@if_false
theorem afu:type_of% @not_true_eq_false:=@not_true_eq_false
theorem afv:type_of% @List.set_append_left:=@List.set_append_left
theorem afw:type_of% @List.flatMap_append:=@List.flatMap_append
theorem afx:type_of% @List.takeWhile_cons:=@List.takeWhile_cons
theorem afy:type_of% @List.dropWhile_cons:=@List.dropWhile_cons
theorem afz:type_of% @List.Perm.of_eq:=@List.Perm.of_eq
theorem afA:type_of% @getElem!_pos:=@getElem!_pos
theorem afB:type_of% @Int.lt_trichotomy:=@Int.lt_trichotomy
theorem afC:type_of% @Nat.pow_succ:=@Nat.pow_succ
theorem afD:type_of% @List.map_set:=@List.map_set
abbrev afE:=List UInt8
abbrev afF:=List Nat
abbrev afG:=List Value
abbrev afH:=List Int
abbrev afI:=Array Value
abbrev afJ:=List (List UInt8)
abbrev afK:=Option Nat
end Go
namespace Go
theorem om{p:Prop}(h:p:=by omega):p:=h
theorem sg{p:Prop}(h:p:=by simp[go_sem]):p:=h
theorem kR{p:Prop}(h:p:=by kernel_rfl):p:=h
theorem dc{p:Prop}(h:p:=by decide):p:=h
theorem sm{p:Prop}(h:p:=by simp):p:=h
theorem sU{p q:Prop}(h:q)(g:q->p:=by intro h;simpa using h):p:=g h
theorem tV:True:=⟨⟩
theorem A0:type_of% @List.getElem?_eq_getElem:=@List.getElem?_eq_getElem
theorem A1:type_of% @List.getElem?_eq_some_iff:=@List.getElem?_eq_some_iff
theorem A2:type_of% @List.drop_eq_getElem_cons:=@List.drop_eq_getElem_cons
theorem A3:type_of% @Nat.le_refl:=@Nat.le_refl
theorem A4:type_of% @Bool.eq_false_or_eq_true:=@Bool.eq_false_or_eq_true
theorem A5:type_of% @Nat.zero_le:=@Nat.zero_le
theorem A6:type_of% @Bool.and_eq_true:=@Bool.and_eq_true
theorem A7:type_of% @Nat.zero_add:=@Nat.zero_add
theorem A8:type_of% @List.drop_eq_nil_of_le:=@List.drop_eq_nil_of_le
theorem A9:type_of% @List.getD_eq_getElem?_getD:=@List.getD_eq_getElem?_getD
theorem Aa:type_of% @List.getElem_mem:=@List.getElem_mem
theorem Ab:type_of% @List.length_cons:=@List.length_cons
theorem Ac:type_of% @List.mem_map:=@List.mem_map
theorem Ad:type_of% @List.all_eq_true:=@List.all_eq_true
theorem Ae:type_of% @List.mem_cons:=@List.mem_cons
theorem Af:type_of% @Nat.mul_le_mul_right:=@Nat.mul_le_mul_right
theorem Ah:type_of% @List.length_append:=@List.length_append
theorem Ai:type_of% @List.map_cons:=@List.map_cons
theorem Aj:type_of% @List.take_of_length_le:=@List.take_of_length_le
theorem Ak:type_of% @List.getElem?_append_left:=@List.getElem?_append_left
theorem Al:type_of% @Option.map_eq_some_iff:=@Option.map_eq_some_iff
theorem Am:type_of% @Array.getElem?_toList:=@Array.getElem?_toList
theorem An:type_of% @Nat.le_trans:=@Nat.le_trans
theorem Ao:type_of% @Option.bind_some:=@Option.bind_some
theorem Ap:type_of% @List.cons_append:=@List.cons_append
theorem Aq:type_of% @List.all_cons:=@List.all_cons
theorem Ar:type_of% @List.mem_append:=@List.mem_append
theorem As:type_of% @Array.getElem?_eq_getElem:=@Array.getElem?_eq_getElem
theorem Au:type_of% @List.mem_iff_getElem?:=@List.mem_iff_getElem?
theorem Av:type_of% @List.getElem?_take:=@List.getElem?_take
theorem Aw:type_of% @Nat.lt_trichotomy:=@Nat.lt_trichotomy
theorem Ax:type_of% @Int.toNat_natCast:=@Int.toNat_natCast
theorem Ay:type_of% @List.getElem?_append_right:=@List.getElem?_append_right
theorem Az:type_of% @List.drop_zero:=@List.drop_zero
theorem B0:type_of% @Nat.add_mul:=@Nat.add_mul
theorem B1:type_of% @List.mem_cons_self:=@List.mem_cons_self
theorem B2:type_of% @Bool.true_and:=@Bool.true_and
theorem B3:type_of% @List.getElem?_map:=@List.getElem?_map
theorem B4:type_of% @List.not_mem_nil:=@List.not_mem_nil
theorem B5:type_of% @List.eq_nil_of_length_eq_zero:=@List.eq_nil_of_length_eq_zero
theorem B6:type_of% @List.append_nil:=@List.append_nil
theorem B7:type_of% @List.mem_cons_of_mem:=@List.mem_cons_of_mem
theorem B8:type_of% @List.foldl_cons:=@List.foldl_cons
theorem B9:type_of% @List.take_append_drop:=@List.take_append_drop
theorem Ba:type_of% @Option.map_some:=@Option.map_some
theorem Bb:type_of% @List.length_map:=@List.length_map
theorem Bc:type_of% @List.getElem?_set_self:=@List.getElem?_set_self
theorem Bd:type_of% @Array.all_eq_true_iff_forall_mem:=@Array.all_eq_true_iff_forall_mem
theorem Be:type_of% @List.map_map:=@List.map_map
theorem Bf:type_of% @List.length_singleton:=@List.length_singleton
theorem Bg:type_of% @Bool.or_eq_true:=@Bool.or_eq_true
theorem Bh:type_of% @List.mem_of_getElem?:=@List.mem_of_getElem?
theorem Bi:type_of% @Nat.not_succ_le_self:=@Nat.not_succ_le_self
theorem Bj:type_of% @Bool.false_or:=@Bool.false_or
theorem Bk:type_of% @List.map_nil:=@List.map_nil
theorem Bl:type_of% @List.take_succ_cons:=@List.take_succ_cons
theorem Bm:type_of% @List.nodup_range:=@List.nodup_range
theorem Bn:type_of% @List.ext_getElem?:=@List.ext_getElem?
theorem Bo:type_of% @Nat.lt_or_ge:=@Nat.lt_or_ge
theorem Bp:type_of% @List.nil_append:=@List.nil_append
theorem Bq:type_of% @List.map_congr_left:=@List.map_congr_left
theorem Br:type_of% @List.drop_succ_cons:=@List.drop_succ_cons
theorem Bs:type_of% @List.exists_cons_of_ne_nil:=@List.exists_cons_of_ne_nil
theorem Bt:type_of% @Bool.not_eq_true':=@Bool.not_eq_true'
theorem Bu:type_of% @List.append_assoc:=@List.append_assoc
theorem Bv:type_of% @List.set_cons_succ:=@List.set_cons_succ
theorem Bw:type_of% @List.getElem?_drop:=@List.getElem?_drop
theorem Bx:type_of% @Int.cast_ofNat_Int:=@Int.cast_ofNat_Int
theorem By:type_of% @List.pairwise_cons:=@List.pairwise_cons
theorem Bz:type_of% @List.mem_range:=@List.mem_range
theorem C0:type_of% @List.nodup_cons:=@List.nodup_cons
theorem C1:type_of% @List.filter_sublist:=@List.filter_sublist
theorem C2:type_of% @Nat.div_lt_iff_lt_mul:=@Nat.div_lt_iff_lt_mul
theorem C3:type_of% @List.pairwise_map:=@List.pairwise_map
theorem C4:type_of% @List.mem_singleton:=@List.mem_singleton
theorem C5:type_of% @List.mem_filter:=@List.mem_filter
theorem C6:type_of% @List.take_left':=@List.take_left'
theorem C7:type_of% @List.length_drop:=@List.length_drop
theorem C8:type_of% @List.drop_of_length_le:=@List.drop_of_length_le
theorem C9:type_of% @List.flatten_append:=@List.flatten_append
theorem Ca:type_of% @List.nodup_nil:=@List.nodup_nil
theorem Cb:type_of% @Nat.le_of_ble_eq_true:=@Nat.le_of_ble_eq_true
theorem Cc:type_of% @List.getElem?_cons_succ:=@List.getElem?_cons_succ
theorem Cd:type_of% @List.drop_length:=@List.drop_length
theorem Ce:type_of% @List.take_succ_eq_append_getElem:=@List.take_succ_eq_append_getElem
theorem Cf:type_of% @Array.getElem?_eq_some_iff:=@Array.getElem?_eq_some_iff
theorem Cg:type_of% @List.takeWhile_append_dropWhile:=@List.takeWhile_append_dropWhile
theorem Ch:type_of% @List.flatMap_cons:=@List.flatMap_cons
theorem Ci:type_of% @Array.length_toList:=@Array.length_toList
theorem Cj:type_of% @Nat.mod_lt:=@Nat.mod_lt
theorem Ck:type_of% @Bool.false_eq_true:=@Bool.false_eq_true
theorem Cl:type_of% @List.set_cons_zero:=@List.set_cons_zero
theorem Cm:type_of% @Nat.mod_eq_of_lt:=@Nat.mod_eq_of_lt
theorem Cn:type_of% @List.drop_drop:=@List.drop_drop
theorem Co:type_of% @List.pairwise_append:=@List.pairwise_append
theorem Cp:type_of% @List.take_add_one:=@List.take_add_one
theorem Cq:type_of% @Nat.div_add_mod:=@Nat.div_add_mod
theorem Cr:type_of% @List.map_append:=@List.map_append
theorem Cs:type_of% @List.getElem?_range:=@List.getElem?_range
theorem Ct:type_of% @List.getElem_of_mem:=@List.getElem_of_mem
theorem Cu:type_of% @Nat.zero_mul:=@Nat.zero_mul
theorem Cv:type_of% @List.takeWhile_cons_of_pos:=@List.takeWhile_cons_of_pos
theorem Cw:type_of% @List.filter_cons:=@List.filter_cons
theorem Cx:type_of% @List.length_take:=@List.length_take
theorem Cy:type_of% @List.take_zero:=@List.take_zero
theorem Cz:type_of% @Classical.byContradiction:=@Classical.byContradiction
theorem D0:type_of% @Nat.one_mul:=@Nat.one_mul
theorem D1:type_of% @List.mem_of_mem_take:=@List.mem_of_mem_take
theorem D2:type_of% @Nat.add_zero:=@Nat.add_zero
theorem D3:type_of% @Nat.le_of_eq:=@Nat.le_of_eq
theorem D4:type_of% @List.length_nil:=@List.length_nil
theorem D5:type_of% @Bool.true_or:=@Bool.true_or
theorem D6:type_of% @List.all_nil:=@List.all_nil
theorem D7:type_of% @List.flatten_cons:=@List.flatten_cons
theorem D8:type_of% @List.foldl_append:=@List.foldl_append
theorem D9:type_of% @List.filter_eq_self:=@List.filter_eq_self
theorem Da:type_of% @List.perm_middle:=@List.perm_middle
theorem Db:type_of% @Nat.lt_of_lt_of_le:=@Nat.lt_of_lt_of_le
theorem Dc:type_of% @List.getElem?_eq_none:=@List.getElem?_eq_none
theorem Dd:type_of% @Nat.min_eq_left:=@Nat.min_eq_left
theorem De:type_of% @List.length_filter_le:=@List.length_filter_le
theorem Df:type_of% @Array.getElem?_append_left:=@Array.getElem?_append_left
theorem Dg:type_of% @List.perm_ext_iff_of_nodup:=@List.perm_ext_iff_of_nodup
theorem Dh:type_of% @List.getElem?_set_ne:=@List.getElem?_set_ne
theorem Di:type_of% @List.mem_append_left:=@List.mem_append_left
theorem Dj:type_of% @List.mem_or_eq_of_mem_set:=@List.mem_or_eq_of_mem_set
theorem Dk:type_of% @Bool.false_and:=@Bool.false_and
theorem Dl:type_of% @Nat.mul_comm:=@Nat.mul_comm
theorem Dm:type_of% @List.getElem_inj:=@List.getElem_inj
theorem Dn:type_of% @List.getElem_map:=@List.getElem_map
theorem Do:type_of% @Int.eq_ofNat_of_zero_le:=@Int.eq_ofNat_of_zero_le
theorem Dp:type_of% @Nat.add_assoc:=@Nat.add_assoc
theorem Dq:type_of% @Bool.and_true:=@Bool.and_true
theorem Dr:type_of% @List.zip_cons_cons:=@List.zip_cons_cons
theorem Ds:type_of% @List.contains_cons:=@List.contains_cons
theorem Dt:type_of% @Int.emod_lt_of_pos:=@Int.emod_lt_of_pos
theorem Du:type_of% @Nat.le_succ:=@Nat.le_succ
theorem Dv:type_of% @List.nodup_append:=@List.nodup_append
theorem Dw:type_of% @Nat.add_comm:=@Nat.add_comm
theorem Dx:type_of% @List.map_id':=@List.map_id'
theorem Dy:type_of% @Bool.or_true:=@Bool.or_true
theorem Dz:type_of% @List.drop_append:=@List.drop_append
theorem E0:type_of% @Bool.not_true:=@Bool.not_true
theorem E4:type_of% @List.all_append:=@List.all_append
theorem E5:type_of% @Int.emod_nonneg:=@Int.emod_nonneg
end Go
namespace Go.Vx
open Go
inductive Tag where
 |ro
 |full
 |app (id:Nat)
 deriving DecidableEq
inductive V where
 |u
 |bool (b:Bool)
 |int (k:IntKind) (n:Int)
 |str (s:afE)
 |raw (v:Value)
 |fq
 |ptr (id off:Nat)
 |sl (g:Tag) (rows:List (List V))
 |nC (cells:List V) (off:Nat)
 |fn (f:FuncId) (bU:List V)
 |agg (cells:List V)
 |cm (vs:List V)
 |cJ (id s n lo m:Nat)
 |iE (id s n k j:Nat)
 |jB (id s off n:Nat)
 |mp (id:Nat)
 |gy (t:Nat) (vs:List V)
instance:Inhabited V:=⟨.u⟩
variable {J:Type}{I:Type}
def bL {J I:Type} (R:J->I->Prop):List J->List I->Prop
 | [],[]=>True
 |a::az,b::bs=>R a b/\bL R az bs
 |_,_=>False
theorem bL.length {R:J->I->Prop}: ∀{l:List J} {m:List I},bL R l m->l.length=m.length
 | [],[],_=>rfl
 |_::_,_::_,h=>by simp[bL.length h.2]
 | [],_::_,h=>h.elim
 |_::_,[],h=>h.elim
theorem bL.imp {R S:J->I->Prop} (aa: ∀a b,R a b->S a b): ∀{l:List J} {m:List I},bL R l m->bL S l m
 | [],[],_=>trivial
 |_::_,_::_,h=>⟨aa _ _ h.1,bL.imp aa h.2⟩
 | [],_::_,h=>h.elim
 |_::_,[],h=>h.elim
theorem bL.get {R:J->I->Prop}: ∀{l:List J} {m:List I} (i:Nat) (a:J),bL R l m->l[i]? =some a-> ∃b,m[i]? =some b/\R a b
 |a::_,b::_,0,_,h,e=>⟨b,rfl,by simp at e;exact e▸h.1⟩
 |_::_,_::_,i+1,_,h,e=>by
  obtain⟨b,hb,r⟩:=bL.get i _ h.2 (sU e)
  grind
 | [],[],_,_,_,e=>by grind
 | [],_::_,_,_,h,_=>h.elim
 |_::_,[],_,_,h,_=>h.elim
theorem bL.of {R:J->I->Prop}: ∀{l:List J} {m:List I},l.length=m.length->(∀(i:Nat) a b,l[i]? =some a->m[i]? =some b->R a b)->bL R l m
 | [],[],_,_=>trivial
 |a::l,b::m,hl,h=>⟨h 0 a b rfl rfl,bL.of (by grind) λi x y hx hy=>h (i+1) x y (by grind) (by grind)⟩
 | [],_::_,hl,_=>by grind
 |_::_,[],hl,_=>by grind
theorem bL.append {R:J->I->Prop}: ∀{l:List J} {m:List I} {l':List J} {m':List I},bL R l m->bL R l' m'->bL R (l++l') (m++m')
 | [],[],_,_,_,h'=>h'
 |_::_,_::_,_,_,h,h'=>⟨h.1,bL.append h.2 h'⟩
 | [],_::_,_,_,h,_=>h.elim
 |_::_,[],_,_,h,_=>h.elim
theorem bL.take {R:J->I->Prop}: ∀{l:List J} {m:List I} (n:Nat),bL R l m->bL R (l.take n) (m.take n)
 | [],[],n,_=>by grind
 |_::_,_::_,0,_=>trivial
 |_::_,_::_,n+1,h=>⟨h.1,bL.take n h.2⟩
 | [],_::_,_,h=>h.elim
 |_::_,[],_,h=>h.elim
theorem bL.drop {R:J->I->Prop}: ∀{l:List J} {m:List I} (n:Nat),bL R l m->bL R (l.drop n) (m.drop n)
 | [],[],n,_=>by grind
 |_::_,_::_,0,h=>h
 |_::_,_::_,n+1,h=>bL.drop n h.2
 | [],_::_,_,h=>h.elim
 |_::_,[],_,h=>h.elim
theorem UR {i j n s:Nat} (hi:i<n) (hj:j<s):i*s+j<n*s:=by
 have h:(i+1)*s<=n*s:=Af s hi
 grind
inductive cq (w:World) (L:Nat->Nat):V->Value->Prop
 |bool (b:Bool):cq w L (.bool b) (.bool b)
 |int (k:IntKind) (n:Int):cq w L (.int k n) (.int k n)
 |str (s:afE):cq w L (.str s) (.string ⟨s.toArray⟩)
 |raw (v:Value) (h:v.oneCell'):cq w L (.raw v) v
 |fq:cq w L .fq (.pointer none)
 |iF (g:Tag) (a:Option Addr) (cap:Nat) (hg:g= .full->cap=0) (ha: ∀id,g≠ .app id):cq w L (.sl g []) (.slice a 0 cap)
 |sl (g:Tag) (rows:List (List V)) (s b o cap:Nat) (c:Nat->Nat->Value) (ha: ∀id,g≠ .app id)
   (hs:0<s) (hlen: ∀r∈rows,r.length=s) (e9:o+rows.length*s<=L b) (cQ:rows.length<=cap) (hg:g= .full->cap=rows.length)
   (hc: ∀i j,i<rows.length->j<s->w.cell? ⟨b,o+i*s+j,none⟩=some (c i j))
   (hr: ∀i j (hi:i<rows.length) (hj:j<rows[i].length),cq w L (rows[i][j]) (c i j)):
   cq w L (.sl g rows) (.slice (some ⟨b,o,none⟩) rows.length cap)
structure Le (w:World) (L:Nat->Nat) (w':World) (L':Nat->Nat):Prop where
 lim: ∀b,L b<=L' b
 cell: ∀b o,o<L b->w'.cell? ⟨b,o,none⟩=w.cell? ⟨b,o,none⟩
theorem Le.refl (w:World) (L:Nat->Nat):Le w L w L:=⟨om,sm⟩
theorem Le.trans {w1 w2 w3:World} {L1 L2 L3:Nat->Nat} (h:Le w1 L1 w2 L2) (k:Le w2 L2 w3 L3):Le w1 L1 w3 L3:=
 ⟨λb=>An (h.lim b) (k.lim b),λb o ho=>(k.cell b o (Db ho (h.lim b))).trans (h.cell b o ho)⟩
theorem cq.mono {w w':World} {L L':Nat->Nat} (h:Le w L w' L') {v:V} {x:Value} (r:cq w L v x):cq w' L' v x:=by
 induction r with
 |bool b=>exact .bool b
 |int k n=>exact .int k n
 |str s=>exact .str s
 |raw v hv=>exact .raw v hv
 |fq=>exact .fq
 |iF g a cap hg ha=>exact .iF g a cap hg ha
 |sl g rows s b o cap c ha hs hlen e9 cQ hg hc hr ih=>
  refine .sl g rows s b o cap c ha hs hlen (An e9 (h.lim b)) cQ hg (λi j hi hj=> ?_) ih
  rw[h.cell b _ (by have:=UR hi hj;omega)]
  grind
theorem cq.dj {w:World} {L:Nat->Nat} {v:V} {x:Value} (r:cq w L v x):x.oneCell'=true:=by
 cases r<;>first|rfl|assumption
inductive Ob where
 |box (cells:List V)
 |app (n s:Nat)
 |cc (rows:List (List V)) (s:Nat)
 |dead
 |mp (di:List V) (fN:afF) (cD:Nat)
 |it (m:afK) (since:Nat) (seen:afF) (last:Nat)
abbrev St:=List Ob
def gj (w:World) (L:Nat->Nat) (U:St) (I:afG):V->Value->Prop
 | .u,x=>x.oneCell'=true
 | .ptr id off,x=> ∃b,I[id]? =some (.pointer (some ⟨b,0,none⟩))/\x= .pointer (some ⟨b,off,none⟩)
 | .sl (.app id) rows,x=>cq w L (.sl .ro rows) x/\ ∃n s,U[id]? =some (.app n s)/\rows.length<=n/\(rows.length=n->I[id]? =some x)/\(∀r∈rows,r.length=s)
 | .nC cells off,x=> ∃(b o:Nat) (c:Nat->Value),x= .pointer (some ⟨b,o+off,none⟩)/\o+cells.length<=L b/\ ∀j (hj:j<cells.length),w.cell? ⟨b,o+j,none⟩=some (c j)/\cq w L cells[j] (c j)
 | .cJ id s n lo m,x=> ∃a cap,x= .slice a m cap/\(m<=cap/\n<=lo+cap)/\(0<cap-> ∃b o,a=some ⟨b,o,none⟩)/\
   (U[id]? =some .dead\/ ∃rows,U[id]? =some (.cc rows s)/\n<=rows.length/\(n=rows.length-> ∃b c0,I[id]? =some (.slice b n c0)/\cap=c0 - lo/\lo<=c0/\(lo<c0-> ∃k,b=some ⟨k,0,none⟩/\a=some ⟨k,lo*s,none⟩)))
 | .iE id s n k j,x=> ∃b o,x= .pointer (some ⟨b,o,none⟩)/\
   (U[id]? =some .dead\/ ∃rows,U[id]? =some (.cc rows s)/\n<=rows.length/\(n=rows.length->k<n-> ∃c0,I[id]? =some (.slice (some ⟨b,0,none⟩) n c0)/\o=k*s+j))
 | .jB id _ off n,x=> ∃b,I[id]? =some (.pointer (some ⟨b,0,none⟩))/\x= .slice (some ⟨b,off,none⟩) n n
 | .mp id,x=> ∃b,I[id]? =some (.pointer (some ⟨b,0,none⟩))/\x= .map (some b)
 | .fn _ _,_=>False
 | .agg _,_=>False
 | .cm _,_=>False
 | .gy _ _,_=>False
 |v,x=>cq w L v x
def cN (w:World) (L:Nat->Nat) (U:St) (I:afG):V->Value->Prop
 | .fn f bU,x=> ∃xs:afG,x= .func (.func f) #[] xs.toArray/\bL (gj w L U I) bU xs
 | .gy t vs,x=> ∃y,x= .iface t y/\bL (gj w L U I) vs [y]
 |v,x=>gj w L U I v x
def dF (w:World) (L:Nat->Nat) (U:St) (I:afG):V->Value->Prop
 | .agg cs,x=> ∃xs:afG,x= .agg xs.toArray/\bL (cN w L U I) cs xs
 |v,x=>cN w L U I v x
def cV (w:World) (L:Nat->Nat) (U:St) (I:afG):V->Value->Prop
 | .u,_=>True
 | .cm vs,x=> ∃xs:afG,x= .tuple xs.toArray/\bL (dF w L U I) vs xs
 |v,x=>dF w L U I v x
structure Ext (U:St) (I:afG) (U':St) (I':afG):Prop where
 ptr: ∀(id:Nat) a,I[id]? =some (.pointer a)->I'[id]? =some (.pointer a)
 app: ∀(id:Nat) n s,U[id]? =some (.app n s)-> ∃n',U'[id]? =some (.app n' s)/\n<=n'/\(n'=n->I'[id]? =I[id]?)
 cc: ∀(id:Nat) rows s,U[id]? =some (.cc rows s)->U'[id]? =some .dead\/ ∃eY,U'[id]? =some (.cc eY s)/\rows.length<=eY.length/\(eY.length=rows.length->I'[id]? =I[id]?)
 dead: ∀(id:Nat),U[id]? =some .dead->U'[id]? =some .dead
theorem Ext.refl (U:St) (I:afG):Ext U I U I:=⟨sm,(by grind),(by grind),λ_ h=>h⟩
theorem Ext.trans {U1 U2 U3:St} {I1 I2 I3:afG} (h:Ext U1 I1 U2 I2) (k:Ext U2 I2 U3 I3):Ext U1 I1 U3 I3:=by
 refine⟨λid a e=>k.ptr id a (h.ptr id a e),λid n s e=> ?_,λid rows s e=> ?_,λid e=>k.dead id (h.dead id e)⟩
 .obtain⟨n2,e2,l2,p2⟩:=h.app id n s e
  obtain⟨n3,e3,l3,p3⟩:=k.app id n2 s e2
  grind
 .rcases h.cc id rows s e with e2|⟨r2,e2,l2,p2⟩
  .exact .inl (k.dead id e2)
  .rcases k.cc id r2 s e2 with e3|⟨r3,e3,l3,p3⟩
   all_goals grind
section
variable {w w':World} {L L':Nat->Nat} {U U':St} {I I':afG}
variable {x:Value}
theorem gj.mono (h:Le w L w' L') (k:Ext U I U' I') {v:V} (r:gj w L U I v x):gj w' L' U' I' v x:=by
 cases v with
 |u=>exact r
 |ptr id off=>obtain⟨b,hb,hx⟩:=r;exact⟨b,k.ptr _ _ hb,hx⟩
 |sl g rows=>
  cases g with
  |app id=>
   obtain⟨hr,n,s,cv,hle,cR,hl⟩:=r
   obtain⟨n',aa,hn,ab⟩:=k.app id n s cv
   refine⟨hr.mono h,n',s,aa,om,λe=> ?_,hl⟩
   grind
  |ro=>exact cq.mono h r
  |full=>exact cq.mono h r
 |nC cells off=>
  obtain⟨b,o,c,hx,hl,hc⟩:=r
  refine⟨b,o,c,hx,An hl (h.lim b),λj hj=> ?_⟩
  obtain⟨h1,h2⟩:=hc j hj
  exact⟨by rw[h.cell b _ om];exact h1,h2.mono h⟩
 |cJ id s n lo m=>
  obtain⟨a,cap,hx,hm,ha,hc⟩:=r
  refine⟨a,cap,hx,hm,ha, ?_⟩
  rcases hc with hd|⟨rows,cv,hn,hb⟩
  .exact .inl (k.dead id hd)
  .rcases k.cc id rows s cv with hd|⟨r2,e2,l2,p2⟩
   all_goals grind
 |iE id s n i j=>
  obtain⟨b,o,hx,hc⟩:=r
  refine⟨b,o,hx, ?_⟩
  rcases hc with hd|⟨rows,cv,hn,hb⟩
  .exact .inl (k.dead id hd)
  .rcases k.cc id rows s cv with hd|⟨r2,e2,l2,p2⟩
   all_goals grind
 |jB id s off n=>obtain⟨b,hb,hx⟩:=r;exact⟨b,k.ptr _ _ hb,hx⟩
 |mp id=>obtain⟨b,hb,hx⟩:=r;exact⟨b,k.ptr _ _ hb,hx⟩
 |fn f bU=>exact r
 |gy t v=>exact r
 |agg cs=>exact r
 |cm vs=>exact r
 |bool b=>exact cq.mono h r
 |int k n=>exact cq.mono h r
 |str s=>exact cq.mono h r
 |raw v=>exact cq.mono h r
 |fq=>exact cq.mono h r
theorem cN.mono (h:Le w L w' L') (k:Ext U I U' I') {v:V} (r:cN w L U I v x):cN w' L' U' I' v x:=by
 cases v with
 |fn f bU=>obtain⟨xs,hx,hc⟩:=r;exact⟨xs,hx,hc.imp (by grind[gj.mono])⟩
 |gy t v=>obtain⟨y,hx,hc⟩:=r;exact⟨y,hx,hc.imp (by grind[gj.mono])⟩
 |_=>simp only[cN]at r⊢;exact gj.mono h k r
theorem dF.mono (h:Le w L w' L') (k:Ext U I U' I') {v:V} (r:dF w L U I v x):dF w' L' U' I' v x:=by
 cases v with
 |agg cs=>obtain⟨xs,hx,hc⟩:=r;exact⟨xs,hx,hc.imp (by grind[cN.mono])⟩
 |_=>simp only[dF]at r⊢;exact cN.mono h k r
theorem cV.mono (h:Le w L w' L') (k:Ext U I U' I') {v:V} (r:cV w L U I v x):cV w' L' U' I' v x:=by
 cases v with
 |u=>trivial
 |cm vs=>obtain⟨xs,hx,hc⟩:=r;exact⟨xs,hx,hc.imp (by grind[dF.mono])⟩
 |_=>simp only[cV]at r⊢;exact dF.mono h k r
theorem gj.dj {v:V} (r:gj w L U I v x):x.oneCell'=true:=by
 cases v with
 |u=>exact r
 |ptr id off=>obtain⟨b,_,rfl⟩:=r;rfl
 |sl g rows=>cases g with
  |app id=>exact r.1.dj
  |ro=>exact cq.dj r
  |full=>exact cq.dj r
 |nC cells off=>obtain⟨b,o,c,rfl,_⟩:=r;rfl
 |cJ id s n lo m=>obtain⟨a,cap,rfl,_⟩:=r;rfl
 |iE id s n k j=>obtain⟨b,o,rfl,_⟩:=r;rfl
 |jB id s off n=>obtain⟨b,_,rfl⟩:=r;rfl
 |mp id=>obtain⟨b,_,rfl⟩:=r;rfl
 |fn f bU=>trivial
 |gy t v=>trivial
 |agg cs=>trivial
 |cm vs=>trivial
 |_=>simp only[gj]at r;exact cq.dj r
theorem cN.dj {v:V} (r:cN w L U I v x):x.oneCell'=true:=by
 cases v with
 |fn f bU=>obtain⟨xs,rfl,_⟩:=r;rfl
 |gy t v=>obtain⟨y,rfl,_⟩:=r;rfl
 |_=>simp only[cN]at r;exact gj.dj r
theorem cN.cS {v:V} (r:cq w L v x):cN w L U I v x:=by
 cases r with
 |iF g a cap hg ha=>cases g with
  |app id=>grind
  |ro=>exact .iF _ a cap hg ha
  |full=>exact .iF _ a cap hg ha
 |sl g rows s b o cap c ha hs hlen e9 cQ hg hc hr=>cases g with
  |app id=>grind
  |ro=>exact .sl _ rows s b o cap c ha hs hlen e9 cQ hg hc hr
  |full=>exact .sl _ rows s b o cap c ha hs hlen e9 cQ hg hc hr
 |bool b=>exact cq.bool b
 |int k n=>exact cq.int k n
 |str s=>exact cq.str s
 |raw _ hv=>exact cq.raw _ hv
 |fq=>exact cq.fq
theorem dF.df {v:V} (r:cN w L U I v x):dF w L U I v x:=by
 cases v<;>first|exact r|(simp only[dF];exact r)|exact r.elim
theorem cV.df {v:V} (r:cN w L U I v x):cV w L U I v x:=by
 cases v<;>first|exact r|exact r.elim|trivial
theorem cV.kG {v:V} (r:dF w L U I v x):cV w L U I v x:=by
 cases v<;>first|exact r|exact r.elim|trivial
end
theorem eX {J:Sort _} (a:J): ∃b,a=b:=⟨a,rfl⟩
def fa:List (Nat×List V):= []
def qN:List (Nat×IntKind):= [(0,.i64)]
abbrev Env:=Nat->V
def dK (e:Env) (d:Nat) (v:V):Env:=λt=>if t=d then v else e t
def jC:Env:=λ_=> .u
structure Ctx where
 w0:World
 L0:Nat->Nat
 X0:afF
 bT:St
 β0:afG
def cI:Ob->Value->afK
 | .box _,.pointer (some a)=>some a.block
 | .app n _,.slice (some a) _ cap=>if n<cap then some a.block else none
 | .cc _ _,.slice (some a) _ cap=>if 0<cap then some a.block else none
 | .mp _ _ _,.pointer (some a)=>some a.block
 | .it _ _ _ _,.pointer (some a)=>some a.block
 |_,_=>none
def vw (arr:afI) (fz:Nat×Nat):Prop:= ∀o,o<arr.size-> ¬(fz.1<=o/\o<fz.2)
def fF (s:Nat) (arr:afI) (fz:Nat×Nat):Prop:=vw arr fz/\(s=1\/ ¬(fz.1<=arr.size/\arr.size<fz.2))
def oF (es:Array MapEntry):afG:=es.toList.flatMap λe=> [e.key,e.val]
theorem Oy (s:Nat) (arr:afI):fF s arr (0,0):=⟨λq _ hq=>om,om⟩
theorem fF.size {s:Nat} {arr aa:afI} {fz:Nat×Nat} (h:fF s arr fz) (e:aa.size=arr.size):fF s aa fz:=⟨λq hq=>h.1 q om,by rw[e];exact h.2⟩
def gz (w:World) (L:Nat->Nat) (U:St) (I:afG):Ob->Value->Prop
 | .box cells,x=> ∃b arr T fz,x= .pointer (some ⟨b,0,none⟩)/\w.heap[b]? =some (.cells arr T fz)/\vw arr fz/\L b=0/\bL (cN w L U I) cells arr.toList
 | .app n s,x=> ∃a cap,x= .slice a n cap/\n<=cap/\0<s/\(n<cap-> ∃b o arr T fz,a=some ⟨b,o,none⟩/\w.heap[b]? =some (.cells arr T fz)/\vw arr fz/\o+cap*s<=arr.size/\L b=o+n*s)
 | .cc rows s,x=> ∃a cap,x= .slice a rows.length cap/\rows.length<=cap/\0<s/\(∀r∈rows,r.length=s)/\
   (0<cap-> ∃b arr T fz,a=some ⟨b,0,none⟩/\w.heap[b]? =some (.cells arr T fz)/\fF s arr fz/\cap*s<=arr.size/\L b=0/\bL (cN w L U I) rows.flatten (arr.toList.take (rows.length*s)))
 | .dead,_=>True
 | .mp di fN cD,x=> ∃b es,x= .pointer (some ⟨b,0,none⟩)/\w.heap[b]? =some (.map es cD)/\L b=0/\bL (dF w L U I) di (oF es)/\es.toList.map (·.born)=fN
 | .it m since seen last,x=> ∃b mo,x= .pointer (some ⟨b,0,none⟩)/\w.heap[b]? =some (.mapIter mo since seen.toArray last)/\L b=0/\
   (match m with|none=>mo=none|some id=> ∃r,I[id]? =some (.pointer (some ⟨r,0,none⟩))/\mo=some r)
def US (w:World) (L:Nat->Nat) (g:Nat) (cells:List V):Prop:=cells.length<=L g/\ ∃c:Nat->Value,∀j (hj:j<cells.length),w.cell? ⟨g,j,none⟩=some (c j)/\cq w L cells[j] (c j)
structure gH (w:World) (L:Nat->Nat):Prop where
 iY: ∀p∈fa,US w L p.1 p.2
 num: ∀p∈qN,1<=L p.1/\ ∃m,w.cell? ⟨p.1,0,none⟩=some (.int p.2 m)
theorem gH.mono {w w':World} {L L':Nat->Nat} (h:Le w L w' L') (r:gH w L):gH w' L':=by
 refine⟨λp hp=>(by trivial),λp hp=> ?_⟩
 obtain⟨h1,m,h2⟩:=r.num p hp
 exact⟨An h1 (h.lim _),m,by rw[h.cell _ 0 om];exact h2⟩
structure Mem (c:Ctx) (w:World) (L:Nat->Nat) (U:St) (I:afG):Prop where
 len:I.length=U.length
 cO: ∀(i:Nat) o x,U[i]? =some o->I[i]? =some x->gz w L U I o x
 apart: ∀(i j:Nat) o o' x x' b,i≠j->U[i]? =some o->I[i]? =some x->U[j]? =some o'->I[j]? =some x'->cI o x=some b->cI o' x'≠some b
 fy: ∀(i:Nat) o x b,U[i]? =some o->I[i]? =some x->cI o x=some b->c.w0.heap.size<=b\/b∈c.X0
 same: ∀b,b<c.w0.heap.size->b∉c.X0->w.heap[b]? =c.w0.heap[b]? /\L b=c.L0 b
 le:Le c.w0 c.L0 w L
 size:c.w0.heap.size<=w.heap.size
 os:w.os=c.w0.os
 tape:w.tape=c.w0.tape
 output:w.output=c.w0.output
 drawn:c.w0.drawn<=w.drawn
 lim: ∀b,w.heap.size<=b->L b=0
 ext:Ext c.bT c.β0 U I
 iY:gH c.w0 c.L0
theorem gz.step {w w':World} {L L':Nat->Nat} {U U':St} {I I':afG} {o:Ob} {x:Value} (h:Le w L w' L') (k:Ext U I U' I')
  (hb: ∀b,cI o x=some b->w'.heap[b]? =w.heap[b]? /\L' b=L b) (r:gz w L U I o x):gz w' L' U' I' o x:=by
 cases o with
 |box cells=>
  obtain⟨b,arr,T,fz,rfl,hh,hf,hl,hc⟩:=r
  obtain⟨e1,e2⟩:=hb b rfl
  exact⟨b,arr,T,fz,rfl,e1.trans hh,hf,e2.trans hl,hc.imp (by grind[cN.mono])⟩
 |app n s=>
  obtain⟨a,cap,rfl,hn,hs,hx⟩:=r
  refine⟨a,cap,rfl,hn,hs,λaa=> ?_⟩
  obtain⟨b,o,arr,T,fz,rfl,hh,hf,ab,hl⟩:=hx aa
  obtain⟨e1,e2⟩:=hb b (by simp[cI,aa])
  grind
 |cc rows s=>
  obtain⟨a,cap,rfl,hn,hs,hu,hx⟩:=r
  refine⟨a,cap,rfl,hn,hs,hu,λaa=> ?_⟩
  obtain⟨b,arr,T,fz,rfl,hh,hf,ab,hl,hc⟩:=hx aa
  obtain⟨e1,e2⟩:=hb b (by simp[cI,aa])
  exact⟨b,arr,T,fz,rfl,e1.trans hh,hf,ab,e2.trans hl,hc.imp (by grind[cN.mono])⟩
 |dead=>trivial
 |mp di fN cD=>
  obtain⟨b,es,rfl,hh,hl,hc,ad⟩:=r
  obtain⟨e1,e2⟩:=hb b rfl
  exact⟨b,es,rfl,e1.trans hh,e2.trans hl,hc.imp (by grind[dF.mono]),ad⟩
 |it m since seen last=>
  obtain⟨b,mo,rfl,hh,hl,hc⟩:=r
  obtain⟨e1,e2⟩:=hb b rfl
  refine⟨b,mo,rfl,e1.trans hh,e2.trans hl, ?_⟩
  cases m with
  |none=>exact hc
  |some id=>obtain⟨q,hq,hm⟩:=hc;exact⟨q,k.ptr _ _ hq,hm⟩
theorem gz.dY {w:World} {L:Nat->Nat} {U:St} {I:afG} {o:Ob} {x:Value} {b:Nat} (r:gz w L U I o x) (h:cI o x=some b):b<w.heap.size:=by
 cases o with
 |box cells=>
  obtain⟨b',arr,T,fz,rfl,hh,_⟩:=r
  grind[cI]
 |app n s=>
  obtain⟨a,cap,rfl,hn,hs,hx⟩:=r
  cases a<;>grind[cI]
 |cc rows s=>
  obtain⟨a,cap,rfl,hn,hs,hu,hx⟩:=r
  cases a<;>grind[cI]
 |dead=>trivial
 |mp di fN cD=>
  obtain⟨b',es,rfl,hh,_⟩:=r
  grind[cI]
 |it m since seen last=>
  obtain⟨b',mo,rfl,hh,_⟩:=r
  grind[cI]
section
variable {c:Ctx} {w:World} {L:Nat->Nat} {U:St} {I:afG}
variable {i:Nat}{J:Type}{cells:List V}
theorem Mem.drew (h:Mem c w L U I):Mem c w.drew L U I/\Le w L w.drew L:=by
 have hle:Le w L w.drew L:=⟨om,sm⟩
 refine⟨⟨h.len,λi o x hi hx=>(h.cO i o x hi hx).step hle (Ext.refl _ _) λb hb=>(by trivial),h.apart,h.fy,h.same,h.le.trans hle,h.size,h.os,h.tape,h.output,Nat.le_succ_of_le h.drawn,h.lim,h.ext,h.iY⟩,hle⟩
def xE (L:Nat->Nat) (b n:Nat):Nat->Nat:=λk=>if k=b then n else L k
theorem yH (w:World) (o:Go.Obj):(w.alloc o).heap[w.heap.size]? =some o:=by
 show(w.heap.push o)[w.heap.size]? =_
 simp
theorem Kl (w:World) (o:Go.Obj) {k:Nat} (h:k<w.heap.size):(w.alloc o).heap[k]? =w.heap[k]? :=by
 show(w.heap.push o)[k]? =_
 grind
theorem za {w w':World} {b:Nat} (h:w'.heap[b]? =w.heap[b]?) (o:Nat):w'.cell? ⟨b,o,none⟩=w.cell? ⟨b,o,none⟩:=by
 grind[World.cell?]
theorem Mem.alloc (h:Mem c w L U I) (o:Go.Obj) (m:Nat):Mem c (w.alloc o) (xE L w.heap.size m) U I/\Le w L (w.alloc o) (xE L w.heap.size m):=by
 have hL: ∀b,b<w.heap.size->xE L w.heap.size m b=L b:=(by grind[xE])
 have hle:Le w L (w.alloc o) (xE L w.heap.size m):=by
  refine⟨λb=> ?_,λb off ho=> ?_⟩
  .by_cases hb:b=w.heap.size
   .subst hb;rw[h.lim _ om];omega
   grind[xE]
  .have hb:b<w.heap.size:=by
    rcases Bo b w.heap.size with hb|hb
    .exact hb
    .rw[h.lim b hb]at ho;omega
   grind[za,Kl]
 refine⟨⟨h.len,λi ob x hi hx=>(h.cO i ob x hi hx).step hle (Ext.refl _ _) λb hb=> ?_,h.apart,h.fy,λb hb hx=> ?_,h.le.trans hle, ?_,h.os,h.tape,h.output,h.drawn,λb hb=> ?_,h.ext,h.iY⟩,hle⟩
 .have aa:=(h.cO i ob x hi hx).dY hb
  grind[Kl]
 .have aa:b<w.heap.size:=Db hb h.size
  rw[Kl w o aa,hL b aa]
  exact h.same b hb hx
 .simp;have:=h.size;omega
 .simp at hb
  simp[xE]
  rw[afa om]
  exact h.lim b om
theorem Ext.push (U:St) (I:afG) (hl:I.length=U.length) (o:Ob) (x:Value):Ext U I (U++ [o]) (I++ [x]):=by
 refine⟨(by grind),(by grind),(by grind),(by grind)⟩
 all_goals grind
theorem xC {l:List J} {a b:J} (h:(l++ [a])[i]? =some b):(i<l.length/\l[i]? =some b)\/(i=l.length/\b=a):=by
 grind
theorem Mem.push (h:Mem c w L U I) (o:Ob) (x:Value) (ho:gz w L (U++ [o]) (I++ [x]) o x)
  (aj: ∀(i:Nat) o' x' b,U[i]? =some o'->I[i]? =some x'->cI o' x'=some b->cI o x≠some b)
  (hm: ∀b,cI o x=some b->c.w0.heap.size<=b\/b∈c.X0):Mem c w L (U++ [o]) (I++ [x]):=by
 have ad:=Ext.push U I h.len o x
 refine⟨by simp[h.len],λi o' x' hi hx=> ?_,λi j o1 o2 x1 x2 b ag hi ae hj ab hb=> ?_,λi o' x' b hi hx hb=> ?_,h.same,h.le,h.size,h.os,h.tape,h.output,h.drawn,h.lim,h.ext.trans ad,h.iY⟩
 .rcases xC hi with ⟨hl,hi⟩|⟨hl,rfl⟩
  .rcases xC hx with ⟨_,hx⟩|⟨aa,_⟩
   .exact(h.cO i o' x' hi hx).step (Le.refl _ _) ad sm
   .rw[h.len]at aa;omega
  .rcases xC hx with ⟨aa,hx⟩|⟨_,rfl⟩
   .rw[h.len]at aa;omega
   omega
 .rcases xC hi with ⟨hl,ah⟩|⟨hl,rfl⟩
  .rcases xC ae with ⟨_,af⟩|⟨aa,_⟩
   .rcases xC hj with ⟨ai,hj⟩|⟨ai,rfl⟩
    .rcases xC ab with ⟨_,ab⟩|⟨aa,_⟩
     .exact h.apart i j o1 o2 x1 x2 b ag ah af hj ab hb
     .rw[h.len]at aa;omega
    .rcases xC ab with ⟨aa,_⟩|⟨_,rfl⟩
     .rw[h.len]at aa;omega
     grind
   .rw[h.len]at aa;omega
  .rcases xC ae with ⟨aa,_⟩|⟨_,rfl⟩
   .rw[h.len]at aa;omega
   grind
 .rcases xC hi with ⟨hl,hi⟩|⟨hl,rfl⟩
  .rcases xC hx with ⟨_,hx⟩|⟨aa,_⟩
   .exact h.fy i o' x' b hi hx hb
   .rw[h.len]at aa;omega
  .rcases xC hx with ⟨aa,_⟩|⟨_,rfl⟩
   .rw[h.len]at aa;omega
   grind
theorem Mem.box (h:Mem c w L U I) (cells:List V) (arr:afI) (T:TypeId) (hc:bL (cN w L U I) cells arr.toList):
  Mem c (w.alloc (.cells arr T)) L (U++ [.box cells]) (I++ [.pointer (some ⟨w.heap.size,0,none⟩)])/\Le w L (w.alloc (.cells arr T)) L:=by
 have h1:=h.alloc (.cells arr T) 0
 have hL:xE L w.heap.size 0=L:=by
  funext k
  by_cases hk:k=w.heap.size
  .subst hk;simp[xE,h.lim _ (A3 _)]
  grind[xE]
 rw[hL]at h1
 refine⟨h1.1.push _ _ ⟨w.heap.size,arr,T,(0,0),rfl,yH _ _,λo _ h=>om,h.lim _ om,hc.imp λ_ _=>cN.mono h1.2 (Ext.push U I h.len _ _)⟩ ?_ ?_,h1.2⟩
 .intro i o' x' b hi hx hb e
  have:=(h.cO i o' x' hi hx).dY hb
  grind[cI]
 .intro b hb
  simp[cI]at hb
  subst hb
  exact .inl h.size
def yK (w:World) (b:Nat) (o:Go.Obj):World:={w with heap:=w.heap.setIfInBounds b o}
theorem xR (w:World) (b:Nat) (o:Go.Obj) (hb:b<w.heap.size):(yK w b o).heap[b]? =some o:=by
 grind[yK]
theorem vx (w:World) (b k:Nat) (o:Go.Obj) (hk:k≠b):(yK w b o).heap[k]? =w.heap[k]? :=by
 grind[yK]
def xI (arr:afI) (k:Nat):afG->afI
 | []=>arr
 |v::vs=>xI (arr.setIfInBounds k v) (k+1) vs
theorem xJ: ∀(vs:afG) (arr:afI) (k:Nat),(xI arr k vs).size=arr.size
 | [],_,_=>rfl
 |v::vs,arr,k=>by simp[xI,xJ vs]
theorem tS: ∀(vs:afG) (arr:afI) (k:Nat) (i:Nat),k+vs.length<=arr.size->(xI arr k vs)[i]? =if k<=i/\i<k+vs.length then vs[i - k]? else arr[i]?
 | [],arr,k,i,_=>by grind[xI]
 |v::vs,arr,k,i,h=>by
  simp only[Ab]at h⊢
  rw[xI,tS vs _ _ _ (by simp;omega)]
  grind
theorem UT (w:World) (b off:Nat) (v:Value) (cur:afI) (T:TypeId) (fz:Nat×Nat) (hb:w.heap[b]? =some (.cells cur T fz)):
  w.setCell ⟨b,off,none⟩ v=yK w b (.cells (cur.setIfInBounds off v) T fz):=by
 obtain⟨aa,hv⟩:=Cf.1 hb
 unfold World.setCell yK
 congr 1
 grind
theorem UU (w:World) (b:Nat) (o o':Go.Obj):yK (yK w b o) b o'=yK w b o':=by
 simp[yK]
theorem UW (w:World) (b:Nat) (o:Go.Obj) (hb:w.heap[b]? =some o):yK w b o=w:=by
 obtain⟨aa,hv⟩:=Cf.1 hb
 unfold yK
 have:w.heap.setIfInBounds b o=w.heap:=by
  grind
 simp_all
theorem wD (b o n:Nat):Addr.add ⟨b,o,none⟩ n=⟨b,o+n,none⟩:=by
 unfold Addr.add
 simp
theorem wB (P:Program) (b o:Nat) (T:TypeId) (fz:Nat×Nat): ∀(vs:afG) (i:Nat) (cur:afI) (w:World),w.heap[b]? =some (.cells cur T fz)->vw cur fz->o+i+vs.length<=cur.size->(∀v∈vs,v.oneCell'=true)->
  (storeCells ⟨b,o,none⟩ vs i).run P w= .ok () (yK w b (.cells (xI cur (o+i) vs) T fz))
 | [],i,cur,w,hb,_,_,_=>by
  rw[storeCells,xI,UW _ _ _ hb];rfl
 |v::vs,i,cur,w,hb,hu,hl,hv=>by
  simp only[Ab]at hl
  have hc:w.cell? ⟨b,o+i,none⟩=some (cur[o+i]'om):=by grind[World.cell?]
  have hf:w.frozen? ⟨b,o+i,none⟩=false:=by
   have:=hu (o+i) om
   grind[World.frozen?]
  obtain⟨aa,_⟩:=Cf.1 hb
  rw[storeCells]
  simp only[Sem.run_bind,wD]
  rw[run_store P w ⟨b,o+i,none⟩ v .plain (hv v sm)]
  simp only[hc,hf,afs,Ck,Result.andThen_ok]
  rw[UT w b (o+i) v cur T fz hb]
  have ih:=wB P b o T fz vs (i+1) (cur.setIfInBounds (o+i) v) (yK w b (.cells (cur.setIfInBounds (o+i) v) T fz)) (xR _ _ _ aa)
   (λk hk=>hu k (by grind)) (by grind) (by grind)
  rw[ih,UU]
  rfl
theorem nD {l:List J} {j:Nat} {a b:J} (h:(l.set i a)[j]? =some b):(j=i/\b=a/\i<l.length)\/(j≠i/\l[j]? =some b):=by
 grind
theorem Mem.dK (h:Mem c w L U I) {w':World} {L':Nat->Nat} (i:Nat) (o:Ob) (x:Value)
  (hle:Le w L w' L') (ab:Ext U I (U.set i o) (I.set i x))
  (D:Nat->Prop) (hD: ∀(j:Nat) o' x' b,j≠i->U[j]? =some o'->I[j]? =some x'->cI o' x'=some b-> ¬D b)
  (ax: ∀b,D b->c.w0.heap.size<=b\/b∈c.X0)
  (af: ∀b,¬D b->w'.heap[b]? =w.heap[b]? /\L' b=L b)
  (ak:w'.heap.size=w.heap.size) (al:w'.os=w.os) (ad:w'.tape=w.tape) (ag:w'.output=w.output)
  (e9: ∀b,w.heap.size<=b->L' b=0)
  (cH:gz w' L' (U.set i o) (I.set i x) o x) (hex: ∀b,cI o x=some b->D b) (an:w.drawn<=w'.drawn:=by exact A3 _):Mem c w' L' (U.set i o) (I.set i x):=by
 refine⟨by simp[h.len],λj o' x' hj hx=> ?_,λj k o1 o2 x1 x2 b ao hj aq hk ar hb=> ?_,λj o' x' b hj hx hb=> ?_,λb hb hx=> ?_,h.le.trans hle,by rw[ak];exact h.size,al.trans h.os,ad.trans h.tape,ag.trans h.output,An h.drawn an,(by grind),h.ext.trans ab,h.iY⟩
 .rcases nD hj with ⟨rfl,rfl,hl⟩|⟨ah,aa⟩
  .grind
  .rcases nD hx with ⟨e,_,_⟩|⟨_,ae⟩
   .omega
   .exact(h.cO j o' x' aa ae).step hle ab (by grind)
 .rcases nD hj with ⟨rfl,rfl,hl⟩|⟨ah,aa⟩
  .grind
  .rcases nD aq with ⟨e,_,_⟩|⟨_,ai⟩
   .omega
   .rcases nD hk with ⟨rfl,rfl,_⟩|⟨aw,au⟩
    .grind
    .rcases nD ar with ⟨e,_,_⟩|⟨_,aj⟩
     .omega
     .exact h.apart j k o1 o2 x1 x2 b ao aa ai au aj hb
 .rcases nD hj with ⟨rfl,rfl,hl⟩|⟨ah,aa⟩
  .grind
  .rcases nD hx with ⟨e,_,_⟩|⟨_,ae⟩
   .omega
   .exact h.fy j o' x' b aa ae hb
 .have av: ¬D b:=(by grind)
  obtain⟨e1,e2⟩:=af b av
  obtain⟨e3,e4⟩:=h.same b hb hx
  grind
theorem Ext.jc (hi:U[i]? =some (Ob.box cells)) (aa:List V):Ext U I (U.set i (.box aa)) I:=by
 refine⟨sm,(by grind),(by grind),(by grind)⟩
 all_goals grind
def putCells (cells:List V) (off:Nat) (vs:List V):List V:=cells.take off++vs++cells.drop (off+vs.length)
theorem yE (l:List J) (i:Nat) (a:J) (h:l[i]? =some a):l.set i a=l:=by
 apply Bn
 grind
theorem UX (cells vs:List V) (off i:Nat) (h:off+vs.length<=cells.length):(putCells cells off vs)[i]? =if off<=i/\i<off+vs.length then vs[i - off]? else cells[i]? :=by
 unfold putCells
 have ht:(cells.take off).length=off:=by grind
 grind
theorem Oz (cells vs:List V) (off:Nat) (h:off+vs.length<=cells.length):(putCells cells off vs).length=cells.length:=by
 grind[putCells]
theorem OA {R:V->Value->Prop} {vs:List V} {arr:afI} {xs:afG} {off:Nat} (h:bL R cells arr.toList) (hv:bL R vs xs) (hl:off+vs.length<=cells.length):
  bL R (putCells cells off vs) (xI arr off xs).toList:=by
 have e1:=h.length
 have e2:=hv.length
 simp at e1
 refine bL.of (by grind[Oz,xJ]) λi a b ha hb=> ?_
 rw[UX _ _ _ _ hl]at ha
 rw[Am,tS _ _ _ _ om,<-e2]at hb
 by_cases hc:off<=i/\i<off+vs.length
 .rw[afb hc]at ha hb
  obtain⟨y,hy,r⟩:=hv.get _ _ ha
  grind
 .rw[afa hc]at ha hb
  obtain⟨y,hy,r⟩:=h.get _ _ ha
  grind
theorem Mem.jc (h:Mem c w L U I) {vs:List V} {xs:afG} {off b:Nat} (hi:U[i]? =some (.box cells)) (cR:I[i]? =some (.pointer (some ⟨b,0,none⟩)))
  (hv:bL (cN w L U I) vs xs) (hl:off+vs.length<=cells.length):
  ∃arr T fz,w.heap[b]? =some (.cells arr T fz)/\vw arr fz/\arr.size=cells.length/\
   Mem c (yK w b (.cells (xI arr off xs) T fz)) L (U.set i (.box (putCells cells off vs))) I/\Le w L (yK w b (.cells (xI arr off xs) T fz)) L:=by
 have cH:=h.cO i _ _ hi cR
 obtain⟨b',arr,T,fz,e,hh,hf,h0,hc⟩:=cH
 cases e
 have ab:b<w.heap.size:=(by grind)
 have hle:Le w L (yK w b (.cells (xI arr off xs) T fz)) L:=by
  refine⟨om,λk o ho=>za (vx w b k _ λq=> ?_) o⟩
  grind
 refine⟨arr,T,fz,hh,hf,by have:=hc.length;grind, ?_,hle⟩
 have aa:=yE I i _ cR
 have af:Ext U I (U.set i (.box (putCells cells off vs))) I:=Ext.jc hi _
 have key:=h.dK (w':=yK w b (.cells (xI arr off xs) T fz)) (L':=L) i (.box (putCells cells off vs)) (.pointer (some ⟨b,0,none⟩)) hle (by grind) (λk=>k=b)
  (λj o' x' k hj ad ae hk e=>by subst e;exact h.apart j i o' _ x' _ k hj ad ae hi cR hk rfl)
  (λk e=>by subst e;exact h.fy i _ _ k hi cR rfl)
  (λk hk=>⟨vx w b k _ hk,rfl⟩) (by simp[yK]) rfl rfl rfl h.lim ?_ (by grind[cI])
 .grind
 .rw[aa]
  refine⟨b,_,T,fz,rfl,xR _ _ _ ab,λo ho=>hf o (by grind[xJ]),h0, ?_⟩
  exact(OA hc hv hl).imp (by grind[cN.mono])
end
variable {w:World}{L:Nat->Nat}{g:Tag}{x:Value}
def eS (s:Nat) (rows:List (List V)):Prop:= ∀r∈rows,r.length=s
theorem yA {J:Type} {s:Nat}: ∀{rows:List (List J)},(∀r∈rows,r.length=s)->rows.flatten.length=rows.length*s
 | [],_=>by simp
 |r::rows,h=>by
  simp_all[yA,B0,Dw]
theorem yM {J:Type} {s:Nat}: ∀{rows:List (List J)} (i j:Nat),(∀r∈rows,r.length=s)->j<s->rows.flatten[i*s+j]? =(rows[i]?).bind λr=>r[j]?
 | [],i,j,_,_=>by simp
 |r::rows,0,j,h,hj=>by
  grind
 |r::rows,i+1,j,h,hj=>by
  have hr:=h r sm
  rw[D7,Ay (by rw[hr,B0];omega),hr,show(i+1)*s+j - s=i*s+j by rw[B0];omega,
   yM i j (λx hx=>h x (by simp[hx])) hj]
  simp
theorem cq.of_flat {rows:List (List V)} {s b o cap:Nat} (hs:0<s) (hu:eS s rows) (e9:o+rows.length*s<=L b) (cQ:rows.length<=cap)
  (ha: ∀id,g≠ .app id) (hg:g= .full->cap=rows.length)
  (h: ∀(k:Nat) v,rows.flatten[k]? =some v-> ∃x,w.cell? ⟨b,o+k,none⟩=some x/\cq w L v x):cq w L (.sl g rows) (.slice (some ⟨b,o,none⟩) rows.length cap):=by
 refine .sl g rows s b o cap (λi j=>(w.cell? ⟨b,o+i*s+j,none⟩).getD undef) ha hs hu e9 cQ hg (λi j hi hj=> ?_) (λi j hi hj=> ?_)
 .have aa:j<rows[i].length:=by rw[hu _ sm];exact hj
  obtain⟨x,hx,_⟩:=h (i*s+j) (rows[i][j]) (by rw[yM i j hu hj,A0 hi];simp)
  grind
 .have aa:j<s:=by rw[<-hu _ (Aa hi)];exact hj
  obtain⟨x,hx,r⟩:=h (i*s+j) (rows[i][j]) (by rw[yM i j hu aa,A0 hi];simp)
  grind
theorem cq.flat {rows:List (List V)} (r:cq w L (.sl g rows) x) (ab:rows≠ []):
  ∃s b o cap,x= .slice (some ⟨b,o,none⟩) rows.length cap/\0<s/\eS s rows/\o+rows.length*s<=L b/\rows.length<=cap/\(g= .full->cap=rows.length)/\
   ∀(k:Nat) v,rows.flatten[k]? =some v-> ∃y,w.cell? ⟨b,o+k,none⟩=some y/\cq w L v y:=by
 cases r with
 |iF=>grind
 |sl _ _ s b o cap c ha hs hlen e9 cQ hg hc hr=>
  refine⟨s,b,o,cap,rfl,hs,hlen,e9,cQ,hg,λk v hk=> ?_⟩
  have ad:k<rows.length*s:=by grind[yA]
  have hi:k/s<rows.length:=by simp_all[C2]
  have hj:k%s<s:=Cj _ hs
  have aa:k=k/s*s+k%s:=by rw[Dl];exact(Cq k s).symm
  rw[aa,yM _ _ hlen hj,A0 hi]at hk
  grind
theorem cq.len {rows:List (List V)} (r:cq w L (.sl g rows) x): ∃a cap,x= .slice a rows.length cap/\rows.length<=cap/\(g= .full->cap=rows.length):=by
 cases r with
 |iF _ a cap hg=>exact⟨_,_,rfl,sm,om⟩
 |sl _ _ s b o cap c ha hs hlen e9 cQ hg hc hr=>grind
theorem cq.src {P:Program} {rows:List (List V)} {s:Nat} {tx e:TypeId} (r:cq w L (.sl g rows) x) (hk:P.underlying tx=some (.slice e)) (_hs:0<s) (hu:eS s rows):
  ∃news,Src P s tx x rows.length news w/\bL (cq w L) rows.flatten news:=by
 by_cases aa:rows= []
 .subst aa
  obtain⟨a,cap,rfl,_,_⟩:=r.len
  cases a with
  |none=>exact⟨[],Src.ofNil w hk cap,tV⟩
  |some a=>exact⟨[],(by grind[Src.ofSlice]),tV⟩
 .obtain⟨s',b,o,cap,rfl,ai,ab,e9,cQ,_,hc⟩:=r.flat aa
  have ag:s'=s:=by
   obtain⟨r0,rest,rfl⟩:=Bs aa
   rw[<-ab r0 sm,hu r0 sm]
  subst ag
  have ad:=yA ab
  let f:=λk=>(w.cell? ⟨b,o+k,none⟩).getD undef
  have ae:bL (cq w L) rows.flatten ((List.range (rows.length*s')).map f):=by
   grind[bL.of]
  refine⟨(List.range (rows.length*s')).map f,Src.ofSlice w hk ⟨b,o,none⟩ rows.length cap _ sm (λj u hj=> ?_) (λu hu=> ?_),ae⟩
  .rw[B3]at hj
   have af:j<rows.length*s':=by
    grind
   rw[A0 (sU af)]at hj
   simp only[List.getElem_range,Ba,afg]at hj
   obtain⟨z,hz,_⟩:=hc j _ (A0 (by rw[ad];exact af))
   grind[wD]
  .obtain⟨k,hk,rfl⟩:=Ac.1 hu
   have ah:k<rows.length*s':=by grind
   obtain⟨z,hz,rz⟩:=hc k _ (A0 (by rw[ad];exact ah))
   simpa[f,hz]using rz.dj
def zP (bs:afE):List (List V):=bs.map λb=> [.int .u8 b.toNat]
theorem OB (bs:afE):eS 1 (zP bs):=λr hr=>by
 obtain⟨b,_,rfl⟩:=Ac.1 hr;rfl
theorem Hy (bs:afE):bL (cq w L) (zP bs).flatten (byteCells ⟨bs.toArray⟩):=by
 unfold zP byteCells
 show bL _ _ (bs.map _)
 induction bs with
 |nil=>trivial
 |cons b bs ih=>exact⟨.int _ _,ih⟩
theorem qP {s:Nat} {a b:List (List V)} (ha:eS s a) (hb:eS s b):eS s (a++b):=λr hr=>by
 rcases Ar.1 hr with h|h
 .exact ha r h
 .exact hb r h
theorem cq.jW {rows:List (List V)} {s b o cap:Nat} {arr:afI} {T:TypeId} {fz:Nat×Nat} {xs:afG} (hs:0<s) (hu:eS s rows) (e9:o+rows.length*s<=L b) (cQ:rows.length<=cap)
  (ha: ∀id,g≠ .app id) (hg:g= .full->cap=rows.length)
  (hh:w.heap[b]? =some (.cells arr T fz)) (hx: ∀(k:Nat) x,xs[k]? =some x->arr[o+k]? =some x) (h:bL (cq w L) rows.flatten xs):cq w L (.sl g rows) (.slice (some ⟨b,o,none⟩) rows.length cap):=by
 refine .of_flat hs hu e9 cQ ha hg λk v hv=> ?_
 obtain⟨x,aa,r⟩:=h.get k v hv
 grind[World.cell?]
section
variable {c:Ctx} {w:World} {L:Nat->Nat} {U:St} {I:afG}
variable {cap:Nat}{i:Nat}{arr:afI}{T:TypeId}{n:Nat}{cp:List (List V)}{xs:afG}
theorem UY (arr:afI) (k:Nat) (xs:afG) (h:k+xs.length<=arr.size) (i:Nat) (x:Value) (hx:xs[i]? =some x):(xI arr k xs)[k+i]? =some x:=by
 have hi:i<xs.length:=(by grind)
 simp_all[tS]
theorem OC (arr:afI) (k:Nat) (xs:afG) (h:k+xs.length<=arr.size) (i:Nat) (hi:i<k):(xI arr k xs)[i]? =arr[i]? :=by
 simp_all[tS];omega
theorem Mem.Fh (h:Mem c w L U I) {s b o:Nat} {rows:List (List V)} (hi:U[i]? =some (.app n s)) (cR:I[i]? =some (.slice (some ⟨b,o,none⟩) n cap))
  (hn:rows.length=n) (hr:cq w L (.sl .ro rows) (.slice (some ⟨b,o,none⟩) n cap)) (af:eS s rows) (hu:eS s cp) (hx:bL (cq w L) cp.flatten xs) (ao:0<cp.length) (aa:n+cp.length<=cap):
  ∃arr T fz,w.heap[b]? =some (.cells arr T fz)/\vw arr fz/\o+n*s+xs.length<=arr.size/\
   Mem c (yK w b (.cells (xI arr (o+n*s) xs) T fz)) (xE L b (o+(n+cp.length)*s)) (U.set i (.app (n+cp.length) s)) (I.set i (.slice (some ⟨b,o,none⟩) (n+cp.length) cap))/\
   Le w L (yK w b (.cells (xI arr (o+n*s) xs) T fz)) (xE L b (o+(n+cp.length)*s))/\
   Ext U I (U.set i (.app (n+cp.length) s)) (I.set i (.slice (some ⟨b,o,none⟩) (n+cp.length) cap))/\
   cq (yK w b (.cells (xI arr (o+n*s) xs) T fz)) (xE L b (o+(n+cp.length)*s)) (.sl .ro (rows++cp)) (.slice (some ⟨b,o,none⟩) (n+cp.length) cap):=by
 obtain⟨a,ag,e,aj,hs,cH⟩:=h.cO i _ _ hi cR
 cases e
 obtain⟨b',o',arr,T,fz,e,hh,hf,aq,hL⟩:=cH om
 cases e
 have ah:b<w.heap.size:=(by grind)
 have ar:xs.length=cp.length*s:=by rw[<-hx.length,yA hu]
 have hmul:(n+cp.length)*s=n*s+cp.length*s:=(by grind)
 have au:(n+cp.length)*s<=cap*s:=Af _ aa
 have ab:o+n*s+xs.length<=arr.size:=om
 have hle:Le w L (yK w b (.cells (xI arr (o+n*s) xs) T fz)) (xE L b (o+(n+cp.length)*s)):=by
  refine⟨λk=> ?_,λk q hq=> ?_⟩
  all_goals grind[xE,World.cell?,xR,OC,vx]
 have av:cp.length≠0:=om
 have ad:Ext U I (U.set i (.app (n+cp.length) s)) (I.set i (.slice (some ⟨b,o,none⟩) (n+cp.length) cap)):=by
  refine⟨λid a e=> ?_,λid n0 s0 e=> ?_,(by grind),(by grind)⟩
  .grind
  .by_cases q:i=id
   .subst q
    rw[hi]at e;cases e
    grind
   grind
  all_goals grind
 refine⟨arr,T,fz,hh,hf,ab, ?_,hle,ad, ?_⟩
 .refine h.dK i _ _ hle ad (λk=>k=b) (λj o' x' k hj ak al hk e=>by subst e;exact h.apart j i o' _ x' _ k hj ak al hi cR hk (by grind[cI]))
   (λk e=>by subst e;exact h.fy i _ _ k hi cR (by grind[cI])) (by grind[vx,xE]) (by simp[yK]) rfl rfl rfl (λk hk=> ?_) ?_ (λk hk=> ?_)
  .simp only[xE];rw[afa om];exact h.lim k hk
  .refine⟨_,cap,rfl,aa,hs,λhl=>⟨b,o,_,T,fz,rfl,xR _ _ _ ah,λq hq=>hf q (by grind[xJ]),by grind[xJ],by simp[xE]⟩⟩
  grind[cI]
 .have hlen:(rows++cp).length=n+cp.length:=by grind
  have e:Value.slice (some ⟨b,o,none⟩) (n+cp.length) cap=Value.slice (some ⟨b,o,none⟩) (rows++cp).length cap:=by grind
  rw[e]
  refine .of_flat hs (qP af hu) (by grind[xE]) om sm sm λk v hk=> ?_
  rw[C9]at hk
  have aw:=yA af
  simp only[World.cell?,xR _ _ _ ah]
  by_cases an:k<rows.flatten.length
  .rw[Ak an]at hk
   have ai:rows≠ []:=(by grind)
   obtain⟨s',b',o',ag,e,_,ax,_,_,_,ae⟩:=hr.flat ai
   cases e
   obtain⟨y,hy,ry⟩:=ae k v hk
   refine⟨y, ?_,ry.mono hle⟩
   simp_all[World.cell?,OC]
  .rw[Ay om]at hk
   obtain⟨y,hy,ry⟩:=hx.get _ _ hk
   refine⟨y, ?_,ry.mono hle⟩
   have:=UY arr (o+n*s) xs ab _ y hy
   grind
theorem Mem.zb (h:Mem c w L U I) {s:Nat} {rows:List (List V)} {x0:Value} (hi:U[i]? =some (.app n s)) (cR:I[i]? =some x0) (hs:0<s)
  (hu:eS s rows) (hx:bL (cq w L) rows.flatten xs) (ae:n<rows.length) (cQ:rows.length<=cap) (af:cap*s<=arr.size) (ag: ∀(k:Nat) x,xs[k]? =some x->arr[k]? =some x):
   Mem c (w.alloc (.cells arr T)) (xE L w.heap.size (rows.length*s)) (U.set i (.app rows.length s)) (I.set i (.slice (some ⟨w.heap.size,0,none⟩) rows.length cap))/\
   Le w L (w.alloc (.cells arr T)) (xE L w.heap.size (rows.length*s))/\
   Ext U I (U.set i (.app rows.length s)) (I.set i (.slice (some ⟨w.heap.size,0,none⟩) rows.length cap))/\
   cq (w.alloc (.cells arr T)) (xE L w.heap.size (rows.length*s)) (.sl .ro rows) (.slice (some ⟨w.heap.size,0,none⟩) rows.length cap):=by
 obtain⟨h1,hle⟩:=h.alloc (.cells arr T) (rows.length*s)
 have ah: ∀a,x0≠ .pointer a:=by
  intro a e;subst e
  obtain⟨_,_,e,_⟩:=h.cO i _ _ hi cR
  cases e
 have aa:Ext U I (U.set i (.app rows.length s)) (I.set i (.slice (some ⟨w.heap.size,0,none⟩) rows.length cap)):=by
  refine⟨(by grind),(by grind),(by grind),(by grind)⟩
  all_goals grind
 refine⟨?_,hle,aa, ?_⟩
 .refine h1.dK i _ _ (Le.refl _ _) aa (λk=>k=w.heap.size) (λj o' x' k hj ab ad hk e=> ?_) (λk e=>by subst e;exact .inl h.size) sm rfl rfl rfl rfl h1.lim ?_ (λk hk=> ?_)
  .have:=(h.cO j o' x' ab ad).dY hk;omega
  .refine⟨_,cap,rfl,cQ,hs,λhl=>⟨_,0,_,T,(0,0),rfl,yH _ _,λq _ hq=>om,om,by simp[xE]⟩⟩
  grind[cI]
 .exact .jW hs hu (by simp[xE]) cQ sm sm (yH _ _) (by grind) (hx.imp (by grind[cq.mono]))
theorem Mem.oG (h:Mem c w L U I) {s:Nat} {rows:List (List V)} (hs:0<s)
  (hu:eS s rows) (hx:bL (cq w L) rows.flatten xs) (cQ:rows.length<=cap) (ad:cap*s<=arr.size) (ae: ∀(k:Nat) x,xs[k]? =some x->arr[k]? =some x):
   Mem c (w.alloc (.cells arr T)) (xE L w.heap.size (rows.length*s)) (U++ [.app rows.length s]) (I++ [.slice (some ⟨w.heap.size,0,none⟩) rows.length cap])/\
   Le w L (w.alloc (.cells arr T)) (xE L w.heap.size (rows.length*s))/\
   cq (w.alloc (.cells arr T)) (xE L w.heap.size (rows.length*s)) (.sl .ro rows) (.slice (some ⟨w.heap.size,0,none⟩) rows.length cap):=by
 obtain⟨h1,hle⟩:=h.alloc (.cells arr T) (rows.length*s)
 refine⟨?_,hle, ?_⟩
 .refine h1.push _ _ ⟨_,cap,rfl,cQ,hs,λhl=>⟨_,0,_,T,(0,0),rfl,yH _ _,λq _ hq=>om,om,by simp[xE]⟩⟩ (λj o' x' k aa ab hk e=> ?_) (λk hk=> ?_)
  .have:=(h.cO j o' x' aa ab).dY hk
   grind[cI]
  .simp[cI]at hk
   rw[<-hk.2];exact .inl h.size
 .exact .jW hs hu (by simp[xE]) cQ sm sm (yH _ _) (by grind) (hx.imp (by grind[cq.mono]))
theorem Mem.own (h:Mem c w L U I) {s:Nat} {a:Option Addr} (hs:0<s):Mem c w L (U++ [.app n s]) (I++ [.slice a n n]):=by
 refine h.push _ _ ⟨a,n,rfl,om,hs,om⟩ (λj o' x' k _ _ _=> ?_) (λk hk=> ?_)
 .cases a<;>simp[cI]
 .cases a<;>simp[cI]at hk
theorem UZ (cells vs:List V) (off i:Nat) (h:off<=cells.length):(putCells cells off vs)[i]? =if off<=i/\i<off+vs.length then vs[i - off]? else cells[i]? :=by
 unfold putCells
 grind
theorem U0 (cells vs:List V) (off:Nat) (h:off<=cells.length):(putCells cells off vs).length=max cells.length (off+vs.length):=by
 grind[putCells]
theorem Ext.qQ {s:Nat} {rows:List (List V)} {x y:Value} (hi:U[i]? =some (.cc rows s)) (hl:I.length=U.length) (cR:I[i]? =some x) (hx: ∀a,x≠ .pointer a) (ab:rows.length<=cp.length) (aa:cp.length=rows.length->y=x):
  Ext U I (U.set i (.cc cp s)) (I.set i y):=by
 have ad:i<U.length:=(by grind)
 refine⟨(by grind),(by grind),(by grind),(by grind)⟩
 all_goals grind
theorem Mem.gk (h:Mem c w L U I) {s b off:Nat} {rows:List (List V)} {vs:List V} (hi:U[i]? =some (.cc rows s)) (cR:I[i]? =some (.slice (some ⟨b,0,none⟩) n cap)) (cQ:0<cap)
  (hv:bL (cN w L U I) vs xs) (ar:off<=rows.length*s) (ae:eS s cp) (hr:cp.flatten=putCells rows.flatten off vs) (ah:rows.length<=cp.length) (ab:cp.length<=cap):
  ∃arr T fz,w.heap[b]? =some (.cells arr T fz)/\vw arr fz/\off+xs.length<=arr.size/\
   Mem c (yK w b (.cells (xI arr off xs) T fz)) L (U.set i (.cc cp s)) (I.set i (.slice (some ⟨b,0,none⟩) cp.length cap))/\
   Le w L (yK w b (.cells (xI arr off xs) T fz)) L/\
   Ext U I (U.set i (.cc cp s)) (I.set i (.slice (some ⟨b,0,none⟩) cp.length cap)):=by
 obtain⟨a,au,e,ai,hs,hu,cH⟩:=h.cO i _ _ hi cR
 cases e
 obtain⟨b',arr,T,fz,e,hh,hf,aw,hL,af⟩:=cH cQ
 cases e
 have aj:b<w.heap.size:=(by grind)
 have ax:i<U.length:=(by grind)
 have ay:=yA hu
 have av:=yA ae
 have az:=hv.length
 have ak:cp.length*s=max (rows.length*s) (off+vs.length):=by grind[U0]
 have a1:cp.length*s<=cap*s:=Af _ ab
 have ad:off+xs.length<=arr.size:=om
 have hle:Le w L (yK w b (.cells (xI arr off xs) T fz)) L:=by
  refine⟨om,λk q hq=> ?_⟩
  by_cases e:k=b
  .grind
  .exact za (vx w b k _ e) q
 have aa:Ext U I (U.set i (.cc cp s)) (I.set i (.slice (some ⟨b,0,none⟩) cp.length cap)):=
  Ext.qQ hi h.len cR sm ah sm
 refine⟨arr,T,fz,hh,hf.1,ad, ?_,hle,aa⟩
 refine h.dK i _ _ hle aa (λk=>k=b) (λj o' x' k hj al an hk e=>by subst e;exact h.apart j i o' _ x' _ k hj al an hi cR hk (by simp[cI,cQ]))
   (λk e=>by subst e;exact h.fy i _ _ k hi cR (by simp[cI,cQ])) (λk hk=>⟨vx w b k _ hk,rfl⟩) (by simp[yK]) rfl rfl rfl h.lim ?_ (λk hk=> ?_)
 .refine⟨_,cap,rfl,ab,hs,ae,λ_=>⟨b,_,T,fz,rfl,xR _ _ _ aj,hf.size (by rw[xJ]),by rw[xJ];omega,hL, ?_⟩⟩
  refine bL.of ?_ λk p y hp hy=> ?_
  .have a6:(xI arr off xs).toList.length=arr.size:=by simp[xJ]
   grind
  .have ao:k<cp.length*s:=by grind
   rw[Av,afb ao,Am,tS _ _ _ _ ad]at hy
   rw[hr,UZ _ _ _ _ om]at hp
   by_cases ag:off<=k/\k<off+vs.length
   .rw[afb ag]at hp
    rw[afb om]at hy
    obtain⟨z,hz,r⟩:=hv.get _ _ hp
    rw[hy]at hz;cases hz
    exact r.mono hle aa
   .rw[afa ag]at hp
    rw[afa om]at hy
    obtain⟨z,hz,r⟩:=af.get _ _ hp
    have aq:k<rows.length*s:=om
    rw[Av,afb aq,Am,hy]at hz;cases hz
    exact r.mono hle aa
 .simp[cI,cQ]at hk;omega
theorem Hz (h:Mem c w L U I):xE L w.heap.size 0=L:=by
 funext k
 by_cases hk:k=w.heap.size
 .subst hk;simp[xE,h.lim _ (A3 _)]
 grind[xE]
theorem Mem.lr (h:Mem c w L U I) {s:Nat} {rows:List (List V)} (hs:0<s)
  (hu:eS s rows) (hx:bL (cN w L U I) rows.flatten (arr.toList.take (rows.length*s))) (cQ:rows.length<=cap) (ab:cap*s<=arr.size):
   Mem c (w.alloc (.cells arr T)) L (U++ [.cc rows s]) (I++ [.slice (some ⟨w.heap.size,0,none⟩) rows.length cap])/\
   Le w L (w.alloc (.cells arr T)) L/\Ext U I (U++ [.cc rows s]) (I++ [.slice (some ⟨w.heap.size,0,none⟩) rows.length cap]):=by
 have h1:=h.alloc (.cells arr T) 0
 rw[Hz h]at h1
 have aa:=Ext.push U I h.len (.cc rows s) (.slice (some ⟨w.heap.size,0,none⟩) rows.length cap)
 refine⟨h1.1.push _ _ ⟨_,cap,rfl,cQ,hs,hu,λ_=>⟨_,arr,T,(0,0),rfl,yH _ _,Oy _ _,ab,h.lim _ om,hx.imp (by grind[cN.mono])⟩⟩ (λj o' x' k ad ae hk e=> ?_) (λk hk=> ?_),h1.2,aa⟩
 .have:=(h.cO j o' x' ad ae).dY hk
  grind[cI]
 .simp[cI]at hk
  rw[<-hk.2];exact .inl h.size
theorem Mem.qR (h:Mem c w L U I) {s:Nat} {rows:List (List V)} {fz:Nat×Nat} (ab:fF s arr fz) (hs:0<s)
  (hu:eS s rows) (hx:bL (cN w L U I) rows.flatten (arr.toList.take (rows.length*s))) (cQ:rows.length<=cap) (ad:cap*s<=arr.size):
   Mem c (w.alloc (.cells arr T fz)) L (U++ [.cc rows s]) (I++ [.slice (some ⟨w.heap.size,0,none⟩) rows.length cap])/\
   Le w L (w.alloc (.cells arr T fz)) L/\Ext U I (U++ [.cc rows s]) (I++ [.slice (some ⟨w.heap.size,0,none⟩) rows.length cap]):=by
 have h1:=h.alloc (.cells arr T fz) 0
 rw[Hz h]at h1
 have aa:=Ext.push U I h.len (.cc rows s) (.slice (some ⟨w.heap.size,0,none⟩) rows.length cap)
 refine⟨h1.1.push _ _ ⟨_,cap,rfl,cQ,hs,hu,λ_=>⟨_,arr,T,fz,rfl,yH _ _,ab,ad,h.lim _ om,hx.imp (by grind[cN.mono])⟩⟩ (λj o' x' k ae af hk e=> ?_) (λk hk=> ?_),h1.2,aa⟩
 .have:=(h.cO j o' x' ae af).dY hk
  grind[cI]
 .simp[cI]at hk
  rw[<-hk.2];exact .inl h.size
theorem Mem.lu (h:Mem c w L U I) {s:Nat} {a:Option Addr} (hs:0<s):Mem c w L (U++ [.cc [] s]) (I++ [.slice a 0 0]):=by
 refine h.push _ _ ⟨a,0,rfl,sm,hs,sm,om⟩ (λj o' x' k _ _ _=> ?_) (λk hk=> ?_)
 .cases a<;>simp[cI]
 .cases a<;>simp[cI]at hk
theorem Mem.vy (h:Mem c w L U I) {s:Nat} {rows:List (List V)} {x0:Value} (hi:U[i]? =some (.cc rows s)) (cR:I[i]? =some x0) (hs:0<s)
  (hu:eS s cp) (hx:bL (cN w L U I) cp.flatten (arr.toList.take (cp.length*s))) (af:rows.length<cp.length) (cQ:cp.length<=cap) (ab:cap*s<=arr.size):
   Mem c (w.alloc (.cells arr T)) L (U.set i (.cc cp s)) (I.set i (.slice (some ⟨w.heap.size,0,none⟩) cp.length cap))/\
   Le w L (w.alloc (.cells arr T)) L/\
   Ext U I (U.set i (.cc cp s)) (I.set i (.slice (some ⟨w.heap.size,0,none⟩) cp.length cap)):=by
 obtain⟨h1,hle⟩:=h.alloc (.cells arr T) 0
 rw[Hz h]at h1 hle
 have aa:Ext U I (U.set i (.cc cp s)) (I.set i (.slice (some ⟨w.heap.size,0,none⟩) cp.length cap)):=
  Ext.qQ hi h.len cR (λa e=>by
   subst e
   obtain⟨_,_,e,_⟩:=h.cO i _ _ hi cR
   cases e) om om
 refine⟨?_,hle,aa⟩
 refine h1.dK i _ _ (Le.refl _ _) aa (λk=>k=w.heap.size) (λj o' x' k hj ad ae hk e=> ?_) (λk e=>by subst e;exact .inl h.size) sm rfl rfl rfl rfl h1.lim ?_ (λk hk=> ?_)
 .have:=(h.cO j o' x' ad ae).dY hk;omega
 .exact⟨_,cap,rfl,cQ,hs,hu,λ_=>⟨_,arr,T,(0,0),rfl,yH _ _,Oy _ _,ab,h.lim _ om,hx.imp (by grind[cN.mono])⟩⟩
 grind[cI]
end
structure dp (c:Ctx) (nt:Nat) (e:Env) (U:St) (a:Act) (w:World) (L:Nat->Nat) (I:afG):Prop where
 mem:Mem c w L U I
 size:a.tmps.size=nt
 defs:a.defers= []
 env: ∀t,cV w L U I (e t) (a.tmps.getD t undef)
variable {w:World}{L:Nat->Nat}
def iC:Value->V
 | .bool b=> .bool b
 | .int k n=> .int k n
 | .string s=> .str s.data.toList
 | .pointer none=> .fq
 | .slice none 0 0=> .sl .full []
 | .agg _=> .u
 | .tuple _=> .u
 |v=> .raw v
def OD (g:Nat):V:=match fa.find? (λp=>p.1==g)with
 |some p=> .nC p.2 0
 |none=> .u
def zF (e:Env):Operand->V
 | .tmp t=>e t
 | .const v=>iC v
 | .func f=> .fn f []
 | .global g=>OD g
def vz:V->Bool
 | .u| .agg _| .cm _=>false
 |_=>true
theorem U4 {U:St} {I:afG} (v:Value):cV w L U I (iC v) v:=by
 unfold iC
 split
 .exact cq.bool _
 .exact cq.int _ _
 .rename_i s
  have:cq w L (.str s.data.toList) (.string ⟨s.data.toList.toArray⟩):= .str _
  simpa
 .exact cq.fq
 .exact cq.iF _ _ _ om sm
 .trivial
 .trivial
 .rename_i h1 h2 h3 h4 h5 h6 h7
  refine cq.raw v ?_
  cases v<;>first|rfl|exact(by grind)|exact(by grind)
theorem Fi (v:Value) (h1:v.oneCell'):cq w L (iC v) v/\vz (iC v)=true:=by
 unfold iC
 split
 .exact⟨cq.bool _,rfl⟩
 .exact⟨cq.int _ _,rfl⟩
 .rename_i s
  have:cq w L (.str s.data.toList) (.string ⟨s.data.toList.toArray⟩):= .str _
  trivial
 .exact⟨cq.fq,rfl⟩
 .exact⟨cq.iF _ _ _ om sm,rfl⟩
 .trivial
 .trivial
 .exact⟨cq.raw _ h1,rfl⟩
theorem dp.eval {c:Ctx} {nt:Nat} {e:Env} {U:St} {a:Act} {I:afG} (h:dp c nt e U a w L I) (x:Operand):cV w L U I (zF e x) (a.eval x):=by
 cases x with
 |tmp t=>exact h.env t
 |const v=>exact U4 v
 |func f=>exact⟨[],rfl,tV⟩
 |global g=>
  trivial
inductive R where
 |fail
 |ok (v:V)
 |dW (p:Prop) (v:V)
 |st (v:V) (U:St)
 |cE (p:Prop) (v:V) (U:St)
 |all (f:Bool->V)
 |any (l:List (V×St))
section tables
variable (P:Program)
def ez (t:TypeId):afK:=(P.info? t).map (·.size)
def Km:TypeDesc->Bool
 | .struct _| .array _ _=>true
 |_=>false
def cL (t:TypeId):Option Bool:=(P.underlying t).map Km
def cA (t:TypeId) (f:Nat):Option (Nat×Nat×Bool):=
 match P.underlying t with
 |some (.struct fs)=>(fs[f]?).bind λf=>(ez P f.type).bind λs=>(cL P f.type).bind λb=>if s=0 then none else some (f.offset,s,b)
 |_=>none
def eL (t:TypeId):afK:=
 match P.underlying t with
 |some (.slice e)=>ez P e
 |_=>none
def gT (t:TypeId):Option (Nat×Nat×Bool):=
 match P.underlying t with
 |some (.array n e)=>(ez P e).bind λs=>(cL P e).map λb=>(n,s,b)
 |_=>none
def wW (t:TypeId):Option (List V):=(P.info? t).bind λi=>(i.zero).bind λz=>if z.cells.all (·.oneCell')=true then some (z.cells.toList.map iC)else none
def dQ (t:TypeId):Option (Nat×Nat):=
 match P.underlying t with
 |some (.slice e)=>(P.info? e).bind λi=>i.zero.bind λz=>if z.cells.size=i.size/\0<i.size/\0<i.bytes then some (i.size,i.bytes)else none
 |_=>none
inductive Kd where
 |int (k:IntKind)|str|bytes|other
 deriving DecidableEq
def jd (t:TypeId):Option Kd:=
 match P.underlying t with
 |some (.int k)=>some (.int k)
 |some .string=>some .str
 |some (.slice e)=>(match P.underlying e with|some (.int .u8)=>some .bytes|_=>some .other)
 |some _=>some .other
 |none=>none
end tables
def o8:V->Bool
 | .bool _| .int _ _| .str _| .raw _| .fq| .sl _ _=>true
 |_=>false
def o9:V->V
 | .sl _ rows=> .sl .ro rows
 |v=>v
def xG:V->List V
 | .agg cs=>cs
 |v=> [v]
theorem cq.kH {w:World} {L:Nat->Nat} {g:Tag} {rows:List (List V)} {x:Value} (r:cq w L (.sl g rows) x):cq w L (.sl .ro rows) x:=by
 cases r with
 |iF _ a cap hg ha=>exact .iF _ a cap sm sm
 |sl _ _ s b o cap c ha hs hlen e9 cQ hg hc hr=>exact .sl _ rows s b o cap c sm hs hlen e9 cQ sm hc hr
theorem cN.o9 {w:World} {L:Nat->Nat} {U:St} {I:afG} {v:V} {x:Value} (r:cN w L U I v x) (h:o8 v):cq w L (o9 v) x:=by
 cases v with
 |sl g rows=>cases g with
  |ro=>exact r
  |full=>exact cq.kH r
  |app id=>exact r.1
 |u=>trivial
 |ptr _ _=>trivial
 |nC _ _=>trivial
 |cJ _ _ _ _ _=>trivial
 |iE _ _ _ _ _=>trivial
 |jB _ _ _ _=>trivial
 |mp _=>trivial
 |fn _ _=>trivial
 |gy _ _=>trivial
 |agg _=>trivial
 |cm _=>trivial
 |bool b=>exact r
 |int k n=>exact r
 |str s=>exact r
 |raw v=>exact r
 |fq=>exact r
section inv
variable {w:World} {L:Nat->Nat} {U:St} {I:afG}
variable {x:Value}
theorem oH {b:Bool} (r:cV w L U I (.bool b) x):x= .bool b:=by
 cases r;rfl
theorem yI {k:IntKind} {n:Int} (r:cV w L U I (.int k n) x):x= .int k n:=by
 cases r;rfl
theorem kI {s:afE} (r:cV w L U I (.str s) x):x= .string ⟨s.toArray⟩:=by
 cases r;rfl
theorem Kn (r:cV w L U I .fq x):x= .pointer none:=by
 cases r;rfl
theorem qS {g:Tag} {rows:List (List V)} (r:cV w L U I (.sl g rows) x):cq w L (.sl .ro rows) x:=by
 cases g with
 |ro=>exact r
 |full=>exact cq.kH r
 |app id=>exact r.1
theorem U5 {v:V} (r:cV w L U I v x) (h:vz v):cN w L U I v x:=by
 cases v<;>first|exact r|simp[vz]at h
theorem Fj (h:x.oneCell'):x.cells= #[x]:=by
 cases x<;>first|rfl|simp[Value.oneCell']at h
def mq:V->Bool
 | .u| .cm _=>false
 |_=>true
theorem zc {v:V} (r:cV w L U I v x) (h:mq v):bL (cN w L U I) (xG v) x.cells.toList:=by
 by_cases hc:vz v=true
 .have r':=U5 r hc
  rw[Fj r'.dj]
  have:xG v= [v]:=by cases v<;>first|rfl|simp[vz]at hc
  rw[this]
  trivial
 .cases v with
  |agg cs=>obtain⟨xs,rfl,h⟩:=r;exact h
  |u=>trivial
  |cm vs=>trivial
  |_=>simp[vz]at hc
end inv
inductive Pk where
 |b
 |i (k:IntKind)
 |s
 deriving DecidableEq
def Fk (P:Program) (sh:TypeId->Option (List Pk)):Nat->List Field->Option (List Pk)
 |_,[]=>some []
 |off,f::fs=>if f.name≠ "_" /\f.offset=off then(sh f.type).bind λks=>if ez P f.type=some ks.length then(Fk P sh (off+ks.length) fs).map (ks++ ·)else none else none
def tT (P:Program):Nat->TypeId->Option (List Pk)
 |0,_=>none
 |d+1,t=>
  match P.underlying t,cL P t with
  |some .bool,some false=>some [.b]
  |some (.int k),some false=>some [.i k]
  |some .string,some false=>some [.s]
  |some (.struct fs),some true=>if P.stoodInHeld t=false then Fk P (tT P d) 0 fs.toList else none
  |_,_=>none
def je:Pk->V->V->Option Bool
 | .b,.bool x,.bool y=>some (x==y)
 | .i k,.int k1 x,.int k2 y=>if k1=k/\k2=k then some (x==y)else none
 | .s,.str x,.str y=>some (x==y)
 |_,_,_=>none
def kJ:List Pk->List V->List V->Option Bool
 | [],[],[]=>some true
 |k::ks,a::az,b::bs=>(je k a b).bind λr=>(kJ ks az bs).map (r&& ·)
 |_,_,_=>none
def gA:Pk->Value->Value->Option Bool
 | .b,.bool x,.bool y=>some (x==y)
 | .i k,.int k1 x,.int k2 y=>if k1=k/\k2=k then some (x==y)else none
 | .s,.string x,.string y=>some (x==y)
 |_,_,_=>none
def ig:List Pk->afG->afG->Option Bool
 | [],[],[]=>some true
 |k::ks,a::az,b::bs=>(gA k a b).bind λr=>(ig ks az bs).map (r&& ·)
 |_,_,_=>none
def mu (P:Program) (t:TypeId):Option (List Pk):=match P.underlying t with|some (.struct _)=>if P.eqGuardType P.depth t=false then tT P 10 t else none|_=>none
section
variable {P:Program} {c:Ctx} {w:World} {L:Nat->Nat} {U:St} {I:afG}
variable {t:TypeId}{x:Value}{y:Value}{r:Bool}
theorem U6 {s:Nat} (h:ez P t=some s): ∃i,P.info? t=some i/\i.size=s:=by
 unfold ez at h
 simp_all
theorem nE {s:Nat} (h:ez P t=some s) (w:World):(sizeOf t).run P w= .ok s w:=by
 obtain⟨i,hi,rfl⟩:=U6 h
 simp_all[sizeOf,typeInfo]
theorem sO {b:Bool} (h:cL P t=some b) (w:World):(isAgg t).run P w= .ok b w:=by
 unfold cL at h
 cases hu:P.underlying t with
 |none=>grind
 |some d=>
  simp[hu]at h
  subst h
  simp only[isAgg,Sem.run_bind,run_underlying hu,Result.andThen_ok,Km]
  cases d<;>rfl
theorem Ko: ∀(ks:List Pk) (az bs:afG) (r:Bool),ig ks az bs=some r->az.length=ks.length/\bs.length=ks.length
 | [],[],[],_,_=>om
 |k::ks,a::az,b::bs,r,h=>by
  unfold ig at h
  cases h1:gA k a b with
  |none=>rw[h1]at h;cases h
  |some r1=>
   rw[h1]at h
   simp only[Ao,Al]at h
   obtain⟨r2,h2,_⟩:=h
   have:=Ko ks az bs r2 h2
   simp[this.1,this.2]
 | [],[],_::_,_,h=>by cases h
 | [],_::_,_,_,h=>by cases h
 |_::_,[],_,_,h=>by cases h
 |_::_,_::_,[],_,h=>by cases h
theorem OE: ∀(ks aa:List Pk) (az bs:afG) (r:Bool),ig (ks++aa) az bs=some r->
  ∃r1 r2,ig ks (az.take ks.length) (bs.take ks.length)=some r1/\ig aa (az.drop ks.length) (bs.drop ks.length)=some r2/\r=(r1&&r2)
 | [],aa,az,bs,r,h=>(by grind[ig])
 |k::ks,aa,a::az,b::bs,r,h=>by
  rw[Ap]at h
  unfold ig at h
  cases h1:gA k a b with
  |none=>grind
  |some r0=>
   rw[h1]at h
   simp only[Ao,Al]at h
   obtain⟨r',h2,rfl⟩:=h
   obtain⟨r1,r2,h3,h4,rfl⟩:=OE ks aa az bs r' h2
   refine⟨r0&&r1,r2, ?_,by grind,by grind⟩
   grind[ig]
 |_::_,_,[],_,_,h=>by cases h
 |_::_,_,_::_,[],_,h=>by cases h
theorem Kq: ∀(ks:List Pk) (vs ws:List V) (xs ys:afG) (r:Bool),bL (cN w L U I) vs xs->bL (cN w L U I) ws ys->kJ ks vs ws=some r->ig ks xs ys=some r
 | [],[],[],[],[],r,_,_,h=>h
 |k::ks,v::vs,v2::us,x::xs,y::ys,r,h1,h2,h=>by
  unfold kJ at h
  cases hk:je k v v2 with
  |none=>grind
  |some r0=>
   rw[hk]at h
   simp only[Ao,Al]at h
   obtain⟨r',h3,rfl⟩:=h
   have ih:=Kq ks vs us xs ys r' h1.2 h2.2 h3
   have hp:gA k x y=some r0:=by
    have hx:=h1.1;have hy:=h2.1
    unfold je at hk
    split at hk
    .cases hx;cases hy;exact hk
    .cases hx;cases hy;exact hk
    .cases hx;cases hy
     rename_i a b
     rw[<-hk]
     simp only[gA,afg]
     show(a.toArray==b.toArray)=(a==b)
     simp
    grind
   grind[ig]
 | [],[],[],[],_::_,_,_,h2,_=>h2.elim
 | [],[],[],_::_,_,_,h1,_,_=>h1.elim
 | [],[],_::_,_,_,_,_,_,h=>by cases h
 | [],_::_,_,_,_,_,_,_,h=>by cases h
 |_::_,[],_,_,_,_,_,_,h=>by cases h
 |_::_,_::_,[],_,_,_,_,_,h=>by cases h
 |_::_,_::_,_::_,[],_,_,h1,_,_=>h1.elim
 |_::_,_::_,_::_,_::_,[],_,_,h2,_=>h2.elim
def nF (P:Program) (t:TypeId) (x:Value):Prop:=if cL P t=some true then∃xs,x= .agg xs else x.oneCell'=true
theorem OF {ks:List Pk} {b:Bool} (hs:ez P t=some ks.length) (ha:cL P t=some b) (h1:b=false->ks.length=1) (cs:afI) (off:Nat) (hl:off+ks.length<=cs.size) (aa: ∀x∈cs.toList,x.oneCell'):
  ∃x,(part t cs off).run P w= .ok x w/\nF P t x/\x.cells.toList=(cs.toList.drop off).take ks.length:=by
 cases b with
 |true=>
  refine⟨.agg (cs.extract off (off+ks.length)), ?_, ?_, ?_⟩
  .simp_all[part,sO,nE]
  .unfold nF;grind
  grind[Value.cells,Array.toList_extract]
 |false=>
  have hk:=h1 rfl
  have ab:off<cs.size:=om
  simp_all[part,sO,nF,Fj,A2]
theorem U7 {d:Nat} {ks:List Pk} (h:tT P d t=some ks): ∃b,cL P t=some b/\(b=false->ks.length=1):=by
 cases d with
 |zero=>cases h
 |succ d=>
  unfold tT at h
  grind
theorem U8 (h:gA .b x y=some r): ∃a b,x= .bool a/\y= .bool b/\r=(a==b):=by
 cases x<;>first|(simp[gA]at h;done)|skip
 cases y<;>first|(simp[gA]at h;done)|skip
 simp[gA]at h
 grind
theorem U9 {k:IntKind} (h:gA (.i k) x y=some r): ∃a b,x= .int k a/\y= .int k b/\r=(a==b):=by
 cases x<;>first|(simp[gA]at h;done)|skip
 cases y<;>first|(simp[gA]at h;done)|skip
 simp[gA]at h
 simp_all
theorem Va (h:gA .s x y=some r): ∃a b,x= .string a/\y= .string b/\r=(a==b):=by
 cases x<;>first|(simp[gA]at h;done)|skip
 cases y<;>first|(simp[gA]at h;done)|skip
 simp only[gA,afg]at h
 grind
theorem Kr: ∀(d:Nat) (t:TypeId) (ks:List Pk),tT P d t=some ks-> ∀(D:Nat),d<=D-> ∀(x y:Value) (r:Bool),nF P t x->nF P t y->(∀z∈x.cells.toList,z.oneCell'=true)->(∀z∈y.cells.toList,z.oneCell'=true)->
  ig ks x.cells.toList y.cells.toList=some r-> ∀w,(Op.equalIn D t x y).run P w= .ok r w
 |0,_,_,h=>by cases h
 |d+1,t,ks,h=>by
  intro D hD x y r hx hy ab ae he w
  obtain⟨D,rfl⟩: ∃D',D=D'+1:=(by simp;omega)
  have aa: ∀k,ks= [k]->cL P t=some false-> ∃r',gA k x y=some r'/\r=r':=by
   intro k hk ha
   unfold nF at hx hy
   rw[afa (by rw[ha];simp)]at hx hy
   rw[Fj hx,Fj hy,hk]at he
   simp only[ig]at he
   simp_all
  unfold tT at h
  split at h
  .rename_i hu ha
   simp at h
   obtain⟨r',hp,rfl⟩:=aa .b h.symm ha
   obtain⟨m,n,rfl,rfl,rfl⟩:=U8 hp
   simp[Op.equalIn,run_underlying hu]
  .rename_i k hu ha
   simp at h
   obtain⟨r',hp,rfl⟩:=aa (.i k) h.symm ha
   obtain⟨m,n,rfl,rfl,rfl⟩:=U9 hp
   simp[Op.equalIn,run_underlying hu]
  .rename_i hu ha
   simp at h
   obtain⟨r',hp,rfl⟩:=aa .s h.symm ha
   obtain⟨m,n,rfl,rfl,rfl⟩:=Va hp
   simp[Op.equalIn,run_underlying hu]
  .rename_i fs hu ha
   split at h
   .rename_i ah
    unfold nF at hx hy
    rw[afb ha]at hx hy
    obtain⟨xs,rfl⟩:=hx
    obtain⟨ys,rfl⟩:=hy
    have af:P.fieldsOf t=fs:=by grind[Program.fieldsOf]
    rw[run_equalIn_struct (P:=P) (w:=w) D t xs ys (by rw[af];exact hu) ah,af]
    simp only[Value.cells]at he ab ae
    have key: ∀(l:List Field) (off:Nat) (ks:List Pk) (r:Bool),Fk P (tT P d) off l=some ks->ig ks (xs.toList.drop off) (ys.toList.drop off)=some r->(Op.eqFields D xs ys l).run P w= .ok r w:=by
     intro l
     induction l with
     |nil=>
      intro off ks r hk hr
      simp[Fk]at hk
      subst hk
      have:=Ko _ _ _ _ hr
      have h1:xs.toList.drop off= []:=(by grind)
      have h2:ys.toList.drop off= []:=(by grind)
      simp_all[ig,Op.eqFields]
     |cons f l ih=>
      intro off ks r hk hr
      unfold Fk at hk
      split at hk
      .rename_i hf
       cases ad:tT P d f.type with
       |none=>grind
       |some k1=>
        rw[ad]at hk
        simp only[Ao]at hk
        split at hk
        .rename_i ai
         simp only[Al]at hk
         obtain⟨k2,aj,rfl⟩:=hk
         have hlen:=Ko _ _ _ _ hr
         simp only[C7,Ah,Ci]at hlen
         obtain⟨r1,r2,h1,h2,rfl⟩:=OE k1 k2 _ _ _ hr
         obtain⟨b,ak,al⟩:=U7 ad
         have ao:0<k1.length\/k1.length=0:=om
         have an:off+k1.length<=xs.size/\off+k1.length<=ys.size\/k1.length=0/\b:=by
          grind
         have parts: ∃a b',(part f.type xs off).run P w= .ok a w/\(part f.type ys off).run P w= .ok b' w/\nF P f.type a/\nF P f.type b'/\a.cells.toList=(xs.toList.drop off).take k1.length/\b'.cells.toList=(ys.toList.drop off).take k1.length:=by
          rcases an with ⟨q1,q2⟩|⟨q,rfl⟩
          .obtain⟨a,p1,p2,p3⟩:=OF (w:=w) ai ak al xs off q1 ab
           simp_all[OF]
          .refine⟨.agg (xs.extract off (off+k1.length)),.agg (ys.extract off (off+k1.length)), ?_, ?_, ?_, ?_, ?_, ?_⟩
           .simp_all[part,sO,nE]
           .simp_all[part,sO,nE]
           .unfold nF;grind
           .unfold nF;grind
           all_goals grind[Value.cells,Array.toList_extract]
         obtain⟨a,b',p1,p2,f1,f2,c1,c2⟩:=parts
         have ag:=Kr d f.type k1 ad D om a b' r1 f1 f2 (by rw[c1];exact λz hz=>ab z (List.mem_of_mem_drop (D1 hz))) (by rw[c2];exact λz hz=>ae z (List.mem_of_mem_drop (D1 hz))) (by rw[c1,c2];exact h1) w
         have aq:=ih (off+k1.length) k2 r2 aj (by simpa[Cn]using h2)
         simp only[Op.eqFields,hf.1,ne_eq,not_false_eq_true,afj,Sem.run_bind,hf.2,p1,p2,ag,Result.andThen_ok]
         cases r1
         all_goals simp_all
        grind
      grind
    grind
   grind
  grind
end
def bO (P:Program) (c:Ctx) (o:Oper) (a:Act) (w:World) (L:Nat->Nat) (U:St) (I:afG) (v:V) (U':St):Prop:=
 ∃x w' L' I',((execOp a.eval o).run P w= .ok (.value x) w'\/((execOp a.eval o).run P w= .ok .skip w'/\x=undef))/\Mem c w' L' U' I'/\Le w L w' L'/\Ext U I U' I'/\cV w' L' U' I' v x
def fh (r:R) (U:St) (Y:V->St->Prop):Prop:=
 match r with
 | .fail=>True
 | .ok v=>Y v U
 | .dW p v=>p->Y v U
 | .st v U'=>Y v U'
 | .cE p v U'=>p->Y v U'
 | .all f=> ∃b,Y (f b) U
 | .any l=> ∃p∈l,Y p.1 p.2
section
variable {P:Program} {c:Ctx} {nt:Nat} {e:Env} {U:St} {a:Act} {w:World} {L:Nat->Nat} {I:afG} {o:Oper}
variable {dst:Option Tmp}{ty:TypeId}{dG:Array Edge}{g:Option (Nat×Bool)}{t:TypeId}{el:TypeId}
theorem bO.pure (h:dp c nt e U a w L I) {v:V} {x:Value} (hr:(execOp a.eval o).run P w= .ok (.value x) w) (r:cV w L U I v x):bO P c o a w L U I v U:=
 ⟨x,w,L,I,.inl hr,h.mem,Le.refl _ _,Ext.refl _ _,r⟩
def vC (b x y:V):R:=
 match b with
 | .bool t=> .ok (if t then x else y)
 |_=> .fail
theorem Vb {pos:String} (x y z:Operand) (h:dp c nt e U a w L I):
  fh (vC (zF e x) (zF e y) (zF e z)) U (bO P c ⟨dst,.pick x y z,ty,pos,dG,g⟩ a w L U I):=by
 have hx:=h.eval x
 unfold vC
 split
 .rename_i b hb
  rw[hb]at hx
  have:=oH hx
  refine bO.pure h (x:=if b then a.eval y else a.eval z) (by simp_all[execOp,asBool]) ?_
  cases b
  .exact h.eval z
  .exact h.eval y
 trivial
theorem Vc {pos:String} (x:Operand) (h:dp c nt e U a w L I):
  fh (.ok (zF e x)) U (bO P c ⟨dst,.move x,ty,pos,dG,g⟩ a w L U I):=
 bO.pure h (by rfl) (h.eval x)
theorem Vd {pos:String} (x:Operand) (h:dp c nt e U a w L I):
  fh (.ok (zF e x)) U (bO P c ⟨dst,.assign x,ty,pos,dG,g⟩ a w L U I):=
 bO.pure h (by rfl) (h.eval x)
def vD (x:V):R:=
 match x with
 | .ptr id off=> .ok (.ptr id off)
 | .nC cs off=> .ok (.nC cs off)
 | .iE id s n k j=> .ok (.iE id s n k j)
 | .fn f bU=> .ok (.fn f bU)
 |_=> .fail
theorem Ve {pos:String} (x:Operand) (h:dp c nt e U a w L I):
  fh (vD (zF e x)) U (bO P c ⟨dst,.nilCheck x,ty,pos,dG,g⟩ a w L U I):=by
 have hx:=h.eval x
 unfold vD
 split
 .rename_i id off hb
  rw[hb]at hx
  obtain⟨b,_,hv⟩:=hx
  exact bO.pure h (x:=a.eval x) (by simp_all[execOp]) (hb▸h.eval x)
 .rename_i cs off hb
  rw[hb]at hx
  obtain⟨b,o,_,hv,_⟩:=hx
  exact bO.pure h (x:=a.eval x) (by simp_all[execOp]) (hb▸h.eval x)
 .rename_i id s n k j hb
  rw[hb]at hx
  obtain⟨b,o,hv,_⟩:=hx
  exact bO.pure h (x:=a.eval x) (by simp_all[execOp]) (hb▸h.eval x)
 .rename_i f bU hb
  rw[hb]at hx
  obtain⟨xs,hv,_⟩:=hx
  exact bO.pure h (x:=a.eval x) (by simp_all[execOp]) (hb▸h.eval x)
 trivial
def jv (op:BinOp) (k:IntKind) (x y:Int):Int:=
 match op with
 | .and=>k.wrap (BitVec.ofInt k.bits x&&&BitVec.ofInt k.bits y).toNat
 | .or=>k.wrap (BitVec.ofInt k.bits x|||BitVec.ofInt k.bits y).toNat
 | .xor=>k.wrap (BitVec.ofInt k.bits x^^^BitVec.ofInt k.bits y).toNat
 |_=>k.wrap (BitVec.ofInt k.bits x&&& ~~~BitVec.ofInt k.bits y).toNat
def zd (op:BinOp) (k:IntKind) (x y:Int):R:=
 match op with
 | .add=> .ok (.int k (k.wrap (x+y)))
 | .sub=> .ok (.int k (k.wrap (x - y)))
 | .mul=> .ok (.int k (k.wrap (x*y)))
 | .quo=> .dW (y≠0) (.int k (k.wrap (x.tdiv y)))
 | .rem=> .dW (y≠0) (.int k (x.tmod y))
 | .and=> .ok (.int k (jv .and k x y))
 | .or=> .ok (.int k (jv .or k x y))
 | .xor=> .ok (.int k (jv .xor k x y))
 | .andNot=> .ok (.int k (jv .andNot k x y))
 | .eql=> .ok (.bool (x==y))
 | .neq=> .ok (.bool (x !=y))
 | .lss=> .ok (.bool (decide (x<y)))
 | .leq=> .ok (.bool (decide (x<=y)))
 | .gtr=> .ok (.bool (decide (x>y)))
 | .geq=> .ok (.bool (decide (x≥y)))
 | .shl=> .dW (0<=y) (.int k (k.wrap (x*2^(min y.toNat k.bits))))
 | .shr=> .dW (0<=y) (.int k (x.fdiv (2^(min y.toNat k.bits))))
def ze (op:BinOp) (x y:afE):R:=
 match op with
 | .add=> .dW (x.length+y.length<=9223372036854775807) (.str (x++y))
 | .eql=> .ok (.bool (x==y))
 | .neq=> .ok (.bool (!(x==y)))
 | .lss=> .ok (.bool (Op.bytesLess x y))
 | .leq=> .ok (.bool (Op.bytesLess x y||x==y))
 | .gtr=> .ok (.bool (!(Op.bytesLess x y||x==y)))
 | .geq=> .ok (.bool (!(Op.bytesLess x y)))
 |_=> .fail
def jD (P:Program) (t:TypeId):Nat:=
 match P.underlying t with
 |some .bool=>1
 |some (.pointer _)=>2
 |some (.slice _)=>3
 |_=>0
def Fl (op:BinOp) (n:Nat):R:=
 match op with
 | .eql=>if 0<n then .ok (.bool false)else .all .bool
 | .neq=>if 0<n then .ok (.bool true)else .all λb=> .bool (!b)
 |_=> .fail
def zf:V->afK
 | .sl _ rows=>some rows.length
 | .cJ _ _ _ _ m=>some m
 |_=>none
def na (op:BinOp) (ek:Nat) (es:Option (List Pk)) (x y:V):R:=
 match x,y with
 | .int k a,.int k' b=>if k=k' then zd op k a b else(match op with| .shl=> .dW (0<=b) (.int k (k.wrap (a*2^(min b.toNat k.bits))))| .shr=> .dW (0<=b) (.int k (a.fdiv (2^(min b.toNat k.bits))))|_=> .fail)
 | .str a,.str b=>ze op a b
 | .bool a,.bool b=>if ek=1 then(match op with| .eql=> .ok (.bool (a==b))| .neq=> .ok (.bool (!(a==b)))|_=> .fail)else .fail
 | .ptr _ _,.fq=>if ek=2 then(match op with| .eql=> .ok (.bool false)| .neq=> .ok (.bool true)|_=> .fail)else .fail
 | .fq,.fq=>if ek=2 then(match op with| .eql=> .ok (.bool true)| .neq=> .ok (.bool false)|_=> .fail)else .fail
 | .agg az,.agg bs=>(match es.bind λks=>kJ ks az bs with
  |some r=>(match op with| .eql=> .ok (.bool r)| .neq=> .ok (.bool (!r))|_=> .fail)
  |none=> .fail)
 |_,_=> .fail
def tU (op:BinOp) (ek:Nat) (x:V):R:=if ek=3 then(match zf x with|some n=>Fl op n|none=> .fail)else .fail
def oI:Operand->Bool
 | .const (.slice none 0 0)=>true
 |_=>false
theorem HA {k k':IntKind} {x y:Int} (op:BinOp) (aa:op= .shl\/op= .shr) (hy:0<=y) (w:World):
  (Op.shift op k x k' y).run P w= .ok (.int k (if op= .shl then k.wrap (x*2^(min y.toNat k.bits))else x.fdiv (2^(min y.toNat k.bits)))) w:=by
 have: ¬y<0:=om
 rcases aa with rfl|rfl<;>simp[Op.shift,this]
theorem Vf {pos:String} (op:BinOp) (t t':TypeId) (x y:Operand) (h:dp c nt e U a w L I) {k:IntKind} {m n:Int} (hx:a.eval x= .int k m) (hy:a.eval y= .int k n):
  fh (zd op k m n) U (bO P c ⟨dst,.binOp op t x y t',ty,pos,dG,g⟩ a w L U I):=by
 have run: ∀v,(binOp op t (.int k m) (.int k n)).run P w= .ok v w->(execOp a.eval ⟨dst,.binOp op t x y t',ty,pos,dG,g⟩).run P w= .ok (.value v) w:=by
  simp_all[execOp,eqGuard]
 cases op
 case quo=>exact λhn=>bO.pure h (by simp_all[binOp,Op.intDiv]) (cq.int _ _)
 case rem=>exact λhn=>bO.pure h (by simp_all[binOp,Op.intDiv]) (cq.int _ _)
 case shl=>exact λhn=>bO.pure h (run _ (by simp only[binOp];rw[HA .shl (.inl rfl) hn];simp)) (cq.int _ _)
 case shr=>exact λhn=>bO.pure h (run _ (by simp only[binOp];rw[HA .shr (.inr rfl) hn];simp)) (cq.int _ _)
 case add=>exact bO.pure h (by simp_all[binOp,Op.intArith]) (cq.int _ _)
 case sub=>exact bO.pure h (by simp_all[binOp,Op.intArith]) (cq.int _ _)
 case mul=>exact bO.pure h (by simp_all[binOp,Op.intArith]) (cq.int _ _)
 case and=>exact bO.pure h (run _ (by simp only[binOp,Op.intBits,ne_eq,afu,afs,Sem.run_pure];rfl)) (cq.int _ _)
 case or=>exact bO.pure h (run _ (by simp only[binOp,Op.intBits,ne_eq,afu,afs,Sem.run_pure];rfl)) (cq.int _ _)
 case xor=>exact bO.pure h (run _ (by simp only[binOp,Op.intBits,ne_eq,afu,afs,Sem.run_pure];rfl)) (cq.int _ _)
 case andNot=>exact bO.pure h (run _ (by simp only[binOp,Op.intBits,ne_eq,afu,afs,Sem.run_pure];rfl)) (cq.int _ _)
 case eql=>exact bO.pure h (by simp_all[binOp,Op.intCmp]) (cq.bool _)
 case neq=>exact bO.pure h (by simp_all[binOp,Op.intCmp]) (cq.bool _)
 case lss=>exact bO.pure h (by simp_all[binOp,Op.intCmp]) (cq.bool _)
 case leq=>exact bO.pure h (by simp_all[binOp,Op.intCmp]) (cq.bool _)
 case gtr=>exact bO.pure h (by simp_all[binOp,Op.intCmp]) (cq.bool _)
 case geq=>exact bO.pure h (by simp_all[binOp,Op.intCmp]) (cq.bool _)
theorem Vg {pos:String} (op:BinOp) (t t':TypeId) (x y:Operand) (h:dp c nt e U a w L I) {m n:afE} (hx:a.eval x= .string ⟨m.toArray⟩) (hy:a.eval y= .string ⟨n.toArray⟩):
  fh (ze op m n) U (bO P c ⟨dst,.binOp op t x y t',ty,pos,dG,g⟩ a w L U I):=by
 have run: ∀v,(binOp op t (.string ⟨m.toArray⟩) (.string ⟨n.toArray⟩)).run P w= .ok v w->(execOp a.eval ⟨dst,.binOp op t x y t',ty,pos,dG,g⟩).run P w= .ok (.value v) w:=by
  simp_all[execOp,eqGuard]
 cases op
 case add=>
  intro hn
  refine bO.pure h (run (.string ⟨(m++n).toArray⟩) ?_) (cq.str _)
  have hs: ¬((m.length:Int)+(n.length:Int)>9223372036854775807):=om
  have ab: ∀l:afE,(ByteArray.mk l.toArray).size=l.length:=(by grind[ByteArray.size])
  have aa:(ByteArray.mk m.toArray)++(ByteArray.mk n.toArray)=ByteArray.mk (m++n).toArray:=by
   rfl
  simp_all[binOp,Op.stringOp]
 case eql=>exact bO.pure h (by simp_all[binOp,Op.stringOp]) (cq.bool _)
 case neq=>exact bO.pure h (by simp_all[binOp,Op.stringOp]) (cq.bool _)
 case lss=>exact bO.pure h (by simp_all[binOp,Op.stringOp]) (cq.bool _)
 case leq=>exact bO.pure h (by simp_all[binOp,Op.stringOp]) (cq.bool _)
 case gtr=>exact bO.pure h (by simp_all[binOp,Op.stringOp]) (cq.bool _)
 case geq=>exact bO.pure h (by simp_all[binOp,Op.stringOp]) (cq.bool _)
 all_goals trivial
theorem Ks (h:jD P t=1):P.underlying t=some .bool:=by
 grind[jD]
theorem Fm (h:jD P t=2): ∃el,P.underlying t=some (.pointer el):=by
 grind[jD]
theorem Vh (hb:P.underlying t=some .bool) (x y:Bool) (w:World) (d:Nat):(Op.equalIn (d+1) t (.bool x) (.bool y)).run P w= .ok (x==y) w:=by
 simp[Op.equalIn,run_underlying hb]
theorem Vi (hb:P.underlying t=some (.pointer el)) (x:Option Addr) (w:World) (d:Nat):(Op.equalIn (d+1) t (.pointer x) (.pointer none)).run P w= .ok x.isNone w:=by
 cases x<;>simp[Op.equalIn,run_underlying hb]
theorem OG (hb:P.underlying t=some .bool) (x y:Bool) (w:World):(Op.equal t (.bool x) (.bool y)).run P w= .ok (x==y) w:=
 Vh hb x y w 9999
theorem HB (hb:P.underlying t=some (.pointer el)) (x:Option Addr) (w:World):(Op.equal t (.pointer x) (.pointer none)).run P w= .ok x.isNone w:=
 Vi hb x w 9999
theorem Vj {pos:String} (op:BinOp) (t t':TypeId) (x y:Operand) (h:dp c nt e U a w L I):
  fh (na op (jD P t) (mu P t) (zF e x) (zF e y)) U (bO P c ⟨dst,.binOp op t x y t',ty,pos,dG,g⟩ a w L U I):=by
 have hx:=h.eval x
 have hy:=h.eval y
 unfold na
 split
 .rename_i k m k' n h1 h2
  rw[h1]at hx;rw[h2]at hy
  have e1:=yI hx;have e2:=yI hy
  by_cases hk:k=k'
  .subst hk
   rw[afb rfl]
   grind[Vf]
  .rw[afa hk]
   split
   .exact λhn=>bO.pure h (by simp only[execOp,e1,e2,eqGuard,binOp];simp[HA .shl (.inl rfl) hn]) (cq.int _ _)
   .exact λhn=>bO.pure h (by simp only[execOp,e1,e2,eqGuard,binOp];simp[HA .shr (.inr rfl) hn]) (cq.int _ _)
   trivial
 .grind[Vg,kI]
 .rename_i m n h1 h2
  rw[h1]at hx;rw[h2]at hy
  have e1:=oH hx;have e2:=oH hy
  split
  .rename_i hb
   have ae:=Ks hb
   split
   .exact bO.pure h (by simp_all[execOp,eqGuard,binOp,OG]) (cq.bool _)
   .exact bO.pure h (by simp_all[execOp,eqGuard,binOp,OG]) (cq.bool _)
   trivial
  trivial
 .rename_i id off h1 h2
  rw[h1]at hx;rw[h2]at hy
  obtain⟨b,_,e1⟩:=hx
  have e2:=Kn hy
  split
  .rename_i hb
   obtain⟨el,ae⟩:=Fm hb
   split
   .exact bO.pure h (x:= .bool false) (by simp_all[execOp,eqGuard,binOp,HB]) (cq.bool _)
   .exact bO.pure h (x:= .bool true) (by simp_all[execOp,eqGuard,binOp,HB]) (cq.bool _)
   trivial
  trivial
 .rename_i h1 h2
  rw[h1]at hx;rw[h2]at hy
  have e1:=Kn hx
  have e2:=Kn hy
  split
  .rename_i hb
   obtain⟨el,ae⟩:=Fm hb
   split
   .exact bO.pure h (x:= .bool true) (by simp_all[execOp,eqGuard,binOp,HB]) (cq.bool _)
   .exact bO.pure h (x:= .bool false) (by simp_all[execOp,eqGuard,binOp,HB]) (cq.bool _)
   trivial
  trivial
 .rename_i az bs h1 h2
  rw[h1]at hx;rw[h2]at hy
  obtain⟨xs,e1,r1⟩:=hx
  obtain⟨ys,e2,r2⟩:=hy
  split
  .rename_i r hr
   cases aa:mu P t with
   |none=>grind
   |some ks=>
    rw[aa]at hr
    simp only[Ao]at hr
    have af:=Kq ks az bs xs ys r r1 r2 hr
    unfold mu at aa
    split at aa
    .rename_i fs hu
     split at aa
     .rename_i hg
      have ha:cL P t=some true:=by grind[cL,Km]
      have o1: ∀z∈xs,z.oneCell':=λz hz=>by
       obtain⟨i,hi⟩:=Au.1 hz
       have hl:=r1.length
       obtain⟨y,ab,rr⟩:=r1.get i (az[i]'(by grind)) sm
       rw[hi]at ab;cases ab
       exact rr.dj
      have o2: ∀z∈ys,z.oneCell':=λz hz=>by
       obtain⟨i,hi⟩:=Au.1 hz
       have hl:=r2.length
       obtain⟨y,ab,rr⟩:=r2.get i (bs[i]'(by grind)) sm
       rw[hi]at ab;cases ab
       exact rr.dj
      have ad: ∀z:afG,nF P t (.agg z.toArray):=λz=>by unfold nF;grind
      have ag:=Kr 10 t ks aa 10000 om (.agg xs.toArray) (.agg ys.toArray) r (ad _) (ad _) (by simpa[Value.cells]using o1) (by simpa[Value.cells]using o2) (by simpa[Value.cells]using af) w
      split
      .exact bO.pure h (x:= .bool r) (by simp_all[execOp,run_eqGuard_agg,run_eql_struct]) (cq.bool _)
      .exact bO.pure h (x:= .bool (!r)) (by simp_all[execOp,run_eqGuard_agg,run_neq_struct]) (cq.bool _)
      trivial
     grind
    grind
  trivial
 trivial
theorem Kt (h:jD P t=3): ∃el,P.underlying t=some (.slice el):=by
 grind[jD]
theorem Vk {y:Operand} (h:oI y):y= .const (.slice none 0 0):=by
 unfold oI at h
 grind
theorem HC (hb:P.underlying t=some (.slice el)) (a:Option Addr) (n cap:Nat) (w:World):(Op.equal t (.slice a n cap) (.slice none 0 0)).run P w= .ok a.isNone w:=by
 have key: ∀d,(Op.equalIn (d+1) t (.slice a n cap) (.slice none 0 0)).run P w= .ok a.isNone w:=λd=>by
  cases a<;>simp[Op.equalIn,run_underlying hb]
 exact key 9999
theorem Vl {pos:String} (op:BinOp) (t t':TypeId) (x y:Operand) (hy:oI y) (h:dp c nt e U a w L I):
  fh (tU op (jD P t) (zF e x)) U (bO P c ⟨dst,.binOp op t x y t',ty,pos,dG,g⟩ a w L U I):=by
 have hx:=h.eval x
 have hy:=Vk hy
 subst hy
 unfold tU
 split
 .rename_i hk
  obtain⟨el,hu⟩:=Kt hk
  split
  .rename_i n hn
   have hv: ∃ad cap,a.eval x= .slice ad n cap/\(0<n->ad.isNone=false):=by
    unfold zf at hn
    split at hn
    .rename_i gg rows h1
     rw[h1]at hx
     cases hn
     have hr:=qS hx
     clear hx
     revert hr
     generalize a.eval x=z
     intro hr
     cases hr<;>simp
    .rename_i id s n' lo m h1
     rw[h1]at hx
     cases hn
     obtain⟨ad,cap,hv,ab,aa,_⟩:=hx
     grind
    grind
   obtain⟨ad,cap,hv,hz⟩:=hv
   have hc:a.eval (.const (.slice none 0 0))= .slice none 0 0:=rfl
   unfold Fl
   split
   .split
    .rename_i h0
     exact bO.pure h (x:= .bool false) (by simp_all[execOp,eqGuard,binOp,HC]) (cq.bool _)
    .exact⟨ad.isNone,bO.pure h (x:= .bool ad.isNone) (by simp_all[execOp,eqGuard,binOp,HC]) (cq.bool _)⟩
   .split
    .rename_i h0
     exact bO.pure h (x:= .bool true) (by simp_all[execOp,eqGuard,binOp,HC]) (cq.bool _)
    .exact⟨ad.isNone,bO.pure h (x:= .bool (!ad.isNone)) (by simp_all[execOp,eqGuard,binOp,HC]) (cq.bool _)⟩
   trivial
  trivial
 trivial
def mw (op:UnOp) (x:V):R:=
 match op,x with
 | .not,.bool b=> .ok (.bool (!b))
 | .neg,.int k n=> .ok (.int k (k.wrap (0 - n)))
 | .xor,.int k n=> .ok (.int k (jv .xor k (if k.signed then -1 else k.max) n))
 |_,_=> .fail
theorem Vm {pos:String} (op:UnOp) (t:TypeId) (x:Operand) (h:dp c nt e U a w L I):
  fh (mw op (zF e x)) U (bO P c ⟨dst,.unOp op t x,ty,pos,dG,g⟩ a w L U I):=by
 have hx:=h.eval x
 unfold mw
 split
 .rename_i b h1
  rw[h1]at hx
  exact bO.pure h (x:= .bool (!b)) (by simp[execOp,oH hx,Op.unary]) (cq.bool _)
 .rename_i k n h1
  rw[h1]at hx
  exact bO.pure h (x:= .int k (k.wrap (0 - n))) (by simp only[execOp,yI hx,Op.unary,Op.intArith,Sem.run_bind,Sem.run_pure,Result.andThen_ok]) (cq.int _ _)
 .rename_i k n h1
  rw[h1]at hx
  exact bO.pure h (x:= .int k (jv .xor k (if k.signed then -1 else k.max) n)) (by simp only[execOp,yI hx,Op.unary,Op.intBits,Sem.run_bind,Sem.run_pure,Result.andThen_ok];rfl) (cq.int _ _)
 trivial
def vE (x:V) (i:Nat):R:=
 match x with
 | .cm vs=>(match vs[i]? with|some v=> .ok v|none=> .fail)
 |_=> .fail
theorem Vn {pos:String} (x:Operand) (i:Nat) (h:dp c nt e U a w L I):
  fh (vE (zF e x) i) U (bO P c ⟨dst,.extract x i,ty,pos,dG,g⟩ a w L U I):=by
 have hx:=h.eval x
 unfold vE
 split
 .rename_i vs h1
  rw[h1]at hx
  obtain⟨xs,hv,aa⟩:=hx
  split
  .rename_i v ab
   obtain⟨y,hy,r⟩:=aa.get _ _ ab
   exact bO.pure h (x:=y) (by simp_all[execOp,Instr.extract]) (cV.kG r)
  trivial
 trivial
def vF (P:Program) (t:TypeId) (x:V) (f:Nat):R:=
 match cA P t f,x with
 |some (off,_,_),.ptr id o=> .ok (.ptr id (o+off))
 |some (off,_,_),.nC cs o=> .ok (.nC cs (o+off))
 |some (off,_,_),.iE id s n k j=> .ok (.iE id s n k (j+off))
 |_,_=> .fail
theorem Ku {f off s:Nat} {b:Bool} (h:cA P t f=some (off,s,b)): ∃fs fd,P.underlying t=some (.struct fs)/\fs[f]? =some fd/\fd.offset=off/\ez P fd.type=some s/\cL P fd.type=some b/\s≠0:=by
 unfold cA at h
 split at h
 .rename_i fs hu
  cases hf:fs[f]? with
  |none=>grind
  |some fd=>
   simp only[hf,Ao]at h
   cases hs:ez P fd.type with
   |none=>grind
   |some s'=>
    simp only[hs,Ao]at h
    cases hb:cL P fd.type<;>grind
 grind
theorem Vo {pos:String} (t:TypeId) (x:Operand) (f:Nat) (h:dp c nt e U a w L I):
  fh (vF P t (zF e x) f) U (bO P c ⟨dst,.fieldAddr t x f,ty,pos,dG,g⟩ a w L U I):=by
 have hx:=h.eval x
 have run: ∀{off s:Nat} {b:Bool} {bl o:Nat},cA P t f=some (off,s,b)->a.eval x= .pointer (some ⟨bl,o,none⟩)->(execOp a.eval ⟨dst,.fieldAddr t x f,ty,pos,dG,g⟩).run P w= .ok (.value (.pointer (some ⟨bl,o+off,none⟩))) w:=by
  intro off s b bl o hf hv
  obtain⟨fs,fd,hu,aa,rfl,hs,hb,h0⟩:=Ku hf
  simp_all[execOp,Instr.fieldAt,run_underlying,Instr.sureAddr,fieldPlace,nE,wD]
 unfold vF
 split
 .rename_i off s b id o hf h1
  rw[h1]at hx
  obtain⟨bl,hb,hv⟩:=hx
  exact bO.pure h (run hf hv) ⟨bl,hb,rfl⟩
 .rename_i off s b cs o hf h1
  rw[h1]at hx
  obtain⟨bl,o',c',hv,hl,hc⟩:=hx
  exact bO.pure h (run hf hv) ⟨bl,o',c',sm,hl,hc⟩
 .rename_i off s b id s' n k j hf h1
  rw[h1]at hx
  obtain⟨bl,o',hv,hc⟩:=hx
  refine bO.pure h (run hf hv) ⟨bl,o'+off,rfl, ?_⟩
  grind
 trivial
end
section
variable {P:Program} {c:Ctx} {nt:Nat} {e:Env} {U:St} {a:Act} {w:World} {L:Nat->Nat} {I:afG} {o:Oper}
variable {t:TypeId}{off:Nat}{dst:Option Tmp}{ty:TypeId}{dG:Array Edge}{g:Option (Nat×Bool)}{bl:Nat}{cs:List V}
def p7 (ag:Option Bool) (sz:afK) (cs:List V) (off:Nat):R:=
 match ag,sz with
 |some true,some s=>if off+s<=cs.length then .ok (.agg ((cs.drop off).take s))else .fail
 |some false,_=>(match cs[off]? with|some v=> .ok v|none=> .fail)
 |_,_=> .fail
def my (P:Program) (t:TypeId) (U:St) (x:V):R:=
 match x with
 | .ptr id off=>(match U[id]? with|some (.box cs)=>p7 (cL P t) (ez P t) cs off|_=> .fail)
 | .nC cs off=>p7 (cL P t) (ez P t) cs off
 | .iE id s n k j=>(match U[id]? with|some (.cc rows s')=>if s'=s/\rows.length=n/\k<n then p7 (cL P t) (ez P t) (rows.getD k []) j else .fail|_=> .fail)
 |_=> .fail
theorem Vp {s:Nat} {xs:afG} (aa:cL P t=some true) (ab:ez P t=some s) (hl:xs.length=s) (hx: ∀(j:Nat) v,xs[j]? =some v->w.cell? ⟨bl,off+j,none⟩=some v):
  (loadVar t ⟨bl,off,none⟩).run P w= .ok (.agg xs.toArray) w:=by
 have:=run_loadCells_list (P:=P) w ⟨bl,off,none⟩ xs (λj v hj=>by rw[wD];exact hx j v hj)
 simp_all[loadVar,sO,nE]
theorem Vq {v:Value} (aa:cL P t=some false) (hx:w.cell? ⟨bl,off,none⟩=some v):
  (loadVar t ⟨bl,off,none⟩).run P w= .ok v w:=by
 simp_all[loadVar,sO]
theorem Kv (t:TypeId) {o:Nat} {v:V}
  (hc: ∀(j:Nat) v,cs[j]? =some v-> ∃y,w.cell? ⟨bl,o+j,none⟩=some y/\cN w L U I v y) (hl:p7 (cL P t) (ez P t) cs off= .ok v):
  ∃y,(loadVar t ⟨bl,o+off,none⟩).run P w= .ok y w/\cV w L U I v y:=by
 unfold p7 at hl
 split at hl
 .rename_i s aa ae
  split at hl
  .rename_i hle
   simp only[R.ok.injEq]at hl
   subst hl
   let f:=λk=>(w.cell? ⟨bl,o+(off+k),none⟩).getD undef
   let xs:=(List.range s).map f
   have af: ∀(j:Nat) v,xs[j]? =some v->w.cell? ⟨bl,o+off+j,none⟩=some v/\ ∃p,cs[off+j]? =some p/\cN w L U I p v:=by
    intro j v hj
    have ab:j<s:=by
     grind
    simp only[xs,B3,Cs ab,Ba,afg]at hj
    obtain⟨y,hy,r⟩:=hc (off+j) _ (A0 om)
    grind
   refine⟨.agg xs.toArray,(by grind[Vp]),xs,rfl,bL.of (by simp[xs];omega) λj p v hu hj=> ?_⟩
   grind
  grind
 .rename_i aa
  split at hl
  .rename_i v' ad
   simp only[R.ok.injEq]at hl
   subst hl
   obtain⟨y,hy,r⟩:=hc off _ ad
   simp_all[Vq,cV.df]
  grind
 grind
theorem Kw {ag:Option Bool} {sz:afK}:(∃v,p7 ag sz cs off= .ok v)\/p7 ag sz cs off= .fail:=by
 unfold p7
 grind
theorem OH (t:TypeId) {x:V} {y:Value} {v:V} (hm:Mem c w L U I) (hx:cV w L U I x y) (hl:my P t U x= .ok v):
  ∃bl off z,y= .pointer (some ⟨bl,off,none⟩)/\(loadVar t ⟨bl,off,none⟩).run P w= .ok z w/\cV w L U I v z:=by
 unfold my at hl
 split at hl
 .rename_i id off
  obtain⟨bl,hb,hv⟩:=hx
  split at hl
  .rename_i cs cv
   obtain⟨b',arr,T,fz,e1,hh,_,_,aa⟩:=hm.cO id _ _ cv hb
   cases e1
   obtain⟨z,hz,r⟩:=Kv (P:=P) (w:=w) (L:=L) (U:=U) (I:=I) t (bl:=bl) (o:=0) (λj v hj=>by
    obtain⟨y,hy,r⟩:=aa.get _ _ hj
    grind[World.cell?]) hl
   grind
  grind
 .rename_i cs off
  obtain⟨bl,o',c',hv,e9,hc⟩:=hx
  obtain⟨z,hz,r⟩:=Kv (P:=P) (w:=w) (L:=L) (U:=U) (I:=I) t (bl:=bl) (o:=o') (by grind[cN.cS]) hl
  grind
 .rename_i id s n k j
  obtain⟨bl,o',hv,hc⟩:=hx
  split at hl
  .rename_i rows s' cv
   split at hl
   .rename_i ab
    obtain⟨rfl,hn,hk⟩:=ab
    rcases hc with hd|⟨cp,ad,ae,hb⟩
    .grind
    .rw[cv]at ad
     cases ad
     obtain⟨c0,cR,ho⟩:=hb hn.symm hk
     obtain⟨a,cap,e1,cQ,hs,hu,cH⟩:=hm.cO id _ _ cv cR
     cases e1
     obtain⟨b',arr,T,fz,e2,hh,_,_,_,aa⟩:=cH om
     cases e2
     have hg:rows.getD k []=rows[k]'om:=by grind
     obtain⟨z,hz,r⟩:=Kv (P:=P) (w:=w) (L:=L) (U:=U) (I:=I) t (bl:=bl) (o:=k*s') (cs:=rows.getD k []) (off:=j) (λi v hi=>by
      have af:i<s':=by
       grind
      have hf:rows.flatten[k*s'+i]? =some v:=by
       grind[yM]
      obtain⟨y,hy,r⟩:=aa.get _ _ hf
      grind[World.cell?]) hl
     grind
   grind
  grind
 grind
theorem Vr {x:V}:(∃v,my P t U x= .ok v)\/my P t U x= .fail:=by
 unfold my
 split
 .split
  .exact Kw
  simp
 .exact Kw
 .split
  .split
   .exact Kw
   simp
  simp
 simp
theorem HD {s:Nat} {vs:List V}: ∀{rows:List (List V)} (k j:Nat),(∀r∈rows,r.length=s)->k<rows.length->j+vs.length<=s->(rows.set k (putCells (rows.getD k []) j vs)).flatten=putCells rows.flatten (k*s+j) vs
 | [],k,j,_,hk,_=>by grind
 |r::rows,0,j,h,_,hj=>by
  have hr:=h r sm
  have e:(r::rows).getD 0 []=r:=rfl
  rw[e,Cl,D7,D7,Cu,A7]
  grind[putCells]
 |r::rows,k+1,j,h,hk,hj=>by
  have hr:=h r sm
  have ih:=HD (s:=s) (vs:=vs) (rows:=rows) k j (λx hx=>h x (by simp[hx])) (sU hk) hj
  have e:(r::rows).getD (k+1) []=rows.getD k []:=sm
  rw[e,Bv,D7,ih,D7]
  unfold putCells
  have e2:(k+1)*s+j=r.length+(k*s+j):=by rw[B0,hr];omega
  have e3:r.length+(k*s+j)+vs.length=r.length+(k*s+j+vs.length):=Dp _ _ _
  rw[e2,List.take_length_add_append,e3,List.drop_length_add_append]
  simp
theorem Vs {pos:String} (t:TypeId) (x:Operand) (h:dp c nt e U a w L I):
  fh (my P t U (zF e x)) U (bO P c ⟨dst,.load t x,ty,pos,dG,g⟩ a w L U I):=by
 rcases Vr (P:=P) (U:=U) (t:=t) (x:=zF e x)with ⟨v,hv⟩|hv
 .obtain⟨bl,off,z,hy,hz,r⟩:=OH (P:=P) t h.mem (h.eval x) hv
  rw[hv]
  exact bO.pure h (x:=z) (by simp_all[execOp,Instr.loadAt,Instr.sureAddr]) r
 .rw[hv];trivial
def tW (P:Program) (t:TypeId) (U:St) (x y:V):R:=
 match x with
 | .ptr id off=>(match U[id]?,ez P t with
  |some (.box cs),some s=>if mq y=true/\(xG y).length=s/\off+s<=cs.length then .st .u (U.set id (.box (putCells cs off (xG y))))else .fail
  |_,_=> .fail)
 | .iE id s n k j=>(match U[id]?,ez P t with
  |some (.cc rows s'),some z=>if mq y=true/\(xG y).length=z/\j+z<=s/\s'=s/\rows.length=n/\k<n then .st .u (U.set id (.cc (rows.set k (putCells (rows.getD k []) j (xG y))) s))else .fail
  |_,_=> .fail)
 |_=> .fail
theorem Vt {pos:String} (t:TypeId) (x y:Operand) (h:dp c nt e U a w L I):
  fh (tW P t U (zF e x) (zF e y)) U (bO P c ⟨dst,.store t x y,ty,pos,dG,g⟩ a w L U I):=by
 have hx:=h.eval x
 have hy:=h.eval y
 unfold tW
 split
 .rename_i id off h1
  rw[h1]at hx
  obtain⟨bl,hb,hv⟩:=hx
  split
  .rename_i cs s cv an
   split
   .rename_i ab
    obtain⟨ae,hlen,hle⟩:=ab
    have aa:=zc hy ae
    obtain⟨arr,T,fz,hh,hf,ai,ad,af⟩:=h.mem.jc (off:=off) cv hb aa om
    have ao:=aa.length
    have aq:=wB P bl off T fz (a.eval y).cells.toList 0 arr w hh hf om (λv hv=> ?_)
    .refine⟨undef,_,L,I,.inr ⟨?_,rfl⟩,ad,af,Ext.jc cv _,tV⟩
     simp_all[execOp,Instr.storeAt,Instr.sureAddr,storeVar,nE]
    .obtain⟨k,hk⟩:=Au.1 hv
     have ag:k<(xG (zF e y)).length:=by
      grind
     obtain⟨z,hz,r⟩:=aa.get k _ (A0 ag)
     rw[hk]at hz;cases hz
     exact r.dj
   trivial
  trivial
 .rename_i id s n k j h1
  rw[h1]at hx
  obtain⟨bl,o',hv,hc⟩:=hx
  split
  .rename_i rows s' z cv an
   split
   .rename_i ab
    obtain⟨ae,hlen,hle,rfl,hn,hk⟩:=ab
    rcases hc with hd|⟨cp,aj,av,hb⟩
    .grind
    .rw[cv]at aj
     cases aj
     obtain⟨c0,cR,ho⟩:=hb hn.symm hk
     obtain⟨a',cap,e1,cQ,hs,hu,_⟩:=h.mem.cO id _ _ cv cR
     cases e1
     have aa:=zc hy ae
     have ao:=aa.length
     have ag:k<rows.length:=om
     have ar:(k+1)*s'<=rows.length*s':=Af _ ag
     rw[B0,D0]at ar
     have hg:rows.getD k []=rows[k]'ag:=by grind
     obtain⟨arr,T,fz,hh,hf,ai,ad,af,ah⟩:=h.mem.gk (cp:=rows.set k (putCells (rows.getD k []) j (xG (zF e y)))) (off:=k*s'+j) cv cR om aa om (λr hr=>by
      grind[Oz]) (by grind[HD]) sm (by grind)
     have ak:I.set id (.slice (some ⟨bl,0,none⟩) (rows.set k (putCells (rows.getD k []) j (xG (zF e y)))).length c0)=I:=(by grind[yE])
     rw[ak]at ad ah
     have aq:=wB P bl (k*s'+j) T fz (a.eval y).cells.toList 0 arr w hh hf om (λv hv=> ?_)
     .refine⟨undef,_,L,I,.inr ⟨?_,rfl⟩,ad,af,ah,tV⟩
      simp_all[execOp,Instr.storeAt,Instr.sureAddr,storeVar,nE]
     .obtain⟨q,hq⟩:=Au.1 hv
      have au:q<(xG (zF e y)).length:=by
       grind
      obtain⟨z',al,r⟩:=aa.get q _ (A0 au)
      rw[hq]at al;cases al
      exact r.dj
   trivial
  trivial
 trivial
def tX (U:St) (x:V):R:=if mq x=true then .st (.ptr U.length 0) (U++ [.box (xG x)])else .fail
theorem Vu {pos:String} (t:TypeId) (x:Operand) (h:dp c nt e U a w L I):
  fh (tX U (zF e x)) U (bO P c ⟨dst,.box t x,ty,pos,dG,g⟩ a w L U I):=by
 have hx:=h.eval x
 unfold tX
 split
 .rename_i aa
  obtain⟨h1,h2⟩:=h.mem.box _ (a.eval x).cells t (zc hx aa)
  refine⟨_,_,L,_,.inl ?_,h1,h2,Ext.push U I h.mem.len _ _,⟨w.heap.size, ?_,rfl⟩⟩
  .rfl
  .rw[<-h.mem.len,Ay (A3 _)];simp
 trivial
def pa (P:Program) (t:TypeId) (U:St):R:=
 match wW P t with
 |some cs=> .st (.ptr U.length 0) (U++ [.box cs])
 |none=> .fail
theorem HE (h:wW P t=some cs): ∃i z,P.info? t=some i/\i.zero=some z/\(∀v∈z.cells.toList,v.oneCell'=true)/\cs=z.cells.toList.map iC:=by
 unfold wW at h
 cases hi:P.info? t with
 |none=>grind
 |some i=>
  cases hz:i.zero with
  |none=>grind
  |some z=>
   simp only[hi,hz,Ao]at h
   split at h
   .rename_i ha
    simp at h
    refine⟨i,z,rfl,hz,λv hv=> ?_,h.symm⟩
    exact Bd.1 ha v (by grind)
   grind
theorem Kx {xs:afG} (h: ∀v∈xs,v.oneCell'):bL (cq w L) (xs.map iC) xs:=by
 induction xs with
 |nil=>trivial
 |cons x xs ih=>exact⟨(by grind[Fi]),(by grind)⟩
theorem Vv {pos:String} (t:TypeId) (h:dp c nt e U a w L I):
  fh (pa P t U) U (bO P c ⟨dst,.alloc t,ty,pos,dG,g⟩ a w L U I):=by
 unfold pa
 split
 .rename_i cs hc
  obtain⟨i,z,hi,ab,aa,rfl⟩:=HE hc
  obtain⟨h1,h2⟩:=h.mem.box (z.cells.toList.map iC) z.cells t ((Kx aa).imp λ_ _=>cN.cS)
  refine⟨_,_,L,_,.inl ?_,h1,h2,Ext.push U I h.mem.len _ _,⟨w.heap.size, ?_,rfl⟩⟩
  .simp_all[execOp,Instr.alloc,zeroValue,typeInfo,newVar,newRow]
  .rw[<-h.mem.len,Ay (A3 _)];simp
 trivial
end
section
variable {P:Program} {c:Ctx} {nt:Nat} {e:Env} {U:St} {a:Act} {w:World} {L:Nat->Nat} {I:afG} {o:Oper}
variable {t:TypeId}{dst:Option Tmp}{ty:TypeId}{dG:Array Edge}{g:Option (Nat×Bool)}
def tY (sl:afK) (ar:Option (Nat×Nat×Bool)) (x i:V):R:=
 match x,i with
 | .sl _ rows,.int _ k=>(match sl with
  |some s=> .dW (0<=k/\k<rows.length/\(rows.getD k.toNat []).length=s) (.nC (rows.getD k.toNat []) 0)
  |none=> .fail)
 | .ptr id off,.int _ k=>(match ar with
  |some (n,s,_)=> .dW (0<=k/\k<n) (.ptr id (off+k.toNat*s))
  |none=> .fail)
 | .nC cs off,.int _ k=>(match ar with
  |some (n,s,_)=> .dW (0<=k/\k<n) (.nC cs (off+k.toNat*s))
  |none=> .fail)
 | .cJ id s n lo m,.int _ k=>if sl=some s then .dW (0<=k/\k<m) (.iE id s n (lo+k.toNat) 0)else .fail
 | .jB id s off n,.int _ k=>if sl=some s then .dW (0<=k/\k<n) (.ptr id (off+k.toNat*s))else .fail
 |_,_=> .fail
theorem Ky {s:Nat} (h:eL P t=some s): ∃el,P.underlying t=some (.slice el)/\ez P el=some s:=by
 grind[eL]
theorem HF {n s:Nat} {b:Bool} (h:gT P t=some (n,s,b)): ∃el,P.underlying t=some (.array n el)/\ez P el=some s/\cL P el=some b:=by
 unfold gT at h
 split at h
 .rename_i m el hu
  cases hs:ez P el with
  |none=>grind
  |some s'=>
   cases hb:cL P el<;>grind
 grind
theorem Vy {pos:String} (t:TypeId) (x i:Operand) (h:dp c nt e U a w L I):
  fh (tY (eL P t) (gT P t) (zF e x) (zF e i)) U (bO P c ⟨dst,.indexAddr t x i,ty,pos,dG,g⟩ a w L U I):=by
 have hx:=h.eval x
 have hi:=h.eval i
 unfold tY
 split
 .rename_i gg rows kd k h1 h2
  rw[h1]at hx;rw[h2]at hi
  split
  .rename_i s hs
   obtain⟨el,hu,aa⟩:=Ky hs
   rintro⟨h0,ab,ae⟩
   have hk:k.toNat<rows.length:=om
   have ai:rows≠ []:=(by grind)
   obtain⟨s',b,o',cap,hv,ak,af,e9,_,_,hc⟩:=(qS hx).flat ai
   have ag:rows.getD k.toNat []∈rows:=by
    grind
   have aj:s'=s:=by rw[<-af _ ag];omega
   subst aj
   have al:rows.getD k.toNat []=rows[k.toNat]:=by grind
   have e1:=yI hi
   refine bO.pure h (x:= .pointer (some ⟨b,o'+k.toNat*s',none⟩)) ?_ ?_
   .simp[execOp,hv,e1,Instr.indexAt,asIntOf,run_underlying hu,nE aa,h0,ab,wD]
   .refine⟨b,o'+k.toNat*s',λj=>(w.cell? ⟨b,o'+k.toNat*s'+j,none⟩).getD undef,rfl, ?_,λj hj=> ?_⟩
    .rw[ae]
     have:(k.toNat+1)*s'<=rows.length*s':=Af _ hk
     grind
    .rw[ae]at hj
     obtain⟨y,hy,r⟩:=hc (k.toNat*s'+j) ((rows.getD k.toNat [])[j]'om) (by
      rw[yM _ _ af hj,A0 hk]
      grind)
     grind
  trivial
 .rename_i id off kd k h1 h2
  rw[h1]at hx;rw[h2]at hi
  split
  .rename_i n s b hs
   obtain⟨el,hu,aa,_⟩:=HF hs
   rintro⟨h0,ab⟩
   obtain⟨bl,hb,hv⟩:=hx
   refine bO.pure h (x:= .pointer (some ⟨bl,off+k.toNat*s,none⟩)) ?_ ⟨bl,hb,rfl⟩
   simp[execOp,hv,yI hi,Instr.indexAt,asIntOf,run_underlying hu,nE aa,h0,ab,wD,Instr.sureAddr]
  trivial
 .rename_i cs off kd k h1 h2
  rw[h1]at hx;rw[h2]at hi
  split
  .rename_i n s b hs
   obtain⟨el,hu,aa,_⟩:=HF hs
   rintro⟨h0,ab⟩
   obtain⟨bl,o',c',hv,hl,hc⟩:=hx
   refine bO.pure h (x:= .pointer (some ⟨bl,o'+(off+k.toNat*s),none⟩)) ?_ ⟨bl,o',c',rfl,hl,hc⟩
   simp[execOp,hv,yI hi,Instr.indexAt,asIntOf,run_underlying hu,nE aa,h0,ab,wD,Instr.sureAddr,Dp]
  trivial
 .rename_i id s n lo m kd k h1 h2
  rw[h1]at hx;rw[h2]at hi
  split
  .rename_i hs
   obtain⟨el,hu,aa⟩:=Ky hs
   rintro⟨h0,ab⟩
   obtain⟨ad,cap,hv,hm,ah,hc⟩:=hx
   obtain⟨b,o,rfl⟩:=ah om
   refine bO.pure h (x:= .pointer (some ⟨b,o+k.toNat*s,none⟩)) ?_ ⟨b,o+k.toNat*s,rfl, ?_⟩
   .simp[execOp,hv,yI hi,Instr.indexAt,asIntOf,run_underlying hu,nE aa,h0,ab,wD]
   grind
  trivial
 .rename_i id s off n kd k h1 h2
  rw[h1]at hx;rw[h2]at hi
  split
  .rename_i hs
   obtain⟨el,hu,aa⟩:=Ky hs
   rintro⟨h0,ab⟩
   obtain⟨bl,hb,hv⟩:=hx
   refine bO.pure h (x:= .pointer (some ⟨bl,off+k.toNat*s,none⟩)) ?_ ⟨bl,hb,rfl⟩
   simp[execOp,hv,yI hi,Instr.indexAt,asIntOf,run_underlying hu,nE aa,h0,ab,wD]
  trivial
 trivial
def tZ (x i:V) (str:Bool) (ar:Option (Nat×Nat×Bool)):R:=
 match x,i with
 | .str b,.int _ k=>if str then .dW (0<=k/\k<b.length) (.int .u8 (b.getD k.toNat 0).toNat)else .fail
 | .agg cs,.int _ k=>(match ar with
  |some (n,s,false)=> .dW (0<=k/\k<n/\(k.toNat*s)<cs.length) (cs.getD (k.toNat*s) .u)
  |_=> .fail)
 |_,_=> .fail
def pb (P:Program) (t:TypeId):Bool:=match P.underlying t with|some .string=>true|_=>false
theorem Vz (h:pb P t):P.underlying t=some .string:=by
 grind[pb]
theorem VA {pos:String} (t:TypeId) (x i:Operand) (h:dp c nt e U a w L I):
  fh (tZ (zF e x) (zF e i) (pb P t) (gT P t)) U (bO P c ⟨dst,.index t x i,ty,pos,dG,g⟩ a w L U I):=by
 have hx:=h.eval x
 have hi:=h.eval i
 unfold tZ
 split
 .rename_i b kd k h1 h2
  rw[h1]at hx;rw[h2]at hi
  split
  .rename_i hs
   have hu:=Vz hs
   rintro⟨h0,aa⟩
   have hk:k.toNat<b.length:=om
   refine bO.pure h (x:= .int .u8 (b.getD k.toNat 0).toNat) ?_ (cq.int _ _)
   have hg:(ByteArray.mk b.toArray)[k.toNat]? =some (b.getD k.toNat 0):=by
    have:k.toNat<(ByteArray.mk b.toArray).size:=by simpa
    rw[getElem?_pos (ByteArray.mk b.toArray) k.toNat this]
    rw[A9,A0 hk]
    rfl
   simp[execOp,kI hx,yI hi,Instr.index,asIntOf,run_underlying hu,h0,hg]
  trivial
 .rename_i cs kd k h1 h2
  rw[h1]at hx;rw[h2]at hi
  split
  .rename_i n s hs
   obtain⟨el,hu,ad,ae⟩:=HF hs
   rintro⟨h0,aa,af⟩
   obtain⟨xs,hv,ab⟩:=hx
   obtain⟨y,hy,r⟩:=ab.get (k.toNat*s) _ (A0 af)
   refine bO.pure h (x:=y) ?_ (cV.df ?_)
   .simp[execOp,hv,yI hi,Instr.index,asIntOf,run_underlying hu,nE ad,h0,aa,part,sO ae,hy]
   grind
  trivial
 trivial
theorem vG (l:afE):(ByteArray.mk l.toArray).size=l.length:=by rfl
def de (P:Program) (t:TypeId):Nat:=
 match P.underlying t with
 |some .string=>1
 |some (.slice _)=>2
 |_=>0
theorem HG (h:de P t=1):P.underlying t=some .string:=by
 grind[de]
theorem sP (h:de P t=2): ∃el,P.underlying t=some (.slice el):=by
 grind[de]
def vH (k:Nat) (x:V):R:=
 match x with
 | .sl _ rows=>if k=2 then .ok (.int .i64 rows.length)else .fail
 | .str s=>if k=1 then .ok (.int .i64 s.length)else .fail
 | .cJ _ _ _ _ m=>if k=2 then .ok (.int .i64 m)else .fail
 | .jB _ _ _ n=>if k=2 then .ok (.int .i64 n)else .fail
 |_=> .fail
theorem VB {pos:String} (t:TypeId) (x:Operand) (h:dp c nt e U a w L I):
  fh (vH (de P t) (zF e x)) U (bO P c ⟨dst,.call ⟨.builtin .len, #[x], #[t]⟩,ty,pos,dG,g⟩ a w L U I):=by
 have hx:=h.eval x
 unfold vH
 split
 .rename_i gg rows h1
  rw[h1]at hx
  obtain⟨a',cap,hv,_,_⟩:=(qS hx).len
  split
  .rename_i hk
   obtain⟨el,hu⟩:=sP hk
   exact bO.pure h (x:= .int .i64 rows.length) (by simp_all[execOp,resolve,invoke,builtin,Builtin.len_,run_underlying,goInt]) (cq.int _ _)
  trivial
 .rename_i s h1
  rw[h1]at hx
  split
  .rename_i hk
   exact bO.pure h (x:= .int .i64 s.length) (by simp[execOp,resolve,invoke,builtin,Builtin.len_,kI hx,run_underlying (HG hk),goInt,vG]) (cq.int _ _)
  trivial
 .rename_i id s n lo m h1
  rw[h1]at hx
  obtain⟨ad,cap,hv,_⟩:=hx
  split
  .rename_i hk
   obtain⟨el,hu⟩:=sP hk
   exact bO.pure h (x:= .int .i64 m) (by simp_all[execOp,resolve,invoke,builtin,Builtin.len_,run_underlying,goInt]) (cq.int _ _)
  trivial
 .rename_i id s off n h1
  rw[h1]at hx
  obtain⟨bl,_,hv⟩:=hx
  split
  .rename_i hk
   obtain⟨el,hu⟩:=sP hk
   exact bO.pure h (x:= .int .i64 n) (by simp_all[execOp,resolve,invoke,builtin,Builtin.len_,run_underlying,goInt]) (cq.int _ _)
  trivial
 trivial
def pc (isMax:Bool):List V->R
 | [.int k x,.int _ y]=> .ok (.int k (if isMax then(if y>x then y else x)else(if y<x then y else x)))
 | [.str x,.str y]=> .ok (.str (if isMax then(if Op.bytesLess x y then y else x)else(if(Op.bytesLess x y||x==y)then x else y)))
 | [.int k x,.int _ y,.int _ z]=> .ok (.int k (if isMax then(let m:=if y>x then y else x;if z>m then z else m)else(let m:=if y<x then y else x;if z<m then z else m)))
 |_=> .fail
theorem OI {pos:String} (ts:Array TypeId) (xs:List Operand) (isMax:Bool) (h:dp c nt e U a w L I):
  fh (pc isMax (xs.map (zF e))) U (bO P c ⟨dst,.call ⟨.builtin (if isMax then .max else .min),xs.toArray,ts⟩,ty,pos,dG,g⟩ a w L U I):=by
 unfold pc
 split
 .rename_i k m k' n hl
  obtain⟨x,y,rfl⟩: ∃x y,xs= [x,y]:=by
   cases xs with
   |nil=>grind
   |cons x xs=>cases xs<;>simp_all
  simp at hl
  have e1:=yI (hl.1▸h.eval x);have e2:=yI (hl.2▸h.eval y)
  cases isMax
  .exact bO.pure h (x:= .int k (if n<m then n else m)) (by simp_all[execOp,resolve,invoke,builtin,Builtin.min_,Builtin.min2]) (cq.int _ _)
  .exact bO.pure h (x:= .int k (if n>m then n else m)) (by simp_all[execOp,resolve,invoke,builtin,Builtin.max_,Builtin.max2]) (cq.int _ _)
 .rename_i m n hl
  obtain⟨x,y,rfl⟩: ∃x y,xs= [x,y]:=by
   cases xs with
   |nil=>grind
   |cons x xs=>cases xs<;>simp_all
  simp at hl
  have e1:=kI (hl.1▸h.eval x);have e2:=kI (hl.2▸h.eval y)
  cases isMax
  .refine bO.pure h (x:= .string ⟨(if(Op.bytesLess m n||m==n)then m else n).toArray⟩) ?_ (cq.str _)
   simp[execOp,resolve,invoke,builtin,Builtin.min_,Builtin.min2,e1,e2,Op.stringOp,asBool]
   grind
  .refine bO.pure h (x:= .string ⟨(if Op.bytesLess m n then n else m).toArray⟩) ?_ (cq.str _)
   simp[execOp,resolve,invoke,builtin,Builtin.max_,Builtin.max2,e1,e2,Op.stringOp,asBool]
   grind
 .rename_i k m k' n aa q hl
  obtain⟨x,y,z,rfl⟩: ∃x y z,xs= [x,y,z]:=by
   cases xs with
   |nil=>grind
   |cons x xs=>cases xs with
    |nil=>grind
    |cons y xs=>cases xs<;>simp_all
  simp at hl
  have e1:=yI (hl.1▸h.eval x);have e2:=yI (hl.2.1▸h.eval y);have e3:=yI (hl.2.2▸h.eval z)
  cases isMax
  .exact bO.pure h (x:= .int k (let p:=if n<m then n else m;if q<p then q else p)) (by simp_all[execOp,resolve,invoke,builtin,Builtin.min_,Builtin.min2]) (cq.int _ _)
  .exact bO.pure h (x:= .int k (let p:=if n>m then n else m;if q>p then q else p)) (by simp_all[execOp,resolve,invoke,builtin,Builtin.max_,Builtin.max2]) (cq.int _ _)
 trivial
end
end Go.Vx
