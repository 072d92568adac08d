/-
  The small store and the memory: what a step in memory does to what is read and to the objects.
  No condition: a library text; nothing of the program is named.
-/
import Derived.WalkKit
set_option maxHeartbeats 8000000
namespace Go
theorem A0:type_of% @List.getElem?_eq_getElem:=@List.getElem?_eq_getElem
theorem A1:type_of% @List.getElem?_eq_some_iff:=@List.getElem?_eq_some_iff
theorem A2:type_of% @Nat.le_refl:=@Nat.le_refl
theorem A3:type_of% @Nat.zero_le:=@Nat.zero_le
theorem A4:type_of% @Bool.and_eq_true:=@Bool.and_eq_true
theorem A5:type_of% @List.getD_eq_getElem?_getD:=@List.getD_eq_getElem?_getD
theorem A6:type_of% @List.drop_eq_getElem_cons:=@List.drop_eq_getElem_cons
theorem A7:type_of% @Bool.eq_false_or_eq_true:=@Bool.eq_false_or_eq_true
theorem A8:type_of% @List.getElem_mem:=@List.getElem_mem
theorem A9:type_of% @List.drop_eq_nil_of_le:=@List.drop_eq_nil_of_le
theorem Aa:type_of% @Nat.zero_add:=@Nat.zero_add
theorem Ab:type_of% @List.getElem?_append_left:=@List.getElem?_append_left
theorem Ac:type_of% @List.mem_map:=@List.mem_map
theorem Ad:type_of% @List.getElem?_set_ne:=@List.getElem?_set_ne
theorem Ae:type_of% @List.getElem?_take:=@List.getElem?_take
theorem Af:type_of% @List.all_eq_true:=@List.all_eq_true
theorem Ag:type_of% @List.mem_cons:=@List.mem_cons
theorem Ah:type_of% @List.length_cons:=@List.length_cons
theorem Ai:type_of% @List.getElem?_append_right:=@List.getElem?_append_right
theorem Aj:type_of% @Array.getElem?_toList:=@Array.getElem?_toList
theorem Ak:type_of% @List.getElem?_set_self:=@List.getElem?_set_self
theorem Al:type_of% @List.map_cons:=@List.map_cons
theorem Am:type_of% @List.all_cons:=@List.all_cons
theorem An:type_of% @Nat.add_mul:=@Nat.add_mul
theorem Ao:type_of% @Nat.mul_le_mul_right:=@Nat.mul_le_mul_right
theorem Ap:type_of% @Array.getElem?_eq_some_iff:=@Array.getElem?_eq_some_iff
theorem Aq:type_of% @List.length_map:=@List.length_map
theorem Ar:type_of% @Array.getElem?_eq_getElem:=@Array.getElem?_eq_getElem
theorem As:type_of% @Option.bind_some:=@Option.bind_some
theorem Au:type_of% @List.take_of_length_le:=@List.take_of_length_le
theorem Av:type_of% @List.mem_iff_getElem?:=@List.mem_iff_getElem?
theorem Aw:type_of% @List.length_append:=@List.length_append
theorem Ax:type_of% @Int.toNat_natCast:=@Int.toNat_natCast
theorem Ay:type_of% @Nat.le_trans:=@Nat.le_trans
theorem Az:type_of% @List.getElem?_map:=@List.getElem?_map
theorem B0:type_of% @List.getElem?_drop:=@List.getElem?_drop
theorem B1:type_of% @List.mem_of_getElem?:=@List.mem_of_getElem?
theorem B2:type_of% @List.eq_nil_of_length_eq_zero:=@List.eq_nil_of_length_eq_zero
theorem B3:type_of% @Option.map_some:=@Option.map_some
theorem B4:type_of% @List.mem_append:=@List.mem_append
theorem B5:type_of% @List.mem_cons_of_mem:=@List.mem_cons_of_mem
theorem B6:type_of% @Option.map_eq_some_iff:=@Option.map_eq_some_iff
theorem B7:type_of% @List.append_nil:=@List.append_nil
theorem B8:type_of% @Bool.true_and:=@Bool.true_and
theorem B9:type_of% @List.mem_filter:=@List.mem_filter
theorem Ba:type_of% @List.not_mem_nil:=@List.not_mem_nil
theorem Bb:type_of% @List.mem_cons_self:=@List.mem_cons_self
theorem Bc:type_of% @List.getElem?_eq_none:=@List.getElem?_eq_none
theorem Bd:type_of% @List.drop_zero:=@List.drop_zero
theorem Be:type_of% @List.foldl_cons:=@List.foldl_cons
theorem Bf:type_of% @Bool.false_eq_true:=@Bool.false_eq_true
theorem Bg:type_of% @Nat.not_lt_zero:=@Nat.not_lt_zero
theorem Bh:type_of% @List.length_singleton:=@List.length_singleton
theorem Bi:type_of% @Nat.lt_trichotomy:=@Nat.lt_trichotomy
theorem Bj:type_of% @Nat.one_mul:=@Nat.one_mul
theorem Bk:type_of% @List.length_filter_le:=@List.length_filter_le
theorem Bl:type_of% @List.flatMap_cons:=@List.flatMap_cons
theorem Bm:type_of% @List.map_congr_left:=@List.map_congr_left
theorem Bn:type_of% @List.mem_of_mem_take:=@List.mem_of_mem_take
theorem Bo:type_of% @List.cons_append:=@List.cons_append
theorem Bp:type_of% @List.take_append_drop:=@List.take_append_drop
theorem Bq:type_of% @List.map_map:=@List.map_map
theorem Br:type_of% @List.map_nil:=@List.map_nil
theorem Bs:type_of% @List.drop_of_length_le:=@List.drop_of_length_le
theorem Bt:type_of% @Bool.or_eq_true:=@Bool.or_eq_true
theorem Bu:type_of% @Nat.not_succ_le_self:=@Nat.not_succ_le_self
theorem Bv:type_of% @Nat.add_assoc:=@Nat.add_assoc
theorem Bw:type_of% @Nat.mul_comm:=@Nat.mul_comm
theorem Bx:type_of% @List.flatten_append:=@List.flatten_append
theorem By:type_of% @List.take_succ_cons:=@List.take_succ_cons
theorem Bz:type_of% @Array.length_toList:=@Array.length_toList
theorem C0:type_of% @List.filter_sublist:=@List.filter_sublist
theorem C1:type_of% @List.nodup_cons:=@List.nodup_cons
theorem C2:type_of% @List.length_take:=@List.length_take
theorem C3:type_of% @List.nodup_range:=@List.nodup_range
theorem C4:type_of% @List.ext_getElem?:=@List.ext_getElem?
theorem C5:type_of% @List.append_assoc:=@List.append_assoc
theorem C6:type_of% @List.set_cons_succ:=@List.set_cons_succ
theorem C7:type_of% @List.mem_range:=@List.mem_range
theorem C8:type_of% @Bool.false_or:=@Bool.false_or
theorem C9:type_of% @List.flatten_cons:=@List.flatten_cons
theorem Ca:type_of% @Nat.zero_mul:=@Nat.zero_mul
theorem Cb:type_of% @Nat.add_zero:=@Nat.add_zero
theorem Cc:type_of% @List.mem_or_eq_of_mem_set:=@List.mem_or_eq_of_mem_set
theorem Cd:type_of% @Int.cast_ofNat_Int:=@Int.cast_ofNat_Int
theorem Ce:type_of% @List.nil_append:=@List.nil_append
theorem Cf:type_of% @Nat.lt_or_ge:=@Nat.lt_or_ge
theorem Cg:type_of% @Nat.le_of_eq:=@Nat.le_of_eq
theorem Ch:type_of% @Nat.mod_eq_of_lt:=@Nat.mod_eq_of_lt
theorem Ci:type_of% @List.take_succ_eq_append_getElem:=@List.take_succ_eq_append_getElem
theorem Cj:type_of% @Nat.div_lt_iff_lt_mul:=@Nat.div_lt_iff_lt_mul
theorem Ck:type_of% @Bool.not_eq_true':=@Bool.not_eq_true'
theorem Cl:type_of% @List.pairwise_map:=@List.pairwise_map
theorem Cm:type_of% @List.takeWhile_append_dropWhile:=@List.takeWhile_append_dropWhile
theorem Cn:type_of% @List.getElem?_cons_succ:=@List.getElem?_cons_succ
theorem Co:type_of% @Int.fdiv_eq_ediv_of_nonneg:=@Int.fdiv_eq_ediv_of_nonneg
theorem Cp:type_of% @List.all_nil:=@List.all_nil
theorem Cq:type_of% @List.mem_singleton:=@List.mem_singleton
theorem Cr:type_of% @List.pairwise_cons:=@List.pairwise_cons
theorem Cs:type_of% @List.take_left':=@List.take_left'
theorem Ct:type_of% @List.getElem_map:=@List.getElem_map
theorem Cu:type_of% @List.drop_length:=@List.drop_length
theorem Cv:type_of% @List.take_append_of_le_length:=@List.take_append_of_le_length
theorem Cw:type_of% @List.getElem?_range:=@List.getElem?_range
theorem Cx:type_of% @Bool.and_true:=@Bool.and_true
theorem Cy:type_of% @Nat.le_of_ble_eq_true:=@Nat.le_of_ble_eq_true
theorem Cz:type_of% @List.getElem?_take_of_lt:=@List.getElem?_take_of_lt
theorem D0:type_of% @Nat.lt_of_lt_of_le:=@Nat.lt_of_lt_of_le
theorem D1:type_of% @Nat.mod_lt:=@Nat.mod_lt
theorem D2:type_of% @List.mem_of_mem_drop:=@List.mem_of_mem_drop
theorem D3:type_of% @Array.all_eq_true_iff_forall_mem:=@Array.all_eq_true_iff_forall_mem
theorem D4:type_of% @List.exists_cons_of_ne_nil:=@List.exists_cons_of_ne_nil
theorem D5:type_of% @List.nodup_nil:=@List.nodup_nil
theorem D6:type_of% @Array.eq_empty_of_size_eq_zero:=@Array.eq_empty_of_size_eq_zero
theorem D7:type_of% @List.length_nil:=@List.length_nil
theorem D8:type_of% @Nat.min_eq_left:=@Nat.min_eq_left
theorem D9:type_of% @List.set_cons_zero:=@List.set_cons_zero
theorem Da:type_of% @List.any_eq_true:=@List.any_eq_true
theorem Db:type_of% @Array.getElem?_setIfInBounds:=@Array.getElem?_setIfInBounds
theorem Dc:type_of% @List.set_append_left:=@List.set_append_left
theorem Dd:type_of% @List.mem_append_left:=@List.mem_append_left
theorem De:type_of% @List.pairwise_append:=@List.pairwise_append
theorem Df:type_of% @List.nodup_append:=@List.nodup_append
theorem Dg:type_of% @List.take_add_one:=@List.take_add_one
theorem Dh:type_of% @List.foldl_append:=@List.foldl_append
theorem Di:type_of% @Nat.div_add_mod:=@Nat.div_add_mod
theorem Dj:type_of% @List.map_append:=@List.map_append
theorem Dk:type_of% @List.drop_succ_cons:=@List.drop_succ_cons
theorem Dl:type_of% @Bool.true_or:=@Bool.true_or
theorem Dm:type_of% @Array.getElem?_append_left:=@Array.getElem?_append_left
theorem Dn:type_of% @List.takeWhile_cons_of_pos:=@List.takeWhile_cons_of_pos
theorem Do:type_of% @List.filter_cons:=@List.filter_cons
theorem Dp:type_of% @List.take_length:=@List.take_length
theorem Dq:type_of% @List.take_zero:=@List.take_zero
theorem Dr:type_of% @Bool.eq_iff_iff:=@Bool.eq_iff_iff
theorem Ds:type_of% @List.length_range:=@List.length_range
theorem Dt:type_of% @List.filter_eq_self:=@List.filter_eq_self
theorem Du:type_of% @List.perm_middle:=@List.perm_middle
theorem Dv:type_of% @List.map_id':=@List.map_id'
theorem Dw:type_of% @List.contains_cons:=@List.contains_cons
theorem Dx:type_of% @Array.getElem?_modify:=@Array.getElem?_modify
theorem Dy:type_of% @Int.lt_trichotomy:=@Int.lt_trichotomy
theorem Dz:type_of% @List.extract_eq_take_drop:=@List.extract_eq_take_drop
theorem E0:type_of% @List.getElem?_mapIdx:=@List.getElem?_mapIdx
theorem E1:type_of% @Bool.false_and:=@Bool.false_and
theorem E2:type_of% @Nat.add_comm:=@Nat.add_comm
theorem E3:type_of% @List.length_pos_iff:=@List.length_pos_iff
theorem E4:type_of% @List.flatMap_append:=@List.flatMap_append
theorem E5:type_of% @Int.eq_ofNat_of_zero_le:=@Int.eq_ofNat_of_zero_le
theorem E6:type_of% @List.map_take:=@List.map_take
theorem E7:type_of% @Nat.mul_assoc:=@Nat.mul_assoc
theorem E8:type_of% @List.length_set:=@List.length_set
theorem E9:type_of% @List.zip_cons_cons:=@List.zip_cons_cons
theorem Ea:type_of% @List.all_append:=@List.all_append
theorem Eb:type_of% @List.filter_append:=@List.filter_append
theorem Ec:type_of% @Int.emod_lt_of_pos:=@Int.emod_lt_of_pos
theorem Ed:type_of% @List.getElem_take:=@List.getElem_take
theorem Ee:type_of% @List.filter_congr:=@List.filter_congr
theorem Ef:type_of% @List.take_take:=@List.take_take
theorem Eg:type_of% @Bool.or_true:=@Bool.or_true
theorem Eh:type_of% @List.foldl_nil:=@List.foldl_nil
theorem Ei:type_of% @List.length_drop:=@List.length_drop
theorem Ej:type_of% @Option.getD_some:=@Option.getD_some
theorem Ek:type_of% @Nat.lt_succ_self:=@Nat.lt_succ_self
theorem El:type_of% @Int.emod_nonneg:=@Int.emod_nonneg
theorem Em:type_of% @Nat.pow_succ:=@Nat.pow_succ
end Go
namespace Go.Vx
open Go
inductive Tag where
 |ro
 |full
 |app (id:Nat)
 deriving DecidableEq
inductive V where
 |u
 |bool (b:Bool)
 |int (k:IntKind) (n:Int)
 |str (s:List UInt8)
 |raw (v:Value)
 |nilp
 |ptr (id off:Nat)
 |sl (g:Tag) (rows:List (List V))
 |elp (cells:List V) (off:Nat)
 |fn (f:FuncId) (caps:List V)
 |agg (cells:List V)
 |tup (vs:List V)
 |lsv (id s n lo m:Nat)
 |lsp (id s n k j:Nat)
 |bsv (id s off n:Nat)
 |mp (id:Nat)
 |ifc (t:Nat) (vs:List V)
instance:Inhabited V:=⟨.u⟩
def All2 {α β:Type} (R:α->β->Prop):List α->List β->Prop
 | [],[]=>True
 |a::as,b::bs=>R a b/\All2 R as bs
 |_,_=>False
theorem All2.length {α β:Type} {R:α->β->Prop}: ∀{l:List α} {m:List β},All2 R l m->l.length=m.length
 | [],[],_=>rfl
 |_::_,_::_,h=>by simp[All2.length h.2]
 | [],_::_,h=>h.elim
 |_::_,[],h=>h.elim
theorem All2.imp {α β:Type} {R S:α->β->Prop} (hRS: ∀a b,R a b->S a b): ∀{l:List α} {m:List β},All2 R l m->All2 S l m
 | [],[],_=>trivial
 |_::_,_::_,h=>⟨hRS _ _ h.1,All2.imp hRS h.2⟩
 | [],_::_,h=>h.elim
 |_::_,[],h=>h.elim
theorem All2.get {α β:Type} {R:α->β->Prop}: ∀{l:List α} {m:List β} (i:Nat) (a:α),All2 R l m->l[i]? =some a-> ∃b,m[i]? =some b/\R a b
 |a::_,b::_,0,_,h,e=>⟨b,rfl,by simp at e;exact e▸h.1⟩
 |_::_,_::_,i+1,_,h,e=>by
  obtain⟨b,hb,r⟩:=All2.get i _ h.2 (by simpa using e)
  exact⟨b,by simpa using hb,r⟩
 | [],[],_,_,_,e=>by simp at e
 | [],_::_,_,_,h,_=>h.elim
 |_::_,[],_,_,h,_=>h.elim
theorem All2.of {α β:Type} {R:α->β->Prop}: ∀{l:List α} {m:List β},l.length=m.length->(∀(i:Nat) a b,l[i]? =some a->m[i]? =some b->R a b)->All2 R l m
 | [],[],_,_=>trivial
 |a::l,b::m,hl,h=>⟨h 0 a b rfl rfl,All2.of (by simpa using hl) fun i x y hx hy=>h (i+1) x y (by simpa using hx) (by simpa using hy)⟩
 | [],_::_,hl,_=>by simp at hl
 |_::_,[],hl,_=>by simp at hl
theorem All2.append {α β:Type} {R:α->β->Prop}: ∀{l:List α} {m:List β} {l':List α} {m':List β},All2 R l m->All2 R l' m'->All2 R (l++l') (m++m')
 | [],[],_,_,_,h'=>h'
 |_::_,_::_,_,_,h,h'=>⟨h.1,All2.append h.2 h'⟩
 | [],_::_,_,_,h,_=>h.elim
 |_::_,[],_,_,h,_=>h.elim
theorem All2.take {α β:Type} {R:α->β->Prop}: ∀{l:List α} {m:List β} (n:Nat),All2 R l m->All2 R (l.take n) (m.take n)
 | [],[],n,_=>by simp[All2]
 |_::_,_::_,0,_=>trivial
 |_::_,_::_,n+1,h=>⟨h.1,All2.take n h.2⟩
 | [],_::_,_,h=>h.elim
 |_::_,[],_,h=>h.elim
theorem All2.drop {α β:Type} {R:α->β->Prop}: ∀{l:List α} {m:List β} (n:Nat),All2 R l m->All2 R (l.drop n) (m.drop n)
 | [],[],n,_=>by simp[All2]
 |_::_,_::_,0,h=>h
 |_::_,_::_,n+1,h=>All2.drop n h.2
 | [],_::_,_,h=>h.elim
 |_::_,[],_,h=>h.elim
theorem xP8 {i j n s:Nat} (hi:i<n) (hj:j<s):i*s+j<n*s:=by
 have h:(i+1)*s<=n*s:=Ao s hi
 have:(i+1)*s=i*s+s:=by rw[An,Bj]
 omega
inductive RdP (w:World) (L:Nat->Nat):V->Value->Prop
 |bool (b:Bool):RdP w L (.bool b) (.bool b)
 |int (k:IntKind) (n:Int):RdP w L (.int k n) (.int k n)
 |str (s:List UInt8):RdP w L (.str s) (.string ⟨s.toArray⟩)
 |raw (v:Value) (h:v.oneCell'=true):RdP w L (.raw v) v
 |nilp:RdP w L .nilp (.pointer none)
 |sl0 (g:Tag) (a:Option Addr) (cap:Nat) (hg:g= .full->cap=0) (ha: ∀id,g≠ .app id):RdP w L (.sl g []) (.slice a 0 cap)
 |sl (g:Tag) (rows:List (List V)) (s b o cap:Nat) (c:Nat->Nat->Value) (ha: ∀id,g≠ .app id)
   (hs:0<s) (hlen: ∀r∈rows,r.length=s) (hlim:o+rows.length*s<=L b) (hcap:rows.length<=cap) (hg:g= .full->cap=rows.length)
   (hc: ∀i j,i<rows.length->j<s->w.cell? ⟨b,o+i*s+j,none⟩=some (c i j))
   (hr: ∀i j (hi:i<rows.length) (hj:j<rows[i].length),RdP w L (rows[i][j]) (c i j)):
   RdP w L (.sl g rows) (.slice (some ⟨b,o,none⟩) rows.length cap)
structure Le (w:World) (L:Nat->Nat) (w':World) (L':Nat->Nat):Prop where
 lim: ∀b,L b<=L' b
 cell: ∀b o,o<L b->w'.cell? ⟨b,o,none⟩=w.cell? ⟨b,o,none⟩
theorem Le.refl (w:World) (L:Nat->Nat):Le w L w L:=⟨fun _=>A2 _,fun _ _ _=>rfl⟩
theorem Le.trans {w1 w2 w3:World} {L1 L2 L3:Nat->Nat} (h:Le w1 L1 w2 L2) (k:Le w2 L2 w3 L3):Le w1 L1 w3 L3:=
 ⟨fun b=>Ay (h.lim b) (k.lim b),fun b o ho=>(k.cell b o (D0 ho (h.lim b))).trans (h.cell b o ho)⟩
theorem RdP.mono {w w':World} {L L':Nat->Nat} (h:Le w L w' L') {v:V} {x:Value} (r:RdP w L v x):RdP w' L' v x:=by
 induction r with
 |bool b=>exact .bool b
 |int k n=>exact .int k n
 |str s=>exact .str s
 |raw v hv=>exact .raw v hv
 |nilp=>exact .nilp
 |sl0 g a cap hg ha=>exact .sl0 g a cap hg ha
 |sl g rows s b o cap c ha hs hlen hlim hcap hg hc hr ih=>
  refine .sl g rows s b o cap c ha hs hlen (Ay hlim (h.lim b)) hcap hg (fun i j hi hj=> ?_) ih
  rw[h.cell b _ (by have:=xP8 hi hj;omega)]
  exact hc i j hi hj
theorem RdP.oneCell {w:World} {L:Nat->Nat} {v:V} {x:Value} (r:RdP w L v x):x.oneCell'=true:=by
 cases r<;>first|rfl|assumption
inductive Ob where
 |box (cells:List V)
 |app (n s:Nat)
 |lst (rows:List (List V)) (s:Nat)
 |dead
 |mp (kvs:List V) (borns:List Nat) (clk:Nat)
 |it (m:Option Nat) (since:Nat) (seen:List Nat) (last:Nat)
abbrev St:=List Ob
def RdK (w:World) (L:Nat->Nat) (σ:St) (β:List Value):V->Value->Prop
 | .u,x=>x.oneCell'=true
 | .ptr id off,x=> ∃b,β[id]? =some (.pointer (some ⟨b,0,none⟩))/\x= .pointer (some ⟨b,off,none⟩)
 | .sl (.app id) rows,x=>RdP w L (.sl .ro rows) x/\ ∃n s,σ[id]? =some (.app n s)/\rows.length<=n/\(rows.length=n->β[id]? =some x)/\(∀r∈rows,r.length=s)
 | .elp cells off,x=> ∃(b o:Nat) (c:Nat->Value),x= .pointer (some ⟨b,o+off,none⟩)/\o+cells.length<=L b/\ ∀j (hj:j<cells.length),w.cell? ⟨b,o+j,none⟩=some (c j)/\RdP w L cells[j] (c j)
 | .lsv id s n lo m,x=> ∃a cap,x= .slice a m cap/\(m<=cap/\n<=lo+cap)/\(0<cap-> ∃b o,a=some ⟨b,o,none⟩)/\
   (σ[id]? =some .dead∨ ∃rows,σ[id]? =some (.lst rows s)/\n<=rows.length/\(n=rows.length-> ∃b c0,β[id]? =some (.slice b n c0)/\cap=c0 - lo/\lo<=c0/\(lo<c0-> ∃k,b=some ⟨k,0,none⟩/\a=some ⟨k,lo*s,none⟩)))
 | .lsp id s n k j,x=> ∃b o,x= .pointer (some ⟨b,o,none⟩)/\
   (σ[id]? =some .dead∨ ∃rows,σ[id]? =some (.lst rows s)/\n<=rows.length/\(n=rows.length->k<n-> ∃c0,β[id]? =some (.slice (some ⟨b,0,none⟩) n c0)/\o=k*s+j))
 | .bsv id _ off n,x=> ∃b,β[id]? =some (.pointer (some ⟨b,0,none⟩))/\x= .slice (some ⟨b,off,none⟩) n n
 | .mp id,x=> ∃b,β[id]? =some (.pointer (some ⟨b,0,none⟩))/\x= .map (some b)
 | .fn _ _,_=>False
 | .agg _,_=>False
 | .tup _,_=>False
 | .ifc _ _,_=>False
 |v,x=>RdP w L v x
def RdC (w:World) (L:Nat->Nat) (σ:St) (β:List Value):V->Value->Prop
 | .fn f caps,x=> ∃xs:List Value,x= .func (.func f) #[] xs.toArray/\All2 (RdK w L σ β) caps xs
 | .ifc t vs,x=> ∃y,x= .iface t y/\All2 (RdK w L σ β) vs [y]
 |v,x=>RdK w L σ β v x
def RdA (w:World) (L:Nat->Nat) (σ:St) (β:List Value):V->Value->Prop
 | .agg cs,x=> ∃xs:List Value,x= .agg xs.toArray/\All2 (RdC w L σ β) cs xs
 |v,x=>RdC w L σ β v x
def RdS (w:World) (L:Nat->Nat) (σ:St) (β:List Value):V->Value->Prop
 | .u,_=>True
 | .tup vs,x=> ∃xs:List Value,x= .tuple xs.toArray/\All2 (RdA w L σ β) vs xs
 |v,x=>RdA w L σ β v x
structure Ext (σ:St) (β:List Value) (σ':St) (β':List Value):Prop where
 ptr: ∀(id:Nat) a,β[id]? =some (.pointer a)->β'[id]? =some (.pointer a)
 app: ∀(id:Nat) n s,σ[id]? =some (.app n s)-> ∃n',σ'[id]? =some (.app n' s)/\n<=n'/\(n'=n->β'[id]? =β[id]?)
 lst: ∀(id:Nat) rows s,σ[id]? =some (.lst rows s)->σ'[id]? =some .dead∨ ∃rows',σ'[id]? =some (.lst rows' s)/\rows.length<=rows'.length/\(rows'.length=rows.length->β'[id]? =β[id]?)
 dead: ∀(id:Nat),σ[id]? =some .dead->σ'[id]? =some .dead
theorem Ext.refl (σ:St) (β:List Value):Ext σ β σ β:=⟨fun _ _ h=>h,fun _ n _ h=>⟨n,h,A2 _,fun _=>rfl⟩,fun _ rows _ h=> .inr ⟨rows,h,A2 _,fun _=>rfl⟩,fun _ h=>h⟩
theorem Ext.trans {σ1 σ2 σ3:St} {β1 β2 β3:List Value} (h:Ext σ1 β1 σ2 β2) (k:Ext σ2 β2 σ3 β3):Ext σ1 β1 σ3 β3:=by
 refine⟨fun id a e=>k.ptr id a (h.ptr id a e),fun id n s e=> ?_,fun id rows s e=> ?_,fun id e=>k.dead id (h.dead id e)⟩
 .obtain⟨n2,e2,l2,p2⟩:=h.app id n s e
  obtain⟨n3,e3,l3,p3⟩:=k.app id n2 s e2
  exact⟨n3,e3,Ay l2 l3,fun q=>by
    have:n2=n:=by omega
    rw[p3 (by omega),p2 this]⟩
 .rcases h.lst id rows s e with e2|⟨r2,e2,l2,p2⟩
  .exact .inl (k.dead id e2)
  .rcases k.lst id r2 s e2 with e3|⟨r3,e3,l3,p3⟩
   .exact .inl e3
   .exact .inr ⟨r3,e3,Ay l2 l3,fun q=>by rw[p3 (by omega),p2 (by omega)]⟩
section
variable {w w':World} {L L':Nat->Nat} {σ σ':St} {β β':List Value}
theorem RdK.mono (h:Le w L w' L') (k:Ext σ β σ' β') {v:V} {x:Value} (r:RdK w L σ β v x):RdK w' L' σ' β' v x:=by
 cases v with
 |u=>exact r
 |ptr id off=>obtain⟨b,hb,hx⟩:=r;exact⟨b,k.ptr _ _ hb,hx⟩
 |sl g rows=>
  cases g with
  |app id=>
   obtain⟨hr,n,s,hσ,hle,hβ,hl⟩:=r
   obtain⟨n',hσ',hn,hsame⟩:=k.app id n s hσ
   refine⟨hr.mono h,n',s,hσ',Ay hle hn,fun e=> ?_,hl⟩
   have:n'=n:=by omega
   rw[hsame this];exact hβ (by omega)
  |ro=>exact RdP.mono h r
  |full=>exact RdP.mono h r
 |elp cells off=>
  obtain⟨b,o,c,hx,hl,hc⟩:=r
  refine⟨b,o,c,hx,Ay hl (h.lim b),fun j hj=> ?_⟩
  obtain⟨h1,h2⟩:=hc j hj
  exact⟨by rw[h.cell b _ (by omega)];exact h1,h2.mono h⟩
 |lsv id s n lo m=>
  obtain⟨a,cap,hx,hm,ha,hc⟩:=r
  refine⟨a,cap,hx,hm,ha, ?_⟩
  rcases hc with hd|⟨rows,hσ,hn,hb⟩
  .exact .inl (k.dead id hd)
  .rcases k.lst id rows s hσ with hd|⟨r2,e2,l2,p2⟩
   .exact .inl hd
   .refine .inr ⟨r2,e2,Ay hn l2,fun q=> ?_⟩
    rw[p2 (by omega)]
    exact hb (by omega)
 |lsp id s n i j=>
  obtain⟨b,o,hx,hc⟩:=r
  refine⟨b,o,hx, ?_⟩
  rcases hc with hd|⟨rows,hσ,hn,hb⟩
  .exact .inl (k.dead id hd)
  .rcases k.lst id rows s hσ with hd|⟨r2,e2,l2,p2⟩
   .exact .inl hd
   .refine .inr ⟨r2,e2,Ay hn l2,fun q=> ?_⟩
    rw[p2 (by omega)]
    exact hb (by omega)
 |bsv id s off n=>obtain⟨b,hb,hx⟩:=r;exact⟨b,k.ptr _ _ hb,hx⟩
 |mp id=>obtain⟨b,hb,hx⟩:=r;exact⟨b,k.ptr _ _ hb,hx⟩
 |fn f caps=>exact r
 |ifc t v=>exact r
 |agg cs=>exact r
 |tup vs=>exact r
 |bool b=>exact RdP.mono h r
 |int k n=>exact RdP.mono h r
 |str s=>exact RdP.mono h r
 |raw v=>exact RdP.mono h r
 |nilp=>exact RdP.mono h r
theorem RdC.mono (h:Le w L w' L') (k:Ext σ β σ' β') {v:V} {x:Value} (r:RdC w L σ β v x):RdC w' L' σ' β' v x:=by
 cases v with
 |fn f caps=>obtain⟨xs,hx,hc⟩:=r;exact⟨xs,hx,hc.imp fun _ _=>RdK.mono h k⟩
 |ifc t v=>obtain⟨y,hx,hc⟩:=r;exact⟨y,hx,hc.imp fun _ _=>RdK.mono h k⟩
 |_=>simp only[RdC]at r⊢;exact RdK.mono h k r
theorem RdA.mono (h:Le w L w' L') (k:Ext σ β σ' β') {v:V} {x:Value} (r:RdA w L σ β v x):RdA w' L' σ' β' v x:=by
 cases v with
 |agg cs=>obtain⟨xs,hx,hc⟩:=r;exact⟨xs,hx,hc.imp fun _ _=>RdC.mono h k⟩
 |_=>simp only[RdA]at r⊢;exact RdC.mono h k r
theorem RdS.mono (h:Le w L w' L') (k:Ext σ β σ' β') {v:V} {x:Value} (r:RdS w L σ β v x):RdS w' L' σ' β' v x:=by
 cases v with
 |u=>trivial
 |tup vs=>obtain⟨xs,hx,hc⟩:=r;exact⟨xs,hx,hc.imp fun _ _=>RdA.mono h k⟩
 |_=>simp only[RdS]at r⊢;exact RdA.mono h k r
theorem RdK.oneCell {v:V} {x:Value} (r:RdK w L σ β v x):x.oneCell'=true:=by
 cases v with
 |u=>exact r
 |ptr id off=>obtain⟨b,_,rfl⟩:=r;rfl
 |sl g rows=>cases g with
  |app id=>exact r.1.oneCell
  |ro=>exact RdP.oneCell r
  |full=>exact RdP.oneCell r
 |elp cells off=>obtain⟨b,o,c,rfl,_⟩:=r;rfl
 |lsv id s n lo m=>obtain⟨a,cap,rfl,_⟩:=r;rfl
 |lsp id s n k j=>obtain⟨b,o,rfl,_⟩:=r;rfl
 |bsv id s off n=>obtain⟨b,_,rfl⟩:=r;rfl
 |mp id=>obtain⟨b,_,rfl⟩:=r;rfl
 |fn f caps=>exact r.elim
 |ifc t v=>exact r.elim
 |agg cs=>exact r.elim
 |tup vs=>exact r.elim
 |_=>simp only[RdK]at r;exact RdP.oneCell r
theorem RdC.oneCell {v:V} {x:Value} (r:RdC w L σ β v x):x.oneCell'=true:=by
 cases v with
 |fn f caps=>obtain⟨xs,rfl,_⟩:=r;rfl
 |ifc t v=>obtain⟨y,rfl,_⟩:=r;rfl
 |_=>simp only[RdC]at r;exact RdK.oneCell r
theorem RdC.of_pure {v:V} {x:Value} (r:RdP w L v x):RdC w L σ β v x:=by
 cases r with
 |sl0 g a cap hg ha=>cases g with
  |app id=>exact absurd rfl (ha id)
  |ro=>exact .sl0 _ a cap hg ha
  |full=>exact .sl0 _ a cap hg ha
 |sl g rows s b o cap c ha hs hlen hlim hcap hg hc hr=>cases g with
  |app id=>exact absurd rfl (ha id)
  |ro=>exact .sl _ rows s b o cap c ha hs hlen hlim hcap hg hc hr
  |full=>exact .sl _ rows s b o cap c ha hs hlen hlim hcap hg hc hr
 |bool b=>exact RdP.bool b
 |int k n=>exact RdP.int k n
 |str s=>exact RdP.str s
 |raw _ hv=>exact RdP.raw _ hv
 |nilp=>exact RdP.nilp
theorem RdA.of_cell {v:V} {x:Value} (r:RdC w L σ β v x):RdA w L σ β v x:=by
 cases v<;>first|exact r|(simp only[RdA];exact r)|exact r.elim
theorem RdS.of_cell {v:V} {x:Value} (r:RdC w L σ β v x):RdS w L σ β v x:=by
 cases v<;>first|exact r|exact r.elim|trivial
theorem RdS.of_a {v:V} {x:Value} (r:RdA w L σ β v x):RdS w L σ β v x:=by
 cases v<;>first|exact r|exact r.elim|trivial
end
theorem eX {α:Sort _} (a:α): ∃b,a=b:=⟨a,rfl⟩
def tabs:List (Nat×List V):= []
def vints:List (Nat×IntKind):= [(0,.i64)]
abbrev Env:=Nat->V
def upd (e:Env) (d:Nat) (v:V):Env:=fun t=>if t=d then v else e t
def env0:Env:=fun _=> .u
structure Ctx where
 w0:World
 L0:Nat->Nat
 X0:List Nat
 σ0:St
 β0:List Value
def excl:Ob->Value->Option Nat
 | .box _,.pointer (some a)=>some a.block
 | .app n _,.slice (some a) _ cap=>if n<cap then some a.block else none
 | .lst _ _,.slice (some a) _ cap=>if 0<cap then some a.block else none
 | .mp _ _ _,.pointer (some a)=>some a.block
 | .it _ _ _ _,.pointer (some a)=>some a.block
 |_,_=>none
def zq3 (arr:Array Value) (fz:Nat×Nat):Prop:= ∀o,o<arr.size-> ¬(fz.1<=o/\o<fz.2)
def unfrozenL (s:Nat) (arr:Array Value) (fz:Nat×Nat):Prop:=zq3 arr fz/\(s=1∨ ¬(fz.1<=arr.size/\arr.size<fz.2))
def zu3 (es:Array MapEntry):List Value:=es.toList.flatMap fun e=> [e.key,e.val]
theorem zX0 (s:Nat) (arr:Array Value):unfrozenL s arr (0,0):=⟨fun q _ hq=>by simp at hq,.inr fun h=>by simp at h⟩
theorem unfrozenL.size {s:Nat} {arr arr':Array Value} {fz:Nat×Nat} (h:unfrozenL s arr fz) (e:arr'.size=arr.size):unfrozenL s arr' fz:=⟨fun q hq=>h.1 q (by omega),by rw[e];exact h.2⟩
def ObOk (w:World) (L:Nat->Nat) (σ:St) (β:List Value):Ob->Value->Prop
 | .box cells,x=> ∃b arr T fz,x= .pointer (some ⟨b,0,none⟩)/\w.heap[b]? =some (.cells arr T fz)/\zq3 arr fz/\L b=0/\All2 (RdC w L σ β) cells arr.toList
 | .app n s,x=> ∃a cap,x= .slice a n cap/\n<=cap/\0<s/\(n<cap-> ∃b o arr T fz,a=some ⟨b,o,none⟩/\w.heap[b]? =some (.cells arr T fz)/\zq3 arr fz/\o+cap*s<=arr.size/\L b=o+n*s)
 | .lst rows s,x=> ∃a cap,x= .slice a rows.length cap/\rows.length<=cap/\0<s/\(∀r∈rows,r.length=s)/\
   (0<cap-> ∃b arr T fz,a=some ⟨b,0,none⟩/\w.heap[b]? =some (.cells arr T fz)/\unfrozenL s arr fz/\cap*s<=arr.size/\L b=0/\All2 (RdC w L σ β) rows.flatten (arr.toList.take (rows.length*s)))
 | .dead,_=>True
 | .mp kvs borns clk,x=> ∃b es,x= .pointer (some ⟨b,0,none⟩)/\w.heap[b]? =some (.map es clk)/\L b=0/\All2 (RdA w L σ β) kvs (zu3 es)/\es.toList.map (·.born)=borns
 | .it m since seen last,x=> ∃b mo,x= .pointer (some ⟨b,0,none⟩)/\w.heap[b]? =some (.mapIter mo since seen.toArray last)/\L b=0/\
   (match m with|none=>mo=none|some id=> ∃r,β[id]? =some (.pointer (some ⟨r,0,none⟩))/\mo=some r)
def TabAt (w:World) (L:Nat->Nat) (g:Nat) (cells:List V):Prop:=cells.length<=L g/\ ∃c:Nat->Value,∀j (hj:j<cells.length),w.cell? ⟨g,j,none⟩=some (c j)/\RdP w L cells[j] (c j)
theorem TabAt.mono {w w':World} {L L':Nat->Nat} (h:Le w L w' L') {g:Nat} {cells:List V} (r:TabAt w L g cells):TabAt w' L' g cells:=by
 obtain⟨h1,c,h2⟩:=r
 refine⟨Ay h1 (h.lim g),c,fun j hj=> ?_⟩
 obtain⟨h3,h4⟩:=h2 j hj
 exact⟨by rw[h.cell g j (by omega)];exact h3,h4.mono h⟩
theorem TabAt.rd {w:World} {L:Nat->Nat} {σ:St} {β:List Value} {g:Nat} {cells:List V} (r:TabAt w L g cells):RdK w L σ β (.elp cells 0) (.pointer (some ⟨g,0,none⟩)):=by
 obtain⟨h1,c,h2⟩:=r
 exact⟨g,0,c,rfl,by omega,fun j hj=>by rw[Aa];exact h2 j hj⟩
structure GlobOk (w:World) (L:Nat->Nat):Prop where
 tab: ∀p∈tabs,TabAt w L p.1 p.2
 num: ∀p∈vints,1<=L p.1/\ ∃m,w.cell? ⟨p.1,0,none⟩=some (.int p.2 m)
theorem GlobOk.mono {w w':World} {L L':Nat->Nat} (h:Le w L w' L') (r:GlobOk w L):GlobOk w' L':=by
 refine⟨fun p hp=>(r.tab p hp).mono h,fun p hp=> ?_⟩
 obtain⟨h1,m,h2⟩:=r.num p hp
 exact⟨Ay h1 (h.lim _),m,by rw[h.cell _ 0 (by omega)];exact h2⟩
structure Mem (c:Ctx) (w:World) (L:Nat->Nat) (σ:St) (β:List Value):Prop where
 len:β.length=σ.length
 objs: ∀(i:Nat) o x,σ[i]? =some o->β[i]? =some x->ObOk w L σ β o x
 apart: ∀(i j:Nat) o o' x x' b,i≠j->σ[i]? =some o->β[i]? =some x->σ[j]? =some o'->β[j]? =some x'->excl o x=some b->excl o' x'≠some b
 mine: ∀(i:Nat) o x b,σ[i]? =some o->β[i]? =some x->excl o x=some b->c.w0.heap.size<=b∨b∈c.X0
 same: ∀b,b<c.w0.heap.size->b∉c.X0->w.heap[b]? =c.w0.heap[b]? /\L b=c.L0 b
 le:Le c.w0 c.L0 w L
 size:c.w0.heap.size<=w.heap.size
 os:w.os=c.w0.os
 tape:w.tape=c.w0.tape
 output:w.output=c.w0.output
 drawn:c.w0.drawn<=w.drawn
 lim: ∀b,w.heap.size<=b->L b=0
 ext:Ext c.σ0 c.β0 σ β
 tab:GlobOk c.w0 c.L0
theorem ObOk.step {w w':World} {L L':Nat->Nat} {σ σ':St} {β β':List Value} {o:Ob} {x:Value} (h:Le w L w' L') (k:Ext σ β σ' β')
  (hb: ∀b,excl o x=some b->w'.heap[b]? =w.heap[b]? /\L' b=L b) (r:ObOk w L σ β o x):ObOk w' L' σ' β' o x:=by
 cases o with
 |box cells=>
  obtain⟨b,arr,T,fz,rfl,hh,hf,hl,hc⟩:=r
  obtain⟨e1,e2⟩:=hb b rfl
  exact⟨b,arr,T,fz,rfl,e1.trans hh,hf,e2.trans hl,hc.imp fun _ _=>RdC.mono h k⟩
 |app n s=>
  obtain⟨a,cap,rfl,hn,hs,hx⟩:=r
  refine⟨a,cap,rfl,hn,hs,fun hlt=> ?_⟩
  obtain⟨b,o,arr,T,fz,rfl,hh,hf,hsz,hl⟩:=hx hlt
  obtain⟨e1,e2⟩:=hb b (by simp[excl,hlt])
  exact⟨b,o,arr,T,fz,rfl,e1.trans hh,hf,hsz,e2.trans hl⟩
 |lst rows s=>
  obtain⟨a,cap,rfl,hn,hs,hu,hx⟩:=r
  refine⟨a,cap,rfl,hn,hs,hu,fun hlt=> ?_⟩
  obtain⟨b,arr,T,fz,rfl,hh,hf,hsz,hl,hc⟩:=hx hlt
  obtain⟨e1,e2⟩:=hb b (by simp[excl,hlt])
  exact⟨b,arr,T,fz,rfl,e1.trans hh,hf,hsz,e2.trans hl,hc.imp fun _ _=>RdC.mono h k⟩
 |dead=>trivial
 |mp kvs borns clk=>
  obtain⟨b,es,rfl,hh,hl,hc,hbn⟩:=r
  obtain⟨e1,e2⟩:=hb b rfl
  exact⟨b,es,rfl,e1.trans hh,e2.trans hl,hc.imp fun _ _=>RdA.mono h k,hbn⟩
 |it m since seen last=>
  obtain⟨b,mo,rfl,hh,hl,hc⟩:=r
  obtain⟨e1,e2⟩:=hb b rfl
  refine⟨b,mo,rfl,e1.trans hh,e2.trans hl, ?_⟩
  cases m with
  |none=>exact hc
  |some id=>obtain⟨q,hq,hm⟩:=hc;exact⟨q,k.ptr _ _ hq,hm⟩
theorem ObOk.excl_lt {w:World} {L:Nat->Nat} {σ:St} {β:List Value} {o:Ob} {x:Value} {b:Nat} (r:ObOk w L σ β o x) (h:excl o x=some b):b<w.heap.size:=by
 cases o with
 |box cells=>
  obtain⟨b',arr,T,fz,rfl,hh,_⟩:=r
  simp[excl]at h
  subst h
  exact(Ap.1 hh).1
 |app n s=>
  obtain⟨a,cap,rfl,hn,hs,hx⟩:=r
  cases a with
  |none=>simp[excl]at h
  |some a=>
   by_cases hlt:n<cap
   .obtain⟨b',o,arr,T,fz,e,hh,_⟩:=hx hlt
    cases e
    simp[excl,hlt]at h
    subst h
    exact(Ap.1 hh).1
   .simp[excl,hlt]at h
 |lst rows s=>
  obtain⟨a,cap,rfl,hn,hs,hu,hx⟩:=r
  cases a with
  |none=>simp[excl]at h
  |some a=>
   by_cases hlt:0<cap
   .obtain⟨b',arr,T,fz,e,hh,_⟩:=hx hlt
    cases e
    simp[excl,hlt]at h
    subst h
    exact(Ap.1 hh).1
   .simp[excl,hlt]at h
 |dead=>simp[excl]at h
 |mp kvs borns clk=>
  obtain⟨b',es,rfl,hh,_⟩:=r
  simp[excl]at h
  subst h
  exact(Ap.1 hh).1
 |it m since seen last=>
  obtain⟨b',mo,rfl,hh,_⟩:=r
  simp[excl]at h
  subst h
  exact(Ap.1 hh).1
section
variable {c:Ctx} {w:World} {L:Nat->Nat} {σ:St} {β:List Value}
theorem Mem.drew (h:Mem c w L σ β):Mem c w.drew L σ β/\Le w L w.drew L:=by
 have hle:Le w L w.drew L:=⟨fun _=>A2 _,fun _ _ _=>rfl⟩
 refine⟨⟨h.len,fun i o x hi hx=>(h.objs i o x hi hx).step hle (Ext.refl _ _) fun b hb=>⟨rfl,rfl⟩,h.apart,h.mine,h.same,h.le.trans hle,h.size,h.os,h.tape,h.output,Nat.le_succ_of_le h.drawn,h.lim,h.ext,h.tab⟩,hle⟩
def yY (L:Nat->Nat) (b n:Nat):Nat->Nat:=fun k=>if k=b then n else L k
theorem yH (w:World) (o:Go.Obj):(w.alloc o).heap[w.heap.size]? =some o:=by
 show(w.heap.push o)[w.heap.size]? =_
 simp
theorem zy5 (w:World) (o:Go.Obj) {k:Nat} (h:k<w.heap.size):(w.alloc o).heap[k]? =w.heap[k]? :=by
 show(w.heap.push o)[k]? =_
 rw[Array.getElem?_push,if_neg (by omega)]
theorem za9 {w w':World} {b:Nat} (h:w'.heap[b]? =w.heap[b]?) (o:Nat):w'.cell? ⟨b,o,none⟩=w.cell? ⟨b,o,none⟩:=by
 simp[World.cell?,h]
theorem Mem.alloc (h:Mem c w L σ β) (o:Go.Obj) (m:Nat):Mem c (w.alloc o) (yY L w.heap.size m) σ β/\Le w L (w.alloc o) (yY L w.heap.size m):=by
 have hL: ∀b,b<w.heap.size->yY L w.heap.size m b=L b:=fun b hb=>by simp[yY];omega
 have hle:Le w L (w.alloc o) (yY L w.heap.size m):=by
  refine⟨fun b=> ?_,fun b off ho=> ?_⟩
  .by_cases hb:b=w.heap.size
   .subst hb;rw[h.lim _ (A2 _)];exact A3 _
   .simp[yY,hb]
  .have hb:b<w.heap.size:=by
    rcases Cf b w.heap.size with hb|hb
    .exact hb
    .rw[h.lim b hb]at ho;omega
   exact za9 (zy5 w o hb) off
 refine⟨⟨h.len,fun i ob x hi hx=>(h.objs i ob x hi hx).step hle (Ext.refl _ _) fun b hb=> ?_,h.apart,h.mine,fun b hb hx=> ?_,h.le.trans hle, ?_,h.os,h.tape,h.output,h.drawn,fun b hb=> ?_,h.ext,h.tab⟩,hle⟩
 .have hlt:=(h.objs i ob x hi hx).excl_lt hb
  exact⟨zy5 w o hlt,hL b hlt⟩
 .have hlt:b<w.heap.size:=D0 hb h.size
  rw[zy5 w o hlt,hL b hlt]
  exact h.same b hb hx
 .simp;have:=h.size;omega
 .simp at hb
  simp[yY]
  rw[if_neg (by omega)]
  exact h.lim b (by omega)
theorem Ext.push (σ:St) (β:List Value) (hl:β.length=σ.length) (o:Ob) (x:Value):Ext σ β (σ++ [o]) (β++ [x]):=by
 refine⟨fun id a e=> ?_,fun id n s e=>⟨n, ?_,A2 _,fun _=> ?_⟩,fun id rows s e=> .inr ⟨rows, ?_,A2 _,fun _=> ?_⟩,fun id e=> ?_⟩
 .rw[Ab (A1.1 e).1];exact e
 .rw[Ab (A1.1 e).1];exact e
 .rw[Ab (by rw[hl];exact(A1.1 e).1)]
 .rw[Ab (A1.1 e).1];exact e
 .rw[Ab (by rw[hl];exact(A1.1 e).1)]
 .rw[Ab (A1.1 e).1];exact e
theorem getElem?_push {α:Type} {l:List α} {a b:α} {i:Nat} (h:(l++ [a])[i]? =some b):(i<l.length/\l[i]? =some b)∨(i=l.length/\b=a):=by
 rcases Cf i l.length with hi|hi
 .rw[Ab hi]at h;exact .inl ⟨hi,h⟩
 .rw[Ai hi]at h
  have:i - l.length=0:=by
   by_cases e:i - l.length=0
   .exact e
   .obtain⟨k,hk⟩:=Nat.exists_eq_succ_of_ne_zero e
    rw[hk]at h;simp at h
  rw[this]at h
  simp at h
  exact .inr ⟨by omega,h.symm⟩
theorem Mem.push (h:Mem c w L σ β) (o:Ob) (x:Value) (ho:ObOk w L (σ++ [o]) (β++ [x]) o x)
  (hap: ∀(i:Nat) o' x' b,σ[i]? =some o'->β[i]? =some x'->excl o' x'=some b->excl o x≠some b)
  (hm: ∀b,excl o x=some b->c.w0.heap.size<=b∨b∈c.X0):Mem c w L (σ++ [o]) (β++ [x]):=by
 have hext:=Ext.push σ β h.len o x
 refine⟨by simp[h.len],fun i o' x' hi hx=> ?_,fun i j o1 o2 x1 x2 b hij hi hxi hj hxj hb=> ?_,fun i o' x' b hi hx hb=> ?_,h.same,h.le,h.size,h.os,h.tape,h.output,h.drawn,h.lim,h.ext.trans hext,h.tab⟩
 .rcases getElem?_push hi with ⟨hl,hi⟩|⟨hl,rfl⟩
  .rcases getElem?_push hx with ⟨_,hx⟩|⟨hl',_⟩
   .exact(h.objs i o' x' hi hx).step (Le.refl _ _) hext fun b hb=>⟨rfl,rfl⟩
   .rw[h.len]at hl';omega
  .rcases getElem?_push hx with ⟨hl',hx⟩|⟨_,rfl⟩
   .rw[h.len]at hl';omega
   .exact ho
 .rcases getElem?_push hi with ⟨hl,hi'⟩|⟨hl,rfl⟩
  .rcases getElem?_push hxi with ⟨_,hxi'⟩|⟨hl',_⟩
   .rcases getElem?_push hj with ⟨hl2,hj⟩|⟨hl2,rfl⟩
    .rcases getElem?_push hxj with ⟨_,hxj⟩|⟨hl',_⟩
     .exact h.apart i j o1 o2 x1 x2 b hij hi' hxi' hj hxj hb
     .rw[h.len]at hl';omega
    .rcases getElem?_push hxj with ⟨hl',_⟩|⟨_,rfl⟩
     .rw[h.len]at hl';omega
     .exact hap i o1 x1 b hi' hxi' hb
   .rw[h.len]at hl';omega
  .rcases getElem?_push hxi with ⟨hl',_⟩|⟨_,rfl⟩
   .rw[h.len]at hl';omega
   .rcases getElem?_push hj with ⟨hl2,hj⟩|⟨hl2,_⟩
    .rcases getElem?_push hxj with ⟨_,hxj⟩|⟨hl',_⟩
     .exact fun e=>hap j o2 x2 b hj hxj e hb
     .rw[h.len]at hl';omega
    .omega
 .rcases getElem?_push hi with ⟨hl,hi⟩|⟨hl,rfl⟩
  .rcases getElem?_push hx with ⟨_,hx⟩|⟨hl',_⟩
   .exact h.mine i o' x' b hi hx hb
   .rw[h.len]at hl';omega
  .rcases getElem?_push hx with ⟨hl',_⟩|⟨_,rfl⟩
   .rw[h.len]at hl';omega
   .exact hm b hb
theorem Mem.box (h:Mem c w L σ β) (cells:List V) (arr:Array Value) (T:TypeId) (hc:All2 (RdC w L σ β) cells arr.toList):
  Mem c (w.alloc (.cells arr T)) L (σ++ [.box cells]) (β++ [.pointer (some ⟨w.heap.size,0,none⟩)])/\Le w L (w.alloc (.cells arr T)) L:=by
 have h1:=h.alloc (.cells arr T) 0
 have hL:yY L w.heap.size 0=L:=by
  funext k
  by_cases hk:k=w.heap.size
  .subst hk;simp[yY,h.lim _ (A2 _)]
  .simp[yY,hk]
 rw[hL]at h1
 refine⟨h1.1.push _ _ ⟨w.heap.size,arr,T,(0,0),rfl,yH _ _,fun o _ h=>by simp at h,h.lim _ (A2 _),hc.imp fun _ _=>RdC.mono h1.2 (Ext.push σ β h.len _ _)⟩ ?_ ?_,h1.2⟩
 .intro i o' x' b hi hx hb e
  have:=(h.objs i o' x' hi hx).excl_lt hb
  simp[excl]at e
  omega
 .intro b hb
  simp[excl]at hb
  subst hb
  exact .inl h.size
def yK (w:World) (b:Nat) (o:Go.Obj):World:={w with heap:=w.heap.setIfInBounds b o}
theorem xN (w:World) (b:Nat) (o:Go.Obj) (hb:b<w.heap.size):(yK w b o).heap[b]? =some o:=by
 simp[yK,hb]
theorem zc9 (w:World) (b k:Nat) (o:Go.Obj) (hk:k≠b):(yK w b o).heap[k]? =w.heap[k]? :=by
 simp[yK,Db]
 intro e;exact absurd e.symm hk
def xF (arr:Array Value) (k:Nat):List Value->Array Value
 | []=>arr
 |v::vs=>xF (arr.setIfInBounds k v) (k+1) vs
theorem xG: ∀(vs:List Value) (arr:Array Value) (k:Nat),(xF arr k vs).size=arr.size
 | [],_,_=>rfl
 |v::vs,arr,k=>by simp[xF,xG vs]
theorem ze7: ∀(vs:List Value) (arr:Array Value) (k:Nat) (i:Nat),k+vs.length<=arr.size->(xF arr k vs)[i]? =if k<=i/\i<k+vs.length then vs[i - k]? else arr[i]?
 | [],arr,k,i,_=>by simp[xF];omega
 |v::vs,arr,k,i,h=>by
  simp only[Ah]at h⊢
  rw[xF,ze7 vs _ _ _ (by simp;omega)]
  by_cases h1:k+1<=i/\i<k+1+vs.length
  .rw[if_pos h1,if_pos (by omega)]
   rw[show i - k=(i - (k+1))+1 by omega]
   simp
  .rw[if_neg h1]
   by_cases h2:i=k
   .subst h2
    rw[if_pos (by omega)]
    simp[Db]
    omega
   .rw[if_neg (by omega)]
    simp[Db]
    intro e;exact absurd e.symm h2
theorem yR5 (w:World) (b off:Nat) (v:Value) (cur:Array Value) (T:TypeId) (fz:Nat×Nat) (hb:w.heap[b]? =some (.cells cur T fz)):
  w.setCell ⟨b,off,none⟩ v=yK w b (.cells (cur.setIfInBounds off v) T fz):=by
 obtain⟨hlt,hv⟩:=Ap.1 hb
 unfold World.setCell yK
 congr 1
 apply Array.ext_getElem?
 intro i
 simp only[Dx,Db]
 by_cases hi:b=i
 .subst hi;simp[hlt,hv]
 .simp[hi]
theorem ym1 (w:World) (b:Nat) (o o':Go.Obj):yK (yK w b o) b o'=yK w b o':=by
 simp[yK]
theorem yJ2 (w:World) (b:Nat) (o:Go.Obj) (hb:w.heap[b]? =some o):yK w b o=w:=by
 obtain⟨hlt,hv⟩:=Ap.1 hb
 unfold yK
 have:w.heap.setIfInBounds b o=w.heap:=by
  apply Array.ext_getElem?
  intro i
  simp only[Db]
  by_cases hi:b=i
  .subst hi;simp[hlt,hv]
  .simp[hi]
 rw[this]
theorem xS (b o n:Nat):Addr.add ⟨b,o,none⟩ n=⟨b,o+n,none⟩:=by
 unfold Addr.add
 by_cases h:n=0
 .subst h;rfl
 .simp[h]
theorem xR (P:Program) (b o:Nat) (T:TypeId) (fz:Nat×Nat): ∀(vs:List Value) (i:Nat) (cur:Array Value) (w:World),w.heap[b]? =some (.cells cur T fz)->zq3 cur fz->o+i+vs.length<=cur.size->(∀v∈vs,v.oneCell'=true)->
  (storeCells ⟨b,o,none⟩ vs i).run P w= .ok () (yK w b (.cells (xF cur (o+i) vs) T fz))
 | [],i,cur,w,hb,_,_,_=>by
  rw[storeCells,xF,yJ2 _ _ _ hb];rfl
 |v::vs,i,cur,w,hb,hu,hl,hv=>by
  simp only[Ah]at hl
  have hc:w.cell? ⟨b,o+i,none⟩=some (cur[o+i]'(by omega)):=by simp[World.cell?,hb]
  have hf:w.frozen? ⟨b,o+i,none⟩=false:=by
   have:=hu (o+i) (by omega)
   simp only[World.frozen?,hb]
   by_cases h1:fz.1<=o+i
   .have: ¬(o+i<fz.2):=fun h2=>this ⟨h1,h2⟩
    simp[this]
   .simp[h1]
  obtain⟨hlt,_⟩:=Ap.1 hb
  rw[storeCells]
  simp only[Sem.run_bind,xS]
  rw[run_store P w ⟨b,o+i,none⟩ v .plain (hv v (by simp))]
  simp only[hc,hf,if_false,Bf,Result.andThen_ok]
  rw[yR5 w b (o+i) v cur T fz hb]
  have ih:=xR P b o T fz vs (i+1) (cur.setIfInBounds (o+i) v) (yK w b (.cells (cur.setIfInBounds (o+i) v) T fz)) (xN _ _ _ hlt)
   (fun k hk=>hu k (by simpa using hk)) (by simp;omega) (fun x hx=>hv x (by simp[hx]))
  rw[ih,ym1]
  rfl
theorem wL {α:Type} {l:List α} {i j:Nat} {a b:α} (h:(l.set i a)[j]? =some b):(j=i/\b=a/\i<l.length)∨(j≠i/\l[j]? =some b):=by
 rw[List.getElem?_set]at h
 by_cases e:i=j
 .rw[if_pos e]at h
  by_cases hl:i<l.length
  .rw[if_pos hl]at h;simp at h;exact .inl ⟨e.symm,h.symm,hl⟩
  .rw[if_neg hl]at h;simp at h
 .rw[if_neg e]at h;exact .inr ⟨fun q=>e q.symm,h⟩
theorem Mem.upd (h:Mem c w L σ β) {w':World} {L':Nat->Nat} (i:Nat) (o:Ob) (x:Value)
  (hle:Le w L w' L') (hext:Ext σ β (σ.set i o) (β.set i x))
  (D:Nat->Prop) (hD: ∀(j:Nat) o' x' b,j≠i->σ[j]? =some o'->β[j]? =some x'->excl o' x'=some b-> ¬D b)
  (hDm: ∀b,D b->c.w0.heap.size<=b∨b∈c.X0)
  (hoth: ∀b,¬D b->w'.heap[b]? =w.heap[b]? /\L' b=L b)
  (hsz:w'.heap.size=w.heap.size) (hos:w'.os=w.os) (htape:w'.tape=w.tape) (hout:w'.output=w.output)
  (hlim: ∀b,w.heap.size<=b->L' b=0)
  (hok:ObOk w' L' (σ.set i o) (β.set i x) o x) (hex: ∀b,excl o x=some b->D b) (hdr:w.drawn<=w'.drawn:=by exact A2 _):Mem c w' L' (σ.set i o) (β.set i x):=by
 refine⟨by simp[h.len],fun j o' x' hj hx=> ?_,fun j k o1 o2 x1 x2 b hjk hj hxj hk hxk hb=> ?_,fun j o' x' b hj hx hb=> ?_,fun b hb hx=> ?_,h.le.trans hle,by rw[hsz];exact h.size,hos.trans h.os,htape.trans h.tape,hout.trans h.output,Ay h.drawn hdr,fun b hb=>hlim b (by rw[<-hsz];exact hb),h.ext.trans hext,h.tab⟩
 .rcases wL hj with ⟨rfl,rfl,hl⟩|⟨hne,hj'⟩
  .rcases wL hx with ⟨_,rfl,_⟩|⟨hne,_⟩
   .exact hok
   .exact absurd rfl hne
  .rcases wL hx with ⟨e,_,_⟩|⟨_,hx'⟩
   .exact absurd e hne
   .exact(h.objs j o' x' hj' hx').step hle hext fun b hb=>hoth b (hD j o' x' b hne hj' hx' hb)
 .rcases wL hj with ⟨rfl,rfl,hl⟩|⟨hne,hj'⟩
  .rcases wL hxj with ⟨_,rfl,_⟩|⟨hne,_⟩
   .rcases wL hk with ⟨e,_,_⟩|⟨hne2,hk'⟩
    .exact absurd e.symm hjk
    .rcases wL hxk with ⟨e,_,_⟩|⟨_,hxk'⟩
     .exact absurd e hne2
     .exact fun e=>hD k o2 x2 b hne2 hk' hxk' e (hex b hb)
   .exact absurd rfl hne
  .rcases wL hxj with ⟨e,_,_⟩|⟨_,hxj'⟩
   .exact absurd e hne
   .rcases wL hk with ⟨rfl,rfl,_⟩|⟨hne2,hk'⟩
    .rcases wL hxk with ⟨_,rfl,_⟩|⟨hne3,_⟩
     .exact fun e=>hD j o1 x1 b hne hj' hxj' hb (hex b e)
     .exact absurd rfl hne3
    .rcases wL hxk with ⟨e,_,_⟩|⟨_,hxk'⟩
     .exact absurd e hne2
     .exact h.apart j k o1 o2 x1 x2 b hjk hj' hxj' hk' hxk' hb
 .rcases wL hj with ⟨rfl,rfl,hl⟩|⟨hne,hj'⟩
  .rcases wL hx with ⟨_,rfl,_⟩|⟨hne,_⟩
   .exact hDm b (hex b hb)
   .exact absurd rfl hne
  .rcases wL hx with ⟨e,_,_⟩|⟨_,hx'⟩
   .exact absurd e hne
   .exact h.mine j o' x' b hj' hx' hb
 .have hnd: ¬D b:=fun hd=>by
   rcases hDm b hd with h1|h1
   .omega
   .exact hx h1
  obtain⟨e1,e2⟩:=hoth b hnd
  obtain⟨e3,e4⟩:=h.same b hb hx
  exact⟨e1.trans e3,e2.trans e4⟩
theorem Ext.setBox {i:Nat} {cells:List V} (hi:σ[i]? =some (Ob.box cells)) (cells':List V):Ext σ β (σ.set i (.box cells')) β:=by
 refine⟨fun _ _ e=>e,fun id n s e=>⟨n, ?_,A2 _,fun _=>rfl⟩,fun id rows s e=> .inr ⟨rows, ?_,A2 _,fun _=>rfl⟩,fun id e=> ?_⟩
 all_goals
  have:i≠id:=fun q=>by subst q;rw[hi]at e;simp at e
  rw[Ad this];exact e
def putCells (cells:List V) (off:Nat) (vs:List V):List V:=cells.take off++vs++cells.drop (off+vs.length)
theorem yF {α:Type} (l:List α) (i:Nat) (a:α) (h:l[i]? =some a):l.set i a=l:=by
 apply C4
 intro j
 rw[List.getElem?_set]
 by_cases e:i=j
 .subst e;rw[if_pos rfl,h,if_pos (A1.1 h).1]
 .rw[if_neg e]
theorem yx1 (cells vs:List V) (off i:Nat) (h:off+vs.length<=cells.length):(putCells cells off vs)[i]? =if off<=i/\i<off+vs.length then vs[i - off]? else cells[i]? :=by
 unfold putCells
 have ht:(cells.take off).length=off:=by simp;omega
 by_cases h1:i<off
 .rw[if_neg (by omega),C5,Ab (by omega),Ae,if_pos h1]
 .by_cases h2:i<off+vs.length
  .rw[if_pos (by omega),Ab (by simp;omega),Ai (by omega),ht]
  .rw[if_neg (by omega),Ai (by simp;omega)]
   simp only[Aw,ht,B0]
   congr 1;omega
theorem zE4 (cells vs:List V) (off:Nat) (h:off+vs.length<=cells.length):(putCells cells off vs).length=cells.length:=by
 simp[putCells];omega
theorem zU6 {R:V->Value->Prop} {cells vs:List V} {arr:Array Value} {xs:List Value} {off:Nat} (h:All2 R cells arr.toList) (hv:All2 R vs xs) (hl:off+vs.length<=cells.length):
  All2 R (putCells cells off vs) (xF arr off xs).toList:=by
 have e1:=h.length
 have e2:=hv.length
 simp at e1
 refine All2.of (by rw[zE4 _ _ _ hl];simp[xG,e1]) fun i a b ha hb=> ?_
 rw[yx1 _ _ _ _ hl]at ha
 rw[Aj,ze7 _ _ _ _ (by omega),<-e2]at hb
 by_cases hc:off<=i/\i<off+vs.length
 .rw[if_pos hc]at ha hb
  obtain⟨y,hy,r⟩:=hv.get _ _ ha
  rw[hb]at hy;cases hy;exact r
 .rw[if_neg hc]at ha hb
  obtain⟨y,hy,r⟩:=h.get _ _ ha
  rw[Aj,hb]at hy;cases hy;exact r
theorem Mem.setBox (h:Mem c w L σ β) {i:Nat} {cells vs:List V} {xs:List Value} {off b:Nat} (hi:σ[i]? =some (.box cells)) (hβ:β[i]? =some (.pointer (some ⟨b,0,none⟩)))
  (hv:All2 (RdC w L σ β) vs xs) (hl:off+vs.length<=cells.length):
  ∃arr T fz,w.heap[b]? =some (.cells arr T fz)/\zq3 arr fz/\arr.size=cells.length/\
   Mem c (yK w b (.cells (xF arr off xs) T fz)) L (σ.set i (.box (putCells cells off vs))) β/\Le w L (yK w b (.cells (xF arr off xs) T fz)) L:=by
 have hok:=h.objs i _ _ hi hβ
 obtain⟨b',arr,T,fz,e,hh,hf,h0,hc⟩:=hok
 cases e
 have hlt:b<w.heap.size:=(Ap.1 hh).1
 have hle:Le w L (yK w b (.cells (xF arr off xs) T fz)) L:=by
  refine⟨fun _=>A2 _,fun k o ho=>za9 (zc9 w b k _ fun q=> ?_) o⟩
  subst q;rw[h0]at ho;omega
 refine⟨arr,T,fz,hh,hf,by have:=hc.length;simpa using this.symm, ?_,hle⟩
 have hset:=yF β i _ hβ
 have hext:Ext σ β (σ.set i (.box (putCells cells off vs))) β:=Ext.setBox hi _
 have key:=h.upd (w':=yK w b (.cells (xF arr off xs) T fz)) (L':=L) i (.box (putCells cells off vs)) (.pointer (some ⟨b,0,none⟩)) hle (by rw[hset];exact hext) (fun k=>k=b)
  (fun j o' x' k hj ho' hx' hk e=>by subst e;exact h.apart j i o' _ x' _ k hj ho' hx' hi hβ hk rfl)
  (fun k e=>by subst e;exact h.mine i _ _ k hi hβ rfl)
  (fun k hk=>⟨zc9 w b k _ hk,rfl⟩) (by simp[yK]) rfl rfl rfl h.lim ?_ (fun k hk=>by simpa[excl]using hk.symm)
 .rw[hset]at key;exact key
 .rw[hset]
  refine⟨b,_,T,fz,rfl,xN _ _ _ hlt,fun o ho=>hf o (by rw[xG]at ho;exact ho),h0, ?_⟩
  exact(zU6 hc hv hl).imp fun _ _=>RdC.mono hle hext
end
end Go.Vx
