/-
  Operations over trees: indexes, slices, lengths, appends, literals, conversions.
  No condition: a library text; nothing of the program is named.
-/
import Derived.WalkKit
import Derived.Deep.AppendSrc
import Derived.Laws.StructEq
import Derived.Laws.BytesArg
import Derived.Laws.IdiomStrings
import Derived.Great.BuildSlice
set_option maxHeartbeats 8000000
namespace Go
theorem om{p:Prop}(h:p:=by omega):p:=h
theorem sg{p:Prop}(h:p:=by simp[go_sem]):p:=h
theorem kR{p:Prop}(h:p:=by kernel_rfl):p:=h
theorem dc{p:Prop}(h:p:=by decide):p:=h
theorem sM{p:Prop}(h:p:=by simp):p:=h
theorem sU{p q:Prop}(h:q)(g:q->p:=by intro h;simpa using h):p:=g h
theorem tV:True:=⟨⟩
theorem A0:type_of% @List.getElem?_eq_getElem:=@List.getElem?_eq_getElem
theorem A1:type_of% @Bool.and_eq_true:=@Bool.and_eq_true
theorem A3:type_of% @Nat.zero_le:=@Nat.zero_le
theorem A4:type_of% @Nat.le_refl:=@Nat.le_refl
theorem A5:type_of% @List.drop_eq_getElem_cons:=@List.drop_eq_getElem_cons
theorem A6:type_of% @List.getElem?_eq_some_iff:=@List.getElem?_eq_some_iff
theorem A7:type_of% @Bool.eq_false_or_eq_true:=@Bool.eq_false_or_eq_true
theorem A8:type_of% @List.getD_eq_getElem?_getD:=@List.getD_eq_getElem?_getD
theorem A9:type_of% @List.drop_eq_nil_of_le:=@List.drop_eq_nil_of_le
theorem Aa:type_of% @List.length_cons:=@List.length_cons
theorem Ab:type_of% @List.getElem_mem:=@List.getElem_mem
theorem Ac:type_of% @List.all_cons:=@List.all_cons
theorem Ad:type_of% @List.mem_map:=@List.mem_map
theorem Ae:type_of% @Nat.zero_add:=@Nat.zero_add
theorem Af:type_of% @List.mem_cons:=@List.mem_cons
theorem Ah:type_of% @Nat.mul_le_mul_right:=@Nat.mul_le_mul_right
theorem Ai:type_of% @List.map_cons:=@List.map_cons
theorem Aj:type_of% @List.all_eq_true:=@List.all_eq_true
theorem Ak:type_of% @List.length_append:=@List.length_append
theorem Al:type_of% @List.mem_cons_self:=@List.mem_cons_self
theorem Am:type_of% @List.mem_cons_of_mem:=@List.mem_cons_of_mem
theorem An:type_of% @List.length_map:=@List.length_map
theorem Ao:type_of% @Option.map_eq_some_iff:=@Option.map_eq_some_iff
theorem Ap:type_of% @List.take_of_length_le:=@List.take_of_length_le
theorem Aq:type_of% @Array.getElem?_toList:=@Array.getElem?_toList
theorem Ar:type_of% @Option.bind_some:=@Option.bind_some
theorem As:type_of% @Int.toNat_natCast:=@Int.toNat_natCast
theorem Au:type_of% @Bool.true_and:=@Bool.true_and
theorem Av:type_of% @List.mem_iff_getElem?:=@List.mem_iff_getElem?
theorem Aw:type_of% @List.getElem?_take:=@List.getElem?_take
theorem Ax:type_of% @List.cons_append:=@List.cons_append
theorem Ay:type_of% @List.not_mem_nil:=@List.not_mem_nil
theorem Az:type_of% @List.getElem?_append_left:=@List.getElem?_append_left
theorem B0:type_of% @Array.getElem?_eq_getElem:=@Array.getElem?_eq_getElem
theorem B1:type_of% @List.drop_zero:=@List.drop_zero
theorem B2:type_of% @Nat.add_mul:=@Nat.add_mul
theorem B3:type_of% @Nat.le_trans:=@Nat.le_trans
theorem B4:type_of% @List.eq_nil_of_length_eq_zero:=@List.eq_nil_of_length_eq_zero
theorem B5:type_of% @List.mem_append:=@List.mem_append
theorem B6:type_of% @List.getElem?_map:=@List.getElem?_map
theorem B7:type_of% @List.mem_of_getElem?:=@List.mem_of_getElem?
theorem B8:type_of% @List.getElem?_append_right:=@List.getElem?_append_right
theorem B9:type_of% @List.append_nil:=@List.append_nil
theorem Ba:type_of% @List.foldl_cons:=@List.foldl_cons
theorem Bb:type_of% @List.mem_filter:=@List.mem_filter
theorem Bc:type_of% @Nat.lt_trichotomy:=@Nat.lt_trichotomy
theorem Bd:type_of% @List.getElem?_set_self:=@List.getElem?_set_self
theorem Be:type_of% @Bool.or_eq_true:=@Bool.or_eq_true
theorem Bf:type_of% @List.length_singleton:=@List.length_singleton
theorem Bg:type_of% @Option.map_some:=@Option.map_some
theorem Bh:type_of% @List.map_map:=@List.map_map
theorem Bi:type_of% @List.nil_append:=@List.nil_append
theorem Bj:type_of% @List.length_filter_le:=@List.length_filter_le
theorem Bk:type_of% @List.map_congr_left:=@List.map_congr_left
theorem Bl:type_of% @Nat.not_succ_le_self:=@Nat.not_succ_le_self
theorem Bm:type_of% @List.map_nil:=@List.map_nil
theorem Bn:type_of% @List.ext_getElem?:=@List.ext_getElem?
theorem Bo:type_of% @List.take_append_drop:=@List.take_append_drop
theorem Bp:type_of% @List.filter_sublist:=@List.filter_sublist
theorem Bq:type_of% @List.exists_cons_of_ne_nil:=@List.exists_cons_of_ne_nil
theorem Br:type_of% @List.nodup_range:=@List.nodup_range
theorem Bs:type_of% @List.set_cons_succ:=@List.set_cons_succ
theorem Bt:type_of% @List.getElem?_drop:=@List.getElem?_drop
theorem Bu:type_of% @Int.cast_ofNat_Int:=@Int.cast_ofNat_Int
theorem Bv:type_of% @List.pairwise_cons:=@List.pairwise_cons
theorem Bw:type_of% @List.nodup_cons:=@List.nodup_cons
theorem Bx:type_of% @Bool.false_or:=@Bool.false_or
theorem By:type_of% @List.take_succ_eq_append_getElem:=@List.take_succ_eq_append_getElem
theorem Bz:type_of% @Nat.div_lt_iff_lt_mul:=@Nat.div_lt_iff_lt_mul
theorem C0:type_of% @List.pairwise_map:=@List.pairwise_map
theorem C1:type_of% @Nat.lt_or_ge:=@Nat.lt_or_ge
theorem C2:type_of% @List.take_left':=@List.take_left'
theorem C3:type_of% @List.drop_of_length_le:=@List.drop_of_length_le
theorem C4:type_of% @List.filter_cons:=@List.filter_cons
theorem C5:type_of% @Classical.byContradiction:=@Classical.byContradiction
theorem C6:type_of% @List.flatten_append:=@List.flatten_append
theorem C7:type_of% @List.getElem_of_mem:=@List.getElem_of_mem
theorem C8:type_of% @List.flatMap_cons:=@List.flatMap_cons
theorem C9:type_of% @Bool.and_true:=@Bool.and_true
theorem Ca:type_of% @Nat.le_of_ble_eq_true:=@Nat.le_of_ble_eq_true
theorem Cb:type_of% @List.all_nil:=@List.all_nil
theorem Cc:type_of% @List.mem_singleton:=@List.mem_singleton
theorem Cd:type_of% @List.getElem?_cons_succ:=@List.getElem?_cons_succ
theorem Ce:type_of% @Array.all_eq_true_iff_forall_mem:=@Array.all_eq_true_iff_forall_mem
theorem Cf:type_of% @List.drop_length:=@List.drop_length
theorem Cg:type_of% @Array.getElem?_eq_some_iff:=@Array.getElem?_eq_some_iff
theorem Ch:type_of% @List.takeWhile_append_dropWhile:=@List.takeWhile_append_dropWhile
theorem Ci:type_of% @List.mem_range:=@List.mem_range
theorem Cj:type_of% @List.nodup_nil:=@List.nodup_nil
theorem Ck:type_of% @Bool.not_eq_true':=@Bool.not_eq_true'
theorem Cl:type_of% @Array.length_toList:=@Array.length_toList
theorem Cm:type_of% @List.take_succ_cons:=@List.take_succ_cons
theorem Cn:type_of% @Nat.mod_lt:=@Nat.mod_lt
theorem Co:type_of% @List.map_append:=@List.map_append
theorem Cp:type_of% @Bool.false_eq_true:=@Bool.false_eq_true
theorem Cq:type_of% @List.length_drop:=@List.length_drop
theorem Cr:type_of% @List.set_cons_zero:=@List.set_cons_zero
theorem Cs:type_of% @Nat.mod_eq_of_lt:=@Nat.mod_eq_of_lt
theorem Ct:type_of% @List.filter_filter:=@List.filter_filter
theorem Cu:type_of% @List.mem_of_mem_take:=@List.mem_of_mem_take
theorem Cv:type_of% @List.pairwise_append:=@List.pairwise_append
theorem Cw:type_of% @List.append_assoc:=@List.append_assoc
theorem Cx:type_of% @List.take_add_one:=@List.take_add_one
theorem Cy:type_of% @List.filter_congr:=@List.filter_congr
theorem Cz:type_of% @Nat.div_add_mod:=@Nat.div_add_mod
theorem D0:type_of% @List.drop_succ_cons:=@List.drop_succ_cons
theorem D1:type_of% @List.filter_eq_self:=@List.filter_eq_self
theorem D2:type_of% @Nat.zero_mul:=@Nat.zero_mul
theorem D3:type_of% @List.takeWhile_cons_of_pos:=@List.takeWhile_cons_of_pos
theorem D4:type_of% @List.length_take:=@List.length_take
theorem D5:type_of% @List.getElem_map:=@List.getElem_map
theorem D6:type_of% @List.getElem?_eq_none:=@List.getElem?_eq_none
theorem D7:type_of% @List.zip_cons_cons:=@List.zip_cons_cons
theorem D8:type_of% @Nat.one_mul:=@Nat.one_mul
theorem D9:type_of% @Nat.add_zero:=@Nat.add_zero
theorem Da:type_of% @Nat.le_of_eq:=@Nat.le_of_eq
theorem Db:type_of% @List.length_nil:=@List.length_nil
theorem Dc:type_of% @List.getElem?_set_ne:=@List.getElem?_set_ne
theorem Dd:type_of% @Bool.true_or:=@Bool.true_or
theorem De:type_of% @List.flatten_cons:=@List.flatten_cons
theorem Df:type_of% @List.foldl_append:=@List.foldl_append
theorem Dg:type_of% @List.drop_drop:=@List.drop_drop
theorem Dh:type_of% @List.getElem_inj:=@List.getElem_inj
theorem Di:type_of% @List.perm_middle:=@List.perm_middle
theorem Dj:type_of% @Nat.lt_of_lt_of_le:=@Nat.lt_of_lt_of_le
theorem Dk:type_of% @List.contains_cons:=@List.contains_cons
theorem Dl:type_of% @Bool.eq_iff_iff:=@Bool.eq_iff_iff
theorem Dm:type_of% @Nat.min_eq_left:=@Nat.min_eq_left
theorem Dn:type_of% @Nat.not_lt_zero:=@Nat.not_lt_zero
theorem Do:type_of% @Nat.add_assoc:=@Nat.add_assoc
theorem Dp:type_of% @Array.getElem?_append_left:=@Array.getElem?_append_left
theorem Dq:type_of% @Int.fdiv_eq_ediv_of_nonneg:=@Int.fdiv_eq_ediv_of_nonneg
theorem Dr:type_of% @List.set_append_left:=@List.set_append_left
theorem Ds:type_of% @Bool.false_and:=@Bool.false_and
theorem Dt:type_of% @Nat.add_comm:=@Nat.add_comm
theorem Du:type_of% @Nat.mul_comm:=@Nat.mul_comm
theorem Dv:type_of% @List.getElem?_take_of_lt:=@List.getElem?_take_of_lt
theorem Dw:type_of% @List.getD_cons_zero:=@List.getD_cons_zero
theorem Dx:type_of% @Int.eq_ofNat_of_zero_le:=@Int.eq_ofNat_of_zero_le
theorem Dy:type_of% @List.any_cons:=@List.any_cons
theorem Dz:type_of% @List.filter_append:=@List.filter_append
theorem E0:type_of% @Int.emod_lt_of_pos:=@Int.emod_lt_of_pos
theorem E1:type_of% @Nat.le_succ:=@Nat.le_succ
theorem E2:type_of% @List.nodup_append:=@List.nodup_append
theorem E3:type_of% @List.map_id':=@List.map_id'
theorem E4:type_of% @Bool.or_true:=@Bool.or_true
theorem E5:type_of% @List.drop_append:=@List.drop_append
theorem E6:type_of% @List.any_eq_true:=@List.any_eq_true
theorem E7:type_of% @Bool.or_false:=@Bool.or_false
theorem E8:type_of% @List.all_append:=@List.all_append
theorem E9:type_of% @Int.emod_nonneg:=@Int.emod_nonneg
end Go
namespace Go.Vx
open Go
inductive Tag where
 |ro
 |full
 |app (id:Nat)
 deriving DecidableEq
inductive V where
 |u
 |bool (b:Bool)
 |int (k:IntKind) (n:Int)
 |str (s:List UInt8)
 |raw (v:Value)
 |nilp
 |ptr (id off:Nat)
 |sl (g:Tag) (rows:List (List V))
 |elp (cells:List V) (off:Nat)
 |fn (f:FuncId) (caps:List V)
 |agg (cells:List V)
 |tup (vs:List V)
 |lsv (id s n lo m:Nat)
 |lsp (id s n k j:Nat)
 |bsv (id s off n:Nat)
 |mp (id:Nat)
 |ifc (t:Nat) (vs:List V)
instance:Inhabited V:=⟨.u⟩
variable {α:Type}{β:Type}
def All2 {α β:Type} (R:α->β->Prop):List α->List β->Prop
 | [],[]=>True
 |a::az,b::bs=>R a b/\All2 R az bs
 |_,_=>False
theorem All2.length {R:α->β->Prop}: ∀{l:List α} {m:List β},All2 R l m->l.length=m.length
 | [],[],_=>rfl
 |_::_,_::_,h=>by simp[All2.length h.2]
 | [],_::_,h=>h.elim
 |_::_,[],h=>h.elim
theorem All2.imp {R S:α->β->Prop} (aa: ∀a b,R a b->S a b): ∀{l:List α} {m:List β},All2 R l m->All2 S l m
 | [],[],_=>trivial
 |_::_,_::_,h=>⟨aa _ _ h.1,All2.imp aa h.2⟩
 | [],_::_,h=>h.elim
 |_::_,[],h=>h.elim
theorem All2.get {R:α->β->Prop}: ∀{l:List α} {m:List β} (i:Nat) (a:α),All2 R l m->l[i]? =some a-> ∃b,m[i]? =some b/\R a b
 |a::_,b::_,0,_,h,e=>⟨b,rfl,by simp at e;exact e▸h.1⟩
 |_::_,_::_,i+1,_,h,e=>by
  obtain⟨b,hb,r⟩:=All2.get i _ h.2 (sU e)
  grind
 | [],[],_,_,_,e=>by grind
 | [],_::_,_,_,h,_=>h.elim
 |_::_,[],_,_,h,_=>h.elim
theorem All2.of {R:α->β->Prop}: ∀{l:List α} {m:List β},l.length=m.length->(∀(i:Nat) a b,l[i]? =some a->m[i]? =some b->R a b)->All2 R l m
 | [],[],_,_=>trivial
 |a::l,b::m,hl,h=>⟨h 0 a b rfl rfl,All2.of (by grind) fun i x y hx hy=>h (i+1) x y (by grind) (by grind)⟩
 | [],_::_,hl,_=>by grind
 |_::_,[],hl,_=>by grind
theorem All2.append {R:α->β->Prop}: ∀{l:List α} {m:List β} {l':List α} {m':List β},All2 R l m->All2 R l' m'->All2 R (l++l') (m++m')
 | [],[],_,_,_,h'=>h'
 |_::_,_::_,_,_,h,h'=>⟨h.1,All2.append h.2 h'⟩
 | [],_::_,_,_,h,_=>h.elim
 |_::_,[],_,_,h,_=>h.elim
theorem All2.take {R:α->β->Prop}: ∀{l:List α} {m:List β} (n:Nat),All2 R l m->All2 R (l.take n) (m.take n)
 | [],[],n,_=>by grind
 |_::_,_::_,0,_=>trivial
 |_::_,_::_,n+1,h=>⟨h.1,All2.take n h.2⟩
 | [],_::_,_,h=>h.elim
 |_::_,[],_,h=>h.elim
theorem All2.drop {R:α->β->Prop}: ∀{l:List α} {m:List β} (n:Nat),All2 R l m->All2 R (l.drop n) (m.drop n)
 | [],[],n,_=>by grind
 |_::_,_::_,0,h=>h
 |_::_,_::_,n+1,h=>All2.drop n h.2
 | [],_::_,_,h=>h.elim
 |_::_,[],_,h=>h.elim
theorem xY6 {i j n s:Nat} (hi:i<n) (hj:j<s):i*s+j<n*s:=by
 have h:(i+1)*s<=n*s:=Ah s hi
 grind
inductive RdP (w:World) (L:Nat->Nat):V->Value->Prop
 |bool (b:Bool):RdP w L (.bool b) (.bool b)
 |int (k:IntKind) (n:Int):RdP w L (.int k n) (.int k n)
 |str (s:List UInt8):RdP w L (.str s) (.string ⟨s.toArray⟩)
 |raw (v:Value) (h:v.oneCell'=true):RdP w L (.raw v) v
 |nilp:RdP w L .nilp (.pointer none)
 |sl0 (g:Tag) (a:Option Addr) (cap:Nat) (hg:g= .full->cap=0) (ha: ∀id,g≠ .app id):RdP w L (.sl g []) (.slice a 0 cap)
 |sl (g:Tag) (rows:List (List V)) (s b o cap:Nat) (c:Nat->Nat->Value) (ha: ∀id,g≠ .app id)
   (hs:0<s) (hlen: ∀r∈rows,r.length=s) (hlim:o+rows.length*s<=L b) (hcap:rows.length<=cap) (hg:g= .full->cap=rows.length)
   (hc: ∀i j,i<rows.length->j<s->w.cell? ⟨b,o+i*s+j,none⟩=some (c i j))
   (hr: ∀i j (hi:i<rows.length) (hj:j<rows[i].length),RdP w L (rows[i][j]) (c i j)):
   RdP w L (.sl g rows) (.slice (some ⟨b,o,none⟩) rows.length cap)
structure Le (w:World) (L:Nat->Nat) (w':World) (L':Nat->Nat):Prop where
 lim: ∀b,L b<=L' b
 cell: ∀b o,o<L b->w'.cell? ⟨b,o,none⟩=w.cell? ⟨b,o,none⟩
theorem Le.refl (w:World) (L:Nat->Nat):Le w L w L:=⟨om,sM⟩
theorem Le.trans {w1 w2 w3:World} {L1 L2 L3:Nat->Nat} (h:Le w1 L1 w2 L2) (k:Le w2 L2 w3 L3):Le w1 L1 w3 L3:=
 ⟨fun b=>B3 (h.lim b) (k.lim b),fun b o ho=>(k.cell b o (Dj ho (h.lim b))).trans (h.cell b o ho)⟩
theorem RdP.mono {w w':World} {L L':Nat->Nat} (h:Le w L w' L') {v:V} {x:Value} (r:RdP w L v x):RdP w' L' v x:=by
 induction r with
 |bool b=>exact .bool b
 |int k n=>exact .int k n
 |str s=>exact .str s
 |raw v hv=>exact .raw v hv
 |nilp=>exact .nilp
 |sl0 g a cap hg ha=>exact .sl0 g a cap hg ha
 |sl g rows s b o cap c ha hs hlen hlim hcap hg hc hr ih=>
  refine .sl g rows s b o cap c ha hs hlen (B3 hlim (h.lim b)) hcap hg (fun i j hi hj=> ?_) ih
  rw[h.cell b _ (by have:=xY6 hi hj;omega)]
  grind
theorem RdP.oneCell {w:World} {L:Nat->Nat} {v:V} {x:Value} (r:RdP w L v x):x.oneCell'=true:=by
 cases r<;>first|rfl|assumption
inductive Ob where
 |box (cells:List V)
 |app (n s:Nat)
 |lst (rows:List (List V)) (s:Nat)
 |dead
 |mp (kvs:List V) (borns:List Nat) (clk:Nat)
 |it (m:Option Nat) (since:Nat) (seen:List Nat) (last:Nat)
abbrev St:=List Ob
def RdK (w:World) (L:Nat->Nat) (σ:St) (β:List Value):V->Value->Prop
 | .u,x=>x.oneCell'=true
 | .ptr id off,x=> ∃b,β[id]? =some (.pointer (some ⟨b,0,none⟩))/\x= .pointer (some ⟨b,off,none⟩)
 | .sl (.app id) rows,x=>RdP w L (.sl .ro rows) x/\ ∃n s,σ[id]? =some (.app n s)/\rows.length<=n/\(rows.length=n->β[id]? =some x)/\(∀r∈rows,r.length=s)
 | .elp cells off,x=> ∃(b o:Nat) (c:Nat->Value),x= .pointer (some ⟨b,o+off,none⟩)/\o+cells.length<=L b/\ ∀j (hj:j<cells.length),w.cell? ⟨b,o+j,none⟩=some (c j)/\RdP w L cells[j] (c j)
 | .lsv id s n lo m,x=> ∃a cap,x= .slice a m cap/\(m<=cap/\n<=lo+cap)/\(0<cap-> ∃b o,a=some ⟨b,o,none⟩)/\
   (σ[id]? =some .dead∨ ∃rows,σ[id]? =some (.lst rows s)/\n<=rows.length/\(n=rows.length-> ∃b c0,β[id]? =some (.slice b n c0)/\cap=c0 - lo/\lo<=c0/\(lo<c0-> ∃k,b=some ⟨k,0,none⟩/\a=some ⟨k,lo*s,none⟩)))
 | .lsp id s n k j,x=> ∃b o,x= .pointer (some ⟨b,o,none⟩)/\
   (σ[id]? =some .dead∨ ∃rows,σ[id]? =some (.lst rows s)/\n<=rows.length/\(n=rows.length->k<n-> ∃c0,β[id]? =some (.slice (some ⟨b,0,none⟩) n c0)/\o=k*s+j))
 | .bsv id _ off n,x=> ∃b,β[id]? =some (.pointer (some ⟨b,0,none⟩))/\x= .slice (some ⟨b,off,none⟩) n n
 | .mp id,x=> ∃b,β[id]? =some (.pointer (some ⟨b,0,none⟩))/\x= .map (some b)
 | .fn _ _,_=>False
 | .agg _,_=>False
 | .tup _,_=>False
 | .ifc _ _,_=>False
 |v,x=>RdP w L v x
def RdC (w:World) (L:Nat->Nat) (σ:St) (β:List Value):V->Value->Prop
 | .fn f caps,x=> ∃xs:List Value,x= .func (.func f) #[] xs.toArray/\All2 (RdK w L σ β) caps xs
 | .ifc t vs,x=> ∃y,x= .iface t y/\All2 (RdK w L σ β) vs [y]
 |v,x=>RdK w L σ β v x
def RdA (w:World) (L:Nat->Nat) (σ:St) (β:List Value):V->Value->Prop
 | .agg cs,x=> ∃xs:List Value,x= .agg xs.toArray/\All2 (RdC w L σ β) cs xs
 |v,x=>RdC w L σ β v x
def RdS (w:World) (L:Nat->Nat) (σ:St) (β:List Value):V->Value->Prop
 | .u,_=>True
 | .tup vs,x=> ∃xs:List Value,x= .tuple xs.toArray/\All2 (RdA w L σ β) vs xs
 |v,x=>RdA w L σ β v x
structure Ext (σ:St) (β:List Value) (σ':St) (β':List Value):Prop where
 ptr: ∀(id:Nat) a,β[id]? =some (.pointer a)->β'[id]? =some (.pointer a)
 app: ∀(id:Nat) n s,σ[id]? =some (.app n s)-> ∃n',σ'[id]? =some (.app n' s)/\n<=n'/\(n'=n->β'[id]? =β[id]?)
 lst: ∀(id:Nat) rows s,σ[id]? =some (.lst rows s)->σ'[id]? =some .dead∨ ∃rows',σ'[id]? =some (.lst rows' s)/\rows.length<=rows'.length/\(rows'.length=rows.length->β'[id]? =β[id]?)
 dead: ∀(id:Nat),σ[id]? =some .dead->σ'[id]? =some .dead
theorem Ext.refl (σ:St) (β:List Value):Ext σ β σ β:=⟨sM,(by grind),(by grind),fun _ h=>h⟩
theorem Ext.trans {σ1 σ2 σ3:St} {β1 β2 β3:List Value} (h:Ext σ1 β1 σ2 β2) (k:Ext σ2 β2 σ3 β3):Ext σ1 β1 σ3 β3:=by
 refine⟨fun id a e=>k.ptr id a (h.ptr id a e),fun id n s e=> ?_,fun id rows s e=> ?_,fun id e=>k.dead id (h.dead id e)⟩
 .obtain⟨n2,e2,l2,p2⟩:=h.app id n s e
  obtain⟨n3,e3,l3,p3⟩:=k.app id n2 s e2
  grind
 .rcases h.lst id rows s e with e2|⟨r2,e2,l2,p2⟩
  .exact .inl (k.dead id e2)
  .rcases k.lst id r2 s e2 with e3|⟨r3,e3,l3,p3⟩
   all_goals grind
section
variable {w w':World} {L L':Nat->Nat} {σ σ':St} {β β':List Value}
variable {x:Value}
theorem RdK.mono (h:Le w L w' L') (k:Ext σ β σ' β') {v:V} (r:RdK w L σ β v x):RdK w' L' σ' β' v x:=by
 cases v with
 |u=>exact r
 |ptr id off=>obtain⟨b,hb,hx⟩:=r;exact⟨b,k.ptr _ _ hb,hx⟩
 |sl g rows=>
  cases g with
  |app id=>
   obtain⟨hr,n,s,hσ,hle,hβ,hl⟩:=r
   obtain⟨n',aa,hn,ab⟩:=k.app id n s hσ
   refine⟨hr.mono h,n',s,aa,om,fun e=> ?_,hl⟩
   grind
  |ro=>exact RdP.mono h r
  |full=>exact RdP.mono h r
 |elp cells off=>
  obtain⟨b,o,c,hx,hl,hc⟩:=r
  refine⟨b,o,c,hx,B3 hl (h.lim b),fun j hj=> ?_⟩
  obtain⟨h1,h2⟩:=hc j hj
  exact⟨by rw[h.cell b _ om];exact h1,h2.mono h⟩
 |lsv id s n lo m=>
  obtain⟨a,cap,hx,hm,ha,hc⟩:=r
  refine⟨a,cap,hx,hm,ha, ?_⟩
  rcases hc with hd|⟨rows,hσ,hn,hb⟩
  .exact .inl (k.dead id hd)
  .rcases k.lst id rows s hσ with hd|⟨r2,e2,l2,p2⟩
   all_goals grind
 |lsp id s n i j=>
  obtain⟨b,o,hx,hc⟩:=r
  refine⟨b,o,hx, ?_⟩
  rcases hc with hd|⟨rows,hσ,hn,hb⟩
  .exact .inl (k.dead id hd)
  .rcases k.lst id rows s hσ with hd|⟨r2,e2,l2,p2⟩
   all_goals grind
 |bsv id s off n=>obtain⟨b,hb,hx⟩:=r;exact⟨b,k.ptr _ _ hb,hx⟩
 |mp id=>obtain⟨b,hb,hx⟩:=r;exact⟨b,k.ptr _ _ hb,hx⟩
 |fn f caps=>exact r
 |ifc t v=>exact r
 |agg cs=>exact r
 |tup vs=>exact r
 |bool b=>exact RdP.mono h r
 |int k n=>exact RdP.mono h r
 |str s=>exact RdP.mono h r
 |raw v=>exact RdP.mono h r
 |nilp=>exact RdP.mono h r
theorem RdC.mono (h:Le w L w' L') (k:Ext σ β σ' β') {v:V} (r:RdC w L σ β v x):RdC w' L' σ' β' v x:=by
 cases v with
 |fn f caps=>obtain⟨xs,hx,hc⟩:=r;exact⟨xs,hx,hc.imp (by grind[RdK.mono])⟩
 |ifc t v=>obtain⟨y,hx,hc⟩:=r;exact⟨y,hx,hc.imp (by grind[RdK.mono])⟩
 |_=>simp only[RdC]at r⊢;exact RdK.mono h k r
theorem RdA.mono (h:Le w L w' L') (k:Ext σ β σ' β') {v:V} (r:RdA w L σ β v x):RdA w' L' σ' β' v x:=by
 cases v with
 |agg cs=>obtain⟨xs,hx,hc⟩:=r;exact⟨xs,hx,hc.imp (by grind[RdC.mono])⟩
 |_=>simp only[RdA]at r⊢;exact RdC.mono h k r
theorem RdS.mono (h:Le w L w' L') (k:Ext σ β σ' β') {v:V} (r:RdS w L σ β v x):RdS w' L' σ' β' v x:=by
 cases v with
 |u=>trivial
 |tup vs=>obtain⟨xs,hx,hc⟩:=r;exact⟨xs,hx,hc.imp (by grind[RdA.mono])⟩
 |_=>simp only[RdS]at r⊢;exact RdA.mono h k r
theorem RdK.oneCell {v:V} (r:RdK w L σ β v x):x.oneCell'=true:=by
 cases v with
 |u=>exact r
 |ptr id off=>obtain⟨b,_,rfl⟩:=r;rfl
 |sl g rows=>cases g with
  |app id=>exact r.1.oneCell
  |ro=>exact RdP.oneCell r
  |full=>exact RdP.oneCell r
 |elp cells off=>obtain⟨b,o,c,rfl,_⟩:=r;rfl
 |lsv id s n lo m=>obtain⟨a,cap,rfl,_⟩:=r;rfl
 |lsp id s n k j=>obtain⟨b,o,rfl,_⟩:=r;rfl
 |bsv id s off n=>obtain⟨b,_,rfl⟩:=r;rfl
 |mp id=>obtain⟨b,_,rfl⟩:=r;rfl
 |fn f caps=>trivial
 |ifc t v=>trivial
 |agg cs=>trivial
 |tup vs=>trivial
 |_=>simp only[RdK]at r;exact RdP.oneCell r
theorem RdC.oneCell {v:V} (r:RdC w L σ β v x):x.oneCell'=true:=by
 cases v with
 |fn f caps=>obtain⟨xs,rfl,_⟩:=r;rfl
 |ifc t v=>obtain⟨y,rfl,_⟩:=r;rfl
 |_=>simp only[RdC]at r;exact RdK.oneCell r
theorem RdC.of_pure {v:V} (r:RdP w L v x):RdC w L σ β v x:=by
 cases r with
 |sl0 g a cap hg ha=>cases g with
  |app id=>grind
  |ro=>exact .sl0 _ a cap hg ha
  |full=>exact .sl0 _ a cap hg ha
 |sl g rows s b o cap c ha hs hlen hlim hcap hg hc hr=>cases g with
  |app id=>grind
  |ro=>exact .sl _ rows s b o cap c ha hs hlen hlim hcap hg hc hr
  |full=>exact .sl _ rows s b o cap c ha hs hlen hlim hcap hg hc hr
 |bool b=>exact RdP.bool b
 |int k n=>exact RdP.int k n
 |str s=>exact RdP.str s
 |raw _ hv=>exact RdP.raw _ hv
 |nilp=>exact RdP.nilp
theorem RdA.of_cell {v:V} (r:RdC w L σ β v x):RdA w L σ β v x:=by
 cases v<;>first|exact r|(simp only[RdA];exact r)|exact r.elim
theorem RdS.of_cell {v:V} (r:RdC w L σ β v x):RdS w L σ β v x:=by
 cases v<;>first|exact r|exact r.elim|trivial
theorem RdS.of_a {v:V} (r:RdA w L σ β v x):RdS w L σ β v x:=by
 cases v<;>first|exact r|exact r.elim|trivial
end
theorem eX {α:Sort _} (a:α): ∃b,a=b:=⟨a,rfl⟩
def tabs:List (Nat×List V):= []
def vints:List (Nat×IntKind):= [(0,.i64)]
abbrev Env:=Nat->V
def upd (e:Env) (d:Nat) (v:V):Env:=fun t=>if t=d then v else e t
def env0:Env:=fun _=> .u
structure Ctx where
 w0:World
 L0:Nat->Nat
 X0:List Nat
 σ0:St
 β0:List Value
def excl:Ob->Value->Option Nat
 | .box _,.pointer (some a)=>some a.block
 | .app n _,.slice (some a) _ cap=>if n<cap then some a.block else none
 | .lst _ _,.slice (some a) _ cap=>if 0<cap then some a.block else none
 | .mp _ _ _,.pointer (some a)=>some a.block
 | .it _ _ _ _,.pointer (some a)=>some a.block
 |_,_=>none
def zs0 (arr:Array Value) (fz:Nat×Nat):Prop:= ∀o,o<arr.size-> ¬(fz.1<=o/\o<fz.2)
def unfrozenL (s:Nat) (arr:Array Value) (fz:Nat×Nat):Prop:=zs0 arr fz/\(s=1∨ ¬(fz.1<=arr.size/\arr.size<fz.2))
def zz0 (es:Array MapEntry):List Value:=es.toList.flatMap fun e=> [e.key,e.val]
theorem ya7 (s:Nat) (arr:Array Value):unfrozenL s arr (0,0):=⟨fun q _ hq=>om,om⟩
theorem unfrozenL.size {s:Nat} {arr aa:Array Value} {fz:Nat×Nat} (h:unfrozenL s arr fz) (e:aa.size=arr.size):unfrozenL s aa fz:=⟨fun q hq=>h.1 q om,by rw[e];exact h.2⟩
def ObOk (w:World) (L:Nat->Nat) (σ:St) (β:List Value):Ob->Value->Prop
 | .box cells,x=> ∃b arr T fz,x= .pointer (some ⟨b,0,none⟩)/\w.heap[b]? =some (.cells arr T fz)/\zs0 arr fz/\L b=0/\All2 (RdC w L σ β) cells arr.toList
 | .app n s,x=> ∃a cap,x= .slice a n cap/\n<=cap/\0<s/\(n<cap-> ∃b o arr T fz,a=some ⟨b,o,none⟩/\w.heap[b]? =some (.cells arr T fz)/\zs0 arr fz/\o+cap*s<=arr.size/\L b=o+n*s)
 | .lst rows s,x=> ∃a cap,x= .slice a rows.length cap/\rows.length<=cap/\0<s/\(∀r∈rows,r.length=s)/\
   (0<cap-> ∃b arr T fz,a=some ⟨b,0,none⟩/\w.heap[b]? =some (.cells arr T fz)/\unfrozenL s arr fz/\cap*s<=arr.size/\L b=0/\All2 (RdC w L σ β) rows.flatten (arr.toList.take (rows.length*s)))
 | .dead,_=>True
 | .mp kvs borns clk,x=> ∃b es,x= .pointer (some ⟨b,0,none⟩)/\w.heap[b]? =some (.map es clk)/\L b=0/\All2 (RdA w L σ β) kvs (zz0 es)/\es.toList.map (·.born)=borns
 | .it m since seen last,x=> ∃b mo,x= .pointer (some ⟨b,0,none⟩)/\w.heap[b]? =some (.mapIter mo since seen.toArray last)/\L b=0/\
   (match m with|none=>mo=none|some id=> ∃r,β[id]? =some (.pointer (some ⟨r,0,none⟩))/\mo=some r)
def wd7 (w:World) (L:Nat->Nat) (g:Nat) (cells:List V):Prop:=cells.length<=L g/\ ∃c:Nat->Value,∀j (hj:j<cells.length),w.cell? ⟨g,j,none⟩=some (c j)/\RdP w L cells[j] (c j)
structure GlobOk (w:World) (L:Nat->Nat):Prop where
 tab: ∀p∈tabs,wd7 w L p.1 p.2
 num: ∀p∈vints,1<=L p.1/\ ∃m,w.cell? ⟨p.1,0,none⟩=some (.int p.2 m)
theorem GlobOk.mono {w w':World} {L L':Nat->Nat} (h:Le w L w' L') (r:GlobOk w L):GlobOk w' L':=by
 refine⟨fun p hp=>(by trivial),fun p hp=> ?_⟩
 obtain⟨h1,m,h2⟩:=r.num p hp
 exact⟨B3 h1 (h.lim _),m,by rw[h.cell _ 0 om];exact h2⟩
structure Mem (c:Ctx) (w:World) (L:Nat->Nat) (σ:St) (β:List Value):Prop where
 len:β.length=σ.length
 objs: ∀(i:Nat) o x,σ[i]? =some o->β[i]? =some x->ObOk w L σ β o x
 apart: ∀(i j:Nat) o o' x x' b,i≠j->σ[i]? =some o->β[i]? =some x->σ[j]? =some o'->β[j]? =some x'->excl o x=some b->excl o' x'≠some b
 mine: ∀(i:Nat) o x b,σ[i]? =some o->β[i]? =some x->excl o x=some b->c.w0.heap.size<=b∨b∈c.X0
 same: ∀b,b<c.w0.heap.size->b∉c.X0->w.heap[b]? =c.w0.heap[b]? /\L b=c.L0 b
 le:Le c.w0 c.L0 w L
 size:c.w0.heap.size<=w.heap.size
 os:w.os=c.w0.os
 tape:w.tape=c.w0.tape
 output:w.output=c.w0.output
 drawn:c.w0.drawn<=w.drawn
 lim: ∀b,w.heap.size<=b->L b=0
 ext:Ext c.σ0 c.β0 σ β
 tab:GlobOk c.w0 c.L0
theorem ObOk.step {w w':World} {L L':Nat->Nat} {σ σ':St} {β β':List Value} {o:Ob} {x:Value} (h:Le w L w' L') (k:Ext σ β σ' β')
  (hb: ∀b,excl o x=some b->w'.heap[b]? =w.heap[b]? /\L' b=L b) (r:ObOk w L σ β o x):ObOk w' L' σ' β' o x:=by
 cases o with
 |box cells=>
  obtain⟨b,arr,T,fz,rfl,hh,hf,hl,hc⟩:=r
  obtain⟨e1,e2⟩:=hb b rfl
  exact⟨b,arr,T,fz,rfl,e1.trans hh,hf,e2.trans hl,hc.imp (by grind[RdC.mono])⟩
 |app n s=>
  obtain⟨a,cap,rfl,hn,hs,hx⟩:=r
  refine⟨a,cap,rfl,hn,hs,fun aa=> ?_⟩
  obtain⟨b,o,arr,T,fz,rfl,hh,hf,ab,hl⟩:=hx aa
  obtain⟨e1,e2⟩:=hb b (by simp[excl,aa])
  grind
 |lst rows s=>
  obtain⟨a,cap,rfl,hn,hs,hu,hx⟩:=r
  refine⟨a,cap,rfl,hn,hs,hu,fun aa=> ?_⟩
  obtain⟨b,arr,T,fz,rfl,hh,hf,ab,hl,hc⟩:=hx aa
  obtain⟨e1,e2⟩:=hb b (by simp[excl,aa])
  exact⟨b,arr,T,fz,rfl,e1.trans hh,hf,ab,e2.trans hl,hc.imp (by grind[RdC.mono])⟩
 |dead=>trivial
 |mp kvs borns clk=>
  obtain⟨b,es,rfl,hh,hl,hc,ad⟩:=r
  obtain⟨e1,e2⟩:=hb b rfl
  exact⟨b,es,rfl,e1.trans hh,e2.trans hl,hc.imp (by grind[RdA.mono]),ad⟩
 |it m since seen last=>
  obtain⟨b,mo,rfl,hh,hl,hc⟩:=r
  obtain⟨e1,e2⟩:=hb b rfl
  refine⟨b,mo,rfl,e1.trans hh,e2.trans hl, ?_⟩
  cases m with
  |none=>exact hc
  |some id=>obtain⟨q,hq,hm⟩:=hc;exact⟨q,k.ptr _ _ hq,hm⟩
theorem ObOk.excl_lt {w:World} {L:Nat->Nat} {σ:St} {β:List Value} {o:Ob} {x:Value} {b:Nat} (r:ObOk w L σ β o x) (h:excl o x=some b):b<w.heap.size:=by
 cases o with
 |box cells=>
  obtain⟨b',arr,T,fz,rfl,hh,_⟩:=r
  grind[excl]
 |app n s=>
  obtain⟨a,cap,rfl,hn,hs,hx⟩:=r
  cases a<;>grind[excl]
 |lst rows s=>
  obtain⟨a,cap,rfl,hn,hs,hu,hx⟩:=r
  cases a<;>grind[excl]
 |dead=>trivial
 |mp kvs borns clk=>
  obtain⟨b',es,rfl,hh,_⟩:=r
  grind[excl]
 |it m since seen last=>
  obtain⟨b',mo,rfl,hh,_⟩:=r
  grind[excl]
section
variable {c:Ctx} {w:World} {L:Nat->Nat} {σ:St} {β:List Value}
variable {i:Nat}{α:Type}{cells:List V}
theorem Mem.drew (h:Mem c w L σ β):Mem c w.drew L σ β/\Le w L w.drew L:=by
 have hle:Le w L w.drew L:=⟨om,sM⟩
 refine⟨⟨h.len,fun i o x hi hx=>(h.objs i o x hi hx).step hle (Ext.refl _ _) fun b hb=>(by trivial),h.apart,h.mine,h.same,h.le.trans hle,h.size,h.os,h.tape,h.output,Nat.le_succ_of_le h.drawn,h.lim,h.ext,h.tab⟩,hle⟩
def xC (L:Nat->Nat) (b n:Nat):Nat->Nat:=fun k=>if k=b then n else L k
theorem yJ (w:World) (o:Go.Obj):(w.alloc o).heap[w.heap.size]? =some o:=by
 show(w.heap.push o)[w.heap.size]? =_
 simp
theorem zA4 (w:World) (o:Go.Obj) {k:Nat} (h:k<w.heap.size):(w.alloc o).heap[k]? =w.heap[k]? :=by
 show(w.heap.push o)[k]? =_
 grind
theorem zd7 {w w':World} {b:Nat} (h:w'.heap[b]? =w.heap[b]?) (o:Nat):w'.cell? ⟨b,o,none⟩=w.cell? ⟨b,o,none⟩:=by
 grind[World.cell?]
theorem Mem.alloc (h:Mem c w L σ β) (o:Go.Obj) (m:Nat):Mem c (w.alloc o) (xC L w.heap.size m) σ β/\Le w L (w.alloc o) (xC L w.heap.size m):=by
 have hL: ∀b,b<w.heap.size->xC L w.heap.size m b=L b:=(by grind[xC])
 have hle:Le w L (w.alloc o) (xC L w.heap.size m):=by
  refine⟨fun b=> ?_,fun b off ho=> ?_⟩
  .by_cases hb:b=w.heap.size
   .subst hb;rw[h.lim _ om];omega
   grind[xC]
  .have hb:b<w.heap.size:=by
    rcases C1 b w.heap.size with hb|hb
    .exact hb
    .rw[h.lim b hb]at ho;omega
   grind[zd7,zA4]
 refine⟨⟨h.len,fun i ob x hi hx=>(h.objs i ob x hi hx).step hle (Ext.refl _ _) fun b hb=> ?_,h.apart,h.mine,fun b hb hx=> ?_,h.le.trans hle, ?_,h.os,h.tape,h.output,h.drawn,fun b hb=> ?_,h.ext,h.tab⟩,hle⟩
 .have aa:=(h.objs i ob x hi hx).excl_lt hb
  grind[zA4]
 .have aa:b<w.heap.size:=Dj hb h.size
  rw[zA4 w o aa,hL b aa]
  exact h.same b hb hx
 .simp;have:=h.size;omega
 .simp at hb
  simp[xC]
  rw[if_neg om]
  exact h.lim b om
theorem Ext.push (σ:St) (β:List Value) (hl:β.length=σ.length) (o:Ob) (x:Value):Ext σ β (σ++ [o]) (β++ [x]):=by
 refine⟨(by grind),(by grind),(by grind),(by grind)⟩
 all_goals grind
theorem yZ {l:List α} {a b:α} (h:(l++ [a])[i]? =some b):(i<l.length/\l[i]? =some b)∨(i=l.length/\b=a):=by
 grind
theorem Mem.push (h:Mem c w L σ β) (o:Ob) (x:Value) (ho:ObOk w L (σ++ [o]) (β++ [x]) o x)
  (aj: ∀(i:Nat) o' x' b,σ[i]? =some o'->β[i]? =some x'->excl o' x'=some b->excl o x≠some b)
  (hm: ∀b,excl o x=some b->c.w0.heap.size<=b∨b∈c.X0):Mem c w L (σ++ [o]) (β++ [x]):=by
 have ad:=Ext.push σ β h.len o x
 refine⟨by simp[h.len],fun i o' x' hi hx=> ?_,fun i j o1 o2 x1 x2 b ag hi ae hj ab hb=> ?_,fun i o' x' b hi hx hb=> ?_,h.same,h.le,h.size,h.os,h.tape,h.output,h.drawn,h.lim,h.ext.trans ad,h.tab⟩
 .rcases yZ hi with ⟨hl,hi⟩|⟨hl,rfl⟩
  .rcases yZ hx with ⟨_,hx⟩|⟨aa,_⟩
   .exact(h.objs i o' x' hi hx).step (Le.refl _ _) ad sM
   .rw[h.len]at aa;omega
  .rcases yZ hx with ⟨aa,hx⟩|⟨_,rfl⟩
   .rw[h.len]at aa;omega
   omega
 .rcases yZ hi with ⟨hl,ah⟩|⟨hl,rfl⟩
  .rcases yZ ae with ⟨_,af⟩|⟨aa,_⟩
   .rcases yZ hj with ⟨ai,hj⟩|⟨ai,rfl⟩
    .rcases yZ ab with ⟨_,ab⟩|⟨aa,_⟩
     .exact h.apart i j o1 o2 x1 x2 b ag ah af hj ab hb
     .rw[h.len]at aa;omega
    .rcases yZ ab with ⟨aa,_⟩|⟨_,rfl⟩
     .rw[h.len]at aa;omega
     grind
   .rw[h.len]at aa;omega
  .rcases yZ ae with ⟨aa,_⟩|⟨_,rfl⟩
   .rw[h.len]at aa;omega
   grind
 .rcases yZ hi with ⟨hl,hi⟩|⟨hl,rfl⟩
  .rcases yZ hx with ⟨_,hx⟩|⟨aa,_⟩
   .exact h.mine i o' x' b hi hx hb
   .rw[h.len]at aa;omega
  .rcases yZ hx with ⟨aa,_⟩|⟨_,rfl⟩
   .rw[h.len]at aa;omega
   grind
theorem Mem.box (h:Mem c w L σ β) (cells:List V) (arr:Array Value) (T:TypeId) (hc:All2 (RdC w L σ β) cells arr.toList):
  Mem c (w.alloc (.cells arr T)) L (σ++ [.box cells]) (β++ [.pointer (some ⟨w.heap.size,0,none⟩)])/\Le w L (w.alloc (.cells arr T)) L:=by
 have h1:=h.alloc (.cells arr T) 0
 have hL:xC L w.heap.size 0=L:=by
  funext k
  by_cases hk:k=w.heap.size
  .subst hk;simp[xC,h.lim _ (A4 _)]
  grind[xC]
 rw[hL]at h1
 refine⟨h1.1.push _ _ ⟨w.heap.size,arr,T,(0,0),rfl,yJ _ _,fun o _ h=>om,h.lim _ om,hc.imp fun _ _=>RdC.mono h1.2 (Ext.push σ β h.len _ _)⟩ ?_ ?_,h1.2⟩
 .intro i o' x' b hi hx hb e
  have:=(h.objs i o' x' hi hx).excl_lt hb
  grind[excl]
 .intro b hb
  simp[excl]at hb
  subst hb
  exact .inl h.size
def yM (w:World) (b:Nat) (o:Go.Obj):World:={w with heap:=w.heap.setIfInBounds b o}
theorem xT (w:World) (b:Nat) (o:Go.Obj) (hb:b<w.heap.size):(yM w b o).heap[b]? =some o:=by
 grind[yM]
theorem zd4 (w:World) (b k:Nat) (o:Go.Obj) (hk:k≠b):(yM w b o).heap[k]? =w.heap[k]? :=by
 grind[yM]
def xF (arr:Array Value) (k:Nat):List Value->Array Value
 | []=>arr
 |v::vs=>xF (arr.setIfInBounds k v) (k+1) vs
theorem xG: ∀(vs:List Value) (arr:Array Value) (k:Nat),(xF arr k vs).size=arr.size
 | [],_,_=>rfl
 |v::vs,arr,k=>by simp[xF,xG vs]
theorem zg1: ∀(vs:List Value) (arr:Array Value) (k:Nat) (i:Nat),k+vs.length<=arr.size->(xF arr k vs)[i]? =if k<=i/\i<k+vs.length then vs[i - k]? else arr[i]?
 | [],arr,k,i,_=>by grind[xF]
 |v::vs,arr,k,i,h=>by
  simp only[Aa]at h⊢
  rw[xF,zg1 vs _ _ _ (by simp;omega)]
  grind
theorem yX5 (w:World) (b off:Nat) (v:Value) (cur:Array Value) (T:TypeId) (fz:Nat×Nat) (hb:w.heap[b]? =some (.cells cur T fz)):
  w.setCell ⟨b,off,none⟩ v=yM w b (.cells (cur.setIfInBounds off v) T fz):=by
 obtain⟨aa,hv⟩:=Cg.1 hb
 unfold World.setCell yM
 congr 1
 grind
theorem yq2 (w:World) (b:Nat) (o o':Go.Obj):yM (yM w b o) b o'=yM w b o':=by
 simp[yM]
theorem yO4 (w:World) (b:Nat) (o:Go.Obj) (hb:w.heap[b]? =some o):yM w b o=w:=by
 obtain⟨aa,hv⟩:=Cg.1 hb
 unfold yM
 have:w.heap.setIfInBounds b o=w.heap:=by
  grind
 simp_all
theorem wA (b o n:Nat):Addr.add ⟨b,o,none⟩ n=⟨b,o+n,none⟩:=by
 unfold Addr.add
 simp
theorem xZ (P:Program) (b o:Nat) (T:TypeId) (fz:Nat×Nat): ∀(vs:List Value) (i:Nat) (cur:Array Value) (w:World),w.heap[b]? =some (.cells cur T fz)->zs0 cur fz->o+i+vs.length<=cur.size->(∀v∈vs,v.oneCell'=true)->
  (storeCells ⟨b,o,none⟩ vs i).run P w= .ok () (yM w b (.cells (xF cur (o+i) vs) T fz))
 | [],i,cur,w,hb,_,_,_=>by
  rw[storeCells,xF,yO4 _ _ _ hb];rfl
 |v::vs,i,cur,w,hb,hu,hl,hv=>by
  simp only[Aa]at hl
  have hc:w.cell? ⟨b,o+i,none⟩=some (cur[o+i]'om):=by grind[World.cell?]
  have hf:w.frozen? ⟨b,o+i,none⟩=false:=by
   have:=hu (o+i) om
   grind[World.frozen?]
  obtain⟨aa,_⟩:=Cg.1 hb
  rw[storeCells]
  simp only[Sem.run_bind,wA]
  rw[run_store P w ⟨b,o+i,none⟩ v .plain (hv v sM)]
  simp only[hc,hf,if_false,Cp,Result.andThen_ok]
  rw[yX5 w b (o+i) v cur T fz hb]
  have ih:=xZ P b o T fz vs (i+1) (cur.setIfInBounds (o+i) v) (yM w b (.cells (cur.setIfInBounds (o+i) v) T fz)) (xT _ _ _ aa)
   (fun k hk=>hu k (by grind)) (by grind) (by grind)
  rw[ih,yq2]
  rfl
theorem zg0 {l:List α} {j:Nat} {a b:α} (h:(l.set i a)[j]? =some b):(j=i/\b=a/\i<l.length)∨(j≠i/\l[j]? =some b):=by
 grind
theorem Mem.upd (h:Mem c w L σ β) {w':World} {L':Nat->Nat} (i:Nat) (o:Ob) (x:Value)
  (hle:Le w L w' L') (ab:Ext σ β (σ.set i o) (β.set i x))
  (D:Nat->Prop) (hD: ∀(j:Nat) o' x' b,j≠i->σ[j]? =some o'->β[j]? =some x'->excl o' x'=some b-> ¬D b)
  (ax: ∀b,D b->c.w0.heap.size<=b∨b∈c.X0)
  (af: ∀b,¬D b->w'.heap[b]? =w.heap[b]? /\L' b=L b)
  (ak:w'.heap.size=w.heap.size) (al:w'.os=w.os) (ad:w'.tape=w.tape) (ag:w'.output=w.output)
  (hlim: ∀b,w.heap.size<=b->L' b=0)
  (hok:ObOk w' L' (σ.set i o) (β.set i x) o x) (hex: ∀b,excl o x=some b->D b) (an:w.drawn<=w'.drawn:=by exact A4 _):Mem c w' L' (σ.set i o) (β.set i x):=by
 refine⟨by simp[h.len],fun j o' x' hj hx=> ?_,fun j k o1 o2 x1 x2 b ao hj aq hk ar hb=> ?_,fun j o' x' b hj hx hb=> ?_,fun b hb hx=> ?_,h.le.trans hle,by rw[ak];exact h.size,al.trans h.os,ad.trans h.tape,ag.trans h.output,B3 h.drawn an,(by grind),h.ext.trans ab,h.tab⟩
 .rcases zg0 hj with ⟨rfl,rfl,hl⟩|⟨ah,aa⟩
  .grind
  .rcases zg0 hx with ⟨e,_,_⟩|⟨_,ae⟩
   .omega
   .exact(h.objs j o' x' aa ae).step hle ab (by grind)
 .rcases zg0 hj with ⟨rfl,rfl,hl⟩|⟨ah,aa⟩
  .grind
  .rcases zg0 aq with ⟨e,_,_⟩|⟨_,ai⟩
   .omega
   .rcases zg0 hk with ⟨rfl,rfl,_⟩|⟨aw,au⟩
    .grind
    .rcases zg0 ar with ⟨e,_,_⟩|⟨_,aj⟩
     .omega
     .exact h.apart j k o1 o2 x1 x2 b ao aa ai au aj hb
 .rcases zg0 hj with ⟨rfl,rfl,hl⟩|⟨ah,aa⟩
  .grind
  .rcases zg0 hx with ⟨e,_,_⟩|⟨_,ae⟩
   .omega
   .exact h.mine j o' x' b aa ae hb
 .have av: ¬D b:=(by grind)
  obtain⟨e1,e2⟩:=af b av
  obtain⟨e3,e4⟩:=h.same b hb hx
  grind
theorem Ext.setBox (hi:σ[i]? =some (Ob.box cells)) (aa:List V):Ext σ β (σ.set i (.box aa)) β:=by
 refine⟨sM,(by grind),(by grind),(by grind)⟩
 all_goals grind
def putCells (cells:List V) (off:Nat) (vs:List V):List V:=cells.take off++vs++cells.drop (off+vs.length)
theorem yI (l:List α) (i:Nat) (a:α) (h:l[i]? =some a):l.set i a=l:=by
 apply Bn
 grind
theorem yB4 (cells vs:List V) (off i:Nat) (h:off+vs.length<=cells.length):(putCells cells off vs)[i]? =if off<=i/\i<off+vs.length then vs[i - off]? else cells[i]? :=by
 unfold putCells
 have ht:(cells.take off).length=off:=by grind
 grind
theorem zG7 (cells vs:List V) (off:Nat) (h:off+vs.length<=cells.length):(putCells cells off vs).length=cells.length:=by
 grind[putCells]
theorem zY2 {R:V->Value->Prop} {vs:List V} {arr:Array Value} {xs:List Value} {off:Nat} (h:All2 R cells arr.toList) (hv:All2 R vs xs) (hl:off+vs.length<=cells.length):
  All2 R (putCells cells off vs) (xF arr off xs).toList:=by
 have e1:=h.length
 have e2:=hv.length
 simp at e1
 refine All2.of (by grind[zG7,xG]) fun i a b ha hb=> ?_
 rw[yB4 _ _ _ _ hl]at ha
 rw[Aq,zg1 _ _ _ _ om,<-e2]at hb
 by_cases hc:off<=i/\i<off+vs.length
 .rw[if_pos hc]at ha hb
  obtain⟨y,hy,r⟩:=hv.get _ _ ha
  grind
 .rw[if_neg hc]at ha hb
  obtain⟨y,hy,r⟩:=h.get _ _ ha
  grind
theorem Mem.setBox (h:Mem c w L σ β) {vs:List V} {xs:List Value} {off b:Nat} (hi:σ[i]? =some (.box cells)) (hβ:β[i]? =some (.pointer (some ⟨b,0,none⟩)))
  (hv:All2 (RdC w L σ β) vs xs) (hl:off+vs.length<=cells.length):
  ∃arr T fz,w.heap[b]? =some (.cells arr T fz)/\zs0 arr fz/\arr.size=cells.length/\
   Mem c (yM w b (.cells (xF arr off xs) T fz)) L (σ.set i (.box (putCells cells off vs))) β/\Le w L (yM w b (.cells (xF arr off xs) T fz)) L:=by
 have hok:=h.objs i _ _ hi hβ
 obtain⟨b',arr,T,fz,e,hh,hf,h0,hc⟩:=hok
 cases e
 have ab:b<w.heap.size:=(by grind)
 have hle:Le w L (yM w b (.cells (xF arr off xs) T fz)) L:=by
  refine⟨om,fun k o ho=>zd7 (zd4 w b k _ fun q=> ?_) o⟩
  grind
 refine⟨arr,T,fz,hh,hf,by have:=hc.length;grind, ?_,hle⟩
 have aa:=yI β i _ hβ
 have af:Ext σ β (σ.set i (.box (putCells cells off vs))) β:=Ext.setBox hi _
 have key:=h.upd (w':=yM w b (.cells (xF arr off xs) T fz)) (L':=L) i (.box (putCells cells off vs)) (.pointer (some ⟨b,0,none⟩)) hle (by grind) (fun k=>k=b)
  (fun j o' x' k hj ad ae hk e=>by subst e;exact h.apart j i o' _ x' _ k hj ad ae hi hβ hk rfl)
  (fun k e=>by subst e;exact h.mine i _ _ k hi hβ rfl)
  (fun k hk=>⟨zd4 w b k _ hk,rfl⟩) (by simp[yM]) rfl rfl rfl h.lim ?_ (by grind[excl])
 .grind
 .rw[aa]
  refine⟨b,_,T,fz,rfl,xT _ _ _ ab,fun o ho=>hf o (by grind[xG]),h0, ?_⟩
  exact(zY2 hc hv hl).imp (by grind[RdC.mono])
end
variable {w:World}{L:Nat->Nat}{g:Tag}{x:Value}
def uni (s:Nat) (rows:List (List V)):Prop:= ∀r∈rows,r.length=s
theorem yA {α:Type} {s:Nat}: ∀{rows:List (List α)},(∀r∈rows,r.length=s)->rows.flatten.length=rows.length*s
 | [],_=>by simp
 |r::rows,h=>by
  simp_all[yA,B2,Dt]
theorem yN {α:Type} {s:Nat}: ∀{rows:List (List α)} (i j:Nat),(∀r∈rows,r.length=s)->j<s->rows.flatten[i*s+j]? =(rows[i]?).bind fun r=>r[j]?
 | [],i,j,_,_=>by simp
 |r::rows,0,j,h,hj=>by
  grind
 |r::rows,i+1,j,h,hj=>by
  have hr:=h r sM
  rw[De,B8 (by rw[hr,B2];omega),hr,show(i+1)*s+j - s=i*s+j by rw[B2];omega,
   yN i j (fun x hx=>h x (by simp[hx])) hj]
  simp
theorem RdP.of_flat {rows:List (List V)} {s b o cap:Nat} (hs:0<s) (hu:uni s rows) (hlim:o+rows.length*s<=L b) (hcap:rows.length<=cap)
  (ha: ∀id,g≠ .app id) (hg:g= .full->cap=rows.length)
  (h: ∀(k:Nat) v,rows.flatten[k]? =some v-> ∃x,w.cell? ⟨b,o+k,none⟩=some x/\RdP w L v x):RdP w L (.sl g rows) (.slice (some ⟨b,o,none⟩) rows.length cap):=by
 refine .sl g rows s b o cap (fun i j=>(w.cell? ⟨b,o+i*s+j,none⟩).getD undef) ha hs hu hlim hcap hg (fun i j hi hj=> ?_) (fun i j hi hj=> ?_)
 .have aa:j<rows[i].length:=by rw[hu _ sM];exact hj
  obtain⟨x,hx,_⟩:=h (i*s+j) (rows[i][j]) (by rw[yN i j hu hj,A0 hi];simp)
  grind
 .have aa:j<s:=by rw[<-hu _ (Ab hi)];exact hj
  obtain⟨x,hx,r⟩:=h (i*s+j) (rows[i][j]) (by rw[yN i j hu aa,A0 hi];simp)
  grind
theorem RdP.flat {rows:List (List V)} (r:RdP w L (.sl g rows) x) (ab:rows≠ []):
  ∃s b o cap,x= .slice (some ⟨b,o,none⟩) rows.length cap/\0<s/\uni s rows/\o+rows.length*s<=L b/\rows.length<=cap/\(g= .full->cap=rows.length)/\
   ∀(k:Nat) v,rows.flatten[k]? =some v-> ∃y,w.cell? ⟨b,o+k,none⟩=some y/\RdP w L v y:=by
 cases r with
 |sl0=>grind
 |sl _ _ s b o cap c ha hs hlen hlim hcap hg hc hr=>
  refine⟨s,b,o,cap,rfl,hs,hlen,hlim,hcap,hg,fun k v hk=> ?_⟩
  have ad:k<rows.length*s:=by grind[yA]
  have hi:k/s<rows.length:=by simp_all[Bz]
  have hj:k%s<s:=Cn _ hs
  have aa:k=k/s*s+k%s:=by rw[Du];exact(Cz k s).symm
  rw[aa,yN _ _ hlen hj,A0 hi]at hk
  grind
theorem RdP.len {rows:List (List V)} (r:RdP w L (.sl g rows) x): ∃a cap,x= .slice a rows.length cap/\rows.length<=cap/\(g= .full->cap=rows.length):=by
 cases r with
 |sl0 _ a cap hg=>exact⟨_,_,rfl,sM,om⟩
 |sl _ _ s b o cap c ha hs hlen hlim hcap hg hc hr=>grind
theorem RdP.src {P:Program} {rows:List (List V)} {s:Nat} {tx e:TypeId} (r:RdP w L (.sl g rows) x) (hk:P.underlying tx=some (.slice e)) (_hs:0<s) (hu:uni s rows):
  ∃news,Src P s tx x rows.length news w/\All2 (RdP w L) rows.flatten news:=by
 by_cases aa:rows= []
 .subst aa
  obtain⟨a,cap,rfl,_,_⟩:=r.len
  cases a with
  |none=>exact⟨[],Src.ofNil w hk cap,tV⟩
  |some a=>exact⟨[],(by grind[Src.ofSlice]),tV⟩
 .obtain⟨s',b,o,cap,rfl,ai,ab,hlim,hcap,_,hc⟩:=r.flat aa
  have ag:s'=s:=by
   obtain⟨r0,rest,rfl⟩:=Bq aa
   rw[<-ab r0 sM,hu r0 sM]
  subst ag
  have ad:=yA ab
  let f:=fun k=>(w.cell? ⟨b,o+k,none⟩).getD undef
  have ae:All2 (RdP w L) rows.flatten ((List.range (rows.length*s')).map f):=by
   grind[All2.of]
  refine⟨(List.range (rows.length*s')).map f,Src.ofSlice w hk ⟨b,o,none⟩ rows.length cap _ sM (fun j u hj=> ?_) (fun u hu=> ?_),ae⟩
  .rw[B6]at hj
   have af:j<rows.length*s':=by
    grind
   rw[A0 (sU af)]at hj
   simp only[List.getElem_range,Bg,Option.some.injEq]at hj
   obtain⟨z,hz,_⟩:=hc j _ (A0 (by rw[ad];exact af))
   grind[wA]
  .obtain⟨k,hk,rfl⟩:=Ad.1 hu
   have ah:k<rows.length*s':=by grind
   obtain⟨z,hz,rz⟩:=hc k _ (A0 (by rw[ad];exact ah))
   simpa[f,hz]using rz.oneCell
def zO (bs:List UInt8):List (List V):=bs.map fun b=> [.int .u8 b.toNat]
theorem zQ2 (bs:List UInt8):uni 1 (zO bs):=fun r hr=>by
 obtain⟨b,_,rfl⟩:=Ad.1 hr;rfl
theorem zq0 (bs:List UInt8):All2 (RdP w L) (zO bs).flatten (byteCells ⟨bs.toArray⟩):=by
 unfold zO byteCells
 show All2 _ _ (bs.map _)
 induction bs with
 |nil=>trivial
 |cons b bs ih=>exact⟨.int _ _,ih⟩
theorem zc1 {s:Nat} {a b:List (List V)} (ha:uni s a) (hb:uni s b):uni s (a++b):=fun r hr=>by
 rcases B5.1 hr with h|h
 .exact ha r h
 .exact hb r h
theorem RdP.of_row {rows:List (List V)} {s b o cap:Nat} {arr:Array Value} {T:TypeId} {fz:Nat×Nat} {xs:List Value} (hs:0<s) (hu:uni s rows) (hlim:o+rows.length*s<=L b) (hcap:rows.length<=cap)
  (ha: ∀id,g≠ .app id) (hg:g= .full->cap=rows.length)
  (hh:w.heap[b]? =some (.cells arr T fz)) (hx: ∀(k:Nat) x,xs[k]? =some x->arr[o+k]? =some x) (h:All2 (RdP w L) rows.flatten xs):RdP w L (.sl g rows) (.slice (some ⟨b,o,none⟩) rows.length cap):=by
 refine .of_flat hs hu hlim hcap ha hg fun k v hv=> ?_
 obtain⟨x,aa,r⟩:=h.get k v hv
 grind[World.cell?]
section
variable {c:Ctx} {w:World} {L:Nat->Nat} {σ:St} {β:List Value}
variable {cap:Nat}{i:Nat}{arr:Array Value}{T:TypeId}{n:Nat}{rows2:List (List V)}{xs:List Value}
theorem yO9 (arr:Array Value) (k:Nat) (xs:List Value) (h:k+xs.length<=arr.size) (i:Nat) (x:Value) (hx:xs[i]? =some x):(xF arr k xs)[k+i]? =some x:=by
 have hi:i<xs.length:=(by grind)
 simp_all[zg1]
theorem ya1 (arr:Array Value) (k:Nat) (xs:List Value) (h:k+xs.length<=arr.size) (i:Nat) (hi:i<k):(xF arr k xs)[i]? =arr[i]? :=by
 simp_all[zg1];omega
theorem Mem.appIn (h:Mem c w L σ β) {s b o:Nat} {rows:List (List V)} (hi:σ[i]? =some (.app n s)) (hβ:β[i]? =some (.slice (some ⟨b,o,none⟩) n cap))
  (hn:rows.length=n) (hr:RdP w L (.sl .ro rows) (.slice (some ⟨b,o,none⟩) n cap)) (af:uni s rows) (hu:uni s rows2) (hx:All2 (RdP w L) rows2.flatten xs) (ao:0<rows2.length) (aa:n+rows2.length<=cap):
  ∃arr T fz,w.heap[b]? =some (.cells arr T fz)/\zs0 arr fz/\o+n*s+xs.length<=arr.size/\
   Mem c (yM w b (.cells (xF arr (o+n*s) xs) T fz)) (xC L b (o+(n+rows2.length)*s)) (σ.set i (.app (n+rows2.length) s)) (β.set i (.slice (some ⟨b,o,none⟩) (n+rows2.length) cap))/\
   Le w L (yM w b (.cells (xF arr (o+n*s) xs) T fz)) (xC L b (o+(n+rows2.length)*s))/\
   Ext σ β (σ.set i (.app (n+rows2.length) s)) (β.set i (.slice (some ⟨b,o,none⟩) (n+rows2.length) cap))/\
   RdP (yM w b (.cells (xF arr (o+n*s) xs) T fz)) (xC L b (o+(n+rows2.length)*s)) (.sl .ro (rows++rows2)) (.slice (some ⟨b,o,none⟩) (n+rows2.length) cap):=by
 obtain⟨a,ag,e,aj,hs,hok⟩:=h.objs i _ _ hi hβ
 cases e
 obtain⟨b',o',arr,T,fz,e,hh,hf,aq,hL⟩:=hok om
 cases e
 have ah:b<w.heap.size:=(by grind)
 have ar:xs.length=rows2.length*s:=by rw[<-hx.length,yA hu]
 have hmul:(n+rows2.length)*s=n*s+rows2.length*s:=(by grind)
 have au:(n+rows2.length)*s<=cap*s:=Ah _ aa
 have ab:o+n*s+xs.length<=arr.size:=om
 have hle:Le w L (yM w b (.cells (xF arr (o+n*s) xs) T fz)) (xC L b (o+(n+rows2.length)*s)):=by
  refine⟨fun k=> ?_,fun k q hq=> ?_⟩
  all_goals grind[xC,World.cell?,xT,ya1,zd4]
 have av:rows2.length≠0:=om
 have ad:Ext σ β (σ.set i (.app (n+rows2.length) s)) (β.set i (.slice (some ⟨b,o,none⟩) (n+rows2.length) cap)):=by
  refine⟨fun id a e=> ?_,fun id n0 s0 e=> ?_,(by grind),(by grind)⟩
  .grind
  .by_cases q:i=id
   .subst q
    rw[hi]at e;cases e
    grind
   grind
  all_goals grind
 refine⟨arr,T,fz,hh,hf,ab, ?_,hle,ad, ?_⟩
 .refine h.upd i _ _ hle ad (fun k=>k=b) (fun j o' x' k hj ak al hk e=>by subst e;exact h.apart j i o' _ x' _ k hj ak al hi hβ hk (by grind[excl]))
   (fun k e=>by subst e;exact h.mine i _ _ k hi hβ (by grind[excl])) (by grind[zd4,xC]) (by simp[yM]) rfl rfl rfl (fun k hk=> ?_) ?_ (fun k hk=> ?_)
  .simp only[xC];rw[if_neg om];exact h.lim k hk
  .refine⟨_,cap,rfl,aa,hs,fun hl=>⟨b,o,_,T,fz,rfl,xT _ _ _ ah,fun q hq=>hf q (by grind[xG]),by grind[xG],by simp[xC]⟩⟩
  grind[excl]
 .have hlen:(rows++rows2).length=n+rows2.length:=by grind
  have e:Value.slice (some ⟨b,o,none⟩) (n+rows2.length) cap=Value.slice (some ⟨b,o,none⟩) (rows++rows2).length cap:=by grind
  rw[e]
  refine .of_flat hs (zc1 af hu) (by grind[xC]) om sM sM fun k v hk=> ?_
  rw[C6]at hk
  have aw:=yA af
  simp only[World.cell?,xT _ _ _ ah]
  by_cases an:k<rows.flatten.length
  .rw[Az an]at hk
   have ai:rows≠ []:=(by grind)
   obtain⟨s',b',o',ag,e,_,ax,_,_,_,ae⟩:=hr.flat ai
   cases e
   obtain⟨y,hy,ry⟩:=ae k v hk
   refine⟨y, ?_,ry.mono hle⟩
   simp_all[World.cell?,ya1]
  .rw[B8 om]at hk
   obtain⟨y,hy,ry⟩:=hx.get _ _ hk
   refine⟨y, ?_,ry.mono hle⟩
   have:=yO9 arr (o+n*s) xs ab _ y hy
   grind
theorem Mem.appNew (h:Mem c w L σ β) {s:Nat} {rows:List (List V)} {x0:Value} (hi:σ[i]? =some (.app n s)) (hβ:β[i]? =some x0) (hs:0<s)
  (hu:uni s rows) (hx:All2 (RdP w L) rows.flatten xs) (ae:n<rows.length) (hcap:rows.length<=cap) (af:cap*s<=arr.size) (ag: ∀(k:Nat) x,xs[k]? =some x->arr[k]? =some x):
   Mem c (w.alloc (.cells arr T)) (xC L w.heap.size (rows.length*s)) (σ.set i (.app rows.length s)) (β.set i (.slice (some ⟨w.heap.size,0,none⟩) rows.length cap))/\
   Le w L (w.alloc (.cells arr T)) (xC L w.heap.size (rows.length*s))/\
   Ext σ β (σ.set i (.app rows.length s)) (β.set i (.slice (some ⟨w.heap.size,0,none⟩) rows.length cap))/\
   RdP (w.alloc (.cells arr T)) (xC L w.heap.size (rows.length*s)) (.sl .ro rows) (.slice (some ⟨w.heap.size,0,none⟩) rows.length cap):=by
 obtain⟨h1,hle⟩:=h.alloc (.cells arr T) (rows.length*s)
 have ah: ∀a,x0≠ .pointer a:=by
  intro a e;subst e
  obtain⟨_,_,e,_⟩:=h.objs i _ _ hi hβ
  cases e
 have aa:Ext σ β (σ.set i (.app rows.length s)) (β.set i (.slice (some ⟨w.heap.size,0,none⟩) rows.length cap)):=by
  refine⟨(by grind),(by grind),(by grind),(by grind)⟩
  all_goals grind
 refine⟨?_,hle,aa, ?_⟩
 .refine h1.upd i _ _ (Le.refl _ _) aa (fun k=>k=w.heap.size) (fun j o' x' k hj ab ad hk e=> ?_) (fun k e=>by subst e;exact .inl h.size) sM rfl rfl rfl rfl h1.lim ?_ (fun k hk=> ?_)
  .have:=(h.objs j o' x' ab ad).excl_lt hk;omega
  .refine⟨_,cap,rfl,hcap,hs,fun hl=>⟨_,0,_,T,(0,0),rfl,yJ _ _,fun q _ hq=>om,om,by simp[xC]⟩⟩
  grind[excl]
 .exact .of_row hs hu (by simp[xC]) hcap sM sM (yJ _ _) (by grind) (hx.imp (by grind[RdP.mono]))
theorem Mem.appPush (h:Mem c w L σ β) {s:Nat} {rows:List (List V)} (hs:0<s)
  (hu:uni s rows) (hx:All2 (RdP w L) rows.flatten xs) (hcap:rows.length<=cap) (ad:cap*s<=arr.size) (ae: ∀(k:Nat) x,xs[k]? =some x->arr[k]? =some x):
   Mem c (w.alloc (.cells arr T)) (xC L w.heap.size (rows.length*s)) (σ++ [.app rows.length s]) (β++ [.slice (some ⟨w.heap.size,0,none⟩) rows.length cap])/\
   Le w L (w.alloc (.cells arr T)) (xC L w.heap.size (rows.length*s))/\
   RdP (w.alloc (.cells arr T)) (xC L w.heap.size (rows.length*s)) (.sl .ro rows) (.slice (some ⟨w.heap.size,0,none⟩) rows.length cap):=by
 obtain⟨h1,hle⟩:=h.alloc (.cells arr T) (rows.length*s)
 refine⟨?_,hle, ?_⟩
 .refine h1.push _ _ ⟨_,cap,rfl,hcap,hs,fun hl=>⟨_,0,_,T,(0,0),rfl,yJ _ _,fun q _ hq=>om,om,by simp[xC]⟩⟩ (fun j o' x' k aa ab hk e=> ?_) (fun k hk=> ?_)
  .have:=(h.objs j o' x' aa ab).excl_lt hk
   grind[excl]
  .simp[excl]at hk
   rw[<-hk.2];exact .inl h.size
 .exact .of_row hs hu (by simp[xC]) hcap sM sM (yJ _ _) (by grind) (hx.imp (by grind[RdP.mono]))
theorem Mem.own (h:Mem c w L σ β) {s:Nat} {a:Option Addr} (hs:0<s):Mem c w L (σ++ [.app n s]) (β++ [.slice a n n]):=by
 refine h.push _ _ ⟨a,n,rfl,om,hs,om⟩ (fun j o' x' k _ _ _=> ?_) (fun k hk=> ?_)
 .cases a<;>simp[excl]
 .cases a<;>simp[excl]at hk
theorem yq1 (cells vs:List V) (off i:Nat) (h:off<=cells.length):(putCells cells off vs)[i]? =if off<=i/\i<off+vs.length then vs[i - off]? else cells[i]? :=by
 unfold putCells
 grind
theorem zW8 (cells vs:List V) (off:Nat) (h:off<=cells.length):(putCells cells off vs).length=max cells.length (off+vs.length):=by
 grind[putCells]
theorem Ext.setLst {s:Nat} {rows:List (List V)} {x y:Value} (hi:σ[i]? =some (.lst rows s)) (hl:β.length=σ.length) (hβ:β[i]? =some x) (hx: ∀a,x≠ .pointer a) (ab:rows.length<=rows2.length) (aa:rows2.length=rows.length->y=x):
  Ext σ β (σ.set i (.lst rows2 s)) (β.set i y):=by
 have ad:i<σ.length:=(by grind)
 refine⟨(by grind),(by grind),(by grind),(by grind)⟩
 all_goals grind
theorem Mem.lstPut (h:Mem c w L σ β) {s b off:Nat} {rows:List (List V)} {vs:List V} (hi:σ[i]? =some (.lst rows s)) (hβ:β[i]? =some (.slice (some ⟨b,0,none⟩) n cap)) (hcap:0<cap)
  (hv:All2 (RdC w L σ β) vs xs) (ar:off<=rows.length*s) (ae:uni s rows2) (hr:rows2.flatten=putCells rows.flatten off vs) (ah:rows.length<=rows2.length) (ab:rows2.length<=cap):
  ∃arr T fz,w.heap[b]? =some (.cells arr T fz)/\zs0 arr fz/\off+xs.length<=arr.size/\
   Mem c (yM w b (.cells (xF arr off xs) T fz)) L (σ.set i (.lst rows2 s)) (β.set i (.slice (some ⟨b,0,none⟩) rows2.length cap))/\
   Le w L (yM w b (.cells (xF arr off xs) T fz)) L/\
   Ext σ β (σ.set i (.lst rows2 s)) (β.set i (.slice (some ⟨b,0,none⟩) rows2.length cap)):=by
 obtain⟨a,au,e,ai,hs,hu,hok⟩:=h.objs i _ _ hi hβ
 cases e
 obtain⟨b',arr,T,fz,e,hh,hf,aw,hL,af⟩:=hok hcap
 cases e
 have aj:b<w.heap.size:=(by grind)
 have ax:i<σ.length:=(by grind)
 have ay:=yA hu
 have av:=yA ae
 have az:=hv.length
 have ak:rows2.length*s=max (rows.length*s) (off+vs.length):=by grind[zW8]
 have a1:rows2.length*s<=cap*s:=Ah _ ab
 have ad:off+xs.length<=arr.size:=om
 have hle:Le w L (yM w b (.cells (xF arr off xs) T fz)) L:=by
  refine⟨om,fun k q hq=> ?_⟩
  by_cases e:k=b
  .grind
  .exact zd7 (zd4 w b k _ e) q
 have aa:Ext σ β (σ.set i (.lst rows2 s)) (β.set i (.slice (some ⟨b,0,none⟩) rows2.length cap)):=
  Ext.setLst hi h.len hβ sM ah sM
 refine⟨arr,T,fz,hh,hf.1,ad, ?_,hle,aa⟩
 refine h.upd i _ _ hle aa (fun k=>k=b) (fun j o' x' k hj al an hk e=>by subst e;exact h.apart j i o' _ x' _ k hj al an hi hβ hk (by simp[excl,hcap]))
   (fun k e=>by subst e;exact h.mine i _ _ k hi hβ (by simp[excl,hcap])) (fun k hk=>⟨zd4 w b k _ hk,rfl⟩) (by simp[yM]) rfl rfl rfl h.lim ?_ (fun k hk=> ?_)
 .refine⟨_,cap,rfl,ab,hs,ae,fun _=>⟨b,_,T,fz,rfl,xT _ _ _ aj,hf.size (by rw[xG]),by rw[xG];omega,hL, ?_⟩⟩
  refine All2.of ?_ fun k p y hp hy=> ?_
  .have a6:(xF arr off xs).toList.length=arr.size:=by simp[xG]
   grind
  .have ao:k<rows2.length*s:=by grind
   rw[Aw,if_pos ao,Aq,zg1 _ _ _ _ ad]at hy
   rw[hr,yq1 _ _ _ _ om]at hp
   by_cases ag:off<=k/\k<off+vs.length
   .rw[if_pos ag]at hp
    rw[if_pos om]at hy
    obtain⟨z,hz,r⟩:=hv.get _ _ hp
    rw[hy]at hz;cases hz
    exact r.mono hle aa
   .rw[if_neg ag]at hp
    rw[if_neg om]at hy
    obtain⟨z,hz,r⟩:=af.get _ _ hp
    have aq:k<rows.length*s:=om
    rw[Aw,if_pos aq,Aq,hy]at hz;cases hz
    exact r.mono hle aa
 .simp[excl,hcap]at hk;omega
theorem zF1 (h:Mem c w L σ β):xC L w.heap.size 0=L:=by
 funext k
 by_cases hk:k=w.heap.size
 .subst hk;simp[xC,h.lim _ (A4 _)]
 grind[xC]
theorem Mem.lstPush (h:Mem c w L σ β) {s:Nat} {rows:List (List V)} (hs:0<s)
  (hu:uni s rows) (hx:All2 (RdC w L σ β) rows.flatten (arr.toList.take (rows.length*s))) (hcap:rows.length<=cap) (ab:cap*s<=arr.size):
   Mem c (w.alloc (.cells arr T)) L (σ++ [.lst rows s]) (β++ [.slice (some ⟨w.heap.size,0,none⟩) rows.length cap])/\
   Le w L (w.alloc (.cells arr T)) L/\Ext σ β (σ++ [.lst rows s]) (β++ [.slice (some ⟨w.heap.size,0,none⟩) rows.length cap]):=by
 have h1:=h.alloc (.cells arr T) 0
 rw[zF1 h]at h1
 have aa:=Ext.push σ β h.len (.lst rows s) (.slice (some ⟨w.heap.size,0,none⟩) rows.length cap)
 refine⟨h1.1.push _ _ ⟨_,cap,rfl,hcap,hs,hu,fun _=>⟨_,arr,T,(0,0),rfl,yJ _ _,ya7 _ _,ab,h.lim _ om,hx.imp (by grind[RdC.mono])⟩⟩ (fun j o' x' k ad ae hk e=> ?_) (fun k hk=> ?_),h1.2,aa⟩
 .have:=(h.objs j o' x' ad ae).excl_lt hk
  grind[excl]
 .simp[excl]at hk
  rw[<-hk.2];exact .inl h.size
theorem Mem.lstPushF (h:Mem c w L σ β) {s:Nat} {rows:List (List V)} {fz:Nat×Nat} (ab:unfrozenL s arr fz) (hs:0<s)
  (hu:uni s rows) (hx:All2 (RdC w L σ β) rows.flatten (arr.toList.take (rows.length*s))) (hcap:rows.length<=cap) (ad:cap*s<=arr.size):
   Mem c (w.alloc (.cells arr T fz)) L (σ++ [.lst rows s]) (β++ [.slice (some ⟨w.heap.size,0,none⟩) rows.length cap])/\
   Le w L (w.alloc (.cells arr T fz)) L/\Ext σ β (σ++ [.lst rows s]) (β++ [.slice (some ⟨w.heap.size,0,none⟩) rows.length cap]):=by
 have h1:=h.alloc (.cells arr T fz) 0
 rw[zF1 h]at h1
 have aa:=Ext.push σ β h.len (.lst rows s) (.slice (some ⟨w.heap.size,0,none⟩) rows.length cap)
 refine⟨h1.1.push _ _ ⟨_,cap,rfl,hcap,hs,hu,fun _=>⟨_,arr,T,fz,rfl,yJ _ _,ab,ad,h.lim _ om,hx.imp (by grind[RdC.mono])⟩⟩ (fun j o' x' k ae af hk e=> ?_) (fun k hk=> ?_),h1.2,aa⟩
 .have:=(h.objs j o' x' ae af).excl_lt hk
  grind[excl]
 .simp[excl]at hk
  rw[<-hk.2];exact .inl h.size
theorem Mem.lstNil (h:Mem c w L σ β) {s:Nat} {a:Option Addr} (hs:0<s):Mem c w L (σ++ [.lst [] s]) (β++ [.slice a 0 0]):=by
 refine h.push _ _ ⟨a,0,rfl,sM,hs,sM,om⟩ (fun j o' x' k _ _ _=> ?_) (fun k hk=> ?_)
 .cases a<;>simp[excl]
 .cases a<;>simp[excl]at hk
theorem Mem.lstRe (h:Mem c w L σ β) {s:Nat} {rows:List (List V)} {x0:Value} (hi:σ[i]? =some (.lst rows s)) (hβ:β[i]? =some x0) (hs:0<s)
  (hu:uni s rows2) (hx:All2 (RdC w L σ β) rows2.flatten (arr.toList.take (rows2.length*s))) (af:rows.length<rows2.length) (hcap:rows2.length<=cap) (ab:cap*s<=arr.size):
   Mem c (w.alloc (.cells arr T)) L (σ.set i (.lst rows2 s)) (β.set i (.slice (some ⟨w.heap.size,0,none⟩) rows2.length cap))/\
   Le w L (w.alloc (.cells arr T)) L/\
   Ext σ β (σ.set i (.lst rows2 s)) (β.set i (.slice (some ⟨w.heap.size,0,none⟩) rows2.length cap)):=by
 obtain⟨h1,hle⟩:=h.alloc (.cells arr T) 0
 rw[zF1 h]at h1 hle
 have aa:Ext σ β (σ.set i (.lst rows2 s)) (β.set i (.slice (some ⟨w.heap.size,0,none⟩) rows2.length cap)):=
  Ext.setLst hi h.len hβ (fun a e=>by
   subst e
   obtain⟨_,_,e,_⟩:=h.objs i _ _ hi hβ
   cases e) om om
 refine⟨?_,hle,aa⟩
 refine h1.upd i _ _ (Le.refl _ _) aa (fun k=>k=w.heap.size) (fun j o' x' k hj ad ae hk e=> ?_) (fun k e=>by subst e;exact .inl h.size) sM rfl rfl rfl rfl h1.lim ?_ (fun k hk=> ?_)
 .have:=(h.objs j o' x' ad ae).excl_lt hk;omega
 .exact⟨_,cap,rfl,hcap,hs,hu,fun _=>⟨_,arr,T,(0,0),rfl,yJ _ _,ya7 _ _,ab,h.lim _ om,hx.imp (by grind[RdC.mono])⟩⟩
 grind[excl]
end
structure Sim (c:Ctx) (nt:Nat) (e:Env) (σ:St) (a:Act) (w:World) (L:Nat->Nat) (β:List Value):Prop where
 mem:Mem c w L σ β
 size:a.tmps.size=nt
 defs:a.defers= []
 env: ∀t,RdS w L σ β (e t) (a.tmps.getD t undef)
variable {w:World}{L:Nat->Nat}
def zc5:Value->V
 | .bool b=> .bool b
 | .int k n=> .int k n
 | .string s=> .str s.data.toList
 | .pointer none=> .nilp
 | .slice none 0 0=> .sl .full []
 | .agg _=> .u
 | .tuple _=> .u
 |v=> .raw v
def xT9 (g:Nat):V:=match tabs.find? (fun p=>p.1==g)with
 |some p=> .elp p.2 0
 |none=> .u
def zD (e:Env):Operand->V
 | .tmp t=>e t
 | .const v=>zc5 v
 | .func f=> .fn f []
 | .global g=>xT9 g
def zI4:V->Bool
 | .u| .agg _| .tup _=>false
 |_=>true
theorem xB2 {σ:St} {β:List Value} (v:Value):RdS w L σ β (zc5 v) v:=by
 unfold zc5
 split
 .exact RdP.bool _
 .exact RdP.int _ _
 .rename_i s
  have:RdP w L (.str s.data.toList) (.string ⟨s.data.toList.toArray⟩):= .str _
  simpa
 .exact RdP.nilp
 .exact RdP.sl0 _ _ _ om sM
 .trivial
 .trivial
 .rename_i h1 h2 h3 h4 h5 h6 h7
  refine RdP.raw v ?_
  cases v<;>first|rfl|exact(by grind)|exact(by grind)
theorem zw4 (v:Value) (h1:v.oneCell'=true):RdP w L (zc5 v) v/\zI4 (zc5 v)=true:=by
 unfold zc5
 split
 .exact⟨RdP.bool _,rfl⟩
 .exact⟨RdP.int _ _,rfl⟩
 .rename_i s
  have:RdP w L (.str s.data.toList) (.string ⟨s.data.toList.toArray⟩):= .str _
  trivial
 .exact⟨RdP.nilp,rfl⟩
 .exact⟨RdP.sl0 _ _ _ om sM,rfl⟩
 .trivial
 .trivial
 .exact⟨RdP.raw _ h1,rfl⟩
theorem Sim.eval {c:Ctx} {nt:Nat} {e:Env} {σ:St} {a:Act} {β:List Value} (h:Sim c nt e σ a w L β) (x:Operand):RdS w L σ β (zD e x) (a.eval x):=by
 cases x with
 |tmp t=>exact h.env t
 |const v=>exact xB2 v
 |func f=>exact⟨[],rfl,tV⟩
 |global g=>
  trivial
inductive R where
 |fail
 |ok (v:V)
 |need (p:Prop) (v:V)
 |st (v:V) (σ:St)
 |needst (p:Prop) (v:V) (σ:St)
 |all (f:Bool->V)
 |any (l:List (V×St))
section tables
variable (P:Program)
def szT (t:TypeId):Option Nat:=(P.info? t).map (·.size)
def yT7:TypeDesc->Bool
 | .struct _| .array _ _=>true
 |_=>false
def aggT (t:TypeId):Option Bool:=(P.underlying t).map yT7
def fldT (t:TypeId) (f:Nat):Option (Nat×Nat×Bool):=
 match P.underlying t with
 |some (.struct fs)=>(fs[f]?).bind fun f=>(szT P f.type).bind fun s=>(aggT P f.type).bind fun b=>if s=0 then none else some (f.offset,s,b)
 |_=>none
def slcT (t:TypeId):Option Nat:=
 match P.underlying t with
 |some (.slice e)=>szT P e
 |_=>none
def arrT (t:TypeId):Option (Nat×Nat×Bool):=
 match P.underlying t with
 |some (.array n e)=>(szT P e).bind fun s=>(aggT P e).map fun b=>(n,s,b)
 |_=>none
def zb0 (t:TypeId):Option (List V):=(P.info? t).bind fun i=>(i.zero).bind fun z=>if z.cells.all (·.oneCell')=true then some (z.cells.toList.map zc5)else none
def elT (t:TypeId):Option (Nat×Nat):=
 match P.underlying t with
 |some (.slice e)=>(P.info? e).bind fun i=>i.zero.bind fun z=>if z.cells.size=i.size/\0<i.size/\0<i.bytes then some (i.size,i.bytes)else none
 |_=>none
inductive Kd where
 |int (k:IntKind)|str|bytes|other
 deriving DecidableEq
def kdT (t:TypeId):Option Kd:=
 match P.underlying t with
 |some (.int k)=>some (.int k)
 |some .string=>some .str
 |some (.slice e)=>(match P.underlying e with|some (.int .u8)=>some .bytes|_=>some .other)
 |some _=>some .other
 |none=>none
end tables
def zC2:V->Bool
 | .bool _| .int _ _| .str _| .raw _| .nilp| .sl _ _=>true
 |_=>false
def dem:V->V
 | .sl _ rows=> .sl .ro rows
 |v=>v
def xE:V->List V
 | .agg cs=>cs
 |v=> [v]
theorem RdP.weak {w:World} {L:Nat->Nat} {g:Tag} {rows:List (List V)} {x:Value} (r:RdP w L (.sl g rows) x):RdP w L (.sl .ro rows) x:=by
 cases r with
 |sl0 _ a cap hg ha=>exact .sl0 _ a cap sM sM
 |sl _ _ s b o cap c ha hs hlen hlim hcap hg hc hr=>exact .sl _ rows s b o cap c sM hs hlen hlim hcap sM hc hr
theorem RdC.dem {w:World} {L:Nat->Nat} {σ:St} {β:List Value} {v:V} {x:Value} (r:RdC w L σ β v x) (h:zC2 v=true):RdP w L (dem v) x:=by
 cases v with
 |sl g rows=>cases g with
  |ro=>exact r
  |full=>exact RdP.weak r
  |app id=>exact r.1
 |u=>trivial
 |ptr _ _=>trivial
 |elp _ _=>trivial
 |lsv _ _ _ _ _=>trivial
 |lsp _ _ _ _ _=>trivial
 |bsv _ _ _ _=>trivial
 |mp _=>trivial
 |fn _ _=>trivial
 |ifc _ _=>trivial
 |agg _=>trivial
 |tup _=>trivial
 |bool b=>exact r
 |int k n=>exact r
 |str s=>exact r
 |raw v=>exact r
 |nilp=>exact r
section inv
variable {w:World} {L:Nat->Nat} {σ:St} {β:List Value}
variable {x:Value}
theorem zd3 {b:Bool} (r:RdS w L σ β (.bool b) x):x= .bool b:=by
 cases r;rfl
theorem yK {k:IntKind} {n:Int} (r:RdS w L σ β (.int k n) x):x= .int k n:=by
 cases r;rfl
theorem za3 {s:List UInt8} (r:RdS w L σ β (.str s) x):x= .string ⟨s.toArray⟩:=by
 cases r;rfl
theorem yl5 (r:RdS w L σ β .nilp x):x= .pointer none:=by
 cases r;rfl
theorem zw9 {g:Tag} {rows:List (List V)} (r:RdS w L σ β (.sl g rows) x):RdP w L (.sl .ro rows) x:=by
 cases g with
 |ro=>exact r
 |full=>exact RdP.weak r
 |app id=>exact r.1
theorem xD6 {v:V} (r:RdS w L σ β v x) (h:zI4 v=true):RdC w L σ β v x:=by
 cases v<;>first|exact r|simp[zI4]at h
theorem zA8 (h:x.oneCell'=true):x.cells= #[x]:=by
 cases x<;>first|rfl|simp[Value.oneCell']at h
def za6:V->Bool
 | .u| .tup _=>false
 |_=>true
theorem zp5 {v:V} (r:RdS w L σ β v x) (h:za6 v=true):All2 (RdC w L σ β) (xE v) x.cells.toList:=by
 by_cases hc:zI4 v=true
 .have r':=xD6 r hc
  rw[zA8 r'.oneCell]
  have:xE v= [v]:=by cases v<;>first|rfl|simp[zI4]at hc
  rw[this]
  trivial
 .cases v with
  |agg cs=>obtain⟨xs,rfl,h⟩:=r;exact h
  |u=>trivial
  |tup vs=>trivial
  |_=>simp[zI4]at hc
end inv
inductive Pk where
 |b
 |i (k:IntKind)
 |s
 deriving DecidableEq
def zA9 (P:Program) (sh:TypeId->Option (List Pk)):Nat->List Field->Option (List Pk)
 |_,[]=>some []
 |off,f::fs=>if f.name≠ "_" /\f.offset=off then(sh f.type).bind fun ks=>if szT P f.type=some ks.length then(zA9 P sh (off+ks.length) fs).map (ks++ ·)else none else none
def zt7 (P:Program):Nat->TypeId->Option (List Pk)
 |0,_=>none
 |d+1,t=>
  match P.underlying t,aggT P t with
  |some .bool,some false=>some [.b]
  |some (.int k),some false=>some [.i k]
  |some .string,some false=>some [.s]
  |some (.struct fs),some true=>if P.stoodInHeld t=false then zA9 P (zt7 P d) 0 fs.toList else none
  |_,_=>none
def eqPk:Pk->V->V->Option Bool
 | .b,.bool x,.bool y=>some (x==y)
 | .i k,.int k1 x,.int k2 y=>if k1=k/\k2=k then some (x==y)else none
 | .s,.str x,.str y=>some (x==y)
 |_,_,_=>none
def eqVs:List Pk->List V->List V->Option Bool
 | [],[],[]=>some true
 |k::ks,a::az,b::bs=>(eqPk k a b).bind fun r=>(eqVs ks az bs).map (r&& ·)
 |_,_,_=>none
def eqPx:Pk->Value->Value->Option Bool
 | .b,.bool x,.bool y=>some (x==y)
 | .i k,.int k1 x,.int k2 y=>if k1=k/\k2=k then some (x==y)else none
 | .s,.string x,.string y=>some (x==y)
 |_,_,_=>none
def eqXs:List Pk->List Value->List Value->Option Bool
 | [],[],[]=>some true
 |k::ks,a::az,b::bs=>(eqPx k a b).bind fun r=>(eqXs ks az bs).map (r&& ·)
 |_,_,_=>none
def eqS (P:Program) (t:TypeId):Option (List Pk):=match P.underlying t with|some (.struct _)=>if P.eqGuardType P.depth t=false then zt7 P 10 t else none|_=>none
section
variable {P:Program} {c:Ctx} {w:World} {L:Nat->Nat} {σ:St} {β:List Value}
variable {t:TypeId}{x:Value}{y:Value}{r:Bool}
theorem xF7 {s:Nat} (h:szT P t=some s): ∃i,P.info? t=some i/\i.size=s:=by
 unfold szT at h
 simp_all
theorem wZ {s:Nat} (h:szT P t=some s) (w:World):(sizeOf t).run P w= .ok s w:=by
 obtain⟨i,hi,rfl⟩:=xF7 h
 simp_all[sizeOf,typeInfo]
theorem zl1 {b:Bool} (h:aggT P t=some b) (w:World):(isAgg t).run P w= .ok b w:=by
 unfold aggT at h
 cases hu:P.underlying t with
 |none=>grind
 |some d=>
  simp[hu]at h
  subst h
  simp only[isAgg,Sem.run_bind,run_underlying hu,Result.andThen_ok,yT7]
  cases d<;>rfl
theorem yf4: ∀(ks:List Pk) (az bs:List Value) (r:Bool),eqXs ks az bs=some r->az.length=ks.length/\bs.length=ks.length
 | [],[],[],_,_=>om
 |k::ks,a::az,b::bs,r,h=>by
  unfold eqXs at h
  cases h1:eqPx k a b with
  |none=>rw[h1]at h;cases h
  |some r1=>
   rw[h1]at h
   simp only[Ar,Ao]at h
   obtain⟨r2,h2,_⟩:=h
   have:=yf4 ks az bs r2 h2
   simp[this.1,this.2]
 | [],[],_::_,_,h=>by cases h
 | [],_::_,_,_,h=>by cases h
 |_::_,[],_,_,h=>by cases h
 |_::_,_::_,[],_,h=>by cases h
theorem zZ0: ∀(ks aa:List Pk) (az bs:List Value) (r:Bool),eqXs (ks++aa) az bs=some r->
  ∃r1 r2,eqXs ks (az.take ks.length) (bs.take ks.length)=some r1/\eqXs aa (az.drop ks.length) (bs.drop ks.length)=some r2/\r=(r1&&r2)
 | [],aa,az,bs,r,h=>(by grind[eqXs])
 |k::ks,aa,a::az,b::bs,r,h=>by
  rw[Ax]at h
  unfold eqXs at h
  cases h1:eqPx k a b with
  |none=>grind
  |some r0=>
   rw[h1]at h
   simp only[Ar,Ao]at h
   obtain⟨r',h2,rfl⟩:=h
   obtain⟨r1,r2,h3,h4,rfl⟩:=zZ0 ks aa az bs r' h2
   refine⟨r0&&r1,r2, ?_,by grind,by grind⟩
   grind[eqXs]
 |_::_,_,[],_,_,h=>by cases h
 |_::_,_,_::_,[],_,h=>by cases h
theorem zV3: ∀(ks:List Pk) (vs ws:List V) (xs ys:List Value) (r:Bool),All2 (RdC w L σ β) vs xs->All2 (RdC w L σ β) ws ys->eqVs ks vs ws=some r->eqXs ks xs ys=some r
 | [],[],[],[],[],r,_,_,h=>h
 |k::ks,v::vs,v2::us,x::xs,y::ys,r,h1,h2,h=>by
  unfold eqVs at h
  cases hk:eqPk k v v2 with
  |none=>grind
  |some r0=>
   rw[hk]at h
   simp only[Ar,Ao]at h
   obtain⟨r',h3,rfl⟩:=h
   have ih:=zV3 ks vs us xs ys r' h1.2 h2.2 h3
   have hp:eqPx k x y=some r0:=by
    have hx:=h1.1;have hy:=h2.1
    unfold eqPk at hk
    split at hk
    .cases hx;cases hy;exact hk
    .cases hx;cases hy;exact hk
    .cases hx;cases hy
     rename_i a b
     rw[<-hk]
     simp only[eqPx,Option.some.injEq]
     show(a.toArray==b.toArray)=(a==b)
     simp
    grind
   grind[eqXs]
 | [],[],[],[],_::_,_,_,h2,_=>h2.elim
 | [],[],[],_::_,_,_,h1,_,_=>h1.elim
 | [],[],_::_,_,_,_,_,_,h=>by cases h
 | [],_::_,_,_,_,_,_,_,h=>by cases h
 |_::_,[],_,_,_,_,_,_,h=>by cases h
 |_::_,_::_,[],_,_,_,_,_,h=>by cases h
 |_::_,_::_,_::_,[],_,_,h1,_,_=>h1.elim
 |_::_,_::_,_::_,_::_,[],_,_,h2,_=>h2.elim
def zv5 (P:Program) (t:TypeId) (x:Value):Prop:=if aggT P t=some true then∃xs,x= .agg xs else x.oneCell'=true
theorem yv4 {ks:List Pk} {b:Bool} (hs:szT P t=some ks.length) (ha:aggT P t=some b) (h1:b=false->ks.length=1) (cs:Array Value) (off:Nat) (hl:off+ks.length<=cs.size) (aa: ∀x∈cs.toList,x.oneCell'=true):
  ∃x,(part t cs off).run P w= .ok x w/\zv5 P t x/\x.cells.toList=(cs.toList.drop off).take ks.length:=by
 cases b with
 |true=>
  refine⟨.agg (cs.extract off (off+ks.length)), ?_, ?_, ?_⟩
  .simp_all[part,zl1,wZ]
  .unfold zv5;grind
  grind[Value.cells,Array.toList_extract]
 |false=>
  have hk:=h1 rfl
  have ab:off<cs.size:=om
  simp_all[part,zl1,zv5,zA8,A5]
theorem yH7 {d:Nat} {ks:List Pk} (h:zt7 P d t=some ks): ∃b,aggT P t=some b/\(b=false->ks.length=1):=by
 cases d with
 |zero=>cases h
 |succ d=>
  unfold zt7 at h
  grind
theorem xX2 (h:eqPx .b x y=some r): ∃a b,x= .bool a/\y= .bool b/\r=(a==b):=by
 cases x<;>first|(simp[eqPx]at h;done)|skip
 cases y<;>first|(simp[eqPx]at h;done)|skip
 simp[eqPx]at h
 grind
theorem xX3 {k:IntKind} (h:eqPx (.i k) x y=some r): ∃a b,x= .int k a/\y= .int k b/\r=(a==b):=by
 cases x<;>first|(simp[eqPx]at h;done)|skip
 cases y<;>first|(simp[eqPx]at h;done)|skip
 simp[eqPx]at h
 simp_all
theorem xX4 (h:eqPx .s x y=some r): ∃a b,x= .string a/\y= .string b/\r=(a==b):=by
 cases x<;>first|(simp[eqPx]at h;done)|skip
 cases y<;>first|(simp[eqPx]at h;done)|skip
 simp only[eqPx,Option.some.injEq]at h
 grind
theorem zJ0: ∀(d:Nat) (t:TypeId) (ks:List Pk),zt7 P d t=some ks-> ∀(D:Nat),d<=D-> ∀(x y:Value) (r:Bool),zv5 P t x->zv5 P t y->(∀z∈x.cells.toList,z.oneCell'=true)->(∀z∈y.cells.toList,z.oneCell'=true)->
  eqXs ks x.cells.toList y.cells.toList=some r-> ∀w,(Op.equalIn D t x y).run P w= .ok r w
 |0,_,_,h=>by cases h
 |d+1,t,ks,h=>by
  intro D hD x y r hx hy ab ae he w
  obtain⟨D,rfl⟩: ∃D',D=D'+1:=(by simp;omega)
  have aa: ∀k,ks= [k]->aggT P t=some false-> ∃r',eqPx k x y=some r'/\r=r':=by
   intro k hk ha
   unfold zv5 at hx hy
   rw[if_neg (by rw[ha];simp)]at hx hy
   rw[zA8 hx,zA8 hy,hk]at he
   simp only[eqXs]at he
   simp_all
  unfold zt7 at h
  split at h
  .rename_i hu ha
   simp at h
   obtain⟨r',hp,rfl⟩:=aa .b h.symm ha
   obtain⟨m,n,rfl,rfl,rfl⟩:=xX2 hp
   simp[Op.equalIn,run_underlying hu]
  .rename_i k hu ha
   simp at h
   obtain⟨r',hp,rfl⟩:=aa (.i k) h.symm ha
   obtain⟨m,n,rfl,rfl,rfl⟩:=xX3 hp
   simp[Op.equalIn,run_underlying hu]
  .rename_i hu ha
   simp at h
   obtain⟨r',hp,rfl⟩:=aa .s h.symm ha
   obtain⟨m,n,rfl,rfl,rfl⟩:=xX4 hp
   simp[Op.equalIn,run_underlying hu]
  .rename_i fs hu ha
   split at h
   .rename_i ah
    unfold zv5 at hx hy
    rw[if_pos ha]at hx hy
    obtain⟨xs,rfl⟩:=hx
    obtain⟨ys,rfl⟩:=hy
    have af:P.fieldsOf t=fs:=by grind[Program.fieldsOf]
    rw[run_equalIn_struct (P:=P) (w:=w) D t xs ys (by rw[af];exact hu) ah,af]
    simp only[Value.cells]at he ab ae
    have key: ∀(l:List Field) (off:Nat) (ks:List Pk) (r:Bool),zA9 P (zt7 P d) off l=some ks->eqXs ks (xs.toList.drop off) (ys.toList.drop off)=some r->(Op.eqFields D xs ys l).run P w= .ok r w:=by
     intro l
     induction l with
     |nil=>
      intro off ks r hk hr
      simp[zA9]at hk
      subst hk
      have:=yf4 _ _ _ _ hr
      have h1:xs.toList.drop off= []:=(by grind)
      have h2:ys.toList.drop off= []:=(by grind)
      simp_all[eqXs,Op.eqFields]
     |cons f l ih=>
      intro off ks r hk hr
      unfold zA9 at hk
      split at hk
      .rename_i hf
       cases ad:zt7 P d f.type with
       |none=>grind
       |some k1=>
        rw[ad]at hk
        simp only[Ar]at hk
        split at hk
        .rename_i ai
         simp only[Ao]at hk
         obtain⟨k2,aj,rfl⟩:=hk
         have hlen:=yf4 _ _ _ _ hr
         simp only[Cq,Ak,Cl]at hlen
         obtain⟨r1,r2,h1,h2,rfl⟩:=zZ0 k1 k2 _ _ _ hr
         obtain⟨b,ak,al⟩:=yH7 ad
         have ao:0<k1.length∨k1.length=0:=om
         have an:off+k1.length<=xs.size/\off+k1.length<=ys.size∨k1.length=0/\b=true:=by
          grind
         have parts: ∃a b',(part f.type xs off).run P w= .ok a w/\(part f.type ys off).run P w= .ok b' w/\zv5 P f.type a/\zv5 P f.type b'/\a.cells.toList=(xs.toList.drop off).take k1.length/\b'.cells.toList=(ys.toList.drop off).take k1.length:=by
          rcases an with ⟨q1,q2⟩|⟨q,rfl⟩
          .obtain⟨a,p1,p2,p3⟩:=yv4 (w:=w) ai ak al xs off q1 ab
           simp_all[yv4]
          .refine⟨.agg (xs.extract off (off+k1.length)),.agg (ys.extract off (off+k1.length)), ?_, ?_, ?_, ?_, ?_, ?_⟩
           .simp_all[part,zl1,wZ]
           .simp_all[part,zl1,wZ]
           .unfold zv5;grind
           .unfold zv5;grind
           all_goals grind[Value.cells,Array.toList_extract]
         obtain⟨a,b',p1,p2,f1,f2,c1,c2⟩:=parts
         have ag:=zJ0 d f.type k1 ad D om a b' r1 f1 f2 (by rw[c1];exact fun z hz=>ab z (List.mem_of_mem_drop (Cu hz))) (by rw[c2];exact fun z hz=>ae z (List.mem_of_mem_drop (Cu hz))) (by rw[c1,c2];exact h1) w
         have aq:=ih (off+k1.length) k2 r2 aj (by simpa[Dg]using h2)
         simp only[Op.eqFields,hf.1,ne_eq,not_false_eq_true,if_true,Sem.run_bind,hf.2,p1,p2,ag,Result.andThen_ok]
         cases r1
         all_goals simp_all
        grind
      grind
    grind
   grind
  grind
end
def Yield (P:Program) (c:Ctx) (o:Oper) (a:Act) (w:World) (L:Nat->Nat) (σ:St) (β:List Value) (v:V) (σ':St):Prop:=
 ∃x w' L' β',((execOp a.eval o).run P w= .ok (.value x) w'∨((execOp a.eval o).run P w= .ok .skip w'/\x=undef))/\Mem c w' L' σ' β'/\Le w L w' L'/\Ext σ β σ' β'/\RdS w' L' σ' β' v x
def ROk (r:R) (σ:St) (Y:V->St->Prop):Prop:=
 match r with
 | .fail=>True
 | .ok v=>Y v σ
 | .need p v=>p->Y v σ
 | .st v σ'=>Y v σ'
 | .needst p v σ'=>p->Y v σ'
 | .all f=> ∃b,Y (f b) σ
 | .any l=> ∃p∈l,Y p.1 p.2
section
variable {P:Program} {c:Ctx} {nt:Nat} {e:Env} {σ:St} {a:Act} {w:World} {L:Nat->Nat} {β:List Value} {o:Oper}
variable {dst:Option Tmp}{ty:TypeId}{aft:Array Edge}{g:Option (Nat×Bool)}{t:TypeId}{el:TypeId}
theorem Yield.pure (h:Sim c nt e σ a w L β) {v:V} {x:Value} (hr:(execOp a.eval o).run P w= .ok (.value x) w) (r:RdS w L σ β v x):Yield P c o a w L σ β v σ:=
 ⟨x,w,L,β,.inl hr,h.mem,Le.refl _ _,Ext.refl _ _,r⟩
def zH7 (b x y:V):R:=
 match b with
 | .bool t=> .ok (if t then x else y)
 |_=> .fail
theorem xO7 {pos:String} (x y z:Operand) (h:Sim c nt e σ a w L β):
  ROk (zH7 (zD e x) (zD e y) (zD e z)) σ (Yield P c ⟨dst,.pick x y z,ty,pos,aft,g⟩ a w L σ β):=by
 have hx:=h.eval x
 unfold zH7
 split
 .rename_i b hb
  rw[hb]at hx
  have:=zd3 hx
  refine Yield.pure h (x:=if b then a.eval y else a.eval z) (by simp_all[execOp,asBool]) ?_
  cases b
  .exact h.eval z
  .exact h.eval y
 trivial
theorem xO6 {pos:String} (x:Operand) (h:Sim c nt e σ a w L β):
  ROk (.ok (zD e x)) σ (Yield P c ⟨dst,.move x,ty,pos,aft,g⟩ a w L σ β):=
 Yield.pure h (by rfl) (h.eval x)
theorem xo2 {pos:String} (x:Operand) (h:Sim c nt e σ a w L β):
  ROk (.ok (zD e x)) σ (Yield P c ⟨dst,.assign x,ty,pos,aft,g⟩ a w L σ β):=
 Yield.pure h (by rfl) (h.eval x)
def zZ4 (x:V):R:=
 match x with
 | .ptr id off=> .ok (.ptr id off)
 | .elp cs off=> .ok (.elp cs off)
 | .lsp id s n k j=> .ok (.lsp id s n k j)
 | .fn f caps=> .ok (.fn f caps)
 |_=> .fail
theorem yM3 {pos:String} (x:Operand) (h:Sim c nt e σ a w L β):
  ROk (zZ4 (zD e x)) σ (Yield P c ⟨dst,.nilCheck x,ty,pos,aft,g⟩ a w L σ β):=by
 have hx:=h.eval x
 unfold zZ4
 split
 .rename_i id off hb
  rw[hb]at hx
  obtain⟨b,_,hv⟩:=hx
  exact Yield.pure h (x:=a.eval x) (by simp_all[execOp]) (hb▸h.eval x)
 .rename_i cs off hb
  rw[hb]at hx
  obtain⟨b,o,_,hv,_⟩:=hx
  exact Yield.pure h (x:=a.eval x) (by simp_all[execOp]) (hb▸h.eval x)
 .rename_i id s n k j hb
  rw[hb]at hx
  obtain⟨b,o,hv,_⟩:=hx
  exact Yield.pure h (x:=a.eval x) (by simp_all[execOp]) (hb▸h.eval x)
 .rename_i f caps hb
  rw[hb]at hx
  obtain⟨xs,hv,_⟩:=hx
  exact Yield.pure h (x:=a.eval x) (by simp_all[execOp]) (hb▸h.eval x)
 trivial
def zf2 (op:BinOp) (k:IntKind) (x y:Int):Int:=
 match op with
 | .and=>k.wrap (BitVec.ofInt k.bits x&&&BitVec.ofInt k.bits y).toNat
 | .or=>k.wrap (BitVec.ofInt k.bits x|||BitVec.ofInt k.bits y).toNat
 | .xor=>k.wrap (BitVec.ofInt k.bits x^^^BitVec.ofInt k.bits y).toNat
 |_=>k.wrap (BitVec.ofInt k.bits x&&& ~~~BitVec.ofInt k.bits y).toNat
def zO5 (op:BinOp) (k:IntKind) (x y:Int):R:=
 match op with
 | .add=> .ok (.int k (k.wrap (x+y)))
 | .sub=> .ok (.int k (k.wrap (x - y)))
 | .mul=> .ok (.int k (k.wrap (x*y)))
 | .quo=> .need (y≠0) (.int k (k.wrap (x.tdiv y)))
 | .rem=> .need (y≠0) (.int k (x.tmod y))
 | .and=> .ok (.int k (zf2 .and k x y))
 | .or=> .ok (.int k (zf2 .or k x y))
 | .xor=> .ok (.int k (zf2 .xor k x y))
 | .andNot=> .ok (.int k (zf2 .andNot k x y))
 | .eql=> .ok (.bool (x==y))
 | .neq=> .ok (.bool (x !=y))
 | .lss=> .ok (.bool (decide (x<y)))
 | .leq=> .ok (.bool (decide (x<=y)))
 | .gtr=> .ok (.bool (decide (x>y)))
 | .geq=> .ok (.bool (decide (x≥y)))
 | .shl=> .need (0<=y) (.int k (k.wrap (x*2^(min y.toNat k.bits))))
 | .shr=> .need (0<=y) (.int k (x.fdiv (2^(min y.toNat k.bits))))
def zP8 (op:BinOp) (x y:List UInt8):R:=
 match op with
 | .add=> .need (x.length+y.length<=9223372036854775807) (.str (x++y))
 | .eql=> .ok (.bool (x==y))
 | .neq=> .ok (.bool (!(x==y)))
 | .lss=> .ok (.bool (Op.bytesLess x y))
 | .leq=> .ok (.bool (Op.bytesLess x y||x==y))
 | .gtr=> .ok (.bool (!(Op.bytesLess x y||x==y)))
 | .geq=> .ok (.bool (!(Op.bytesLess x y)))
 |_=> .fail
def eqK (P:Program) (t:TypeId):Nat:=
 match P.underlying t with
 |some .bool=>1
 |some (.pointer _)=>2
 |some (.slice _)=>3
 |_=>0
def yL7 (op:BinOp) (n:Nat):R:=
 match op with
 | .eql=>if 0<n then .ok (.bool false)else .all .bool
 | .neq=>if 0<n then .ok (.bool true)else .all fun b=> .bool (!b)
 |_=> .fail
def lenV:V->Option Nat
 | .sl _ rows=>some rows.length
 | .lsv _ _ _ _ m=>some m
 |_=>none
def zt0 (op:BinOp) (ek:Nat) (es:Option (List Pk)) (x y:V):R:=
 match x,y with
 | .int k a,.int k' b=>if k=k' then zO5 op k a b else(match op with| .shl=> .need (0<=b) (.int k (k.wrap (a*2^(min b.toNat k.bits))))| .shr=> .need (0<=b) (.int k (a.fdiv (2^(min b.toNat k.bits))))|_=> .fail)
 | .str a,.str b=>zP8 op a b
 | .bool a,.bool b=>if ek=1 then(match op with| .eql=> .ok (.bool (a==b))| .neq=> .ok (.bool (!(a==b)))|_=> .fail)else .fail
 | .ptr _ _,.nilp=>if ek=2 then(match op with| .eql=> .ok (.bool false)| .neq=> .ok (.bool true)|_=> .fail)else .fail
 | .nilp,.nilp=>if ek=2 then(match op with| .eql=> .ok (.bool true)| .neq=> .ok (.bool false)|_=> .fail)else .fail
 | .agg az,.agg bs=>(match es.bind fun ks=>eqVs ks az bs with
  |some r=>(match op with| .eql=> .ok (.bool r)| .neq=> .ok (.bool (!r))|_=> .fail)
  |none=> .fail)
 |_,_=> .fail
def zu0 (op:BinOp) (ek:Nat) (x:V):R:=if ek=3 then(match lenV x with|some n=>yL7 op n|none=> .fail)else .fail
def zh5:Operand->Bool
 | .const (.slice none 0 0)=>true
 |_=>false
theorem zu4 {k k':IntKind} {x y:Int} (op:BinOp) (aa:op= .shl∨op= .shr) (hy:0<=y) (w:World):
  (Op.shift op k x k' y).run P w= .ok (.int k (if op= .shl then k.wrap (x*2^(min y.toNat k.bits))else x.fdiv (2^(min y.toNat k.bits)))) w:=by
 have: ¬y<0:=om
 rcases aa with rfl|rfl<;>simp[Op.shift,this]
theorem xo5 {pos:String} (op:BinOp) (t t':TypeId) (x y:Operand) (h:Sim c nt e σ a w L β) {k:IntKind} {m n:Int} (hx:a.eval x= .int k m) (hy:a.eval y= .int k n):
  ROk (zO5 op k m n) σ (Yield P c ⟨dst,.binOp op t x y t',ty,pos,aft,g⟩ a w L σ β):=by
 have run: ∀v,(binOp op t (.int k m) (.int k n)).run P w= .ok v w->(execOp a.eval ⟨dst,.binOp op t x y t',ty,pos,aft,g⟩).run P w= .ok (.value v) w:=by
  simp_all[execOp,eqGuard]
 cases op
 case quo=>exact fun hn=>Yield.pure h (by simp_all[binOp,Op.intDiv]) (RdP.int _ _)
 case rem=>exact fun hn=>Yield.pure h (by simp_all[binOp,Op.intDiv]) (RdP.int _ _)
 case shl=>exact fun hn=>Yield.pure h (run _ (by simp only[binOp];rw[zu4 .shl (.inl rfl) hn];simp)) (RdP.int _ _)
 case shr=>exact fun hn=>Yield.pure h (run _ (by simp only[binOp];rw[zu4 .shr (.inr rfl) hn];simp)) (RdP.int _ _)
 case add=>exact Yield.pure h (by simp_all[binOp,Op.intArith]) (RdP.int _ _)
 case sub=>exact Yield.pure h (by simp_all[binOp,Op.intArith]) (RdP.int _ _)
 case mul=>exact Yield.pure h (by simp_all[binOp,Op.intArith]) (RdP.int _ _)
 case and=>exact Yield.pure h (run _ (by simp only[binOp,Op.intBits,ne_eq,not_true_eq_false,if_false,Sem.run_pure];rfl)) (RdP.int _ _)
 case or=>exact Yield.pure h (run _ (by simp only[binOp,Op.intBits,ne_eq,not_true_eq_false,if_false,Sem.run_pure];rfl)) (RdP.int _ _)
 case xor=>exact Yield.pure h (run _ (by simp only[binOp,Op.intBits,ne_eq,not_true_eq_false,if_false,Sem.run_pure];rfl)) (RdP.int _ _)
 case andNot=>exact Yield.pure h (run _ (by simp only[binOp,Op.intBits,ne_eq,not_true_eq_false,if_false,Sem.run_pure];rfl)) (RdP.int _ _)
 case eql=>exact Yield.pure h (by simp_all[binOp,Op.intCmp]) (RdP.bool _)
 case neq=>exact Yield.pure h (by simp_all[binOp,Op.intCmp]) (RdP.bool _)
 case lss=>exact Yield.pure h (by simp_all[binOp,Op.intCmp]) (RdP.bool _)
 case leq=>exact Yield.pure h (by simp_all[binOp,Op.intCmp]) (RdP.bool _)
 case gtr=>exact Yield.pure h (by simp_all[binOp,Op.intCmp]) (RdP.bool _)
 case geq=>exact Yield.pure h (by simp_all[binOp,Op.intCmp]) (RdP.bool _)
theorem xp0 {pos:String} (op:BinOp) (t t':TypeId) (x y:Operand) (h:Sim c nt e σ a w L β) {m n:List UInt8} (hx:a.eval x= .string ⟨m.toArray⟩) (hy:a.eval y= .string ⟨n.toArray⟩):
  ROk (zP8 op m n) σ (Yield P c ⟨dst,.binOp op t x y t',ty,pos,aft,g⟩ a w L σ β):=by
 have run: ∀v,(binOp op t (.string ⟨m.toArray⟩) (.string ⟨n.toArray⟩)).run P w= .ok v w->(execOp a.eval ⟨dst,.binOp op t x y t',ty,pos,aft,g⟩).run P w= .ok (.value v) w:=by
  simp_all[execOp,eqGuard]
 cases op
 case add=>
  intro hn
  refine Yield.pure h (run (.string ⟨(m++n).toArray⟩) ?_) (RdP.str _)
  have hs: ¬((m.length:Int)+(n.length:Int)>9223372036854775807):=om
  have ab: ∀l:List UInt8,(ByteArray.mk l.toArray).size=l.length:=(by grind[ByteArray.size])
  have aa:(ByteArray.mk m.toArray)++(ByteArray.mk n.toArray)=ByteArray.mk (m++n).toArray:=by
   rfl
  simp_all[binOp,Op.stringOp]
 case eql=>exact Yield.pure h (by simp_all[binOp,Op.stringOp]) (RdP.bool _)
 case neq=>exact Yield.pure h (by simp_all[binOp,Op.stringOp]) (RdP.bool _)
 case lss=>exact Yield.pure h (by simp_all[binOp,Op.stringOp]) (RdP.bool _)
 case leq=>exact Yield.pure h (by simp_all[binOp,Op.stringOp]) (RdP.bool _)
 case gtr=>exact Yield.pure h (by simp_all[binOp,Op.stringOp]) (RdP.bool _)
 case geq=>exact Yield.pure h (by simp_all[binOp,Op.stringOp]) (RdP.bool _)
 all_goals trivial
theorem eqK1 (h:eqK P t=1):P.underlying t=some .bool:=by
 grind[eqK]
theorem eqK2 (h:eqK P t=2): ∃el,P.underlying t=some (.pointer el):=by
 grind[eqK]
theorem zX2 (hb:P.underlying t=some .bool) (x y:Bool) (w:World) (d:Nat):(Op.equalIn (d+1) t (.bool x) (.bool y)).run P w= .ok (x==y) w:=by
 simp[Op.equalIn,run_underlying hb]
theorem yb9 (hb:P.underlying t=some (.pointer el)) (x:Option Addr) (w:World) (d:Nat):(Op.equalIn (d+1) t (.pointer x) (.pointer none)).run P w= .ok x.isNone w:=by
 cases x<;>simp[Op.equalIn,run_underlying hb]
theorem zJ1 (hb:P.underlying t=some .bool) (x y:Bool) (w:World):(Op.equal t (.bool x) (.bool y)).run P w= .ok (x==y) w:=
 zX2 hb x y w 9999
theorem zq5 (hb:P.underlying t=some (.pointer el)) (x:Option Addr) (w:World):(Op.equal t (.pointer x) (.pointer none)).run P w= .ok x.isNone w:=
 yb9 hb x w 9999
theorem xZ6 {pos:String} (op:BinOp) (t t':TypeId) (x y:Operand) (h:Sim c nt e σ a w L β):
  ROk (zt0 op (eqK P t) (eqS P t) (zD e x) (zD e y)) σ (Yield P c ⟨dst,.binOp op t x y t',ty,pos,aft,g⟩ a w L σ β):=by
 have hx:=h.eval x
 have hy:=h.eval y
 unfold zt0
 split
 .rename_i k m k' n h1 h2
  rw[h1]at hx;rw[h2]at hy
  have e1:=yK hx;have e2:=yK hy
  by_cases hk:k=k'
  .subst hk
   rw[if_pos rfl]
   grind[xo5]
  .rw[if_neg hk]
   split
   .exact fun hn=>Yield.pure h (by simp only[execOp,e1,e2,eqGuard,binOp];simp[zu4 .shl (.inl rfl) hn]) (RdP.int _ _)
   .exact fun hn=>Yield.pure h (by simp only[execOp,e1,e2,eqGuard,binOp];simp[zu4 .shr (.inr rfl) hn]) (RdP.int _ _)
   trivial
 .grind[xp0,za3]
 .rename_i m n h1 h2
  rw[h1]at hx;rw[h2]at hy
  have e1:=zd3 hx;have e2:=zd3 hy
  split
  .rename_i hb
   have ae:=eqK1 hb
   split
   .exact Yield.pure h (by simp_all[execOp,eqGuard,binOp,zJ1]) (RdP.bool _)
   .exact Yield.pure h (by simp_all[execOp,eqGuard,binOp,zJ1]) (RdP.bool _)
   trivial
  trivial
 .rename_i id off h1 h2
  rw[h1]at hx;rw[h2]at hy
  obtain⟨b,_,e1⟩:=hx
  have e2:=yl5 hy
  split
  .rename_i hb
   obtain⟨el,ae⟩:=eqK2 hb
   split
   .exact Yield.pure h (x:= .bool false) (by simp_all[execOp,eqGuard,binOp,zq5]) (RdP.bool _)
   .exact Yield.pure h (x:= .bool true) (by simp_all[execOp,eqGuard,binOp,zq5]) (RdP.bool _)
   trivial
  trivial
 .rename_i h1 h2
  rw[h1]at hx;rw[h2]at hy
  have e1:=yl5 hx
  have e2:=yl5 hy
  split
  .rename_i hb
   obtain⟨el,ae⟩:=eqK2 hb
   split
   .exact Yield.pure h (x:= .bool true) (by simp_all[execOp,eqGuard,binOp,zq5]) (RdP.bool _)
   .exact Yield.pure h (x:= .bool false) (by simp_all[execOp,eqGuard,binOp,zq5]) (RdP.bool _)
   trivial
  trivial
 .rename_i az bs h1 h2
  rw[h1]at hx;rw[h2]at hy
  obtain⟨xs,e1,r1⟩:=hx
  obtain⟨ys,e2,r2⟩:=hy
  split
  .rename_i r hr
   cases aa:eqS P t with
   |none=>grind
   |some ks=>
    rw[aa]at hr
    simp only[Ar]at hr
    have af:=zV3 ks az bs xs ys r r1 r2 hr
    unfold eqS at aa
    split at aa
    .rename_i fs hu
     split at aa
     .rename_i hg
      have ha:aggT P t=some true:=by grind[aggT,yT7]
      have o1: ∀z∈xs,z.oneCell'=true:=fun z hz=>by
       obtain⟨i,hi⟩:=Av.1 hz
       have hl:=r1.length
       obtain⟨y,ab,rr⟩:=r1.get i (az[i]'(by grind)) sM
       rw[hi]at ab;cases ab
       exact rr.oneCell
      have o2: ∀z∈ys,z.oneCell'=true:=fun z hz=>by
       obtain⟨i,hi⟩:=Av.1 hz
       have hl:=r2.length
       obtain⟨y,ab,rr⟩:=r2.get i (bs[i]'(by grind)) sM
       rw[hi]at ab;cases ab
       exact rr.oneCell
      have ad: ∀z:List Value,zv5 P t (.agg z.toArray):=fun z=>by unfold zv5;grind
      have ag:=zJ0 10 t ks aa 10000 om (.agg xs.toArray) (.agg ys.toArray) r (ad _) (ad _) (by simpa[Value.cells]using o1) (by simpa[Value.cells]using o2) (by simpa[Value.cells]using af) w
      split
      .exact Yield.pure h (x:= .bool r) (by simp_all[execOp,run_eqGuard_agg,run_eql_struct]) (RdP.bool _)
      .exact Yield.pure h (x:= .bool (!r)) (by simp_all[execOp,run_eqGuard_agg,run_neq_struct]) (RdP.bool _)
      trivial
     grind
    grind
  trivial
 trivial
theorem eqK3 (h:eqK P t=3): ∃el,P.underlying t=some (.slice el):=by
 grind[eqK]
theorem yz8 {y:Operand} (h:zh5 y=true):y= .const (.slice none 0 0):=by
 unfold zh5 at h
 grind
theorem zl5 (hb:P.underlying t=some (.slice el)) (a:Option Addr) (n cap:Nat) (w:World):(Op.equal t (.slice a n cap) (.slice none 0 0)).run P w= .ok a.isNone w:=by
 have key: ∀d,(Op.equalIn (d+1) t (.slice a n cap) (.slice none 0 0)).run P w= .ok a.isNone w:=fun d=>by
  cases a<;>simp[Op.equalIn,run_underlying hb]
 exact key 9999
theorem xC1 {pos:String} (op:BinOp) (t t':TypeId) (x y:Operand) (hy:zh5 y=true) (h:Sim c nt e σ a w L β):
  ROk (zu0 op (eqK P t) (zD e x)) σ (Yield P c ⟨dst,.binOp op t x y t',ty,pos,aft,g⟩ a w L σ β):=by
 have hx:=h.eval x
 have hy:=yz8 hy
 subst hy
 unfold zu0
 split
 .rename_i hk
  obtain⟨el,hu⟩:=eqK3 hk
  split
  .rename_i n hn
   have hv: ∃ad cap,a.eval x= .slice ad n cap/\(0<n->ad.isNone=false):=by
    unfold lenV at hn
    split at hn
    .rename_i gg rows h1
     rw[h1]at hx
     cases hn
     have hr:=zw9 hx
     clear hx
     revert hr
     generalize a.eval x=z
     intro hr
     cases hr<;>simp
    .rename_i id s n' lo m h1
     rw[h1]at hx
     cases hn
     obtain⟨ad,cap,hv,ab,aa,_⟩:=hx
     grind
    grind
   obtain⟨ad,cap,hv,hz⟩:=hv
   have hc:a.eval (.const (.slice none 0 0))= .slice none 0 0:=rfl
   unfold yL7
   split
   .split
    .rename_i h0
     exact Yield.pure h (x:= .bool false) (by simp_all[execOp,eqGuard,binOp,zl5]) (RdP.bool _)
    .exact⟨ad.isNone,Yield.pure h (x:= .bool ad.isNone) (by simp_all[execOp,eqGuard,binOp,zl5]) (RdP.bool _)⟩
   .split
    .rename_i h0
     exact Yield.pure h (x:= .bool true) (by simp_all[execOp,eqGuard,binOp,zl5]) (RdP.bool _)
    .exact⟨ad.isNone,Yield.pure h (x:= .bool (!ad.isNone)) (by simp_all[execOp,eqGuard,binOp,zl5]) (RdP.bool _)⟩
   trivial
  trivial
 trivial
def evUn (op:UnOp) (x:V):R:=
 match op,x with
 | .not,.bool b=> .ok (.bool (!b))
 | .neg,.int k n=> .ok (.int k (k.wrap (0 - n)))
 | .xor,.int k n=> .ok (.int k (zf2 .xor k (if k.signed then -1 else k.max) n))
 |_,_=> .fail
theorem wf5 {pos:String} (op:UnOp) (t:TypeId) (x:Operand) (h:Sim c nt e σ a w L β):
  ROk (evUn op (zD e x)) σ (Yield P c ⟨dst,.unOp op t x,ty,pos,aft,g⟩ a w L σ β):=by
 have hx:=h.eval x
 unfold evUn
 split
 .rename_i b h1
  rw[h1]at hx
  exact Yield.pure h (x:= .bool (!b)) (by simp[execOp,zd3 hx,Op.unary]) (RdP.bool _)
 .rename_i k n h1
  rw[h1]at hx
  exact Yield.pure h (x:= .int k (k.wrap (0 - n))) (by simp only[execOp,yK hx,Op.unary,Op.intArith,Sem.run_bind,Sem.run_pure,Result.andThen_ok]) (RdP.int _ _)
 .rename_i k n h1
  rw[h1]at hx
  exact Yield.pure h (x:= .int k (zf2 .xor k (if k.signed then -1 else k.max) n)) (by simp only[execOp,yK hx,Op.unary,Op.intBits,Sem.run_bind,Sem.run_pure,Result.andThen_ok];rfl) (RdP.int _ _)
 trivial
def zm6 (x:V) (i:Nat):R:=
 match x with
 | .tup vs=>(match vs[i]? with|some v=> .ok v|none=> .fail)
 |_=> .fail
theorem yV7 {pos:String} (x:Operand) (i:Nat) (h:Sim c nt e σ a w L β):
  ROk (zm6 (zD e x) i) σ (Yield P c ⟨dst,.extract x i,ty,pos,aft,g⟩ a w L σ β):=by
 have hx:=h.eval x
 unfold zm6
 split
 .rename_i vs h1
  rw[h1]at hx
  obtain⟨xs,hv,aa⟩:=hx
  split
  .rename_i v ab
   obtain⟨y,hy,r⟩:=aa.get _ _ ab
   exact Yield.pure h (x:=y) (by simp_all[execOp,Instr.extract]) (RdS.of_a r)
  trivial
 trivial
def zf4 (P:Program) (t:TypeId) (x:V) (f:Nat):R:=
 match fldT P t f,x with
 |some (off,_,_),.ptr id o=> .ok (.ptr id (o+off))
 |some (off,_,_),.elp cs o=> .ok (.elp cs (o+off))
 |some (off,_,_),.lsp id s n k j=> .ok (.lsp id s n k (j+off))
 |_,_=> .fail
theorem zV5 {f off s:Nat} {b:Bool} (h:fldT P t f=some (off,s,b)): ∃fs fd,P.underlying t=some (.struct fs)/\fs[f]? =some fd/\fd.offset=off/\szT P fd.type=some s/\aggT P fd.type=some b/\s≠0:=by
 unfold fldT at h
 split at h
 .rename_i fs hu
  cases hf:fs[f]? with
  |none=>grind
  |some fd=>
   simp only[hf,Ar]at h
   cases hs:szT P fd.type with
   |none=>grind
   |some s'=>
    simp only[hs,Ar]at h
    cases hb:aggT P fd.type<;>grind
 grind
theorem yA9 {pos:String} (t:TypeId) (x:Operand) (f:Nat) (h:Sim c nt e σ a w L β):
  ROk (zf4 P t (zD e x) f) σ (Yield P c ⟨dst,.fieldAddr t x f,ty,pos,aft,g⟩ a w L σ β):=by
 have hx:=h.eval x
 have run: ∀{off s:Nat} {b:Bool} {bl o:Nat},fldT P t f=some (off,s,b)->a.eval x= .pointer (some ⟨bl,o,none⟩)->(execOp a.eval ⟨dst,.fieldAddr t x f,ty,pos,aft,g⟩).run P w= .ok (.value (.pointer (some ⟨bl,o+off,none⟩))) w:=by
  intro off s b bl o hf hv
  obtain⟨fs,fd,hu,aa,rfl,hs,hb,h0⟩:=zV5 hf
  simp_all[execOp,Instr.fieldAt,run_underlying,Instr.sureAddr,fieldPlace,wZ,wA]
 unfold zf4
 split
 .rename_i off s b id o hf h1
  rw[h1]at hx
  obtain⟨bl,hb,hv⟩:=hx
  exact Yield.pure h (run hf hv) ⟨bl,hb,rfl⟩
 .rename_i off s b cs o hf h1
  rw[h1]at hx
  obtain⟨bl,o',c',hv,hl,hc⟩:=hx
  exact Yield.pure h (run hf hv) ⟨bl,o',c',sM,hl,hc⟩
 .rename_i off s b id s' n k j hf h1
  rw[h1]at hx
  obtain⟨bl,o',hv,hc⟩:=hx
  refine Yield.pure h (run hf hv) ⟨bl,o'+off,rfl, ?_⟩
  grind
 trivial
end
section
variable {P:Program} {c:Ctx} {nt:Nat} {e:Env} {σ:St} {a:Act} {w:World} {L:Nat->Nat} {β:List Value} {o:Oper}
variable {t:TypeId}{off:Nat}{dst:Option Tmp}{ty:TypeId}{aft:Array Edge}{g:Option (Nat×Bool)}{bl:Nat}{cs:List V}
def zl4 (ag:Option Bool) (sz:Option Nat) (cs:List V) (off:Nat):R:=
 match ag,sz with
 |some true,some s=>if off+s<=cs.length then .ok (.agg ((cs.drop off).take s))else .fail
 |some false,_=>(match cs[off]? with|some v=> .ok v|none=> .fail)
 |_,_=> .fail
def zh9 (P:Program) (t:TypeId) (σ:St) (x:V):R:=
 match x with
 | .ptr id off=>(match σ[id]? with|some (.box cs)=>zl4 (aggT P t) (szT P t) cs off|_=> .fail)
 | .elp cs off=>zl4 (aggT P t) (szT P t) cs off
 | .lsp id s n k j=>(match σ[id]? with|some (.lst rows s')=>if s'=s/\rows.length=n/\k<n then zl4 (aggT P t) (szT P t) (rows.getD k []) j else .fail|_=> .fail)
 |_=> .fail
theorem zS8 {s:Nat} {xs:List Value} (aa:aggT P t=some true) (ab:szT P t=some s) (hl:xs.length=s) (hx: ∀(j:Nat) v,xs[j]? =some v->w.cell? ⟨bl,off+j,none⟩=some v):
  (loadVar t ⟨bl,off,none⟩).run P w= .ok (.agg xs.toArray) w:=by
 have:=run_loadCells_list (P:=P) w ⟨bl,off,none⟩ xs (fun j v hj=>by rw[wA];exact hx j v hj)
 simp_all[loadVar,zl1,wZ]
theorem zX3 {v:Value} (aa:aggT P t=some false) (hx:w.cell? ⟨bl,off,none⟩=some v):
  (loadVar t ⟨bl,off,none⟩).run P w= .ok v w:=by
 simp_all[loadVar,zl1]
theorem zW5 (t:TypeId) {o:Nat} {v:V}
  (hc: ∀(j:Nat) v,cs[j]? =some v-> ∃y,w.cell? ⟨bl,o+j,none⟩=some y/\RdC w L σ β v y) (hl:zl4 (aggT P t) (szT P t) cs off= .ok v):
  ∃y,(loadVar t ⟨bl,o+off,none⟩).run P w= .ok y w/\RdS w L σ β v y:=by
 unfold zl4 at hl
 split at hl
 .rename_i s aa ae
  split at hl
  .rename_i hle
   simp only[R.ok.injEq]at hl
   subst hl
   let f:=fun k=>(w.cell? ⟨bl,o+(off+k),none⟩).getD undef
   let xs:=(List.range s).map f
   have af: ∀(j:Nat) v,xs[j]? =some v->w.cell? ⟨bl,o+off+j,none⟩=some v/\ ∃p,cs[off+j]? =some p/\RdC w L σ β p v:=by
    intro j v hj
    have ab:j<s:=by
     grind
    simp only[xs,B6,List.getElem?_range ab,Bg,Option.some.injEq]at hj
    obtain⟨y,hy,r⟩:=hc (off+j) _ (A0 om)
    grind
   refine⟨.agg xs.toArray,(by grind[zS8]),xs,rfl,All2.of (by simp[xs];omega) fun j p v hu hj=> ?_⟩
   grind
  grind
 .rename_i aa
  split at hl
  .rename_i v' ad
   simp only[R.ok.injEq]at hl
   subst hl
   obtain⟨y,hy,r⟩:=hc off _ ad
   simp_all[zX3,RdS.of_cell]
  grind
 grind
theorem zD9 {ag:Option Bool} {sz:Option Nat}:(∃v,zl4 ag sz cs off= .ok v)∨zl4 ag sz cs off= .fail:=by
 unfold zl4
 grind
theorem yK2 (t:TypeId) {x:V} {y:Value} {v:V} (hm:Mem c w L σ β) (hx:RdS w L σ β x y) (hl:zh9 P t σ x= .ok v):
  ∃bl off z,y= .pointer (some ⟨bl,off,none⟩)/\(loadVar t ⟨bl,off,none⟩).run P w= .ok z w/\RdS w L σ β v z:=by
 unfold zh9 at hl
 split at hl
 .rename_i id off
  obtain⟨bl,hb,hv⟩:=hx
  split at hl
  .rename_i cs hσ
   obtain⟨b',arr,T,fz,e1,hh,_,_,aa⟩:=hm.objs id _ _ hσ hb
   cases e1
   obtain⟨z,hz,r⟩:=zW5 (P:=P) (w:=w) (L:=L) (σ:=σ) (β:=β) t (bl:=bl) (o:=0) (fun j v hj=>by
    obtain⟨y,hy,r⟩:=aa.get _ _ hj
    grind[World.cell?]) hl
   grind
  grind
 .rename_i cs off
  obtain⟨bl,o',c',hv,hlim,hc⟩:=hx
  obtain⟨z,hz,r⟩:=zW5 (P:=P) (w:=w) (L:=L) (σ:=σ) (β:=β) t (bl:=bl) (o:=o') (by grind[RdC.of_pure]) hl
  grind
 .rename_i id s n k j
  obtain⟨bl,o',hv,hc⟩:=hx
  split at hl
  .rename_i rows s' hσ
   split at hl
   .rename_i ab
    obtain⟨rfl,hn,hk⟩:=ab
    rcases hc with hd|⟨rows2,ad,ae,hb⟩
    .grind
    .rw[hσ]at ad
     cases ad
     obtain⟨c0,hβ,ho⟩:=hb hn.symm hk
     obtain⟨a,cap,e1,hcap,hs,hu,hok⟩:=hm.objs id _ _ hσ hβ
     cases e1
     obtain⟨b',arr,T,fz,e2,hh,_,_,_,aa⟩:=hok om
     cases e2
     have hg:rows.getD k []=rows[k]'om:=by grind
     obtain⟨z,hz,r⟩:=zW5 (P:=P) (w:=w) (L:=L) (σ:=σ) (β:=β) t (bl:=bl) (o:=k*s') (cs:=rows.getD k []) (off:=j) (fun i v hi=>by
      have af:i<s':=by
       grind
      have hf:rows.flatten[k*s'+i]? =some v:=by
       grind[yN]
      obtain⟨y,hy,r⟩:=aa.get _ _ hf
      grind[World.cell?]) hl
     grind
   grind
  grind
 grind
theorem yH8 {x:V}:(∃v,zh9 P t σ x= .ok v)∨zh9 P t σ x= .fail:=by
 unfold zh9
 split
 .split
  .exact zD9
  simp
 .exact zD9
 .split
  .split
   .exact zD9
   simp
  simp
 simp
theorem zy8 {s:Nat} {vs:List V}: ∀{rows:List (List V)} (k j:Nat),(∀r∈rows,r.length=s)->k<rows.length->j+vs.length<=s->(rows.set k (putCells (rows.getD k []) j vs)).flatten=putCells rows.flatten (k*s+j) vs
 | [],k,j,_,hk,_=>by grind
 |r::rows,0,j,h,_,hj=>by
  have hr:=h r sM
  have e:(r::rows).getD 0 []=r:=rfl
  rw[e,Cr,De,De,D2,Ae]
  grind[putCells]
 |r::rows,k+1,j,h,hk,hj=>by
  have hr:=h r sM
  have ih:=zy8 (s:=s) (vs:=vs) (rows:=rows) k j (fun x hx=>h x (by simp[hx])) (sU hk) hj
  have e:(r::rows).getD (k+1) []=rows.getD k []:=sM
  rw[e,Bs,De,ih,De]
  unfold putCells
  have e2:(k+1)*s+j=r.length+(k*s+j):=by rw[B2,hr];omega
  have e3:r.length+(k*s+j)+vs.length=r.length+(k*s+j+vs.length):=Do _ _ _
  rw[e2,List.take_length_add_append,e3,List.drop_length_add_append]
  simp
theorem xO4 {pos:String} (t:TypeId) (x:Operand) (h:Sim c nt e σ a w L β):
  ROk (zh9 P t σ (zD e x)) σ (Yield P c ⟨dst,.load t x,ty,pos,aft,g⟩ a w L σ β):=by
 rcases yH8 (P:=P) (σ:=σ) (t:=t) (x:=zD e x)with ⟨v,hv⟩|hv
 .obtain⟨bl,off,z,hy,hz,r⟩:=yK2 (P:=P) t h.mem (h.eval x) hv
  rw[hv]
  exact Yield.pure h (x:=z) (by simp_all[execOp,Instr.loadAt,Instr.sureAddr]) r
 .rw[hv];trivial
def zu1 (P:Program) (t:TypeId) (σ:St) (x y:V):R:=
 match x with
 | .ptr id off=>(match σ[id]?,szT P t with
  |some (.box cs),some s=>if za6 y=true/\(xE y).length=s/\off+s<=cs.length then .st .u (σ.set id (.box (putCells cs off (xE y))))else .fail
  |_,_=> .fail)
 | .lsp id s n k j=>(match σ[id]?,szT P t with
  |some (.lst rows s'),some z=>if za6 y=true/\(xE y).length=z/\j+z<=s/\s'=s/\rows.length=n/\k<n then .st .u (σ.set id (.lst (rows.set k (putCells (rows.getD k []) j (xE y))) s))else .fail
  |_,_=> .fail)
 |_=> .fail
theorem xC4 {pos:String} (t:TypeId) (x y:Operand) (h:Sim c nt e σ a w L β):
  ROk (zu1 P t σ (zD e x) (zD e y)) σ (Yield P c ⟨dst,.store t x y,ty,pos,aft,g⟩ a w L σ β):=by
 have hx:=h.eval x
 have hy:=h.eval y
 unfold zu1
 split
 .rename_i id off h1
  rw[h1]at hx
  obtain⟨bl,hb,hv⟩:=hx
  split
  .rename_i cs s hσ an
   split
   .rename_i ab
    obtain⟨ae,hlen,hle⟩:=ab
    have aa:=zp5 hy ae
    obtain⟨arr,T,fz,hh,hf,ai,ad,af⟩:=h.mem.setBox (off:=off) hσ hb aa om
    have ao:=aa.length
    have aq:=xZ P bl off T fz (a.eval y).cells.toList 0 arr w hh hf om (fun v hv=> ?_)
    .refine⟨undef,_,L,β,.inr ⟨?_,rfl⟩,ad,af,Ext.setBox hσ _,tV⟩
     simp_all[execOp,Instr.storeAt,Instr.sureAddr,storeVar,wZ]
    .obtain⟨k,hk⟩:=Av.1 hv
     have ag:k<(xE (zD e y)).length:=by
      grind
     obtain⟨z,hz,r⟩:=aa.get k _ (A0 ag)
     rw[hk]at hz;cases hz
     exact r.oneCell
   trivial
  trivial
 .rename_i id s n k j h1
  rw[h1]at hx
  obtain⟨bl,o',hv,hc⟩:=hx
  split
  .rename_i rows s' z hσ an
   split
   .rename_i ab
    obtain⟨ae,hlen,hle,rfl,hn,hk⟩:=ab
    rcases hc with hd|⟨rows2,aj,av,hb⟩
    .grind
    .rw[hσ]at aj
     cases aj
     obtain⟨c0,hβ,ho⟩:=hb hn.symm hk
     obtain⟨a',cap,e1,hcap,hs,hu,_⟩:=h.mem.objs id _ _ hσ hβ
     cases e1
     have aa:=zp5 hy ae
     have ao:=aa.length
     have ag:k<rows.length:=om
     have ar:(k+1)*s'<=rows.length*s':=Ah _ ag
     rw[B2,D8]at ar
     have hg:rows.getD k []=rows[k]'ag:=by grind
     obtain⟨arr,T,fz,hh,hf,ai,ad,af,ah⟩:=h.mem.lstPut (rows2:=rows.set k (putCells (rows.getD k []) j (xE (zD e y)))) (off:=k*s'+j) hσ hβ om aa om (fun r hr=>by
      grind[zG7]) (by grind[zy8]) sM (by grind)
     have ak:β.set id (.slice (some ⟨bl,0,none⟩) (rows.set k (putCells (rows.getD k []) j (xE (zD e y)))).length c0)=β:=(by grind[yI])
     rw[ak]at ad ah
     have aq:=xZ P bl (k*s'+j) T fz (a.eval y).cells.toList 0 arr w hh hf om (fun v hv=> ?_)
     .refine⟨undef,_,L,β,.inr ⟨?_,rfl⟩,ad,af,ah,tV⟩
      simp_all[execOp,Instr.storeAt,Instr.sureAddr,storeVar,wZ]
     .obtain⟨q,hq⟩:=Av.1 hv
      have au:q<(xE (zD e y)).length:=by
       grind
      obtain⟨z',al,r⟩:=aa.get q _ (A0 au)
      rw[hq]at al;cases al
      exact r.oneCell
   trivial
  trivial
 trivial
def zQ8 (σ:St) (x:V):R:=if za6 x=true then .st (.ptr σ.length 0) (σ++ [.box (xE x)])else .fail
theorem xZ7 {pos:String} (t:TypeId) (x:Operand) (h:Sim c nt e σ a w L β):
  ROk (zQ8 σ (zD e x)) σ (Yield P c ⟨dst,.box t x,ty,pos,aft,g⟩ a w L σ β):=by
 have hx:=h.eval x
 unfold zQ8
 split
 .rename_i aa
  obtain⟨h1,h2⟩:=h.mem.box _ (a.eval x).cells t (zp5 hx aa)
  refine⟨_,_,L,_,.inl ?_,h1,h2,Ext.push σ β h.mem.len _ _,⟨w.heap.size, ?_,rfl⟩⟩
  .rfl
  .rw[<-h.mem.len,B8 (A4 _)];simp
 trivial
def zl3 (P:Program) (t:TypeId) (σ:St):R:=
 match zb0 P t with
 |some cs=> .st (.ptr σ.length 0) (σ++ [.box cs])
 |none=> .fail
theorem zG2 (h:zb0 P t=some cs): ∃i z,P.info? t=some i/\i.zero=some z/\(∀v∈z.cells.toList,v.oneCell'=true)/\cs=z.cells.toList.map zc5:=by
 unfold zb0 at h
 cases hi:P.info? t with
 |none=>grind
 |some i=>
  cases hz:i.zero with
  |none=>grind
  |some z=>
   simp only[hi,hz,Ar]at h
   split at h
   .rename_i ha
    simp at h
    refine⟨i,z,rfl,hz,fun v hv=> ?_,h.symm⟩
    exact Ce.1 ha v (by grind)
   grind
theorem zY1 {xs:List Value} (h: ∀v∈xs,v.oneCell'=true):All2 (RdP w L) (xs.map zc5) xs:=by
 induction xs with
 |nil=>trivial
 |cons x xs ih=>exact⟨(by grind[zw4]),(by grind)⟩
theorem xB3 {pos:String} (t:TypeId) (h:Sim c nt e σ a w L β):
  ROk (zl3 P t σ) σ (Yield P c ⟨dst,.alloc t,ty,pos,aft,g⟩ a w L σ β):=by
 unfold zl3
 split
 .rename_i cs hc
  obtain⟨i,z,hi,ab,aa,rfl⟩:=zG2 hc
  obtain⟨h1,h2⟩:=h.mem.box (z.cells.toList.map zc5) z.cells t ((zY1 aa).imp fun _ _=>RdC.of_pure)
  refine⟨_,_,L,_,.inl ?_,h1,h2,Ext.push σ β h.mem.len _ _,⟨w.heap.size, ?_,rfl⟩⟩
  .simp_all[execOp,Instr.alloc,zeroValue,typeInfo,newVar,newRow]
  .rw[<-h.mem.len,B8 (A4 _)];simp
 trivial
end
section
variable {P:Program} {c:Ctx} {nt:Nat} {e:Env} {σ:St} {a:Act} {w:World} {L:Nat->Nat} {β:List Value} {o:Oper}
variable {t:TypeId}{dst:Option Tmp}{ty:TypeId}{aft:Array Edge}{g:Option (Nat×Bool)}
def zj0 (sl:Option Nat) (ar:Option (Nat×Nat×Bool)) (x i:V):R:=
 match x,i with
 | .sl _ rows,.int _ k=>(match sl with
  |some s=> .need (0<=k/\k<rows.length/\(rows.getD k.toNat []).length=s) (.elp (rows.getD k.toNat []) 0)
  |none=> .fail)
 | .ptr id off,.int _ k=>(match ar with
  |some (n,s,_)=> .need (0<=k/\k<n) (.ptr id (off+k.toNat*s))
  |none=> .fail)
 | .elp cs off,.int _ k=>(match ar with
  |some (n,s,_)=> .need (0<=k/\k<n) (.elp cs (off+k.toNat*s))
  |none=> .fail)
 | .lsv id s n lo m,.int _ k=>if sl=some s then .need (0<=k/\k<m) (.lsp id s n (lo+k.toNat) 0)else .fail
 | .bsv id s off n,.int _ k=>if sl=some s then .need (0<=k/\k<n) (.ptr id (off+k.toNat*s))else .fail
 |_,_=> .fail
theorem zX4 {s:Nat} (h:slcT P t=some s): ∃el,P.underlying t=some (.slice el)/\szT P el=some s:=by
 grind[slcT]
theorem zK5 {n s:Nat} {b:Bool} (h:arrT P t=some (n,s,b)): ∃el,P.underlying t=some (.array n el)/\szT P el=some s/\aggT P el=some b:=by
 unfold arrT at h
 split at h
 .rename_i m el hu
  cases hs:szT P el with
  |none=>grind
  |some s'=>
   cases hb:aggT P el<;>grind
 grind
theorem yV8 {pos:String} (t:TypeId) (x i:Operand) (h:Sim c nt e σ a w L β):
  ROk (zj0 (slcT P t) (arrT P t) (zD e x) (zD e i)) σ (Yield P c ⟨dst,.indexAddr t x i,ty,pos,aft,g⟩ a w L σ β):=by
 have hx:=h.eval x
 have hi:=h.eval i
 unfold zj0
 split
 .rename_i gg rows kd k h1 h2
  rw[h1]at hx;rw[h2]at hi
  split
  .rename_i s hs
   obtain⟨el,hu,aa⟩:=zX4 hs
   rintro⟨h0,ab,ae⟩
   have hk:k.toNat<rows.length:=om
   have ai:rows≠ []:=(by grind)
   obtain⟨s',b,o',cap,hv,ak,af,hlim,_,_,hc⟩:=(zw9 hx).flat ai
   have ag:rows.getD k.toNat []∈rows:=by
    grind
   have aj:s'=s:=by rw[<-af _ ag];omega
   subst aj
   have al:rows.getD k.toNat []=rows[k.toNat]:=by grind
   have e1:=yK hi
   refine Yield.pure h (x:= .pointer (some ⟨b,o'+k.toNat*s',none⟩)) ?_ ?_
   .simp[execOp,hv,e1,Instr.indexAt,asIntOf,run_underlying hu,wZ aa,h0,ab,wA]
   .refine⟨b,o'+k.toNat*s',fun j=>(w.cell? ⟨b,o'+k.toNat*s'+j,none⟩).getD undef,rfl, ?_,fun j hj=> ?_⟩
    .rw[ae]
     have:(k.toNat+1)*s'<=rows.length*s':=Ah _ hk
     grind
    .rw[ae]at hj
     obtain⟨y,hy,r⟩:=hc (k.toNat*s'+j) ((rows.getD k.toNat [])[j]'om) (by
      rw[yN _ _ af hj,A0 hk]
      grind)
     grind
  trivial
 .rename_i id off kd k h1 h2
  rw[h1]at hx;rw[h2]at hi
  split
  .rename_i n s b hs
   obtain⟨el,hu,aa,_⟩:=zK5 hs
   rintro⟨h0,ab⟩
   obtain⟨bl,hb,hv⟩:=hx
   refine Yield.pure h (x:= .pointer (some ⟨bl,off+k.toNat*s,none⟩)) ?_ ⟨bl,hb,rfl⟩
   simp[execOp,hv,yK hi,Instr.indexAt,asIntOf,run_underlying hu,wZ aa,h0,ab,wA,Instr.sureAddr]
  trivial
 .rename_i cs off kd k h1 h2
  rw[h1]at hx;rw[h2]at hi
  split
  .rename_i n s b hs
   obtain⟨el,hu,aa,_⟩:=zK5 hs
   rintro⟨h0,ab⟩
   obtain⟨bl,o',c',hv,hl,hc⟩:=hx
   refine Yield.pure h (x:= .pointer (some ⟨bl,o'+(off+k.toNat*s),none⟩)) ?_ ⟨bl,o',c',rfl,hl,hc⟩
   simp[execOp,hv,yK hi,Instr.indexAt,asIntOf,run_underlying hu,wZ aa,h0,ab,wA,Instr.sureAddr,Do]
  trivial
 .rename_i id s n lo m kd k h1 h2
  rw[h1]at hx;rw[h2]at hi
  split
  .rename_i hs
   obtain⟨el,hu,aa⟩:=zX4 hs
   rintro⟨h0,ab⟩
   obtain⟨ad,cap,hv,hm,ah,hc⟩:=hx
   obtain⟨b,o,rfl⟩:=ah om
   refine Yield.pure h (x:= .pointer (some ⟨b,o+k.toNat*s,none⟩)) ?_ ⟨b,o+k.toNat*s,rfl, ?_⟩
   .simp[execOp,hv,yK hi,Instr.indexAt,asIntOf,run_underlying hu,wZ aa,h0,ab,wA]
   grind
  trivial
 .rename_i id s off n kd k h1 h2
  rw[h1]at hx;rw[h2]at hi
  split
  .rename_i hs
   obtain⟨el,hu,aa⟩:=zX4 hs
   rintro⟨h0,ab⟩
   obtain⟨bl,hb,hv⟩:=hx
   refine Yield.pure h (x:= .pointer (some ⟨bl,off+k.toNat*s,none⟩)) ?_ ⟨bl,hb,rfl⟩
   simp[execOp,hv,yK hi,Instr.indexAt,asIntOf,run_underlying hu,wZ aa,h0,ab,wA]
  trivial
 trivial
def zQ9 (x i:V) (str:Bool) (ar:Option (Nat×Nat×Bool)):R:=
 match x,i with
 | .str b,.int _ k=>if str then .need (0<=k/\k<b.length) (.int .u8 (b.getD k.toNat 0).toNat)else .fail
 | .agg cs,.int _ k=>(match ar with
  |some (n,s,false)=> .need (0<=k/\k<n/\(k.toNat*s)<cs.length) (cs.getD (k.toNat*s) .u)
  |_=> .fail)
 |_,_=> .fail
def strT (P:Program) (t:TypeId):Bool:=match P.underlying t with|some .string=>true|_=>false
theorem xq5 (h:strT P t=true):P.underlying t=some .string:=by
 grind[strT]
theorem xZ8 {pos:String} (t:TypeId) (x i:Operand) (h:Sim c nt e σ a w L β):
  ROk (zQ9 (zD e x) (zD e i) (strT P t) (arrT P t)) σ (Yield P c ⟨dst,.index t x i,ty,pos,aft,g⟩ a w L σ β):=by
 have hx:=h.eval x
 have hi:=h.eval i
 unfold zQ9
 split
 .rename_i b kd k h1 h2
  rw[h1]at hx;rw[h2]at hi
  split
  .rename_i hs
   have hu:=xq5 hs
   rintro⟨h0,aa⟩
   have hk:k.toNat<b.length:=om
   refine Yield.pure h (x:= .int .u8 (b.getD k.toNat 0).toNat) ?_ (RdP.int _ _)
   have hg:(ByteArray.mk b.toArray)[k.toNat]? =some (b.getD k.toNat 0):=by
    have:k.toNat<(ByteArray.mk b.toArray).size:=by simpa
    rw[getElem?_pos (ByteArray.mk b.toArray) k.toNat this]
    rw[A8,A0 hk]
    rfl
   simp[execOp,za3 hx,yK hi,Instr.index,asIntOf,run_underlying hu,h0,hg]
  trivial
 .rename_i cs kd k h1 h2
  rw[h1]at hx;rw[h2]at hi
  split
  .rename_i n s hs
   obtain⟨el,hu,ad,ae⟩:=zK5 hs
   rintro⟨h0,aa,af⟩
   obtain⟨xs,hv,ab⟩:=hx
   obtain⟨y,hy,r⟩:=ab.get (k.toNat*s) _ (A0 af)
   refine Yield.pure h (x:=y) ?_ (RdS.of_cell ?_)
   .simp[execOp,hv,yK hi,Instr.index,asIntOf,run_underlying hu,wZ ad,h0,aa,part,zl1 ae,hy]
   grind
  trivial
 trivial
theorem zu5 (l:List UInt8):(ByteArray.mk l.toArray).size=l.length:=by rfl
def lenT (P:Program) (t:TypeId):Nat:=
 match P.underlying t with
 |some .string=>1
 |some (.slice _)=>2
 |_=>0
theorem xd3 (h:lenT P t=1):P.underlying t=some .string:=by
 grind[lenT]
theorem zN3 (h:lenT P t=2): ∃el,P.underlying t=some (.slice el):=by
 grind[lenT]
def zZ3 (k:Nat) (x:V):R:=
 match x with
 | .sl _ rows=>if k=2 then .ok (.int .i64 rows.length)else .fail
 | .str s=>if k=1 then .ok (.int .i64 s.length)else .fail
 | .lsv _ _ _ _ m=>if k=2 then .ok (.int .i64 m)else .fail
 | .bsv _ _ _ n=>if k=2 then .ok (.int .i64 n)else .fail
 |_=> .fail
theorem wa0 {pos:String} (t:TypeId) (x:Operand) (h:Sim c nt e σ a w L β):
  ROk (zZ3 (lenT P t) (zD e x)) σ (Yield P c ⟨dst,.call ⟨.builtin .len, #[x], #[t]⟩,ty,pos,aft,g⟩ a w L σ β):=by
 have hx:=h.eval x
 unfold zZ3
 split
 .rename_i gg rows h1
  rw[h1]at hx
  obtain⟨a',cap,hv,_,_⟩:=(zw9 hx).len
  split
  .rename_i hk
   obtain⟨el,hu⟩:=zN3 hk
   exact Yield.pure h (x:= .int .i64 rows.length) (by simp_all[execOp,resolve,invoke,builtin,Builtin.len_,run_underlying,goInt]) (RdP.int _ _)
  trivial
 .rename_i s h1
  rw[h1]at hx
  split
  .rename_i hk
   exact Yield.pure h (x:= .int .i64 s.length) (by simp[execOp,resolve,invoke,builtin,Builtin.len_,za3 hx,run_underlying (xd3 hk),goInt,zu5]) (RdP.int _ _)
  trivial
 .rename_i id s n lo m h1
  rw[h1]at hx
  obtain⟨ad,cap,hv,_⟩:=hx
  split
  .rename_i hk
   obtain⟨el,hu⟩:=zN3 hk
   exact Yield.pure h (x:= .int .i64 m) (by simp_all[execOp,resolve,invoke,builtin,Builtin.len_,run_underlying,goInt]) (RdP.int _ _)
  trivial
 .rename_i id s off n h1
  rw[h1]at hx
  obtain⟨bl,_,hv⟩:=hx
  split
  .rename_i hk
   obtain⟨el,hu⟩:=zN3 hk
   exact Yield.pure h (x:= .int .i64 n) (by simp_all[execOp,resolve,invoke,builtin,Builtin.len_,run_underlying,goInt]) (RdP.int _ _)
  trivial
 trivial
def zB0 (isMax:Bool):List V->R
 | [.int k x,.int _ y]=> .ok (.int k (if isMax then(if y>x then y else x)else(if y<x then y else x)))
 | [.str x,.str y]=> .ok (.str (if isMax then(if Op.bytesLess x y then y else x)else(if(Op.bytesLess x y||x==y)then x else y)))
 | [.int k x,.int _ y,.int _ z]=> .ok (.int k (if isMax then(let m:=if y>x then y else x;if z>m then z else m)else(let m:=if y<x then y else x;if z<m then z else m)))
 |_=> .fail
theorem xC0 {pos:String} (ts:Array TypeId) (xs:List Operand) (isMax:Bool) (h:Sim c nt e σ a w L β):
  ROk (zB0 isMax (xs.map (zD e))) σ (Yield P c ⟨dst,.call ⟨.builtin (if isMax then .max else .min),xs.toArray,ts⟩,ty,pos,aft,g⟩ a w L σ β):=by
 unfold zB0
 split
 .rename_i k m k' n hl
  obtain⟨x,y,rfl⟩: ∃x y,xs= [x,y]:=by
   cases xs with
   |nil=>grind
   |cons x xs=>cases xs<;>simp_all
  simp at hl
  have e1:=yK (hl.1▸h.eval x);have e2:=yK (hl.2▸h.eval y)
  cases isMax
  .exact Yield.pure h (x:= .int k (if n<m then n else m)) (by simp_all[execOp,resolve,invoke,builtin,Builtin.min_,Builtin.min2]) (RdP.int _ _)
  .exact Yield.pure h (x:= .int k (if n>m then n else m)) (by simp_all[execOp,resolve,invoke,builtin,Builtin.max_,Builtin.max2]) (RdP.int _ _)
 .rename_i m n hl
  obtain⟨x,y,rfl⟩: ∃x y,xs= [x,y]:=by
   cases xs with
   |nil=>grind
   |cons x xs=>cases xs<;>simp_all
  simp at hl
  have e1:=za3 (hl.1▸h.eval x);have e2:=za3 (hl.2▸h.eval y)
  cases isMax
  .refine Yield.pure h (x:= .string ⟨(if(Op.bytesLess m n||m==n)then m else n).toArray⟩) ?_ (RdP.str _)
   simp[execOp,resolve,invoke,builtin,Builtin.min_,Builtin.min2,e1,e2,Op.stringOp,asBool]
   grind
  .refine Yield.pure h (x:= .string ⟨(if Op.bytesLess m n then n else m).toArray⟩) ?_ (RdP.str _)
   simp[execOp,resolve,invoke,builtin,Builtin.max_,Builtin.max2,e1,e2,Op.stringOp,asBool]
   grind
 .rename_i k m k' n aa q hl
  obtain⟨x,y,z,rfl⟩: ∃x y z,xs= [x,y,z]:=by
   cases xs with
   |nil=>grind
   |cons x xs=>cases xs with
    |nil=>grind
    |cons y xs=>cases xs<;>simp_all
  simp at hl
  have e1:=yK (hl.1▸h.eval x);have e2:=yK (hl.2.1▸h.eval y);have e3:=yK (hl.2.2▸h.eval z)
  cases isMax
  .exact Yield.pure h (x:= .int k (let p:=if n<m then n else m;if q<p then q else p)) (by simp_all[execOp,resolve,invoke,builtin,Builtin.min_,Builtin.min2]) (RdP.int _ _)
  .exact Yield.pure h (x:= .int k (let p:=if n>m then n else m;if q>p then q else p)) (by simp_all[execOp,resolve,invoke,builtin,Builtin.max_,Builtin.max2]) (RdP.int _ _)
 trivial
end
end Go.Vx
