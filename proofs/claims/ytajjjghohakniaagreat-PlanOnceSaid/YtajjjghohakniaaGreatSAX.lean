/-
  The document's reader of statements: INSERT and UPDATE, over trees (the library Vx); used by the theorem at the end of the claim.
  Conditions: as each theorem states them.
-/
import Derived.Test.YtajjjghohakniaaGreatSAW
namespace Go.Proofs.YtajjjghohakniaaGreat
open Go Go.Vx
set_option maxRecDepth 100000
variable {L:List GToken}
def wWHERE:List UInt8:= [87,72,69,82,69]
def whS (L:List GToken) (s:RS):RS:=if isT L wWHERE s=true then(exF L (nextF s)).2 else s
def rowC (e:GExpr):List V:= [.int .i64 e.kind,.str e.s,.int .i64 e.v.kind,.int .i64 e.v.n,.str e.v.s,.sl .ro (e.args.map GExpr.row)]
def whB (L:List GToken) (s:RS) (a b:List V) (o:Ob):Ob:=if isT L wWHERE s=true then .box (a++ [.bool true]++rowC (exF L (nextF s)).1++b)else o
theorem ex_ui (hL:LIn L) {s:RS} (h:RIn L s) (ho:s.opn=0):UI L s (exF L s).2:=(ex_ok hL h ho).ui
theorem wh_ui (hL:LIn L) {s:RS} (h:RIn L s) (ho:s.opn=0):UI L s (whS L s):=by
 unfold whS
 split
 ·rename_i hi
  exact(next_ui hL h hi).trans (ex_ui hL (h.next hL hi) ho)
 ·exact UI.refl h
theorem where_w (L:List GToken) (hL:LIn L) (s:RS) (hs:RIn L s) (ho:s.opn=0) (τ:St) (j:Nat) (c0 c1 c2 c3 c4 c5 c6 c7 c8 c9 c10 c11 c12 c13 c14:V) (hj:τ[j]? =some (.box [c0,c1,c2,c3,c4,c5,c6,c7,c8,c9,c10,c11,c12,c13,c14])):
  VCalls Tryz.prog 118 [.ptr 0 0,.ptr (j+1) 0] (rB L s::τ) (fun r σ=>r= .tup []∧σ=rB L (whS L s)::τ.set j (whB L s [c0,c1,c2,c3,c4] [c12,c13,c14] (.box [c0,c1,c2,c3,c4,c5,c6,c7,c8,c9,c10,c11,c12,c13,c14]))):=by
 have hjl:=(List.getElem?_eq_some_iff.1 hj).1
 have hje:=(List.getElem?_eq_some_iff.1 hj).2
 unfold whS whB
 refine VCalls.intro (τ.length+1) Tryz.func118 Tryz.ntmps118 Tryz.results118 rfl rfl (Nat.le_of_ble_eq_true rfl) fun c hc hb=>wcode_of ?_
 by_cases q:isT L wWHERE s=true
 ·rw[if_pos q,if_pos q]
  have heat:=eat_yes L hL s hs _ q
  have hcy:=ex_w L hL (nextF s) (hs.next hL q) ho
  generalize exF L (nextF s)=y at hcy⊢
  simp[go_sem]
  refine wVC_rd heat Tryz.callB68 (rd_ptr ⟨argS_no rfl,trivial⟩) rfl ?_
  simp[go_sem]
  refine wVC_rr hcy Tryz.callB161 rd_1 ?_
  simp[go_sem,GExpr.row_eq,hje,hjl]
  refine wret_all ?_ ⟨rfl, ?_⟩
  ·simp
  ·simp[go_sem,hje,rowC]
 ·have q:isT L wWHERE s=false:=by simpa using q
  have heat:=eat_no L hL s hs _ q
  rw[if_neg (by rw[q];decide),if_neg (by rw[q];decide)]
  simp[go_sem]
  refine wVC_rd heat Tryz.callB68 (rd_ptr ⟨argS_no rfl,trivial⟩) rfl ?_
  simp[go_sem]
  refine wret_all (by simp) ⟨rfl, ?_⟩
  rw[←hje,List.set_getElem_self]
def itemF (L:List GToken) (s:RS):GItem×RS:=
 if isT L wCOUNT s=true then(⟨3,zeroE⟩,mustF L [41] (mustF L [42] (mustF L [40] (nextF s))))
 else if isT L wSUM s=true then(⟨4,(exF L (mustF L [40] (nextF s))).1⟩,mustF L [41] (exF L (mustF L [40] (nextF s))).2)
 else(⟨2,(exF L s).1⟩,(exF L s).2)
def itemsL (L:List GToken):Nat→List GItem→RS→List GItem×RS
 |0,l,s=>(l,s)
 |n+1,l,s=>
  if(moreF L l.length 6 (begF L true s) s).err=0 then
   (if isT L [44] (itemF L s).2=true then itemsL L n (l++ [(itemF L s).1]) (nextF (itemF L s).2)else(l++ [(itemF L s).1],(itemF L s).2))
  else(l,moreF L l.length 6 (begF L true s) s)
def itemsF (L:List GToken) (s:RS):List GItem×RS:=if isT L [42] s=true then([⟨1,zeroE⟩],nextF s)else itemsL L 7 [] s
theorem item_ui (hL:LIn L) {s:RS} (h:RIn L s) (ho:s.opn=0):UI L s (itemF L s).2:=by
 unfold itemF
 split
 ·rename_i hi
  have h1:=next_ui hL h hi
  have h2:=h1.trans (must_ui hL [40] h1.rin)
  have h3:=h2.trans (must_ui hL [42] h2.rin)
  exact h3.trans (must_ui hL [41] h3.rin)
 split
 ·rename_i hi
  have h1:=next_ui hL h hi
  have h2:=h1.trans (must_ui hL [40] h1.rin)
  have h3:=h2.trans (ex_ui hL h2.rin (h2.opn.trans ho))
  exact h3.trans (must_ui hL [41] h3.rin)
 ·exact ex_ui hL h ho
theorem items_ret {τ:St} {l:List GItem} {s:RS} {g:Tag} {M:List GItem×RS} (h:(l,s)=M):wret (some (.sl g (l.map GItem.row))) 1 (fun r σ=>r= .sl .ro (M.1.map GItem.row)∧σ= [rB L M.2]) (rB L s::τ):=by
 subst h
 exact wret_rd argS_ro ⟨rfl,rfl⟩
set_option maxHeartbeats 1000000 in
theorem items_w (L:List GToken) (hL:LIn L) (s0:RS) (hs0:RIn L s0) (ho0:s0.opn=0):VCalls Tryz.prog 159 [.ptr 0 0] [rB L s0] (fun r σ=>r= .sl .ro ((itemsF L s0).1.map GItem.row)∧σ= [rB L (itemsF L s0).2]):=by
 generalize hM:itemsF L s0=M
 unfold itemsF at hM
 refine VCalls.introV 1 Tryz.func159 Tryz.ntmps159 Tryz.results159 rfl rfl (Nat.le_of_ble_eq_true rfl) fun c hc hb=> ?_
 refine wVW_code ?_
 simp[go_sem]
 by_cases q0:isT L [42] s0=true
 ·rw[if_pos q0]at hM
  refine wVC_rd (eat_yes L hL s0 hs0 _ q0) Tryz.callB68 (rd_ptr ⟨argS_no rfl,trivial⟩) rfl ?_
  simp[go_sem]
  refine wret_rd (r:= .sl .ro ([(⟨1,zeroE⟩:GItem)].map GItem.row)) ?_ ⟨by rw[←hM],by rw[←hM]⟩
  exact argS_ro
 have q0:isT L [42] s0=false:=by simpa using q0
 rw[if_neg (by rw[q0];decide)]at hM
 refine wVC_rd (eat_no L hL s0 hs0 _ q0) Tryz.callB68 (rd_ptr ⟨argS_no rfl,trivial⟩) rfl ?_
 simp[go_sem]
 refine wVW_app 3 7 (by decide) (by simp[go_sem]) ?_
 refine wVW_while (S:=List GItem×RS) [0,3] (fun u=> [.ptr 0 0,.sl (.app 1) (u.1.map GItem.row)]) (fun u=> [rB L u.2,.app u.1.length 7]) (fun u=>7 - u.1.length) (fun u=>u.1.length≤6∧UI L s0 u.2∧itemsL L (7 - u.1.length) u.1 u.2=M) hc hb ([],s0) ⟨Nat.zero_le _,UI.refl hs0,hM⟩ ?_ ?_
 ·exact at_n 2 (by simp[go_sem]) rfl (by simp[rB,ltOb,ltC,ltK]) (by decide) (args_lt_eq (by simp[go_sem]) rfl)
 rintro⟨l,s⟩ ⟨hl,hu,hinv⟩
 simp only at hl hu hinv
 have hs:=hu.rin
 have ho:=hu.opn.trans ho0
 have hbeg:=begins_w L hL s hs true
 have hmore:=more_w L hL s hs l.length 6 (begF L true s)
 have hme:=moreF_err (L:=L) (n:=l.length) (most:=6) (b:=begF L true s) (s:=s)
 rw[show 7 - l.length=(6 - l.length)+1 by omega,itemsL]at hinv
 generalize begF L true s=bg at hbeg hmore hme hinv
 generalize moreF L l.length 6 bg s=m at hmore hme hinv
 by_cases q:m.err=0
 rotate_left
 ·have q':(m.err==0)=false:=by simpa using q
  rw[if_neg q]at hinv
  rw[q']at hmore
  refine wVW_code ?_
  simp[go_sem]
  refine wVC_rd hbeg Tryz.callB160 (rd_ptr ⟨argS_no rfl,trivial⟩) rfl ?_
  simp[go_sem]
  refine wVC_rd hmore Tryz.callB66 (rd_ptr ⟨argS_no rfl,argS_no rfl,argS_no rfl,trivial⟩) rfl ?_
  simp[go_sem]
  exact items_ret hinv
 have q':(m.err==0)=true:=by simpa using q
 obtain⟨he,hl6,rfl⟩:=hme q
 rw[if_pos q]at hinv
 rw[q']at hmore
 have hitu:=item_ui hL hs ho
 have hu2:=hu.trans hitu
 generalize hit:itemF L m=it at hinv hitu hu2
 unfold itemF at hit
 have heatc: ∀b,isT L [44] it.2=b→VCalls Tryz.prog 68 [.ptr 0 0,.str [44]] [rB L it.2] (fun r σ=>r= .bool b∧σ= [rB L (if b=true then nextF it.2 else it.2)]):=fun b hb=>by
  cases b with
  |true=>exact eat_yes L hL it.2 hu2.rin _ hb
  |false=>exact eat_no L hL it.2 hu2.rin _ hb
 by_cases q1:isT L wCOUNT m=true
 ·rw[if_pos q1]at hit
  have hn1:=hs.next hL q1
  have hm1:=must_w L hL _ hn1 [40]
  have hi1:=mustF_in hL (w:= [40]) hn1
  generalize mustF L [40] (nextF m)=u1 at hm1 hi1 hit
  have hm2:=must_w L hL _ hi1 [42]
  have hi2:=mustF_in hL (w:= [42]) hi1
  generalize mustF L [42] u1=u2 at hm2 hi2 hit
  have hm3:=must_w L hL _ hi2 [41]
  generalize mustF L [41] u2=u3 at hm3 hit
  subst hit
  simp only at hinv hu2 heatc
  refine wVW_code ?_
  simp[go_sem]
  refine wVC_rd hbeg Tryz.callB160 (rd_ptr ⟨argS_no rfl,trivial⟩) rfl ?_
  simp[go_sem]
  refine wVC_rd hmore Tryz.callB66 (rd_ptr ⟨argS_no rfl,argS_no rfl,argS_no rfl,trivial⟩) rfl ?_
  simp[go_sem]
  refine wVC_rd (eat_yes L hL m hs _ q1) Tryz.callB68 (rd_ptr ⟨argS_no rfl,trivial⟩) rfl ?_
  simp[go_sem]
  refine wVC_rd hm1 Tryz.callB71 (rd_ptr ⟨argS_no rfl,trivial⟩) rfl ?_
  simp[go_sem]
  refine wVC_rd hm2 Tryz.callB71 (rd_ptr ⟨argS_no rfl,trivial⟩) rfl ?_
  simp[go_sem]
  refine wVC_rd hm3 Tryz.callB71 (rd_ptr ⟨argS_no rfl,trivial⟩) rfl ?_
  simp[go_sem]
  refine wneed_i ⟨by omega,uni_one rfl⟩ ?_
  simp[go_sem]
  refine(Bool.eq_false_or_eq_true (isT L [44] u3)).elim (fun q2=> ?_) (fun q2=> ?_)
  ·rw[if_pos q2]at hinv
   refine wVC_rd (heatc true q2) Tryz.callB68 (rd_ptr ⟨argS_no rfl,trivial⟩) rfl ?_
   simp[go_sem]
   refine next_i (l++ [⟨3,zeroE⟩],nextF u3) ⟨by simp;omega,⟨by simp;omega,hu2.trans (next_ui hL hu2.rin q2),by simp only[List.length_append,List.length_singleton,show 7 - (l.length+1)=6 - l.length by omega];exact hinv⟩, ?_⟩
   exact at_n 2 (by simp[go_sem]) rfl (by simp[rB,ltOb,ltC,ltK]) (by decide) (args_lt_eq (by simp[go_sem]<;>exact⟨rfl,rfl,rfl,rfl,rfl,rfl⟩) rfl)
  ·rw[if_neg (by rw[q2];decide)]at hinv
   refine wVC_rd (heatc false q2) Tryz.callB68 (rd_ptr ⟨argS_no rfl,trivial⟩) rfl ?_
   simp[go_sem]
   exact wret_rd (L:=L) argS_ro ⟨by rw[←hinv];simp[GItem.row]<;>exact⟨rfl,rfl,rfl,rfl,rfl,rfl⟩,by rw[←hinv]⟩
 have q1:isT L wCOUNT m=false:=by simpa using q1
 rw[if_neg (by rw[q1];decide)]at hit
 by_cases q1b:isT L wSUM m=true
 ·rw[if_pos q1b]at hit
  have hn1:=hs.next hL q1b
  have hm1:=must_w L hL _ hn1 [40]
  have hi1:=mustF_in hL (w:= [40]) hn1
  have ho1:=mustF_opn (L:=L) [40] (nextF m)
  generalize mustF L [40] (nextF m)=u1 at hm1 hi1 ho1 hit
  have ho2:u1.opn=0:=by rw[ho1];exact ho
  have hx:=ex_w L hL u1 hi1 ho2
  have hxi:=(ex_ok hL hi1 ho2).rin
  generalize exF L u1=x at hx hxi hit
  have hm3:=must_w L hL _ hxi [41]
  generalize mustF L [41] x.2=u3 at hm3 hit
  subst hit
  simp only at hinv hu2 heatc
  refine wVW_code ?_
  simp[go_sem]
  refine wVC_rd hbeg Tryz.callB160 (rd_ptr ⟨argS_no rfl,trivial⟩) rfl ?_
  simp[go_sem]
  refine wVC_rd hmore Tryz.callB66 (rd_ptr ⟨argS_no rfl,argS_no rfl,argS_no rfl,trivial⟩) rfl ?_
  simp[go_sem]
  refine wVC_rd (eat_no L hL m hs _ q1) Tryz.callB68 (rd_ptr ⟨argS_no rfl,trivial⟩) rfl ?_
  simp[go_sem]
  refine wVC_rd (eat_yes L hL m hs _ q1b) Tryz.callB68 (rd_ptr ⟨argS_no rfl,trivial⟩) rfl ?_
  simp[go_sem]
  refine wVC_rd hm1 Tryz.callB71 (rd_ptr ⟨argS_no rfl,trivial⟩) rfl ?_
  simp[go_sem]
  refine wVC_rr hx Tryz.callB161 rd_1 ?_
  simp[go_sem,GExpr.row_eq]
  refine wVC_rd hm3 Tryz.callB71 (rd_ptr ⟨argS_no rfl,trivial⟩) rfl ?_
  simp[go_sem]
  refine wneed_i ⟨by omega,uni_one rfl⟩ ?_
  simp[go_sem]
  refine(Bool.eq_false_or_eq_true (isT L [44] u3)).elim (fun q2=> ?_) (fun q2=> ?_)
  ·rw[if_pos q2]at hinv
   refine wVC_rd (heatc true q2) Tryz.callB68 (rd_ptr ⟨argS_no rfl,trivial⟩) rfl ?_
   simp[go_sem]
   refine next_i (l++ [⟨4,x.1⟩],nextF u3) ⟨by simp;omega,⟨by simp;omega,hu2.trans (next_ui hL hu2.rin q2),by simp only[List.length_append,List.length_singleton,show 7 - (l.length+1)=6 - l.length by omega];exact hinv⟩, ?_⟩
   exact at_n 2 (by simp[go_sem]) rfl (by simp[rB,ltOb,ltC,ltK]) (by decide) (args_lt_eq (by simp[go_sem]<;>exact⟨rfl,rfl,rfl,rfl,rfl,rfl⟩) rfl)
  ·rw[if_neg (by rw[q2];decide)]at hinv
   refine wVC_rd (heatc false q2) Tryz.callB68 (rd_ptr ⟨argS_no rfl,trivial⟩) rfl ?_
   simp[go_sem]
   exact wret_rd (L:=L) argS_ro ⟨by rw[←hinv];simp[GItem.row]<;>exact⟨rfl,rfl,rfl,rfl,rfl,rfl⟩,by rw[←hinv]⟩
 have q1b:isT L wSUM m=false:=by simpa using q1b
 rw[if_neg (by rw[q1b];decide)]at hit
 ·have hx:=ex_w L hL m hs ho
  generalize exF L m=x at hx hit
  subst hit
  simp only at hinv hu2 heatc
  refine wVW_code ?_
  simp[go_sem]
  refine wVC_rd hbeg Tryz.callB160 (rd_ptr ⟨argS_no rfl,trivial⟩) rfl ?_
  simp[go_sem]
  refine wVC_rd hmore Tryz.callB66 (rd_ptr ⟨argS_no rfl,argS_no rfl,argS_no rfl,trivial⟩) rfl ?_
  simp[go_sem]
  refine wVC_rd (eat_no L hL m hs _ q1) Tryz.callB68 (rd_ptr ⟨argS_no rfl,trivial⟩) rfl ?_
  simp[go_sem]
  refine wVC_rd (eat_no L hL m hs _ q1b) Tryz.callB68 (rd_ptr ⟨argS_no rfl,trivial⟩) rfl ?_
  simp[go_sem]
  refine wVC_rr hx Tryz.callB161 rd_1 ?_
  simp[go_sem,GExpr.row_eq]
  refine wneed_i ⟨by omega,uni_one rfl⟩ ?_
  simp[go_sem]
  refine(Bool.eq_false_or_eq_true (isT L [44] x.2)).elim (fun q2=> ?_) (fun q2=> ?_)
  ·rw[if_pos q2]at hinv
   refine wVC_rd (heatc true q2) Tryz.callB68 (rd_ptr ⟨argS_no rfl,trivial⟩) rfl ?_
   simp[go_sem]
   refine next_i (l++ [⟨2,x.1⟩],nextF x.2) ⟨by simp;omega,⟨by simp;omega,hu2.trans (next_ui hL hu2.rin q2),by simp only[List.length_append,List.length_singleton,show 7 - (l.length+1)=6 - l.length by omega];exact hinv⟩, ?_⟩
   exact at_n 2 (by simp[go_sem]) rfl (by simp[rB,ltOb,ltC,ltK]) (by decide) (args_lt_eq (by simp[go_sem]<;>exact⟨rfl,rfl,rfl,rfl,rfl,rfl⟩) rfl)
  ·rw[if_neg (by rw[q2];decide)]at hinv
   refine wVC_rd (heatc false q2) Tryz.callB68 (rd_ptr ⟨argS_no rfl,trivial⟩) rfl ?_
   simp[go_sem]
   exact wret_rd (L:=L) argS_ro ⟨by rw[←hinv];simp[GItem.row]<;>exact⟨rfl,rfl,rfl,rfl,rfl,rfl⟩,by rw[←hinv]⟩
end Go.Proofs.YtajjjghohakniaaGreat
namespace Go.Proofs.YtajjjghohakniaaGreat
open Go Go.Vx
set_option maxRecDepth 100000
variable {L:List GToken}
def whE (L:List GToken) (s:RS):Bool×GExpr:=if isT L wWHERE s=true then(true,(exF L (nextF s)).1)else(false,zeroE)
theorem whB_eq (L:List GToken) (s:RS) (a b:List V): ∃g:Tag,whB L s a b (.box (a++ [.bool false,.int .i64 0,.str [],.int .i64 0,.int .i64 0,.str [],.sl .full []]++b))=
  .box (a++ [.bool (whE L s).1,.int .i64 (whE L s).2.kind,.str (whE L s).2.s,.int .i64 (whE L s).2.v.kind,.int .i64 (whE L s).2.v.n,.str (whE L s).2.v.s,.sl g ((whE L s).2.args.map GExpr.row)]++b):=by
 unfold whB whE
 by_cases q:isT L wWHERE s=true
 ·exact⟨.ro,by rw[if_pos q,if_pos q];simp[rowC]⟩
 ·exact⟨.full,by rw[if_neg q,if_neg q];rfl⟩
theorem whereS_w (L:List GToken) (hL:LIn L) (s:RS) (hs:RIn L s) (ho:s.opn=0) (τ:St) (j:Nat) (c0 c1 c2 c3 c4 c12 c13 c14:V) (hj:τ[j]? =some (.box [c0,c1,c2,c3,c4,.bool false,.int .i64 0,.str [],.int .i64 0,.int .i64 0,.str [],.sl .full [],c12,c13,c14])):
  ∃g:Tag,VCalls Tryz.prog 118 [.ptr 0 0,.ptr (j+1) 0] (rB L s::τ) (fun r σ=>r= .tup []∧σ=rB L (whS L s)::τ.set j (.box [c0,c1,c2,c3,c4,.bool (whE L s).1,.int .i64 (whE L s).2.kind,.str (whE L s).2.s,.int .i64 (whE L s).2.v.kind,.int .i64 (whE L s).2.v.n,.str (whE L s).2.v.s,.sl g ((whE L s).2.args.map GExpr.row),c12,c13,c14])):=by
 obtain⟨g,hg⟩:=whB_eq L s [c0,c1,c2,c3,c4] [c12,c13,c14]
 refine⟨g, ?_⟩
 have:=where_w L hL s hs ho τ j c0 c1 c2 c3 c4 _ _ _ _ _ _ _ c12 c13 c14 hj
 simp only[List.cons_append,List.nil_append]at hg
 rw[hg]at this
 exact this
def wFROM:List UInt8:= [70,82,79,77]
def wORDER:List UInt8:= [79,82,68,69,82]
def wBY:List UInt8:= [66,89]
def wASC:List UInt8:= [65,83,67]
def wDESC:List UInt8:= [68,69,83,67]
def wLIMIT:List UInt8:= [76,73,77,73,84]
def orderF (L:List GToken) (s:RS):(List UInt8×Bool)×RS:=
 if isT L wORDER s=true then
  if isT L wASC (nameF L (mustF L wBY (nextF s))).2=true then(((nameF L (mustF L wBY (nextF s))).1,false),nextF (nameF L (mustF L wBY (nextF s))).2)
  else if isT L wDESC (nameF L (mustF L wBY (nextF s))).2=true then(((nameF L (mustF L wBY (nextF s))).1,true),nextF (nameF L (mustF L wBY (nextF s))).2)
  else(((nameF L (mustF L wBY (nextF s))).1,false),(nameF L (mustF L wBY (nextF s))).2)
 else(([],false),s)
def limitF (L:List GToken) (s:RS):Int×RS:=if isT L wLIMIT s=true then numF L (nextF s)else(-1,s)
theorem order_ui (hL:LIn L) {s:RS} (h:RIn L s):UI L s (orderF L s).2:=by
 unfold orderF
 split
 ·rename_i hi
  have h1:=next_ui hL h hi
  have h2:=h1.trans (must_ui hL wBY h1.rin)
  have h3:=h2.trans (name_ui hL h2.rin)
  split
  ·exact h3.trans (next_ui hL h3.rin ‹_›)
  split
  ·exact h3.trans (next_ui hL h3.rin ‹_›)
  ·exact h3
 ·exact UI.refl h
theorem limit_ui (hL:LIn L) {s:RS} (h:RIn L s):UI L s (limitF L s).2:=by
 unfold limitF
 split
 ·rename_i hi
  have h1:=next_ui hL h hi
  exact h1.trans (num_ui hL h1.rin)
 ·exact UI.refl h
def selectsF (L:List GToken) (s:RS):GStmt×RS:=
 let x:=itemsF L s
 let n:=nameF L (mustF L wFROM x.2)
 let w:=whE L n.2
 let o:=orderF L (whS L n.2)
 let l:=limitF L o.2
 (⟨1,n.1,x.1,[],[],w.1,w.2,o.1.1,o.1.2,l.1⟩,l.2)
theorem itemsL_ui (hL:LIn L): ∀(n:Nat) (l:List GItem) (s:RS),RIn L s→s.opn=0→UI L s (itemsL L n l s).2
 |0,_,_,h,_=>UI.refl h
 |n+1,l,s,h,ho=>by
  unfold itemsL
  split
  ·rename_i he
   have h1:=item_ui hL h ho
   split
   ·have h2:=h1.trans (next_ui hL h1.rin ‹_›)
    exact h2.trans (itemsL_ui hL n _ _ h2.rin (h2.opn.trans ho))
   ·exact h1
  ·exact more_ui h
theorem items_ui (hL:LIn L) {s:RS} (h:RIn L s) (ho:s.opn=0):UI L s (itemsF L s).2:=by
 unfold itemsF
 split
 ·exact next_ui hL h ‹_›
 ·exact itemsL_ui hL 7 [] s h ho
def RT (L:List GToken) (x:GStmt×RS):V→St→Prop:=fun r σ=>r= .agg x.1.row∧σ= [rB L x.2]
theorem wret_st {g1 g2 g3 g4:Tag} {τ:St} {st:GStmt} {s:RS} {M:GStmt×RS} (h:(st,s)=M):
  wret (some (.agg [.int .i64 st.kind,.str st.table,.sl g1 (st.items.map GItem.row),.sl g2 (st.rows.map fun l=> [V.sl .ro (l.map GExpr.row)]),.sl g3 (st.sets.map GAssign.row),.bool st.filtered,.int .i64 st.where_.kind,.str st.where_.s,.int .i64 st.where_.v.kind,.int .i64 st.where_.v.n,.str st.where_.v.s,.sl g4 (st.where_.args.map GExpr.row),.str st.order,.bool st.down,.int .i64 st.limit])) 1 (RT L M) (rB L s::τ):=by
 subst h
 exact wret_rd (L:=L) (r:= .agg st.row) (argS_agg ⟨argC_no rfl,argC_no rfl,argC_ro,argC_ro,argC_ro,argC_no rfl,argC_no rfl,argC_no rfl,argC_no rfl,argC_no rfl,argC_no rfl,argC_ro,argC_no rfl,argC_no rfl,argC_no rfl,trivial⟩) ⟨rfl,rfl⟩
theorem noS_st (st:GStmt):noS (.agg st.row)=true:=rfl
set_option maxHeartbeats 2000000 in
theorem selects_w (L:List GToken) (hL:LIn L) (s:RS) (hs:RIn L s) (ho:s.opn=0):VCalls Tryz.prog 114 [.ptr 0 0] [rB L s] (RT L (selectsF L s)):=by
 generalize hM:selectsF L s=M
 unfold selectsF at hM
 have hx:=items_w L hL s hs ho
 have hu1:=items_ui hL hs ho
 generalize itemsF L s=x at hx hu1 hM
 obtain⟨xl,s1⟩:=x
 simp only at hx hu1 hM
 have hm:=must_w L hL s1 hu1.rin wFROM
 have hu2:=hu1.trans (must_ui hL wFROM hu1.rin)
 generalize mustF L wFROM s1=s2 at hm hu2 hM
 have hn:=name_w L hL s2 hu2.rin
 have hu3:=hu2.trans (name_ui hL hu2.rin)
 generalize nameF L s2=n at hn hu3 hM
 obtain⟨nm,s3⟩:=n
 simp only at hn hu3 hM
 obtain⟨gw,hw⟩:=whereS_w L hL s3 hu3.rin (hu3.opn.trans ho) [.box [.int .i64 0,.str [],.sl .full [],.sl .full [],.sl .full [],.bool false,.int .i64 0,.str [],.int .i64 0,.int .i64 0,.str [],.sl .full [],.str [],.bool false,.int .i64 0],.box [.int .i64 1,.str nm,.sl .ro (xl.map GItem.row),.sl .full [],.sl .full [],.bool false,.int .i64 0,.str [],.int .i64 0,.int .i64 0,.str [],.sl .full [],.str [],.bool false,.int .i64 (-1)]] 1 _ _ _ _ _ _ _ _ rfl
 have hu4:=hu3.trans (wh_ui hL hu3.rin (hu3.opn.trans ho))
 generalize whS L s3=s4 at hw hu4 hM
 generalize whE L s3=w at hw hM
 obtain⟨wb,we⟩:=w
 simp only[List.set_cons_succ,List.set_cons_zero]at hw hM
 have hou:=order_ui hL hu4.rin
 generalize hO:orderF L s4=o at hou hM
 obtain⟨⟨on,od⟩,s5⟩:=o
 simp only at hou hM
 have hu5:=hu4.trans hou
 generalize hl:limitF L s5=l at hM
 obtain⟨ll,s6⟩:=l
 simp only at hM
 unfold orderF at hO
 unfold limitF at hl
 refine VCalls.intro 1 Tryz.func114 Tryz.ntmps114 Tryz.results114 rfl rfl (Nat.le_of_ble_eq_true rfl) fun c hc hb=>wcode_of ?_
 simp[go_sem]
 refine wVC_rd hx Tryz.callB159 rd_1 rfl ?_
 simp[go_sem]
 refine wVC_rd hm Tryz.callB71 (rd_ptr ⟨argS_no rfl,trivial⟩) rfl ?_
 simp[go_sem]
 refine wVC_rd hn Tryz.callB117 rd_1 rfl ?_
 simp[go_sem]
 refine wVC_whole hw Tryz.callB118 ?_
 rintro r σ ⟨rfl,rfl⟩ _
 simp[go_sem]
 by_cases qO:isT L wORDER s4=true
 rotate_left
 ·have qO:isT L wORDER s4=false:=by simpa using qO
  rw[if_neg (by rw[qO];decide)]at hO
  obtain⟨⟨rfl,rfl⟩,rfl⟩:([]=on∧false=od)∧s4=s5:=by simpa using hO
  refine wVC_rd (eat_no L hL s4 hu4.rin _ qO) Tryz.callB68 (rd_ptr ⟨argS_no rfl,trivial⟩) rfl ?_
  simp[go_sem]
  by_cases qL:isT L wLIMIT s4=true
  ·rw[if_pos qL]at hl
   have hnu:=num_w L hL (nextF s4) (hu5.rin.next hL qL)
   rw[hl]at hnu
   refine wVC_rd (eat_yes L hL s4 hu5.rin _ qL) Tryz.callB68 (rd_ptr ⟨argS_no rfl,trivial⟩) rfl ?_
   simp[go_sem]
   refine wVC_rd hnu Tryz.callB72 rd_1 rfl ?_
   simp[go_sem]
   exact wret_st (st:=⟨1,nm,xl,[],[],wb,we,_,_,ll⟩) hM
  ·have qL:isT L wLIMIT s4=false:=by simpa using qL
   rw[if_neg (by rw[qL];decide)]at hl
   obtain⟨rfl,rfl⟩: -1=ll∧s4=s6:=by simpa using hl
   refine wVC_rd (eat_no L hL s4 hu5.rin _ qL) Tryz.callB68 (rd_ptr ⟨argS_no rfl,trivial⟩) rfl ?_
   simp[go_sem]
   exact wret_st (st:=⟨1,nm,xl,[],[],wb,we,_,_,-1⟩) hM
 rw[if_pos qO]at hO
 have h1:=next_ui hL hu4.rin qO
 have hb1:=must_w L hL _ h1.rin wBY
 have h2:=must_ui hL wBY h1.rin
 generalize mustF L wBY (nextF s4)=t1 at hb1 h2 hO
 have hb2:=name_w L hL _ h2.rin
 have h3:=name_ui hL h2.rin
 generalize nameF L t1=n2 at hb2 h3 hO
 obtain⟨nm2,t2⟩:=n2
 simp only at hb2 h3 hO
 refine wVC_rd (eat_yes L hL s4 hu4.rin _ qO) Tryz.callB68 (rd_ptr ⟨argS_no rfl,trivial⟩) rfl ?_
 simp[go_sem]
 refine wVC_rd hb1 Tryz.callB71 (rd_ptr ⟨argS_no rfl,trivial⟩) rfl ?_
 simp[go_sem]
 refine wVC_rd hb2 Tryz.callB117 rd_1 rfl ?_
 simp[go_sem]
 by_cases qA:isT L wASC t2=true
 ·rw[if_pos qA]at hO
  obtain⟨⟨rfl,rfl⟩,rfl⟩:(nm2=on∧false=od)∧nextF t2=s5:=by simpa using hO
  refine wVC_rd (eat_yes L hL t2 h3.rin _ qA) Tryz.callB68 (rd_ptr ⟨argS_no rfl,trivial⟩) rfl ?_
  simp[go_sem]
  by_cases qL:isT L wLIMIT (nextF t2)=true
  ·rw[if_pos qL]at hl
   have hnu:=num_w L hL (nextF (nextF t2)) (hu5.rin.next hL qL)
   rw[hl]at hnu
   refine wVC_rd (eat_yes L hL (nextF t2) hu5.rin _ qL) Tryz.callB68 (rd_ptr ⟨argS_no rfl,trivial⟩) rfl ?_
   simp[go_sem]
   refine wVC_rd hnu Tryz.callB72 rd_1 rfl ?_
   simp[go_sem]
   exact wret_st (st:=⟨1,nm,xl,[],[],wb,we,_,_,ll⟩) hM
  ·have qL:isT L wLIMIT (nextF t2)=false:=by simpa using qL
   rw[if_neg (by rw[qL];decide)]at hl
   obtain⟨rfl,rfl⟩: -1=ll∧(nextF t2)=s6:=by simpa using hl
   refine wVC_rd (eat_no L hL (nextF t2) hu5.rin _ qL) Tryz.callB68 (rd_ptr ⟨argS_no rfl,trivial⟩) rfl ?_
   simp[go_sem]
   exact wret_st (st:=⟨1,nm,xl,[],[],wb,we,_,_,-1⟩) hM
 have qA:isT L wASC t2=false:=by simpa using qA
 rw[if_neg (by rw[qA];decide)]at hO
 refine wVC_rd (eat_no L hL t2 h3.rin _ qA) Tryz.callB68 (rd_ptr ⟨argS_no rfl,trivial⟩) rfl ?_
 simp[go_sem]
 by_cases qD:isT L wDESC t2=true
 ·rw[if_pos qD]at hO
  obtain⟨⟨rfl,rfl⟩,rfl⟩:(nm2=on∧true=od)∧nextF t2=s5:=by simpa using hO
  refine wVC_rd (eat_yes L hL t2 h3.rin _ qD) Tryz.callB68 (rd_ptr ⟨argS_no rfl,trivial⟩) rfl ?_
  simp[go_sem]
  by_cases qL:isT L wLIMIT (nextF t2)=true
  ·rw[if_pos qL]at hl
   have hnu:=num_w L hL (nextF (nextF t2)) (hu5.rin.next hL qL)
   rw[hl]at hnu
   refine wVC_rd (eat_yes L hL (nextF t2) hu5.rin _ qL) Tryz.callB68 (rd_ptr ⟨argS_no rfl,trivial⟩) rfl ?_
   simp[go_sem]
   refine wVC_rd hnu Tryz.callB72 rd_1 rfl ?_
   simp[go_sem]
   exact wret_st (st:=⟨1,nm,xl,[],[],wb,we,_,_,ll⟩) hM
  ·have qL:isT L wLIMIT (nextF t2)=false:=by simpa using qL
   rw[if_neg (by rw[qL];decide)]at hl
   obtain⟨rfl,rfl⟩: -1=ll∧(nextF t2)=s6:=by simpa using hl
   refine wVC_rd (eat_no L hL (nextF t2) hu5.rin _ qL) Tryz.callB68 (rd_ptr ⟨argS_no rfl,trivial⟩) rfl ?_
   simp[go_sem]
   exact wret_st (st:=⟨1,nm,xl,[],[],wb,we,_,_,-1⟩) hM
 ·have qD:isT L wDESC t2=false:=by simpa using qD
  rw[if_neg (by rw[qD];decide)]at hO
  obtain⟨⟨rfl,rfl⟩,rfl⟩:(nm2=on∧false=od)∧t2=s5:=by simpa using hO
  refine wVC_rd (eat_no L hL t2 h3.rin _ qD) Tryz.callB68 (rd_ptr ⟨argS_no rfl,trivial⟩) rfl ?_
  simp[go_sem]
  by_cases qL:isT L wLIMIT t2=true
  ·rw[if_pos qL]at hl
   have hnu:=num_w L hL (nextF t2) (hu5.rin.next hL qL)
   rw[hl]at hnu
   refine wVC_rd (eat_yes L hL t2 hu5.rin _ qL) Tryz.callB68 (rd_ptr ⟨argS_no rfl,trivial⟩) rfl ?_
   simp[go_sem]
   refine wVC_rd hnu Tryz.callB72 rd_1 rfl ?_
   simp[go_sem]
   exact wret_st (st:=⟨1,nm,xl,[],[],wb,we,_,_,ll⟩) hM
  ·have qL:isT L wLIMIT t2=false:=by simpa using qL
   rw[if_neg (by rw[qL];decide)]at hl
   obtain⟨rfl,rfl⟩: -1=ll∧t2=s6:=by simpa using hl
   refine wVC_rd (eat_no L hL t2 hu5.rin _ qL) Tryz.callB68 (rd_ptr ⟨argS_no rfl,trivial⟩) rfl ?_
   simp[go_sem]
   exact wret_st (st:=⟨1,nm,xl,[],[],wb,we,_,_,-1⟩) hM
end Go.Proofs.YtajjjghohakniaaGreat
namespace Go.Proofs.YtajjjghohakniaaGreat
open Go Go.Vx
set_option maxRecDepth 100000
variable {L:List GToken}
def rowL (L:List GToken):Nat→List GExpr→RS→Bool×List GExpr×RS
 |0,l,s=>(false,l,s)
 |n+1,l,s=>
  if(moreF L l.length 6 (begF L false s) s).err=0 then
   (if isT L [44] (exF L s).2=true then rowL L n (l++ [(exF L s).1]) (nextF (exF L s).2)else(true,l++ [(exF L s).1],(exF L s).2))
  else(false,l,moreF L l.length 6 (begF L false s) s)
def rowsL (L:List GToken):Nat→List (List GExpr)→RS→List (List GExpr)×RS
 |0,R,s=>(R,s)
 |n+1,R,s=>
  if(moreF L R.length 16 (isT L [40] s) s).err=0 then
   (if(rowL L 7 [] (mustF L [40] s)).1=true then
    (if isT L [44] (mustF L [41] (rowL L 7 [] (mustF L [40] s)).2.2)=true then rowsL L n (R++ [(rowL L 7 [] (mustF L [40] s)).2.1]) (nextF (mustF L [41] (rowL L 7 [] (mustF L [40] s)).2.2))
    else(R++ [(rowL L 7 [] (mustF L [40] s)).2.1],mustF L [41] (rowL L 7 [] (mustF L [40] s)).2.2))
   else(R,(rowL L 7 [] (mustF L [40] s)).2.2))
  else(R,moreF L R.length 16 (isT L [40] s) s)
def wINTO:List UInt8:= [73,78,84,79]
def wVALUES:List UInt8:= [86,65,76,85,69,83]
def insertsF (L:List GToken) (s:RS):GStmt×RS:=
 let n:=nameF L (mustF L wINTO s)
 let r:=rowsL L 17 [] (mustF L wVALUES n.2)
 (⟨2,n.1,[],r.1,[],false,zeroE,[],false,0⟩,r.2)
theorem rowL_ui (hL:LIn L): ∀(n:Nat) (l:List GExpr) (s:RS),RIn L s→s.opn=0→UI L s (rowL L n l s).2.2
 |0,_,_,h,_=>UI.refl h
 |n+1,l,s,h,ho=>by
  unfold rowL
  split
  ·have h1:=ex_ui hL h ho
   split
   ·have h2:=h1.trans (next_ui hL h1.rin ‹_›)
    exact h2.trans (rowL_ui hL n _ _ h2.rin (h2.opn.trans ho))
   ·exact h1
  ·exact more_ui h
theorem rowsL_ui (hL:LIn L): ∀(n:Nat) (R:List (List GExpr)) (s:RS),RIn L s→s.opn=0→UI L s (rowsL L n R s).2
 |0,_,_,h,_=>UI.refl h
 |n+1,R,s,h,ho=>by
  unfold rowsL
  split
  ·have h1:=must_ui hL [40] h
   have h2:=h1.trans (rowL_ui hL 7 [] _ h1.rin (h1.opn.trans ho))
   split
   ·have h3:=h2.trans (must_ui hL [41] h2.rin)
    split
    ·have h4:=h3.trans (next_ui hL h3.rin ‹_›)
     exact h4.trans (rowsL_ui hL n _ _ h4.rin (h4.opn.trans ho))
    ·exact h3
   ·exact h2
  ·exact more_ui h
theorem inserts_ui (hL:LIn L) {s:RS} (h:RIn L s) (ho:s.opn=0):UI L s (insertsF L s).2:=by
 unfold insertsF
 have h1:=must_ui hL wINTO h
 have h2:=h1.trans (name_ui hL h1.rin)
 have h3:=h2.trans (must_ui hL wVALUES h2.rin)
 exact h3.trans (rowsL_ui hL 17 [] _ h3.rin (h3.opn.trans ho))
def inB (nm:List UInt8) (R:List (List GExpr)):Ob:= .box [.int .i64 2,.str nm,.sl .full [],.sl (.app 3) (R.map fun l=> [V.sl .ro (l.map GExpr.row)]),.sl .full [],.bool false,.int .i64 0,.str [],.int .i64 0,.int .i64 0,.str [],.sl .full [],.str [],.bool false,.int .i64 0]
def zSt:Ob:= .box [.int .i64 0,.str [],.sl .full [],.sl .full [],.sl .full [],.bool false,.int .i64 0,.str [],.int .i64 0,.int .i64 0,.str [],.sl .full [],.str [],.bool false,.int .i64 0]
set_option maxHeartbeats 2000000 in
theorem inserts_w (L:List GToken) (hL:LIn L) (s0:RS) (hs0:RIn L s0) (ho0:s0.opn=0):VCalls Tryz.prog 115 [.ptr 0 0] [rB L s0] (RT L (insertsF L s0)):=by
 generalize hM:insertsF L s0=M
 unfold insertsF at hM
 have hm1:=must_w L hL s0 hs0 wINTO
 have hu1:=must_ui hL wINTO hs0
 generalize mustF L wINTO s0=s1 at hm1 hu1 hM
 have hn:=name_w L hL s1 hu1.rin
 have hu2:=hu1.trans (name_ui hL hu1.rin)
 generalize nameF L s1=n at hn hu2 hM
 obtain⟨nm,s2⟩:=n
 simp only at hn hu2 hM
 have hm2:=must_w L hL s2 hu2.rin wVALUES
 have hu3:=hu2.trans (must_ui hL wVALUES hu2.rin)
 generalize mustF L wVALUES s2=s3 at hm2 hu3 hM
 obtain⟨X,hX⟩: ∃X,rowsL L 17 [] s3=X:=⟨_,rfl⟩
 rw[hX]at hM
 have ret: ∀(R:List (List GExpr)) (s:RS) (τ:St),(R,s)=X→wret (some (.agg [.int .i64 2,.str nm,.sl .full [],.sl (.app 3) (R.map fun l=> [V.sl .ro (l.map GExpr.row)]),.sl .full [],.bool false,.int .i64 0,.str [],.int .i64 0,.int .i64 0,.str [],.sl .full [],.str [],.bool false,.int .i64 0])) 1 (RT L M) (rB L s::τ):=fun R s τ h=>by
  subst h
  exact wret_st (st:=⟨2,nm,[],R,[],false,zeroE,[],false,0⟩) hM
 refine VCalls.introV 1 Tryz.func115 Tryz.ntmps115 Tryz.results115 rfl rfl (Nat.le_of_ble_eq_true rfl) fun c hc hb=> ?_
 refine wVW_code ?_
 simp[go_sem]
 refine wVC_rd hm1 Tryz.callB71 (rd_ptr ⟨argS_no rfl,trivial⟩) rfl ?_
 simp[go_sem]
 refine wVC_rd hn Tryz.callB117 rd_1 rfl ?_
 simp[go_sem]
 refine wVC_rd hm2 Tryz.callB71 (rd_ptr ⟨argS_no rfl,trivial⟩) rfl ?_
 simp[go_sem]
 refine wVW_appB 2 3 1 _ (by decide) rfl rfl ?_
 simp only[List.set_cons_succ,List.set_cons_zero]
 refine wVW_while (S:=List (List GExpr)×RS) [0,2,3] (fun u=> [.ptr 0 0,.ptr 1 0,.ptr 2 0]) (fun u=> [rB L u.2,zSt,inB nm u.1,.app u.1.length 1]) (fun u=>17 - u.1.length) (fun u=>u.1.length≤16∧UI L s0 u.2∧rowsL L (17 - u.1.length) u.1 u.2=X) hc hb ([],s3) ⟨Nat.zero_le _,hu3,hX⟩ ?_ ?_
 ·exact at_n 4 (by simp[go_sem];exact⟨rfl,rfl⟩) rfl (by simp[rB,zSt,inB,ltOb,ltC,ltK]) (by decide) (args_lt_eq (by simp[go_sem]) rfl)
 rintro⟨R,s⟩ ⟨hR,hu,hinv⟩
 simp only at hR hu hinv
 have hs:=hu.rin
 have ho:=hu.opn.trans ho0
 have hbeg:=is_w L hL s hs [40]
 have hmore:=more_w L hL s hs R.length 16 (isT L [40] s)
 have hme:=moreF_err (L:=L) (n:=R.length) (most:=16) (b:=isT L [40] s) (s:=s)
 rw[show 17 - R.length=(16 - R.length)+1 by omega,rowsL]at hinv
 generalize isT L [40] s=bg at hbeg hmore hme hinv
 generalize moreF L R.length 16 bg s=m at hmore hme hinv
 by_cases q:m.err=0
 rotate_left
 ·have q':(m.err==0)=false:=by simpa using q
  rw[if_neg q]at hinv
  rw[q']at hmore
  refine wVW_code ?_
  simp[go_sem]
  refine wdraw_but [(5,3),(6,3)] 1 4 (by simp) (by kernel_rfl) (by kernel_rfl) ?_
  simp[go_sem,inB]
  refine wVD_rd hbeg Tryz.callB69 (rd_ptr ⟨argS_no rfl,trivial⟩) rfl ?_
  simp[go_sem]
  refine wVD_rd hmore Tryz.callB66 (rd_ptr ⟨argS_no rfl,argS_no rfl,argS_no rfl,trivial⟩) rfl ?_
  simp[go_sem]
  exact ret _ _ _ hinv
 have q':(m.err==0)=true:=by simpa using q
 obtain⟨he,hl6,rfl⟩:=hme q
 rw[if_pos q]at hinv
 rw[q']at hmore
 have hm4:=must_w L hL m hs [40]
 have hu4:=hu.trans (must_ui hL [40] hs)
 generalize mustF L [40] m=s4 at hm4 hu4 hinv
 obtain⟨Y,hY⟩: ∃Y,rowL L 7 [] s4=Y:=⟨_,rfl⟩
 rw[hY]at hinv
 refine wVW_code ?_
 simp[go_sem]
 refine wdraw_but [(5,3),(6,3)] 1 4 (by simp) (by kernel_rfl) (by kernel_rfl) ?_
 simp[go_sem,inB]
 refine wVD_rd hbeg Tryz.callB69 (rd_ptr ⟨argS_no rfl,trivial⟩) rfl ?_
 simp[go_sem]
 refine wVD_rd hmore Tryz.callB66 (rd_ptr ⟨argS_no rfl,argS_no rfl,argS_no rfl,trivial⟩) rfl ?_
 simp[go_sem]
 refine wVC_rd hm4 Tryz.callB71 (rd_ptr ⟨argS_no rfl,trivial⟩) rfl ?_
 simp[go_sem]
 refine wVW_app 4 6 (by decide) (by simp[go_sem]) ?_
 refine wVW_while (S:=List GExpr×RS) [0,2,3,4] (fun u=> [.ptr 0 0,.ptr 1 0,.ptr 2 0,.sl (.app 4) (u.1.map GExpr.row)]) (fun u=> [rB L u.2,zSt,inB nm R,.app R.length 1,.app u.1.length 6]) (fun u=>7 - u.1.length) (fun u=>u.1.length≤6∧UI L s0 u.2∧rowL L (7 - u.1.length) u.1 u.2=Y) hc hb ([],s4) ⟨Nat.zero_le _,hu4,hY⟩ ?_ ?_
 ·exact at_n 5 (by simp[go_sem];rfl) rfl (by simp[rB,zSt,inB,ltOb,ltC,ltK]) (by decide) (args_lt_eq (by simp[go_sem]) rfl)
 rintro⟨l,t⟩ ⟨hl,hut,hrow⟩
 simp only at hl hut hrow
 have ht:=hut.rin
 have hto:=hut.opn.trans ho0
 have hbeg2:=begins_w L hL t ht false
 have hmore2:=more_w L hL t ht l.length 6 (begF L false t)
 have hme2:=moreF_err (L:=L) (n:=l.length) (most:=6) (b:=begF L false t) (s:=t)
 rw[show 7 - l.length=(6 - l.length)+1 by omega,rowL]at hrow
 generalize begF L false t=bg2 at hbeg2 hmore2 hme2 hrow
 generalize moreF L l.length 6 bg2 t=m2 at hmore2 hme2 hrow
 by_cases q2:m2.err=0
 rotate_left
 ·have q2':(m2.err==0)=false:=by simpa using q2
  rw[if_neg q2]at hrow
  rw[q2']at hmore2
  have hY1:Y.1=false:=by rw[←hrow]
  have hY2:Y.2.2=m2:=by rw[←hrow]
  rw[if_neg (by rw[hY1];decide),hY2]at hinv
  refine wVW_code ?_
  simp[go_sem]
  refine wVC_rd hbeg2 Tryz.callB160 (rd_ptr ⟨argS_no rfl,trivial⟩) rfl ?_
  simp[go_sem]
  refine wVC_rd hmore2 Tryz.callB66 (rd_ptr ⟨argS_no rfl,argS_no rfl,argS_no rfl,trivial⟩) rfl ?_
  simp[go_sem,inB]
  exact ret _ _ _ hinv
 have q2':(m2.err==0)=true:=by simpa using q2
 obtain⟨he2,hl62,rfl⟩:=hme2 q2
 rw[if_pos q2]at hrow
 rw[q2']at hmore2
 have hx:=ex_w L hL m2 ht hto
 have hux:=hut.trans (ex_ui hL ht hto)
 generalize exF L m2=x at hx hux hrow
 by_cases q3:isT L [44] x.2=true
 ·rw[if_pos q3]at hrow
  refine wVW_code ?_
  simp[go_sem]
  refine wVC_rd hbeg2 Tryz.callB160 (rd_ptr ⟨argS_no rfl,trivial⟩) rfl ?_
  simp[go_sem]
  refine wVC_rd hmore2 Tryz.callB66 (rd_ptr ⟨argS_no rfl,argS_no rfl,argS_no rfl,trivial⟩) rfl ?_
  simp[go_sem]
  refine wVC_rr hx Tryz.callB161 rd_1 ?_
  simp[go_sem,GExpr.row_eq]
  refine wneed_i ⟨by omega,uni_one rfl⟩ ?_
  simp[go_sem]
  refine wVC_rd (eat_yes L hL x.2 hux.rin _ q3) Tryz.callB68 (rd_ptr ⟨argS_no rfl,trivial⟩) rfl ?_
  simp[go_sem]
  refine next_i (l++ [x.1],nextF x.2) ⟨by simp;omega,⟨by simp;omega,hux.trans (next_ui hL hux.rin q3),by simp only[List.length_append,List.length_singleton,show 7 - (l.length+1)=6 - l.length by omega];exact hrow⟩, ?_⟩
  exact at_n 5 (by simp[go_sem]) rfl (by simp[rB,zSt,inB,ltOb,ltC,ltK]) (by decide) (args_lt_eq (by simp[go_sem,GExpr.row_eq]) rfl)
 have q3:isT L [44] x.2=false:=by simpa using q3
 rw[if_neg (by rw[q3];decide)]at hrow
 have hY1:Y.1=true:=by rw[←hrow]
 have hY2:Y.2.2=x.2:=by rw[←hrow]
 have hY3:Y.2.1=l++ [x.1]:=by rw[←hrow]
 rw[if_pos hY1,hY2,hY3]at hinv
 have hm5:=must_w L hL x.2 hux.rin [41]
 have hu5:=hux.trans (must_ui hL [41] hux.rin)
 generalize mustF L [41] x.2=s5 at hm5 hu5 hinv
 refine wVW_code ?_
 simp[go_sem]
 refine wVC_rd hbeg2 Tryz.callB160 (rd_ptr ⟨argS_no rfl,trivial⟩) rfl ?_
 simp[go_sem]
 refine wVC_rd hmore2 Tryz.callB66 (rd_ptr ⟨argS_no rfl,argS_no rfl,argS_no rfl,trivial⟩) rfl ?_
 simp[go_sem]
 refine wVC_rr hx Tryz.callB161 rd_1 ?_
 simp[go_sem,GExpr.row_eq]
 refine wneed_i ⟨by omega,uni_one rfl⟩ ?_
 simp[go_sem]
 refine wVC_rd (eat_no L hL x.2 hux.rin _ q3) Tryz.callB68 (rd_ptr ⟨argS_no rfl,trivial⟩) rfl ?_
 simp[go_sem]
 refine wVC_rd hm5 Tryz.callB71 (rd_ptr ⟨argS_no rfl,trivial⟩) rfl ?_
 simp[go_sem,inB]
 refine wneed_i ⟨by omega,uni_one rfl⟩ ?_
 simp[go_sem]
 by_cases q5:isT L [44] s5=true
 ·rw[if_pos q5]at hinv
  refine wVC_rd (eat_yes L hL s5 hu5.rin _ q5) Tryz.callB68 (rd_ptr ⟨argS_no rfl,trivial⟩) rfl ?_
  simp[go_sem]
  refine next_i (R++ [l++ [x.1]],nextF s5) ⟨by simp;omega,⟨by simp;omega,hu5.trans (next_ui hL hu5.rin q5),by simp only[List.length_append,List.length_singleton,show 17 - (R.length+1)=16 - R.length by omega];exact hinv⟩, ?_⟩
  exact at_n 4 (by simp[go_sem,GExpr.row_eq]) rfl (by simp[rB,zSt,inB,ltOb,ltC,ltK]) (by decide) (args_lt_eq (by simp[go_sem]) rfl)
 ·have q5:isT L [44] s5=false:=by simpa using q5
  rw[if_neg (by rw[q5];decide)]at hinv
  refine wVC_rd (eat_no L hL s5 hu5.rin _ q5) Tryz.callB68 (rd_ptr ⟨argS_no rfl,trivial⟩) rfl ?_
  simp[go_sem]
  have hr:=ret (R++ [l++ [x.1]]) s5
  simp[GExpr.row_eq]at hr
  exact hr _ hinv
end Go.Proofs.YtajjjghohakniaaGreat
