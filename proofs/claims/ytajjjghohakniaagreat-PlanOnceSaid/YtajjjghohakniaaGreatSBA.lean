/-
  Contracts of functions that the claimed statement reaches, each proved over trees (the library Vx); used by the theorem at the end of the claim.
  Conditions: as each theorem states them.
-/
import Derived.Test.YtajjjghohakniaaGreatSAZ
import Derived.Test.YtajjjghohakniaaGreatSAU
import Derived.Test.YtajjjghohakniaaGreatSAS
import Derived.Test.YtajjjghohakniaaGreatSAQ
import Derived.Test.YtajjjghohakniaaGreatSAO
namespace Go.Proofs.YtajjjghohakniaaGreat
open Go Go.Vx
set_option maxRecDepth 100000
variable {L:List GToken}
structure EOk (e:GExpr):Prop where
 good:Good e
 wide:Wide e
 size:sizeF e≤4000
structure SOk (st:GStmt):Prop where
 kind:i64R st.kind
 table:st.table.length≤1048576
 items:st.items.length≤12∧ ∀x∈st.items,i64R x.kind∧EOk x.e
 rows:st.rows.length≤20∧ ∀r∈st.rows,r.length≤12∧ ∀e∈r,EOk e
 sets:st.sets.length≤12∧ ∀x∈st.sets,x.name.length≤1048576∧EOk x.e
 where_:EOk st.where_
 order:st.order.length≤1048576
 limit:i64R st.limit
structure LOk (l:GLot):Prop where
 mode:i64R l.mode
 n:i64R l.n
 stmts:l.stmts.length≤12∧ ∀st∈l.stmts,SOk st
theorem lot0_ok:LOk lot0:=⟨by show i64R 0;unfold i64R;decide,by show i64R 0;unfold i64R;decide,Nat.zero_le _,fun st hst=>by cases hst⟩
structure ES (s:RS) (e:GExpr):Prop where
 good:Good e
 wide:Wide e
 size:s.err=0→sizeF e≤2001
theorem ES.mono {s s':RS} {e:GExpr} (h:ES s e) (u:UI L s s'):ES s' e:=⟨h.good,h.wide,fun q=>h.size (u.err q)⟩
theorem ES.ok {s:RS} {e:GExpr} (h:ES s e) (hs:s.err=0):EOk e:=⟨h.good,h.wide,by have:=h.size hs;omega⟩
theorem es_zero (s:RS):ES s zeroE:=⟨good_0,wide_0 rfl,fun _=>by rw[size_leaf rfl];decide⟩
theorem ex_es (hL:LIn L) (hG:LGood L) (h2:L.length≤2001) {s:RS} (hs:RIn L s) (ho:s.opn=0):ES (exF L s).2 (exF L s).1:=by
 have h:=ex_ok hL hs ho
 have k:=ex_j hL hG hs ho
 exact⟨k.good,h.wide,fun q=>by have:=k.size q;have:=h.rin.at_;omega⟩
theorem numF_rng (hG:LGood L) {s:RS} (hs:RIn L s):i64R (numF L s).1:=by
 unfold numF i64R
 split
 ·have:=hG.num _ (tokF_mem hs);simp only;omega
 ·simp
structure SS (s:RS) (st:GStmt):Prop where
 kind:i64R st.kind
 table:st.table.length≤1048576
 items:st.items.length≤12∧ ∀x∈st.items,i64R x.kind∧ES s x.e
 rows:st.rows.length≤20∧ ∀r∈st.rows,r.length≤12∧ ∀e∈r,ES s e
 sets:st.sets.length≤12∧ ∀x∈st.sets,x.name.length≤1048576∧ES s x.e
 where_:ES s st.where_
 order:st.order.length≤1048576
 limit:i64R st.limit
theorem SS.mono {s s':RS} {st:GStmt} (h:SS s st) (u:UI L s s'):SS s' st:=
 ⟨h.kind,h.table,⟨h.items.1,fun x hx=>⟨(h.items.2 x hx).1,(h.items.2 x hx).2.mono u⟩⟩,⟨h.rows.1,fun r hr=>⟨(h.rows.2 r hr).1,fun e he=>((h.rows.2 r hr).2 e he).mono u⟩⟩,⟨h.sets.1,fun x hx=>⟨(h.sets.2 x hx).1,(h.sets.2 x hx).2.mono u⟩⟩,h.where_.mono u,h.order,h.limit⟩
theorem SS.ok {s:RS} {st:GStmt} (h:SS s st) (hs:s.err=0):SOk st:=
 ⟨h.kind,h.table,⟨h.items.1,fun x hx=>⟨(h.items.2 x hx).1,(h.items.2 x hx).2.ok hs⟩⟩,⟨h.rows.1,fun r hr=>⟨(h.rows.2 r hr).1,fun e he=>((h.rows.2 r hr).2 e he).ok hs⟩⟩,⟨h.sets.1,fun x hx=>⟨(h.sets.2 x hx).1,(h.sets.2 x hx).2.ok hs⟩⟩,h.where_.ok hs,h.order,h.limit⟩
theorem end_err {s:RS} (h:(endF L s).err=0):s.err=0:=by
 unfold endF at h
 split at h
 ·exact absurd h (failF_err (by decide))
 ·exact h
section
variable (hL:LIn L) (hG:LGood L) (h2:L.length≤2001)
include hL hG h2
theorem item_ss {s:RS} (h:RIn L s) (ho:s.opn=0):i64R (itemF L s).1.kind∧ES (itemF L s).2 (itemF L s).1.e:=by
 unfold itemF
 split
 ·exact⟨by unfold i64R;simp,es_zero _⟩
 split
 ·rename_i hi
  have h1:=next_ui hL h hi
  have h3:=h1.trans (must_ui hL [40] h1.rin)
  have hx:=ex_es hL hG h2 h3.rin (h3.opn.trans ho)
  exact⟨by unfold i64R;simp,hx.mono (must_ui hL [41] (h3.trans (ex_ui hL h3.rin (h3.opn.trans ho))).rin)⟩
 ·exact⟨by unfold i64R;simp,ex_es hL hG h2 h ho⟩
theorem itemsL_ss: ∀(n:Nat) (l:List GItem) (s:RS),RIn L s→s.opn=0→l.length≤6→(∀x∈l,i64R x.kind∧ES s x.e)→
  (itemsL L n l s).1.length≤12∧ ∀x∈(itemsL L n l s).1,i64R x.kind∧ES (itemsL L n l s).2 x.e
 |0,l,s,_,_,hl,hx=>⟨by simp only[itemsL];omega,hx⟩
 |n+1,l,s,h,ho,hl,hx=>by
  unfold itemsL
  split
  ·rename_i he
   obtain⟨_,h6,_⟩:=moreF_err he
   have hu:=item_ui hL h ho
   have hi:=item_ss hL hG h2 h ho
   have hx2: ∀x∈l++ [(itemF L s).1],i64R x.kind∧ES (itemF L s).2 x.e:=fun x hx'=>by
    rw[List.mem_append]at hx'
    rcases hx' with hx'|hx'
    ·exact⟨(hx x hx').1,(hx x hx').2.mono hu⟩
    ·simp only[List.mem_cons,List.not_mem_nil,or_false]at hx'
     subst hx'
     exact hi
   split
   ·have hn:=next_ui hL hu.rin ‹_›
    exact itemsL_ss n _ _ hn.rin ((hu.trans hn).opn.trans ho) (by simp;omega) (fun x hx'=>⟨(hx2 x hx').1,(hx2 x hx').2.mono hn⟩)
   ·exact⟨by simp;omega,hx2⟩
  ·exact⟨by simp only;omega,fun x hx'=>⟨(hx x hx').1,(hx x hx').2.mono (more_ui h)⟩⟩
theorem items_ss {s:RS} (h:RIn L s) (ho:s.opn=0):(itemsF L s).1.length≤12∧ ∀x∈(itemsF L s).1,i64R x.kind∧ES (itemsF L s).2 x.e:=by
 unfold itemsF
 split
 ·refine⟨by simp,fun x hx=> ?_⟩
  simp only[List.mem_cons,List.not_mem_nil,or_false]at hx
  subst hx
  exact⟨by unfold i64R;simp,es_zero _⟩
 ·exact itemsL_ss hL hG h2 7 [] s h ho (by simp) (fun x hx=>by cases hx)
theorem wh_ss {s:RS} (h:RIn L s) (ho:s.opn=0):ES (whS L s) (whE L s).2:=by
 unfold whS whE
 by_cases q:isT L wWHERE s=true
 ·rw[if_pos q,if_pos q]
  exact ex_es hL hG h2 (h.next hL q) ho
 ·rw[if_neg q,if_neg q]
  exact es_zero _
theorem rowL_ss: ∀(n:Nat) (l:List GExpr) (s:RS),RIn L s→s.opn=0→l.length≤6→(∀e∈l,ES s e)→
  (rowL L n l s).2.1.length≤12∧ ∀e∈(rowL L n l s).2.1,ES (rowL L n l s).2.2 e
 |0,l,s,_,_,hl,hx=>⟨by simp only[rowL];omega,hx⟩
 |n+1,l,s,h,ho,hl,hx=>by
  unfold rowL
  split
  ·rename_i he
   obtain⟨_,h6,_⟩:=moreF_err he
   have hu:=ex_ui hL h ho
   have hi:=ex_es hL hG h2 h ho
   have hx2: ∀x∈l++ [(exF L s).1],ES (exF L s).2 x:=fun x hx'=>by
    rw[List.mem_append]at hx'
    rcases hx' with hx'|hx'
    ·exact(hx x hx').mono hu
    ·simp only[List.mem_cons,List.not_mem_nil,or_false]at hx'
     subst hx'
     exact hi
   split
   ·have hn:=next_ui hL hu.rin ‹_›
    exact rowL_ss n _ _ hn.rin ((hu.trans hn).opn.trans ho) (by simp;omega) (fun x hx'=>(hx2 x hx').mono hn)
   ·exact⟨by simp;omega,hx2⟩
  ·exact⟨by simp only;omega,fun x hx'=>(hx x hx').mono (more_ui h)⟩
theorem rowsL_ss: ∀(n:Nat) (R:List (List GExpr)) (s:RS),RIn L s→s.opn=0→R.length≤16→(∀r∈R,r.length≤12∧ ∀e∈r,ES s e)→
  (rowsL L n R s).1.length≤20∧ ∀r∈(rowsL L n R s).1,r.length≤12∧ ∀e∈r,ES (rowsL L n R s).2 e
 |0,R,s,_,_,hl,hx=>⟨by simp only[rowsL];omega,hx⟩
 |n+1,R,s,h,ho,hl,hx=>by
  unfold rowsL
  split
  ·rename_i he
   obtain⟨_,h6,_⟩:=moreF_err he
   have hu1:=must_ui hL [40] h
   have hr:=rowL_ss hL hG h2 7 [] _ hu1.rin (hu1.opn.trans ho) (by simp) (fun e he=>by cases he)
   have hu2:=hu1.trans (rowL_ui hL 7 [] _ hu1.rin (hu1.opn.trans ho))
   generalize rowL L 7 [] (mustF L [40] s)=r at hr hu2
   split
   ·have hu3:=must_ui hL [41] hu2.rin
    have hx2: ∀y∈R++ [r.2.1],y.length≤12∧ ∀e∈y,ES (mustF L [41] r.2.2) e:=fun y hy=>by
     rw[List.mem_append]at hy
     rcases hy with hy|hy
     ·exact⟨(hx y hy).1,fun e he=>((hx y hy).2 e he).mono (hu2.trans hu3)⟩
     ·simp only[List.mem_cons,List.not_mem_nil,or_false]at hy
      subst hy
      exact⟨hr.1,fun e he=>(hr.2 e he).mono hu3⟩
    split
    ·have hn:=next_ui hL hu3.rin ‹_›
     exact rowsL_ss n _ _ hn.rin (((hu2.trans hu3).trans hn).opn.trans ho) (by simp;omega) (fun y hy=>⟨(hx2 y hy).1,fun e he=>((hx2 y hy).2 e he).mono hn⟩)
    ·exact⟨by simp;omega,hx2⟩
   ·exact⟨by simp only;omega,fun y hy=>⟨(hx y hy).1,fun e he=>((hx y hy).2 e he).mono hu2⟩⟩
  ·exact⟨by simp only;omega,fun y hy=>⟨(hx y hy).1,fun e he=>((hx y hy).2 e he).mono (more_ui h)⟩⟩
theorem setsL_ss: ∀(n:Nat) (l:List GAssign) (s:RS),RIn L s→s.opn=0→l.length≤6→(∀x∈l,x.name.length≤1048576∧ES s x.e)→
  (setsL L n l s).2.1.length≤12∧ ∀x∈(setsL L n l s).2.1,x.name.length≤1048576∧ES (setsL L n l s).2.2 x.e
 |0,l,s,_,_,hl,hx=>⟨by simp only[setsL];omega,hx⟩
 |n+1,l,s,h,ho,hl,hx=>by
  unfold setsL
  split
  ·rename_i he
   obtain⟨_,h6,_⟩:=moreF_err he
   have hn0:=nameF_len hG h
   have hu1:=name_ui hL h
   have hu2:=hu1.trans (must_ui hL [61] hu1.rin)
   have hi:=ex_es hL hG h2 hu2.rin (hu2.opn.trans ho)
   have hu:=hu2.trans (ex_ui hL hu2.rin (hu2.opn.trans ho))
   generalize exF L (mustF L [61] (nameF L s).2)=x at hi hu
   have hx2: ∀y∈l++ [⟨(nameF L s).1,x.1⟩],y.name.length≤1048576∧ES x.2 y.e:=fun y hy=>by
    rw[List.mem_append]at hy
    rcases hy with hy|hy
    ·exact⟨(hx y hy).1,(hx y hy).2.mono hu⟩
    ·simp only[List.mem_cons,List.not_mem_nil,or_false]at hy
     subst hy
     exact⟨hn0,hi⟩
   split
   ·have hn:=next_ui hL hu.rin ‹_›
    exact setsL_ss n _ _ hn.rin ((hu.trans hn).opn.trans ho) (by simp;omega) (fun y hy=>⟨(hx2 y hy).1,(hx2 y hy).2.mono hn⟩)
   ·exact⟨by simp;omega,hx2⟩
  ·exact⟨by simp only;omega,fun x hx'=>⟨(hx x hx').1,(hx x hx').2.mono (more_ui h)⟩⟩
theorem selects_ss {s:RS} (h:RIn L s) (ho:s.opn=0):SS (selectsF L s).2 (selectsF L s).1:=by
 unfold selectsF
 simp only
 have hx:=items_ss hL hG h2 h ho
 have h1:=items_ui hL h ho
 generalize itemsF L s=x at hx h1
 have u2:=must_ui hL wFROM h1.rin
 have hnl:=nameF_len hG (h1.trans u2).rin
 have u3:=name_ui hL (h1.trans u2).rin
 generalize nameF L (mustF L wFROM x.2)=n at hnl u3
 have hw:=wh_ss hL hG h2 u3.rin ((h1.trans (u2.trans u3)).opn.trans ho)
 have u4:=wh_ui hL u3.rin ((h1.trans (u2.trans u3)).opn.trans ho)
 have u5:=order_ui hL u4.rin
 have hon:(orderF L (whS L n.2)).1.1.length≤1048576:=by
  unfold orderF
  split
  ·rename_i hi
   have v1:=next_ui hL u4.rin hi
   have v2:=v1.trans (must_ui hL wBY v1.rin)
   split
   ·exact nameF_len hG v2.rin
   split
   ·exact nameF_len hG v2.rin
   ·exact nameF_len hG v2.rin
  ·exact Nat.zero_le _
 generalize orderF L (whS L n.2)=o at u5 hon
 have u6:=limit_ui hL u5.rin
 have hln:i64R (limitF L o.2).1:=by
  unfold limitF
  split
  ·exact numF_rng hG (u5.rin.next hL ‹_›)
  ·unfold i64R;simp
 generalize limitF L o.2=l at u6 hln
 have u:=u2.trans (u3.trans (u4.trans (u5.trans u6)))
 exact⟨by unfold i64R;simp,hnl,⟨hx.1,fun x hx'=>⟨(hx.2 x hx').1,(hx.2 x hx').2.mono u⟩⟩,⟨Nat.zero_le _,fun r hr=>by cases hr⟩,⟨Nat.zero_le _,fun r hr=>by cases hr⟩,hw.mono (u5.trans u6),hon,hln⟩
theorem inserts_ss {s:RS} (h:RIn L s) (ho:s.opn=0):SS (insertsF L s).2 (insertsF L s).1:=by
 unfold insertsF
 have u1:=must_ui hL wINTO h
 have hnl:=nameF_len hG u1.rin
 have u2:=u1.trans (name_ui hL u1.rin)
 generalize nameF L (mustF L wINTO s)=n at hnl u2
 have u3:=u2.trans (must_ui hL wVALUES u2.rin)
 have hr:=rowsL_ss hL hG h2 17 [] _ u3.rin (u3.opn.trans ho) (by simp) (fun r hr=>by cases hr)
 exact⟨by unfold i64R;simp,hnl,⟨Nat.zero_le _,fun r hr=>by cases hr⟩,hr,⟨Nat.zero_le _,fun r hr=>by cases hr⟩,es_zero _,Nat.zero_le _,by unfold i64R;simp⟩
theorem updates_ss {s:RS} (h:RIn L s) (ho:s.opn=0):SS (updatesF L s).2 (updatesF L s).1:=by
 unfold updatesF
 have hnl:=nameF_len hG h
 have u2:=name_ui hL h
 generalize nameF L s=n at hnl u2
 have u3:=u2.trans (must_ui hL wSET u2.rin)
 have hr:=setsL_ss hL hG h2 7 [] _ u3.rin (u3.opn.trans ho) (by simp) (fun r hr=>by cases hr)
 have u4:=u3.trans (setsL_ui hL 7 [] _ u3.rin (u3.opn.trans ho))
 simp only
 generalize setsL L 7 [] (mustF L wSET n.2)=r at hr u4
 split
 ·have hw:=wh_ss hL hG h2 u4.rin (u4.opn.trans ho)
  have u5:=wh_ui hL u4.rin (u4.opn.trans ho)
  exact⟨by unfold i64R;simp,hnl,⟨Nat.zero_le _,fun r hr=>by cases hr⟩,⟨Nat.zero_le _,fun r hr=>by cases hr⟩,⟨hr.1,fun x hx=>⟨(hr.2 x hx).1,(hr.2 x hx).2.mono u5⟩⟩,hw,Nat.zero_le _,by unfold i64R;simp⟩
 ·exact⟨by unfold i64R;simp,hnl,⟨Nat.zero_le _,fun r hr=>by cases hr⟩,⟨Nat.zero_le _,fun r hr=>by cases hr⟩,hr,es_zero _,Nat.zero_le _,by unfold i64R;simp⟩
theorem stmt_ss {s:RS} (h:RIn L s) (ho:s.opn=0):SS (stmtF L s).2 (stmtF L s).1:=by
 unfold stmtF
 split
 ·exact selects_ss hL hG h2 (h.next hL ‹_›) ho
 split
 ·exact inserts_ss hL hG h2 (h.next hL ‹_›) ho
 split
 ·exact updates_ss hL hG h2 (h.next hL ‹_›) ho
 ·have u1:=must_ui hL wDELETE h
  have u2:=u1.trans (must_ui hL wFROM u1.rin)
  have hnl:=nameF_len hG u2.rin
  have u3:=u2.trans (name_ui hL u2.rin)
  exact⟨by unfold i64R;simp,hnl,⟨Nat.zero_le _,fun r hr=>by cases hr⟩,⟨Nat.zero_le _,fun r hr=>by cases hr⟩,⟨Nat.zero_le _,fun r hr=>by cases hr⟩,wh_ss hL hG h2 u3.rin (u3.opn.trans ho),Nat.zero_le _,by unfold i64R;simp⟩
theorem stmtsL_ss: ∀(n:Nat) (l:List GStmt) (s:RS),RIn L s→s.opn=0→l.length≤8→(∀x∈l,SS s x)→
  (stmtsL L n l s).1.length≤8∧ ∀x∈(stmtsL L n l s).1,SS (stmtsL L n l s).2 x
 |0,l,s,_,_,hl,hx=>⟨hl,hx⟩
 |n+1,l,s,h,ho,hl,hx=>by
  unfold stmtsL
  split
  ·split
   ·rename_i he
    obtain⟨_,h8,_⟩:=moreF_err he
    have hu:=stmt_ui hL h ho
    have hi:=stmt_ss hL hG h2 h ho
    have hx2: ∀x∈l++ [(stmtF L s).1],SS (stmtF L s).2 x:=fun x hx'=>by
     rw[List.mem_append]at hx'
     rcases hx' with hx'|hx'
     ·exact(hx x hx').mono hu
     ·simp only[List.mem_cons,List.not_mem_nil,or_false]at hx'
      subst hx'
      exact hi
    have hl2:(l++ [(stmtF L s).1]).length≤8:=by simp;omega
    split
    ·have hn:=next_ui hL hu.rin ‹_›
     have hx3:=fun x hx'=>(hx2 x hx').mono hn
     split
     ·exact⟨hl2,hx3⟩
     ·exact stmtsL_ss n _ _ hn.rin ((hu.trans hn).opn.trans ho) hl2 hx3
    ·exact⟨hl2,hx2⟩
   ·exact⟨hl,fun x hx'=>(hx x hx').mono (more_ui h)⟩
  ·exact⟨hl,hx⟩
theorem read_ok (h1:1≤L.length):LOk (readF L).1:=by
 have h0:RIn L rs0:=⟨by show 0<_;omega,by show(0:Int)≤0∧(0:Int)≤100000;omega⟩
 unfold readF
 simp only
 have hs:=stmtsL_ss hL hG h2 9 [] rs0 h0 rfl (Nat.zero_le _) (fun x hx=>by cases hx)
 have hu:=stmtsL_ui hL 9 [] rs0 h0 rfl
 generalize stmtsL L 9 [] rs0=x at hs hu
 have ha:=as_ui hL hu.rin
 have hm:i64R (asF L x.2).1.1∧i64R (asF L x.2).1.2:=by
  unfold asF
  split
  ·rename_i hi
   have v1:=asS_ui hL hu.rin hi
   split
   ·exact⟨by unfold i64R;simp,numF_rng hG (v1.rin.next hL ‹_›)⟩
   ·exact⟨by unfold i64R;simp,numF_rng hG v1.rin⟩
  ·exact⟨by unfold i64R;simp,by unfold i64R;simp⟩
 generalize asF L x.2=a at ha hm
 split
 ·rename_i he
  have h3:=ha.err (end_err he)
  exact⟨hm.1,hm.2,by simp only;omega,fun st hst=>(hs.2 st hst).ok h3⟩
 ·exact lot0_ok
end
theorem parse_ok (s:List UInt8):LOk (parseF s).1:=by
 unfold parseF
 split
 ·rename_i h
  obtain⟨_,hL,hG,h1,h2⟩:=lexF_ok h
  exact read_ok hL hG h2 h1
 ·exact lot0_ok
theorem parse_8 (s:List UInt8):(parseF s).1.stmts.length≤8:=by
 unfold parseF
 split
 ·rename_i h
  obtain⟨_,hL,hG,h1,h2⟩:=lexF_ok h
  have h0:RIn (lexF s).1 rs0:=⟨by show 0<_;omega,by show(0:Int)≤0∧(0:Int)≤100000;omega⟩
  have hs:=stmtsL_ss hL hG h2 9 [] rs0 h0 rfl (Nat.zero_le _) (fun x hx=>by cases hx)
  unfold readF
  simp only
  split
  ·exact hs.1
  ·exact Nat.zero_le _
 ·exact Nat.zero_le _
end Go.Proofs.YtajjjghohakniaaGreat
namespace Go.Proofs.YtajjjghohakniaaGreat
open Go Go.Vx
set_option maxRecDepth 100000
theorem sizesF_drop (l:List GExpr) (i:Nat) (h:i<l.length):sizesF (l.drop i)=sizeF l[i]+sizesF (l.drop (i+1)):=by
 rw[List.drop_eq_getElem_cons h,sizesF]
theorem deepsF_drop (l:List GExpr) (i:Nat) (h:i<l.length):deepsF (l.drop i)=max (deepF l[i]) (deepsF (l.drop (i+1))):=by
 rw[List.drop_eq_getElem_cons h,deepsF]
theorem sizeF_pos (e:GExpr):1≤sizeF e:=by rw[sizeF_eq];omega
theorem deepF_pos (e:GExpr):1≤deepF e:=by rw[deepF_eq];omega
def smallR (e:GExpr) (deep n:Int) (r:V) (σ:St):Prop:=r= .bool (decide ((deepF e:Int)+deep≤65))∧ ∃m:Int,σ= [.box [.int .i64 m]]∧n≤m∧m≤n+sizeF e
theorem small_w: ∀(k:Nat) (e:GExpr) (deep n:Int),deepF e≤k→Wide e→0≤n→n+sizeF e≤4096→0≤deep→deep≤1000000→VCalls Tryz.prog 172 [.agg e.row,.int .i64 deep,.ptr 0 0] [.box [.int .i64 n]] (smallR e deep n)
 |0,e,_,_,h,_,_,_,_,_=>by have:=deepF_pos e;omega
 |k+1,e,deep,n,h,hw,hn0,hn1,hd0,hd1=>by
  have ih:=small_w k
  have hde:=deepF_eq e
  have hse:=sizeF_eq e
  obtain⟨M,hM⟩: ∃M,decide ((deepF e:Int)+deep≤65)=M:=⟨_,rfl⟩
  unfold smallR
  rw[hM]
  obtain⟨args,hargs⟩: ∃args,e.args=args:=⟨_,rfl⟩
  have hlen:=hw.len
  have hsub:=hw.sub
  rw[hargs]at hde hse hlen hsub
  have e1:IntKind.i64.wrap (n+1)=n+1:=i64_id (by omega) (by omega)
  have e2:IntKind.i64.wrap (deep+1)=deep+1:=i64_id (by omega) (by omega)
  obtain⟨sz,hsz⟩: ∃sz,sizeF e=sz:=⟨_,rfl⟩
  rw[hsz]at hse hn1⊢
  have ret: ∀(b:Bool) (m:Int) (τ:St),b=M→n≤m→m≤n+sz→wret (some (.bool b)) 1 (fun r σ=>r= .bool M∧ ∃m:Int,σ= [.box [.int .i64 m]]∧n≤m∧m≤n+sz) (.box [.int .i64 m]::τ):=fun b m τ h1 h2 h3=>by
   subst h1
   exact wret_s 1 rfl rfl (by rfl) (Nat.le_refl _) (argS_no rfl) ⟨rfl,m,rfl,h2,h3⟩
  refine VCalls.introV 1 Tryz.func172 Tryz.ntmps172 Tryz.results172 rfl rfl (Nat.le_of_ble_eq_true rfl) fun c hc hb=> ?_
  refine wVW_code ?_
  simp[go_sem,e1]
  by_cases q1:64<deep
  ·have q1':decide (64<deep)=true:=decide_eq_true q1
   have hM:false=M:=by rw[←hM];exact(decide_eq_false (by omega)).symm
   simp[go_sem,q1']
   exact ret _ _ _ hM (by omega) (by omega)
  have q1':decide (64<deep)=false:=decide_eq_false q1
  have q2':decide (4096<n+1)=false:=decide_eq_false (by omega)
  simp[go_sem,q1',q2',hargs]
  refine wVW_while (S:=Nat×Int) [1,2,23,24,25] (fun u=> [.int .i64 deep,.ptr 0 0,.sl .ro (args.map GExpr.row),.int .i64 args.length,.int .i64 (u.1:Int)]) (fun u=> [.box [.int .i64 u.2]]) (fun u=>args.length - u.1)
   (fun u=>u.1≤args.length∧n≤u.2∧u.2+sizesF (args.drop u.1)≤n+sz∧decide ((deepsF (args.drop u.1):Int)+(deep+1)≤65)=M) hc hb (0,n+1)
   ⟨Nat.zero_le _,by simp only;omega,by simp only[List.drop_zero];omega,by rw[←hM,List.drop_zero];exact decide_eq_decide.2 (by omega)⟩ ?_ ?_
  ·exact at_n 1 (by simp[go_sem]) rfl (by rfl) (Nat.le_refl _) (args_lt_eq (by simp[go_sem]) rfl)
  rintro⟨i,m⟩ ⟨hi,hm0,hm1,hinv⟩
  simp only at hi hm0 hm1 hinv
  by_cases q:i<args.length
  rotate_left
  ·rw[List.drop_eq_nil_of_le (by omega)]at hinv hm1
   have hinv:true=M:=by rw[←hinv,deepsF];exact(decide_eq_true (by omega)).symm
   refine wVW_code ?_
   simp[go_sem,q]
   exact ret _ _ _ hinv hm0 (by rw[sizesF]at hm1;omega)
  have ei:=i64_inc q (by omega)
  have hsd:=sizesF_drop args i q
  have hdd:=deepsF_drop args i q
  obtain⟨x,hx⟩: ∃x,args[i]=x:=⟨_,rfl⟩
  have hxm:x∈args:=hx▸List.getElem_mem q
  have hdx:=deepsF_mem args x hxm
  rw[hx]at hsd hdd
  rw[hsd]at hm1
  rw[hdd]at hinv
  have hcall:=ih x (deep+1) m (by omega) (hsub x hxm) (by omega) (by omega) (by omega) (by omega)
  by_cases q3:(deepF x:Int)+(deep+1)≤65
  ·refine wVW_code ?_
   simp[go_sem,q,hx,e2]
   refine wVC_at 0 hcall Tryz.callB172 rfl (by rfl) ⟨.inl (by simp[go_sem,renS,renA,renC,renK]),argS_no rfl,.inl rfl,trivial⟩ (fun r σ h=>by
    obtain⟨_,m2,rfl,_⟩:=h
    exact⟨_,rfl,rfl⟩) ?_
   rintro r o2 ⟨rfl,m2,h1,h2,h3⟩
   obtain rfl:o2= .box [.int .i64 m2]:=by simpa using h1
   rw[decide_eq_true q3]
   simp[go_sem,ei]
   refine next_i (i+1,m2) ⟨by simp only;omega,⟨by simp only;omega,by simp only;omega,by simp only;omega, ?_⟩, ?_⟩
   ·rw[←hinv]
    show decide ((deepsF (args.drop (i+1)):Int)+(deep+1)≤65)=_
    exact decide_eq_decide.2 (by omega)
   ·exact at_n 1 (by simp[go_sem]) rfl (by rfl) (Nat.le_refl _) (args_lt_eq (by simp[go_sem]) rfl)
  ·have hinv:false=M:=by rw[←hinv];exact(decide_eq_false (by omega)).symm
   refine wVW_code ?_
   simp[go_sem,q,hx,e2]
   refine wVC_at 0 hcall Tryz.callB172 rfl (by rfl) ⟨.inl (by simp[go_sem,renS,renA,renC,renK]),argS_no rfl,.inl rfl,trivial⟩ (fun r σ h=>by
    obtain⟨_,m2,rfl,_⟩:=h
    exact⟨_,rfl,rfl⟩) ?_
   rintro r o2 ⟨rfl,m2,h1,h2,h3⟩
   obtain rfl:o2= .box [.int .i64 m2]:=by simpa using h1
   rw[decide_eq_false q3]
   simp[go_sem]
   exact ret _ _ _ hinv (by omega) (by omega)
end Go.Proofs.YtajjjghohakniaaGreat
namespace Go.Proofs.YtajjjghohakniaaGreat
open Go Go.Vx
set_option maxRecDepth 100000
def isAnd (e:GExpr):Bool:=e.kind==3&&e.s== [65,78,68]&&e.args.length==2
def bfs:Nat→List GExpr→List GExpr→List GExpr
 |0,_,l=>l
 |_+1,[],l=>l
 |n+1,e::q,l=>if isAnd e=true then bfs n (q++e.args) l else bfs n q (l++ [e])
def conjF (st:GStmt):List GExpr:=if st.filtered=true then bfs 4096 [st.where_] []else []
theorem exprs_uni (l:List GExpr):uni 6 (l.map GExpr.row):=uni_map fun e=>by rw[GExpr.row_eq];rfl
theorem conjuncts_w (st:GStmt):Pure Tryz.prog 53 [.agg st.row] (.sl .ro ((conjF st).map GExpr.row)):=by
 generalize hM:conjF st=M
 have ret: ∀(r:List GExpr) (g:Tag) (σ:St),r=M→wret (some (.sl g (r.map GExpr.row))) 0 (fun r s=>r= .sl .ro (M.map GExpr.row)∧s= []) σ:=fun r g σ h=>by subst h;exact wret_0 argS_ro ⟨rfl,rfl⟩
 unfold conjF at hM
 refine VCalls.introV 0 Tryz.func53 Tryz.ntmps53 Tryz.results53 rfl rfl (Nat.le_of_ble_eq_true rfl) fun c hc hb=> ?_
 refine wVW_hint 26 (by decide) ?_
 refine wVW_code ?_
 simp[go_sem]
 by_cases hf:st.filtered=true
 rotate_left
 ·have hf':st.filtered=false:=by simpa using hf
  rw[if_neg hf]at hM
  simp[go_sem,hf']
  exact ret [] _ _ hM
 rw[if_pos hf]at hM
 simp[go_sem,hf]
 refine wVW_appF 4 6 [st.where_.row] (by decide) (exprs_uni [st.where_]) (by simp[go_sem]) ?_
 refine wVW_app 3 6 (by decide) (by simp[go_sem]) ?_
 refine wVW_while (S:=Nat×List GExpr×List GExpr) [3,4,5,100026] (fun u=> [.sl (.app 1) (u.2.2.map GExpr.row),.sl (.app 0) (u.2.1.map GExpr.row),.int .i64 u.1,.tup []]) (fun u=> [.app u.2.1.length 6,.app u.2.2.length 6]) (fun u=>4096 - u.1)
  (fun u=>u.1≤4096∧u.2.1.length≤1+u.1∧u.2.2.length≤u.1∧bfs (4096 - u.1) u.2.1 u.2.2=M) hc hb (0,[st.where_],[]) ⟨Nat.zero_le _,by simp,by simp,hM⟩ ?_ ?_
 ·exact at_pick [1,2] (by decide) rfl ⟨by simp[go_sem,renOb],by simp[go_sem,renOb],trivial⟩ ⟨.inl (by simp[go_sem,renS,renA,renC,renK,ren]),.inl (by simp[go_sem,renS,renA,renC,renK,ren]),argS_no rfl,argS_no rfl,trivial⟩
 rintro⟨n,q,l⟩ ⟨hn,hql,hll,hinv⟩
 simp only at hn hql hll hinv
 cases q with
 |nil=>
  have hl:l=M:=by rw[←hinv];cases h:4096 - n<;>rfl
  refine wVW_code ?_
  simp[go_sem]
  exact ret l _ _ hl
 |cons e q=>
 by_cases hn2:n<4096
 rotate_left
 ·have hl:l=M:=by rw[←hinv,show 4096 - n=0 by omega];rfl
  have hd:decide ((n:Int)<4096)=false:=decide_eq_false (by omega)
  refine wVW_code ?_
  simp[go_sem,hd]
  exact ret l _ _ hl
 have hd:decide ((n:Int)<4096)=true:=decide_eq_true (by omega)
 rw[show 4096 - n=(4096 - (n+1))+1 by omega,bfs]at hinv
 have ei:IntKind.i64.wrap ((n:Int)+1)=((n+1:Nat):Int):=by rw[i64_id (by omega) (by omega)];omega
 refine wVW_code ?_
 simp[go_sem,hd]
 refine wneed_i (by omega) ?_
 simp[go_sem]
 by_cases hA:isAnd e=true
 ·rw[if_pos hA]at hinv
  have hA':=hA
  unfold isAnd at hA'
  simp only[Bool.and_eq_true,beq_iff_eq]at hA'
  obtain⟨⟨q1,q2⟩,q3⟩:=hA'
  simp[go_sem,q1,q2,q3]
  refine wneed_i ⟨by simp at hql;omega,exprs_uni _⟩ ?_
  simp[go_sem,ei]
  refine next_i (n+1,q++e.args,l) ⟨by simp only;omega,⟨by simp only;omega,by simp at hql⊢;omega,by simp only;omega,hinv⟩, ?_⟩
  exact at_pick [3,1] (by decide) rfl ⟨by simp[go_sem,renOb,q3],by simp[go_sem,renOb],trivial⟩ ⟨.inl (by simp[go_sem,renS,renA,renC,renK,ren]),.inl (by simp[go_sem,renS,renA,renC,renK,ren]),argS_no rfl,argS_no rfl,trivial⟩
 ·have hA':(e.kind==3&&e.s== [65,78,68]&&e.args.length==2)=false:=by simpa[isAnd]using hA
  rw[if_neg hA]at hinv
  have key:(e.kind==3)=false∨((e.kind==3)=true∧(e.s== [65,78,68])=false)∨((e.kind==3)=true∧(e.s== [65,78,68])=true∧((e.args.length:Int)==2)=false):=by
   revert hA'
   have e3:((e.args.length:Int)==2)=(e.args.length==2):=by
    rw[Bool.eq_iff_iff];simp;omega
   rw[e3]
   cases e.kind==3<;>cases e.s== [65,78,68]<;>cases e.args.length==2<;>simp
  refine key.elim (fun q1=> ?_) fun key=>key.elim (fun q1=> ?_) fun q1=> ?_
  all_goals simp[go_sem,q1]
  all_goals refine wneed_i ⟨by omega,uni_one rfl⟩ ?_
  all_goals simp[go_sem,ei]
  all_goals refine next_i (n+1,q,l++ [e]) ⟨by simp only;omega,⟨by simp only;omega,by simp at hql⊢;omega,by simp;omega,hinv⟩, ?_⟩
  all_goals exact at_pick [3,1] (by decide) rfl ⟨by simp[go_sem,renOb],by simp[go_sem,renOb],trivial⟩ ⟨.inl (by simp[go_sem,renS,renA,renC,renK,ren]),.inl (by simp[go_sem,renS,renA,renC,renK,ren]),argS_no rfl,argS_no rfl,trivial⟩
def noCut:V:= .tup [.str [],.agg [.int .i64 0,.int .i64 0,.str []],.bool false]
def against (e:GExpr) (name:List UInt8):Option (List UInt8×GValue):=
 match e.kind==3,e.args with
 |true,[a,b]=>
  if b.kind=2 then(if b.s=name∧a.kind=1∧a.v.kind≠0 then some (turnF e.s,a.v)else none)
  else if a.kind=2∧a.s=name∧b.kind=1∧b.v.kind≠0 then some (e.s,b.v)else none
 |_,_=>none
def cutV:Option (List UInt8×GValue)→V
 |none=>noCut
 |some (s,v)=> .tup [.str s,.agg v.row,.bool true]
theorem against_w (e:GExpr) (name:List UInt8):Pure Tryz.prog 54 [.agg e.row,.str name] (cutV (against e name)):=by
 generalize hM:against e name=M
 have no: ∀(σ:St),none=M→wret (some noCut) 0 (fun r s=>r=cutV M∧s= []) σ:=fun σ h=>by subst h;exact wret_0 (argS_no rfl) ⟨rfl,rfl⟩
 have yes: ∀(s:List UInt8) (v:GValue) (σ:St),some (s,v)=M→wret (some (.tup [.str s,.agg v.row,.bool true])) 0 (fun r s=>r=cutV M∧s= []) σ:=fun s v σ h=>by subst h;exact wret_0 (argS_no rfl) ⟨rfl,rfl⟩
 unfold against at hM
 refine VCalls.intro 0 Tryz.func54 Tryz.ntmps54 Tryz.results54 rfl rfl (Nat.le_of_ble_eq_true rfl) fun c hc hb=>wcode_of ?_
 simp[go_sem]
 by_cases q1:e.kind=3
 rotate_left
 ·have q1':(e.kind !=3)=true:=by simpa using q1
  have q1'':(e.kind==3)=false:=by simpa using q1
  simp only[q1'']at hM
  simp[go_sem,q1']
  exact no _ hM
 have q1':(e.kind !=3)=false:=by simpa using q1
 have q1'':(e.kind==3)=true:=by simpa using q1
 simp only[q1'']at hM
 obtain⟨k,hk⟩: ∃k,e.kind=k:=⟨_,rfl⟩
 simp[go_sem,q1']
 by_cases q2:e.args.length=2
 rotate_left
 ·have q2':((e.args.length:Int) !=2)=true:=by simpa using (show ¬(e.args.length:Int)=2 by omega)
  simp[go_sem,q2']
  refine no _ ?_
  rw[←hM]
  split
  ·rename_i h;rw[h]at q2;exact absurd rfl q2
  ·rfl
 have q2':((e.args.length:Int) !=2)=false:=by simpa using (show(e.args.length:Int)=2 by omega)
 simp[go_sem,q2']
 obtain⟨a,b,hab⟩: ∃a b,e.args= [a,b]:=by
  match e.args,q2 with
  | [a,b],_=>exact⟨a,b,rfl⟩
 simp only[hab]at hM
 refine wdraw2 [(12,3),(13,3)] 1 10 (by simp) (by kernel_rfl) (by rw[hc];exact Nat.zero_le _) hb (by kernel_rfl) rfl (by repeat' (first|exact LtE.env0|refine LtE.upd ?_ (by simp[ltS,ltA,ltC,ltK]))) (by simp only[List.take_succ_cons,List.take_zero,List.drop_succ_cons,List.drop_zero];exact rfl) (by simp only[List.take_succ_cons,List.take_zero,List.drop_succ_cons,List.drop_zero];exact rfl) ?_
 simp[go_sem,hab]
 refine⟨by repeat' (first|exact LtE.env0|refine LtE.upd ?_ (by simp[ltS,ltA,ltC,ltK])), ?_⟩
 by_cases q3:b.kind=2
 ·have q3':(b.kind==2)=true:=by simpa using q3
  rw[if_pos q3]at hM
  simp[go_sem,q3']
  refine wdraw_le [(0,2),(1,2),(3,0),(4,3),(5,3)] 2 (by simp) (by kernel_rfl) (by kernel_rfl) ?_
  simp[go_sem]
  refine wVD_pure (turned_w e.s) Tryz.callB106 (fun _=>args_no rfl) rfl ?_
  have q4:(b.kind !=2)=false:=by simpa using q3
  simp[go_sem,q3',q4]
  repeat' (first
   |(refine wgrd_i (fun q=> ?_) (fun q=> ?_)<;>simp[go_sem,q])
   |(refine wcond_i (fun q=> ?_) (fun q=> ?_)<;>simp[go_sem,q])
   |(refine wdraw_le [(2,2),(4,3)] 1 (by simp) (by kernel_rfl) (by kernel_rfl) ?_;simp[go_sem]))
  all_goals first|exact no _ (by rw[←hM];simp_all)|exact yes _ _ _ (by rw[←hM];simp_all)
 ·have q3':(b.kind==2)=false:=by simpa using q3
  rw[if_neg q3]at hM
  simp[go_sem,q3']
  repeat' (first
   |(refine wgrd_i (fun q=> ?_) (fun q=> ?_)<;>simp[go_sem,q])
   |(refine wcond_i (fun q=> ?_) (fun q=> ?_)<;>simp[go_sem,q])
   |(refine wdraw_le [(2,2),(4,3)] 1 (by simp) (by kernel_rfl) (by kernel_rfl) ?_;simp[go_sem]))
  all_goals first|exact no _ (by rw[←hM];simp_all)|exact yes _ _ _ (by rw[←hM];simp_all)
end Go.Proofs.YtajjjghohakniaaGreat
namespace Go.Proofs.YtajjjghohakniaaGreat.R
open Go Go.Vx
set_option maxRecDepth 100000
def bys (l:List UInt8):V:= .sl .ro (byteRows l)
theorem byteRows_len (l:List UInt8):(byteRows l).length=l.length:=by simp[byteRows]
theorem byteRows_u (l:List UInt8):uni 1 (byteRows l):=fun r hr=>by
 obtain⟨x,_,rfl⟩:=List.mem_map.1 hr
 rfl
def byA (l:List UInt8):V:= .sl (.app 0) (byteRows l)
def stA (l:List UInt8):St:= [.app l.length 1]
abbrev maxB:Nat:=1000000000
theorem room_w (b:List UInt8) (n:Nat) (hb:b.length≤maxB) (hn:n≤maxB):VCalls Tryz.prog 188 [bys b,.int .i64 n] [] fun r s=>r=byA b∧s=stA b:=by
 refine VCalls.intro 0 Tryz.func188 Tryz.ntmps188 Tryz.results188 rfl rfl (Nat.le_of_ble_eq_true rfl) fun c hc hb=>wcode_of ?_
 simp[go_sem,bys,byteRows_len]
 have e1:IntKind.i64.wrap ((b.length:Int)+n)=((b.length+n:Nat):Int):=by rw[i64_id (by unfold maxB at*;omega) (by unfold maxB at*;omega)];omega
 simp[go_sem,e1]
 refine wneed_i ⟨by omega,by unfold maxB at*;omega⟩ ?_
 simp[go_sem,byteRows_len]
 refine wneed_i ⟨by unfold maxB at*;omega,byteRows_u b⟩ ?_
 simp[go_sem]
 exact wret_n 1 rfl rfl (by omega) (argS_lt rfl) ⟨rfl,rfl⟩
structure VarS where
 out:List UInt8
 v:Nat
theorem u64_id {n:Int} (h:0≤n) (h2:n≤18446744073709551615):IntKind.u64.wrap n=n:=by
 unfold IntKind.wrap
 simp[IntKind.bits,IntKind.signed]
 omega
theorem u8_nat (n:Nat):IntKind.u8.wrap (n:Int)=((UInt8.ofNat n).toNat:Int):=by
 unfold IntKind.wrap
 simp[IntKind.bits,IntKind.signed]
end Go.Proofs.YtajjjghohakniaaGreat.R
namespace Go.Proofs.YtajjjghohakniaaGreat.R
open Go Go.Vx
set_option maxRecDepth 100000
end Go.Proofs.YtajjjghohakniaaGreat.R
namespace Go.Vx
open Go
end Go.Vx
namespace Go.Proofs.YtajjjghohakniaaGreat.R
open Go Go.Vx
set_option maxRecDepth 100000
def mayF (v:GValue):Bool:=
 if v.kind=0 then decide (v.n=0)&&v.s.isEmpty else if v.kind=1 then(decide (v.n=0)||decide (v.n=1))&&v.s.isEmpty
 else if v.kind=2 then v.s.isEmpty else if v.kind=3 then decide (v.n=0)&&decide (v.s.length≤64)else false
theorem May_w (v:GValue):Pure Tryz.prog 130 [.agg v.row] (.bool (mayF v)):=by
 obtain⟨k,n,s⟩:=v
 refine VCalls.intro 0 Tryz.func130 Tryz.ntmps130 Tryz.results130 rfl rfl (Nat.le_of_ble_eq_true rfl) fun c hc hb=>wcode_of ?_
 simp[go_sem]
 have yes: ∀(r b:Bool) (σ:St),r=b→wret (some (.bool r)) 0 (fun r s=>r= .bool b∧s= []) σ:=fun r b σ h=>by subst h;exact wret_0 (argS_no rfl) ⟨rfl,rfl⟩
 repeat' (first|(refine wgrd_i (fun q=> ?_) (fun q=> ?_)<;>simp[go_sem,q])|(refine wcond_i (fun q=> ?_) (fun q=> ?_)<;>simp[go_sem,q])|(refine yes _ _ _ ?_))
 all_goals simp_all[mayF]
 omega
theorem argS_rows {ρ:Nat→Nat} {g:Tag} {rows rows':List (List V)} (h:rows'=rows):argS ρ (.sl .ro rows') (.sl g rows):=by subst h;exact argS_ro
theorem bys_ret {b l:List UInt8} {g:Tag} {rows:List (List V)} {σ:St} (h:byteRows (b++l)=rows):wret (some (.sl g rows)) 0 (fun r s=>r=bys (b++l)∧s= []) σ:=by subst h;exact wret_0 argS_ro ⟨rfl,rfl⟩
end Go.Proofs.YtajjjghohakniaaGreat.R
namespace Go.Proofs.YtajjjghohakniaaGreat.R
open Go Go.Vx
set_option maxRecDepth 100000
structure LightR (row:List GValue):Prop where
 len:row.length≤20
 s: ∀v∈row,v.s.length≤500
 ok: ∀v∈row,v.ok
end Go.Proofs.YtajjjghohakniaaGreat.R
namespace Go.Proofs.YtajjjghohakniaaGreat.R
open Go Go.Vx
set_option maxRecDepth 100000
def takeG:List UInt8→Nat→Nat→Nat×Nat×Int
 | [],_,_=>(0,0,2)
 |c::rest,i,v=>if i=9∧1<c.toNat then(0,0,5)else if c.toNat<128 then(if c.toNat=0∧0<i then(0,0,9)else(v+c.toNat%128*128^i,i+1,0))else takeG rest (i+1) (v+c.toNat%128*128^i)
end Go.Proofs.YtajjjghohakniaaGreat.R
namespace Go.Proofs.YtajjjghohakniaaGreat.R
open Go Go.Vx
set_option maxRecDepth 100000
end Go.Proofs.YtajjjghohakniaaGreat.R
namespace Go.Proofs.YtajjjghohakniaaGreat.R
open Go Go.Vx
set_option maxRecDepth 100000
def takeTextG (b:List UInt8) (r:Nat×Nat×Int):List UInt8×Nat×Int:=
 if r.2.2≠0 then([],0,r.2.2)else if 1048576<r.1 then([],0,3)else if b.length - r.2.1<r.1 then([],0,2)else((b.take (r.2.1+r.1)).drop r.2.1,r.2.1+r.1,0)
def takeTextF (b:List UInt8):List UInt8×Nat×Int:=takeTextG b (takeG b 0 0)
end Go.Proofs.YtajjjghohakniaaGreat.R
namespace Go.Proofs.YtajjjghohakniaaGreat.R
open Go Go.Vx
set_option maxRecDepth 100000
def zagF (u:Nat):Int:=if u%2=0 then((u/2:Nat):Int)else -((u/2:Nat):Int) - 1
structure TakeR where
 v:GValue
 n:Nat
 e:Int
def TakeR.V (r:TakeR):V:= .tup [.agg r.v.row,.int .i64 r.n,.int .i64 r.e]
def v0:GValue:=⟨0,0,[]⟩
def takeBoolF (b:List UInt8):TakeR:=
 if b.length<2 then⟨v0,0,2⟩else if 1<(b.getD 1 0).toNat then⟨v0,0,9⟩else⟨⟨1,(b.getD 1 0).toNat,[]⟩,2,0⟩
end Go.Proofs.YtajjjghohakniaaGreat.R
namespace Go.Proofs.YtajjjghohakniaaGreat.R
open Go Go.Vx
set_option maxRecDepth 100000
def takeC (k:Nat) (tb:TakeR) (r:Nat×Nat×Int) (t:List UInt8×Nat×Int):TakeR:=
 if k=0 then⟨v0,1,0⟩
 else if k=1 then tb
 else if k=2 then(if r.2.2≠0 then⟨v0,0,r.2.2⟩else⟨⟨2,zagF r.1,[]⟩,1+r.2.1,0⟩)
 else if k=3 then(if t.2.2≠0 then⟨v0,0,t.2.2⟩else if 64<t.1.length then⟨v0,0,3⟩else⟨⟨3,0,t.1⟩,1+t.2.1,0⟩)
 else⟨v0,0,9⟩
def takeF:List UInt8→TakeR
 | []=>⟨v0,0,2⟩
 |c::rest=>takeC c.toNat (takeBoolF (c::rest)) (takeG rest 0 0) (takeTextF rest)
end Go.Proofs.YtajjjghohakniaaGreat.R
namespace Go.Proofs.YtajjjghohakniaaGreat.R
open Go Go.Vx
set_option maxRecDepth 100000
end Go.Proofs.YtajjjghohakniaaGreat.R
namespace Go.Proofs.YtajjjghohakniaaGreat.R
open Go Go.Vx
set_option maxRecDepth 100000
theorem is_w (regs tabs:List (List V)) (t:Int):Pure Tryz.prog 105 [.agg [.sl .ro regs,.sl .ro tabs],.int .i64 t] (.bool (decide (0≤t)&&decide (t<tabs.length))):=by
 refine VCalls.intro 0 Tryz.func105 Tryz.ntmps105 Tryz.results105 rfl rfl (Nat.le_of_ble_eq_true rfl) fun c hc hb=>wcode_of ?_
 simp[go_sem]
 repeat' (first|(refine wgrd_i (fun q=> ?_) (fun q=> ?_)<;>simp[go_sem,q])|(refine wcond_i (fun q=> ?_) (fun q=> ?_)<;>simp[go_sem,q]))
 all_goals exact wret_0 (argS_no rfl) ⟨by simp_all,rfl⟩
end Go.Proofs.YtajjjghohakniaaGreat.R
namespace Go.Proofs.YtajjjghohakniaaGreat.R
open Go Go.Vx
set_option maxRecDepth 100000
end Go.Proofs.YtajjjghohakniaaGreat.R
namespace Go.Proofs.YtajjjghohakniaaGreat.R
open Go Go.Vx
set_option maxRecDepth 100000
def rowG:Nat→List UInt8→Option (List GValue)
 |0,b=>if b= []then some []else none
 |n+1,b=>if(takeF b).e=0 then(rowG n (b.drop (takeF b).n)).map ((takeF b).v:: ·)else none
def rowR (o:Option (List GValue)):List GValue×Int:=match o with
 |some l=>(l,0)
 |none=>([],9)
def rowC (nc:Nat) (data:List UInt8):List GValue×Int:=
 if(takeG data 0 0).2.2=0∧(takeG data 0 0).1=nc then rowR (rowG nc (data.drop (takeG data 0 0).2.1))else([],9)
def rowF (ts:List GTable) (table:Int) (data:List UInt8):List GValue×Int:=
 if h:0≤table∧table<ts.length then rowC (ts[table.toNat]'(by omega)).cols.length data else([],1)
end Go.Proofs.YtajjjghohakniaaGreat.R
namespace Go.Proofs.YtajjjghohakniaaGreat.R
open Go Go.Vx
set_option maxRecDepth 100000
end Go.Proofs.YtajjjghohakniaaGreat.R
namespace Go.Proofs.YtajjjghohakniaaGreat.R
open Go Go.Vx
set_option maxRecDepth 100000
def be (v:Nat):Nat→List UInt8
 |0=> []
 |k+1=>UInt8.ofNat (v/256^k)::be v k
theorem be_len (v:Nat): ∀k,(be v k).length=k
 |0=>rfl
 |k+1=>by simp[be,be_len v k]
theorem bl_cons (a b:UInt8) (l m:List UInt8):Op.bytesLess (a::l) (b::m)=if a.toNat<b.toNat then true else if b.toNat<a.toNat then false else Op.bytesLess l m:=by
 rw[Op.bytesLess]
 simp only[UInt8.lt_iff_toNat_lt]
 by_cases h1:a.toNat<b.toNat
 ·simp[h1]
 ·by_cases h2:b.toNat<a.toNat
  ·have:a≠b:=fun h=>by subst h;omega
   simp[h1,h2,this]
  ·have:a=b:=UInt8.toNat_inj.1 (by omega)
   simp[this]
def esc:List UInt8→List UInt8
 | []=> []
 |c::s=>if c=0 then 0::255::esc s else c::esc s
theorem esc_len: ∀s,(esc s).length≤2*s.length
 | []=>by simp[esc]
 |c::s=>by
  have:=esc_len s
  unfold esc
  split<;>simp<;>omega
theorem esc_append: ∀a b,esc (a++b)=esc a++esc b
 | [],b=>rfl
 |c::a,b=>by
  have:=esc_append a b
  rw[List.cons_append,esc,esc]
  split<;>simp[this]
def keyF (v:GValue):List UInt8:=
 if mayF v=true then
  UInt8.ofNat v.kind.toNat::(if v.kind=1 then [UInt8.ofNat v.n.toNat]else if v.kind=2 then be (v.n+9223372036854775808).toNat 8 else if v.kind=3 then esc v.s++ [0,1]else [])
 else []
theorem keyF_len {v:GValue}:(keyF v).length≤2*v.s.length+10:=by
 have h:=esc_len v.s
 have h2:=be_len (v.n+9223372036854775808).toNat 8
 unfold keyF
 (repeat' split)<;>simp<;>omega
end Go.Proofs.YtajjjghohakniaaGreat.R
