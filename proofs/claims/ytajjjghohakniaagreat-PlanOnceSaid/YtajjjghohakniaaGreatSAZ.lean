/-
  The document's Parse, over trees (the library Vx); used by the theorem at the end of the claim.
  Conditions: as each theorem states them.
-/
import Derived.Test.YtajjjghohakniaaGreatSAY
namespace Go.Proofs.YtajjjghohakniaaGreat
open Go Go.Vx
set_option maxRecDepth 100000
def lexL (s:List UInt8):Nat→Nat→List GToken→List GToken×Int
 |0,_,_=>([],0)
 |n+1,a,l=>
  if a<s.length then
   (if blankF (s.getD a 0)=true then lexL s n (a+1) l
   else if(oneF s a).2.2=0 then lexL s n (oneF s a).2.1 (l++ [{(oneF s a).1 with place:=a}])else([],(oneF s a).2.2))
  else(l++ [⟨0,s.length,[],0⟩],0)
def lexF (s:List UInt8):List GToken×Int:=if 2000<s.length then([],3)else lexL s (s.length+1) 0 []
theorem numL_rng: ∀(l:List UInt8) (v r:Int),0≤v→v≤9223372036854775807→numL v l=some r→0≤r∧r≤9223372036854775807
 | [],v,r,h0,h1,h=>by rw[numL]at h;cases h;exact⟨h0,h1⟩
 |c::l,v,r,h0,h1,h=>by
  rw[numL]at h
  split at h
  ·rename_i hd
   have hr:=digitF_rng hd
   split at h
   ·cases h
   ·exact numL_rng l _ r (by omega) (by omega) h
  ·cases h;exact⟨h0,h1⟩
theorem textL_ok: ∀(k:Nat) (l:List UInt8),l.length≤k→ ∀(i:Nat) (w:List UInt8),(textL i w l).2.2=0→i<(textL i w l).2.1∧(textL i w l).2.1≤i+l.length∧(textL i w l).1.s.length≤64∧(textL i w l).1.n=0
 |0,l,hk,i,w,h=>by
  have:l= []:=List.eq_nil_of_length_eq_zero (by omega)
  subst this
  simp[textL]at h
 |k+1,l,hk,i,w,h=>by
  match l,hk with
  | [],_=>simp[textL]at h
  | [c],_=>
   rw[textL]at h⊢
   split at h
   ·rename_i hc
    rw[if_pos hc]
    unfold textE at h⊢
    split at h
    ·simp at h
    ·rename_i h64
     rw[if_neg h64]
     exact⟨by simp,by simp,by simp only;omega,rfl⟩
   ·simp at h
  |c::c2::l,hk=>
   rw[textL]at h⊢
   split at h
   ·rename_i hc
    rw[if_pos hc]
    split at h
    ·rename_i hc2
     rw[if_pos hc2]
     have:=textL_ok k l (by simp at hk;omega) _ _ h
     simp only[List.length_cons]
     omega
    ·rename_i hc2
     rw[if_neg hc2]
     unfold textE at h⊢
     split at h
     ·simp at h
     ·rename_i h64
      rw[if_neg h64]
      exact⟨by simp,by simp,by simp only;omega,rfl⟩
   ·rename_i hc
    rw[if_neg hc]
    have:=textL_ok k (c2::l) (by simp at hk⊢;omega) _ _ h
    simp only[List.length_cons]at this⊢
    omega
theorem tw_len {p:UInt8→Bool}: ∀l:List UInt8,(l.takeWhile p).length≤l.length
 | []=>Nat.le_refl _
 |c::l=>by
  rw[List.takeWhile_cons]
  have:=tw_len (p:=p) l
  split<;>simp only[List.length_cons,List.length_nil]<;>omega
theorem oneF_ok {s:List UInt8} {a:Nat} (ha:a<s.length) (h:(oneF s a).2.2=0):a<(oneF s a).2.1∧(oneF s a).2.1≤s.length∧(oneF s a).1.s.length≤s.length+64∧0≤(oneF s a).1.n∧(oneF s a).1.n≤9223372036854775807:=by
 have hga:s.getD a 0=s[a]:=by rw[List.getD_eq_getElem?_getD,List.getElem?_eq_getElem ha];rfl
 have hdr:=List.drop_eq_getElem_cons ha
 unfold oneF at h⊢
 rw[hga,hdr]at h⊢
 obtain⟨x,hx⟩: ∃x,s[a]=x:=⟨_,rfl⟩
 rw[hx]at h⊢
 have hl:(s.drop (a+1)).length=s.length - (a+1):=List.length_drop
 generalize s.drop (a+1)=l at h hl⊢
 split at h
 ·rename_i q1
  rw[if_pos q1]
  have hw:wrdF x=true:=by unfold wrdF;rw[q1];rfl
  have:=tw_len (p:=wrdF) l
  rw[List.takeWhile_cons_of_pos hw]
  simp only[List.length_cons,List.length_map]
  omega
 rename_i q1
 rw[if_neg q1]
 split at h
 ·rename_i q2
  rw[if_pos q2]
  unfold numT at h⊢
  split at h
  ·simp at h
  rename_i r hr
  have hrr:=numL_rng _ 0 r (Int.le_refl _) (by decide) hr
  split at h
  ·simp at h
  rename_i hle
  rw[if_neg hle,List.takeWhile_cons_of_pos q2]
  have:=tw_len (p:=digitF) l
  simp only[List.length_cons,List.length_nil]
  omega
 rename_i q2
 rw[if_neg q2]
 split at h
 ·rename_i q3
  rw[if_pos q3]
  have:=textL_ok l.length l (Nat.le_refl _) _ _ h
  omega
 rename_i q3
 rw[if_neg q3]
 split at h
 ·rename_i q4
  rw[if_pos q4]
  simp only[List.length_take]
  omega
 rename_i q4
 rw[if_neg q4]
 split at h
 ·rename_i q5
  rw[if_pos q5]
  simp only[List.length_singleton]
  omega
 ·simp at h
def TokOk (t:GToken):Prop:=t.s.length≤3000∧0≤t.n∧t.n≤9223372036854775807
theorem lexL_ok {s:List UInt8} (hs:s.length≤2000): ∀(n a:Nat) (l:List GToken),s.length<n+a→a≤s.length→l.length≤a→(∀t∈l,TokOk t)→(lexL s n a l).2=0→
  ∃l',(lexL s n a l).1=l'++ [⟨0,s.length,[],0⟩]∧l'.length≤s.length∧ ∀t∈l',TokOk t
 |0,a,l,hf,ha,_,_,_=>by omega
 |n+1,a,l,hf,ha,hl,ht,h=>by
  unfold lexL at h⊢
  by_cases q:a<s.length
  rotate_left
  ·rw[if_neg q]
   exact⟨l,rfl,by omega,ht⟩
  rw[if_pos q]at h⊢
  by_cases q2:blankF (s.getD a 0)=true
  ·rw[if_pos q2]at h⊢
   exact lexL_ok hs n (a+1) l (by omega) (by omega) (by omega) ht h
  rw[if_neg q2]at h⊢
  by_cases q3:(oneF s a).2.2=0
  ·rw[if_pos q3]at h⊢
   have ho:=oneF_ok q q3
   refine lexL_ok hs n _ _ (by omega) (by omega) (by simp;omega) (fun t htm=> ?_) h
   rw[List.mem_append]at htm
   rcases htm with htm|htm
   ·exact ht t htm
   ·simp only[List.mem_cons,List.not_mem_nil,or_false]at htm
    subst htm
    unfold TokOk
    simp only
    omega
  ·rw[if_neg q3]at h
   exact absurd h q3
theorem lexF_ok {s:List UInt8} (h:(lexF s).2=0):s.length≤2000∧LIn (lexF s).1∧LGood (lexF s).1∧1≤(lexF s).1.length∧(lexF s).1.length≤2001:=by
 unfold lexF at h⊢
 split at h
 ·simp at h
 rename_i hl
 rw[if_neg hl]
 obtain⟨l',h1,h2,h3⟩:=lexL_ok (by omega) _ _ _ (by omega) (Nat.zero_le _) (Nat.le_refl _) (fun t ht=>by cases ht) h
 have h4: ∀t∈l'++ [⟨0,s.length,[],0⟩],TokOk t:=fun t ht=>by
  rw[List.mem_append]at ht
  rcases ht with ht|ht
  ·exact h3 t ht
  ·simp only[List.mem_cons,List.not_mem_nil,or_false]at ht
   subst ht
   exact⟨Nat.zero_le _,Int.le_refl _,by simp⟩
 rw[h1]
 refine⟨by omega,⟨by simp;omega,fun i hi=> ?_,fun t ht=> ?_⟩,⟨fun t ht=> ?_,fun t ht=>(h4 t ht).2⟩,by simp,by simp;omega⟩
 ·have:i=l'.length:=by simp at hi;omega
  subst this
  rw[List.getD_eq_getElem?_getD,List.getElem?_append_right (Nat.le_refl _),Nat.sub_self]
  rfl
 ·have:=(h4 t ht).1;unfold maxLen;omega
 ·have:=(h4 t ht).1;omega
def lexV (x:List GToken×Int):V:= .tup [.sl .ro (x.1.map GToken.row),.int .i64 x.2]
theorem wret_lx {g:Tag} {τ:St} {l:List GToken} {e:Int} {M:List GToken×Int} (h:(l,e)=M):wret (some (.tup [.sl g (l.map GToken.row),.int .i64 e])) 0 (fun r σ=>r=lexV M∧σ= []) τ:=by
 subst h
 exact wret_0 (r:= .tup [.sl .ro (l.map GToken.row),.int .i64 e]) (argS_tup ⟨argA_ro,argA_no rfl,trivial⟩) ⟨rfl,rfl⟩
set_option maxHeartbeats 1000000 in
theorem Lex_w (s:List UInt8) (hl:s.length≤maxLen):Pure Tryz.prog 64 [.str s] (lexV (lexF s)):=by
 generalize hM:lexF s=M
 unfold lexF at hM
 unfold maxLen at hl
 refine VCalls.introV 0 Tryz.func64 Tryz.ntmps64 Tryz.results64 rfl rfl (Nat.le_of_ble_eq_true rfl) fun c hc hb=> ?_
 refine wVW_code ?_
 simp[go_sem]
 by_cases q0:2000<s.length
 ·rw[if_pos q0]at hM
  have q0':decide ((2000:Int)<s.length)=true:=decide_eq_true (by omega)
  simp[go_sem,q0']
  exact wret_lx (l:= []) hM
 rw[if_neg q0]at hM
 have q0':decide ((2000:Int)<s.length)=false:=decide_eq_false (by omega)
 simp[go_sem,q0']
 refine wVW_app 4 4 (by decide) (by simp[go_sem]) ?_
 refine wVW_while (S:=Nat×List GToken) [0,4,5] (fun u=> [.str s,.sl (.app 0) (u.2.map GToken.row),.int .i64 u.1]) (fun u=> [.app u.2.length 4]) (fun u=>s.length - u.1)
  (fun u=>u.1≤s.length∧u.2.length≤u.1∧ ∃n,s.length<n+u.1∧lexL s n u.1 u.2=M) hc hb (0,[]) ⟨Nat.zero_le _,Nat.le_refl _,s.length+1,by simp only;omega,hM⟩ ?_ ?_
 ·exact at_n 1 (by simp[go_sem]) rfl (by rfl) (Nat.zero_le _) (args_lt_eq (by simp[go_sem]) rfl)
 rintro⟨a,l⟩ ⟨ha,hla,n,hn,hinv⟩
 simp only at ha hla hn hinv
 obtain⟨n,rfl⟩: ∃m,n=m+1:=⟨n - 1,by omega⟩
 rw[lexL]at hinv
 by_cases q:a<s.length
 rotate_left
 ·rw[if_neg q]at hinv
  refine wVW_code ?_
  simp[go_sem,q]
  refine wneed_i ⟨by omega,uni_one rfl⟩ ?_
  simp[go_sem]
  have hr:=fun g τ=>wret_lx (g:=g) (τ:=τ) hinv
  simp at hr
  exact hr _ _
 rw[if_pos q]at hinv
 have ea:=i64_inc q (by omega)
 obtain⟨x,hx⟩: ∃x,s[a]=x:=⟨_,rfl⟩
 have hga:s.getD a 0=x:=by rw[List.getD_eq_getElem?_getD,List.getElem?_eq_getElem q,hx];rfl
 rw[hga]at hinv
 have hbl:=refBlank_w x
 by_cases q2:blankF x=true
 ·rw[if_pos q2]at hinv
  rw[q2]at hbl
  refine wVW_code ?_
  simp[go_sem,q,hx]
  refine wVC_pure hbl Tryz.callB112 (args_no rfl) rfl ?_
  simp[go_sem,ea]
  exact next_i (a+1,l) ⟨by simp only;omega,⟨by simp only;omega,by simp only;omega,n,by simp only;omega,hinv⟩,at_n 1 (by simp[go_sem]) rfl (by rfl) (Nat.zero_le _) (args_lt_eq (by simp[go_sem]) rfl)⟩
 have q2:blankF x=false:=by simpa using q2
 rw[if_neg (by rw[q2];decide)]at hinv
 rw[q2]at hbl
 have hone:=refOne_w s (by unfold maxLen;omega) a q
 have hok:=oneF_ok q
 generalize oneF s a=o at hone hok hinv
 by_cases q3:o.2.2=0
 ·rw[if_pos q3]at hinv
  have hok:=hok q3
  have q3':(o.2.2 !=0)=false:=by simpa using q3
  refine wVW_code ?_
  simp[go_sem,q,hx]
  refine wVC_pure hbl Tryz.callB112 (args_no rfl) rfl ?_
  simp[go_sem]
  refine wVC_pure hone Tryz.callB113 (args_no rfl) (trV_no _) ?_
  simp[go_sem,trV,q3']
  refine wneed_i ⟨by omega,uni_one rfl⟩ ?_
  simp[go_sem]
  refine next_i (o.2.1,l++ [{o.1 with place:=a}]) ⟨by simp only;omega,⟨by simp only;omega,by simp;omega,n,by simp only;omega,hinv⟩, ?_⟩
  exact at_n 1 (by simp[go_sem]) rfl (by rfl) (Nat.zero_le _) (args_lt_eq (by simp[go_sem]) rfl)
 ·rw[if_neg q3]at hinv
  have q3':(o.2.2 !=0)=true:=by simpa using q3
  refine wVW_code ?_
  simp[go_sem,q,hx]
  refine wVC_pure hbl Tryz.callB112 (args_no rfl) rfl ?_
  simp[go_sem]
  refine wVC_pure hone Tryz.callB113 (args_no rfl) (trV_no _) ?_
  simp[go_sem,trV,q3']
  exact wret_lx (l:= []) hinv
end Go.Proofs.YtajjjghohakniaaGreat
namespace Go.Proofs.YtajjjghohakniaaGreat
open Go Go.Vx
set_option maxRecDepth 100000
variable {L:List GToken}
def wSELECT:List UInt8:= [83,69,76,69,67,84]
def wINSERT:List UInt8:= [73,78,83,69,82,84]
def wUPDATE:List UInt8:= [85,80,68,65,84,69]
def wDELETE:List UInt8:= [68,69,76,69,84,69]
def stmtF (L:List GToken) (s:RS):GStmt×RS:=
 if isT L wSELECT s=true then selectsF L (nextF s)
 else if isT L wINSERT s=true then insertsF L (nextF s)
 else if isT L wUPDATE s=true then updatesF L (nextF s)
 else
  let n:=nameF L (mustF L wFROM (mustF L wDELETE s))
  (⟨4,n.1,[],[],[],(whE L n.2).1,(whE L n.2).2,[],false,0⟩,whS L n.2)
theorem selects_ui (hL:LIn L) {s:RS} (h:RIn L s) (ho:s.opn=0):UI L s (selectsF L s).2:=by
 unfold selectsF
 have h1:=items_ui hL h ho
 have h2:=h1.trans (must_ui hL wFROM h1.rin)
 have h3:=h2.trans (name_ui hL h2.rin)
 have h4:=h3.trans (wh_ui hL h3.rin (h3.opn.trans ho))
 have h5:=h4.trans (order_ui hL h4.rin)
 exact h5.trans (limit_ui hL h5.rin)
theorem stmt_ui (hL:LIn L) {s:RS} (h:RIn L s) (ho:s.opn=0):UI L s (stmtF L s).2:=by
 unfold stmtF
 split
 ·have h1:=next_ui hL h ‹_›
  exact h1.trans (selects_ui hL h1.rin (h1.opn.trans ho))
 split
 ·have h1:=next_ui hL h ‹_›
  exact h1.trans (inserts_ui hL h1.rin (h1.opn.trans ho))
 split
 ·have h1:=next_ui hL h ‹_›
  exact h1.trans (updates_ui hL h1.rin (h1.opn.trans ho))
 ·have h1:=must_ui hL wDELETE h
  have h2:=h1.trans (must_ui hL wFROM h1.rin)
  have h3:=h2.trans (name_ui hL h2.rin)
  exact h3.trans (wh_ui hL h3.rin (h3.opn.trans ho))
set_option maxHeartbeats 1000000 in
theorem stmt_w (L:List GToken) (hL:LIn L) (s:RS) (hs:RIn L s) (ho:s.opn=0):VCalls Tryz.prog 67 [.ptr 0 0] [rB L s] (RT L (stmtF L s)):=by
 generalize hM:stmtF L s=M
 unfold stmtF at hM
 have ret: ∀(x:GStmt×RS) (τ:St),x=M→wret (some (.agg x.1.row)) 1 (RT L M) (rB L x.2::τ):=fun x τ h=>wret_st (g1:= .ro) (g2:= .ro) (g3:= .ro) (g4:= .ro) (st:=x.1) h
 refine VCalls.intro 1 Tryz.func67 Tryz.ntmps67 Tryz.results67 rfl rfl (Nat.le_of_ble_eq_true rfl) fun c hc hb=>wcode_of ?_
 simp[go_sem]
 by_cases q1:isT L wSELECT s=true
 ·rw[if_pos q1]at hM
  have hc1:=selects_w L hL (nextF s) (hs.next hL q1) ho
  generalize selectsF L (nextF s)=x at hc1 hM
  refine wVC_rd (eat_yes L hL s hs _ q1) Tryz.callB68 (rd_ptr ⟨argS_no rfl,trivial⟩) rfl ?_
  simp[go_sem]
  refine wVC_rd hc1 Tryz.callB114 rd_1 (noS_st _) ?_
  simp[go_sem]
  exact ret x _ hM
 have q1:isT L wSELECT s=false:=by simpa using q1
 rw[if_neg (by rw[q1];decide)]at hM
 refine wVC_rd (eat_no L hL s hs _ q1) Tryz.callB68 (rd_ptr ⟨argS_no rfl,trivial⟩) rfl ?_
 simp[go_sem]
 by_cases q2:isT L wINSERT s=true
 ·rw[if_pos q2]at hM
  have hc1:=inserts_w L hL (nextF s) (hs.next hL q2) ho
  generalize insertsF L (nextF s)=x at hc1 hM
  refine wVC_rd (eat_yes L hL s hs _ q2) Tryz.callB68 (rd_ptr ⟨argS_no rfl,trivial⟩) rfl ?_
  simp[go_sem]
  refine wVC_rd hc1 Tryz.callB115 rd_1 (noS_st _) ?_
  simp[go_sem]
  exact ret x _ hM
 have q2:isT L wINSERT s=false:=by simpa using q2
 rw[if_neg (by rw[q2];decide)]at hM
 refine wVC_rd (eat_no L hL s hs _ q2) Tryz.callB68 (rd_ptr ⟨argS_no rfl,trivial⟩) rfl ?_
 simp[go_sem]
 by_cases q3:isT L wUPDATE s=true
 ·rw[if_pos q3]at hM
  have hc1:=updates_w L hL (nextF s) (hs.next hL q3) ho
  generalize updatesF L (nextF s)=x at hc1 hM
  refine wVC_rd (eat_yes L hL s hs _ q3) Tryz.callB68 (rd_ptr ⟨argS_no rfl,trivial⟩) rfl ?_
  simp[go_sem]
  refine wVC_rd hc1 Tryz.callB116 rd_1 (noS_st _) ?_
  simp[go_sem]
  exact ret x _ hM
 have q3:isT L wUPDATE s=false:=by simpa using q3
 rw[if_neg (by rw[q3];decide)]at hM
 refine wVC_rd (eat_no L hL s hs _ q3) Tryz.callB68 (rd_ptr ⟨argS_no rfl,trivial⟩) rfl ?_
 simp[go_sem]
 have hm1:=must_w L hL s hs wDELETE
 have hu1:=must_ui hL wDELETE hs
 generalize mustF L wDELETE s=s1 at hm1 hu1 hM
 have hm2:=must_w L hL s1 hu1.rin wFROM
 have hu2:=hu1.trans (must_ui hL wFROM hu1.rin)
 generalize mustF L wFROM s1=s2 at hm2 hu2 hM
 have hn:=name_w L hL s2 hu2.rin
 have hu3:=hu2.trans (name_ui hL hu2.rin)
 generalize nameF L s2=n at hn hu3 hM
 obtain⟨nm,s3⟩:=n
 simp only at hn hu3 hM
 obtain⟨gw,hw⟩:=whereS_w L hL s3 hu3.rin (hu3.opn.trans ho) [zSt,.box [.int .i64 4,.str nm,.sl .full [],.sl .full [],.sl .full [],.bool false,.int .i64 0,.str [],.int .i64 0,.int .i64 0,.str [],.sl .full [],.str [],.bool false,.int .i64 0]] 1 _ _ _ _ _ _ _ _ rfl
 generalize whS L s3=s4 at hw hM
 generalize whE L s3=w at hw hM
 refine wVC_rd hm1 Tryz.callB71 (rd_ptr ⟨argS_no rfl,trivial⟩) rfl ?_
 simp[go_sem]
 refine wVC_rd hm2 Tryz.callB71 (rd_ptr ⟨argS_no rfl,trivial⟩) rfl ?_
 simp[go_sem]
 refine wVC_rd hn Tryz.callB117 rd_1 rfl ?_
 simp[go_sem]
 refine wVC_whole hw Tryz.callB118 ?_
 rintro r σ ⟨rfl,rfl⟩ _
 simp[go_sem]
 exact wret_st (st:=⟨4,nm,[],[],[],w.1,w.2,[],false,0⟩) hM
theorem wVC_rd1 {P:Program} {c:Ctx} {f:FuncId} {caps args args':List V} {o:Ob} {τ:St} {L:List GToken} {s s':RS} {v:V} {KV:V→St→Prop} (hc:VCalls P f args' [rB L s] (fun r σ=>r=v∧σ= [rB L s'])) (hb:callB P f=true)
  (hargs:All2 (argS (ren [1] (τ.length+2))) args' (args++caps)) (hn:noS v=true) (hk:KV v (o::rB L s'::τ)):wVC P c (.fn f caps) args (o::rB L s::τ) KV fx:=by
 refine wVC_at 1 hc hb rfl (rB_lt _ _ _) hargs (fun r σ h=>⟨_,h.2,rB_lt _ _ _⟩) ?_
 rintro r o2 ⟨rfl,h2⟩
 obtain rfl:o2=rB L s':=by simpa using h2
 rw[renS_no hn]
 exact hk
theorem wVD_rd1 {P:Program} {c:Ctx} {n:Nat} {f:FuncId} {caps args args':List V} {o:Ob} {τ:St} {L:List GToken} {s s':RS} {v:V} {KV:V→St→Prop} (hc:VCalls P f args' [rB L s] (fun r σ=>r=v∧σ= [rB L s'])) (hb:callB P f=true)
  (hargs:All2 (argS (ren [1] (τ.length+2))) args' (args++caps)) (hn:noS v=true) (hk:KV v (o::rB L s'::τ)):wVD P c ⟨2,n⟩ 3 (.fn f caps) args (o::rB L s::τ) KV fx:=by
 have hno: ∀(N:Nat) (s:RS),renOb (ren [1] N) (rB L s)=rB L s:=fun N s=>renOb_lt (n:=0) (fun _ h=>absurd h (Nat.not_lt_zero _)) (rB_lt _ _ _)
 have e:merge [1] (o::rB L s::τ) [rB L s']=o::rB L s'::τ:=by
  simp only[merge,List.length_singleton,List.take_succ_cons,List.take_zero,List.drop_succ_cons,List.drop_zero,List.map_cons,List.map_nil,mset,List.append_nil,hno]
  rfl
 refine wVD_keep hc hb [1] (by simp) rfl (fun i j q h1 h2=> ?_) hargs (.inr ?_) ?_
 ·match i with
  |0=>simp at h1 h2;subst h1;subst h2;rw[hno];rfl
  |i+1=>simp at h1
 ·rw[e];exact Kp.of_set (σ:=o::rB L s::τ) (id:=1) (o:=rB L s') (.inl (by simp))
 ·rw[e,renS_no hn];exact hk
theorem rd1_ptr {N:Nat} {l l':List V} (h:All2 (argS (ren [1] N)) l l'):All2 (argS (ren [1] N)) (.ptr 0 0::l) (.ptr 1 0::l'):=⟨.inl rfl,h⟩
theorem rd1_1 {N:Nat}:All2 (argS (ren [1] N)) [.ptr 0 0] [.ptr 1 0]:=rd1_ptr trivial
end Go.Proofs.YtajjjghohakniaaGreat
namespace Go.Proofs.YtajjjghohakniaaGreat
open Go Go.Vx
set_option maxRecDepth 100000
variable {L:List GToken}
def wAS:List UInt8:= [65,83]
def wOF:List UInt8:= [79,70]
def wSYSTEM:List UInt8:= [83,89,83,84,69,77]
def wTIME:List UInt8:= [84,73,77,69]
def wBOUND:List UInt8:= [66,79,85,78,68]
def signsD:List (List UInt8):= [wSELECT,wINSERT,wUPDATE,wDELETE]
def beg4 (L:List GToken) (s:RS):Bool:= !(anyF L s signsD).isEmpty
def stmtsL (L:List GToken):Nat→List GStmt→RS→List GStmt×RS
 |0,l,s=>(l,s)
 |n+1,l,s=>
  if s.err=0 then
   if(moreF L l.length 8 (beg4 L s) s).err=0 then
    if isT L [59] (stmtF L s).2=true then
     if isT L wAS (nextF (stmtF L s).2)=true∨(tokF L (nextF (stmtF L s).2)).kind=0 then(l++ [(stmtF L s).1],nextF (stmtF L s).2)
     else stmtsL L n (l++ [(stmtF L s).1]) (nextF (stmtF L s).2)
    else(l++ [(stmtF L s).1],(stmtF L s).2)
   else(l,moreF L l.length 8 (beg4 L s) s)
  else(l,s)
def asS (L:List GToken) (s:RS):RS:=mustF L wTIME (mustF L wSYSTEM (mustF L wOF (nextF s)))
def asF (L:List GToken) (s:RS):(Int×Int)×RS:=
 if isT L wAS s=true then
  if isT L wBOUND (asS L s)=true then((2,(numF L (nextF (asS L s))).1),(numF L (nextF (asS L s))).2)
  else((1,(numF L (asS L s)).1),(numF L (asS L s)).2)
 else((0,0),s)
def endF (L:List GToken) (s:RS):RS:=if s.err=0∧(tokF L s).kind≠0 then failF 13 (tokF L s).place s else s
def rs0:RS:=⟨0,0,0,0⟩
def lot0:GLot:=⟨0,0,[]⟩
def readF (L:List GToken):GLot×Int×Int:=
 let x:=stmtsL L 9 [] rs0
 let a:=asF L x.2
 let e:=endF L a.2
 if e.err=0 then(⟨a.1.1,a.1.2,x.1⟩,0,0)else(lot0,e.place,e.err)
def parseF (s:List UInt8):GLot×Int×Int:=if(lexF s).2=0 then readF (lexF s).1 else(lot0,0,(lexF s).2)
theorem stmtsL_ui (hL:LIn L): ∀(n:Nat) (l:List GStmt) (s:RS),RIn L s→s.opn=0→UI L s (stmtsL L n l s).2
 |0,_,_,h,_=>UI.refl h
 |n+1,l,s,h,ho=>by
  unfold stmtsL
  split
  ·split
   ·have h1:=stmt_ui hL h ho
    split
    ·have h2:=h1.trans (next_ui hL h1.rin ‹_›)
     split
     ·exact h2
     ·exact h2.trans (stmtsL_ui hL n _ _ h2.rin (h2.opn.trans ho))
    ·exact h1
   ·exact more_ui h
  ·exact UI.refl h
theorem asS_ui (hL:LIn L) {s:RS} (h:RIn L s) (hi:isT L wAS s=true):UI L s (asS L s):=by
 unfold asS
 have h1:=next_ui hL h hi
 have h2:=h1.trans (must_ui hL wOF h1.rin)
 have h3:=h2.trans (must_ui hL wSYSTEM h2.rin)
 exact h3.trans (must_ui hL wTIME h3.rin)
theorem as_ui (hL:LIn L) {s:RS} (h:RIn L s):UI L s (asF L s).2:=by
 unfold asF
 split
 ·rename_i hi
  have h1:=asS_ui hL h hi
  split
  ·have h2:=h1.trans (next_ui hL h1.rin ‹_›)
   exact h2.trans (num_ui hL h2.rin)
  ·exact h1.trans (num_ui hL h1.rin)
 ·exact UI.refl h
def parV (x:GLot×Int×Int):V:= .tup [.agg x.1.row,.int .i64 x.2.1,.int .i64 x.2.2]
theorem wret_par {g:Tag} {τ:St} {l:GLot} {p e:Int} {M:GLot×Int×Int} (h:(l,p,e)=M):wret (some (.tup [.agg [.int .i64 l.mode,.int .i64 l.n,.sl g (l.stmts.map GStmt.row)],.int .i64 p,.int .i64 e])) 0 (fun r σ=>r=parV M∧σ= []) τ:=by
 subst h
 exact wret_0 (r:= .tup [.agg [.int .i64 l.mode,.int .i64 l.n,.sl .ro (l.stmts.map GStmt.row)],.int .i64 p,.int .i64 e]) (argS_tup ⟨argA_agg ⟨argC_no rfl,argC_no rfl,argC_ro,trivial⟩,argA_no rfl,argA_no rfl,trivial⟩) ⟨rfl,rfl⟩
def lotB (m n:Int) (l:List GStmt):Ob:= .box [.int .i64 m,.int .i64 n,.sl (.app 3) (l.map GStmt.row)]
def lotZ:Ob:= .box [.int .i64 0,.int .i64 0,.sl .full []]
set_option maxHeartbeats 4000000 in
theorem Parse_w (s:List UInt8) (hl:s.length≤maxLen):Pure Tryz.prog 28 [.str s] (parV (parseF s)):=by
 generalize hM:parseF s=M
 unfold parseF at hM
 have hlex:=Lex_w s hl
 have hok:=lexF_ok (s:=s)
 generalize lexF s=x at hlex hok hM
 obtain⟨L,e⟩:=x
 simp only at hok hM
 refine VCalls.introV 0 Tryz.func28 Tryz.ntmps28 Tryz.results28 rfl rfl (Nat.le_of_ble_eq_true rfl) fun c hc hb=> ?_
 by_cases qe:e=0
 rotate_left
 ·rw[if_neg qe]at hM
  have qe':(e !=0)=true:=by simpa using qe
  refine wVW_code ?_
  simp[go_sem]
  refine wVC_pure hlex Tryz.callB64 (args_no rfl) rfl ?_
  simp[go_sem,lexV,qe']
  exact wret_par (l:=lot0) hM
 obtain⟨_,hL,hG,hl1,hl2⟩:=hok qe
 rw[if_pos qe]at hM
 have qe':(e !=0)=false:=by simpa using qe
 have h0:RIn L rs0:=⟨by show 0<_;omega,by show(0:Int)≤0∧(0:Int)≤100000;omega⟩
 unfold readF at hM
 obtain⟨X,hX⟩: ∃X,stmtsL L 9 [] rs0=X:=⟨_,rfl⟩
 rw[hX]at hM
 refine wVW_seq (wVW_code ?_)
 simp[go_sem]
 refine wVW_seq (wVW_code ?_)
 simp[go_sem]
 refine wVC_pure hlex Tryz.callB64 (args_no rfl) rfl ?_
 simp[go_sem,lexV]
 refine wVW_seq (wVW_code ?_)
 simp[go_sem,qe']
 refine wVW_seq (wVW_code ?_)
 simp[go_sem]
 refine wVW_seq (wVW_code ?_)
 simp[go_sem]
 refine wVW_appB 2 2 15 _ (by decide) rfl rfl ?_
 simp only[List.set_cons_succ,List.set_cons_zero]
 refine wVW_cut (S:=List GStmt×RS) [2,7,8] (fun _=> [.ptr 0 0,.ptr 1 0,.ptr 2 0]) (fun u=> [lotZ,rB L u.2,lotB 0 0 u.1,.app u.1.length 15]) (fun u=>RIn L u.2∧u.2.opn=0∧u=X) hc hb ?_ ?_
 ·refine wVW_block ?_
  refine wVW_while (S:=List GStmt×RS) [2,7,8] (fun _=> [.ptr 0 0,.ptr 1 0,.ptr 2 0]) (fun u=> [lotZ,rB L u.2,lotB 0 0 u.1,.app u.1.length 15]) (fun u=>9 - u.1.length) (fun u=>u.1.length≤8∧RIn L u.2∧u.2.opn=0∧stmtsL L (9 - u.1.length) u.1 u.2=X) hc hb ([],rs0) ⟨Nat.zero_le _,h0,rfl,hX⟩ ?_ ?_
  ·exact at_n 4 (by simp[go_sem];exact⟨rfl,rfl,rfl⟩) rfl (by simp[rB,lotZ,lotB,ltOb,ltC,ltK]) (by decide) (args_lt_eq (by simp[go_sem]) rfl)
  rintro⟨l,s1⟩ ⟨hll,hs,ho,hinv⟩
  simp only at hll hs ho hinv
  rw[show 9 - l.length=(8 - l.length)+1 by omega,stmtsL]at hinv
  by_cases q1:s1.err=0
  rotate_left
  ·rw[if_neg q1]at hinv
   have q1':(s1.err==0)=false:=by simpa using q1
   refine wVW_code ?_
   simp[go_sem,rB,q1']
   exact next_i (l,s1) ⟨⟨hs,ho,hinv⟩,at_n 4 (by simp[go_sem,rB]) rfl (by simp[rB,lotZ,lotB,ltOb,ltC,ltK]) (by decide) (args_lt_eq (by simp[go_sem]) rfl)⟩
  have q1':(s1.err==0)=true:=by simpa using q1
  rw[if_pos q1]at hinv
  have hany:=any_w L hL s1 hs signsD (by decide)
  have hmore:=more_w L hL s1 hs l.length 8 (beg4 L s1)
  have hme:=moreF_err (L:=L) (n:=l.length) (most:=8) (b:=beg4 L s1) (s:=s1)
  have hmu:=more_ui (L:=L) (n:=l.length) (most:=8) (b:=beg4 L s1) hs
  unfold beg4 at hmore hme hmu hinv
  generalize anyF L s1 signsD=an at hany hmore hme hmu hinv
  generalize moreF L l.length 8 (!an.isEmpty) s1=m at hmore hme hmu hinv
  by_cases q2:m.err=0
  rotate_left
  ·rw[if_neg q2]at hinv
   have q2':(m.err==0)=false:=by simpa using q2
   rw[q2']at hmore
   refine wVW_code ?_
   simp[go_sem,rB,q1']
   refine wVC_rd1 hany Tryz.callB65 (rd1_ptr ⟨argS_ro,trivial⟩) rfl ?_
   simp[go_sem,lotB]
   refine wVC_rd1 hmore Tryz.callB66 (rd1_ptr ⟨argS_no rfl,argS_no rfl,argS_no rfl,trivial⟩) rfl ?_
   simp[go_sem,rB]
   exact next_i (l,m) ⟨⟨hmu.rin,hmu.opn.trans ho,hinv⟩,at_n 4 (by simp[go_sem,rB,lotB]) rfl (by simp[rB,lotZ,lotB,ltOb,ltC,ltK]) (by decide) (args_lt_eq (by simp[go_sem]) rfl)⟩
  have q2':(m.err==0)=true:=by simpa using q2
  rw[q2']at hmore
  obtain⟨_,hl8,rfl⟩:=hme q2
  rw[if_pos q2]at hinv
  have hst:=stmt_w L hL m hs ho
  have hsu:=stmt_ui hL hs ho
  generalize stmtF L m=x at hst hsu hinv
  obtain⟨st,s2⟩:=x
  simp only at hsu hinv
  have hs2:=hsu.rin
  have ho2:=hsu.opn.trans ho
  by_cases q3:isT L [59] s2=true
  rotate_left
  ·have q3:isT L [59] s2=false:=by simpa using q3
   rw[if_neg (by rw[q3];decide)]at hinv
   refine wVW_code ?_
   simp[go_sem,rB,q1']
   refine wVC_rd1 hany Tryz.callB65 (rd1_ptr ⟨argS_ro,trivial⟩) rfl ?_
   simp[go_sem,lotB]
   refine wVC_rd1 hmore Tryz.callB66 (rd1_ptr ⟨argS_no rfl,argS_no rfl,argS_no rfl,trivial⟩) rfl ?_
   simp[go_sem]
   refine wdraw_but [(3,3)] 2 4 (by simp) (by kernel_rfl) (by kernel_rfl) ?_
   simp[go_sem]
   refine wVD_rd1 hst Tryz.callB67 rd1_1 (noS_st _) ?_
   simp[go_sem]
   refine wneed_i ⟨by omega,uni_one rfl⟩ ?_
   simp[go_sem]
   refine wVC_rd1 (eat_no L hL s2 hs2 _ q3) Tryz.callB68 (rd1_ptr ⟨argS_no rfl,trivial⟩) rfl ?_
   simp[go_sem,rB]
   exact next_i (l++ [st],s2) ⟨⟨hs2,ho2,hinv⟩,at_n 4 (by simp[go_sem,rB,lotB]) rfl (by simp[rB,lotZ,lotB,ltOb,ltC,ltK]) (by decide) (args_lt_eq (by simp[go_sem]) rfl)⟩
  rw[if_pos q3]at hinv
  have hs3:=hs2.next hL q3
  have his:=is_w L hL (nextF s2) hs3 wAS
  have htk:=tok_w L hL (nextF s2) hs3
  generalize isT L wAS (nextF s2)=ba at his hinv
  generalize tokF L (nextF s2)=tk at htk hinv
  refine wVW_code ?_
  simp[go_sem,rB,q1']
  refine wVC_rd1 hany Tryz.callB65 (rd1_ptr ⟨argS_ro,trivial⟩) rfl ?_
  simp[go_sem,lotB]
  refine wVC_rd1 hmore Tryz.callB66 (rd1_ptr ⟨argS_no rfl,argS_no rfl,argS_no rfl,trivial⟩) rfl ?_
  simp[go_sem]
  refine wdraw_but [(3,3)] 2 4 (by simp) (by kernel_rfl) (by kernel_rfl) ?_
  simp[go_sem]
  refine wVD_rd1 hst Tryz.callB67 rd1_1 (noS_st _) ?_
  simp[go_sem]
  refine wneed_i ⟨by omega,uni_one rfl⟩ ?_
  simp[go_sem]
  refine wVC_rd1 (eat_yes L hL s2 hs2 _ q3) Tryz.callB68 (rd1_ptr ⟨argS_no rfl,trivial⟩) rfl ?_
  simp[go_sem]
  refine wVC_rd1 his Tryz.callB69 (rd1_ptr ⟨argS_no rfl,trivial⟩) rfl ?_
  refine(Bool.eq_false_or_eq_true ba).elim (fun q4=> ?_) (fun q4=> ?_)
  ·rw[if_pos (.inl q4)]at hinv
   simp[go_sem,q4,rB]
   exact next_i (l++ [st],nextF s2) ⟨⟨hs3,ho2,hinv⟩,at_n 4 (by simp[go_sem,rB,lotB]) rfl (by simp[rB,lotZ,lotB,ltOb,ltC,ltK]) (by decide) (args_lt_eq (by simp[go_sem]) rfl)⟩
  simp[go_sem,q4]
  refine wVC_rd1 htk Tryz.callB70 rd1_1 rfl ?_
  by_cases q5:tk.kind=0
  ·have q5':(tk.kind==0)=true:=by simpa using q5
   rw[if_pos (.inr q5)]at hinv
   simp[go_sem,q5',rB]
   exact next_i (l++ [st],nextF s2) ⟨⟨hs3,ho2,hinv⟩,at_n 4 (by simp[go_sem,rB,lotB]) rfl (by simp[rB,lotZ,lotB,ltOb,ltC,ltK]) (by decide) (args_lt_eq (by simp[go_sem]) rfl)⟩
  ·have q5':(tk.kind==0)=false:=by simpa using q5
   rw[if_neg (by rw[q4];simp[q5])]at hinv
   simp[go_sem,q5',rB]
   refine next_i (l++ [st],nextF s2) ⟨by simp;omega,⟨by simp;omega,hs3,ho2,by simp only[List.length_append,List.length_singleton,show 9 - (l.length+1)=8 - l.length by omega];exact hinv⟩,at_n 4 (by simp[go_sem,rB,lotB]) rfl (by simp[rB,lotZ,lotB,ltOb,ltC,ltK]) (by decide) (args_lt_eq (by simp[go_sem]) rfl)⟩
 ·rintro⟨l,s1⟩ ⟨hs,ho,hX2⟩
  simp only at hs ho
  rw[←hX2]at hM
  simp only at hM
  have hau:=as_ui hL hs
  refine wVW_cut (S:=(Int×Int)×RS) [2,7,8] (fun _=> [.ptr 0 0,.ptr 1 0,.ptr 2 0]) (fun u=> [lotZ,rB L u.2,lotB u.1.1 u.1.2 l,.app l.length 15]) (fun u=>u=asF L s1) hc hb ?_ ?_
  ·obtain⟨A,hA⟩: ∃A,asF L s1=A:=⟨_,rfl⟩
   rw[hA]
   unfold asF asS at hA
   by_cases q1:isT L wAS s1=true
   rotate_left
   ·have q1:isT L wAS s1=false:=by simpa using q1
    rw[if_neg (by rw[q1];decide)]at hA
    refine wVW_code ?_
    simp[go_sem]
    refine wVC_rd1 (eat_no L hL s1 hs _ q1) Tryz.callB68 (rd1_ptr ⟨argS_no rfl,trivial⟩) rfl ?_
    simp[go_sem]
    exact next_i ((0,0),s1) ⟨hA,at_n 4 (by simp[go_sem]) rfl (by simp[rB,lotZ,lotB,ltOb,ltC,ltK]) (by decide) (args_lt_eq (by simp[go_sem]) rfl)⟩
   rw[if_pos q1]at hA
   have hn1:=hs.next hL q1
   have hm1:=must_w L hL _ hn1 wOF
   have hi1:=mustF_in hL (w:=wOF) hn1
   generalize mustF L wOF (nextF s1)=u1 at hm1 hi1 hA
   have hm2:=must_w L hL _ hi1 wSYSTEM
   have hi2:=mustF_in hL (w:=wSYSTEM) hi1
   generalize mustF L wSYSTEM u1=u2 at hm2 hi2 hA
   have hm3:=must_w L hL _ hi2 wTIME
   have hi3:=mustF_in hL (w:=wTIME) hi2
   generalize mustF L wTIME u2=u3 at hm3 hi3 hA
   refine wVW_code ?_
   simp[go_sem]
   refine wVC_rd1 (eat_yes L hL s1 hs _ q1) Tryz.callB68 (rd1_ptr ⟨argS_no rfl,trivial⟩) rfl ?_
   simp[go_sem]
   refine wVC_rd1 hm1 Tryz.callB71 (rd1_ptr ⟨argS_no rfl,trivial⟩) rfl ?_
   simp[go_sem]
   refine wVC_rd1 hm2 Tryz.callB71 (rd1_ptr ⟨argS_no rfl,trivial⟩) rfl ?_
   simp[go_sem]
   refine wVC_rd1 hm3 Tryz.callB71 (rd1_ptr ⟨argS_no rfl,trivial⟩) rfl ?_
   simp[go_sem,lotB]
   by_cases q2:isT L wBOUND u3=true
   ·rw[if_pos q2]at hA
    have hnu:=num_w L hL _ (hi3.next hL q2)
    generalize numF L (nextF u3)=nn at hnu hA
    refine wVC_rd1 (eat_yes L hL u3 hi3 _ q2) Tryz.callB68 (rd1_ptr ⟨argS_no rfl,trivial⟩) rfl ?_
    simp[go_sem]
    refine wVC_rd1 hnu Tryz.callB72 rd1_1 rfl ?_
    simp[go_sem]
    exact next_i ((2,nn.1),nn.2) ⟨hA,at_n 4 (by simp[go_sem,lotB]) rfl (by simp[rB,lotZ,lotB,ltOb,ltC,ltK]) (by decide) (args_lt_eq (by simp[go_sem]) rfl)⟩
   ·have q2:isT L wBOUND u3=false:=by simpa using q2
    rw[if_neg (by rw[q2];decide)]at hA
    have hnu:=num_w L hL _ hi3
    generalize numF L u3=nn at hnu hA
    refine wVC_rd1 (eat_no L hL u3 hi3 _ q2) Tryz.callB68 (rd1_ptr ⟨argS_no rfl,trivial⟩) rfl ?_
    simp[go_sem]
    refine wVC_rd1 hnu Tryz.callB72 rd1_1 rfl ?_
    simp[go_sem]
    exact next_i ((1,nn.1),nn.2) ⟨hA,at_n 4 (by simp[go_sem,lotB]) rfl (by simp[rB,lotZ,lotB,ltOb,ltC,ltK]) (by decide) (args_lt_eq (by simp[go_sem]) rfl)⟩
  ·rintro _ rfl
   generalize asF L s1=A at hau hM
   obtain⟨⟨m,n⟩,s2⟩:=A
   simp only at hau hM
   have hs2:=hau.rin
   refine wVW_cut (S:=RS) [2,7,8] (fun _=> [.ptr 0 0,.ptr 1 0,.ptr 2 0]) (fun u=> [lotZ,rB L u,lotB m n l,.app l.length 15]) (fun u=>u=endF L s2) hc hb ?_ ?_
   ·have htk:=tok_w L hL s2 hs2
    have hf:=fail_w L s2 13 (tokF L s2).place
    obtain⟨E,hE⟩: ∃E,endF L s2=E:=⟨_,rfl⟩
    rw[hE]
    unfold endF at hE
    generalize tokF L s2=tk at htk hf hE
    generalize failF 13 tk.place s2=f at hf hE
    refine wVW_code ?_
    simp[go_sem,rB]
    by_cases q1:s2.err=0
    rotate_left
    ·have q1':(s2.err==0)=false:=by simpa using q1
     rw[if_neg (fun h=>q1 h.1)]at hE
     simp[go_sem,q1']
     exact next_i s2 ⟨hE,at_n 4 (by simp[go_sem]) rfl (by simp[rB,lotZ,lotB,ltOb,ltC,ltK]) (by decide) (args_lt_eq (by simp[go_sem]) rfl)⟩
    have q1':(s2.err==0)=true:=by simpa using q1
    simp[go_sem,q1']
    refine wVC_rd1 htk Tryz.callB70 rd1_1 rfl ?_
    by_cases q2:tk.kind=0
    ·have q2':(tk.kind !=0)=false:=by simpa using q2
     rw[if_neg (fun h=>h.2 q2)]at hE
     simp[go_sem,q2',rB]
     exact next_i s2 ⟨hE,at_n 4 (by simp[go_sem]) rfl (by simp[rB,lotZ,lotB,ltOb,ltC,ltK]) (by decide) (args_lt_eq (by simp[go_sem]) rfl)⟩
    ·have q2':(tk.kind !=0)=true:=by simpa using q2
     rw[if_pos ⟨q1,q2⟩]at hE
     simp[go_sem,q2']
     refine wVC_rd1 htk Tryz.callB70 rd1_1 rfl ?_
     simp[go_sem]
     refine wVC_rd1 hf Tryz.callB73 (rd1_ptr ⟨argS_no rfl,argS_no rfl,trivial⟩) rfl ?_
     simp[go_sem,rB]
     exact next_i f ⟨hE,at_n 4 (by simp[go_sem]) rfl (by simp[rB,lotZ,lotB,ltOb,ltC,ltK]) (by decide) (args_lt_eq (by simp[go_sem]) rfl)⟩
   ·rintro _ rfl
    generalize endF L s2=E at hM
    refine wVW_code ?_
    simp[go_sem,rB]
    by_cases q1:E.err=0
    ·have q1':(E.err !=0)=false:=by simpa using q1
     rw[if_pos q1]at hM
     simp[go_sem,q1',lotZ,lotB]
     exact wret_par (l:=⟨m,n,l⟩) hM
    ·have q1':(E.err !=0)=true:=by simpa using q1
     rw[if_neg q1]at hM
     simp[go_sem,q1',lotZ,lotB]
     refine wdraw_but [(9,3)] 1 4 (by simp) (by kernel_rfl) (by kernel_rfl) ?_
     simp[go_sem]
     exact wret_par (l:=lot0) hM
theorem Lot_w (s:List UInt8) (hl:s.length≤maxLen):Pure Tryz.prog 11 [.str s] (.agg (parseF s).1.row):=by
 have h:=Parse_w s hl
 generalize parseF s=x at h⊢
 refine VCalls.intro 0 Tryz.func11 Tryz.ntmps11 Tryz.results11 rfl rfl (Nat.le_of_ble_eq_true rfl) fun c hc hb=>wcode_of ?_
 simp[go_sem]
 refine wVC_pure h Tryz.callB28 (args_no rfl) rfl ?_
 simp[go_sem,parV]
 exact wret_0 (argS_no rfl) ⟨rfl,rfl⟩
end Go.Proofs.YtajjjghohakniaaGreat
