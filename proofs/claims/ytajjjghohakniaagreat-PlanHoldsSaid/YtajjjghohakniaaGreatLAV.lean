/-
  The document's reader of expressions: what holds of whatever it reads (plain facts); used by the theorem at the end of the claim.
  Conditions: as each theorem states them.
-/
import Derived.Test.YtajjjghohakniaaGreatLAU
import Derived.Test.YtajjjghohakniaaGreatLAS
namespace Go.Proofs.YtajjjghohakniaaGreat
open Go Go.Vx
set_option maxRecDepth 100000
structure GToken where
 kind:Int
 place:Int
 s:List UInt8
 n:Int
 deriving DecidableEq
@[go_sem] def GToken.row (x:GToken):List V:= [.int .i64 x.kind,.int .i64 x.place,.str x.s,.int .i64 x.n]
structure RS where
 at_:Nat
 opn:Int
 err:Int
 place:Int
 deriving DecidableEq
def rB (L:List GToken) (s:RS):Ob:= .box [.sl .ro (L.map GToken.row),.int .i64 (s.at_:Int),.int .i64 s.opn,.int .i64 s.err,.int .i64 s.place]
theorem zG7 (L:List GToken) (s:RS) (n:Nat):ltOb n (rB L s)=true:=by simp[rB,ltOb,ltC,ltK]
def zj9:GToken:=⟨0,0,[],0⟩
def tokF (L:List GToken) (s:RS):GToken:=L.getD s.at_ zj9
def wQ (e place:Int) (s:RS):RS:=if s.err=0 then{s with err:=e,place:=place}else s
def zM (s:RS):RS:={s with at_:=s.at_+1}
def outF (s:RS):RS:={s with opn:=s.opn - 1}
def isT (L:List GToken) (w:List UInt8) (s:RS):Bool:=s.err==0&&(((tokF L s).kind==1||(tokF L s).kind==4)&&(tokF L s).s==w)
def eatF (L:List GToken) (w:List UInt8) (s:RS):RS:=if isT L w s=true then zM s else s
def yB (L:List GToken) (w:List UInt8) (s:RS):RS:=if isT L w s=true then zM s else wQ 13 (tokF L s).place s
def yd5 (L:List GToken) (s:RS):Bool:=s.err==0&&((tokF L s).kind==1&&zi6 (tokF L s).s)
def yX (L:List GToken) (s:RS):List UInt8×RS:=if yd5 L s=true then((tokF L s).s,zM s)else([],wQ 13 (tokF L s).place s)
def numB (L:List GToken) (s:RS):Bool:=s.err==0&&(tokF L s).kind==2
def numF (L:List GToken) (s:RS):Int×RS:=if numB L s=true then((tokF L s).n,zM s)else(0,wQ 13 (tokF L s).place s)
def anyF (L:List GToken) (s:RS):List (List UInt8)→List UInt8
 | []=> []
 |w::ws=>if isT L w s=true then w else anyF L s ws
def yM (L:List GToken) (s:RS):RS:=if s.err=0∧s.opn+1>200 then{s with opn:=s.opn+1,err:=3,place:=(tokF L s).place}else{s with opn:=s.opn+1}
structure RIn (L:List GToken) (s:RS):Prop where
 at_:s.at_<L.length
 opn:0≤s.opn∧s.opn≤100000
structure LIn (L:List GToken):Prop where
 len:L.length≤1000000
 last: ∀i,L.length=i+1→(L.getD i zj9).kind=0
 txt: ∀t∈L,t.s.length≤maxLen
theorem LIn.next {L:List GToken} (h:LIn L) {s:RS} (hs:RIn L s) (hk:(tokF L s).kind≠0):RIn L (zM s):=by
 refine⟨?_,hs.opn⟩
 have h1:=hs.at_
 rcases Nat.lt_or_ge (s.at_+1) L.length with h2|h2
 ·exact h2
 ·exact absurd (h.last s.at_ (by omega)) hk
theorem yW8 {L:List GToken} {w:List UInt8} {s:RS} (h:isT L w s=true):(tokF L s).kind≠0∧s.err=0:=by
 unfold isT at h
 simp only[Bool.and_eq_true,Bool.or_eq_true,beq_iff_eq]at h
 exact⟨by omega,h.1⟩
theorem zn8 (L:List GToken) (hL:LIn L) (s:RS) (hs:RIn L s):VCalls Tryz.prog 70 [.ptr 0 0] [rB L s] (fun r σ=>r= .agg (tokF L s).row∧σ= [rB L s]):=by
 have h1:=hs.at_
 have hl:=hL.len
 obtain⟨t,ht⟩: ∃t,L[s.at_]=t:=⟨_,rfl⟩
 have htt:tokF L s=t:=by unfold tokF;rw[List.getD_eq_getElem?_getD,List.getElem?_eq_getElem h1,ht];rfl
 rw[htt]
 refine VCalls.intro 1 Tryz.func70 Tryz.ntmps70 Tryz.results70 rfl rfl (Nat.le_of_ble_eq_true rfl) fun c hc hb=>zJ ?_
 simp[go_sem,rB]
 refine xC [(10,4)] 2 (by simp) (by kernel_rfl) (by kernel_rfl) ?_
 simp[go_sem,h1,ht]
 exact zm3 1 rfl rfl rfl (Nat.le_refl _) (zA rfl) ⟨rfl,rfl⟩
theorem zH {P:Program} {c:Ctx} {f:FuncId} {caps args args':List V} {τ:St} {L:List GToken} {s s':RS} {v:V} {KV:V→St→Prop} (hc:VCalls P f args' [rB L s] (fun r σ=>r=v∧σ= [rB L s'])) (hb:zK P f=true)
  (hargs:All2 (argS (ren [0] (τ.length+1))) args' (args++caps)) (hn:noS v=true) (hk:KV v (rB L s'::τ)):wVC P c (.fn f caps) args (rB L s::τ) KV fx:=by
 refine zm1 0 hc hb rfl (zG7 _ _ _) hargs (fun r σ h=>⟨_,h.2,zG7 _ _ _⟩) ?_
 rintro r o2 ⟨rfl,h2⟩
 obtain rfl:o2=rB L s':=by simpa using h2
 rw[zu0 hn]
 exact hk
theorem zs9 {P:Program} {c:Ctx} {n:Nat} {f:FuncId} {caps args args':List V} {τ:St} {L:List GToken} {s s':RS} {v:V} {KV:V→St→Prop} (hc:VCalls P f args' [rB L s] (fun r σ=>r=v∧σ= [rB L s'])) (hb:zK P f=true)
  (hargs:All2 (argS (ren [0] (τ.length+1))) args' (args++caps)) (hn:noS v=true) (hk:KV v (rB L s'::τ)):wVD P c ⟨1,n⟩ 3 (.fn f caps) args (rB L s::τ) KV fx:=
 xm9 hc hb rfl (zG7 _ _ _) (zG7 _ _ _) hargs hn hk
theorem zL {N:Nat} {l l':List V} (h:All2 (argS (ren [0] N)) l l'):All2 (argS (ren [0] N)) (.ptr 0 0::l) (.ptr 0 0::l'):=⟨.inl rfl,h⟩
theorem rd_1 {N:Nat}:All2 (argS (ren [0] N)) [.ptr 0 0] [.ptr 0 0]:=zL trivial
theorem xH {R:V→St→Prop} {τ:St} {L:List GToken} {s:RS} {v r:V} (hr:argS (ren (List.range 1) (rB L s::τ).length) r v) (hR:R r [rB L s]):wret (some v) 1 R (rB L s::τ):=
 zm3 1 rfl rfl (by simp[zG7]) (Nat.le_refl _) hr hR
theorem is_w (L:List GToken) (hL:LIn L) (s:RS) (hs:RIn L s) (w:List UInt8):VCalls Tryz.prog 69 [.ptr 0 0,.str w] [rB L s] (fun r σ=>r= .bool (isT L w s)∧σ= [rB L s]):=by
 have ht:=zn8 L hL s hs
 have htl:(tokF L s).s.length≤maxLen:=by
  unfold tokF
  rw[List.getD_eq_getElem?_getD,List.getElem?_eq_getElem hs.at_]
  exact hL.txt _ (List.getElem_mem _)
 generalize hM:isT L w s=M
 unfold isT at hM
 obtain⟨t,htt⟩: ∃t,tokF L s=t:=⟨_,rfl⟩
 rw[htt]at hM ht htl
 have ret: ∀(r:Bool) (τ:St),r=M→wret (some (.bool r)) 1 (fun r σ=>r= .bool M∧σ= [rB L s]) (rB L s::τ):=fun r τ h=>by subst h;exact xH (zA rfl) ⟨rfl,rfl⟩
 refine VCalls.intro 1 Tryz.func69 Tryz.ntmps69 Tryz.results69 rfl rfl (Nat.le_of_ble_eq_true rfl) fun c hc hb=>zJ ?_
 simp[go_sem]
 refine zH ht Tryz.callB70 rd_1 rfl ?_
 simp[go_sem,rB]
 repeat' (first|(refine yT (fun q=> ?_) (fun q=> ?_)<;>simp[go_sem,q])|(refine zS (fun q=> ?_) (fun q=> ?_)<;>simp[go_sem,q]))
 all_goals exact ret _ _ (by rw[←hM];simp_all)
theorem zU6 (L:List GToken) (hL:LIn L) (s:RS) (hs:RIn L s) (w:List UInt8):VCalls Tryz.prog 68 [.ptr 0 0,.str w] [rB L s] (fun r σ=>r= .bool (isT L w s)∧σ= [rB L (eatF L w s)]):=by
 have hi:=is_w L hL s hs w
 have h1:=hs.at_
 have hl:=hL.len
 have ei:IntKind.i64.wrap ((s.at_:Int)+1)=((s.at_+1:Nat):Int):=by rw[i64_id (by omega) (by omega)];omega
 unfold eatF
 generalize isT L w s=b at hi
 refine VCalls.intro 1 Tryz.func68 Tryz.ntmps68 Tryz.results68 rfl rfl (Nat.le_of_ble_eq_true rfl) fun c hc hb=>zJ ?_
 simp[go_sem]
 refine zH hi Tryz.callB69 (zL ⟨zA rfl,trivial⟩) rfl ?_
 simp[go_sem,rB]
 refine(Bool.eq_false_or_eq_true b).elim (fun q=> ?_) (fun q=> ?_)
 all_goals subst q
 all_goals simp[go_sem,ei]
 ·exact xH (s:=zM s) (zA rfl) ⟨rfl,rfl⟩
 ·exact xH (s:=s) (zA rfl) ⟨rfl,rfl⟩
theorem zA7 (L:List GToken) (s:RS) (e p:Int):VCalls Tryz.prog 73 [.ptr 0 0,.int .i64 e,.int .i64 p] [rB L s] (fun r σ=>r= .tup []∧σ= [rB L (wQ e p s)]):=by
 unfold wQ
 refine VCalls.intro 1 Tryz.func73 Tryz.ntmps73 Tryz.results73 rfl rfl (Nat.le_of_ble_eq_true rfl) fun c hc hb=>zJ ?_
 simp[go_sem,rB]
 refine zS (fun q=> ?_) (fun q=> ?_)
 ·have q:s.err=0:=by simpa using q
  simp[go_sem,q]
  exact xH (s:={s with err:=e,place:=p}) (zA rfl) ⟨rfl,rfl⟩
 ·have q: ¬s.err=0:=by simpa using q
  simp[go_sem,q]
  exact xH (s:=s) (zA rfl) ⟨rfl,rfl⟩
theorem zb7 (L:List GToken) (hL:LIn L) (s:RS) (hs:RIn L s) (w:List UInt8):VCalls Tryz.prog 71 [.ptr 0 0,.str w] [rB L s] (fun r σ=>r= .tup []∧σ= [rB L (yB L w s)]):=by
 have he:=zU6 L hL s hs w
 have ht:=zn8 L hL s hs
 have hf:=zA7 L s 13 (tokF L s).place
 unfold eatF at he
 unfold yB
 generalize isT L w s=b at he
 refine VCalls.intro 1 Tryz.func71 Tryz.ntmps71 Tryz.results71 rfl rfl (Nat.le_of_ble_eq_true rfl) fun c hc hb=>zJ ?_
 simp[go_sem]
 refine zH he Tryz.callB68 (zL ⟨zA rfl,trivial⟩) rfl ?_
 simp[go_sem]
 refine(Bool.eq_false_or_eq_true b).elim (fun q=> ?_) (fun q=> ?_)
 all_goals subst q
 all_goals simp[go_sem]
 ·exact xH (zA rfl) ⟨rfl,rfl⟩
 ·refine zH ht Tryz.callB70 rd_1 rfl ?_
  simp[go_sem]
  refine zH hf Tryz.callB73 (zL ⟨zA rfl,zA rfl,trivial⟩) rfl ?_
  simp[go_sem]
  exact xH (zA rfl) ⟨rfl,rfl⟩
theorem zH9 (L:List GToken) (hL:LIn L) (s:RS) (hs:RIn L s):VCalls Tryz.prog 117 [.ptr 0 0] [rB L s] (fun r σ=>r= .str (yX L s).1∧σ= [rB L (yX L s).2]):=by
 have ht:=zn8 L hL s hs
 have hf:=zA7 L s 13 (tokF L s).place
 have htl:(tokF L s).s.length≤maxLen:=by
  unfold tokF
  rw[List.getD_eq_getElem?_getD,List.getElem?_eq_getElem hs.at_]
  exact hL.txt _ (List.getElem_mem _)
 have hw:=zO1 (tokF L s).s htl
 have h1:=hs.at_
 have hl:=hL.len
 have ei:IntKind.i64.wrap ((s.at_:Int)+1)=((s.at_+1:Nat):Int):=by rw[i64_id (by omega) (by omega)];omega
 have hno:yd5 L s=false→yX L s=([],wQ 13 (tokF L s).place s):=fun h=>by unfold yX;rw[h];rfl
 have hyes:yd5 L s=true→yX L s=((tokF L s).s,zM s):=fun h=>by unfold yX;rw[h];rfl
 generalize yX L s=M at hno hyes⊢
 unfold yd5 at hno hyes
 obtain⟨t,htt⟩: ∃t,tokF L s=t:=⟨_,rfl⟩
 rw[htt]at ht hf hw hno hyes
 obtain⟨b,hb0⟩: ∃b,zi6 t.s=b:=⟨_,rfl⟩
 rw[hb0]at hw hno hyes
 have key:((s.err==0&&(t.kind==1&&b))=false∧(s.err !=0)=true)∨((s.err==0&&(t.kind==1&&b))=false∧(s.err !=0)=false∧(t.kind !=1)=true)∨((s.err==0&&(t.kind==1&&b))=b∧(s.err !=0)=false∧(t.kind !=1)=false):=by
  simp only[bne,Bool.not_eq_true',Bool.not_eq_false']
  cases s.err==0<;>cases t.kind==1<;>simp
 have no: ∀τ:St,M=([],wQ 13 t.place s)→wret (some (.str [])) 1 (fun r σ=>r= .str M.1∧σ= [rB L M.2]) (rB L (wQ 13 t.place s)::τ):=fun τ h=>by subst h;exact xH (zA rfl) ⟨rfl,rfl⟩
 refine VCalls.intro 1 Tryz.func117 Tryz.ntmps117 Tryz.results117 rfl rfl (Nat.le_of_ble_eq_true rfl) fun c hc hb=>zJ ?_
 simp[go_sem]
 refine zH ht Tryz.callB70 rd_1 rfl ?_
 simp[go_sem,rB]
 refine key.elim (fun⟨q1,q2⟩=> ?_) fun key=>key.elim (fun⟨q1,q2,q3⟩=> ?_) fun⟨q1,q2,q3⟩=> ?_
 ·simp[go_sem,q2]
  refine zH hf Tryz.callB73 (zL ⟨zA rfl,zA rfl,trivial⟩) rfl ?_
  simp[go_sem]
  exact no _ (hno q1)
 ·simp[go_sem,q2,q3]
  refine zH hf Tryz.callB73 (zL ⟨zA rfl,zA rfl,trivial⟩) rfl ?_
  simp[go_sem]
  exact no _ (hno q1)
 ·simp[go_sem,q2,q3]
  refine zD hw Tryz.callB147 (zG rfl) rfl ?_
  refine(Bool.eq_false_or_eq_true b).elim (fun q=> ?_) (fun q=> ?_)
  ·have hM:=hyes (q1.trans q)
   subst q
   subst hM
   simp[go_sem,ei]
   exact xH (s:=zM s) (zA rfl) ⟨rfl,rfl⟩
  ·have hM:=hno (q1.trans q)
   subst q
   simp[go_sem]
   refine zH hf Tryz.callB73 (zL ⟨zA rfl,zA rfl,trivial⟩) rfl ?_
   simp[go_sem]
   exact no _ hM
theorem yd7 (L:List GToken) (hL:LIn L) (s:RS) (hs:RIn L s):VCalls Tryz.prog 72 [.ptr 0 0] [rB L s] (fun r σ=>r= .int .i64 (numF L s).1∧σ= [rB L (numF L s).2]):=by
 have ht:=zn8 L hL s hs
 have hf:=zA7 L s 13 (tokF L s).place
 have h1:=hs.at_
 have hl:=hL.len
 have ei:IntKind.i64.wrap ((s.at_:Int)+1)=((s.at_+1:Nat):Int):=by rw[i64_id (by omega) (by omega)];omega
 have hno:numB L s=false→numF L s=(0,wQ 13 (tokF L s).place s):=fun h=>by unfold numF;rw[h];rfl
 have hyes:numB L s=true→numF L s=((tokF L s).n,zM s):=fun h=>by unfold numF;rw[h];rfl
 generalize numF L s=M at hno hyes⊢
 unfold numB at hno hyes
 obtain⟨t,htt⟩: ∃t,tokF L s=t:=⟨_,rfl⟩
 rw[htt]at ht hf hno hyes
 have key:((s.err==0&&t.kind==2)=false∧(s.err !=0)=true)∨((s.err==0&&t.kind==2)=false∧(s.err !=0)=false∧(t.kind !=2)=true)∨((s.err==0&&t.kind==2)=true∧(s.err !=0)=false∧(t.kind !=2)=false):=by
  simp only[bne,Bool.not_eq_true',Bool.not_eq_false']
  cases s.err==0<;>cases t.kind==2<;>simp
 have no: ∀τ:St,M=(0,wQ 13 t.place s)→wret (some (.int .i64 0)) 1 (fun r σ=>r= .int .i64 M.1∧σ= [rB L M.2]) (rB L (wQ 13 t.place s)::τ):=fun τ h=>by subst h;exact xH (zA rfl) ⟨rfl,rfl⟩
 refine VCalls.intro 1 Tryz.func72 Tryz.ntmps72 Tryz.results72 rfl rfl (Nat.le_of_ble_eq_true rfl) fun c hc hb=>zJ ?_
 simp[go_sem]
 refine zH ht Tryz.callB70 rd_1 rfl ?_
 simp[go_sem,rB]
 refine key.elim (fun⟨q1,q2⟩=> ?_) fun key=>key.elim (fun⟨q1,q2,q3⟩=> ?_) fun⟨q1,q2,q3⟩=> ?_
 ·simp[go_sem,q2]
  refine zH hf Tryz.callB73 (zL ⟨zA rfl,zA rfl,trivial⟩) rfl ?_
  simp[go_sem]
  exact no _ (hno q1)
 ·simp[go_sem,q2,q3]
  refine zH hf Tryz.callB73 (zL ⟨zA rfl,zA rfl,trivial⟩) rfl ?_
  simp[go_sem]
  exact no _ (hno q1)
 ·have hM:=hyes q1
  subst hM
  simp[go_sem,q2,q3,ei]
  exact xH (s:=zM s) (zA rfl) ⟨rfl,rfl⟩
theorem zP5 (L:List GToken) (hL:LIn L) (s:RS) (hs:RIn L s) (ws:List (List UInt8)) (hw:ws.length≤1000):VCalls Tryz.prog 65 [.ptr 0 0,.sl .ro (ws.map fun w=> [V.str w])] [rB L s] (fun r σ=>r= .str (anyF L s ws)∧σ= [rB L s]):=by
 generalize hM:anyF L s ws=M
 have ret: ∀(r:List UInt8) (τ:St),r=M→wret (some (.str r)) 1 (fun r σ=>r= .str M∧σ= [rB L s]) (rB L s::τ):=fun r τ h=>by subst h;exact xH (zA rfl) ⟨rfl,rfl⟩
 refine VCalls.introV 1 Tryz.func65 Tryz.ntmps65 Tryz.results65 rfl rfl (Nat.le_of_ble_eq_true rfl) fun c hc hb=> ?_
 refine zC ?_
 simp[go_sem]
 refine zN (S:=Nat) [0,1,5] (fun i=> [.ptr 0 0,.sl .ro (ws.map fun w=> [V.str w]),.int .i64 i]) (fun _=> [rB L s]) (fun i=>ws.length - i) (fun i=>i≤ws.length∧anyF L s (ws.drop i)=M) hc hb 0 ⟨Nat.zero_le _,hM⟩ ?_ ?_
 ·exact at_n 1 (by simp[go_sem,rB]) rfl (by simp[zG7]) (Nat.le_refl _) (zE (by simp[go_sem]) rfl)
 rintro i ⟨hi,hinv⟩
 by_cases q:i<ws.length
 rotate_left
 ·rw[List.drop_eq_nil_of_le (by omega)]at hinv
  refine zC ?_
  simp[go_sem,q]
  exact ret _ _ hinv
 have ei:=zU q (by omega)
 obtain⟨w,hx⟩: ∃w,ws[i]=w:=⟨_,rfl⟩
 rw[List.drop_eq_getElem_cons q,hx,anyF]at hinv
 have hiw:=is_w L hL s hs w
 obtain⟨b,hb1⟩: ∃b,isT L w s=b:=⟨_,rfl⟩
 rw[hb1]at hiw hinv
 refine zC ?_
 simp[go_sem,q,hx]
 refine zH hiw Tryz.callB69 (zL ⟨zA rfl,trivial⟩) rfl ?_
 simp[go_sem]
 refine zS (fun w1=> ?_) (fun w1=> ?_)
 ·rw[if_pos w1]at hinv
  simp[go_sem,q,hx]
  exact ret _ _ hinv
 ·rw[if_neg (by rw[w1];decide)]at hinv
  simp[go_sem,ei]
  exact zP (i+1) ⟨by omega,⟨q,hinv⟩,at_n 1 rfl rfl (by simp[zG7]) (Nat.le_refl _) (zE (by simp[go_sem]) rfl)⟩
theorem zI3 (L:List GToken) (hL:LIn L) (s:RS) (hs:RIn L s) (h200:s.opn≤1000):VCalls Tryz.prog 214 [.ptr 0 0] [rB L s] (fun r σ=>r= .bool ((yM L s).err==0)∧σ= [rB L (yM L s)]):=by
 have ho:=hs.opn
 have ht:=zn8 L hL {s with opn:=s.opn+1} ⟨hs.at_,by simp only;omega⟩
 have e0:tokF L {s with opn:=s.opn+1}=tokF L s:=rfl
 rw[e0]at ht
 have hf:=zA7 L {s with opn:=s.opn+1} 3 (tokF L s).place
 have ei:IntKind.i64.wrap (s.opn+1)=s.opn+1:=by rw[i64_id (by omega) (by omega)]
 refine VCalls.intro 1 Tryz.func214 Tryz.ntmps214 Tryz.results214 rfl rfl (Nat.le_of_ble_eq_true rfl) fun c hc hb=>zJ ?_
 simp[go_sem,rB,ei]
 by_cases q1:s.err=0
 ·have q1':(s.err==0)=true:=by simpa using q1
  by_cases q2:s.opn+1>200
  ·have q2':decide (200<s.opn+1)=true:=decide_eq_true (by omega)
   have hS:yM L s=wQ 3 (tokF L s).place {s with opn:=s.opn+1}:=by unfold yM wQ;rw[if_pos ⟨q1,q2⟩,if_pos q1]
   rw[hS]
   simp[go_sem,q1',q2']
   refine zH ht Tryz.callB70 rd_1 rfl ?_
   simp[go_sem]
   refine zH hf Tryz.callB73 (zL ⟨zA rfl,zA rfl,trivial⟩) rfl ?_
   unfold wQ
   rw[if_pos q1]
   simp[go_sem,rB]
   exact xH (L:=L) (s:={s with opn:=s.opn+1,err:=3,place:=(tokF L s).place}) (zA rfl) ⟨rfl,rfl⟩
  ·have q2':decide (200<s.opn+1)=false:=decide_eq_false (by omega)
   have hS:yM L s={s with opn:=s.opn+1}:=by unfold yM;rw[if_neg (fun h=>q2 h.2)]
   rw[hS]
   simp[go_sem,q1',q2']
   exact xH (L:=L) (s:={s with opn:=s.opn+1}) (zA rfl) ⟨rfl,rfl⟩
 ·have q1':(s.err==0)=false:=by simpa using q1
  have hS:yM L s={s with opn:=s.opn+1}:=by unfold yM;rw[if_neg (fun h=>q1 h.1)]
  rw[hS]
  simp[go_sem,q1']
  exact xH (L:=L) (s:={s with opn:=s.opn+1}) (zA rfl) ⟨rfl,rfl⟩
theorem yp7:Pure Tryz.prog 216 [] (.sl .ro [[.sl .ro [[.str [79,82]]]],[.sl .ro [[.str [65,78,68]]]]]):=by
 refine VCalls.intro 0 Tryz.func216 Tryz.ntmps216 Tryz.results216 rfl rfl (Nat.le_of_ble_eq_true rfl) fun c hc hb=>zJ ?_
 simp[go_sem]
 exact zQ zW ⟨rfl,rfl⟩
mutual
def xA:GExpr→Nat
 | .mk _ _ _ args=>xL args+1
def xL:List GExpr→Nat
 | []=>0
 |e::l=>max (xA e) (xL l)
end
theorem wV (e:GExpr):xA e=xL e.args+1:=by cases e;rw[xA];rfl
theorem xX: ∀(l:List GExpr) (e:GExpr),e∈l→xA e≤xL l
 | [],_,h=>by simp at h
 |x::l,e,h=>by
  rw[xL]
  rcases List.mem_cons.1 h with rfl|h
  ·omega
  ·have:=xX l e h;omega
inductive Wide:GExpr→Prop
 |mk (e:GExpr) (h:e.args.length≤1000000) (ha: ∀x∈e.args,Wide x):Wide e
theorem Wide.len {e:GExpr} (h:Wide e):e.args.length≤1000000:=by cases h;assumption
theorem Wide.sub {e:GExpr} (h:Wide e): ∀x∈e.args,Wide x:=by cases h;assumption
def maxD (l:List GExpr) (d:Nat):Nat:=l.foldl (fun d e=>max d (xA e)) d
theorem yG6: ∀(l:List GExpr) (d:Nat),maxD l d=max d (xL l)
 | [],d=>by simp[maxD,xL]
 |e::l,d=>by
  have:=yG6 l (max d (xA e))
  unfold maxD at this⊢
  rw[List.foldl_cons,this,xL]
  omega
theorem yR7: ∀(n:Nat) (e:GExpr),xA e≤n→n≤1000000→Wide e→Pure Tryz.prog 232 [.agg e.row] (.int .i64 (xA e:Int))
 |0,e,h,_,_=>by rw[wV]at h;omega
 |n+1,e,h,hn,hw=>by
  have ih:=yR7 n
  have hde:=wV e
  obtain⟨args,hargs⟩: ∃args,e.args=args:=⟨_,rfl⟩
  have hlen:=hw.len
  have hsub:=hw.sub
  rw[hargs]at hde hlen hsub
  obtain⟨D,hD⟩: ∃D,xA e=D:=⟨_,rfl⟩
  rw[hD]at hde h⊢
  refine VCalls.introV 0 Tryz.func232 Tryz.ntmps232 Tryz.results232 rfl rfl (Nat.le_of_ble_eq_true rfl) fun c hc hb=> ?_
  refine zC ?_
  simp[go_sem]
  refine zN (S:=Nat×Nat) [1,3,4] (fun u=> [.ptr 0 0,.int .i64 (u.2:Int),.int .i64 (u.1:Int)]) (fun _=> [.box e.row]) (fun u=>args.length - u.1) (fun u=>u.1≤args.length∧maxD (args.drop u.1) u.2=xL args∧u.2≤n) hc hb (0,0) ⟨Nat.zero_le _,by simp[yG6],Nat.zero_le _⟩ ?_ ?_
  ·exact at_n 1 (by simp[go_sem]) rfl (by simp[ltOb,ltC,ltK,GExpr.row_eq]) (Nat.zero_le _) (zE (by simp[go_sem]) rfl)
  rintro⟨i,d⟩ ⟨hi,hinv,hdn⟩
  simp only at hi hinv hdn
  by_cases q:i<args.length
  rotate_left
  ·rw[List.drop_eq_nil_of_le (by omega)]at hinv
   have hdd:d=xL args:=hinv
   have ei:IntKind.i64.wrap ((d:Int)+1)=(D:Int):=by rw[i64_id (by omega) (by omega)];omega
   refine zC ?_
   simp[go_sem,q,hargs,ei]
   exact zQ (zA rfl) ⟨rfl,rfl⟩
  have ei:=zU q (by omega)
  obtain⟨x,hx⟩: ∃x,args[i]=x:=⟨_,rfl⟩
  have hxm:x∈args:=hx▸List.getElem_mem q
  have hdx:=xX args x hxm
  rw[List.drop_eq_getElem_cons q,hx]at hinv
  have hdw:=ih x (by omega) (by omega) (hsub x hxm)
  have hinv2:maxD (args.drop (i+1)) (max d (xA x))=xL args:=hinv
  obtain⟨dx,hdxe⟩: ∃dx,xA x=dx:=⟨_,rfl⟩
  rw[hdxe]at hdw hinv2 hdx
  refine zC ?_
  simp[go_sem,q,hargs,hx]
  refine zD hdw Tryz.callB232 (zI (by simp[go_sem]) (by rw[GExpr.row_eq];rfl)) rfl ?_
  simp[go_sem,ei]
  refine zP (i+1,max d dx) ⟨by simp only;omega,⟨by simp only;omega,hinv2,by simp only;omega⟩, ?_⟩
  refine at_n 1 (by simp[go_sem,hargs]) rfl (by simp[ltOb,ltC,ltK,GExpr.row_eq]) (Nat.zero_le _) (zE ?_ rfl)
  simp[go_sem]
  split<;>omega
end Go.Proofs.YtajjjghohakniaaGreat
namespace Go.Proofs.YtajjjghohakniaaGreat
open Go Go.Vx
set_option maxRecDepth 100000
abbrev PR:=GExpr×RS
def zeroE:GExpr:= .mk 0 [] ⟨0,0,[]⟩ []
def opE (w:List UInt8) (args:List GExpr):GExpr:= .mk 3 w ⟨0,0,[]⟩ args
def valE (v:GValue):GExpr:= .mk 1 [] v []
def namE (w:List UInt8):GExpr:= .mk 2 w ⟨0,0,[]⟩ []
def opS (place:Int) (w:List UInt8) (args:List GExpr) (s:RS):RS:=if s.err=0∧16<xA (opE w args)then wQ 3 place s else s
def opF (place:Int) (w:List UInt8) (args:List GExpr) (s:RS):PR:=(opE w args,opS place w args s)
def zd0 (L:List GToken) (k:RS→PR) (s:RS):PR:=if(yM L s).err=0 then((k (yM L s)).1,outF (k (yM L s)).2)else(zeroE,outF (yM L s))
def opsF (L:List GToken) (ws:List (List UInt8)) (sub:RS→PR):Nat→PR→PR
 |0,x=>x
 |n+1,x=>if anyF L x.2 ws= []then x else opsF L ws sub n (opF (tokF L x.2).place (anyF L x.2 ws) [x.1,(sub (zM x.2)).1] (sub (zM x.2)).2)
def wOR:List UInt8:= [79,82]
def wAND:List UInt8:= [65,78,68]
def wNOT:List UInt8:= [78,79,84]
def wIS:List UInt8:= [73,83]
def zo1:List UInt8:= [78,85,76,76]
def zT1:List UInt8:= [73,83,78,85,76,76]
def zL9:List UInt8:= [78,79,84,78,85,76,76]
def signsC:List (List UInt8):= [[61],[60,62],[60],[60,61],[62],[62,61]]
def zj3:List (List UInt8):= [[43],[45]]
def zj2:List (List UInt8):= [[42],[47],[37]]
def notK (L:List GToken) (rn rc:RS→PR) (s:RS):PR:=if isT L wNOT s=true then opF (tokF L s).place wNOT [(rn (zM s)).1] (rn (zM s)).2 else rc s
def cmpJ (L:List GToken) (sub:RS→PR) (x:PR):PR:=
 if isT L wIS x.2=true then
  if isT L wNOT (zM x.2)=true then opF (tokF L x.2).place zL9 [x.1] (yB L zo1 (zM (zM x.2)))else opF (tokF L x.2).place zT1 [x.1] (yB L zo1 (zM x.2))
 else if anyF L x.2 signsC= []then x else opF (tokF L x.2).place (anyF L x.2 signsC) [x.1,(sub (zM x.2)).1] (sub (zM x.2)).2
def zA2 (L:List GToken) (un ex:RS→PR) (s:RS):PR:=
 if isT L [45] s=true then opF (tokF L s).place [78,69,71] [(un (zM s)).1] (un (zM s)).2
 else if isT L [40] s=true then((ex (zM s)).1,yB L [41] (ex (zM s)).2)
 else if isT L [84,82,85,69] s=true then(valE ⟨1,1,[]⟩,zM s)
 else if isT L [70,65,76,83,69] s=true then(valE ⟨1,0,[]⟩,zM s)
 else if isT L zo1 s=true then(valE ⟨0,0,[]⟩,zM s)
 else if(tokF L s).kind=2 then(valE ⟨2,(tokF L s).n,[]⟩,zM s)
 else if(tokF L s).kind=3 then(valE ⟨3,0,(tokF L s).s⟩,zM s)
 else(namE (yX L s).1,(yX L s).2)
def zf0 (L:List GToken) (rec:Nat→RS→PR):Nat→RS→PR
 |0,s=>opsF L [wOR] (rec 1) L.length (rec 1 s)
 |1,s=>opsF L [wAND] (rec 2) L.length (rec 2 s)
 |2,s=>notK L (rec 2) (rec 3) s
 |3,s=>cmpJ L (rec 4) (rec 4 s)
 |4,s=>opsF L zj3 (rec 5) L.length (rec 5 s)
 |5,s=>opsF L zj2 (rec 6) L.length (rec 6 s)
 |_,s=>zA2 L (rec 6) (rec 0) s
def pF (L:List GToken):Nat→Nat→RS→PR
 |0,_,s=>(zeroE,s)
 |f+1,w,s=>zd0 L (zf0 L (pF L f) w) s
structure PI (L:List GToken) (s:RS) (x:PR):Prop where
 rin:RIn L x.2
 opn:x.2.opn=s.opn
 up:s.at_≤x.2.at_
 err:x.2.err=0→s.err=0∧xA x.1≤16
 wide:Wide x.1
theorem zj7 {e p:Int} {s:RS} (he:e≠0):(wQ e p s).err≠0:=by unfold wQ;split<;>simp_all
theorem zA6 (e p:Int) (s:RS):(wQ e p s).at_=s.at_:=by unfold wQ;split<;>rfl
theorem zv3 (e p:Int) (s:RS):(wQ e p s).opn=s.opn:=by unfold wQ;split<;>rfl
theorem zV0 {L:List GToken} {s:RS} (h:RIn L s) (e p:Int):RIn L (wQ e p s):=⟨by rw[zA6];exact h.at_,by rw[zv3];exact h.opn⟩
theorem zI0 (p:Int) (w:List UInt8) (a:List GExpr) (s:RS):(opS p w a s).at_=s.at_:=by unfold opS;split;exact zA6 _ _ _;rfl
theorem zS4 (p:Int) (w:List UInt8) (a:List GExpr) (s:RS):(opS p w a s).opn=s.opn:=by unfold opS;split;exact zv3 _ _ _;rfl
theorem yj1 {p:Int} {w:List UInt8} {a:List GExpr} {s:RS} (h:(opS p w a s).err=0):s.err=0∧xA (opE w a)≤16:=by
 unfold opS at h
 split at h
 ·exact absurd h (zj7 (by decide))
 ·rename_i hc
  refine⟨h, ?_⟩
  by_cases q:16<xA (opE w a)
  ·exact absurd ⟨h,q⟩ hc
  ·omega
theorem xs9 {L:List GToken} {s:RS} (h:RIn L s) (p:Int) (w:List UInt8) (a:List GExpr):RIn L (opS p w a s):=⟨by rw[zI0];exact h.at_,by rw[zS4];exact h.opn⟩
theorem yH7 (p:Int) (w:List UInt8) (a:List GExpr) (s:RS):opS p w a (outF s)=outF (opS p w a s):=by
 unfold opS wQ outF
 by_cases q:s.err=0∧16<xA (opE w a)
 ·rw[if_pos q,if_pos q,if_pos q.1,if_pos q.1]
 ·rw[if_neg q,if_neg q]
theorem yU3 (w:List UInt8) (a:List GExpr):xA (opE w a)=xL a+1:=wV _
theorem yK2 {w:List UInt8} {a:List GExpr} (h:a.length≤1000000) (ha: ∀x∈a,Wide x):Wide (opE w a):= .mk _ h ha
theorem xe3 {e:GExpr} (h:e.args= []):Wide e:= .mk _ (by simp[h]) (by simp[h])
def RR (L:List GToken) (x:PR):V→St→Prop:=fun r σ=>r= .agg x.1.row∧σ= [rB L x.2]
theorem xT {τ:St} {L:List GToken} {e:GExpr} {s:RS} {x:PR} (h:x=(e,s)):wret (some (.agg [.int .i64 e.kind,.str e.s,.int .i64 e.v.kind,.int .i64 e.v.n,.str e.v.s,.sl .ro (e.args.map GExpr.row)])) 1 (RR L x) (rB L s::τ):=by
 subst h
 exact xH (zA rfl) ⟨by rw[GExpr.row_eq],rfl⟩
theorem yH1 (e:GExpr):noS (.agg e.row)=true:=by rw[GExpr.row_eq];rfl
theorem wP {P:Program} {c:Ctx} {f:FuncId} {caps args args':List V} {τ:St} {L:List GToken} {s:RS} {x:PR} {KV:V→St→Prop} (hc:VCalls P f args' [rB L s] (RR L x)) (hb:zK P f=true)
  (hargs:All2 (argS (ren [0] (τ.length+1))) args' (args++caps)) (hk:KV (.agg x.1.row) (rB L x.2::τ)):wVC P c (.fn f caps) args (rB L s::τ) KV fx:=
 zH hc hb hargs (yH1 _) hk
theorem zo7 {P:Program} {c:Ctx} {n:Nat} {f:FuncId} {caps args args':List V} {τ:St} {L:List GToken} {s:RS} {x:PR} {KV:V→St→Prop} (hc:VCalls P f args' [rB L s] (RR L x)) (hb:zK P f=true)
  (hargs:All2 (argS (ren [0] (τ.length+1))) args' (args++caps)) (hk:KV (.agg x.1.row) (rB L x.2::τ)):wVD P c ⟨1,n⟩ 3 (.fn f caps) args (rB L s::τ) KV fx:=
 zs9 hc hb hargs (yH1 _) hk
theorem op_w (L:List GToken) (s:RS) (p:Int) (w:List UInt8) (a:List GExpr) (hl:a.length≤1000) (hw: ∀x∈a,Wide x) (hd:s.err=0→xL a≤1000):
  VCalls Tryz.prog 217 [.ptr 0 0,.int .i64 p,.str w,.sl .ro (a.map GExpr.row)] [rB L s] (RR L (opF p w a s)):=by
 obtain⟨D,hD⟩: ∃D,xA (opE w a)=D:=⟨_,rfl⟩
 have hDd:=yU3 w a
 rw[hD]at hDd
 have hf:=zA7 L s 3 p
 have hS:opF p w a s=(opE w a,if s.err=0∧16<D then wQ 3 p s else s):=by unfold opF opS;rw[hD]
 generalize opF p w a s=M at hS⊢
 refine VCalls.intro 1 Tryz.func217 Tryz.ntmps217 Tryz.results217 rfl rfl (Nat.le_of_ble_eq_true rfl) fun c hc hb=>zJ ?_
 by_cases q1:s.err=0
 ·have q1':(s.err==0)=true:=by simpa using q1
  have hdp:=yR7 1001 (opE w a) (by rw[hD,hDd];have:=hd q1;omega) (by omega) (yK2 (by omega) hw)
  rw[hD]at hdp
  simp[go_sem,rB,q1']
  refine zD hdp Tryz.callB232 (zI (by rw[GExpr.row_eq];rfl) rfl) rfl ?_
  simp[go_sem]
  by_cases q2:16<D
  ·have q2':decide ((16:Int)<(D:Int))=true:=decide_eq_true (by omega)
   rw[if_pos ⟨q1,q2⟩]at hS
   simp[go_sem,q2']
   refine zH hf Tryz.callB73 (zL ⟨zA rfl,zA rfl,trivial⟩) rfl ?_
   simp[go_sem]
   exact xT hS
  ·have q2':decide ((16:Int)<(D:Int))=false:=decide_eq_false (by omega)
   rw[if_neg (fun h=>q2 h.2)]at hS
   simp[go_sem,q2']
   exact xT hS
 ·have q1':(s.err==0)=false:=by simpa using q1
  rw[if_neg (fun h=>q1 h.1)]at hS
  simp[go_sem,rB,q1']
  exact xT hS
end Go.Proofs.YtajjjghohakniaaGreat
namespace Go.Proofs.YtajjjghohakniaaGreat
open Go Go.Vx
set_option maxRecDepth 100000
variable {L:List GToken}
theorem wW (s:RS):(zM s).at_=s.at_+1:=rfl
theorem zw5 {s:RS}: ∀{ws:List (List UInt8)},anyF L s ws≠ []→isT L (anyF L s ws) s=true
 | [],h=>absurd rfl h
 |w::ws,h=>by
  unfold anyF at h⊢
  split
  ·assumption
  ·rename_i hn
   rw[if_neg hn]at h
   exact zw5 h
theorem RIn.next (hL:LIn L) {w:List UInt8} {s:RS} (h:RIn L s) (hi:isT L w s=true):RIn L (zM s):=hL.next h (yW8 hi).1
theorem zh9 (hL:LIn L) {w:List UInt8} {s:RS} (h:RIn L s):RIn L (yB L w s):=by
 unfold yB
 split
 ·exact h.next hL ‹_›
 ·exact zV0 h _ _
theorem zr6 (w:List UInt8) (s:RS):s.at_≤(yB L w s).at_:=by
 unfold yB
 split
 ·simp[zM]
 ·rw[zA6];exact Nat.le_refl _
theorem zl9 (w:List UInt8) (s:RS):(yB L w s).opn=s.opn:=by
 unfold yB
 split
 ·rfl
 ·exact zv3 _ _ _
theorem zh0 {w:List UInt8} {s:RS} (h:(yB L w s).err=0):s.err=0∧isT L w s=true:=by
 unfold yB at h
 split at h
 ·exact⟨h,‹_›⟩
 ·exact absurd h (zj7 (by decide))
theorem yr1 (hL:LIn L) {s:RS} (h:RIn L s):RIn L (yX L s).2:=by
 unfold yX
 split
 ·rename_i hb
  unfold yd5 at hb
  simp only[Bool.and_eq_true,beq_iff_eq]at hb
  exact hL.next h (by rw[hb.2.1];decide)
 ·exact zV0 h _ _
theorem yr2 (s:RS):s.at_≤(yX L s).2.at_:=by
 unfold yX
 split
 ·simp[zM]
 ·simp only[zA6];exact Nat.le_refl _
theorem yd6 (s:RS):(yX L s).2.opn=s.opn:=by
 unfold yX
 split
 ·rfl
 ·exact zv3 _ _ _
theorem zN8 {s:RS} (h:(yX L s).2.err=0):s.err=0∧yd5 L s=true:=by
 unfold yX at h
 split at h
 ·exact⟨h,‹_›⟩
 ·exact absurd h (zj7 (by decide))
theorem xg9 {e:GExpr} (h:e.args= []):xA e=1:=by rw[wV,h];rfl
theorem zF3 {s0 s:RS} (p:Int) (w:List UInt8) {a:List GExpr} (h1:RIn L s) (h2:s.opn=s0.opn) (h3:s0.at_≤s.at_) (h4:s.err=0→s0.err=0) (h5:a.length≤1000000) (h6: ∀x∈a,Wide x):PI L s0 (opF p w a s):=
 ⟨xs9 h1 _ _ _,by show(opS p w a s).opn=_;rw[zS4,h2],by show _≤(opS p w a s).at_;rw[zI0];exact h3,fun h=>⟨h4 (yj1 h).1,(yj1 h).2⟩,yK2 h5 h6⟩
theorem zE5 (hL:LIn L) {o:Int} {sub:RS→PR} (hsub: ∀s,RIn L s→s.opn=o→PI L s (sub s)) (ws:List (List UInt8)) {s0:RS}: ∀(n:Nat) (x:PR),PI L s0 x→s0.opn=o→PI L s0 (opsF L ws sub n x)
 |0,x,h,_=>h
 |n+1,x,h,ho=>by
  unfold opsF
  split
  ·exact h
  rename_i hne
  have hi:=zw5 hne
  have hx:=h.opn
  have hy:=hsub (zM x.2) (h.rin.next hL hi) (by show x.2.opn=o;rw[hx,ho])
  refine zE5 hL hsub ws n _ (zF3 _ _ hy.rin ?_ ?_ (fun he=>(h.err ?_).1) (by simp) ?_) ho
  ·rw[hy.opn];exact hx
  ·have h1:=hy.up;have h2:=h.up;rw[wW]at h1;omega
  ·exact(hy.err he).1
  ·intro e he
   simp only[List.mem_cons,List.not_mem_nil,or_false]at he
   rcases he with rfl|rfl
   ·exact h.wide
   ·exact hy.wide
theorem xj5 (hL:LIn L) {o:Int} {rn rc:RS→PR} (h1: ∀s,RIn L s→s.opn=o→PI L s (rn s)) (h2: ∀s,RIn L s→s.opn=o→PI L s (rc s)) (s:RS) (hs:RIn L s) (ho:s.opn=o):PI L s (notK L rn rc s):=by
 unfold notK
 split
 ·rename_i hi
  have hy:=h1 (zM s) (hs.next hL hi) ho
  refine zF3 _ _ hy.rin hy.opn ?_ (fun he=>(hy.err he).1) (by simp) (fun e he=> ?_)
  ·have h1:=hy.up;rw[wW]at h1;omega
  ·simp only[List.mem_cons,List.not_mem_nil,or_false]at he;subst he;exact hy.wide
 ·exact h2 s hs ho
theorem xg7 (hL:LIn L) {o:Int} {sub:RS→PR} (hsub: ∀s,RIn L s→s.opn=o→PI L s (sub s)) (s:RS) (ho:s.opn=o) (x:PR) (h:PI L s x):PI L s (cmpJ L sub x):=by
 have hx:=h.opn
 have hu:=h.up
 have w1: ∀e∈ [x.1],Wide e:=fun e he=>by simp only[List.mem_cons,List.not_mem_nil,or_false]at he;subst he;exact h.wide
 unfold cmpJ
 split
 ·rename_i hi
  have hn:=h.rin.next hL hi
  split
  ·rename_i hi2
   have hn2:=hn.next hL hi2
   refine zF3 _ _ (zh9 hL hn2) ?_ ?_ (fun he=>(h.err ?_).1) (by simp) w1
   ·rw[zl9];exact hx
   ·have:=zr6 (L:=L) zo1 (zM (zM x.2));simp only[zM]at this⊢;omega
   ·exact(zh0 he).1
  ·refine zF3 _ _ (zh9 hL hn) ?_ ?_ (fun he=>(h.err ?_).1) (by simp) w1
   ·rw[zl9];exact hx
   ·have:=zr6 (L:=L) zo1 (zM x.2);simp only[zM]at this⊢;omega
   ·exact(zh0 he).1
 ·split
  ·exact h
  rename_i hne
  have hi:=zw5 hne
  have hy:=hsub (zM x.2) (h.rin.next hL hi) (by show x.2.opn=o;rw[hx,ho])
  refine zF3 _ _ hy.rin ?_ ?_ (fun he=>(h.err ?_).1) (by simp) ?_
  ·rw[hy.opn];exact hx
  ·have h1:=hy.up;rw[wW]at h1;omega
  ·exact(hy.err he).1
  ·intro e he
   simp only[List.mem_cons,List.not_mem_nil,or_false]at he
   rcases he with rfl|rfl
   ·exact h.wide
   ·exact hy.wide
theorem zw4 {s:RS} {e:GExpr} (ha:e.args= []) {s2:RS} (h1:RIn L s2) (h2:s2.opn=s.opn) (h3:s.at_≤s2.at_) (h4:s2.err=0→s.err=0):PI L s (e,s2):=
 ⟨h1,h2,h3,fun h=>⟨h4 h,by simp only;rw[xg9 ha];decide⟩,xe3 ha⟩
theorem ym1 (hL:LIn L) {o:Int} {un ex:RS→PR} (h1: ∀s,RIn L s→s.opn=o→PI L s (un s)) (h2: ∀s,RIn L s→s.opn=o→PI L s (ex s)) (s:RS) (hs:RIn L s) (ho:s.opn=o):PI L s (zA2 L un ex s):=by
 unfold zA2
 split
 ·rename_i hi
  have hy:=h1 (zM s) (hs.next hL hi) ho
  refine zF3 _ _ hy.rin hy.opn ?_ (fun he=>(hy.err he).1) (by simp) (fun e he=> ?_)
  ·have h1:=hy.up;rw[wW]at h1;omega
  ·simp only[List.mem_cons,List.not_mem_nil,or_false]at he;subst he;exact hy.wide
 split
 ·rename_i hi
  have hy:=h2 (zM s) (hs.next hL hi) ho
  refine⟨zh9 hL hy.rin, ?_, ?_,fun he=> ?_,hy.wide⟩
  ·rw[zl9];exact hy.opn
  ·have h1:=hy.up;have h2:=zr6 (L:=L) [41] (ex (zM s)).2;rw[wW]at h1;show _≤(yB L [41] (ex (zM s)).2).at_;omega
  ·have:=hy.err (zh0 he).1;exact this
 split
 ·exact zw4 rfl (hs.next hL ‹_›) rfl (by simp[zM]) id
 split
 ·exact zw4 rfl (hs.next hL ‹_›) rfl (by simp[zM]) id
 split
 ·exact zw4 rfl (hs.next hL ‹_›) rfl (by simp[zM]) id
 split
 ·exact zw4 rfl (hL.next hs (by omega)) rfl (by simp[zM]) id
 split
 ·exact zw4 rfl (hL.next hs (by omega)) rfl (by simp[zM]) id
 ·exact zw4 rfl (yr1 hL hs) (yd6 s) (yr2 s) (fun h=>(zN8 h).1)
theorem yT2 (hL:LIn L) {o:Int} {rec:Nat→RS→PR} (h: ∀w s,RIn L s→s.opn=o→PI L s (rec w s)): ∀(w:Nat) (s:RS),RIn L s→s.opn=o→PI L s (zf0 L rec w s)
 |0,s,hs,ho=>zE5 hL (h 1) _ _ _ (h 1 s hs ho) ho
 |1,s,hs,ho=>zE5 hL (h 2) _ _ _ (h 2 s hs ho) ho
 |2,s,hs,ho=>xj5 hL (h 2) (h 3) s hs ho
 |3,s,hs,ho=>xg7 hL (h 4) s ho _ (h 4 s hs ho)
 |4,s,hs,ho=>zE5 hL (h 5) _ _ _ (h 5 s hs ho) ho
 |5,s,hs,ho=>zE5 hL (h 6) _ _ _ (h 6 s hs ho) ho
 |_w+6,s,hs,ho=>ym1 hL (h 6) (h 0) s hs ho
theorem zK9 (s:RS):(yM L s).at_=s.at_:=by unfold yM;split<;>rfl
theorem wZ (s:RS):(yM L s).opn=s.opn+1:=by unfold yM;split<;>rfl
theorem ze5 {s:RS} (h:(yM L s).err=0):s.err=0∧s.opn+1≤200:=by
 unfold yM at h
 split at h
 ·simp at h
 ·rename_i hc
  refine⟨h, ?_⟩
  by_cases q:s.opn+1>200
  ·exact absurd ⟨h,q⟩ hc
  ·omega
theorem zi0 {s:RS} (hs:RIn L s) (h:s.opn≤200):RIn L (yM L s):=⟨by rw[zK9];exact hs.at_,by rw[wZ];have:=hs.opn;omega⟩
theorem yH8 {s:RS} (hs:RIn L s) (h:1≤s.opn):RIn L (outF s):=⟨hs.at_,by have:=hs.opn;simp only[outF];omega⟩
theorem xb9 {k:RS→PR} (s:RS) (hs:RIn L s) (h2:s.opn≤200) (hk:(yM L s).err=0→PI L (yM L s) (k (yM L s))):PI L s (zd0 L k s):=by
 have hr:=zi0 hs h2
 have ho:=hs.opn
 unfold zd0
 split
 ·rename_i he
  have hy:=hk he
  have h1:=hy.opn
  have h3:=hy.up
  rw[wZ]at h1
  rw[zK9]at h3
  refine⟨yH8 hy.rin (by omega), ?_,h3,fun h=>⟨(ze5 he).1,(hy.err h).2⟩,hy.wide⟩
  simp only[outF]
  omega
 ·rename_i he
  refine zw4 rfl (yH8 hr (by rw[wZ];omega)) ?_ ?_ (fun h=>absurd h he)
  ·simp only[outF,wZ];omega
  ·simp only[outF,zK9];exact Nat.le_refl _
theorem yH9 (hL:LIn L): ∀(f:Nat) (w:Nat) (s:RS),RIn L s→s.opn≤200→201≤(f:Int)+s.opn→PI L s (pF L f w s)
 |0,w,s,hs,h2,hf=>by omega
 |f+1,w,s,hs,h2,hf=>by
  unfold pF
  refine xb9 s hs h2 (fun he=> ?_)
  have h3:=(ze5 he).2
  exact yT2 hL (o:=s.opn+1) (fun w t ht ho=>yH9 hL f w t ht (by omega) (by push_cast at hf;omega)) w _ (zi0 hs h2) (wZ s)
end Go.Proofs.YtajjjghohakniaaGreat
