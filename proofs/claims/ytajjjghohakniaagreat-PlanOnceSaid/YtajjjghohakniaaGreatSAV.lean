/-
  The document's reader of expressions: the walks of its chains, over trees (the library Vx); used by the theorem at the end of the claim.
  Conditions: as each theorem states them.
-/
import Derived.Test.YtajjjghohakniaaGreatSAU
namespace Go.Proofs.YtajjjghohakniaaGreat
open Go Go.Vx
set_option maxRecDepth 100000
abbrev PR:=GExpr×RS
def zeroE:GExpr:= .mk 0 [] ⟨0,0,[]⟩ []
def opE (w:List UInt8) (args:List GExpr):GExpr:= .mk 3 w ⟨0,0,[]⟩ args
def valE (v:GValue):GExpr:= .mk 1 [] v []
def namE (w:List UInt8):GExpr:= .mk 2 w ⟨0,0,[]⟩ []
def opS (place:Int) (w:List UInt8) (args:List GExpr) (s:RS):RS:=if s.err=0∧16<deepF (opE w args)then failF 3 place s else s
def opF (place:Int) (w:List UInt8) (args:List GExpr) (s:RS):PR:=(opE w args,opS place w args s)
def ruled (L:List GToken) (k:RS→PR) (s:RS):PR:=if(ruleS L s).err=0 then((k (ruleS L s)).1,outF (k (ruleS L s)).2)else(zeroE,outF (ruleS L s))
def opsF (L:List GToken) (ws:List (List UInt8)) (sub:RS→PR):Nat→PR→PR
 |0,x=>x
 |n+1,x=>if anyF L x.2 ws= []then x else opsF L ws sub n (opF (tokF L x.2).place (anyF L x.2 ws) [x.1,(sub (nextF x.2)).1] (sub (nextF x.2)).2)
def wOR:List UInt8:= [79,82]
def wAND:List UInt8:= [65,78,68]
def wNOT:List UInt8:= [78,79,84]
def wIS:List UInt8:= [73,83]
def wNULL:List UInt8:= [78,85,76,76]
def wISNULL:List UInt8:= [73,83,78,85,76,76]
def wNOTNULL:List UInt8:= [78,79,84,78,85,76,76]
def signsC:List (List UInt8):= [[61],[60,62],[60],[60,61],[62],[62,61]]
def signsS:List (List UInt8):= [[43],[45]]
def signsP:List (List UInt8):= [[42],[47],[37]]
def notK (L:List GToken) (rn rc:RS→PR) (s:RS):PR:=if isT L wNOT s=true then opF (tokF L s).place wNOT [(rn (nextF s)).1] (rn (nextF s)).2 else rc s
def cmpJ (L:List GToken) (sub:RS→PR) (x:PR):PR:=
 if isT L wIS x.2=true then
  if isT L wNOT (nextF x.2)=true then opF (tokF L x.2).place wNOTNULL [x.1] (mustF L wNULL (nextF (nextF x.2)))else opF (tokF L x.2).place wISNULL [x.1] (mustF L wNULL (nextF x.2))
 else if anyF L x.2 signsC= []then x else opF (tokF L x.2).place (anyF L x.2 signsC) [x.1,(sub (nextF x.2)).1] (sub (nextF x.2)).2
def atomK (L:List GToken) (un ex:RS→PR) (s:RS):PR:=
 if isT L [45] s=true then opF (tokF L s).place [78,69,71] [(un (nextF s)).1] (un (nextF s)).2
 else if isT L [40] s=true then((ex (nextF s)).1,mustF L [41] (ex (nextF s)).2)
 else if isT L [84,82,85,69] s=true then(valE ⟨1,1,[]⟩,nextF s)
 else if isT L [70,65,76,83,69] s=true then(valE ⟨1,0,[]⟩,nextF s)
 else if isT L wNULL s=true then(valE ⟨0,0,[]⟩,nextF s)
 else if(tokF L s).kind=2 then(valE ⟨2,(tokF L s).n,[]⟩,nextF s)
 else if(tokF L s).kind=3 then(valE ⟨3,0,(tokF L s).s⟩,nextF s)
 else(namE (nameF L s).1,(nameF L s).2)
def bodyF (L:List GToken) (rec:Nat→RS→PR):Nat→RS→PR
 |0,s=>opsF L [wOR] (rec 1) L.length (rec 1 s)
 |1,s=>opsF L [wAND] (rec 2) L.length (rec 2 s)
 |2,s=>notK L (rec 2) (rec 3) s
 |3,s=>cmpJ L (rec 4) (rec 4 s)
 |4,s=>opsF L signsS (rec 5) L.length (rec 5 s)
 |5,s=>opsF L signsP (rec 6) L.length (rec 6 s)
 |_,s=>atomK L (rec 6) (rec 0) s
def pF (L:List GToken):Nat→Nat→RS→PR
 |0,_,s=>(zeroE,s)
 |f+1,w,s=>ruled L (bodyF L (pF L f) w) s
structure PI (L:List GToken) (s:RS) (x:PR):Prop where
 rin:RIn L x.2
 opn:x.2.opn=s.opn
 up:s.at_≤x.2.at_
 err:x.2.err=0→s.err=0∧deepF x.1≤16
 wide:Wide x.1
theorem failF_err {e p:Int} {s:RS} (he:e≠0):(failF e p s).err≠0:=by unfold failF;split<;>simp_all
theorem failF_at (e p:Int) (s:RS):(failF e p s).at_=s.at_:=by unfold failF;split<;>rfl
theorem failF_opn (e p:Int) (s:RS):(failF e p s).opn=s.opn:=by unfold failF;split<;>rfl
theorem failF_in {L:List GToken} {s:RS} (h:RIn L s) (e p:Int):RIn L (failF e p s):=⟨by rw[failF_at];exact h.at_,by rw[failF_opn];exact h.opn⟩
theorem opS_at (p:Int) (w:List UInt8) (a:List GExpr) (s:RS):(opS p w a s).at_=s.at_:=by unfold opS;split;exact failF_at _ _ _;rfl
theorem opS_opn (p:Int) (w:List UInt8) (a:List GExpr) (s:RS):(opS p w a s).opn=s.opn:=by unfold opS;split;exact failF_opn _ _ _;rfl
theorem opS_err {p:Int} {w:List UInt8} {a:List GExpr} {s:RS} (h:(opS p w a s).err=0):s.err=0∧deepF (opE w a)≤16:=by
 unfold opS at h
 split at h
 ·exact absurd h (failF_err (by decide))
 ·rename_i hc
  refine⟨h, ?_⟩
  by_cases q:16<deepF (opE w a)
  ·exact absurd ⟨h,q⟩ hc
  ·omega
theorem opS_in {L:List GToken} {s:RS} (h:RIn L s) (p:Int) (w:List UInt8) (a:List GExpr):RIn L (opS p w a s):=⟨by rw[opS_at];exact h.at_,by rw[opS_opn];exact h.opn⟩
theorem opS_out (p:Int) (w:List UInt8) (a:List GExpr) (s:RS):opS p w a (outF s)=outF (opS p w a s):=by
 unfold opS failF outF
 by_cases q:s.err=0∧16<deepF (opE w a)
 ·rw[if_pos q,if_pos q,if_pos q.1,if_pos q.1]
 ·rw[if_neg q,if_neg q]
theorem deepF_op (w:List UInt8) (a:List GExpr):deepF (opE w a)=deepsF a+1:=deepF_eq _
theorem wide_op {w:List UInt8} {a:List GExpr} (h:a.length≤1000000) (ha: ∀x∈a,Wide x):Wide (opE w a):= .mk _ h ha
theorem wide_0 {e:GExpr} (h:e.args= []):Wide e:= .mk _ (by simp[h]) (by simp[h])
def RR (L:List GToken) (x:PR):V→St→Prop:=fun r σ=>r= .agg x.1.row∧σ= [rB L x.2]
theorem wret_rr {τ:St} {L:List GToken} {e:GExpr} {s:RS} {x:PR} (h:x=(e,s)):wret (some (.agg [.int .i64 e.kind,.str e.s,.int .i64 e.v.kind,.int .i64 e.v.n,.str e.v.s,.sl .ro (e.args.map GExpr.row)])) 1 (RR L x) (rB L s::τ):=by
 subst h
 exact wret_rd (argS_no rfl) ⟨by rw[GExpr.row_eq],rfl⟩
theorem noS_row (e:GExpr):noS (.agg e.row)=true:=by rw[GExpr.row_eq];rfl
theorem wVC_rr {P:Program} {c:Ctx} {f:FuncId} {caps args args':List V} {τ:St} {L:List GToken} {s:RS} {x:PR} {KV:V→St→Prop} (hc:VCalls P f args' [rB L s] (RR L x)) (hb:callB P f=true)
  (hargs:All2 (argS (ren [0] (τ.length+1))) args' (args++caps)) (hk:KV (.agg x.1.row) (rB L x.2::τ)):wVC P c (.fn f caps) args (rB L s::τ) KV fx:=
 wVC_rd hc hb hargs (noS_row _) hk
theorem wVD_rr {P:Program} {c:Ctx} {n:Nat} {f:FuncId} {caps args args':List V} {τ:St} {L:List GToken} {s:RS} {x:PR} {KV:V→St→Prop} (hc:VCalls P f args' [rB L s] (RR L x)) (hb:callB P f=true)
  (hargs:All2 (argS (ren [0] (τ.length+1))) args' (args++caps)) (hk:KV (.agg x.1.row) (rB L x.2::τ)):wVD P c ⟨1,n⟩ 3 (.fn f caps) args (rB L s::τ) KV fx:=
 wVD_rd hc hb hargs (noS_row _) hk
theorem op_w (L:List GToken) (s:RS) (p:Int) (w:List UInt8) (a:List GExpr) (hl:a.length≤1000) (hw: ∀x∈a,Wide x) (hd:s.err=0→deepsF a≤1000):
  VCalls Tryz.prog 217 [.ptr 0 0,.int .i64 p,.str w,.sl .ro (a.map GExpr.row)] [rB L s] (RR L (opF p w a s)):=by
 obtain⟨D,hD⟩: ∃D,deepF (opE w a)=D:=⟨_,rfl⟩
 have hDd:=deepF_op w a
 rw[hD]at hDd
 have hf:=fail_w L s 3 p
 have hS:opF p w a s=(opE w a,if s.err=0∧16<D then failF 3 p s else s):=by unfold opF opS;rw[hD]
 generalize opF p w a s=M at hS⊢
 refine VCalls.intro 1 Tryz.func217 Tryz.ntmps217 Tryz.results217 rfl rfl (Nat.le_of_ble_eq_true rfl) fun c hc hb=>wcode_of ?_
 by_cases q1:s.err=0
 ·have q1':(s.err==0)=true:=by simpa using q1
  have hdp:=Deep_w 1001 (opE w a) (by rw[hD,hDd];have:=hd q1;omega) (by omega) (wide_op (by omega) hw)
  rw[hD]at hdp
  simp[go_sem,rB,q1']
  refine wVC_pure hdp Tryz.callB232 (args_eq (by rw[GExpr.row_eq];rfl) rfl) rfl ?_
  simp[go_sem]
  by_cases q2:16<D
  ·have q2':decide ((16:Int)<(D:Int))=true:=decide_eq_true (by omega)
   rw[if_pos ⟨q1,q2⟩]at hS
   simp[go_sem,q2']
   refine wVC_rd hf Tryz.callB73 (rd_ptr ⟨argS_no rfl,argS_no rfl,trivial⟩) rfl ?_
   simp[go_sem]
   exact wret_rr hS
  ·have q2':decide ((16:Int)<(D:Int))=false:=decide_eq_false (by omega)
   rw[if_neg (fun h=>q2 h.2)]at hS
   simp[go_sem,q2']
   exact wret_rr hS
 ·have q1':(s.err==0)=false:=by simpa using q1
  rw[if_neg (fun h=>q1 h.1)]at hS
  simp[go_sem,rB,q1']
  exact wret_rr hS
end Go.Proofs.YtajjjghohakniaaGreat
namespace Go.Proofs.YtajjjghohakniaaGreat
open Go Go.Vx
set_option maxRecDepth 100000
variable {L:List GToken}
theorem nextF_at (s:RS):(nextF s).at_=s.at_+1:=rfl
theorem anyF_is {s:RS}: ∀{ws:List (List UInt8)},anyF L s ws≠ []→isT L (anyF L s ws) s=true
 | [],h=>absurd rfl h
 |w::ws,h=>by
  unfold anyF at h⊢
  split
  ·assumption
  ·rename_i hn
   rw[if_neg hn]at h
   exact anyF_is h
theorem RIn.next (hL:LIn L) {w:List UInt8} {s:RS} (h:RIn L s) (hi:isT L w s=true):RIn L (nextF s):=hL.next h (isT_kind hi).1
theorem mustF_in (hL:LIn L) {w:List UInt8} {s:RS} (h:RIn L s):RIn L (mustF L w s):=by
 unfold mustF
 split
 ·exact h.next hL ‹_›
 ·exact failF_in h _ _
theorem mustF_up (w:List UInt8) (s:RS):s.at_≤(mustF L w s).at_:=by
 unfold mustF
 split
 ·simp[nextF]
 ·rw[failF_at];exact Nat.le_refl _
theorem mustF_opn (w:List UInt8) (s:RS):(mustF L w s).opn=s.opn:=by
 unfold mustF
 split
 ·rfl
 ·exact failF_opn _ _ _
theorem mustF_err {w:List UInt8} {s:RS} (h:(mustF L w s).err=0):s.err=0∧isT L w s=true:=by
 unfold mustF at h
 split at h
 ·exact⟨h,‹_›⟩
 ·exact absurd h (failF_err (by decide))
theorem nameF_in (hL:LIn L) {s:RS} (h:RIn L s):RIn L (nameF L s).2:=by
 unfold nameF
 split
 ·rename_i hb
  unfold nameB at hb
  simp only[Bool.and_eq_true,beq_iff_eq]at hb
  exact hL.next h (by rw[hb.2.1];decide)
 ·exact failF_in h _ _
theorem nameF_up (s:RS):s.at_≤(nameF L s).2.at_:=by
 unfold nameF
 split
 ·simp[nextF]
 ·simp only[failF_at];exact Nat.le_refl _
theorem nameF_opn (s:RS):(nameF L s).2.opn=s.opn:=by
 unfold nameF
 split
 ·rfl
 ·exact failF_opn _ _ _
theorem nameF_err {s:RS} (h:(nameF L s).2.err=0):s.err=0∧nameB L s=true:=by
 unfold nameF at h
 split at h
 ·exact⟨h,‹_›⟩
 ·exact absurd h (failF_err (by decide))
theorem deepF_0 {e:GExpr} (h:e.args= []):deepF e=1:=by rw[deepF_eq,h];rfl
theorem PI_op {s0 s:RS} (p:Int) (w:List UInt8) {a:List GExpr} (h1:RIn L s) (h2:s.opn=s0.opn) (h3:s0.at_≤s.at_) (h4:s.err=0→s0.err=0) (h5:a.length≤1000000) (h6: ∀x∈a,Wide x):PI L s0 (opF p w a s):=
 ⟨opS_in h1 _ _ _,by show(opS p w a s).opn=_;rw[opS_opn,h2],by show _≤(opS p w a s).at_;rw[opS_at];exact h3,fun h=>⟨h4 (opS_err h).1,(opS_err h).2⟩,wide_op h5 h6⟩
theorem opsF_ok (hL:LIn L) {o:Int} {sub:RS→PR} (hsub: ∀s,RIn L s→s.opn=o→PI L s (sub s)) (ws:List (List UInt8)) {s0:RS}: ∀(n:Nat) (x:PR),PI L s0 x→s0.opn=o→PI L s0 (opsF L ws sub n x)
 |0,x,h,_=>h
 |n+1,x,h,ho=>by
  unfold opsF
  split
  ·exact h
  rename_i hne
  have hi:=anyF_is hne
  have hx:=h.opn
  have hy:=hsub (nextF x.2) (h.rin.next hL hi) (by show x.2.opn=o;rw[hx,ho])
  refine opsF_ok hL hsub ws n _ (PI_op _ _ hy.rin ?_ ?_ (fun he=>(h.err ?_).1) (by simp) ?_) ho
  ·rw[hy.opn];exact hx
  ·have h1:=hy.up;have h2:=h.up;rw[nextF_at]at h1;omega
  ·exact(hy.err he).1
  ·intro e he
   simp only[List.mem_cons,List.not_mem_nil,or_false]at he
   rcases he with rfl|rfl
   ·exact h.wide
   ·exact hy.wide
theorem notK_ok (hL:LIn L) {o:Int} {rn rc:RS→PR} (h1: ∀s,RIn L s→s.opn=o→PI L s (rn s)) (h2: ∀s,RIn L s→s.opn=o→PI L s (rc s)) (s:RS) (hs:RIn L s) (ho:s.opn=o):PI L s (notK L rn rc s):=by
 unfold notK
 split
 ·rename_i hi
  have hy:=h1 (nextF s) (hs.next hL hi) ho
  refine PI_op _ _ hy.rin hy.opn ?_ (fun he=>(hy.err he).1) (by simp) (fun e he=> ?_)
  ·have h1:=hy.up;rw[nextF_at]at h1;omega
  ·simp only[List.mem_cons,List.not_mem_nil,or_false]at he;subst he;exact hy.wide
 ·exact h2 s hs ho
theorem cmpJ_ok (hL:LIn L) {o:Int} {sub:RS→PR} (hsub: ∀s,RIn L s→s.opn=o→PI L s (sub s)) (s:RS) (ho:s.opn=o) (x:PR) (h:PI L s x):PI L s (cmpJ L sub x):=by
 have hx:=h.opn
 have hu:=h.up
 have w1: ∀e∈ [x.1],Wide e:=fun e he=>by simp only[List.mem_cons,List.not_mem_nil,or_false]at he;subst he;exact h.wide
 unfold cmpJ
 split
 ·rename_i hi
  have hn:=h.rin.next hL hi
  split
  ·rename_i hi2
   have hn2:=hn.next hL hi2
   refine PI_op _ _ (mustF_in hL hn2) ?_ ?_ (fun he=>(h.err ?_).1) (by simp) w1
   ·rw[mustF_opn];exact hx
   ·have:=mustF_up (L:=L) wNULL (nextF (nextF x.2));simp only[nextF]at this⊢;omega
   ·exact(mustF_err he).1
  ·refine PI_op _ _ (mustF_in hL hn) ?_ ?_ (fun he=>(h.err ?_).1) (by simp) w1
   ·rw[mustF_opn];exact hx
   ·have:=mustF_up (L:=L) wNULL (nextF x.2);simp only[nextF]at this⊢;omega
   ·exact(mustF_err he).1
 ·split
  ·exact h
  rename_i hne
  have hi:=anyF_is hne
  have hy:=hsub (nextF x.2) (h.rin.next hL hi) (by show x.2.opn=o;rw[hx,ho])
  refine PI_op _ _ hy.rin ?_ ?_ (fun he=>(h.err ?_).1) (by simp) ?_
  ·rw[hy.opn];exact hx
  ·have h1:=hy.up;rw[nextF_at]at h1;omega
  ·exact(hy.err he).1
  ·intro e he
   simp only[List.mem_cons,List.not_mem_nil,or_false]at he
   rcases he with rfl|rfl
   ·exact h.wide
   ·exact hy.wide
theorem PI_leaf {s:RS} {e:GExpr} (ha:e.args= []) {s2:RS} (h1:RIn L s2) (h2:s2.opn=s.opn) (h3:s.at_≤s2.at_) (h4:s2.err=0→s.err=0):PI L s (e,s2):=
 ⟨h1,h2,h3,fun h=>⟨h4 h,by simp only;rw[deepF_0 ha];decide⟩,wide_0 ha⟩
theorem atomK_ok (hL:LIn L) {o:Int} {un ex:RS→PR} (h1: ∀s,RIn L s→s.opn=o→PI L s (un s)) (h2: ∀s,RIn L s→s.opn=o→PI L s (ex s)) (s:RS) (hs:RIn L s) (ho:s.opn=o):PI L s (atomK L un ex s):=by
 unfold atomK
 split
 ·rename_i hi
  have hy:=h1 (nextF s) (hs.next hL hi) ho
  refine PI_op _ _ hy.rin hy.opn ?_ (fun he=>(hy.err he).1) (by simp) (fun e he=> ?_)
  ·have h1:=hy.up;rw[nextF_at]at h1;omega
  ·simp only[List.mem_cons,List.not_mem_nil,or_false]at he;subst he;exact hy.wide
 split
 ·rename_i hi
  have hy:=h2 (nextF s) (hs.next hL hi) ho
  refine⟨mustF_in hL hy.rin, ?_, ?_,fun he=> ?_,hy.wide⟩
  ·rw[mustF_opn];exact hy.opn
  ·have h1:=hy.up;have h2:=mustF_up (L:=L) [41] (ex (nextF s)).2;rw[nextF_at]at h1;show _≤(mustF L [41] (ex (nextF s)).2).at_;omega
  ·have:=hy.err (mustF_err he).1;exact this
 split
 ·exact PI_leaf rfl (hs.next hL ‹_›) rfl (by simp[nextF]) id
 split
 ·exact PI_leaf rfl (hs.next hL ‹_›) rfl (by simp[nextF]) id
 split
 ·exact PI_leaf rfl (hs.next hL ‹_›) rfl (by simp[nextF]) id
 split
 ·exact PI_leaf rfl (hL.next hs (by omega)) rfl (by simp[nextF]) id
 split
 ·exact PI_leaf rfl (hL.next hs (by omega)) rfl (by simp[nextF]) id
 ·exact PI_leaf rfl (nameF_in hL hs) (nameF_opn s) (nameF_up s) (fun h=>(nameF_err h).1)
theorem bodyF_ok (hL:LIn L) {o:Int} {rec:Nat→RS→PR} (h: ∀w s,RIn L s→s.opn=o→PI L s (rec w s)): ∀(w:Nat) (s:RS),RIn L s→s.opn=o→PI L s (bodyF L rec w s)
 |0,s,hs,ho=>opsF_ok hL (h 1) _ _ _ (h 1 s hs ho) ho
 |1,s,hs,ho=>opsF_ok hL (h 2) _ _ _ (h 2 s hs ho) ho
 |2,s,hs,ho=>notK_ok hL (h 2) (h 3) s hs ho
 |3,s,hs,ho=>cmpJ_ok hL (h 4) s ho _ (h 4 s hs ho)
 |4,s,hs,ho=>opsF_ok hL (h 5) _ _ _ (h 5 s hs ho) ho
 |5,s,hs,ho=>opsF_ok hL (h 6) _ _ _ (h 6 s hs ho) ho
 |w+6,s,hs,ho=>atomK_ok hL (h 6) (h 0) s hs ho
theorem ruleS_at (s:RS):(ruleS L s).at_=s.at_:=by unfold ruleS;split<;>rfl
theorem ruleS_opn (s:RS):(ruleS L s).opn=s.opn+1:=by unfold ruleS;split<;>rfl
theorem ruleS_err {s:RS} (h:(ruleS L s).err=0):s.err=0∧s.opn+1≤200:=by
 unfold ruleS at h
 split at h
 ·simp at h
 ·rename_i hc
  refine⟨h, ?_⟩
  by_cases q:s.opn+1>200
  ·exact absurd ⟨h,q⟩ hc
  ·omega
theorem ruleS_in {s:RS} (hs:RIn L s) (h:s.opn≤200):RIn L (ruleS L s):=⟨by rw[ruleS_at];exact hs.at_,by rw[ruleS_opn];have:=hs.opn;omega⟩
theorem outF_in {s:RS} (hs:RIn L s) (h:1≤s.opn):RIn L (outF s):=⟨hs.at_,by have:=hs.opn;simp only[outF];omega⟩
theorem ruled_ok {k:RS→PR} (s:RS) (hs:RIn L s) (h2:s.opn≤200) (hk:(ruleS L s).err=0→PI L (ruleS L s) (k (ruleS L s))):PI L s (ruled L k s):=by
 have hr:=ruleS_in hs h2
 have ho:=hs.opn
 unfold ruled
 split
 ·rename_i he
  have hy:=hk he
  have h1:=hy.opn
  have h3:=hy.up
  rw[ruleS_opn]at h1
  rw[ruleS_at]at h3
  refine⟨outF_in hy.rin (by omega), ?_,h3,fun h=>⟨(ruleS_err he).1,(hy.err h).2⟩,hy.wide⟩
  simp only[outF]
  omega
 ·rename_i he
  refine PI_leaf rfl (outF_in hr (by rw[ruleS_opn];omega)) ?_ ?_ (fun h=>absurd h he)
  ·simp only[outF,ruleS_opn];omega
  ·simp only[outF,ruleS_at];exact Nat.le_refl _
theorem pF_ok (hL:LIn L): ∀(f:Nat) (w:Nat) (s:RS),RIn L s→s.opn≤200→201≤(f:Int)+s.opn→PI L s (pF L f w s)
 |0,w,s,hs,h2,hf=>by omega
 |f+1,w,s,hs,h2,hf=>by
  unfold pF
  refine ruled_ok s hs h2 (fun he=> ?_)
  have h3:=(ruleS_err he).2
  exact bodyF_ok hL (o:=s.opn+1) (fun w t ht ho=>pF_ok hL f w t ht (by omega) (by push_cast at hf;omega)) w _ (ruleS_in hs h2) (ruleS_opn s)
end Go.Proofs.YtajjjghohakniaaGreat
namespace Go.Proofs.YtajjjghohakniaaGreat
open Go Go.Vx
set_option maxRecDepth 100000
structure PW (L:List GToken) (rec:Nat→RS→PR) (o:Int):Prop where
 ok: ∀w s,RIn L s→s.opn=o→PI L s (rec w s)
 chain: ∀k:Nat,k≤1→ ∀s,RIn L s→s.opn=o→VCalls Tryz.prog 189 [.ptr 0 0,.int .i64 (k:Int)] [rB L s] (RR L (rec k s))
 not: ∀s,RIn L s→s.opn=o→VCalls Tryz.prog 231 [.ptr 0 0] [rB L s] (RR L (rec 2 s))
 cmp: ∀s,RIn L s→s.opn=o→VCalls Tryz.prog 242 [.ptr 0 0] [rB L s] (RR L (rec 3 s))
 sum: ∀s,RIn L s→s.opn=o→VCalls Tryz.prog 246 [.ptr 0 0] [rB L s] (RR L (rec 4 s))
 prod: ∀s,RIn L s→s.opn=o→VCalls Tryz.prog 247 [.ptr 0 0] [rB L s] (RR L (rec 5 s))
 unary: ∀s,RIn L s→s.opn=o→VCalls Tryz.prog 248 [.ptr 0 0] [rB L s] (RR L (rec 6 s))
theorem wret_rg {g:Tag} {τ:St} {L:List GToken} {e:GExpr} {s:RS} {x:PR} (h:x=(e,s)):wret (some (.agg [.int .i64 e.kind,.str e.s,.int .i64 e.v.kind,.int .i64 e.v.n,.str e.v.s,.sl g (e.args.map GExpr.row)])) 1 (RR L x) (rB L s::τ):=by
 subst h
 refine wret_rd (r:= .agg [.int .i64 e.kind,.str e.s,.int .i64 e.v.kind,.int .i64 e.v.n,.str e.v.s,.sl .ro (e.args.map GExpr.row)]) (argS_agg ⟨argC_no rfl,argC_no rfl,argC_no rfl,argC_no rfl,argC_no rfl,argC_ro,trivial⟩) ⟨by rw[GExpr.row_eq],rfl⟩
def zB:Ob:= .box [.int .i64 0,.str [],.int .i64 0,.int .i64 0,.str [],.sl .full []]
theorem out_i64 {o:Int} (h0:0≤o) (h1:o≤1000):IntKind.i64.wrap (o - 1)=o - 1:=i64_id (by omega) (by omega)
theorem sum_w (L:List GToken) (hL:LIn L) (rec:Nat→RS→PR) (s:RS) (hs:RIn L s) (h2:s.opn≤200) (hrec:s.opn+1≤200→PW L rec (s.opn+1)):
  VCalls Tryz.prog 246 [.ptr 0 0] [rB L s] (RR L (ruled L (bodyF L rec 4) s)):=by
 have hr:=rule_w L hL s hs (by omega)
 have hrin:=ruleS_in hs h2
 have hro:=ruleS_opn (L:=L) s
 have hre:=ruleS_err (L:=L) (s:=s)
 have ho:=hs.opn
 have hM:ruled L (bodyF L rec 4) s=if(ruleS L s).err=0 then((opsF L signsS (rec 5) L.length (rec 5 (ruleS L s))).1,outF (opsF L signsS (rec 5) L.length (rec 5 (ruleS L s))).2)else(zeroE,outF (ruleS L s)):=rfl
 generalize ruled L (bodyF L rec 4) s=M at hM⊢
 generalize ruleS L s=s1 at hr hrin hro hre hM
 have eo:=out_i64 (o:=s1.opn) (by omega) (by omega)
 refine VCalls.introV 1 Tryz.func246 Tryz.ntmps246 Tryz.results246 rfl rfl (Nat.le_of_ble_eq_true rfl) fun c hc hb=> ?_
 by_cases q1:s1.err=0
 rotate_left
 ·have q1':(s1.err==0)=false:=by simpa using q1
  rw[if_neg q1]at hM
  rw[q1']at hr
  refine wVW_code ?_
  simp[go_sem]
  refine wVC_rd hr Tryz.callB214 rd_1 rfl ?_
  simp[go_sem,rB,eo]
  exact wret_rg (e:=zeroE) (s:=outF s1) hM
 have q1':(s1.err==0)=true:=by simpa using q1
 rw[if_pos q1]at hM
 rw[q1']at hr
 have hP:=hrec (hre q1).2
 have hx0:=hP.ok 5 s1 hrin hro
 have hc0:=hP.prod s1 hrin hro
 generalize rec 5 s1=x0 at hx0 hc0 hM
 have hany:=any_w L hL x0.2 hx0.rin signsS (by decide)
 obtain⟨N,hN⟩: ∃N,L.length=N:=⟨_,rfl⟩
 rw[hN]at hM
 refine wVW_code ?_
 simp[go_sem]
 refine wVC_rd hr Tryz.callB214 rd_1 rfl ?_
 simp[go_sem]
 refine wVC_rr hc0 Tryz.callB247 rd_1 ?_
 simp[go_sem]
 refine wVC_rd hany Tryz.callB65 (rd_ptr ⟨argS_ro,trivial⟩) rfl ?_
 simp[go_sem]
 refine wVW_while (S:=PR) [0,2,3,4] (fun x=> [.ptr 0 0,.ptr 1 0,.ptr 2 0,.str (anyF L x.2 signsS)]) (fun x=> [rB L x.2,zB,.box x.1.row]) (fun x=>N - x.2.at_) (fun x=>PI L s1 x∧ ∃n,N≤n+x.2.at_∧((opsF L signsS (rec 5) n x).1,outF (opsF L signsS (rec 5) n x).2)=M) hc hb x0 ⟨hx0,N,by omega,hM.symm⟩ ?_ ?_
 ·exact at_n 3 (by simp[go_sem,zB]) rfl (by simp[rB,zB,ltOb,ltC,ltK,GExpr.row_eq]) (by decide) (args_lt_eq (by simp[go_sem]) rfl)
 rintro x ⟨hx,n,hn,hinv⟩
 have hxi:=hx.rin.at_
 have hany:=any_w L hL x.2 hx.rin signsS (by decide)
 have htok:=tok_w L hL x.2 hx.rin
 have hxo:=hx.opn
 by_cases q:anyF L x.2 signsS= []
 ·have hxM:M=(x.1,outF x.2):=by
   cases n with
   |zero=>exact hinv.symm
   |succ n=>rw[opsF,if_pos q]at hinv;exact hinv.symm
  have eo2:IntKind.i64.wrap (x.2.opn - 1)=x.2.opn - 1:=by rw[hxo];exact eo
  refine wVW_code ?_
  simp[go_sem,q,rB,eo2]
  exact wret_rr (s:=outF x.2) hxM
 obtain⟨n,rfl⟩: ∃m,n=m+1:=⟨n - 1,by omega⟩
 rw[opsF,if_neg q]at hinv
 have hi:=anyF_is q
 have hnx:=hx.rin.next hL hi
 have hy:=hP.ok 5 (nextF x.2) hnx (by show x.2.opn=_;rw[hxo,hro])
 have hcy:=hP.prod (nextF x.2) hnx (by show x.2.opn=_;rw[hxo,hro])
 generalize rec 5 (nextF x.2)=y at hy hcy hinv
 have hup:=hy.up
 rw[nextF_at]at hup
 have hz:PI L s1 (opF (tokF L x.2).place (anyF L x.2 signsS) [x.1,y.1] y.2):=PI_op _ _ hy.rin (by rw[hy.opn];exact hxo) (by have:=hx.up;omega) (fun he=>(hx.err (hy.err he).1).1) (by simp) (fun e he=>by
  simp only[List.mem_cons,List.not_mem_nil,or_false]at he
  rcases he with rfl|rfl
  ·exact hx.wide
  ·exact hy.wide)
 have hop:=op_w L y.2 (tokF L x.2).place (anyF L x.2 signsS) [x.1,y.1] (by simp) (fun e he=>by
  simp only[List.mem_cons,List.not_mem_nil,or_false]at he
  rcases he with rfl|rfl
  ·exact hx.wide
  ·exact hy.wide) (fun he=>by
   have h1:=(hy.err he).2
   have h2:=(hx.err (hy.err he).1).2
   simp only[deepsF]
   omega)
 have hzat:(opF (tokF L x.2).place (anyF L x.2 signsS) [x.1,y.1] y.2).2.at_=y.2.at_:=opS_at _ _ _ _
 generalize opF (tokF L x.2).place (anyF L x.2 signsS) [x.1,y.1] y.2=z at hz hop hinv hzat
 have hany2:=any_w L hL z.2 hz.rin signsS (by decide)
 have hzi:=hz.rin.at_
 have hl:=hL.len
 have ei:IntKind.i64.wrap ((x.2.at_:Int)+1)=((x.2.at_+1:Nat):Int):=by rw[i64_id (by omega) (by omega)];omega
 have q':(anyF L x.2 signsS).isEmpty=false:=by simpa using q
 refine wVW_code ?_
 simp[go_sem,q']
 refine wVC_rd htok Tryz.callB70 rd_1 rfl ?_
 simp[go_sem,rB,ei]
 simp only[List.map_cons,List.map_nil,GExpr.row_eq]at hop
 refine wdraw_but [(3,1),(5,3),(7,3)] 1 3 (by simp) (by kernel_rfl) (by kernel_rfl) ?_
 simp[go_sem]
 refine wVD_rr hcy Tryz.callB247 rd_1 ?_
 simp[go_sem,GExpr.row_eq]
 refine wVD_rr hop Tryz.callB217 (rd_ptr ⟨argS_no rfl,argS_no rfl,argS_ro,trivial⟩) ?_
 simp[go_sem,GExpr.row_eq]
 refine wVC_rd hany2 Tryz.callB65 (rd_ptr ⟨argS_ro,trivial⟩) rfl ?_
 simp[go_sem]
 refine next_i z ⟨by omega,⟨hz,n,by omega,hinv⟩, ?_⟩
 exact at_n 3 (by simp[go_sem,rB,zB,GExpr.row_eq]) rfl (by simp[rB,zB,ltOb,ltC,ltK,GExpr.row_eq]) (by decide) (args_lt_eq (by simp[go_sem]) rfl)
theorem prod_w (L:List GToken) (hL:LIn L) (rec:Nat→RS→PR) (s:RS) (hs:RIn L s) (h2:s.opn≤200) (hrec:s.opn+1≤200→PW L rec (s.opn+1)):
  VCalls Tryz.prog 247 [.ptr 0 0] [rB L s] (RR L (ruled L (bodyF L rec 5) s)):=by
 have hr:=rule_w L hL s hs (by omega)
 have hrin:=ruleS_in hs h2
 have hro:=ruleS_opn (L:=L) s
 have hre:=ruleS_err (L:=L) (s:=s)
 have ho:=hs.opn
 have hM:ruled L (bodyF L rec 5) s=if(ruleS L s).err=0 then((opsF L signsP (rec 6) L.length (rec 6 (ruleS L s))).1,outF (opsF L signsP (rec 6) L.length (rec 6 (ruleS L s))).2)else(zeroE,outF (ruleS L s)):=rfl
 generalize ruled L (bodyF L rec 5) s=M at hM⊢
 generalize ruleS L s=s1 at hr hrin hro hre hM
 have eo:=out_i64 (o:=s1.opn) (by omega) (by omega)
 refine VCalls.introV 1 Tryz.func247 Tryz.ntmps247 Tryz.results247 rfl rfl (Nat.le_of_ble_eq_true rfl) fun c hc hb=> ?_
 by_cases q1:s1.err=0
 rotate_left
 ·have q1':(s1.err==0)=false:=by simpa using q1
  rw[if_neg q1]at hM
  rw[q1']at hr
  refine wVW_code ?_
  simp[go_sem]
  refine wVC_rd hr Tryz.callB214 rd_1 rfl ?_
  simp[go_sem,rB,eo]
  exact wret_rg (e:=zeroE) (s:=outF s1) hM
 have q1':(s1.err==0)=true:=by simpa using q1
 rw[if_pos q1]at hM
 rw[q1']at hr
 have hP:=hrec (hre q1).2
 have hx0:=hP.ok 6 s1 hrin hro
 have hc0:=hP.unary s1 hrin hro
 generalize rec 6 s1=x0 at hx0 hc0 hM
 have hany:=any_w L hL x0.2 hx0.rin signsP (by decide)
 obtain⟨N,hN⟩: ∃N,L.length=N:=⟨_,rfl⟩
 rw[hN]at hM
 refine wVW_code ?_
 simp[go_sem]
 refine wVC_rd hr Tryz.callB214 rd_1 rfl ?_
 simp[go_sem]
 refine wVC_rr hc0 Tryz.callB248 rd_1 ?_
 simp[go_sem]
 refine wVC_rd hany Tryz.callB65 (rd_ptr ⟨argS_ro,trivial⟩) rfl ?_
 simp[go_sem]
 refine wVW_while (S:=PR) [0,2,3,4] (fun x=> [.ptr 0 0,.ptr 1 0,.ptr 2 0,.str (anyF L x.2 signsP)]) (fun x=> [rB L x.2,zB,.box x.1.row]) (fun x=>N - x.2.at_) (fun x=>PI L s1 x∧ ∃n,N≤n+x.2.at_∧((opsF L signsP (rec 6) n x).1,outF (opsF L signsP (rec 6) n x).2)=M) hc hb x0 ⟨hx0,N,by omega,hM.symm⟩ ?_ ?_
 ·exact at_n 3 (by simp[go_sem,zB]) rfl (by simp[rB,zB,ltOb,ltC,ltK,GExpr.row_eq]) (by decide) (args_lt_eq (by simp[go_sem]) rfl)
 rintro x ⟨hx,n,hn,hinv⟩
 have hxi:=hx.rin.at_
 have hany:=any_w L hL x.2 hx.rin signsP (by decide)
 have htok:=tok_w L hL x.2 hx.rin
 have hxo:=hx.opn
 by_cases q:anyF L x.2 signsP= []
 ·have hxM:M=(x.1,outF x.2):=by
   cases n with
   |zero=>exact hinv.symm
   |succ n=>rw[opsF,if_pos q]at hinv;exact hinv.symm
  have eo2:IntKind.i64.wrap (x.2.opn - 1)=x.2.opn - 1:=by rw[hxo];exact eo
  refine wVW_code ?_
  simp[go_sem,q,rB,eo2]
  exact wret_rr (s:=outF x.2) hxM
 obtain⟨n,rfl⟩: ∃m,n=m+1:=⟨n - 1,by omega⟩
 rw[opsF,if_neg q]at hinv
 have hi:=anyF_is q
 have hnx:=hx.rin.next hL hi
 have hy:=hP.ok 6 (nextF x.2) hnx (by show x.2.opn=_;rw[hxo,hro])
 have hcy:=hP.unary (nextF x.2) hnx (by show x.2.opn=_;rw[hxo,hro])
 generalize rec 6 (nextF x.2)=y at hy hcy hinv
 have hup:=hy.up
 rw[nextF_at]at hup
 have hz:PI L s1 (opF (tokF L x.2).place (anyF L x.2 signsP) [x.1,y.1] y.2):=PI_op _ _ hy.rin (by rw[hy.opn];exact hxo) (by have:=hx.up;omega) (fun he=>(hx.err (hy.err he).1).1) (by simp) (fun e he=>by
  simp only[List.mem_cons,List.not_mem_nil,or_false]at he
  rcases he with rfl|rfl
  ·exact hx.wide
  ·exact hy.wide)
 have hop:=op_w L y.2 (tokF L x.2).place (anyF L x.2 signsP) [x.1,y.1] (by simp) (fun e he=>by
  simp only[List.mem_cons,List.not_mem_nil,or_false]at he
  rcases he with rfl|rfl
  ·exact hx.wide
  ·exact hy.wide) (fun he=>by
   have h1:=(hy.err he).2
   have h2:=(hx.err (hy.err he).1).2
   simp only[deepsF]
   omega)
 have hzat:(opF (tokF L x.2).place (anyF L x.2 signsP) [x.1,y.1] y.2).2.at_=y.2.at_:=opS_at _ _ _ _
 generalize opF (tokF L x.2).place (anyF L x.2 signsP) [x.1,y.1] y.2=z at hz hop hinv hzat
 have hany2:=any_w L hL z.2 hz.rin signsP (by decide)
 have hzi:=hz.rin.at_
 have hl:=hL.len
 have ei:IntKind.i64.wrap ((x.2.at_:Int)+1)=((x.2.at_+1:Nat):Int):=by rw[i64_id (by omega) (by omega)];omega
 have q':(anyF L x.2 signsP).isEmpty=false:=by simpa using q
 refine wVW_code ?_
 simp[go_sem,q']
 refine wVC_rd htok Tryz.callB70 rd_1 rfl ?_
 simp[go_sem,rB,ei]
 simp only[List.map_cons,List.map_nil,GExpr.row_eq]at hop
 refine wdraw_but [(3,1),(5,3),(7,3)] 1 3 (by simp) (by kernel_rfl) (by kernel_rfl) ?_
 simp[go_sem]
 refine wVD_rr hcy Tryz.callB248 rd_1 ?_
 simp[go_sem,GExpr.row_eq]
 refine wVD_rr hop Tryz.callB217 (rd_ptr ⟨argS_no rfl,argS_no rfl,argS_ro,trivial⟩) ?_
 simp[go_sem,GExpr.row_eq]
 refine wVC_rd hany2 Tryz.callB65 (rd_ptr ⟨argS_ro,trivial⟩) rfl ?_
 simp[go_sem]
 refine next_i z ⟨by omega,⟨hz,n,by omega,hinv⟩, ?_⟩
 exact at_n 3 (by simp[go_sem,rB,zB,GExpr.row_eq]) rfl (by simp[rB,zB,ltOb,ltC,ltK,GExpr.row_eq]) (by decide) (args_lt_eq (by simp[go_sem]) rfl)
end Go.Proofs.YtajjjghohakniaaGreat
namespace Go.Proofs.YtajjjghohakniaaGreat
open Go Go.Vx
set_option maxRecDepth 100000
theorem below0_w (L:List GToken) (rec:Nat→RS→PR) (o:Int) (hP:PW L rec o) (s:RS) (hs:RIn L s) (ho:s.opn=o):VCalls Tryz.prog 215 [.ptr 0 0,.int .i64 0] [rB L s] (RR L (rec 1 s)):=by
 have hc0:=hP.chain 1 (Nat.le_refl _) s hs ho
 generalize rec 1 s=x at hc0⊢
 refine VCalls.intro 1 Tryz.func215 Tryz.ntmps215 Tryz.results215 rfl rfl (Nat.le_of_ble_eq_true rfl) fun c hc hb=>wcode_of ?_
 simp[go_sem]
 refine wVC_rr hc0 Tryz.callB189 (rd_ptr ⟨argS_no rfl,trivial⟩) ?_
 simp[go_sem,GExpr.row_eq]
 exact wret_rr rfl
theorem below1_w (L:List GToken) (rec:Nat→RS→PR) (o:Int) (hP:PW L rec o) (s:RS) (hs:RIn L s) (ho:s.opn=o):VCalls Tryz.prog 215 [.ptr 0 0,.int .i64 1] [rB L s] (RR L (rec 2 s)):=by
 have hc0:=hP.not s hs ho
 generalize rec 2 s=x at hc0⊢
 refine VCalls.intro 1 Tryz.func215 Tryz.ntmps215 Tryz.results215 rfl rfl (Nat.le_of_ble_eq_true rfl) fun c hc hb=>wcode_of ?_
 simp[go_sem]
 refine wVC_rr hc0 Tryz.callB231 rd_1 ?_
 simp[go_sem,GExpr.row_eq]
 exact wret_rr rfl
theorem any1_is (L:List GToken) (s:RS) (w:List UInt8) (hw:w≠ []):(anyF L s [w]= []↔isT L w s=false)∧(isT L w s=true→anyF L s [w]=w):=by
 unfold anyF
 cases isT L w s
 ·simp[anyF]
 ·simp[hw]
theorem chain0_w (L:List GToken) (hL:LIn L) (rec:Nat→RS→PR) (s:RS) (hs:RIn L s) (h2:s.opn≤200) (hrec:s.opn+1≤200→PW L rec (s.opn+1)):
  VCalls Tryz.prog 189 [.ptr 0 0,.int .i64 0] [rB L s] (RR L (ruled L (bodyF L rec 0) s)):=by
 have hr:=rule_w L hL s hs (by omega)
 have hrin:=ruleS_in hs h2
 have hro:=ruleS_opn (L:=L) s
 have hre:=ruleS_err (L:=L) (s:=s)
 have ho:=hs.opn
 have hM:ruled L (bodyF L rec 0) s=if(ruleS L s).err=0 then((opsF L [wOR] (rec 1) L.length (rec 1 (ruleS L s))).1,outF (opsF L [wOR] (rec 1) L.length (rec 1 (ruleS L s))).2)else(zeroE,outF (ruleS L s)):=rfl
 generalize ruled L (bodyF L rec 0) s=M at hM⊢
 generalize ruleS L s=s1 at hr hrin hro hre hM
 have eo:=out_i64 (o:=s1.opn) (by omega) (by omega)
 have hlev:=levels_w
 refine VCalls.introV 1 Tryz.func189 Tryz.ntmps189 Tryz.results189 rfl rfl (Nat.le_of_ble_eq_true rfl) fun c hc hb=> ?_
 by_cases q1:s1.err=0
 rotate_left
 ·have q1':(s1.err==0)=false:=by simpa using q1
  rw[if_neg q1]at hM
  rw[q1']at hr
  refine wVW_code ?_
  simp[go_sem]
  refine wVC_rd hr Tryz.callB214 rd_1 rfl ?_
  simp[go_sem,rB,eo]
  exact wret_rg (e:=zeroE) (s:=outF s1) hM
 have q1':(s1.err==0)=true:=by simpa using q1
 rw[if_pos q1]at hM
 rw[q1']at hr
 have hP:=hrec (hre q1).2
 have hx0:=hP.ok 1 s1 hrin hro
 have hc0:=below0_w L rec _ hP s1 hrin hro
 generalize rec 1 s1=x0 at hx0 hc0 hM
 obtain⟨N,hN⟩: ∃N,L.length=N:=⟨_,rfl⟩
 rw[hN]at hM
 refine wVW_code ?_
 simp[go_sem]
 refine wVC_rd hr Tryz.callB214 rd_1 rfl ?_
 simp[go_sem]
 refine wVC_rr hc0 Tryz.callB215 (rd_ptr ⟨argS_no rfl,trivial⟩) ?_
 simp[go_sem]
 refine wVW_while (S:=PR) [0,1,4,5] (fun x=> [.ptr 0 0,.int .i64 0,.ptr 1 0,.ptr 2 0]) (fun x=> [rB L x.2,zB,.box x.1.row]) (fun x=>N - x.2.at_) (fun x=>PI L s1 x∧ ∃n,N≤n+x.2.at_∧((opsF L [wOR] (rec 1) n x).1,outF (opsF L [wOR] (rec 1) n x).2)=M) hc hb x0 ⟨hx0,N,by omega,hM.symm⟩ ?_ ?_
 ·exact at_n 3 (by simp[go_sem,zB]) rfl (by simp[rB,zB,ltOb,ltC,ltK,GExpr.row_eq]) (by decide) (args_lt_eq (by simp[go_sem]) rfl)
 rintro x ⟨hx,n,hn,hinv⟩
 have hxi:=hx.rin.at_
 have his:=is_w L hL x.2 hx.rin wOR
 have htok:=tok_w L hL x.2 hx.rin
 have hxo:=hx.opn
 obtain⟨ha1,ha2⟩:=any1_is L x.2 wOR (by decide)
 by_cases q:isT L wOR x.2=false
 ·rw[q]at his
  have hxM:M=(x.1,outF x.2):=by
   cases n with
   |zero=>exact hinv.symm
   |succ n=>rw[opsF,if_pos (ha1.2 q)]at hinv;exact hinv.symm
  have eo2:IntKind.i64.wrap (x.2.opn - 1)=x.2.opn - 1:=by rw[hxo];exact eo
  refine wVW_code ?_
  simp[go_sem]
  refine wVC_pure hlev Tryz.callB216 (args_no rfl) rfl ?_
  simp[go_sem]
  refine wVC_rd his Tryz.callB69 (rd_ptr ⟨argS_no rfl,trivial⟩) rfl ?_
  simp[go_sem,rB,eo2]
  exact wret_rr (s:=outF x.2) hxM
 have q:isT L wOR x.2=true:=by simpa using q
 rw[q]at his
 obtain⟨n,rfl⟩: ∃m,n=m+1:=⟨n - 1,by omega⟩
 have hany:=ha2 q
 rw[opsF,if_neg (by rw[hany];decide),hany]at hinv
 have hnx:=hx.rin.next hL q
 have hy:=hP.ok 1 (nextF x.2) hnx (by show x.2.opn=_;rw[hxo,hro])
 have hcy:=below0_w L rec _ hP (nextF x.2) hnx (by show x.2.opn=_;rw[hxo,hro])
 generalize rec 1 (nextF x.2)=y at hy hcy hinv
 have hup:=hy.up
 rw[nextF_at]at hup
 have hwy: ∀e∈ [x.1,y.1],Wide e:=fun e he=>by
  simp only[List.mem_cons,List.not_mem_nil,or_false]at he
  rcases he with rfl|rfl
  ·exact hx.wide
  ·exact hy.wide
 have hz:PI L s1 (opF (tokF L x.2).place wOR [x.1,y.1] y.2):=PI_op _ _ hy.rin (by rw[hy.opn];exact hxo) (by have:=hx.up;omega) (fun he=>(hx.err (hy.err he).1).1) (by simp) hwy
 have hop:=op_w L y.2 (tokF L x.2).place wOR [x.1,y.1] (by simp) hwy (fun he=>by
   have h1:=(hy.err he).2
   have h2:=(hx.err (hy.err he).1).2
   simp only[deepsF]
   omega)
 have hzat:(opF (tokF L x.2).place wOR [x.1,y.1] y.2).2.at_=y.2.at_:=opS_at _ _ _ _
 generalize opF (tokF L x.2).place wOR [x.1,y.1] y.2=z at hz hop hinv hzat
 have hzi:=hz.rin.at_
 have hl:=hL.len
 have ei:IntKind.i64.wrap ((x.2.at_:Int)+1)=((x.2.at_+1:Nat):Int):=by rw[i64_id (by omega) (by omega)];omega
 simp only[List.map_cons,List.map_nil,GExpr.row_eq]at hop
 refine wVW_code ?_
 simp[go_sem]
 refine wVC_pure hlev Tryz.callB216 (args_no rfl) rfl ?_
 simp[go_sem]
 refine wVC_rd his Tryz.callB69 (rd_ptr ⟨argS_no rfl,trivial⟩) rfl ?_
 simp[go_sem]
 refine wVC_rd htok Tryz.callB70 rd_1 rfl ?_
 simp[go_sem,rB,ei]
 refine wdraw_but [(2,0),(11,3),(13,3)] 1 3 (by simp) (by kernel_rfl) (by kernel_rfl) ?_
 simp[go_sem]
 refine wVD_pure hlev Tryz.callB216 (fun _=>args_no rfl) rfl ?_
 simp[go_sem]
 refine wVD_rr hcy Tryz.callB215 (rd_ptr ⟨argS_no rfl,trivial⟩) ?_
 simp[go_sem,GExpr.row_eq]
 refine wVD_rr hop Tryz.callB217 (rd_ptr ⟨argS_no rfl,argS_no rfl,argS_ro,trivial⟩) ?_
 simp[go_sem,GExpr.row_eq]
 refine next_i z ⟨by omega,⟨hz,n,by omega,hinv⟩, ?_⟩
 exact at_n 3 (by simp[go_sem,rB,zB,GExpr.row_eq]) rfl (by simp[rB,zB,ltOb,ltC,ltK,GExpr.row_eq]) (by decide) (args_lt_eq (by simp[go_sem]) rfl)
theorem chain1_w (L:List GToken) (hL:LIn L) (rec:Nat→RS→PR) (s:RS) (hs:RIn L s) (h2:s.opn≤200) (hrec:s.opn+1≤200→PW L rec (s.opn+1)):
  VCalls Tryz.prog 189 [.ptr 0 0,.int .i64 1] [rB L s] (RR L (ruled L (bodyF L rec 1) s)):=by
 have hr:=rule_w L hL s hs (by omega)
 have hrin:=ruleS_in hs h2
 have hro:=ruleS_opn (L:=L) s
 have hre:=ruleS_err (L:=L) (s:=s)
 have ho:=hs.opn
 have hM:ruled L (bodyF L rec 1) s=if(ruleS L s).err=0 then((opsF L [wAND] (rec 2) L.length (rec 2 (ruleS L s))).1,outF (opsF L [wAND] (rec 2) L.length (rec 2 (ruleS L s))).2)else(zeroE,outF (ruleS L s)):=rfl
 generalize ruled L (bodyF L rec 1) s=M at hM⊢
 generalize ruleS L s=s1 at hr hrin hro hre hM
 have eo:=out_i64 (o:=s1.opn) (by omega) (by omega)
 have hlev:=levels_w
 refine VCalls.introV 1 Tryz.func189 Tryz.ntmps189 Tryz.results189 rfl rfl (Nat.le_of_ble_eq_true rfl) fun c hc hb=> ?_
 by_cases q1:s1.err=0
 rotate_left
 ·have q1':(s1.err==0)=false:=by simpa using q1
  rw[if_neg q1]at hM
  rw[q1']at hr
  refine wVW_code ?_
  simp[go_sem]
  refine wVC_rd hr Tryz.callB214 rd_1 rfl ?_
  simp[go_sem,rB,eo]
  exact wret_rg (e:=zeroE) (s:=outF s1) hM
 have q1':(s1.err==0)=true:=by simpa using q1
 rw[if_pos q1]at hM
 rw[q1']at hr
 have hP:=hrec (hre q1).2
 have hx0:=hP.ok 2 s1 hrin hro
 have hc0:=below1_w L rec _ hP s1 hrin hro
 generalize rec 2 s1=x0 at hx0 hc0 hM
 obtain⟨N,hN⟩: ∃N,L.length=N:=⟨_,rfl⟩
 rw[hN]at hM
 refine wVW_code ?_
 simp[go_sem]
 refine wVC_rd hr Tryz.callB214 rd_1 rfl ?_
 simp[go_sem]
 refine wVC_rr hc0 Tryz.callB215 (rd_ptr ⟨argS_no rfl,trivial⟩) ?_
 simp[go_sem]
 refine wVW_while (S:=PR) [0,1,4,5] (fun x=> [.ptr 0 0,.int .i64 1,.ptr 1 0,.ptr 2 0]) (fun x=> [rB L x.2,zB,.box x.1.row]) (fun x=>N - x.2.at_) (fun x=>PI L s1 x∧ ∃n,N≤n+x.2.at_∧((opsF L [wAND] (rec 2) n x).1,outF (opsF L [wAND] (rec 2) n x).2)=M) hc hb x0 ⟨hx0,N,by omega,hM.symm⟩ ?_ ?_
 ·exact at_n 3 (by simp[go_sem,zB]) rfl (by simp[rB,zB,ltOb,ltC,ltK,GExpr.row_eq]) (by decide) (args_lt_eq (by simp[go_sem]) rfl)
 rintro x ⟨hx,n,hn,hinv⟩
 have hxi:=hx.rin.at_
 have his:=is_w L hL x.2 hx.rin wAND
 have htok:=tok_w L hL x.2 hx.rin
 have hxo:=hx.opn
 obtain⟨ha1,ha2⟩:=any1_is L x.2 wAND (by decide)
 by_cases q:isT L wAND x.2=false
 ·rw[q]at his
  have hxM:M=(x.1,outF x.2):=by
   cases n with
   |zero=>exact hinv.symm
   |succ n=>rw[opsF,if_pos (ha1.2 q)]at hinv;exact hinv.symm
  have eo2:IntKind.i64.wrap (x.2.opn - 1)=x.2.opn - 1:=by rw[hxo];exact eo
  refine wVW_code ?_
  simp[go_sem]
  refine wVC_pure hlev Tryz.callB216 (args_no rfl) rfl ?_
  simp[go_sem]
  refine wVC_rd his Tryz.callB69 (rd_ptr ⟨argS_no rfl,trivial⟩) rfl ?_
  simp[go_sem,rB,eo2]
  exact wret_rr (s:=outF x.2) hxM
 have q:isT L wAND x.2=true:=by simpa using q
 rw[q]at his
 obtain⟨n,rfl⟩: ∃m,n=m+1:=⟨n - 1,by omega⟩
 have hany:=ha2 q
 rw[opsF,if_neg (by rw[hany];decide),hany]at hinv
 have hnx:=hx.rin.next hL q
 have hy:=hP.ok 2 (nextF x.2) hnx (by show x.2.opn=_;rw[hxo,hro])
 have hcy:=below1_w L rec _ hP (nextF x.2) hnx (by show x.2.opn=_;rw[hxo,hro])
 generalize rec 2 (nextF x.2)=y at hy hcy hinv
 have hup:=hy.up
 rw[nextF_at]at hup
 have hwy: ∀e∈ [x.1,y.1],Wide e:=fun e he=>by
  simp only[List.mem_cons,List.not_mem_nil,or_false]at he
  rcases he with rfl|rfl
  ·exact hx.wide
  ·exact hy.wide
 have hz:PI L s1 (opF (tokF L x.2).place wAND [x.1,y.1] y.2):=PI_op _ _ hy.rin (by rw[hy.opn];exact hxo) (by have:=hx.up;omega) (fun he=>(hx.err (hy.err he).1).1) (by simp) hwy
 have hop:=op_w L y.2 (tokF L x.2).place wAND [x.1,y.1] (by simp) hwy (fun he=>by
   have h1:=(hy.err he).2
   have h2:=(hx.err (hy.err he).1).2
   simp only[deepsF]
   omega)
 have hzat:(opF (tokF L x.2).place wAND [x.1,y.1] y.2).2.at_=y.2.at_:=opS_at _ _ _ _
 generalize opF (tokF L x.2).place wAND [x.1,y.1] y.2=z at hz hop hinv hzat
 have hzi:=hz.rin.at_
 have hl:=hL.len
 have ei:IntKind.i64.wrap ((x.2.at_:Int)+1)=((x.2.at_+1:Nat):Int):=by rw[i64_id (by omega) (by omega)];omega
 simp only[List.map_cons,List.map_nil,GExpr.row_eq]at hop
 refine wVW_code ?_
 simp[go_sem]
 refine wVC_pure hlev Tryz.callB216 (args_no rfl) rfl ?_
 simp[go_sem]
 refine wVC_rd his Tryz.callB69 (rd_ptr ⟨argS_no rfl,trivial⟩) rfl ?_
 simp[go_sem]
 refine wVC_rd htok Tryz.callB70 rd_1 rfl ?_
 simp[go_sem,rB,ei]
 refine wdraw_but [(2,0),(11,3),(13,3)] 1 3 (by simp) (by kernel_rfl) (by kernel_rfl) ?_
 simp[go_sem]
 refine wVD_pure hlev Tryz.callB216 (fun _=>args_no rfl) rfl ?_
 simp[go_sem]
 refine wVD_rr hcy Tryz.callB215 (rd_ptr ⟨argS_no rfl,trivial⟩) ?_
 simp[go_sem,GExpr.row_eq]
 refine wVD_rr hop Tryz.callB217 (rd_ptr ⟨argS_no rfl,argS_no rfl,argS_ro,trivial⟩) ?_
 simp[go_sem,GExpr.row_eq]
 refine next_i z ⟨by omega,⟨hz,n,by omega,hinv⟩, ?_⟩
 exact at_n 3 (by simp[go_sem,rB,zB,GExpr.row_eq]) rfl (by simp[rB,zB,ltOb,ltC,ltK,GExpr.row_eq]) (by decide) (args_lt_eq (by simp[go_sem]) rfl)
end Go.Proofs.YtajjjghohakniaaGreat
