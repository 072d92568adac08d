/-
  Contracts of functions that the claimed statement reaches, each proved over trees (the library Vx); used by the theorem at the end of the claim.
  Conditions: as each theorem states them.
-/
import Derived.Test.YtajjjghohakniaaGreatSBA
import Derived.Test.YtajjjghohakniaaGreatSAT
namespace Go.Proofs.YtajjjghohakniaaGreat.R
open Go Go.Vx
set_option maxRecDepth 100000
theorem xor63 (a:Nat) (h:a<2^64):a^^^2^63=(2^63+a)%2^64:=by
 apply Nat.eq_of_testBit_eq
 intro j
 rw[Nat.testBit_xor,Nat.testBit_two_pow,Nat.testBit_mod_two_pow]
 rcases Nat.lt_trichotomy j 63 with h1|h1|h1
 ·rw[Nat.testBit_two_pow_add_gt h1]
  simp[show j<64 by omega,show ¬63=j by omega]
 ·subst h1
  rw[Nat.testBit_two_pow_add_eq]
  simp
 ·rw[Nat.testBit_lt_two_pow (Nat.lt_of_lt_of_le h (Nat.pow_le_pow_right (by decide) (by omega)))]
  simp[show ¬j<64 by omega,show ¬63=j by omega]
theorem order_x {n:Int} (h1: -9223372036854775808≤n) (h2:n≤9223372036854775807):bitsV .xor .u64 (IntKind.u64.wrap n) 9223372036854775808=(((n+9223372036854775808).toNat:Nat):Int):=by
 obtain⟨a,ha,hlt⟩: ∃a:Nat,IntKind.u64.wrap n=(a:Int)∧(a:Int)=n%18446744073709551616:=by
  unfold IntKind.wrap
  simp[IntKind.bits,IntKind.signed]
  exact⟨(n%18446744073709551616).toNat,by omega,by omega⟩
 have hl:a<2^64:=by omega
 show IntKind.u64.wrap ((BitVec.ofInt 64 (IntKind.u64.wrap n)^^^BitVec.ofInt 64 ((9223372036854775808:Nat):Int)).toNat:Int)=_
 rw[ha,BitVec.ofInt_natCast,BitVec.ofInt_natCast,BitVec.toNat_xor,BitVec.toNat_ofNat,BitVec.toNat_ofNat,Nat.mod_eq_of_lt hl,show 9223372036854775808%2^64=2^63 by decide,xor63 a hl]
 unfold IntKind.wrap
 simp[IntKind.bits,IntKind.signed]
 omega
theorem Order_w (n:Int) (hn:i64R n):Pure Tryz.prog 152 [.int .i64 n] (.int .u64 (n+9223372036854775808).toNat):=by
 have e:=order_x hn.1 hn.2
 refine VCalls.intro 0 Tryz.func152 Tryz.ntmps152 Tryz.results152 rfl rfl (Nat.le_of_ble_eq_true rfl) fun c hc hb=>wcode_of ?_
 simp[go_sem,e]
 exact wret_0 (argS_no rfl) ⟨rfl,rfl⟩
theorem u8_lt (n:Int):IntKind.u8.wrap n<256:=by
 unfold IntKind.wrap
 simp[IntKind.bits,IntKind.signed]
 omega
theorem tab_le (l:List UInt8) (h:l.all (fun c=>decide (c.toNat≤8))=true) (i:Nat):(l[i]?.getD 0).toNat≤8:=by
 rcases Nat.lt_or_ge i l.length with q|q
 ·rw[List.getElem?_eq_getElem q]
  simpa using List.all_eq_true.1 h _ (List.getElem_mem q)
 ·rw[List.getElem?_eq_none q];decide
theorem len_fin0 {n:Int} (h0:0≤n) (h:n≤64): ∃m:Nat,V.int .i64 n= .int .i64 m∧m≤64:=⟨n.toNat,by congr 1;omega,by omega⟩
theorem Len64_w (v:Nat) (hv:v<18446744073709551616):VCalls Tryz.prog 187 [.int .u64 v] [] fun r s=>(∃n:Nat,r= .int .i64 n∧n≤64)∧s= []:=by
 have w48:IntKind.i64.wrap 48=48:=by decide+kernel
 have w40:IntKind.i64.wrap 40=40:=by decide+kernel
 have w16:IntKind.i64.wrap 16=16:=by decide+kernel
 have w8:IntKind.i64.wrap 8=8:=by decide+kernel
 have w56:IntKind.i64.wrap (48+8)=56:=by decide+kernel
 have w24:IntKind.i64.wrap (16+8)=24:=by decide+kernel
 refine VCalls.intro 0 Tryz.func187 Tryz.ntmps187 Tryz.results187 rfl rfl (Nat.le_of_ble_eq_true rfl) fun c hc hb=>wcode_of ?_
 simp[go_sem]
 repeat' (refine wcond_i (fun q=> ?_) (fun q=> ?_)<;>simp[go_sem])
 all_goals
  refine wneed_i (u8_lt _) ?_
  generalize hx:UInt8.toNat (Option.getD _ _)=x
  have h8:x≤8:=hx▸tab_le _ (by decide+kernel) _
  clear hx
  have e8:IntKind.i64.wrap (x:Int)=x:=i64_id (by omega) (by omega)
  simp[go_sem,e8]
 all_goals
  try simp only[w48,w40,w16,w8,w56,w24]
  first
  |exact wret_0 (argS_no rfl) ⟨len_fin0 (by omega) (by omega),rfl⟩
  |(rw[i64_id (by omega) (by omega)]
    exact wret_0 (argS_no rfl) ⟨len_fin0 (by omega) (by omega),rfl⟩)
theorem fdiv_be (v k:Nat) (hk:k≤7):IntKind.u8.wrap ((v:Int).fdiv (2^(8*k)))=((UInt8.ofNat (v/256^k)).toNat:Int):=by
 have e:(v:Int).fdiv (2^(8*k))=((v/256^k:Nat):Int):=by
  rw[Int.fdiv_eq_ediv_of_nonneg _ (by exact Int.le_of_lt (Int.pow_pos (by decide)))]
  rw[show(2:Int)^(8*k)=((256^k:Nat):Int) by rw[Int.pow_mul];simp]
  rw[Int.natCast_ediv]
 rw[e,u8_nat]
theorem Put_w (b:List UInt8) (v:Nat) (hb0:b.length≤maxB) (hv:v<18446744073709551616):Pure Tryz.prog 151 [bys b,.int .u64 v,.int .i64 8] (.tup [bys (b++be v 8),.int .i64 0]):=by
 refine VCalls.introV 0 Tryz.func151 Tryz.ntmps151 Tryz.results151 rfl rfl (Nat.le_of_ble_eq_true rfl) fun c hc hb=> ?_
 refine wVW_code ?_
 simp[go_sem,bys]
 refine wVC_rel (R:=fun r=> ∃n:Nat,r= .int .i64 n∧n≤64) (Len64_w v hv) Tryz.callB187 (args_no rfl) (fun r h=>by obtain⟨b,rfl,_⟩:=h;rfl) ?_
 rintro r ⟨n,rfl,hn⟩
 have e64:IntKind.i64.wrap 64=64:=by decide+kernel
 simp[go_sem,e64]
 refine wcond_i (fun q=>absurd q (by simp;omega)) (fun q=> ?_)
 simp[go_sem]
 refine wVC_new0 (room_w b 8 hb0 (by decide)) Tryz.callB188 (args_no rfl) ?_
 rintro r s ⟨rfl,rfl⟩
 simp[go_sem,byA,stA]
 have ew: ∀k:Nat,k≤8→IntKind.i64.wrap (8*(k:Int) - 8)=8*(k:Int) - 8:=fun k h=>i64_id (by omega) (by omega)
 have e56:IntKind.i64.wrap (8*IntKind.i64.wrap 7)=56:=by decide+kernel
 refine wVW_while (S:=Nat×List UInt8) [1,8,9] (fun u=> [.int .u64 v,byA u.2,.int .i64 (8*(u.1:Int) - 8)]) (fun u=>stA u.2) (fun u=>u.1) (fun u=>u.1≤8∧u.2++be v u.1=b++be v 8) hc hb (8,b) ⟨Nat.le_refl _,rfl⟩ ?_ ?_
 ·exact at_n 1 (by simp[stA]) rfl rfl (Nat.zero_le _) (args_lt_eq (by simp[go_sem,byA,e56]) rfl)
 rintro⟨k,out⟩ ⟨hk,hout⟩
 simp only at hk hout
 have hol:out.length+k=b.length+8:=by
  have:=congrArg List.length hout
  simpa[be_len]using this
 refine wVW_code ?_
 simp[go_sem,byA,stA]
 refine wcond_i (fun q=> ?_) (fun q=> ?_)
 ·obtain⟨j,rfl⟩: ∃j,k=j+1:=⟨k - 1,by simp at q;omega⟩
  have e1:IntKind.u64.wrap (8*((j+1:Nat):Int) - 8)=((8*j:Nat):Int):=by rw[u64_id (by omega) (by omega)];omega
  have e2:IntKind.i64.wrap (8*((j+1:Nat):Int) - 8 - 8)=8*(j:Int) - 8:=by rw[i64_id (by omega) (by omega)];omega
  have e3:=fdiv_be v j (by omega)
  simp[go_sem]at e1 e2
  simp[go_sem,e1,e2]
  refine wneed_i (by omega) ?_
  have e4:min (8*(j:Int)).toNat 64=8*j:=by omega
  simp[go_sem,e4,e3]
  refine wneed_i ⟨byteRows_len out,by rw[byteRows_len];unfold maxB at hb0;omega,uni_one rfl⟩ ?_
  simp[go_sem,e2]
  rw[be]at hout
  refine next_i (j,out++ [UInt8.ofNat (v/256^j)]) ⟨by simp only;omega,⟨by simp only;omega,by simpa using hout⟩,at_n 1 (by simp) rfl rfl (Nat.zero_le _) (args_lt_eq (by simp[go_sem,byteRows,e2]) rfl)⟩
 ·have:k=0:=by simp at q;omega
  subst this
  rw[show be v 0= [] from rfl,List.append_nil]at hout
  simp[go_sem]
  rw[←hout]
  exact wret_0 (argS_tup (vs':= [bys out,.int .i64 0]) ⟨argA_ro,argA_no rfl,trivial⟩) ⟨rfl,rfl⟩
end Go.Proofs.YtajjjghohakniaaGreat.R
namespace Go.Proofs.YtajjjghohakniaaGreat.R
open Go Go.Vx
set_option maxRecDepth 100000
end Go.Proofs.YtajjjghohakniaaGreat.R
namespace Go.Proofs.YtajjjghohakniaaGreat.R
open Go Go.Vx
set_option maxRecDepth 100000
theorem kind_cases {v:GValue} (h:mayF v=true):v.kind=0∨v.kind=1∨v.kind=2∨v.kind=3:=by
 unfold mayF at h
 by_cases h0:v.kind=0
 ·exact .inl h0
 ·by_cases h1:v.kind=1
  ·exact .inr (.inl h1)
  ·by_cases h2:v.kind=2
   ·exact .inr (.inr (.inl h2))
   ·by_cases h3:v.kind=3
    ·exact .inr (.inr (.inr h3))
    ·simp[h0,h1,h2,h3]at h
theorem esc_take {s:List UInt8} {i:Nat} (h:i<s.length):esc (s.take (i+1))=esc (s.take i)++(if s[i]=0 then [0,255]else [s[i]]):=by
 rw[List.take_succ_eq_append_getElem h,esc_append]
 simp only[esc]
theorem uni_two {s:Nat} {a b:List V} (h1:a.length=s) (h2:b.length=s):uni s [a,b]:=fun r hr=>by
 simp at hr
 rcases hr with rfl|rfl<;>assumption
theorem mayF_len {v:GValue} (h:mayF v=true):v.s.length≤64:=by
 unfold mayF at h
 split at h
 ·simp at h;rw[h.2];decide
 split at h
 ·simp at h;rw[h.2];decide
 split at h
 ·simp at h;rw[h];decide
 split at h
 ·simp at h;exact h.2
 ·cases h
theorem KeyA_w (b:List UInt8) (v:GValue) (hv:v.ok) (hb0:b.length≤maxB - 1):Pure Tryz.prog 107 [bys b,.agg v.row] (bys (b++keyF v)):=by
 refine VCalls.introV 0 Tryz.func107 Tryz.ntmps107 Tryz.results107 rfl rfl (Nat.le_of_ble_eq_true rfl) fun c hc hb=> ?_
 refine wVW_code ?_
 obtain⟨k,n,s⟩:=v
 have hn:=hv.n
 simp only at hn
 simp[go_sem,bys,byteRows_len]
 refine wneed_i ⟨by unfold maxB at*;omega,by simp[uni],byteRows_u b⟩ ?_
 simp[go_sem]
 refine wVC_pure (May_w ⟨k,n,s⟩) Tryz.callB130 (args_no rfl) rfl ?_
 simp[go_sem]
 refine wcond_i (fun h=> ?_) (fun h=> ?_)
 ·simp[go_sem]
  refine bys_ret ?_
  have h:mayF ⟨k,n,s⟩=false:=by simpa using h
  simp[keyF,h,byteRows]
 have h:mayF ⟨k,n,s⟩=true:=by simpa using h
 have hs:s.length≤500:=by
   have:s.length≤64:=mayF_len h
   omega
 have hk:=kind_cases h
 simp only at hk
 simp[go_sem,byteRows_len]
 refine wneed_i ⟨by unfold maxB at*;omega,uni_one rfl⟩ ?_
 have w0:IntKind.u8.wrap 0=0:=by decide+kernel
 have w1:IntKind.u8.wrap 1=1:=by decide+kernel
 have w2:IntKind.u8.wrap 2=2:=by decide+kernel
 have w3:IntKind.u8.wrap 3=3:=by decide+kernel
 rcases hk with rfl|rfl|rfl|rfl
 ·simp[go_sem]
  refine bys_ret ?_
  simp[keyF,h,byteRows,w0]
 ·have h1:n=0∨n=1:=by
   unfold mayF at h
   simp at h
   exact h.1
  simp[go_sem]
  refine wneed_i ⟨byteRows_len b,by rw[byteRows_len];unfold maxB at*;omega,uni_one rfl⟩ ?_
  simp[go_sem]
  refine bys_ret ?_
  rcases h1 with rfl|rfl<;>simp[keyF,h,byteRows,w0,w1]
 ·simp[go_sem]
  obtain⟨u,hu⟩: ∃u,(n+9223372036854775808).toNat=u:=⟨_,rfl⟩
  have hO:=Order_w n hn
  rw[hu]at hO
  refine wVC_pure hO Tryz.callB152 (args_no rfl) rfl ?_
  simp[go_sem]
  refine wVC_pure (Put_w (b++ [2]) u (by simp;unfold maxB at*;omega) (by omega)) Tryz.callB151 ⟨argS_rows (by simp[byteRows,w2]),argS_no rfl,argS_no rfl,trivial⟩ rfl ?_
  simp[go_sem]
  refine bys_ret ?_
  simp[keyF,h,hu]
 ·simp[go_sem]
  refine wVW_while (S:=Nat) [3,5,44,45] (fun i=> [.ptr 0 0,.sl (.app 1) (byteRows (b++3::esc (s.take i))),.int .i64 s.length,.int .i64 i]) (fun i=> [.box [.int .i64 3,.int .i64 n,.str s],.app (b++3::esc (s.take i)).length 1]) (fun i=>s.length - i) (fun i=>i≤s.length) hc hb 0 (Nat.zero_le _) ?_ ?_
  ·exact at_n 2 (by simp[esc]) rfl rfl (Nat.zero_le _) (args_lt_eq (by simp[go_sem,esc,byteRows,w3]) rfl)
  intro i hi
  have hel:=esc_len (s.take i)
  have htl:(s.take i).length≤s.length:=by simp;omega
  obtain⟨o,ho⟩: ∃o,b++3::esc (s.take i)=o:=⟨_,rfl⟩
  have hol:o.length≤maxB+1100:=by
   rw[←ho]
   simp
   unfold maxB at*
   omega
  rw[ho]
  refine wVW_code ?_
  simp[go_sem]
  refine wcond_i (fun q=> ?_) (fun q=> ?_)
  ·have q:i<s.length:=by simpa using q
   have ei:=i64_inc q (by omega)
   have hnext:=esc_take q
   obtain⟨c0,hc0⟩: ∃c0,s[i]=c0:=⟨_,rfl⟩
   simp[go_sem,q,hc0,byteRows_len]
   refine wneed_i ⟨by unfold maxB at*;omega,uni_one rfl⟩ ?_
   simp[go_sem,q,hc0]
   refine wcond_i (fun q2=> ?_) (fun q2=> ?_)
   ·have q2:c0=0:=by
     have:c0.toNat=0:=by simp at q2;omega
     exact UInt8.toNat_inj.1 (by simpa using this)
    rw[hc0,if_pos q2]at hnext
    simp[go_sem,byteRows_len]
    refine wneed_i ⟨by unfold maxB at*;omega,uni_one rfl⟩ ?_
    simp[go_sem,ei]
    exact next_i (i+1) ⟨by omega,q,at_n 2 (by simp[hnext,←ho];omega) rfl rfl (Nat.zero_le _) (args_lt_eq (by simp[go_sem,ei,hnext,←ho,byteRows,q2]) rfl)⟩
   ·have q2: ¬c0=0:=fun h=>by rw[h]at q2;simp at q2
    rw[hc0,if_neg q2]at hnext
    simp[go_sem,ei]
    exact next_i (i+1) ⟨by omega,q,at_n 2 (by simp[hnext,←ho];omega) rfl rfl (Nat.zero_le _) (args_lt_eq (by simp[go_sem,ei,hnext,←ho,byteRows]) rfl)⟩
  ·have q:i=s.length:=by
    have: ¬i<s.length:=by simpa using q
    omega
   subst q
   simp[go_sem,byteRows_len]
   refine wneed_i ⟨by unfold maxB at*;omega,uni_two rfl rfl⟩ ?_
   simp[go_sem]
   refine bys_ret ?_
   rw[List.take_length]at ho
   simp[keyF,h,byteRows,←ho]
end Go.Proofs.YtajjjghohakniaaGreat.R
namespace Go.Proofs.YtajjjghohakniaaGreat.R
open Go Go.Vx
set_option maxRecDepth 100000
def isF (n:Nat) (t:Int):Bool:=decide (0≤t)&&decide (t<n)
theorem isF_nat {n:Nat} {t:Int} (h:isF n t=true): ∃j:Nat,t=j∧j<n:=by
 simp[isF]at h
 exact⟨t.toNat,by omega,by omega⟩
def boundF (n:Nat) (t:Int) (v:GValue):List UInt8:=if isF n t=true then UInt8.ofNat (t.toNat+1)::keyF v else []
def allF (n:Nat) (t:Int):List UInt8×List UInt8:=if isF n t=true then([UInt8.ofNat (t.toNat+1)],[UInt8.ofNat (t.toNat+2)])else([],[])
theorem BoundA_w (regs tabs:List (List V)) (t:Int) (v:GValue) (hn:tabs.length≤maxB) (hv:v.ok):Pure Tryz.prog 55 [.agg [.sl .ro regs,.sl .ro tabs],.int .i64 t,.agg v.row] (.str (boundF tabs.length t v)):=by
 have his:=is_w regs tabs t
 rw[show(decide (0≤t)&&decide (t<tabs.length))=isF tabs.length t from rfl]at his
 refine VCalls.intro 0 Tryz.func55 Tryz.ntmps55 Tryz.results55 rfl rfl (Nat.le_of_ble_eq_true rfl) fun c hc hb=>wcode_of ?_
 simp[go_sem]
 refine wVC_pure his Tryz.callB105 (args_no rfl) rfl ?_
 unfold boundF
 refine(Bool.eq_false_or_eq_true (isF tabs.length t)).elim (fun h=> ?_) (fun h=> ?_)
 ·obtain⟨j,rfl,hj⟩:=isF_nat h
  rw[h,if_pos rfl]
  have e1:IntKind.u8.wrap (IntKind.i64.wrap ((j:Int)+1))=((UInt8.ofNat (j+1)).toNat:Int):=by
   rw[i64_id (by omega) (by unfold maxB at hn;omega),show(j:Int)+1=((j+1:Nat):Int) by omega,u8_nat]
  simp[go_sem,e1]
  refine wVC_pure (KeyA_w [UInt8.ofNat (j+1)] v hv (by simp[maxB])) Tryz.callB107 ⟨argS_rows (by simp[byteRows]),argS_no rfl,trivial⟩ rfl ?_
  simp[go_sem,bys]
  refine wneed_i (byteRows_isBytes _) ?_
  simp[go_sem,byteRows_back]
  exact wret_0 (argS_no rfl) ⟨rfl,rfl⟩
 ·rw[h]
  simp[go_sem]
  exact wret_0 (argS_no rfl) ⟨rfl,rfl⟩
theorem Bound_w (regs tabs:List (List V)) (t:Int) (v:GValue) (hn:tabs.length≤maxB) (hv:v.ok) (_hs:v.s.length≤500):Pure Tryz.prog 55 [.agg [.sl .ro regs,.sl .ro tabs],.int .i64 t,.agg v.row] (.str (boundF tabs.length t v)):=BoundA_w regs tabs t v hn hv
theorem All_w (regs tabs:List (List V)) (t:Int) (hn:tabs.length≤maxB):Pure Tryz.prog 52 [.agg [.sl .ro regs,.sl .ro tabs],.int .i64 t] (.tup [.str (allF tabs.length t).1,.str (allF tabs.length t).2]):=by
 have his:=is_w regs tabs t
 rw[show(decide (0≤t)&&decide (t<tabs.length))=isF tabs.length t from rfl]at his
 refine VCalls.intro 0 Tryz.func52 Tryz.ntmps52 Tryz.results52 rfl rfl (Nat.le_of_ble_eq_true rfl) fun c hc hb=>wcode_of ?_
 simp[go_sem]
 refine wVC_pure his Tryz.callB105 (args_no rfl) rfl ?_
 unfold allF
 refine(Bool.eq_false_or_eq_true (isF tabs.length t)).elim (fun h=> ?_) (fun h=> ?_)
 ·obtain⟨j,rfl,hj⟩:=isF_nat h
  rw[h,if_pos rfl]
  obtain⟨x,hx⟩: ∃x,UInt8.ofNat (j+1)=x:=⟨_,rfl⟩
  obtain⟨y,hy⟩: ∃y,UInt8.ofNat (j+2)=y:=⟨_,rfl⟩
  have e1:IntKind.u8.wrap (IntKind.i64.wrap ((j:Int)+1))=(x.toNat:Int):=by
   rw[i64_id (by omega) (by unfold maxB at hn;omega),show(j:Int)+1=((j+1:Nat):Int) by omega,u8_nat,hx]
  have e2:IntKind.u8.wrap (IntKind.i64.wrap ((j:Int)+2))=(y.toNat:Int):=by
   rw[i64_id (by omega) (by unfold maxB at hn;omega),show(j:Int)+2=((j+2:Nat):Int) by omega,u8_nat,hy]
  simp only[Int.toNat_natCast,hx,hy]
  simp[go_sem]
  refine wdraw [] 1 rfl (by kernel_rfl) (by kernel_rfl) ?_
  simp[go_sem,e1,e2]
  refine wneed_i (byteRows_isBytes [x]) ?_
  have r1:rowByte [V.int IntKind.u8 x.toNat]=x:=by simp[rowByte]
  have r2:rowByte [V.int IntKind.u8 y.toNat]=y:=by simp[rowByte]
  simp[go_sem,e1,e2,r1]
  refine wneed_i (byteRows_isBytes [y]) ?_
  simp[go_sem,r2]
  exact wret_0 (argS_no rfl) ⟨by rw[←hx,←hy];simp,rfl⟩
 ·rw[h]
  simp[go_sem]
  exact wret_0 (argS_no rfl) ⟨rfl,rfl⟩
end Go.Proofs.YtajjjghohakniaaGreat.R
namespace Go.Proofs.YtajjjghohakniaaGreat
open Go Go.Vx R
set_option maxRecDepth 100000
theorem keyF_140 (v:GValue):(keyF v).length≤140:=by
 by_cases h:mayF v=true
 ·have h1:=keyF_len (v:=v)
  have h2:=mayF_len h
  omega
 ·unfold keyF;rw[if_neg h];simp
def maxS (x y:List UInt8):List UInt8:=if Op.bytesLess x y=true then y else x
def minS (x y:List UInt8):List UInt8:=if Op.bytesLess x y=true∨x=y then x else y
def cutF (at_:List UInt8) (sign:List UInt8) (b:List UInt8×List UInt8):List UInt8×List UInt8:=
 if sign= [61]then(maxS b.1 at_,minS b.2 (at_++ [0]))
 else if sign= [60]then(b.1,minS b.2 at_)
 else if sign= [60,61]then(b.1,minS b.2 (at_++ [0]))
 else if sign= [62]then(maxS b.1 (at_++ [0]),b.2)
 else if sign= [62,61]then(maxS b.1 at_,b.2)
 else b
def cutsF (n:Nat) (t:Int) (name:List UInt8) (l:List GExpr) (b:List UInt8×List UInt8):List UInt8×List UInt8:=
 l.foldl (fun b e=>match against e name with|none=>b|some (s,v)=>cutF (boundF n t v) s b) b
def keyName (T:GTable):Option (List UInt8):=if 0≤T.key then(T.cols[T.key.toNat]?).map (·.name)else none
def boundsF (ts:List GTable) (t:Int) (st:GStmt):List UInt8×List UInt8:=
 if isF ts.length t=true then
  match (ts[t.toNat]?).bind keyName with
  |none=>allF ts.length t
  |some name=>let b:=cutsF ts.length t name (conjF st) (allF ts.length t);(b.1,maxS b.2 b.1)
 else allF ts.length t
def pairS (b:List UInt8×List UInt8):V:= .tup [.str b.1,.str b.2]
theorem cutV_no (o:Option (List UInt8×GValue)):noS (cutV o)=true:=by
 obtain _|⟨s,v⟩:=o<;>rfl
theorem Bounds_w (regs:List (List V)) (ts:List GTable) (t:Int) (st:GStmt) (hn:ts.length≤maxB) (hc0: ∀T∈ts,T.cols.length≤maxLen) (hl:(conjF st).length≤maxLen)
  (hv: ∀e∈conjF st,∀name s v,against e name=some (s,v)→v.ok):
  Pure Tryz.prog 24 [.agg [.sl .ro regs,.sl .ro (ts.map GTable.row)],.int .i64 t,.agg st.row] (pairS (boundsF ts t st)):=by
 generalize hM:boundsF ts t st=M
 have ret: ∀(r:List UInt8×List UInt8) (σ:St),r=M→wret (some (.tup [.str r.1,.str r.2])) 0 (fun r s=>r=pairS M∧s= []) σ:=fun r σ h=>by subst h;exact wret_0 (argS_no rfl) ⟨rfl,rfl⟩
 have hall:=All_w regs (ts.map GTable.row) t (by simpa using hn)
 have hcj:=conjuncts_w st
 simp only[List.length_map]at hall
 unfold boundsF at hM
 generalize hA:allF ts.length t=A at hall hM
 generalize hL:conjF st=L at hcj hM hl hv
 refine VCalls.introV 0 Tryz.func24 Tryz.ntmps24 Tryz.results24 rfl rfl (Nat.le_of_ble_eq_true rfl) fun c hc hb=> ?_
 refine wVW_code ?_
 simp[go_sem]
 refine wVC_pure hall Tryz.callB52 (args_no rfl) rfl ?_
 simp[go_sem]
 refine(Bool.eq_false_or_eq_true (isF ts.length t)).elim (fun h=> ?_) (fun h=> ?_)
 rotate_left
 ·simp only[h]at hM
  have h2:decide (t<0)=true∨(decide (t<0)=false∧decide ((ts.length:Int)≤t)=true):=by
   unfold isF at h
   simp only[Bool.and_eq_false_iff,decide_eq_false_iff_not]at h
   simp only[decide_eq_true_eq,decide_eq_false_iff_not]
   omega
  refine h2.elim (fun q=> ?_) (fun q=> ?_)
  all_goals simp[go_sem,q]
  all_goals exact ret _ _ hM
 obtain⟨j,rfl,hj⟩:=isF_nat h
 obtain⟨T,hT⟩: ∃T,ts[j]=T:=⟨_,rfl⟩
 have hq2:decide ((ts.length:Int)≤j)=false:=decide_eq_false (by omega)
 have hq1:decide ((j:Int)<0)=false:=decide_eq_false (by omega)
 simp only[h,if_true,Int.toNat_natCast,List.getElem?_eq_getElem hj,hT,Option.bind_some]at hM
 have hq3:decide (ts.length≤j)=false:=decide_eq_false (by omega)
 simp[go_sem,hq1,hq2,hq3,hj,hT]
 by_cases hk:0≤T.key∧T.key<T.cols.length
 rotate_left
 ·have hkn:keyName T=none:=by
   unfold keyName
   split
   ·rw[List.getElem?_eq_none (by omega)];rfl
   ·rfl
  rw[hkn]at hM
  have h2:decide (T.key<0)=true∨(decide (T.key<0)=false∧decide ((T.cols.length:Int)≤T.key)=true):=by
   simp only[decide_eq_true_eq,decide_eq_false_iff_not]
   omega
  refine h2.elim (fun q=> ?_) (fun q=> ?_)
  all_goals simp[go_sem,q]
  all_goals exact ret _ _ hM
 obtain⟨m,hm⟩: ∃m:Nat,T.key=m:=⟨T.key.toNat,by omega⟩
 have hmc:m<T.cols.length:=by omega
 obtain⟨C,hC⟩: ∃C,T.cols[m]=C:=⟨_,rfl⟩
 have hkn:keyName T=some C.name:=by
  unfold keyName
  rw[if_pos (by omega),hm,Int.toNat_natCast,List.getElem?_eq_getElem hmc,hC];rfl
 simp only[hkn]at hM
 have hk1:decide (T.key<0)=false:=decide_eq_false (by omega)
 have hk2:decide ((T.cols.length:Int)≤T.key)=false:=decide_eq_false (by omega)
 simp[go_sem,hk1,hk2]
 refine wVC_pure hcj Tryz.callB53 (args_eq (by simp[go_sem]) rfl) rfl ?_
 simp[go_sem]
 refine wVW_while (S:=Nat×List UInt8×List UInt8) [1,3,6,7,8,52,53,54] (fun u=> [.int .i64 j,.ptr 0 0,.str u.2.1,.str u.2.2,.ptr 1 0,.sl .ro (L.map GExpr.row),.int .i64 L.length,.int .i64 u.1])
  (fun _=> [.box [.sl .ro regs,.sl .ro (ts.map GTable.row)],.box T.row]) (fun u=>L.length - u.1)
  (fun u=>u.1≤L.length∧cutsF ts.length j C.name (L.drop u.1) u.2=cutsF ts.length j C.name L A) hc hb (0,A) ⟨Nat.zero_le _,rfl⟩ ?_ ?_
 ·exact at_pick [0,2] (by decide) rfl ⟨by simp[go_sem,renOb,renC,renK],by simp[go_sem,renOb,renC,renK],trivial⟩
   ⟨argS_no rfl,.inl (by simp[go_sem,renS,renA,renC,renK,ren]),argS_no rfl,argS_no rfl,.inl (by simp[go_sem,renS,renA,renC,renK,ren]),argS_ro,argS_no rfl,argS_no rfl,trivial⟩
 rintro⟨i,b⟩ ⟨hi,hinv⟩
 simp only at hi hinv
 by_cases q:i<L.length
 rotate_left
 ·rw[List.drop_eq_nil_of_le (by omega)]at hinv
  have hbb:b=cutsF ts.length j C.name L A:=hinv
  rw[←hbb]at hM
  refine wVW_code ?_
  simp[go_sem,q]
  exact ret (b.1,maxS b.2 b.1) _ hM
 have ei:=i64_inc q (by unfold maxLen at hl;omega)
 obtain⟨x,hx⟩: ∃x,L[i]=x:=⟨_,rfl⟩
 have hxm:x∈L:=hx▸List.getElem_mem q
 rw[List.drop_eq_getElem_cons q,hx]at hinv
 have hag:=against_w x C.name
 have hvx:=hv x hxm C.name
 have hrow:=GExpr.row_eq x
 refine wVW_code ?_
 simp[go_sem,q,hx]
 refine wdraw [(8,0),(15,3)] 3 (by simp) (by kernel_rfl) (by kernel_rfl) ?_
 have hCq:T.cols[m]? =some C:=by rw[List.getElem?_eq_getElem hmc,hC]
 simp[go_sem,hm,hCq]
 refine wneed_i hmc ?_
 simp[go_sem]
 refine wVD_pure hag Tryz.callB54 (fun _=>args_eq (by simp[go_sem]) (by rw[GExpr.row_eq];rfl)) (cutV_no _) ?_
 cases ha:against x C.name with
 |none=>
  simp only[cutsF,List.foldl_cons,ha]at hinv
  simp[go_sem,cutV,noCut,ei]
  refine next_i (i+1,b) ⟨by simp only;omega,⟨by simp only;omega,hinv⟩, ?_⟩
  exact at_n 2 (by simp[go_sem,hm]) rfl (by rfl) (Nat.zero_le _) (args_lt_eq (by simp[go_sem]) rfl)
 |some p=>
  obtain⟨s,v⟩:=p
  have hvo:=hvx s v ha
  have hbd:=BoundA_w regs (ts.map GTable.row) j v (by simpa using hn) hvo
  simp only[List.length_map]at hbd
  simp only[cutsF,List.foldl_cons,ha]at hinv
  obtain⟨B,hB⟩: ∃B,boundF ts.length j v=B:=⟨_,rfl⟩
  have hBl:B.length≤9223372036854775806:=by
   have:=keyF_140 v
   rw[←hB];unfold boundF;rw[if_pos h];simp only[List.length_cons];omega
  rw[hB]at hbd
  simp[go_sem,cutV]
  refine wVC_pure hbd Tryz.callB55 (args_eq (by simp[go_sem]) rfl) rfl ?_
  simp[go_sem]
  refine wneed_i hBl ?_
  simp[go_sem]
  have fin: ∀b',cutF B s b=b'→cutsF ts.length j C.name (L.drop (i+1)) b'=cutsF ts.length j C.name L A:=fun b' h=>by rw[←h,←hB];exact hinv
  repeat' (first|(refine wcond_i (fun q=> ?_) (fun q=> ?_)<;>simp[go_sem,q,ei]))
  all_goals simp only[beq_iff_eq,beq_eq_false_iff_ne]at*
  all_goals refine next_i (i+1,cutF B s b) ⟨by simp only;omega,⟨by simp only;omega,fin _ rfl⟩, ?_⟩
  all_goals refine at_n 2 (by simp[go_sem,hm]) rfl (by rfl) (Nat.zero_le _) (args_lt_eq ?_ rfl)
  all_goals unfold cutF maxS minS
  all_goals simp[go_sem, *]
end Go.Proofs.YtajjjghohakniaaGreat
namespace Go.Proofs.YtajjjghohakniaaGreat
open Go Go.Vx R
set_option maxRecDepth 100000
theorem names_ok:(Tryz.prog.funcs.all fun fn=> !(fn.name== "runtime.NumGoroutine"))=true:=by kernel_rfl
theorem orders_ok:Tryz.prog.follows .mixedOrders=true:=by kernel_rfl
def marks (f:Nat):List Nat:=if f=134 then [7]else []
def zoneS:GZone:=⟨[1],[],[0,1],0,0,0⟩
def tabT:GTable:=⟨[84],[⟨[82],2,false⟩,⟨[75],2,false⟩,⟨[86],3,true⟩,⟨[78],2,true⟩],1,0,0,zoneS⟩
def tabG:GTable:=⟨[71],[⟨[75],3,false⟩,⟨[78],2,false⟩,⟨[66],1,true⟩],0,1,0,zoneS⟩
def tabH:GTable:=⟨[72],[⟨[66],1,false⟩,⟨[78],2,true⟩],0,2,1,zoneS⟩
def tabsS:List GTable:= [tabT,tabG,tabH]
def regsS:List (List V):= [[.int .i64 0],[.int .i64 0],[.int .i64 1],[.int .i64 1]]
def schS:V:= .agg [.sl .full regsS,.sl .full (tabsS.map GTable.row)]
def schR (ts:List GTable):V:= .agg [.sl .ro regsS,.sl .ro (ts.map GTable.row)]
theorem Schema_w:Pure Tryz.prog 10 [] schS:=pure_run names_ok orders_ok marks 10000 (by kernel_rfl)
theorem schS_arg {ρ:Nat→Nat}:argS ρ (schR tabsS) schS:=argS_agg ⟨argC_ro,argC_ro,trivial⟩
def rangeS (t r:Int):Int×Int:=if t=0 then(if r=0 then(0,0)else if r=1 then(1,0)else(0,19))else if t=1 then(2,0)else if t=2 then(3,0)else(0,1)
def rangeV (p:Int×Int):V:= .tup [.int .i64 p.1,.int .i64 p.2]
theorem Range_at (t r:Int) (h:t=0∨t=1∨t=2) (hr:r= -1∨r=0∨r=1∨r=2∨r=3∨r=4):Pure Tryz.prog 34 [schR tabsS,.int .i64 t,.int .i64 r] (rangeV (rangeS t r)):=by
 rcases h with rfl|rfl|rfl<;>rcases hr with rfl|rfl|rfl|rfl|rfl|rfl<;>exact pure_run names_ok orders_ok marks 10000 (by kernel_rfl)
theorem Range_pre (j:Nat) (hj:j<3):Pure Tryz.prog 34 [schR (tabsS.take (j+1)),.int .i64 j,.int .i64 0] (rangeV (rangeS j 0)):=by
 match j,hj with
 |0,_=>exact pure_run names_ok orders_ok marks 10000 (by kernel_rfl)
 |1,_=>exact pure_run names_ok orders_ok marks 10000 (by kernel_rfl)
 |2,_=>exact pure_run names_ok orders_ok marks 10000 (by kernel_rfl)
def ofS (r:Int):Int×Int×Int:=if r=0 then(0,0,0)else if r=1 then(0,1,0)else if r=2 then(1,-1,0)else if r=3 then(2,1,0)else(0,0,1)
def ofV (p:Int×Int×Int):V:= .tup [.int .i64 p.1,.int .i64 p.2.1,.int .i64 p.2.2]
theorem least_w:Pure Tryz.prog 58 [schR tabsS] (.int .i64 0):=pure_run names_ok orders_ok marks 10000 (by kernel_rfl)
end Go.Proofs.YtajjjghohakniaaGreat
namespace Go.Proofs.YtajjjghohakniaaGreat
open Go Go.Vx R
set_option maxRecDepth 100000
theorem regions_w:Pure Tryz.prog 84 [schR tabsS] (.sl .ro [[.int .i64 0],[.int .i64 1]]):=
 VCalls.frz (calls_run names_ok orders_ok marks 10000 (v:= .lsv 1 1 4 0 2) (σ':= [.box [.sl .ro regsS,.sl .ro (tabsS.map GTable.row)],.lst [[.int .i64 0],[.int .i64 1],[.int .i64 0],[.int .i64 0]] 1]) (by kernel_rfl))
  (fun r s ⟨h1,h2⟩=>by subst h1;subst h2;exact⟨_,_,.step 1 1 [[.int .i64 0],[.int .i64 1],[.int .i64 0],[.int .i64 0]] rfl rfl (.refl _ _),argS_ro⟩)
def manyS (t:Nat):Int:=if t=0 then 2 else 1
theorem many_w (j:Nat) (hj:j<3):Pure Tryz.prog 110 [schR tabsS,.agg (tabsS[j]'hj).row] (.int .i64 (manyS j)):=by
 match j,hj with
 |0,_=>exact pure_run names_ok orders_ok marks 10000 (by kernel_rfl)
 |1,_=>exact pure_run names_ok orders_ok marks 10000 (by kernel_rfl)
 |2,_=>exact pure_run names_ok orders_ok marks 10000 (by kernel_rfl)
theorem of_ret {M:Int×Int×Int} {a b e:Int} {σ:St} (h:(a,b,e)=M):wret (some (.tup [.int .i64 a,.int .i64 b,.int .i64 e])) 0 (fun r s=>r=ofV M∧s= []) σ:=by subst h;exact wret_0 (argS_no rfl) ⟨rfl,rfl⟩
set_option maxHeartbeats 4000000 in
theorem Of_w (g:Nat) (hg:g<5):Pure Tryz.prog 59 [schR tabsS,.int .i64 g] (ofV (ofS g)):=by
 have hm0:=many_w 0 (by decide)
 have hm1:=many_w 1 (by decide)
 have hm2:=many_w 2 (by decide)
 have hr:=regions_w
 generalize hM:ofS g=M
 refine VCalls.introV 0 Tryz.func59 Tryz.ntmps59 Tryz.results59 rfl rfl (Nat.le_of_ble_eq_true rfl) fun c hc hb=> ?_
 refine wVW_code ?_
 simp[go_sem,schR]
 have h0:decide ((g:Int)<0)=false:=decide_eq_false (by omega)
 simp[go_sem,h0]
 refine wVW_while (S:=Nat×Nat) [1,2,13,14,15] (fun u=> [.int .i64 u.2,.ptr 0 0,.sl .ro (tabsS.map GTable.row),.int .i64 3,.int .i64 u.1]) (fun _=> [.box [.sl .ro regsS,.sl .ro (tabsS.map GTable.row)]]) (fun u=>3 - u.1)
  (fun u=>(u.1=0∧u.2=g)∨(u.1=1∧u.2+2=g)∨(u.1=2∧u.2+3=g)∨(u.1=3∧u.2+4=g)) hc hb (0,g) (.inl ⟨rfl,rfl⟩) ?_ ?_
 ·exact at_n 1 (by simp[go_sem]) rfl (by rfl) (Nat.zero_le _) (args_lt_eq (by simp[go_sem];rfl) rfl)
 rintro⟨i,r⟩ h
 simp only at h
 refine h.elim (fun⟨h1,h2⟩=> ?_) fun h=>h.elim (fun⟨h1,h2⟩=> ?_) fun h=>h.elim (fun⟨h1,h2⟩=> ?_) fun⟨h1,h2⟩=> ?_
 ·subst h1
  refine wVW_code ?_
  simp[go_sem,tabsS]
  refine wVC_pure hm0 Tryz.callB110 (args_eq (by simp[go_sem,schR,tabsS]) rfl) rfl ?_
  simp[go_sem,manyS]
  by_cases q:2≤r
  ·have q':decide ((2:Int)≤r)=true:=decide_eq_true (by omega)
   have e:IntKind.i64.wrap ((r:Int) - 2)=((r - 2:Nat):Int):=by rw[i64_id (by omega) (by omega)];omega
   simp[go_sem,q',e]
   exact next_i (1,r - 2) ⟨by simp only;omega,.inr (.inl ⟨rfl,by simp only;omega⟩),at_n 1 (by simp[go_sem,tabsS]) rfl (by rfl) (Nat.zero_le _) (args_lt_eq (by simp[go_sem,tabsS]) rfl)⟩
  ·have q':decide ((2:Int)≤r)=false:=decide_eq_false (by omega)
   simp[go_sem,q',show tabT.place=0 from rfl]
   refine wdraw [(2,0)] 2 (by simp) (by kernel_rfl) (by kernel_rfl) ?_
   simp[go_sem]
   refine wVD_pure hr Tryz.callB84 (fun _=>args_eq (by simp[go_sem,schR,tabsS,show tabT.place=0 from rfl]) rfl) rfl ?_
   have h01:r=0∨r=1:=by omega
   refine h01.elim (fun e=> ?_) (fun e=> ?_)
   all_goals subst e
   all_goals simp[go_sem]
   all_goals exact of_ret (by rw[←hM,←h2];rfl)
 ·subst h1
  refine wVW_code ?_
  simp[go_sem,tabsS]
  refine wVC_pure hm1 Tryz.callB110 (args_eq (by simp[go_sem,schR,tabsS]) rfl) rfl ?_
  simp[go_sem,manyS]
  by_cases q:1≤r
  ·have q':decide ((1:Int)≤r)=true:=decide_eq_true (by omega)
   have e:IntKind.i64.wrap ((r:Int) - 1)=((r - 1:Nat):Int):=by rw[i64_id (by omega) (by omega)];omega
   simp[go_sem,q',e]
   exact next_i (2,r - 1) ⟨by simp only;omega,.inr (.inr (.inl ⟨rfl,by simp only;omega⟩)),at_n 1 (by simp[go_sem,tabsS]) rfl (by rfl) (Nat.zero_le _) (args_lt_eq (by simp[go_sem,tabsS]) rfl)⟩
  ·have q':decide ((1:Int)≤r)=false:=decide_eq_false (by omega)
   simp[go_sem,q',show tabG.place=1 from rfl]
   have h01:r=0:=by omega
   subst h01
   exact of_ret (by rw[←hM,←h2];rfl)
 ·subst h1
  refine wVW_code ?_
  simp[go_sem,tabsS]
  refine wVC_pure hm2 Tryz.callB110 (args_eq (by simp[go_sem,schR,tabsS]) rfl) rfl ?_
  simp[go_sem,manyS]
  by_cases q:1≤r
  ·have q':decide ((1:Int)≤r)=true:=decide_eq_true (by omega)
   have e:IntKind.i64.wrap ((r:Int) - 1)=((r - 1:Nat):Int):=by rw[i64_id (by omega) (by omega)];omega
   simp[go_sem,q',e]
   exact next_i (3,r - 1) ⟨by simp only;omega,.inr (.inr (.inr ⟨rfl,by simp only;omega⟩)),at_n 1 (by simp[go_sem,tabsS]) rfl (by rfl) (Nat.zero_le _) (args_lt_eq (by simp[go_sem,tabsS]) rfl)⟩
  ·have q':decide ((1:Int)≤r)=false:=decide_eq_false (by omega)
   have h01:r=0:=by omega
   subst h01
   simp[go_sem,q',show tabH.place=2 from rfl]
   refine wdraw [] 2 (by simp) (by kernel_rfl) (by kernel_rfl) ?_
   simp[go_sem]
   exact of_ret (by rw[←hM,←h2];rfl)
 ·subst h1
  refine wVW_code ?_
  simp[go_sem,tabsS]
  exact of_ret (by
    rw[←hM];have:r=0:=by omega
    subst this;rw[←h2];rfl)
end Go.Proofs.YtajjjghohakniaaGreat
